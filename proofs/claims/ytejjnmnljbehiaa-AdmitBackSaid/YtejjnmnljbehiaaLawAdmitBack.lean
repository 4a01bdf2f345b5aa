/- The law AdmitBack: its row, out of its triple. -/
import Derived.Test.YtejjnmnljbehiaaRows
import Derived.Test.YtejjnmnljbehiaaAdm7
import Derived.WalkKit
import Derived.ProofKit
import Derived.OpenShut
import Derived.JoinedCond
namespace Go.Proofs.Ytejjnmnljbehiaa.admitBack
open Go.ChangeShapes Go.WideShapes Go.ChangeAt Go.RowKit Go.Gh
open Go.ChangeMaps (open_string shut_string)
set_option linter.unusedVariables false
set_option linter.unusedSimpArgs false
theorem own : ownKnob Try.prog.godebug = none := by kernel_rfl
theorem laid : laidOutB Try.prog = true := by kernel_rfl
theorem room : roomG Try.prog = true := by kernel_rfl
theorem walk (H : Type) (enc : TypeId × Value → H) (W : World) (base : Nat) (args : Array Value) (ds : List (DataW H)) (before : List MemPlace) (hG : Try.prog.globals.size ≤ W.heap.size)
    (hval : ∀ (j : Nat) t v, Try.f15.params[j]? = some t → args[j]? = some v → Value.okWide Try.prog W .any base t v)
    (hA : DataW.TrodAll enc Try.prog W 0 (fun _ => true) true Try.f15.params.toList args.toList ds before)
    (hsz : (DataW.weightsEach Try.prog (Try.f15.params.toList ++ Rows.admitBackSpec.plain.varTypes Try.prog) (ds ++ [])).all (· ≤ reachBytes) = true) :
    Calls Try.prog 15 args W fun e W' => e = .returned (.bool true) ∧ Below W.heap.size W W' := by
  rw [Try.params15] at hA hval hsz
  obtain ⟨v0, vs0, d0, ds0, p0, q0, hargs, rfl, rfl, h0, r0⟩ := trodAll_cons hA
  obtain ⟨v1, vs1, d1, ds1, p1, q1, rfl, rfl, rfl, h1, r1⟩ := trodAll_cons r0
  obtain ⟨rfl, rfl, rfl⟩ := trodAll_nil r1
  obtain rfl : args = #[v0, v1] := by cases args; simp_all
  clear hA
  have k0 := hval 0 23 v0 rfl rfl
  have k1 := hval 1 29 v1 rfl rfl
  refine GTri.calls hG gf15 ?_
  obtain ⟨_, hsz⟩ := wts_cons hsz
  obtain ⟨w1, hsz⟩ := wts_cons hsz
  obtain ⟨ns, hl, rfl, hw⟩ := arg_ints (k := .i64) (n := 8) (by kernel_rfl) h0 k0
  obtain ⟨l1, a1, c1, e1, R1, _, _, L1⟩ := arg_bs (by kernel_rfl) h1 k1
  match ns, hl with
  | [x0, x1, x2, x3, x4, x5, x6, x7], _ =>
    have := c_AdmitBack W.heap.size (Gh.h0 W) R1 (L1 w1) ⟨x0, x1, x2, x3, x4, x5, x6, x7⟩
    simp only [List.map, up_ints, e1]
    exact this
set_option maxRecDepth 100000 in
theorem lifted (os : Os) (started : os.Started) (H : Type) (enc : TypeId × Value → H) :
    ReturnsInHanded {} Try.checked os 15 .any (Rows.admitBackSpec.pre6 enc Try.prog Try.f15 Rows.admitBackRow.domain false) (Rows.admitBackSpec.post enc Try.prog Try.f15 false true false false) :=
  lift_said (C := Try.checked) (s := Rows.admitBackSpec) laid room (by kernel_rfl) rfl Try.underlying4 rfl (fun ds h => by match ds, h with | [d0, d1], _ => rfl) own started (by kernel_rfl) Try.func15
    (ChangeSpec.witness6 (enc := enc) (C := Try.checked) false ⟨#[], #[.agg #[.int .i64 0, .int .i64 0, .int .i64 0, .int .i64 0, .int .i64 0, .int .i64 0, .int .i64 0, .int .i64 0], .slice none 0 0], []⟩ 8 (by kernel_rfl) (by kernel_rfl) (by kernel_rfl) (by kernel_rfl))
    (walk H enc)
theorem over : Rows.admitBackRow.holds Try.pinned (OpenSpec.ofChange Rows.admitBackSpec) :=
  OpenClaim.holds_of_wide 15 Try.f15 rfl rfl rfl rfl rfl rfl rfl ⟨rfl, rfl, rfl, rfl, rfl⟩ rfl rfl rfl rfl rfl (by kernel_rfl) Try.func15 (by kernel_rfl)
    (of_decide_eq_true (by kernel_rfl)) (by unfold Func.isWrapper; first | (rw [if_pos (by decide +kernel)]; kernel_rfl) | (rw [if_neg (by decide +kernel)]; exact ⟨rfl, rfl⟩))
    (fun os started H enc _ => lifted os started H enc)
theorem proved : Rows.AdmitBackSaid := over
end Go.Proofs.Ytejjnmnljbehiaa.admitBack
namespace Go.Proofs.Ytejjnmnljbehiaa
/-- The row, under a short name, for the claim. -/
theorem admitBack_holds : Rows.AdmitBackSaid := admitBack.proved
#print axioms admitBack_holds
end Go.Proofs.Ytejjnmnljbehiaa
