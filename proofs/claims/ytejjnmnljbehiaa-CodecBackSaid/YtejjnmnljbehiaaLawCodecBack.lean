/- The law CodecBack: its row, out of its triple. -/
import Derived.Test.YtejjnmnljbehiaaRows
import Derived.Test.YtejjnmnljbehiaaCod9
import Derived.WalkKit
import Derived.ProofKit
import Derived.OpenShut
import Derived.JoinedCond
namespace Go.Proofs.Ytejjnmnljbehiaa.codecBack
open Go.ChangeShapes Go.WideShapes Go.ChangeAt Go.RowKit Go.Gh
open Go.ChangeMaps (open_string shut_string)
set_option linter.unusedVariables false
set_option linter.unusedSimpArgs false
theorem own : ownKnob Try.prog.godebug = none := by kernel_rfl
theorem laid : laidOutB Try.prog = true := by kernel_rfl
theorem room : roomG Try.prog = true := by kernel_rfl
theorem walk (H : Type) (enc : TypeId × Value → H) (W : World) (base : Nat) (args : Array Value) (ds : List (DataW H)) (before : List MemPlace) (hG : Try.prog.globals.size ≤ W.heap.size)
    (hval : ∀ (j : Nat) t v, Try.f12.params[j]? = some t → args[j]? = some v → Value.okWide Try.prog W .any base t v)
    (hA : DataW.TrodAll enc Try.prog W 0 (fun _ => true) true Try.f12.params.toList args.toList ds before)
    (hsz : (DataW.weightsEach Try.prog (Try.f12.params.toList ++ Rows.codecBackSpec.plain.varTypes Try.prog) (ds ++ [])).all (· ≤ reachBytes) = true) :
    Calls Try.prog 12 args W fun e W' => e = .returned (.bool true) ∧ Below W.heap.size W W' := by
  rw [Try.params12] at hA hval hsz
  obtain ⟨v0, vs0, d0, ds0, p0, q0, hargs, rfl, rfl, h0, r0⟩ := trodAll_cons hA
  obtain ⟨v1, vs1, d1, ds1, p1, q1, rfl, rfl, rfl, h1, r1⟩ := trodAll_cons r0
  obtain ⟨v2, vs2, d2, ds2, p2, q2, rfl, rfl, rfl, h2, r2⟩ := trodAll_cons r1
  obtain ⟨v3, vs3, d3, ds3, p3, q3, rfl, rfl, rfl, h3, r3⟩ := trodAll_cons r2
  obtain ⟨rfl, rfl, rfl⟩ := trodAll_nil r3
  obtain rfl : args = #[v0, v1, v2, v3] := by cases args; simp_all
  clear hA
  have k0 := hval 0 3 v0 rfl rfl
  have k1 := hval 1 29 v1 rfl rfl
  have k2 := hval 2 4 v2 rfl rfl
  have k3 := hval 3 29 v3 rfl rfl
  refine GTri.calls hG gf12 ?_
  obtain ⟨_, hsz⟩ := wts_cons hsz
  obtain ⟨w1, hsz⟩ := wts_cons hsz
  obtain ⟨_, hsz⟩ := wts_cons hsz
  obtain ⟨w3, hsz⟩ := wts_cons hsz
  obtain ⟨i, rfl, rfl, rfl, wi⟩ := open_int Try.underlying3 k0 h0
  obtain ⟨l1, a1, c1, e1, R1, _, _, _⟩ := arg_bs (by kernel_rfl) h1 k1
  obtain ⟨y, rfl, rfl, rfl⟩ := open_bool Try.underlying4 k2 h2
  obtain ⟨l2, a2, c2, e2, R2, _, _, L2⟩ := arg_bs (by kernel_rfl) h3 k3
  simp only [List.map, e1, e2]
  exact c_CodecBack W.heap.size (Gh.h0 W) R1 R2 (L2 w3) i y
set_option maxRecDepth 100000 in
theorem lifted (os : Os) (started : os.Started) (H : Type) (enc : TypeId × Value → H) :
    ReturnsInHanded {} Try.checked os 12 .any (Rows.codecBackSpec.pre6 enc Try.prog Try.f12 Rows.codecBackRow.domain false) (Rows.codecBackSpec.post enc Try.prog Try.f12 false true false false) :=
  lift_said (C := Try.checked) (s := Rows.codecBackSpec) laid room (by kernel_rfl) rfl Try.underlying4 rfl (fun ds h => by match ds, h with | [d0, d1, d2, d3], _ => rfl) own started (by kernel_rfl) Try.func12
    (ChangeSpec.witness6 (enc := enc) (C := Try.checked) false ⟨#[], #[.int .i64 0, .slice none 0 0, .bool false, .slice none 0 0], []⟩ 8 (by kernel_rfl) (by kernel_rfl) (by kernel_rfl) (by kernel_rfl))
    (walk H enc)
theorem over : Rows.codecBackRow.holds Try.pinned (OpenSpec.ofChange Rows.codecBackSpec) :=
  OpenClaim.holds_of_wide 12 Try.f12 rfl rfl rfl rfl rfl rfl rfl ⟨rfl, rfl, rfl, rfl, rfl⟩ rfl rfl rfl rfl rfl (by kernel_rfl) Try.func12 (by kernel_rfl)
    (of_decide_eq_true (by kernel_rfl)) (by unfold Func.isWrapper; first | (rw [if_pos (by decide +kernel)]; kernel_rfl) | (rw [if_neg (by decide +kernel)]; exact ⟨rfl, rfl⟩))
    (fun os started H enc _ => lifted os started H enc)
theorem proved : Rows.CodecBackSaid := over
end Go.Proofs.Ytejjnmnljbehiaa.codecBack
namespace Go.Proofs.Ytejjnmnljbehiaa
/-- The row, under a short name, for the claim. -/
theorem codecBack_holds : Rows.CodecBackSaid := codecBack.proved
#print axioms codecBack_holds
end Go.Proofs.Ytejjnmnljbehiaa
