/- The law IdealStays: its row, out of its triple. -/
import Derived.Test.YtbaikgnddebkjaaRows
import Derived.Test.YtbaikgnddebkjaaP13
import Derived.WalkKit
import Derived.ProofKit
import Derived.OpenShut
import Derived.JoinedCond
namespace Go.Proofs.Ytbaikgnddebkjaa.idealStays
open Go.ChangeShapes Go.WideShapes Go.ChangeAt Go.RowKit Go.Gh
open Go.ChangeMaps (open_string shut_string)
set_option linter.unusedVariables false
set_option linter.unusedSimpArgs false
theorem own : ownKnob Try.prog.godebug = none := by kernel_rfl
theorem laid : laidOutB Try.prog = true := by kernel_rfl
theorem room : roomG Try.prog = true := by kernel_rfl
set_option maxRecDepth 100000 in
theorem walk (H : Type) (enc : TypeId × Value → H) (W : World) (base : Nat) (args : Array Value) (ds : List (DataW H)) (before : List MemPlace) (hG : Try.prog.globals.size ≤ W.heap.size)
    (hval : ∀ (j : Nat) t v, Try.f7.params[j]? = some t → args[j]? = some v → Value.okWide Try.prog W .any base t v)
    (hA : DataW.TrodAll enc Try.prog W 0 (fun _ => true) true Try.f7.params.toList args.toList ds before)
    (hsz : (DataW.weightsEach Try.prog (Try.f7.params.toList ++ Rows.idealStaysSpec.plain.varTypes Try.prog) (ds ++ [])).all (· ≤ reachBytes) = true) :
    Calls Try.prog 7 args W fun e W' => e = .returned (.bool true) ∧ Go.RowKit.Below W.heap.size W W' := by
  rw [Try.params7] at hA hval hsz
  obtain ⟨v0, vs0, d0, ds0, p0, q0, hargs, rfl, rfl, h0, r0⟩ := trodAll_cons hA
  obtain ⟨v1, vs1, d1, ds1, p1, q1, rfl, rfl, rfl, h1, r1⟩ := trodAll_cons r0
  obtain ⟨v2, vs2, d2, ds2, p2, q2, rfl, rfl, rfl, h2, r2⟩ := trodAll_cons r1
  obtain ⟨rfl, rfl, rfl⟩ := trodAll_nil r2
  obtain rfl : args = #[v0, v1, v2] := by cases args; simp_all
  clear hA
  have k0 := hval 0 22 v0 rfl rfl
  have k1 := hval 1 62 v1 rfl rfl
  have k2 := hval 2 23 v2 rfl rfl
  refine GTri.calls hG gf7 ?_
  obtain ⟨w0, hsz⟩ := wts_cons hsz
  obtain ⟨w1, hsz⟩ := wts_cons hsz
  obtain ⟨w2, hsz⟩ := wts_cons hsz
  obtain ⟨l, a0, c0, e0, R0, f0⟩ := arg_bats h0 k0
  obtain ⟨q, ai, ab, ci, cb, e1, R1, R2, f1, wq⟩ := arg_ask h1 k1
  obtain ⟨b, a2, c2, e2, R3, f2⟩ := arg_bat h2 k2
  simp only [List.map, e0, e1, e2]
  exact c_IdealStays W.heap.size (Gh.h0 W) R0 (f0 w0).1 (f0 w0).2 q R1 (f1 w1).1 R3 (f2 w2)
set_option maxRecDepth 100000 in
theorem lifted (os : Os) (started : os.Started) (H : Type) (enc : TypeId × Value → H) :
    ReturnsInHanded {} Try.checked os 7 .any (Rows.idealStaysSpec.pre6 enc Try.prog Try.f7 Rows.idealStaysRow.domain false) (Rows.idealStaysSpec.post enc Try.prog Try.f7 false true false false) :=
  lift_said (C := Try.checked) (s := Rows.idealStaysSpec) laid room (by kernel_rfl) rfl Try.underlying4 rfl (fun ds h => by match ds, h with | [d0, d1, d2], _ => rfl) own started (by kernel_rfl) Try.func7
    (ChangeSpec.witness6 (enc := enc) (C := Try.checked) false ⟨#[], #[.slice none 0 0, .agg #[.int .i64 0, .slice none 0 0, .int .i64 0, .int .i64 0, .int .i64 0, .bool false, .int .i64 0, .int .i64 0, .int .i64 0, .slice none 0 0], .slice none 0 0], []⟩ 8 (by kernel_rfl) (by kernel_rfl) (by kernel_rfl) (by kernel_rfl))
    (walk H enc)
theorem over : Rows.idealStaysRow.holds Try.pinned (OpenSpec.ofChange Rows.idealStaysSpec) :=
  OpenClaim.holds_of_wide 7 Try.f7 rfl rfl rfl rfl rfl rfl rfl ⟨rfl, rfl, rfl, rfl, rfl⟩ rfl rfl rfl rfl rfl (by kernel_rfl) Try.func7 (by kernel_rfl)
    (of_decide_eq_true (by kernel_rfl)) (by unfold Func.isWrapper; first | (rw [if_pos (by decide +kernel)]; kernel_rfl) | (rw [if_neg (by decide +kernel)]; exact ⟨rfl, rfl⟩))
    (fun os started H enc _ => lifted os started H enc)
theorem proved : Rows.IdealStaysSaid := over
end Go.Proofs.Ytbaikgnddebkjaa.idealStays
namespace Go.Proofs.Ytbaikgnddebkjaa
/-- The row, under a short name, for the claim. -/
theorem idealStays_holds : Rows.IdealStaysSaid := idealStays.proved
#print axioms idealStays_holds
end Go.Proofs.Ytbaikgnddebkjaa
