/- The law IdealDiffs: its row, out of its triple. -/
import Derived.Test.YtbaikgnddebkjaaRows
import Derived.Test.YtbaikgnddebkjaaP13
import Derived.WalkKit
import Derived.ProofKit
import Derived.OpenShut
import Derived.JoinedCond
namespace Go.Proofs.Ytbaikgnddebkjaa.idealDiffs
open Go.ChangeShapes Go.WideShapes Go.ChangeAt Go.RowKit Go.Gh
open Go.ChangeMaps (open_string shut_string)
set_option linter.unusedVariables false
set_option linter.unusedSimpArgs false
theorem own : ownKnob Try.prog.godebug = none := by kernel_rfl
theorem laid : laidOutB Try.prog = true := by kernel_rfl
theorem room : roomG Try.prog = true := by kernel_rfl
set_option maxRecDepth 100000 in
theorem walk (H : Type) (enc : TypeId × Value → H) (W : World) (base : Nat) (args : Array Value) (ds : List (DataW H)) (before : List MemPlace) (hG : Try.prog.globals.size ≤ W.heap.size)
    (hval : ∀ (j : Nat) t v, Try.f10.params[j]? = some t → args[j]? = some v → Value.okWide Try.prog W .any base t v)
    (hA : DataW.TrodAll enc Try.prog W 0 (fun _ => true) true Try.f10.params.toList args.toList ds before)
    (hsz : (DataW.weightsEach Try.prog (Try.f10.params.toList ++ Rows.idealDiffsSpec.plain.varTypes Try.prog) (ds ++ [])).all (· ≤ reachBytes) = true) :
    Calls Try.prog 10 args W fun e W' => e = .returned (.bool true) ∧ Go.RowKit.Below W.heap.size W W' := by
  rw [Try.params10] at hA hval hsz
  obtain ⟨v0, vs0, d0, ds0, p0, q0, hargs, rfl, rfl, h0, r0⟩ := trodAll_cons hA
  obtain ⟨v1, vs1, d1, ds1, p1, q1, rfl, rfl, rfl, h1, r1⟩ := trodAll_cons r0
  obtain ⟨v2, vs2, d2, ds2, p2, q2, rfl, rfl, rfl, h2, r2⟩ := trodAll_cons r1
  obtain ⟨v3, vs3, d3, ds3, p3, q3, rfl, rfl, rfl, h3, r3⟩ := trodAll_cons r2
  obtain ⟨rfl, rfl, rfl⟩ := trodAll_nil r3
  obtain rfl : args = #[v0, v1, v2, v3] := by cases args; simp_all
  clear hA
  have k0 := hval 0 22 v0 rfl rfl
  have k1 := hval 1 3 v1 rfl rfl
  have k2 := hval 2 3 v2 rfl rfl
  have k3 := hval 3 3 v3 rfl rfl
  refine GTri.calls hG gf10 ?_
  obtain ⟨w0, hsz⟩ := wts_cons hsz
  obtain ⟨l, a0, c0, e0, R0, f0⟩ := arg_bats h0 k0
  obtain ⟨f, rfl, rfl, rfl, wf⟩ := open_int Try.underlying3 k1 h1
  obtain ⟨g, rfl, rfl, rfl, wg⟩ := open_int Try.underlying3 k2 h2
  obtain ⟨i, rfl, rfl, rfl, wi⟩ := open_int Try.underlying3 k3 h3
  simp only [List.map, e0]
  exact c_IdealDiffs W.heap.size (Gh.h0 W) R0 (f0 w0).1 (f0 w0).2 f g i
set_option maxRecDepth 100000 in
theorem lifted (os : Os) (started : os.Started) (H : Type) (enc : TypeId × Value → H) :
    ReturnsInHanded {} Try.checked os 10 .any (Rows.idealDiffsSpec.pre6 enc Try.prog Try.f10 Rows.idealDiffsRow.domain false) (Rows.idealDiffsSpec.post enc Try.prog Try.f10 false true false false) :=
  lift_said (C := Try.checked) (s := Rows.idealDiffsSpec) laid room (by kernel_rfl) rfl Try.underlying4 rfl (fun ds h => by match ds, h with | [d0, d1, d2, d3], _ => rfl) own started (by kernel_rfl) Try.func10
    (ChangeSpec.witness6 (enc := enc) (C := Try.checked) false ⟨#[], #[.slice none 0 0, .int .i64 0, .int .i64 0, .int .i64 0], []⟩ 8 (by kernel_rfl) (by kernel_rfl) (by kernel_rfl) (by kernel_rfl))
    (walk H enc)
theorem over : Rows.idealDiffsRow.holds Try.pinned (OpenSpec.ofChange Rows.idealDiffsSpec) :=
  OpenClaim.holds_of_wide 10 Try.f10 rfl rfl rfl rfl rfl rfl rfl ⟨rfl, rfl, rfl, rfl, rfl⟩ rfl rfl rfl rfl rfl (by kernel_rfl) Try.func10 (by kernel_rfl)
    (of_decide_eq_true (by kernel_rfl)) (by unfold Func.isWrapper; first | (rw [if_pos (by decide +kernel)]; kernel_rfl) | (rw [if_neg (by decide +kernel)]; exact ⟨rfl, rfl⟩))
    (fun os started H enc _ => lifted os started H enc)
theorem proved : Rows.IdealDiffsSaid := over
end Go.Proofs.Ytbaikgnddebkjaa.idealDiffs
namespace Go.Proofs.Ytbaikgnddebkjaa
/-- The row, under a short name, for the claim. -/
theorem idealDiffs_holds : Rows.IdealDiffsSaid := idealDiffs.proved
#print axioms idealDiffs_holds
end Go.Proofs.Ytbaikgnddebkjaa
