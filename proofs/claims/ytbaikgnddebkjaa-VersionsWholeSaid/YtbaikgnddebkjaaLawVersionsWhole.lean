/- The law VersionsWhole: its row, out of its triple. -/
import Derived.Test.YtbaikgnddebkjaaRows
import Derived.Test.YtbaikgnddebkjaaP10
import Derived.WalkKit
import Derived.ProofKit
import Derived.OpenShut
import Derived.JoinedCond
namespace Go.Proofs.Ytbaikgnddebkjaa.versionsWhole
open Go.ChangeShapes Go.WideShapes Go.ChangeAt Go.RowKit Go.Gh
open Go.ChangeMaps (open_string shut_string)
set_option linter.unusedVariables false
set_option linter.unusedSimpArgs false
theorem own : ownKnob Try.prog.godebug = none := by kernel_rfl
theorem laid : laidOutB Try.prog = true := by kernel_rfl
theorem room : roomG Try.prog = true := by kernel_rfl
set_option maxRecDepth 100000 in
theorem walk (H : Type) (enc : TypeId × Value → H) (W : World) (base : Nat) (args : Array Value) (ds : List (DataW H)) (before : List MemPlace) (hG : Try.prog.globals.size ≤ W.heap.size)
    (hval : ∀ (j : Nat) t v, Try.f6.params[j]? = some t → args[j]? = some v → Value.okWide Try.prog W .any base t v)
    (hA : DataW.TrodAll enc Try.prog W 0 (fun _ => true) true Try.f6.params.toList args.toList ds before)
    (hsz : (DataW.weightsEach Try.prog (Try.f6.params.toList ++ Rows.versionsWholeSpec.plain.varTypes Try.prog) (ds ++ [])).all (· ≤ reachBytes) = true) :
    Calls Try.prog 6 args W fun e W' => e = .returned (.bool true) ∧ Go.RowKit.Below W.heap.size W W' := by
  rw [Try.params6] at hA hval hsz
  obtain ⟨v0, vs0, d0, ds0, p0, q0, hargs, rfl, rfl, h0, r0⟩ := trodAll_cons hA
  obtain ⟨v1, vs1, d1, ds1, p1, q1, rfl, rfl, rfl, h1, r1⟩ := trodAll_cons r0
  obtain ⟨rfl, rfl, rfl⟩ := trodAll_nil r1
  obtain rfl : args = #[v0, v1] := by cases args; simp_all
  clear hA
  have k0 := hval 0 22 v0 rfl rfl
  have k1 := hval 1 26 v1 rfl rfl
  refine GTri.calls hG gf6 ?_
  obtain ⟨w0, hsz⟩ := wts_cons hsz
  obtain ⟨l, a0, c0, e0, R0, f0⟩ := arg_bats h0 k0
  obtain ⟨id, f, t, a2, c2, e2, R2⟩ := arg_q h1 k1
  simp only [List.map, e0, e2]
  exact c_VersionsWhole W.heap.size (Gh.h0 W) f t R0 R2 (f0 w0).1 (f0 w0).2
set_option maxRecDepth 100000 in
theorem lifted (os : Os) (started : os.Started) (H : Type) (enc : TypeId × Value → H) :
    ReturnsInHanded {} Try.checked os 6 .any (Rows.versionsWholeSpec.pre6 enc Try.prog Try.f6 Rows.versionsWholeRow.domain false) (Rows.versionsWholeSpec.post enc Try.prog Try.f6 false true false false) :=
  lift_said (C := Try.checked) (s := Rows.versionsWholeSpec) laid room (by kernel_rfl) rfl Try.underlying4 rfl (fun ds h => by match ds, h with | [d0, d1], _ => rfl) own started (by kernel_rfl) Try.func6
    (ChangeSpec.witness6 (enc := enc) (C := Try.checked) false ⟨#[], #[.slice none 0 0, .agg #[.slice none 0 0, .int .i64 0, .int .i64 0]], []⟩ 8 (by kernel_rfl) (by kernel_rfl) (by kernel_rfl) (by kernel_rfl))
    (walk H enc)
theorem over : Rows.versionsWholeRow.holds Try.pinned (OpenSpec.ofChange Rows.versionsWholeSpec) :=
  OpenClaim.holds_of_wide 6 Try.f6 rfl rfl rfl rfl rfl rfl rfl ⟨rfl, rfl, rfl, rfl, rfl⟩ rfl rfl rfl rfl rfl (by kernel_rfl) Try.func6 (by kernel_rfl)
    (of_decide_eq_true (by kernel_rfl)) (by unfold Func.isWrapper; first | (rw [if_pos (by decide +kernel)]; kernel_rfl) | (rw [if_neg (by decide +kernel)]; exact ⟨rfl, rfl⟩))
    (fun os started H enc _ => lifted os started H enc)
theorem proved : Rows.VersionsWholeSaid := over
end Go.Proofs.Ytbaikgnddebkjaa.versionsWhole
namespace Go.Proofs.Ytbaikgnddebkjaa
/-- The row, under a short name, for the claim. -/
theorem versionsWhole_holds : Rows.VersionsWholeSaid := versionsWhole.proved
#print axioms versionsWhole_holds
end Go.Proofs.Ytbaikgnddebkjaa
