/- The law VersionsLives: its row, out of its triple. -/
import Derived.Test.YtbaikgnddebkjaaRows
import Derived.Test.YtbaikgnddebkjaaP12
import Derived.WalkKit
import Derived.ProofKit
import Derived.OpenShut
import Derived.JoinedCond
namespace Go.Proofs.Ytbaikgnddebkjaa.versionsLives
open Go.ChangeShapes Go.WideShapes Go.ChangeAt Go.RowKit Go.Gh
open Go.ChangeMaps (open_string shut_string)
set_option linter.unusedVariables false
set_option linter.unusedSimpArgs false
theorem own : ownKnob Try.prog.godebug = none := by kernel_rfl
theorem laid : laidOutB Try.prog = true := by kernel_rfl
theorem room : roomG Try.prog = true := by kernel_rfl
set_option maxRecDepth 100000 in
theorem walk (H : Type) (enc : TypeId × Value → H) (W : World) (base : Nat) (args : Array Value) (ds : List (DataW H)) (before : List MemPlace) (hG : Try.prog.globals.size ≤ W.heap.size)
    (hval : ∀ (j : Nat) t v, Try.f5.params[j]? = some t → args[j]? = some v → Value.okWide Try.prog W .any base t v)
    (hA : DataW.TrodAll enc Try.prog W 0 (fun _ => true) true Try.f5.params.toList args.toList ds before)
    (hsz : (DataW.weightsEach Try.prog (Try.f5.params.toList ++ Rows.versionsLivesSpec.plain.varTypes Try.prog) (ds ++ [])).all (· ≤ reachBytes) = true) :
    Calls Try.prog 5 args W fun e W' => e = .returned (.bool true) ∧ Go.RowKit.Below W.heap.size W W' := by
  rw [Try.params5] at hA hval hsz
  obtain ⟨v0, vs0, d0, ds0, p0, q0, hargs, rfl, rfl, h0, r0⟩ := trodAll_cons hA
  obtain ⟨v1, vs1, d1, ds1, p1, q1, rfl, rfl, rfl, h1, r1⟩ := trodAll_cons r0
  obtain ⟨rfl, rfl, rfl⟩ := trodAll_nil r1
  obtain rfl : args = #[v0, v1] := by cases args; simp_all
  clear hA
  have k0 := hval 0 22 v0 rfl rfl
  have k1 := hval 1 50 v1 rfl rfl
  refine GTri.calls hG gf5 ?_
  obtain ⟨w0, hsz⟩ := wts_cons hsz
  obtain ⟨w1, hsz⟩ := wts_cons hsz
  obtain ⟨l, a0, c0, e0, R0, f0⟩ := arg_bats h0 k0
  obtain ⟨q, a1, c1, e1, R1, f1⟩ := arg_qs h1 k1
  simp only [List.map, e0, e1]
  exact c_VersionsLives W.heap.size (Gh.h0 W) R0 R1 (f0 w0).1 (f0 w0).2 (f1 w1)
set_option maxRecDepth 100000 in
theorem lifted (os : Os) (started : os.Started) (H : Type) (enc : TypeId × Value → H) :
    ReturnsInHanded {} Try.checked os 5 .any (Rows.versionsLivesSpec.pre6 enc Try.prog Try.f5 Rows.versionsLivesRow.domain false) (Rows.versionsLivesSpec.post enc Try.prog Try.f5 false true false false) :=
  lift_said (C := Try.checked) (s := Rows.versionsLivesSpec) laid room (by kernel_rfl) rfl Try.underlying4 rfl (fun ds h => by match ds, h with | [d0, d1], _ => rfl) own started (by kernel_rfl) Try.func5
    (ChangeSpec.witness6 (enc := enc) (C := Try.checked) false ⟨#[], #[.slice none 0 0, .slice none 0 0], []⟩ 8 (by kernel_rfl) (by kernel_rfl) (by kernel_rfl) (by kernel_rfl))
    (walk H enc)
theorem over : Rows.versionsLivesRow.holds Try.pinned (OpenSpec.ofChange Rows.versionsLivesSpec) :=
  OpenClaim.holds_of_wide 5 Try.f5 rfl rfl rfl rfl rfl rfl rfl ⟨rfl, rfl, rfl, rfl, rfl⟩ rfl rfl rfl rfl rfl (by kernel_rfl) Try.func5 (by kernel_rfl)
    (of_decide_eq_true (by kernel_rfl)) (by unfold Func.isWrapper; first | (rw [if_pos (by decide +kernel)]; kernel_rfl) | (rw [if_neg (by decide +kernel)]; exact ⟨rfl, rfl⟩))
    (fun os started H enc _ => lifted os started H enc)
theorem proved : Rows.VersionsLivesSaid := over
end Go.Proofs.Ytbaikgnddebkjaa.versionsLives
namespace Go.Proofs.Ytbaikgnddebkjaa
/-- The row, under a short name, for the claim. -/
theorem versionsLives_holds : Rows.VersionsLivesSaid := versionsLives.proved
#print axioms versionsLives_holds
end Go.Proofs.Ytbaikgnddebkjaa
