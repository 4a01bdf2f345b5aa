/- The law CodecOnce: its row, out of its triple. -/
import Derived.Test.YtejjnmnljbehiaaRows
import Derived.Test.YtejjnmnljbehiaaCod9
import Derived.WalkKit
import Derived.ProofKit
import Derived.OpenShut
import Derived.JoinedCond
namespace Go.Proofs.Ytejjnmnljbehiaa.codecOnce
open Go.ChangeShapes Go.WideShapes Go.ChangeAt Go.RowKit Go.Gh
open Go.ChangeMaps (open_string shut_string)
set_option linter.unusedVariables false
set_option linter.unusedSimpArgs false
theorem own : ownKnob Try.prog.godebug = none := by kernel_rfl
theorem laid : laidOutB Try.prog = true := by kernel_rfl
theorem room : roomG Try.prog = true := by kernel_rfl
theorem walk (H : Type) (enc : TypeId × Value → H) (W : World) (base : Nat) (args : Array Value) (ds : List (DataW H)) (before : List MemPlace) (hG : Try.prog.globals.size ≤ W.heap.size)
    (hval : ∀ (j : Nat) t v, Try.f13.params[j]? = some t → args[j]? = some v → Value.okWide Try.prog W .any base t v)
    (hA : DataW.TrodAll enc Try.prog W 0 (fun _ => true) true Try.f13.params.toList args.toList ds before)
    (hsz : (DataW.weightsEach Try.prog (Try.f13.params.toList ++ Rows.codecOnceSpec.plain.varTypes Try.prog) (ds ++ [])).all (· ≤ reachBytes) = true) :
    Calls Try.prog 13 args W fun e W' => e = .returned (.bool true) ∧ Below W.heap.size W W' := by
  rw [Try.params13] at hA hval hsz
  obtain ⟨v0, vs0, d0, ds0, p0, q0, hargs, rfl, rfl, h0, r0⟩ := trodAll_cons hA
  obtain ⟨rfl, rfl, rfl⟩ := trodAll_nil r0
  obtain rfl : args = #[v0] := by cases args; simp_all
  clear hA
  have k0 := hval 0 29 v0 rfl rfl
  refine GTri.calls hG gf13 ?_
  obtain ⟨w0, hsz⟩ := wts_cons hsz
  obtain ⟨l1, a1, c1, e1, R1, _, _, L1⟩ := arg_bs (by kernel_rfl) h0 k0
  simp only [List.map, e1]
  exact c_CodecOnce W.heap.size (Gh.h0 W) R1 (L1 w0)
set_option maxRecDepth 100000 in
theorem lifted (os : Os) (started : os.Started) (H : Type) (enc : TypeId × Value → H) :
    ReturnsInHanded {} Try.checked os 13 .any (Rows.codecOnceSpec.pre6 enc Try.prog Try.f13 Rows.codecOnceRow.domain false) (Rows.codecOnceSpec.post enc Try.prog Try.f13 false true false false) :=
  lift_said (C := Try.checked) (s := Rows.codecOnceSpec) laid room (by kernel_rfl) rfl Try.underlying4 rfl (fun ds h => by match ds, h with | [d0], _ => rfl) own started (by kernel_rfl) Try.func13
    (ChangeSpec.witness6 (enc := enc) (C := Try.checked) false ⟨#[], #[.slice none 0 0], []⟩ 8 (by kernel_rfl) (by kernel_rfl) (by kernel_rfl) (by kernel_rfl))
    (walk H enc)
theorem over : Rows.codecOnceRow.holds Try.pinned (OpenSpec.ofChange Rows.codecOnceSpec) :=
  OpenClaim.holds_of_wide 13 Try.f13 rfl rfl rfl rfl rfl rfl rfl ⟨rfl, rfl, rfl, rfl, rfl⟩ rfl rfl rfl rfl rfl (by kernel_rfl) Try.func13 (by kernel_rfl)
    (of_decide_eq_true (by kernel_rfl)) (by unfold Func.isWrapper; first | (rw [if_pos (by decide +kernel)]; kernel_rfl) | (rw [if_neg (by decide +kernel)]; exact ⟨rfl, rfl⟩))
    (fun os started H enc _ => lifted os started H enc)
theorem proved : Rows.CodecOnceSaid := over
end Go.Proofs.Ytejjnmnljbehiaa.codecOnce
namespace Go.Proofs.Ytejjnmnljbehiaa
/-- The row, under a short name, for the claim. -/
theorem codecOnce_holds : Rows.CodecOnceSaid := codecOnce.proved
#print axioms codecOnce_holds
end Go.Proofs.Ytejjnmnljbehiaa
