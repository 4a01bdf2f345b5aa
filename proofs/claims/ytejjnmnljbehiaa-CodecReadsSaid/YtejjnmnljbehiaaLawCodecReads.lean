/- The law CodecReads: its row, out of its triple. -/
import Derived.Test.YtejjnmnljbehiaaRows
import Derived.Test.YtejjnmnljbehiaaCod10
import Derived.WalkKit
import Derived.ProofKit
import Derived.OpenShut
import Derived.JoinedCond
namespace Go.Proofs.Ytejjnmnljbehiaa.codecReads
open Go.ChangeShapes Go.WideShapes Go.ChangeAt Go.RowKit Go.Gh
open Go.ChangeMaps (open_string shut_string)
set_option linter.unusedVariables false
set_option linter.unusedSimpArgs false
theorem own : ownKnob Try.prog.godebug = none := by kernel_rfl
theorem laid : laidOutB Try.prog = true := by kernel_rfl
theorem room : roomG Try.prog = true := by kernel_rfl
theorem walk (H : Type) (enc : TypeId × Value → H) (W : World) (base : Nat) (args : Array Value) (ds : List (DataW H)) (before : List MemPlace) (hG : Try.prog.globals.size ≤ W.heap.size)
    (hval : ∀ (j : Nat) t v, Try.f14.params[j]? = some t → args[j]? = some v → Value.okWide Try.prog W .any base t v)
    (hA : DataW.TrodAll enc Try.prog W 0 (fun _ => true) true Try.f14.params.toList args.toList ds before)
    (hsz : (DataW.weightsEach Try.prog (Try.f14.params.toList ++ Rows.codecReadsSpec.plain.varTypes Try.prog) (ds ++ [])).all (· ≤ reachBytes) = true) :
    Calls Try.prog 14 args W fun e W' => e = .returned (.bool true) ∧ Below W.heap.size W W' := by
  rw [Try.params14] at hA hval hsz
  obtain ⟨v0, vs0, d0, ds0, p0, q0, hargs, rfl, rfl, h0, r0⟩ := trodAll_cons hA
  obtain ⟨v1, vs1, d1, ds1, p1, q1, rfl, rfl, rfl, h1, r1⟩ := trodAll_cons r0
  obtain ⟨rfl, rfl, rfl⟩ := trodAll_nil r1
  obtain rfl : args = #[v0, v1] := by cases args; simp_all
  clear hA
  have k0 := hval 0 29 v0 rfl rfl
  have k1 := hval 1 56 v1 rfl rfl
  refine GTri.calls hG gf14 ?_
  obtain ⟨w0, hsz⟩ := wts_cons hsz
  obtain ⟨w1, hsz⟩ := wts_cons hsz
  obtain ⟨l1, a1, c1, e1, R1, _, _, L1⟩ := arg_bs (by kernel_rfl) h0 k0
  obtain ⟨l2, a2, c2, e2, R2, _, _, L2⟩ := arg_sl (.fcons (.i .i64) (.fcons (.i .i64) .fnil)) (by kernel_rfl) h1 k1
  have R2' : RL 2 RDo (Gh.h0 W) (.slice a2 l2.length c2) (l2.map fun x : Int × (Int × Unit) => (x.1, x.2.1)) := RL.map R2 _ fun cs x hx => by
    obtain ⟨c1, c2, rfl, _, ⟨rfl, _⟩, c3, c4, rfl, _, ⟨rfl, _⟩, rfl⟩ := hx
    rfl
  simp only [List.map, e1, e2]
  exact c_CodecReads W.heap.size (Gh.h0 W) R1 R2' (L1 w0) (Nat.le_trans (Nat.le_of_eq (List.length_map _)) (L2 w1).1)
set_option maxRecDepth 100000 in
theorem lifted (os : Os) (started : os.Started) (H : Type) (enc : TypeId × Value → H) :
    ReturnsInHanded {} Try.checked os 14 .any (Rows.codecReadsSpec.pre6 enc Try.prog Try.f14 Rows.codecReadsRow.domain false) (Rows.codecReadsSpec.post enc Try.prog Try.f14 false true false false) :=
  lift_said (C := Try.checked) (s := Rows.codecReadsSpec) laid room (by kernel_rfl) rfl Try.underlying4 rfl (fun ds h => by match ds, h with | [d0, d1], _ => rfl) own started (by kernel_rfl) Try.func14
    (ChangeSpec.witness6 (enc := enc) (C := Try.checked) false ⟨#[], #[.slice none 0 0, .slice none 0 0], []⟩ 8 (by kernel_rfl) (by kernel_rfl) (by kernel_rfl) (by kernel_rfl))
    (walk H enc)
theorem over : Rows.codecReadsRow.holds Try.pinned (OpenSpec.ofChange Rows.codecReadsSpec) :=
  OpenClaim.holds_of_wide 14 Try.f14 rfl rfl rfl rfl rfl rfl rfl ⟨rfl, rfl, rfl, rfl, rfl⟩ rfl rfl rfl rfl rfl (by kernel_rfl) Try.func14 (by kernel_rfl)
    (of_decide_eq_true (by kernel_rfl)) (by unfold Func.isWrapper; first | (rw [if_pos (by decide +kernel)]; kernel_rfl) | (rw [if_neg (by decide +kernel)]; exact ⟨rfl, rfl⟩))
    (fun os started H enc _ => lifted os started H enc)
theorem proved : Rows.CodecReadsSaid := over
end Go.Proofs.Ytejjnmnljbehiaa.codecReads
namespace Go.Proofs.Ytejjnmnljbehiaa
/-- The row, under a short name, for the claim. -/
theorem codecReads_holds : Rows.CodecReadsSaid := codecReads.proved
#print axioms codecReads_holds
end Go.Proofs.Ytejjnmnljbehiaa
