/- The law TellAnswers: its row, out of its triple, where what it reads is of the bound that the row tells. -/
import Derived.Test.YtlobmpkfdnifpaaRows
import Derived.Test.YtlobmpkfdnifpaaP9
import Derived.WalkKit
import Derived.ProofKit
import Derived.OpenShut
import Derived.JoinedCond
namespace Go.Proofs.Ytlobmpkfdnifpaa.tellAnswers
open Go.ChangeShapes Go.WideShapes Go.ChangeAt Go.RowKit Go.Gh
open Go.ChangeMaps (open_string shut_string)
set_option linter.unusedVariables false
set_option linter.unusedSimpArgs false
theorem own : ownKnob Try.prog.godebug = none := by kernel_rfl
theorem laid : laidOutB Try.prog = true := by kernel_rfl
theorem room : roomG Try.prog = true := by kernel_rfl
set_option maxRecDepth 100000 in
theorem walk (H : Type) (enc : TypeId × Value → H) (W : World) (base : Nat) (args : Array Value) (ds : List (DataW H)) (before : List MemPlace) (hG : Try.prog.globals.size ≤ W.heap.size)
    (hval : ∀ (j : Nat) t v, Try.f3.params[j]? = some t → args[j]? = some v → Value.okWide Try.prog W .any base t v)
    (hA : DataW.TrodAll enc Try.prog W 0 (fun _ => true) true Try.f3.params.toList args.toList ds before)
    (hsz : Rows.uptoSmall H (ds ++ []) = true) :
    Calls Try.prog 3 args W fun e W' => e = .returned (.bool true) ∧ Below W.heap.size W W' := by
  rw [Try.params3] at hA hval
  obtain ⟨v0, vs0, d0, ds0, p0, q0, hargs, rfl, rfl, h0, r0⟩ := trodAll_cons hA
  obtain ⟨v1, vs1, d1, ds1, p1, q1, rfl, rfl, rfl, h1, r1⟩ := trodAll_cons r0
  obtain ⟨v2, vs2, d2, ds2, p2, q2, rfl, rfl, rfl, h2, r2⟩ := trodAll_cons r1
  obtain ⟨rfl, rfl, rfl⟩ := trodAll_nil r2
  obtain rfl : args = #[v0, v1, v2] := by cases args; simp_all
  clear hA
  have k0 := hval 0 22 v0 rfl rfl
  have k1 := hval 1 3 v1 rfl rfl
  have k2 := hval 2 27 v2 rfl rfl
  refine GTri.calls hG gf3 ?_
  have B : BulkOk (H := H) Rows.uptoBulk Rows.uptoBulkAll := ⟨fun l => by cases l <;> simp [Rows.uptoBulk], by simp [Rows.uptoBulk], fun es sp => by simp [Rows.uptoBulk], fun ps => by simp [Rows.uptoBulk], by simp [Rows.uptoBulkAll], fun d r => by simp [Rows.uptoBulkAll]⟩
  have hz : Rows.uptoBulkAll (([d0, d1, d2] ++ []) : List (DataW H)) ≤ 1048576 := of_decide_eq_true hsz
  simp only [List.cons_append, List.nil_append, B.acons, B.anil] at hz
  obtain ⟨l1, a1, c1, e1, R1, _, b1, _⟩ := arg_bs (by kernel_rfl) h0 k0
  replace b1 := b1 _ _ B
  obtain ⟨i, rfl, rfl, rfl, wi⟩ := open_int Try.underlying3 k1 h1
  obtain ⟨q, R2, b2⟩ := arg_an h2 k2
  replace b2 := b2 _ _ B
  simp only [List.map, e1]
  exact c_TellAnswers W.heap.size (Gh.h0 W) R1 i R2 (by omega)
set_option maxRecDepth 100000 in
theorem lifted (os : Os) (started : os.Started) (H : Type) (enc : TypeId × Value → H) (F : Stop.Interp) :
    ReturnsInHanded {} Try.checked os 3 .any ((Rows.OpenSpec.upto Rows.tellAnswersSpec).pre6 enc Try.prog Try.f3 Rows.tellAnswersUptoRow.domain false) (((Rows.OpenSpec.upto Rows.tellAnswersSpec).at F).post enc Try.prog Try.f3 false true false false) :=
  lift_upto (C := Try.checked) (s := Rows.tellAnswersSpec) (so := Rows.OpenSpec.upto Rows.tellAnswersSpec) (k := Rows.uptoSmall) rfl laid room (by kernel_rfl) rfl Try.underlying4 rfl (fun ds h => by match ds, h with | [d0, d1, d2], _ => rfl) own started (by kernel_rfl) Try.func3
    (OpenSpec.witness (enc := enc) (C := Try.checked) (s := Rows.OpenSpec.upto Rows.tellAnswersSpec) (k := Rows.uptoSmall) rfl false ⟨#[], #[.slice none 0 0, .int .i64 0, .agg #[.int .i64 0, .int .i64 0, .bool false, .bool false, .slice none 0 0, .int .i64 0, .slice none 0 0, .slice none 0 0, .bool false]], []⟩ 8 (by kernel_rfl) (by kernel_rfl) (by kernel_rfl) (x := ([.nil, .lit (.int .i64 0), .agg [.lit (.int .i64 0), .lit (.int .i64 0), .lit (.bool false), .lit (.bool false), .nil, .lit (.int .i64 0), .nil, .nil, .lit (.bool false)]], [], [])) (by kernel_rfl) rfl (by kernel_rfl))
    (walk H enc)
theorem over : Rows.tellAnswersUptoRow.holds Try.pinned (Rows.OpenSpec.upto Rows.tellAnswersSpec) :=
  OpenClaim.holds_of_cond 3 Try.f3 rfl rfl rfl rfl rfl rfl rfl ⟨rfl, rfl, rfl, rfl, rfl⟩ rfl rfl rfl rfl rfl (by kernel_rfl) Try.func3 (by kernel_rfl)
    (of_decide_eq_true (by kernel_rfl)) (by unfold Func.isWrapper; first | (rw [if_pos (by decide +kernel)]; kernel_rfl) | (rw [if_neg (by decide +kernel)]; exact ⟨rfl, rfl⟩))
    (fun os started H enc _ F => lifted os started H enc F)
theorem proved : Rows.TellAnswersUptoSaid := over
end Go.Proofs.Ytlobmpkfdnifpaa.tellAnswers
namespace Go.Proofs.Ytlobmpkfdnifpaa
/-- The row, under a short name, for the claim. -/
theorem tellAnswers_holds : Rows.TellAnswersUptoSaid := tellAnswers.proved
#print axioms tellAnswers_holds
end Go.Proofs.Ytlobmpkfdnifpaa
