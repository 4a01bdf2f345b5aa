/- The law AdmitBytes: its row, out of its triple, where what it reads is of the bound that the row tells. -/
import Derived.Test.YtejjnmnljbehiaaRows
import Derived.Test.YtejjnmnljbehiaaAdm7
import Derived.WalkKit
import Derived.ProofKit
import Derived.OpenShut
import Derived.JoinedCond
namespace Go.Proofs.Ytejjnmnljbehiaa.admitBytes
open Go.ChangeShapes Go.WideShapes Go.ChangeAt Go.RowKit Go.Gh
open Go.ChangeMaps (open_string shut_string)
set_option linter.unusedVariables false
set_option linter.unusedSimpArgs false
theorem own : ownKnob Try.prog.godebug = none := by kernel_rfl
theorem laid : laidOutB Try.prog = true := by kernel_rfl
theorem room : roomG Try.prog = true := by kernel_rfl
theorem walk (H : Type) (enc : TypeId × Value → H) (W : World) (base : Nat) (args : Array Value) (ds : List (DataW H)) (before : List MemPlace) (hG : Try.prog.globals.size ≤ W.heap.size)
    (hval : ∀ (j : Nat) t v, Try.f16.params[j]? = some t → args[j]? = some v → Value.okWide Try.prog W .any base t v)
    (hA : DataW.TrodAll enc Try.prog W 0 (fun _ => true) true Try.f16.params.toList args.toList ds before)
    (hsz : Rows.uptoSmall H (ds ++ []) = true) :
    Calls Try.prog 16 args W fun e W' => e = .returned (.bool true) ∧ Below W.heap.size W W' := by
  rw [Try.params16] at hA hval
  obtain ⟨v0, vs0, d0, ds0, p0, q0, hargs, rfl, rfl, h0, r0⟩ := trodAll_cons hA
  obtain ⟨v1, vs1, d1, ds1, p1, q1, rfl, rfl, rfl, h1, r1⟩ := trodAll_cons r0
  obtain ⟨rfl, rfl, rfl⟩ := trodAll_nil r1
  obtain rfl : args = #[v0, v1] := by cases args; simp_all
  clear hA
  have k0 := hval 0 23 v0 rfl rfl
  have k1 := hval 1 29 v1 rfl rfl
  refine GTri.calls hG gf16 ?_
  have B : BulkOk (H := H) Rows.uptoBulk Rows.uptoBulkAll := ⟨fun l => by cases l <;> simp [Rows.uptoBulk], by simp [Rows.uptoBulk], fun es sp => by simp [Rows.uptoBulk], fun ps => by simp [Rows.uptoBulk], by simp [Rows.uptoBulkAll], fun d r => by simp [Rows.uptoBulkAll]⟩
  have hz : Rows.uptoBulkAll (([d0, d1] ++ []) : List (DataW H)) ≤ 1048576 := of_decide_eq_true hsz
  simp only [List.cons_append, List.nil_append, B.acons, B.anil] at hz
  obtain ⟨ns, hl, rfl, hw⟩ := arg_ints (k := .i64) (n := 8) (by kernel_rfl) h0 k0
  obtain ⟨l1, a1, c1, e1, R1, _, b1, _⟩ := arg_bs (by kernel_rfl) h1 k1
  replace b1 := b1 _ _ B
  match ns, hl with
  | [x0, x1, x2, x3, x4, x5, x6, x7], _ =>
    have := c_AdmitBytes W.heap.size (Gh.h0 W) R1 (by omega) ⟨x0, x1, x2, x3, x4, x5, x6, x7⟩
    simp only [List.map, up_ints, e1]
    exact this
set_option maxRecDepth 100000 in
theorem lifted (os : Os) (started : os.Started) (H : Type) (enc : TypeId × Value → H) (F : Stop.Interp) :
    ReturnsInHanded {} Try.checked os 16 .any ((Rows.OpenSpec.upto Rows.admitBytesSpec).pre6 enc Try.prog Try.f16 Rows.admitBytesUptoRow.domain false) (((Rows.OpenSpec.upto Rows.admitBytesSpec).at F).post enc Try.prog Try.f16 false true false false) :=
  lift_upto (C := Try.checked) (s := Rows.admitBytesSpec) (so := Rows.OpenSpec.upto Rows.admitBytesSpec) (k := Rows.uptoSmall) rfl laid room (by kernel_rfl) rfl Try.underlying4 rfl (fun ds h => by match ds, h with | [d0, d1], _ => rfl) own started (by kernel_rfl) Try.func16
    (OpenSpec.witness (enc := enc) (C := Try.checked) (s := Rows.OpenSpec.upto Rows.admitBytesSpec) (k := Rows.uptoSmall) rfl false ⟨#[], #[.agg #[.int .i64 0, .int .i64 0, .int .i64 0, .int .i64 0, .int .i64 0, .int .i64 0, .int .i64 0, .int .i64 0], .slice none 0 0], []⟩ 8 (by kernel_rfl) (by kernel_rfl) (by kernel_rfl) (x := ([.agg [.lit (.int .i64 0), .lit (.int .i64 0), .lit (.int .i64 0), .lit (.int .i64 0), .lit (.int .i64 0), .lit (.int .i64 0), .lit (.int .i64 0), .lit (.int .i64 0)], .nil], [], [])) (by kernel_rfl) rfl (by kernel_rfl))
    (walk H enc)
theorem over : Rows.admitBytesUptoRow.holds Try.pinned (Rows.OpenSpec.upto Rows.admitBytesSpec) :=
  OpenClaim.holds_of_cond 16 Try.f16 rfl rfl rfl rfl rfl rfl rfl ⟨rfl, rfl, rfl, rfl, rfl⟩ rfl rfl rfl rfl rfl (by kernel_rfl) Try.func16 (by kernel_rfl)
    (of_decide_eq_true (by kernel_rfl)) (by unfold Func.isWrapper; first | (rw [if_pos (by decide +kernel)]; kernel_rfl) | (rw [if_neg (by decide +kernel)]; exact ⟨rfl, rfl⟩))
    (fun os started H enc _ F => lifted os started H enc F)
theorem proved : Rows.AdmitBytesUptoSaid := over
end Go.Proofs.Ytejjnmnljbehiaa.admitBytes
namespace Go.Proofs.Ytejjnmnljbehiaa
/-- The row, under a short name, for the claim. -/
theorem admitBytes_holds : Rows.AdmitBytesUptoSaid := admitBytes.proved
#print axioms admitBytes_holds
end Go.Proofs.Ytejjnmnljbehiaa
