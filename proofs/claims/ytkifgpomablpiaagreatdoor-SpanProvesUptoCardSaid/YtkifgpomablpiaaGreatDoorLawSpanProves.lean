/- The law SpanProves: its row, out of its triple, where what it reads is of the bound that the row tells. -/
import Derived.Test.YtkifgpomablpiaaGreatDoorRows
import Derived.Test.YtkifgpomablpiaaGreatDoorP13
import Derived.WalkKit
import Derived.ProofKit
import Derived.OpenShut
import Derived.JoinedCond
import Derived.Test.YtkifgpomablpiaaGreatDoorCards
import Derived.Test.YtkifgpomablpiaaGreatDoorTie
import Derived.Stop.LaidErr
namespace Go.Proofs.YtkifgpomablpiaaGreatDoor.spanProves
open Go.ChangeShapes Go.WideShapes Go.ChangeAt Go.RowKit Go.Gh
open Go.ChangeMaps (open_string shut_string)
set_option linter.unusedVariables false
set_option linter.unusedSimpArgs false
theorem own : ownKnob Tryz.prog.godebug = none := by kernel_rfl
theorem laid : laidOutB Tryz.prog = true := by kernel_rfl
theorem room : roomG Tryz.prog = true := by kernel_rfl
set_option maxRecDepth 100000 in
theorem walk (H : Type) (enc : TypeId × Value → H) (W : World) (base : Nat) (args : Array Value) (ds : List (DataW H)) (before : List MemPlace) (hG : Tryz.prog.globals.size ≤ W.heap.size)
    (hval : ∀ (j : Nat) t v, Tryz.f5.params[j]? = some t → args[j]? = some v → Value.okWide Tryz.prog W .any base t v)
    (hA : DataW.TrodAll enc Tryz.prog W 0 (fun _ => true) true Tryz.f5.params.toList args.toList ds before)
    (hsz : Rows.uptoSmall H (ds ++ []) = true) (hL : laidMetH Tryz.prog Rows.spanProvesUptoRow.laid W) :
    Calls Tryz.prog 5 args W fun e W' => e = .returned (.bool true) ∧ Go.RowKit.Below W.heap.size W W' := by
  rw [Tryz.params5] at hA hval
  obtain ⟨v0, vs0, d0, ds0, p0, q0, hargs, rfl, rfl, h0, r0⟩ := trodAll_cons hA
  obtain ⟨v1, vs1, d1, ds1, p1, q1, rfl, rfl, rfl, h1, r1⟩ := trodAll_cons r0
  obtain ⟨rfl, rfl, rfl⟩ := trodAll_nil r1
  obtain rfl : args = #[v0, v1] := by cases args; simp_all
  clear hA
  have k0 := hval 0 52 v0 rfl rfl
  have k1 := hval 1 54 v1 rfl rfl
  refine GTri.calls hG gf5 ?_
  have B : BulkOk (H := H) Rows.uptoBulk Rows.uptoBulkAll := ⟨fun l => by cases l <;> simp [Rows.uptoBulk], by simp [Rows.uptoBulk], fun es sp => by simp [Rows.uptoBulk], fun ps => by simp [Rows.uptoBulk], by simp [Rows.uptoBulkAll], fun d r => by simp [Rows.uptoBulkAll]⟩
  have hz : Rows.uptoBulkAll (([d0, d1] ++ []) : List (DataW H)) ≤ 1048576 := of_decide_eq_true hsz
  simp only [List.cons_append, List.nil_append, B.acons, B.anil] at hz
  obtain ⟨l, a0, c0, e0, R0, b0⟩ := arg_puts (by kernel_rfl) h0 k0
  obtain ⟨fr, lim, sm, id, ai, ci, e1, R1, b1⟩ := arg_pg h1 k1
  replace b0 := b0 _ _ B
  replace b1 := b1 _ _ B
  have hL' : laidMet Tryz.prog [("annals/sha.first", Rows.laid_annals_sha_first), ("annals/sha.added", Rows.laid_annals_sha_added)] W := hL
  have hS : Lib.TabIs Tryz.prog W "annals/sha.first" .u32 sT := Lib.tabIs_of_head (rest := [("annals/sha.added", Rows.laid_annals_sha_added)]) (g := 0) (by kernel_rfl) (by kernel_rfl) Tryz.underlying121 Tryz.underlying119 (by kernel_rfl) (by kernel_rfl) hL'
  have hK : Lib.TabIs Tryz.prog W "annals/sha.added" .u32 kT := Lib.tabIs_of_head (rest := []) (g := 1) (by kernel_rfl) (by kernel_rfl) Tryz.underlying165 Tryz.underlying119 (by kernel_rfl) (by kernel_rfl) hL'.tail
  have tk : TK (Gh.h0 W) := ⟨tab_of hK (by kernel_rfl) (by decide), tab_of hS (by kernel_rfl) (by decide)⟩
  simp only [List.map, e0, e1]
  exact c_SpanProves W.heap.size tk R0 (by omega) (fun x hx => by have := b0.2 x hx; omega) fr lim sm R1
noncomputable def laidWorld (os : Os) : World :=
  { World.holding Tryz.prog os ⟨#[], #[], []⟩ with heap := (((World.holding Tryz.prog os ⟨#[], #[], []⟩).heap.modify ((Tryz.prog.globalNamed "annals/sha.first").getD 0) fun
      | .cells _ t frozen => .cells #[.int .u32 1779033703, .int .u32 3144134277, .int .u32 1013904242, .int .u32 2773480762, .int .u32 1359893119, .int .u32 2600822924, .int .u32 528734635, .int .u32 1541459225] t frozen
      | o => o).modify ((Tryz.prog.globalNamed "annals/sha.added").getD 0) fun
      | .cells _ t frozen => .cells #[.int .u32 1116352408, .int .u32 1899447441, .int .u32 3049323471, .int .u32 3921009573, .int .u32 961987163, .int .u32 1508970993, .int .u32 2453635748, .int .u32 2870763221, .int .u32 3624381080, .int .u32 310598401, .int .u32 607225278, .int .u32 1426881987, .int .u32 1925078388, .int .u32 2162078206, .int .u32 2614888103, .int .u32 3248222580, .int .u32 3835390401, .int .u32 4022224774, .int .u32 264347078, .int .u32 604807628, .int .u32 770255983, .int .u32 1249150122, .int .u32 1555081692, .int .u32 1996064986, .int .u32 2554220882, .int .u32 2821834349, .int .u32 2952996808, .int .u32 3210313671, .int .u32 3336571891, .int .u32 3584528711, .int .u32 113926993, .int .u32 338241895, .int .u32 666307205, .int .u32 773529912, .int .u32 1294757372, .int .u32 1396182291, .int .u32 1695183700, .int .u32 1986661051, .int .u32 2177026350, .int .u32 2456956037, .int .u32 2730485921, .int .u32 2820302411, .int .u32 3259730800, .int .u32 3345764771, .int .u32 3516065817, .int .u32 3600352804, .int .u32 4094571909, .int .u32 275423344, .int .u32 430227734, .int .u32 506948616, .int .u32 659060556, .int .u32 883997877, .int .u32 958139571, .int .u32 1322822218, .int .u32 1537002063, .int .u32 1747873779, .int .u32 1955562222, .int .u32 2024104815, .int .u32 2227730452, .int .u32 2361852424, .int .u32 2428436474, .int .u32 2756734187, .int .u32 3204031479, .int .u32 3329325298] t frozen
      | o => o) }
def wargs : Array Value := #[.slice none 0 0, .agg #[.int .i64 0, .int .i64 0, .bool false, .slice none 0 0]]
theorem laid_met (os : Os) : laidMet Tryz.prog Rows.spanProvesUptoRow.laid ((laidWorld os).forCall (fun _ _ => 0) ⟨#[], wargs, []⟩).memory :=
  laidMet_of_run' 8 (by kernel_rfl) (by kernel_rfl)
theorem reads (os : Os) {H : Type} (enc : TypeId × Value → H) : ∃ places, DataW.whole enc Tryz.prog ((laidWorld os).forCall (fun _ _ => 0) ⟨#[], wargs, []⟩).memory Tryz.f5.params.toList Rows.spanProvesSpec.vars false wargs.toList 8 = some ([.nil, .agg [.lit (.int .i64 0), .lit (.int .i64 0), .lit (.bool false), .nil]], [], places) :=
  ⟨[], by kernel_rfl⟩
set_option maxRecDepth 100000 in
theorem lifted (os : Os) (started : os.Started) (H : Type) (enc : TypeId × Value → H) (F : Stop.Interp) :
    ReturnsInHanded {} Tryz.checked os 5 .any ((Rows.OpenSpec.upto Rows.spanProvesSpec).preRow enc Tryz.prog Tryz.f5 Rows.spanProvesUptoRow.domain false Rows.spanProvesUptoRow.laid) (((Rows.OpenSpec.upto Rows.spanProvesSpec).at F).post enc Tryz.prog Tryz.f5 false true false false) := by
  obtain ⟨places, hx⟩ := reads os enc
  exact lift_laid (C := Tryz.checked) (s := Rows.spanProvesSpec) (so := Rows.OpenSpec.upto Rows.spanProvesSpec) (k := Rows.uptoSmall) rfl laid room (by kernel_rfl) rfl Tryz.underlying4 rfl (fun ds h => by match ds, h with | [d0, d1], _ => rfl) own started (by kernel_rfl) Tryz.func5
    (witness_row_at (enc := enc) (C := Tryz.checked) false (laidWorld os) wargs rfl (by kernel_rfl) (by kernel_rfl) (by kernel_rfl) (OpenSpec.preRow_of_cond 8 hx (by kernel_rfl) (fun k hk => by cases hk; kernel_rfl) (by kernel_rfl) (laid_met os)))
    (walk H enc)
theorem over : Rows.spanProvesUptoRow.holds Tryz.pinned (Rows.OpenSpec.upto Rows.spanProvesSpec) :=
  OpenClaim.holds_of_cond 5 Tryz.f5 rfl rfl rfl rfl rfl rfl rfl ⟨rfl, rfl, rfl, rfl, rfl⟩ rfl rfl rfl rfl rfl (by kernel_rfl) Tryz.func5 (by kernel_rfl)
    (of_decide_eq_true (by kernel_rfl)) (by unfold Func.isWrapper; first | (rw [if_pos (by decide +kernel)]; kernel_rfl) | (rw [if_neg (by decide +kernel)]; exact ⟨rfl, rfl⟩))
    (fun os started H enc _ F => by rw [OpenClaim.pre_eq_preRow]; exact lifted os started H enc F)
theorem plain (f : FuncId) (fn : Func) (hf : Tryz.pinned.checked.prog.funcNamed "annals/annalslaw18.SpanProves" = some f) (hfn : Tryz.pinned.checked.prog.funcs[f]? = some fn) :
    true = Tryz.pinned.checked.prog.looks [] ∧ ∀ (j : Nat) t, fn.params[j]? = some t → Tryz.pinned.checked.prog.wantsStandIn t = false := by
  obtain rfl : f = 5 := Option.some.inj ((show Tryz.prog.funcNamed "annals/annalslaw18.SpanProves" = some 5 by kernel_rfl).symm.trans hf) |>.symm
  obtain rfl : fn = Tryz.f5 := (Option.some.inj (Tryz.func5.symm.trans hfn)).symm
  refine ⟨by kernel_rfl, fun j t ht => ?_⟩
  rw [Tryz.params5] at ht
  have hm : t ∈ [52, 54] := by simpa using Array.mem_of_getElem? ht
  have hall : ([52, 54].all fun u => !Tryz.prog.wantsStandIn u) = true := by kernel_rfl
  exact (show Tryz.prog.wantsStandIn t = false by simpa using List.all_eq_true.1 hall t hm)
theorem card : Rows.SpanProvesUptoCardSaid :=
  Claim7.holds_tied_plain_at .later [] _ _ _ _ over (fun _ h => by cases h) (by kernel_rfl) (fun _ h => by cases h) spanProvesUpto_row_tie rfl ⟨rfl, rfl⟩ (by kernel_rfl) rfl plain (by kernel_rfl)
theorem proved : Rows.SpanProvesUptoCardSaid := card
end Go.Proofs.YtkifgpomablpiaaGreatDoor.spanProves
namespace Go.Proofs.YtkifgpomablpiaaGreatDoor
/-- The row, under a short name, for the claim. -/
theorem spanProves_holds : Rows.SpanProvesUptoCardSaid := spanProves.proved
#print axioms spanProves_holds
end Go.Proofs.YtkifgpomablpiaaGreatDoor
