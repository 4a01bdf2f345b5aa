/- Parts of this claim's proof, 8. No statement of the claim stands here. -/
import Derived.Test.YtkifgpomablpiaaGreatDoorP7
import Derived.Deep.DeepHandedRow
import Derived.Lib.LaidTab
namespace Go.Gh
open Go Go.RowKit Go.ChangeShapes Go.WideShapes Go.ChangeAt
set_option linter.unusedVariables false
set_option linter.unusedSimpArgs false
section
variable {H : Type} {enc : TypeId × Value → H}
theorem lift_laid {C : Checked} {os : Os} {f : FuncId} {fn : Func} {s : ChangeSpec} {so : OpenSpec} {k : (H : Type) → List (DataW H) → Bool} (hso : so = { OpenSpec.ofChange s with cond := some k }) {F : Stop.Interp} {conds : List PathCond} {laid : List (String × DataW Unit)} {rt : TypeId}
    (hl : laidOutB C.prog = true) (hg : roomG C.prog = true) (hr : fn.params.toList.all (fun t => C.prog.readableRec t && decide (t < C.prog.types.size)) = true) (hrt : fn.resultTypes = #[rt]) (hb : C.prog.underlying rt = some .bool) (hv : s.vars = [])
    (hs : ∀ ds : List (DataW H), ds.length = fn.params.size → s.fn H ds = { results := [.lit (.bool true)], args := ds })
    (own : ownKnob C.prog.godebug = none) (started : os.Started) (noInit : C.prog.inits.idxOf? f = none) (hfn : C.prog.funcs[f]? = some fn)
    (witness : ∃ (w : World) (tape : Tape) (i : Input), w.os = os ∧ (w.forCall tape i).Shaped C.prog ∧ i.vars = [] ∧ Input.okWide C.prog (w.forCall tape i) .any w.heap.size f i ∧
      so.preRow enc C.prog fn conds false laid (w.forCall tape i).memory i.args ∧ ({} : Assume).holds C.prog (lone (Frame.enter C.prog f i.args .normal) [] (w.forCall tape i)))
    (contract : ∀ (W : World) (base : Nat) (args : Array Value) (ds : List (DataW H)) (before : List MemPlace), C.prog.globals.size ≤ W.heap.size →
      (∀ (j : Nat) t v, fn.params[j]? = some t → args[j]? = some v → Value.okWide C.prog W .any base t v) →
      DataW.TrodAll enc C.prog W 0 (fun _ => true) true fn.params.toList args.toList ds before →
      k H (ds ++ []) = true → laidMetH C.prog laid W →
      Calls C.prog f args W fun e W' => e = .returned (.bool true) ∧ RowKit.Below W.heap.size W W') :
    ReturnsInHanded {} C os f .any (so.preRow enc C.prog fn conds false laid) ((so.at F).post enc C.prog fn false true false false) := by
  subst hso
  refine returnsInHanded_of_row own started noInit hfn witness ?_
  intro W base args ds gs before hval hw hc hk _ hL hsh _
  have hw2 := hw
  obtain ⟨p, q, hA, hV, rfl, hfz, hnd⟩ := hw
  have hV' : DataW.TrodVars enc C.prog W (fun _ => true) s.vars gs q := hV
  rw [hv] at hV'
  obtain ⟨rfl, rfl⟩ := trodVars_none hV'
  refine (contract W base args ds p (roomG_le hg hsh) hval hA (hk _ rfl) hL).mono fun e W' ⟨he, hbel⟩ => ?_
  exact ⟨_, he, law_post (s := s) hl hr hrt hb hv hs hw2 hbel⟩
end
def TB (g : Nat) (cs : List Value) (h : GH) : Prop := ∃ ds, h g = some ⟨ds, 0, false, false⟩ ∧ ds.take cs.length = cs
theorem TB.hs {g : Nat} {cs : List Value} {h h' : GH} (t : TB g cs h) (x : HS h h') : TB g cs h' := by
  obtain ⟨ds, m, e⟩ := t
  exact ⟨ds, x _ _ m, e⟩
theorem TB.hx {g k : Nat} {cs : List Value} {h h' : GH} (t : TB g cs h) {B : GB} (m : h k = some B) (w : B.wr = true) (x : HX k h h') : TB g cs h' := by
  obtain ⟨ds, m1, e⟩ := t
  refine ⟨ds, x _ _ ?_ m1, e⟩
  rintro rfl
  rw [m] at m1; cases m1; cases w
theorem TB.at {g : Nat} {cs : List Value} {h : GH} (t : TB g cs h) {i : Nat} {v : Value} (hi : cs[i]? = some v) : ∃ ds, h g = some ⟨ds, 0, false, false⟩ ∧ ds[i]? = some v := by
  obtain ⟨ds, m, e⟩ := t
  have hl : i < cs.length := (List.getElem?_eq_some_iff.1 hi).1
  refine ⟨ds, m, ?_⟩
  rw [← e, List.getElem?_take, if_pos hl] at hi
  exact hi
theorem tab_of {P : Program} {W : World} {name : String} {k : IntKind} {zs : List Int} {g : Nat} (h : Lib.TabIs P W name k zs) (hg : P.globalNamed name = some g) (h0' : 0 < zs.length) (hz : ∀ z ∈ zs, qQ3 W.heap.size (.int k z) = .int k z := by intros; rfl) : TB g (zs.map fun z => Value.int k z) (h0 W) := by
  have hc := fun i hi => h.cell hg i hi
  have := qW5 (W := W) (a := ⟨g, 0, none⟩) (zs.map fun z => Value.int k z) (fun i v hv => by
    rw [List.getElem?_map, Option.map_eq_some_iff] at hv
    obtain ⟨z, hz, rfl⟩ := hv
    have hi := (List.getElem?_eq_some_iff.1 hz).1
    rw [gU, Nat.zero_add, hc i hi]
    simp [hz])
  unfold wA at this
  rw [if_neg (by rw [List.length_map]; omega)] at this
  split at this
  case h_2 => cases this
  rename_i B hs hB
  split at this
  case isFalse => cases this
  simp only [List.drop_zero, Option.some.injEq] at this
  have hB' : B = ⟨B.cells, 0, false, false⟩ := by
    unfold h0 at hB
    split at hB
    · cases hB; rfl
    · cases hB
  rw [hB'] at hB
  refine ⟨B.cells, hB, ?_⟩
  rw [this]
  rw [List.map_map]
  exact List.map_congr_left fun z _ => rfl
end Go.Gh
