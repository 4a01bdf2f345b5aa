/- A framework of this claim's proof, part 20. The run-time's compare of bytes. No statement of the claim stands here. -/
import Derived.Test.YtlobmpkfdnifpaaGh19
import Derived.Lib.BytesEntry
import Derived.Lib.Bytealg
import Derived.Laws.Externs
namespace Go.Gh
open Go Go.RowKit
set_option linter.unusedVariables false
set_option linter.unusedSimpArgs false

theorem bv_vrs {φ : Fm} : ∀ {l : List UInt8} {cs : List Value}, VRs φ (l.map bv) cs → cs = l.map bv
  | [], _, .nil => rfl
  | b :: l, _, .cons h hs => by
    cases h
    rw [bv_vrs hs]; rfl
theorem RB.bytesOf {P : Program} {N : Nat} {φ : Fm} {h : GH} {w : World} (s : Sim N φ h w) {v v' : Value} {l : List UInt8} (r : RB h v l) (hv : VR φ v v') : (Extern.Bytes.bytesOf v').run P w = .ok (bstr l) w := by
  rcases r with ⟨c, rfl, rfl⟩ | ⟨ad, c, rfl, h2, h3⟩
  · cases hv; rfl
  · cases hv with
    | slice ha hc hn =>
    rename_i a' c'
    have hx : ∀ j x, (l.map fun b : UInt8 => (b.toNat : Int))[j]? = some x → w.cell? (a'.add j) = some (.int .u8 x) := by
      intro j x hj
      rcases ha with ha | h0
      · obtain ⟨cs', q1, q2, q3⟩ := gread_sound s ha h2
        have e := bv_vrs q1
        subst e
        simp only [List.getElem?_map, Option.map_eq_some_iff] at hj
        obtain ⟨b, hb, rfl⟩ := hj
        exact q3 j (bv b) (by simp [hb])
      · have : l.length = 0 := by omega
        have : l = [] := List.eq_nil_of_length_eq_zero this
        subst this; simp at hj
    have hr := Lib.run_loadBytesX (P := P) (w := w) (l.map fun b : UInt8 => (b.toNat : Int)) a' .empty hx
    simp only [List.length_map] at hr
    simp only [Extern.Bytes.bytesOf, hr]
    congr 1
    simp [bstr, Lib.bytesOf, List.map_map, Function.comp_def]

theorem compare_less : ∀ l m : List UInt8, Lib.compareBytes l m = if Op.bytesLess l m = true then -1 else if Op.bytesLess m l = true then 1 else 0
  | [], [] => by simp [Lib.compareBytes, Op.bytesLess]
  | [], _ :: _ => by simp [Lib.compareBytes, Op.bytesLess]
  | _ :: _, [] => by simp [Lib.compareBytes, Op.bytesLess]
  | a :: l, b :: m => by
    simp only [Lib.compareBytes, Op.bytesLess, compare_less l m]
    by_cases h1 : a < b
    · simp [h1]
    · by_cases h2 : b < a
      · have : a ≠ b := fun e => by subst e; exact h1 h2
        simp [h1, h2, this]
      · have : a = b := UInt8.le_antisymm (UInt8.not_lt.1 h2) (UInt8.not_lt.1 h1)
        subst this
        simp
theorem less_flip : ∀ l m : List UInt8, (!(Op.bytesLess l m || l == m)) = Op.bytesLess m l
  | [], [] => by simp [Op.bytesLess]
  | [], _ :: _ => by simp [Op.bytesLess]
  | _ :: _, [] => by simp [Op.bytesLess]
  | a :: l, b :: m => by
    have ih := less_flip l m
    simp only [Op.bytesLess, List.cons_beq_cons, ← ih]
    by_cases h1 : a < b
    · have h2 : ¬ b < a := fun h => absurd (UInt8.lt_trans h1 h) (UInt8.lt_irrefl _)
      have h3 : (b == a) = false := by simp; rintro rfl; exact absurd h1 (UInt8.lt_irrefl _)
      simp [h1, h2, h3]
    · by_cases h2 : b < a
      · have h3 : (a == b) = false := by simp; rintro rfl; exact h1 h2
        simp [h1, h2, h3]
      · have : a = b := UInt8.le_antisymm (UInt8.not_lt.1 h2) (UInt8.not_lt.1 h1)
        subst this
        simp [UInt8.lt_irrefl]
theorem mark_g {P : Program} {t e : TypeId} {h : GH} {k n c : Nat} {B : GB} {K : Value → GH → Prop} (ht : P.underlying t = some (.slice e)) (he : P.underlying e = some (.int .u8)) (hk : h k = some B) (hw : B.wr = true) (hn : n ≠ 0)
    (g : ∀ h', h' k = some ⟨B.cells, B.es, false, false⟩ → (∀ j, j ≠ k → h' j = h j) → K (.slice (some ⟨k, 0, none⟩) n c) h') : gMark P t t h (.slice (some ⟨k, 0, none⟩) n c) K :=
  ⟨rfl, e, _, n, c, B, rfl, hn, ht, he, hk, hw, g _ (hset_same _ _ _) (fun j hj => hset_ne _ _ hj)⟩
theorem tab_at {T : List UInt8} {f : Nat → Nat} {x : UInt8} (h : ((List.range 256).all fun n => T[n]? == some (UInt8.ofNat (f n))) = true) : T[x.toNat]? = some (UInt8.ofNat (f x.toNat)) := by
  rw [List.all_eq_true] at h
  simpa using h x.toNat (by simpa using x.toNat_lt)
theorem bstr_list (l : List UInt8) : (bstr l).toList = l := by simp [bstr, ByteArray.toList_eq]
/-- The run-time's compare. -/
theorem gtri_cmp {P : Program} {N : Nat} {f : FuncId} {fn : Func} (hf : P.funcs[f]? = some fn) (hname : (fn.name == "runtime.NumGoroutine") = false) (hb : fn.body.isNone = true) (hn : Extern.findNext fn = none) (he : Extern.find fn = some Extern.BytealgCompare.compare)
    {h : GH} {v u : Value} {l m : List UInt8} (r1 : RB h v l) (r2 : RB h u m) : GTri P N f [v, u] h fun x h' => x = .int .i64 (Lib.compareBytes l m) ∧ h' = h := by
  intro hG φ w args' s ha
  refine .inr ?_
  obtain ⟨args'⟩ := args'
  cases ha with
  | cons h1 ha =>
  cases ha with
  | cons h2 ha =>
  cases ha
  rename_i v' u'
  refine ⟨_, _, φ, h, w, ?_, Ext.refl _, s, .int .i64 (Lib.compareBytes l m), Below.refl _ _, rfl, rfl⟩
  rw [run_callFunc_extern hf hname hb hn he]
  have e : Extern.BytealgCompare.compare #[v', u'] = (do pure (goInt (Extern.BytealgCompare.cmp (← Extern.Bytes.bytesOf v') (← Extern.Bytes.bytesOf u')))) := rfl
  show ((Extern.BytealgCompare.compare #[v', u']).run P w).andThen _ = _
  rw [e]
  simp [r1.bytesOf s h1, r2.bytesOf s h2, Lib.cmp_eq, bstr, goInt]
end Go.Gh
