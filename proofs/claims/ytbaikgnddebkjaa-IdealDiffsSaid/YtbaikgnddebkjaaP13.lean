/- Parts of this claim's proof, 13. No statement of the claim stands here. -/
import Derived.Test.YtbaikgnddebkjaaP12
/- Versions: what is kept and what the document's own index tells are the same. Plain laws. -/

namespace Go.Gh
open Go Go.Proofs Go.RowKit
set_option linter.unusedVariables false
set_option linter.unusedSimpArgs false
set_option maxRecDepth 100000
set_option maxHeartbeats 2000000

/-! ## An identity's changes, of so many batches -/
theorem newsp_iff {ep : Nat} {b : List Bnd} {id : List UInt8} {p : Nat × Nat} : ∀ {i : Nat}, p ∈ newsp ep b i id ↔ p.1 = ep ∧ p.2 < i ∧ (bat1 b p.2).1 = id
  | 0 => by simp [newsp]
  | i + 1 => by
    simp only [newsp, List.mem_append, newsp_iff (i := i)]
    constructor
    · rintro (⟨h1, h2, h3⟩ | h)
      · exact ⟨h1, by omega, h3⟩
      · split at h
        · rename_i hid
          obtain rfl := List.mem_singleton.1 h
          exact ⟨rfl, Nat.lt_succ_self _, hid.symm⟩
        · simp at h
    · rintro ⟨h1, h2, h3⟩
      rcases Nat.lt_or_ge p.2 i with h | h
      · exact .inl ⟨h1, h, h3⟩
      · have e : p.2 = i := by omega
        rw [e] at h3
        rw [if_pos h3.symm]
        exact .inr (by obtain ⟨p1, p2⟩ := p; simp only at h1 e; rw [h1, e]; exact List.mem_singleton.2 rfl)
/-! ## What is listed -/
/-! ## Whether a batch may be added -/
theorem seen_keys (b : List Bnd) : ∀ i, i ≤ b.length → (mkeys (seenN b i)).length ≤ i ∧ (∀ k, bstr k ∈ mkeys (seenN b i) ↔ ∃ j, j < i ∧ (bat1 b j).1 = k) ∧ ((mkeys (seenN b i)).length = i ↔ ∀ j z, z < j → j < i → (bat1 b j).1 ≠ (bat1 b z).1)
  | 0, _ => ⟨by simp [seenN, mkeys], fun k => by simp [seenN, mkeys], ⟨fun _ j z _ h => by omega, fun _ => rfl⟩⟩
  | i + 1, hi => by
    obtain ⟨h1, h2, h3⟩ := seen_keys b i (by omega)
    rcases mset_keys (bstr (bat1 b i).1) (.int .i64 (i : Int)) (seenN b i) (seenN_ok b i) with ⟨hm, e⟩ | ⟨hm, e⟩
    · simp only [seenN, e]
      obtain ⟨z, hz, hze⟩ := (h2 _).1 hm
      refine ⟨by omega, fun k => ?_, ⟨fun hl => by omega, fun hall => absurd hze.symm (hall i z hz (by omega))⟩⟩
      rw [h2]
      constructor
      · rintro ⟨j, hj, hk⟩; exact ⟨j, by omega, hk⟩
      · rintro ⟨j, hj, hk⟩
        rcases Nat.lt_or_ge j i with h | h
        · exact ⟨j, h, hk⟩
        · obtain rfl : j = i := by omega
          exact ⟨z, hz, hze.trans hk⟩
    · simp only [seenN, e, List.length_append, List.length_singleton]
      refine ⟨by omega, fun k => ?_, ?_⟩
      · rw [List.mem_append, h2, List.mem_singleton]
        constructor
        · rintro (⟨j, hj, hk⟩ | hk)
          · exact ⟨j, by omega, hk⟩
          · exact ⟨i, by omega, (bstr_inj hk).symm⟩
        · rintro ⟨j, hj, hk⟩
          rcases Nat.lt_or_ge j i with h | h
          · exact .inl ⟨j, h, hk⟩
          · obtain rfl : j = i := by omega
            exact .inr (by rw [hk])
      · have hn : ∀ z, z < i → (bat1 b i).1 ≠ (bat1 b z).1 := fun z hz e => hm ((h2 _).2 ⟨z, hz, e.symm⟩)
        constructor
        · intro hl j z hz hj
          rcases Nat.lt_or_ge j i with h | h
          · exact h3.1 (by omega) j z hz h
          · obtain rfl : j = i := by omega
            exact hn z hz
        · intro hall
          have := h3.2 fun j z hz hj => hall j z hz (by omega)
          omega
theorem bat1_get {b : List Bnd} {i : Nat} {p : Bnd} (h : b[i]? = some p) : bat1 b i = p := by simp [bat1, h]
end Go.Gh

/- Ideal: what a diff tells. Plain laws. -/

namespace Go.Gh
open Go Go.Proofs Go.RowKit
set_option linter.unusedVariables false
set_option linter.unusedSimpArgs false
set_option maxRecDepth 100000
set_option maxHeartbeats 2000000

theorem cb_zero : ∀ a b : List UInt8, Lib.compareBytes a b = 0 → a = b
  | [], [], _ => rfl
  | [], _ :: _, h => by simp [Lib.compareBytes] at h
  | _ :: _, [], h => by simp [Lib.compareBytes] at h
  | x :: a, y :: b, h => by
    simp only [Lib.compareBytes, u8lt] at h
    split at h
    · cases h
    · split at h
      · cases h
      · rename_i h1 h2
        have e : x = y := UInt8.toNat_inj.1 (by omega)
        rw [e, cb_zero a b h]
theorem idO_zero {x y : List UInt8} (hx : x.length ≤ 255) (hy : y.length ≤ 255) (h : idO x y = 0) : x = y := by
  have e := cb_zero _ _ h
  unfold gkey at e
  rw [List.take_of_length_le hx, List.take_of_length_le hy] at e
  injection e
/-- What a diff tells of an identity. -/
def dsel (M : List (Int × List Bnd)) (q : Ak) (id : List UInt8) : Option Itm := match atI M id q.to with
  | none => none
  | some (key, ep) => if (ep : Int) > q.fr ∧ (q.sm = true → idO id q.id > 0) then some ((id, key), ep) else none
theorem dsel_id {M : List (Int × List Bnd)} {q : Ak} {id : List UInt8} {z : Itm} (h : dsel M q id = some z) : z.1.1 = id := by
  unfold dsel at h
  split at h
  · cases h
  · split at h
    · cases h; rfl
    · cases h
structure Diff (M : List (Int × List Bnd)) (q : Ak) (L : List Itm) : Prop where
  ord : L.Pairwise fun x y => idO x.1.1 y.1.1 < 0
  mem : ∀ z, z ∈ L ↔ dsel M q z.1.1 = some z
theorem Diff.uniq {M M' : List (Int × List Bnd)} {q q' : Ak} {L L' : List Itm} (x : Diff M q L) (y : Diff M' q' L') (h : ∀ id, dsel M q id = dsel M' q' id) : L = L' := by
  have irr : ∀ z : Itm, ¬ idO z.1.1 z.1.1 < 0 := fun z => by have := tc_id.anti z.1.1 z.1.1; omega
  have nd : ∀ (L : List Itm), (L.Pairwise fun x y => idO x.1.1 y.1.1 < 0) → L.Nodup := by
    intro L p
    refine List.Pairwise.imp ?_ p
    intro a b hab e
    subst e
    exact irr a hab
  have pm : L.Perm L' := (List.perm_ext_iff_of_nodup (nd _ x.ord) (nd _ y.ord)).2 fun z => by rw [x.mem, y.mem, h]
  refine List.Perm.eq_of_pairwise (le := fun x y : Itm => idO x.1.1 y.1.1 < 0) (fun a b ha hb hab hba => ?_) x.ord y.ord pm
  have := tc_id.anti a.1.1 b.1.1
  omega
/-- Where a page ends the next one begins. -/
theorem Diff.drop {M : List (Int × List Bnd)} {q : Ak} {L : List Itm} (x : Diff M { q with sm := false } L) {z : Itm} {i : Nat} (hz : L[i]? = some z) (hs : q.sm = true) (hid : q.id = z.1.1) : Diff M q (L.drop (i + 1)) := by
  have irr : ∀ z : Itm, ¬ idO z.1.1 z.1.1 < 0 := fun z => by have := tc_id.anti z.1.1 z.1.1; omega
  refine ⟨x.ord.sublist (List.drop_sublist _ _), fun w => ?_⟩
  have hd : dsel M q w.1.1 = some w ↔ dsel M { q with sm := false } w.1.1 = some w ∧ idO w.1.1 z.1.1 > 0 := by
    unfold dsel
    simp only [hs, hid]
    cases atI M w.1.1 q.to with
    | none => simp
    | some r =>
      obtain ⟨key, ep⟩ := r
      simp only [forall_const, Bool.false_eq_true, false_implies, and_true]
      by_cases h1 : (ep : Int) > q.fr <;> by_cases h2 : idO w.1.1 z.1.1 > 0 <;> simp [h1, h2]
  rw [hd, ← x.mem]
  have pw := List.pairwise_iff_getElem.1 x.ord
  have hzl := List.getElem?_eq_some_iff.1 hz
  constructor
  · intro hw
    obtain ⟨j, hj⟩ := List.mem_iff_getElem?.1 hw
    rw [List.getElem?_drop] at hj
    have hjl := List.getElem?_eq_some_iff.1 hj
    refine ⟨List.mem_of_getElem? hj, ?_⟩
    have := pw i (i + 1 + j) hzl.1 hjl.1 (by omega)
    rw [hzl.2, hjl.2] at this
    have := tc_id.anti w.1.1 z.1.1
    omega
  · rintro ⟨hw, hgt⟩
    obtain ⟨j, hj⟩ := List.mem_iff_getElem?.1 hw
    have hjl := List.getElem?_eq_some_iff.1 hj
    rcases Nat.lt_trichotomy j i with h | h | h
    · have := pw j i hjl.1 hzl.1 h
      rw [hzl.2, hjl.2] at this
      omega
    · subst h
      rw [hz] at hj
      cases hj
      exact absurd hgt (by have := tc_id.anti z.1.1 z.1.1; omega)
    · refine List.mem_iff_getElem?.2 ⟨j - (i + 1), ?_⟩
      rw [List.getElem?_drop, show i + 1 + (j - (i + 1)) = j by omega]
      exact hj
theorem Diff.len {M : List (Int × List Bnd)} {q : Ak} {L : List Itm} (x : Diff M q L) : ∀ z ∈ L, (z.2 : Int) > q.fr ∧ atI M z.1.1 q.to = some (z.1.2, z.2) := fun z hz => by
  have h := (x.mem z).1 hz
  unfold dsel at h
  split at h
  · cases h
  · rename_i key ep e
    split at h
    · rename_i h1
      obtain ⟨⟨id, k⟩, s⟩ := z
      cases h
      exact ⟨h1.1, e⟩
    · cases h
theorem atI_sps {M : List (Int × List Bnd)} {id : List UInt8} {e : Int} {key : List UInt8} {ep : Nat} (h : atI M id e = some (key, ep)) : ∃ p ∈ sps 0 (M.map (·.2)) id, p.1 = ep ∧ (ep : Int) ≤ e := by
  unfold atI at h
  obtain ⟨ep', h1, h2⟩ := Option.map_eq_some_iff.1 h
  cases h2
  unfold atS at h1
  obtain ⟨p, hp, rfl⟩ := Option.map_eq_some_iff.1 h1
  have := List.mem_of_getLast? hp
  obtain ⟨g1, g2⟩ := List.mem_filter.1 this
  exact ⟨p, g1, rfl, by simpa using g2⟩
theorem mset_cong {s : ByteArray} {x y : Value} {l m : List Value} (hl : mok l = true) (hm : mok m = true) (e : mkeys l = mkeys m) : mkeys (mset s x l) = mkeys (mset s y m) := by
  rcases mset_keys s x l hl with ⟨h1, h2⟩ | ⟨h1, h2⟩ <;> rcases mset_keys s y m hm with ⟨h3, h4⟩ | ⟨h3, h4⟩
  · rw [h2, h4, e]
  · rw [e] at h1; exact absurd h1 h3
  · rw [e] at h1; exact absurd h3 h1
  · rw [h2, h4, e]
theorem seenC_keys (b : List Bnd) : ∀ i, mkeys (seenC b i) = mkeys (seenN b i)
  | 0 => rfl
  | i + 1 => mset_cong (seenC_ok b i) (seenN_ok b i) (seenC_keys b i)
/-- A batch that was taken: its identities are unlike, and short. -/
theorem chkB_dis {p : Pm} {b : List Bnd} (h : chkB p b = 0) : dis b ∧ ∀ x ∈ b, ¬ tooLong p x := by
  unfold chkB at h
  split at h
  · simp at h
  split at h
  · simp at h
  split at h
  · simp at h
  split at h
  · simp at h
  rename_i h1 h2 h3 h4
  refine ⟨?_, fun x hx hq => h3 ⟨x, hx, hq⟩⟩
  have hk := mkeys_len _ (seenC_ok b b.length)
  obtain ⟨g1, _, g3⟩ := seen_keys b b.length (Nat.le_refl _)
  rw [← seenC_keys] at g1 g3
  have hall := g3.1 (by omega)
  exact dis_of fun i j p q hij hp hq e => hall i j hij (List.getElem?_eq_some_iff.1 hp).1 (by rw [bat1_get hp, bat1_get hq, e])
end Go.Gh

/- Ideal: a diff, walked. -/

namespace Go.Gh
open Go Go.Proofs Go.RowKit
set_option linter.unusedVariables false
set_option linter.unusedSimpArgs false
set_option maxRecDepth 100000
set_option maxHeartbeats 4000000

theorem find_keys2 (k : ByteArray) : ∀ (l : List Value), mok l = true → mfind k l ≠ none → k ∈ mkeys l
  | [], _, h => absurd rfl h
  | [u], h, _ => by cases u <;> simp [mok] at h
  | q :: u :: l, h, e => by
    cases q with
    | string q =>
      rw [mfind] at e
      simp only [mkeys, List.mem_cons]
      by_cases hk : (k == q) = true
      · exact .inl ((MapKept.bytes_beq _ _).1 hk)
      · rw [if_neg hk] at e
        exact .inr (find_keys2 k l (by simpa [mok] using h) e)
    | _ => simp [mok] at h
section
variable {h0 h : GH} {k j : Nat} {p : Pm} {ew : Value} {cs l : List Value} {M : List (Int × List Bnd)} {ck : Int} {n : Nat}
theorem IS.key {S : List UInt8 → List (Nat × Nat)} (x : IS h0 h k j p ew cs l M ck n S) {id : List UInt8} (hs : S id ≠ []) : ∃ q, q < (mkeys l).length ∧ kid l q = id := by
  have hf : mfind (bstr id) l ≠ none := fun e => by
    have o := x.sp id
    unfold mget at o
    rw [e] at o
    obtain ⟨a, c, q⟩ := o.form
    have : (S id).length = 0 := by
      simp only [Option.getD_none] at q
      injection q with q1 q2 q3
      exact q2.symm
    exact hs (List.eq_nil_of_length_eq_zero this)
  obtain ⟨q, hq⟩ := List.mem_iff_getElem?.1 (find_keys2 _ _ x.ok hf)
  refine ⟨q, (List.getElem?_eq_some_iff.1 hq).1, ?_⟩
  unfold kid
  rw [hq]
  simp [bstr]
/-- An identity that is a key has a change. -/
theorem IM.kch (x : IM h0 h k j p ew cs l M ck n) {z : Nat} (hz : z < (mkeys l).length) : ∃ (pp : Nat × Nat) (y : Int × List Bnd) (r : List (Nat × Nat)), sps 0 (M.map (·.2)) (kid l z) = pp :: r ∧ M[pp.1]? = some y ∧ pp.2 < y.2.length ∧ (bat1 y.2 pp.2).1 = kid l z ∧ chkB p y.2 = 0 := by
  have hk : (mkeys l)[z]? = some (mkeys l)[z] := List.getElem?_eq_getElem hz
  have h1 := x.ks.2.1 _ (List.mem_of_getElem? hk)
  have hkid : kid l z = (mkeys l)[z].data.toList := by unfold kid; rw [hk]; rfl
  rw [← hkid] at h1
  cases hs : sps 0 (M.map (·.2)) (kid l z) with
  | nil => exact absurd hs h1
  | cons pp r =>
    have hm : pp ∈ sps 0 (M.map (·.2)) (kid l z) := by rw [hs]; exact List.mem_cons_self
    obtain ⟨_, _, b, hb, hl, hid⟩ := sps_mem hm
    rw [Nat.sub_zero, List.getElem?_map] at hb
    obtain ⟨y, hy, rfl⟩ := Option.map_eq_some_iff.1 hb
    refine ⟨pp, y, r, rfl, hy, hl, hid, ?_⟩
    rcases x.ks.2.2.1 y (List.mem_of_getElem? hy) with e | e
    · rw [e] at hl; simp at hl
    · exact e
theorem IM.kshort (x : IM h0 h k j p ew cs l M ck n) {z : Nat} (hz : z < (mkeys l).length) : (kid l z).length ≤ 24 := by
  obtain ⟨pp, y, r, _, hy, hl, hid, hc⟩ := x.kch hz
  have hm := p.may_iff.1 x.may
  have := (chkB_dis hc).2 (bat1 y.2 pp.2) (by
    have : y.2[pp.2]? = some (bat1 y.2 pp.2) := by simp [bat1, List.getElem?_eq_getElem hl]
    exact List.mem_of_getElem? this)
  unfold tooLong at this
  rw [hid] at this
  omega
theorem IM.klen (x : IM h0 h k j p ew cs l M ck n) : (mkeys l).length ≤ 8192 := by
  have hch : ∀ z, ∃ g : Nat, z < (mkeys l).length → ∃ (pp : Nat × Nat) (y : Int × List Bnd), g = 32 * pp.1 + pp.2 ∧ M[pp.1]? = some y ∧ pp.2 < 32 ∧ (bat1 y.2 pp.2).1 = kid l z := fun z => by
    by_cases hz : z < (mkeys l).length
    · obtain ⟨pp, y, r, _, hy, hl, hid, hc⟩ := x.kch hz
      have := (chk_small x.may hc).2
      exact ⟨_, fun _ => ⟨pp, y, rfl, hy, by omega, hid⟩⟩
    · exact ⟨0, fun q => absurd q hz⟩
  obtain ⟨g, hg⟩ := Classical.axiomOfChoice hch
  have hinj : ∀ a b, a < (mkeys l).length → b < (mkeys l).length → g a = g b → a = b := fun a b ha hb e => by
    obtain ⟨p1, y1, e1, m1, l1, i1⟩ := hg a ha
    obtain ⟨p2, y2, e2, m2, l2, i2⟩ := hg b hb
    have h1 : p1.1 = p2.1 := by omega
    have h2 : p1.2 = p2.2 := by omega
    rw [h1, m2] at m1
    cases m1
    rw [h2] at i1
    exact kid_inj x.ks.1 ha hb (i1.symm.trans i2)
  have nd : ((List.range (mkeys l).length).map g).Nodup := by
    unfold List.Nodup
    rw [List.pairwise_map]
    exact List.nodup_range.imp_of_mem fun ha hb hne e => hne (hinj _ _ (List.mem_range.1 ha) (List.mem_range.1 hb) e)
  have := nodup_len 8192 _ nd fun q hq => by
    obtain ⟨z, hz, rfl⟩ := List.mem_map.1 hq
    obtain ⟨pp, y, e, hy, hl, _⟩ := hg z (List.mem_range.1 hz)
    have := (List.getElem?_eq_some_iff.1 hy).1
    have := x.len
    omega
  rw [List.length_map, List.length_range] at this
  exact this
end
theorem RL.cut3 {α : Type} {P : Program} {es : Nat} {R : GH → List Value → α → Prop} {h : GH} {a : Option Addr} {c : Nat} {l : List α} (r : RL es R h (.slice a l.length c) l) {t e : TypeId} {b : Bool} (ht : P.underlying t = some (.slice e)) (he : gsz P e = some (b, es)) {m : Nat} (hm : m ≤ l.length) :
    ∃ a' c', (∀ h', gSlice P t h' (.slice a l.length c) none (some (.int .i64 (m : Int))) (some (.int .i64 (m : Int))) = some (.slice a' m c')) ∧ RL es R h (.slice a' m c') (l.take m) := by
  have hl : (l.take m).length = m := by simp; omega
  rcases r with ⟨c2, hv, rfl⟩ | ⟨ad, c2, cs, hv, h2, h3, h4, h5⟩
  · cases hv
    simp at hm
    subst hm
    exact ⟨none, 0, fun h' => by simp [gSlice, ht, he, gHigh, gLow, gBound], .inl ⟨0, rfl, by simp⟩⟩
  · cases hv
    have hle : m * es ≤ l.length * es := Nat.mul_le_mul_right es hm
    refine ⟨some ⟨ad.block, ad.off, ad.spot⟩, 2 * m + 1, fun h' => ?_, .inr ⟨⟨ad.block, ad.off, ad.spot⟩, 2 * m + 1, cs.take (m * es), by rw [hl], ?_, by omega, fun i x hx => ?_, ?_⟩⟩
    · have hb : 0 ≤ (m : Int) ∧ (m : Int) ≤ ((max l.length (c / 2) : Nat) : Int) := ⟨by omega, by omega⟩
      simp only [gSlice, ht, he, gBound, hb, and_self, if_true, gLow]
      simp
    · rw [hl]
      have := gread_sub h2 0 (m * es) (by omega)
      simpa using this
    · have hi : i < m := by have := (List.getElem?_eq_some_iff.1 hx).1; omega
      rw [List.getElem?_take, if_pos hi] at hx
      have hie : i * es + es ≤ m * es := by
        have := Nat.mul_le_mul_right es (show i + 1 ≤ m by omega)
        rw [Nat.add_mul, Nat.one_mul] at this; exact this
      have := h4 i x hx
      rw [List.drop_take, List.take_take, Nat.min_eq_left (by omega)]
      exact this
    · rw [hl]
      rcases h5 with h5 | h5
      · exact .inl (by omega)
      · exact .inr h5
def dL (M : List (Int × List Bnd)) (q : Ak) (l : List Value) (is : List Nat) : List Itm := is.filterMap fun z => dsel M q (kid l z)

theorem c_diff (N : Nat) {h0 h : GH} {k j : Nat} {p : Pm} {ew : Value} {cs l : List Value} {M : List (Int × List Bnd)} {ck : Int} {n : Nat} (x : IM h0 h k j p ew cs l M ck n) {a : Option Addr} {c : Nat} (q : Ak) (r : RB h (.slice a q.id.length c) q.id) (hl0 : 0 ≤ q.lm) (hl1 : q.lm ≤ 100000)
    {c0 c4 c6 c7 c9 : Value} (hc : [c0, c4, c6, c7, c9].all isCell = true) :
    GTri Try.prog N 75 [.pointer (some ⟨k, 0, none⟩), .agg #[c0, .slice a q.id.length c, .int .i64 q.fr, .int .i64 q.to, c4, .bool q.sm, c6, c7, .int .i64 q.lm, c9]] h fun v h' =>
      (∃ L, Diff M q L ∧ RAn h' v { its := L.take q.lm.toNat, more := decide (q.lm.toNat < L.length) }) ∧ HS h h' := by
  have hml := mkeys_len l x.ok
  have hkl := x.klen
  refine gtri Try.func75 rfl gf75 ok75 (by simp [Try.ntmps75]) ?_
  repeat' (first | (with_reducible first | refine gw_seq ?_ | refine gw_block ?_) | ((first | (with_reducible first | refine gw_region ?_ | refine gw_if ?_ | refine gw_skip ?_ | refine gw_exit ?_ | refine gw_ret ?_) | ((with_reducible first | refine gif_b (fun hb => ?_) (fun hb => ?_) | refine want_t (fun hb => ?_) (fun hb => ?_) | refine want_f (fun hb => ?_) (fun hb => ?_)) <;> (try simp only [hb]) <;> (try simp only [hpr] at hb))) <;> try simp only [List.map, gop, ev, lk, aenv, gyield, gBin, gInt, gStrOp, gUn, gPick, gNil, gExtract, gIfc, gConvK, gIndexO, gIndexVO, gMakeV, gMinV, gMaxV, isInt, gMin, gMax, gBlt, gLenX, gCallV, gInvoke, gNilM, Array.toList_map, vcells, gField, gIndexV, gPart, reduceIte, Nat.reduceAdd, Nat.reduceSub, Nat.reduceMul, Nat.reduceLT, Nat.reduceLeDiff, Nat.reduceEqDiff, Nat.reduceBEq, Int.reduceLT, Int.reduceLE, Int.reduceGT, Int.reduceGE, Int.reduceEq, Int.reduceNe, Int.reduceAdd, Int.reduceSub, Int.reduceMul, Int.reduceNeg, Int.reduceToNat, Int.reduceBEq, Int.reduceBNe, Int.cast_ofNat_Int, List.getElem?_toArray, stp, Try.underlying157, Try.underlying23, Try.underlying24, Try.underlying29, Try.underlying3, Try.underlying36, Try.underlying4, Try.underlying5, Try.underlying62, Try.underlying63, Try.underlying65, Try.underlying68, Try.underlying70, Try.underlying88, Try.underlying89, Try.underlying9, Try.underlying91, Try.underlying97, ty23, ty24, ty36, ty68, ty88, ty62, ty65, ty70, ty91, ty97, ty157, ty29, ty3, ty4, ty5, ty63, ty89, ty9, rs75]))
  refine box_g (by simpa [isCell] using hc) fun k1 h1 m1 s1 f1 n1 => ?_
  refine mk_of ?_; repeat' (first | (with_reducible first | refine gw_seq ?_ | refine gw_block ?_) | ((first | (with_reducible refine mk_to ?_) | (with_reducible first | refine gw_region ?_ | refine gw_if ?_ | refine gw_skip ?_ | refine gw_exit ?_ | refine gw_ret ?_) | ((with_reducible first | refine gif_b (fun hb => ?_) (fun hb => ?_) | refine want_t (fun hb => ?_) (fun hb => ?_) | refine want_f (fun hb => ?_) (fun hb => ?_)) <;> (try simp only [hb]) <;> (try simp only [hpr] at hb))) <;> try simp only [List.map, gop, ev, lk, aenv, gyield, gBin, gInt, gStrOp, gUn, gPick, gNil, gExtract, gIfc, gConvK, gIndexO, gIndexVO, gMakeV, gMinV, gMaxV, isInt, gMin, gMax, gBlt, gLenX, gCallV, gInvoke, gNilM, Array.toList_map, vcells, gField, gIndexV, gPart, reduceIte, Nat.reduceAdd, Nat.reduceSub, Nat.reduceMul, Nat.reduceLT, Nat.reduceLeDiff, Nat.reduceEqDiff, Nat.reduceBEq, Int.reduceLT, Int.reduceLE, Int.reduceGT, Int.reduceGE, Int.reduceEq, Int.reduceNe, Int.reduceAdd, Int.reduceSub, Int.reduceMul, Int.reduceNeg, Int.reduceToNat, Int.reduceBEq, Int.reduceBNe, Int.cast_ofNat_Int, List.getElem?_toArray, stp, Try.underlying157, Try.underlying23, Try.underlying24, Try.underlying29, Try.underlying3, Try.underlying36, Try.underlying4, Try.underlying5, Try.underlying62, Try.underlying63, Try.underlying65, Try.underlying68, Try.underlying70, Try.underlying88, Try.underlying89, Try.underlying9, Try.underlying91, Try.underlying97, ty23, ty24, ty36, ty68, ty88, ty62, ty65, ty70, ty91, ty97, ty157, ty29, ty3, ty4, ty5, ty63, ty89, ty9, rs75]))
  refine new_g fun k2 h2 m2 s2 f2 n2 => ?_
  replace m1 := s2 _ _ m1
  have s12 := s1.trans s2
  have x2 := x.hs s12
  have n2' := s1.none_of n2
  refine mk_of ?_; repeat' (first | (with_reducible first | refine gw_seq ?_ | refine gw_block ?_) | ((first | (with_reducible refine mk_to ?_) | (with_reducible first | refine gw_region ?_ | refine gw_if ?_ | refine gw_skip ?_ | refine gw_exit ?_ | refine gw_ret ?_) | ((with_reducible first | refine gif_b (fun hb => ?_) (fun hb => ?_) | refine want_t (fun hb => ?_) (fun hb => ?_) | refine want_f (fun hb => ?_) (fun hb => ?_)) <;> (try simp only [hb]) <;> (try simp only [hpr] at hb))) <;> try simp only [List.map, gop, ev, lk, aenv, gyield, gBin, gInt, gStrOp, gUn, gPick, gNil, gExtract, gIfc, gConvK, gIndexO, gIndexVO, gMakeV, gMinV, gMaxV, isInt, gMin, gMax, gBlt, gLenX, gCallV, gInvoke, gNilM, Array.toList_map, vcells, gField, gIndexV, gPart, reduceIte, Nat.reduceAdd, Nat.reduceSub, Nat.reduceMul, Nat.reduceLT, Nat.reduceLeDiff, Nat.reduceEqDiff, Nat.reduceBEq, Int.reduceLT, Int.reduceLE, Int.reduceGT, Int.reduceGE, Int.reduceEq, Int.reduceNe, Int.reduceAdd, Int.reduceSub, Int.reduceMul, Int.reduceNeg, Int.reduceToNat, Int.reduceBEq, Int.reduceBNe, Int.cast_ofNat_Int, List.getElem?_toArray, stp, Try.underlying157, Try.underlying23, Try.underlying24, Try.underlying29, Try.underlying3, Try.underlying36, Try.underlying4, Try.underlying5, Try.underlying62, Try.underlying63, Try.underlying65, Try.underlying68, Try.underlying70, Try.underlying88, Try.underlying89, Try.underlying9, Try.underlying91, Try.underlying97, ty23, ty24, ty36, ty68, ty88, ty62, ty65, ty70, ty91, ty97, ty157, ty29, ty3, ty4, ty5, ty63, ty89, ty9, rs75, gNil, gload1 x2.obj sz89, List.getElem?_cons_zero, List.getElem?_cons_succ]))
  have hmo : ∀ {h' : GH}, HS h2 h' → gMapOf h' (.map (some j)) = some l := fun {h'} s => by
    have := s _ _ x2.mp
    simp only [gMapOf, this, x.ok, if_true]
  refine ⟨_, _, j, l, Try.underlying89, rfl, hmo (HS.refl h2), fun it hi hi1 => ?_⟩
  have hdiv : l.length / 2 = (mkeys l).length := by omega
  rw [hdiv]
  generalize hh1 : hset h2 (it + 1) ⟨[IT, .map (some j), .int .i64 (((mkeys l).length : Nat) : Int)], 0, true, false⟩ = h3
  have m3 : h3 (it + 1) = some ⟨[IT, .map (some j), .int .i64 (((mkeys l).length : Nat) : Int)], 0, true, false⟩ := by rw [← hh1]; exact hset_same _ _ _
  have s3 : HS h2 h3 := by rw [← hh1]; exact HS.new hi1 _
  clear hh1
  refine mk_of ?_; repeat' (first | (with_reducible first | refine gw_seq ?_ | refine gw_block ?_) | ((first | (with_reducible refine mk_to ?_) | (with_reducible first | refine gw_region ?_ | refine gw_if ?_ | refine gw_skip ?_ | refine gw_exit ?_ | refine gw_ret ?_) | ((with_reducible first | refine gif_b (fun hb => ?_) (fun hb => ?_) | refine want_t (fun hb => ?_) (fun hb => ?_) | refine want_f (fun hb => ?_) (fun hb => ?_)) <;> (try simp only [hb]) <;> (try simp only [hpr] at hb))) <;> try simp only [List.map, gop, ev, lk, aenv, gyield, gBin, gInt, gStrOp, gUn, gPick, gNil, gExtract, gIfc, gConvK, gIndexO, gIndexVO, gMakeV, gMinV, gMaxV, isInt, gMin, gMax, gBlt, gLenX, gCallV, gInvoke, gNilM, Array.toList_map, vcells, gField, gIndexV, gPart, reduceIte, Nat.reduceAdd, Nat.reduceSub, Nat.reduceMul, Nat.reduceLT, Nat.reduceLeDiff, Nat.reduceEqDiff, Nat.reduceBEq, Int.reduceLT, Int.reduceLE, Int.reduceGT, Int.reduceGE, Int.reduceEq, Int.reduceNe, Int.reduceAdd, Int.reduceSub, Int.reduceMul, Int.reduceNeg, Int.reduceToNat, Int.reduceBEq, Int.reduceBNe, Int.cast_ofNat_Int, List.getElem?_toArray, stp, Try.underlying157, Try.underlying23, Try.underlying24, Try.underlying29, Try.underlying3, Try.underlying36, Try.underlying4, Try.underlying5, Try.underlying62, Try.underlying63, Try.underlying65, Try.underlying68, Try.underlying70, Try.underlying88, Try.underlying89, Try.underlying9, Try.underlying91, Try.underlying97, ty23, ty24, ty36, ty68, ty88, ty62, ty65, ty70, ty91, ty97, ty157, ty29, ty3, ty4, ty5, ty63, ty89, ty9, rs75]))
  refine gw_loop2 [0, 3, 4, 14] (fun (y : Option Addr × Nat × Nat) => [(5, .slice y.1 y.2.1 y.2.2)])
    (fun qq y h' => HS h2 h' ∧ ∃ (is : List Nat) (ds : List Value), (mkeys l).length - is.length = qq ∧ is.Nodup ∧ (∀ z ∈ is, z < (mkeys l).length) ∧ h' (it + 1) = some ⟨IT :: .map (some j) :: .int .i64 (((mkeys l).length : Nat) : Int) :: is.map (fun q : Nat => .int .i64 (q : Int)), 0, true, false⟩ ∧
      OWNC 3 h2 h' (.slice y.1 y.2.1 y.2.2) (dL M q l is).length ds ∧ ds.all notU8 = true ∧ ds.all isCell = true ∧ ∀ (i : Nat) x, (dL M q l is)[i]? = some x → It h' ((ds.drop (i * 3)).take 3) x) (mkeys l).length (none, 0, 0) (by simp [lk])
    ⟨s3, [], [], by simp, List.nodup_nil, by simp, m3, OWNC.nil _ _ _, rfl, rfl, fun i x hx => by simp [dL] at hx⟩ ?_
  clear m3 s3
  rintro _ ⟨a3, n3, c3⟩ h3 ⟨s3, is, ds, rfl, nd, lt, m3, o3, u3, ic3, r3⟩
  have x3 := x2.hs s3
  refine mk_of ?_; repeat' (first | (with_reducible first | refine gw_seq ?_ | refine gw_block ?_) | ((first | (with_reducible refine mk_to ?_) | (with_reducible first | refine gw_region ?_ | refine gw_if ?_ | refine gw_skip ?_ | refine gw_exit ?_ | refine gw_ret ?_) | ((with_reducible first | refine gif_b (fun hb => ?_) (fun hb => ?_) | refine want_t (fun hb => ?_) (fun hb => ?_) | refine want_f (fun hb => ?_) (fun hb => ?_)) <;> (try simp only [hb]) <;> (try simp only [hpr] at hb))) <;> try simp only [List.map, gop, ev, lk, aenv, gyield, gBin, gInt, gStrOp, gUn, gPick, gNil, gExtract, gIfc, gConvK, gIndexO, gIndexVO, gMakeV, gMinV, gMaxV, isInt, gMin, gMax, gBlt, gLenX, gCallV, gInvoke, gNilM, Array.toList_map, vcells, gField, gIndexV, gPart, reduceIte, Nat.reduceAdd, Nat.reduceSub, Nat.reduceMul, Nat.reduceLT, Nat.reduceLeDiff, Nat.reduceEqDiff, Nat.reduceBEq, Int.reduceLT, Int.reduceLE, Int.reduceGT, Int.reduceGE, Int.reduceEq, Int.reduceNe, Int.reduceAdd, Int.reduceSub, Int.reduceMul, Int.reduceNeg, Int.reduceToNat, Int.reduceBEq, Int.reduceBNe, Int.cast_ofNat_Int, List.getElem?_toArray, stp, Try.underlying157, Try.underlying23, Try.underlying24, Try.underlying29, Try.underlying3, Try.underlying36, Try.underlying4, Try.underlying5, Try.underlying62, Try.underlying63, Try.underlying65, Try.underlying68, Try.underlying70, Try.underlying88, Try.underlying89, Try.underlying9, Try.underlying91, Try.underlying97, ty23, ty24, ty36, ty68, ty88, ty62, ty65, ty70, ty91, ty97, ty157, ty29, ty3, ty4, ty5, ty63, ty89, ty9, rs75]))
  refine ⟨it, j, (mkeys l).length, is.map (fun q : Nat => .int .i64 (q : Int)), _, l, rfl, m3, rfl, hmo s3, hml, fun hall => ?_, fun z key v hq hns hkey hv => ?_⟩
  · -- all were met
    have hmem : ∀ z, z ∈ is ↔ z < (mkeys l).length := fun z => ⟨lt z, fun h => by
      obtain ⟨z', hz', e⟩ := List.mem_map.1 (hall z h)
      have : z' = z := by simp at e; omega
      subst this; exact hz'⟩
    have n3L : n3 = (dL M q l is).length := by
      obtain ⟨_, _, q⟩ := o3.form
      cases q; rfl
    subst n3L
    have hcl : (dL M q l is).length ≤ 8192 := by
      have h1 : (dL M q l is).length ≤ is.length := List.length_filterMap_le _ _
      have h2 := nodup_len _ is nd lt
      omega
    refine mk_of ?_; repeat' (first | (with_reducible first | refine gw_seq ?_ | refine gw_block ?_) | ((first | (with_reducible refine mk_to ?_) | (with_reducible first | refine gw_region ?_ | refine gw_if ?_ | refine gw_skip ?_ | refine gw_exit ?_ | refine gw_ret ?_) | ((with_reducible first | refine gif_b (fun hb => ?_) (fun hb => ?_) | refine want_t (fun hb => ?_) (fun hb => ?_) | refine want_f (fun hb => ?_) (fun hb => ?_)) <;> (try simp only [hb]) <;> (try simp only [hpr] at hb))) <;> try simp only [List.map, gop, ev, lk, aenv, gyield, gBin, gInt, gStrOp, gUn, gPick, gNil, gExtract, gIfc, gConvK, gIndexO, gIndexVO, gMakeV, gMinV, gMaxV, isInt, gMin, gMax, gBlt, gLenX, gCallV, gInvoke, gNilM, Array.toList_map, vcells, gField, gIndexV, gPart, reduceIte, Nat.reduceAdd, Nat.reduceSub, Nat.reduceMul, Nat.reduceLT, Nat.reduceLeDiff, Nat.reduceEqDiff, Nat.reduceBEq, Int.reduceLT, Int.reduceLE, Int.reduceGT, Int.reduceGE, Int.reduceEq, Int.reduceNe, Int.reduceAdd, Int.reduceSub, Int.reduceMul, Int.reduceNeg, Int.reduceToNat, Int.reduceBEq, Int.reduceBNe, Int.cast_ofNat_Int, List.getElem?_toArray, stp, Try.underlying157, Try.underlying23, Try.underlying24, Try.underlying29, Try.underlying3, Try.underlying36, Try.underlying4, Try.underlying5, Try.underlying62, Try.underlying63, Try.underlying65, Try.underlying68, Try.underlying70, Try.underlying88, Try.underlying89, Try.underlying9, Try.underlying91, Try.underlying97, ty23, ty24, ty36, ty68, ty88, ty62, ty65, ty70, ty91, ty97, ty157, ty29, ty3, ty4, ty5, ty63, ty89, ty9, rs75]))
    refine (c_sortI N o3 u3 ic3 r3 (by omega)).mono ?_
    rintro _ h4 ⟨l2, cs2, p4, so4, o4, u4, r4, k4, hs4⟩
    have s4 := hs4 s3
    have m14 := s4 _ _ m1
    have m24 := s4 _ _ m2
    have hl2 := p4.length_eq
    have hmd : ∀ z, z ∈ dL M q l is ↔ dsel M q z.1.1 = some z := fun z => by
      unfold dL
      rw [List.mem_filterMap]
      constructor
      · rintro ⟨i, hi, e⟩
        rw [dsel_id e]; exact e
      · intro e
        have hne : sps 0 (M.map (·.2)) z.1.1 ≠ [] := fun q0 => by
          unfold dsel atI at e
          rw [q0] at e
          simp [atS] at e
        obtain ⟨i, hi, hk⟩ := x.key hne
        exact ⟨i, (hmem i).2 hi, by rw [hk]; exact e⟩
    have D : Diff M q l2 := by
      refine ⟨?_, fun z => by rw [p4.mem_iff, hmd]⟩
      have hndM : ((dL M q l is).map (·.1.1)).Nodup := by
        have e : ∀ is : List Nat, is.Nodup → (∀ z ∈ is, z < (mkeys l).length) → ((dL M q l is).map (·.1.1)).Nodup := by
          intro is
          induction is with
          | nil => intro _ _; simp [dL]
          | cons i is ih =>
            intro n h
            have ih := ih (List.nodup_cons.1 n).2 fun z hz => h z (List.mem_cons_of_mem _ hz)
            have e : dL M q l (i :: is) = (match dsel M q (kid l i) with | some p => [p] | none => []) ++ dL M q l is := by
              unfold dL
              rw [List.filterMap_cons]
              cases dsel M q (kid l i) <;> rfl
            rw [e]
            cases hd : dsel M q (kid l i) with
            | none => exact ih
            | some p =>
              simp only [List.cons_append, List.nil_append, List.map_cons, List.nodup_cons]
              refine ⟨fun hm => ?_, ih⟩
              obtain ⟨z, hz, ez⟩ := List.mem_map.1 hm
              unfold dL at hz
              obtain ⟨i', hi', e'⟩ := List.mem_filterMap.1 hz
              have h1 := dsel_id e'
              have h2 := dsel_id hd
              have := kid_inj x.ks.1 (h i' (List.mem_cons_of_mem _ hi')) (h i List.mem_cons_self) (by rw [← h1, ← h2, ez])
              subst this
              exact (List.nodup_cons.1 n).1 hi'
        exact e is nd lt
      have hnd2 : (l2.map (·.1.1)).Nodup := ((p4.map (·.1.1)).nodup_iff).2 hndM
      have hsh : ∀ z ∈ l2, z.1.1.length ≤ 255 := fun z hz => by
        have := (p4.mem_iff.1 hz)
        unfold dL at this
        obtain ⟨i, hi, e⟩ := List.mem_filterMap.1 this
        rw [dsel_id e]
        have := x.kshort (lt i hi)
        omega
      rw [List.pairwise_iff_getElem]
      intro i j hi hj hij
      have h1 : ¬ idO l2[j].1.1 l2[i].1.1 < 0 := so4 i j _ _ hij (List.getElem?_eq_getElem hi) (List.getElem?_eq_getElem hj)
      have h2 := tc_id.anti l2[i].1.1 l2[j].1.1
      rcases Int.lt_or_eq_of_le (show idO l2[i].1.1 l2[j].1.1 ≤ 0 by omega) with h3 | h3
      · exact h3
      · exfalso
        have h4 := idO_zero (hsh _ (List.getElem_mem hi)) (hsh _ (List.getElem_mem hj)) h3
        have pw := List.pairwise_iff_getElem.1 hnd2 i j (by rw [List.length_map]; exact hi) (by rw [List.length_map]; exact hj) hij
        apply pw
        simp only [List.getElem_map]
        exact h4
    rw [← hl2] at hcl ⊢
    have o4' : OWNC 3 h2 h4 (.slice a3 l2.length c3) l2.length cs2 := by
      rw [hl2] at o4 ⊢
      exact o4
    have rl4 : RL 3 It h4 (.slice a3 l2.length c3) l2 := o4'.rl r4
    obtain ⟨lm, hlm⟩ : ∃ lm : Nat, q.lm = (lm : Int) := ⟨q.lm.toNat, by omega⟩
    have hlmt : q.lm.toNat = lm := by omega
    rw [hlm] at m14
    have mn : (if (lm : Int) < (l2.length : Int) then (lm : Int) else (l2.length : Int)) = ((min l2.length lm : Nat) : Int) := by split <;> omega
    obtain ⟨a5, c5, e5, r5⟩ := rl4.cut3 (P := Try.prog) Try.underlying68 sz97 (m := min l2.length lm) (Nat.min_le_left _ _)
    have htk : l2.take (min l2.length lm) = l2.take lm := by
      rcases Nat.le_total l2.length lm with h | h
      · rw [Nat.min_eq_left h, List.take_length, List.take_of_length_le h]
      · rw [Nat.min_eq_right h]
    have dm : decide (((min l2.length lm : Nat) : Int) < (l2.length : Int)) = decide (lm < l2.length) := by
      by_cases h : lm < l2.length
      · rw [decide_eq_true h, decide_eq_true (by omega)]
      · rw [decide_eq_false h, decide_eq_false (by omega)]
    refine mk_of ?_; repeat' (first | (with_reducible first | refine gw_seq ?_ | refine gw_block ?_) | ((first | (with_reducible refine mk_to ?_) | (with_reducible first | refine gw_region ?_ | refine gw_if ?_ | refine gw_skip ?_ | refine gw_exit ?_ | refine gw_ret ?_) | ((with_reducible first | refine gif_b (fun hb => ?_) (fun hb => ?_) | refine want_t (fun hb => ?_) (fun hb => ?_) | refine want_f (fun hb => ?_) (fun hb => ?_)) <;> (try simp only [hb]) <;> (try simp only [hpr] at hb))) <;> try simp only [List.map, gop, ev, lk, aenv, gyield, gBin, gInt, gStrOp, gUn, gPick, gNil, gExtract, gIfc, gConvK, gIndexO, gIndexVO, gMakeV, gMinV, gMaxV, isInt, gMin, gMax, gBlt, gLenX, gCallV, gInvoke, gNilM, Array.toList_map, vcells, gField, gIndexV, gPart, reduceIte, Nat.reduceAdd, Nat.reduceSub, Nat.reduceMul, Nat.reduceLT, Nat.reduceLeDiff, Nat.reduceEqDiff, Nat.reduceBEq, Int.reduceLT, Int.reduceLE, Int.reduceGT, Int.reduceGE, Int.reduceEq, Int.reduceNe, Int.reduceAdd, Int.reduceSub, Int.reduceMul, Int.reduceNeg, Int.reduceToNat, Int.reduceBEq, Int.reduceBNe, Int.cast_ofNat_Int, List.getElem?_toArray, stp, Try.underlying157, Try.underlying23, Try.underlying24, Try.underlying29, Try.underlying3, Try.underlying36, Try.underlying4, Try.underlying5, Try.underlying62, Try.underlying63, Try.underlying65, Try.underlying68, Try.underlying70, Try.underlying88, Try.underlying89, Try.underlying9, Try.underlying91, Try.underlying97, ty23, ty24, ty36, ty68, ty88, ty62, ty65, ty70, ty91, ty97, ty157, ty29, ty3, ty4, ty5, ty63, ty89, ty9, rs75, mn, e5, dm, gload1 m14 sz3, List.getElem?_cons_zero, List.getElem?_cons_succ, gBuild, lfill, lput, Shape.pl, List.all_cons, List.all_nil, isCell]))
    refine st_all m24 sz70 rfl (by decide) rfl rfl rfl fun h5 m5 f5 => ?_
    refine mk_of ?_; repeat' (first | (with_reducible first | refine gw_seq ?_ | refine gw_block ?_) | ((first | (with_reducible refine mk_to ?_) | (with_reducible first | refine gw_region ?_ | refine gw_if ?_ | refine gw_skip ?_ | refine gw_exit ?_ | refine gw_ret ?_) | ((with_reducible first | refine gif_b (fun hb => ?_) (fun hb => ?_) | refine want_t (fun hb => ?_) (fun hb => ?_) | refine want_f (fun hb => ?_) (fun hb => ?_)) <;> (try simp only [hb]) <;> (try simp only [hpr] at hb))) <;> try simp only [List.map, gop, ev, lk, aenv, gyield, gBin, gInt, gStrOp, gUn, gPick, gNil, gExtract, gIfc, gConvK, gIndexO, gIndexVO, gMakeV, gMinV, gMaxV, isInt, gMin, gMax, gBlt, gLenX, gCallV, gInvoke, gNilM, Array.toList_map, vcells, gField, gIndexV, gPart, reduceIte, Nat.reduceAdd, Nat.reduceSub, Nat.reduceMul, Nat.reduceLT, Nat.reduceLeDiff, Nat.reduceEqDiff, Nat.reduceBEq, Int.reduceLT, Int.reduceLE, Int.reduceGT, Int.reduceGE, Int.reduceEq, Int.reduceNe, Int.reduceAdd, Int.reduceSub, Int.reduceMul, Int.reduceNeg, Int.reduceToNat, Int.reduceBEq, Int.reduceBNe, Int.cast_ofNat_Int, List.getElem?_toArray, stp, Try.underlying157, Try.underlying23, Try.underlying24, Try.underlying29, Try.underlying3, Try.underlying36, Try.underlying4, Try.underlying5, Try.underlying62, Try.underlying63, Try.underlying65, Try.underlying68, Try.underlying70, Try.underlying88, Try.underlying89, Try.underlying9, Try.underlying91, Try.underlying97, ty23, ty24, ty36, ty68, ty88, ty62, ty65, ty70, ty91, ty97, ty157, ty29, ty3, ty4, ty5, ty63, ty89, ty9, rs75, gloadA m5 sz70 rfl]))
    have hx : HX k2 h4 h5 := fun j B n e => (f5 j n).trans e
    refine ⟨⟨l2, D, ?_⟩, (s12.trans s4).upd n2' f5⟩
    rw [hlmt]
    have hln : (l2.take lm).length = min l2.length lm := by rw [List.length_take, Nat.min_comm]
    rw [htk] at r5
    rw [← hln] at r5 ⊢
    refine ⟨none, 0, a5, c5, none, 0, rfl, RB.nil h5, r5.hxR m24 ⟨rfl, rfl⟩ hx fun cs y r => ?_, RL.nil h5⟩
    obtain ⟨a, c, b, d, e, r1, r2⟩ := r
    exact ⟨a, c, b, d, e, r1.hx m24 rfl hx, r2.hx m24 rfl hx⟩
  obtain ⟨kb, rfl, hkq, hfd⟩ := mat_find l z key v x.ok x.ks.1 hkey hv
  have hid : kid l z = kb.data.toList := by unfold kid; rw [hkq]; rfl
  have hshort : kb.data.toList.length ≤ 24 := by rw [← hid]; exact x.kshort hq
  generalize hh4 : hset h3 (it + 1) _ = h4
  have m4 : h4 (it + 1) = some ⟨IT :: .map (some j) :: .int .i64 (((mkeys l).length : Nat) : Int) :: (is.map (fun q : Nat => .int .i64 (q : Int)) ++ [.int .i64 (z : Int)]), 0, true, false⟩ := by rw [← hh4]; exact hset_same _ _ _
  have f4 : ∀ i, i ≠ it + 1 → h4 i = h3 i := fun i hi => by rw [← hh4]; exact hset_ne _ _ hi
  have s4 : HS h2 h4 := s3.upd hi1 f4
  clear hh4
  have x4 := x2.hs s4
  have uit : (⟨IT :: .map (some j) :: .int .i64 (((mkeys l).length : Nat) : Int) :: is.map (fun q : Nat => .int .i64 (q : Int)), 0, true, false⟩ : GB).cells.all notU8 = true := by simp [notU8]
  have hx4 : HX (it + 1) h3 h4 := fun i B n e => (f4 i n).trans e
  refine mk_of ?_; repeat' (first | (with_reducible first | refine gw_seq ?_ | refine gw_block ?_) | ((first | (with_reducible refine mk_to ?_) | (with_reducible first | refine gw_region ?_ | refine gw_if ?_ | refine gw_skip ?_ | refine gw_exit ?_ | refine gw_ret ?_) | ((with_reducible first | refine gif_b (fun hb => ?_) (fun hb => ?_) | refine want_t (fun hb => ?_) (fun hb => ?_) | refine want_f (fun hb => ?_) (fun hb => ?_)) <;> (try simp only [hb]) <;> (try simp only [hpr] at hb))) <;> try simp only [List.map, gop, ev, lk, aenv, gyield, gBin, gInt, gStrOp, gUn, gPick, gNil, gExtract, gIfc, gConvK, gIndexO, gIndexVO, gMakeV, gMinV, gMaxV, isInt, gMin, gMax, gBlt, gLenX, gCallV, gInvoke, gNilM, Array.toList_map, vcells, gField, gIndexV, gPart, reduceIte, Nat.reduceAdd, Nat.reduceSub, Nat.reduceMul, Nat.reduceLT, Nat.reduceLeDiff, Nat.reduceEqDiff, Nat.reduceBEq, Int.reduceLT, Int.reduceLE, Int.reduceGT, Int.reduceGE, Int.reduceEq, Int.reduceNe, Int.reduceAdd, Int.reduceSub, Int.reduceMul, Int.reduceNeg, Int.reduceToNat, Int.reduceBEq, Int.reduceBNe, Int.cast_ofNat_Int, List.getElem?_toArray, stp, Try.underlying157, Try.underlying23, Try.underlying24, Try.underlying29, Try.underlying3, Try.underlying36, Try.underlying4, Try.underlying5, Try.underlying62, Try.underlying63, Try.underlying65, Try.underlying68, Try.underlying70, Try.underlying88, Try.underlying89, Try.underlying9, Try.underlying91, Try.underlying97, ty23, ty24, ty36, ty68, ty88, ty62, ty65, ty70, ty91, ty97, ty157, ty29, ty3, ty4, ty5, ty63, ty89, ty9, rs75]))
  refine ⟨it, j, (mkeys l).length, z, is.map (fun q : Nat => .int .i64 (q : Int)), _, l, .string kb, v, rfl, m4, rfl, hmo s4, hml, hkey, hv, ?_⟩
  have nd' : (is ++ [z]).Nodup := by
    rw [List.nodup_append]
    refine ⟨nd, by simp, fun a ha b hb e => hns ?_⟩
    obtain rfl := List.mem_singleton.1 hb
    rw [← e]
    exact List.mem_map.2 ⟨a, ha, rfl⟩
  have lt' : ∀ y ∈ is ++ [z], y < (mkeys l).length := fun y hy => by
    rcases List.mem_append.1 hy with hy | hy
    · exact lt y hy
    · obtain rfl := List.mem_singleton.1 hy; exact hq
  have hlen' := nodup_len _ _ nd' lt'
  rw [List.length_append, List.length_singleton] at hlen'
  have mm4 : h4 (it + 1) = some ⟨IT :: .map (some j) :: .int .i64 (((mkeys l).length : Nat) : Int) :: (is ++ [z]).map (fun q : Nat => .int .i64 (q : Int)), 0, true, false⟩ := by rw [m4, List.map_append]; rfl
  have o4 : OWNC 3 h2 h4 (.slice a3 n3 c3) (dL M q l is).length ds := o3.hx m3 (by simp) hx4
  have n3L : n3 = (dL M q l is).length := by
    obtain ⟨_, _, q⟩ := o3.form
    cases q; rfl
  subst n3L
  have hdl : (dL M q l is).length ≤ is.length := List.length_filterMap_le _ _
  have fr4 : ∀ {q : List Value} {ee : Itm}, It h3 q ee → It h4 q ee := fun {q ee} w => by
    obtain ⟨a, c, b, d, e, r1, r2⟩ := w
    exact ⟨a, c, b, d, e, r1.hx m3 uit hx4, r2.hx m3 uit hx4⟩
  have fr45 : ∀ {h' : GH} (s : HS h4 h') {q : List Value} {ee : Itm}, It h3 q ee → It h' q ee := fun {h'} s {q ee} w => (fr4 w).hs s
  have hch : ∀ o, dsel M q kb.data.toList = o → dL M q l (is ++ [z]) = dL M q l is ++ (match o with | some p => [p] | none => []) := fun o ho => by
    unfold dL
    rw [List.filterMap_append]
    congr 1
    simp only [List.filterMap_cons, List.filterMap_nil, hid, ho]
    cases o <;> rfl
  have skip : dsel M q kb.data.toList = none → ∀ h', HS h4 h' → HS h2 h' ∧ ∃ (is' : List Nat) (ds' : List Value), (mkeys l).length - is'.length < (mkeys l).length - is.length ∧ is'.Nodup ∧ (∀ q ∈ is', q < (mkeys l).length) ∧ h' (it + 1) = some ⟨IT :: .map (some j) :: .int .i64 (((mkeys l).length : Nat) : Int) :: is'.map (fun q : Nat => .int .i64 (q : Int)), 0, true, false⟩ ∧
      OWNC 3 h2 h' (.slice a3 (dL M q l is).length c3) (dL M q l is').length ds' ∧ ds'.all notU8 = true ∧ ds'.all isCell = true ∧ ∀ (i : Nat) x, (dL M q l is')[i]? = some x → It h' ((ds'.drop (i * 3)).take 3) x := fun hno h' s => by
    have e := hch _ hno
    simp only [List.append_nil] at e
    refine ⟨s4.trans s, is ++ [z], ds, by rw [List.length_append, List.length_singleton]; omega, nd', lt', s _ _ mm4, by rw [e]; exact o4.hs s, u3, ic3, fun i x hx => ?_⟩
    rw [e] at hx
    exact fr45 s (r3 i x hx)
  have m14 := s4 _ _ m1
  simp only [List.map, gop, ev, lk, aenv, gyield, gBin, gInt, gStrOp, gUn, gPick, gNil, gExtract, gIfc, gConvK, gIndexO, gIndexVO, gMakeV, gMinV, gMaxV, isInt, gMin, gMax, gBlt, gLenX, gCallV, gInvoke, gNilM, Array.toList_map, vcells, gField, gIndexV, gPart, reduceIte, Nat.reduceAdd, Nat.reduceSub, Nat.reduceMul, Nat.reduceLT, Nat.reduceLeDiff, Nat.reduceEqDiff, Nat.reduceBEq, Int.reduceLT, Int.reduceLE, Int.reduceGT, Int.reduceGE, Int.reduceEq, Int.reduceNe, Int.reduceAdd, Int.reduceSub, Int.reduceMul, Int.reduceNeg, Int.reduceToNat, Int.reduceBEq, Int.reduceBNe, Int.cast_ofNat_Int, List.getElem?_toArray, stp, Try.underlying157, Try.underlying23, Try.underlying24, Try.underlying29, Try.underlying3, Try.underlying36, Try.underlying4, Try.underlying5, Try.underlying62, Try.underlying63, Try.underlying65, Try.underlying68, Try.underlying70, Try.underlying88, Try.underlying89, Try.underlying9, Try.underlying91, Try.underlying97, ty23, ty24, ty36, ty68, ty88, ty62, ty65, ty70, ty91, ty97, ty157, ty29, ty3, ty4, ty5, ty63, ty89, ty9, rs75]
  refine gw_seq ?_
  refine gr_of ?_
  refine gr_cut 2 ?_
  simp only [List.map, gop, ev, lk, aenv, gyield, gBin, gInt, gStrOp, gUn, gPick, gNil, gExtract, gIfc, gConvK, gIndexO, gIndexVO, gMakeV, gMinV, gMaxV, isInt, gMin, gMax, gBlt, gLenX, gCallV, gInvoke, gNilM, Array.toList_map, vcells, gField, gIndexV, gPart, reduceIte, Nat.reduceAdd, Nat.reduceSub, Nat.reduceMul, Nat.reduceLT, Nat.reduceLeDiff, Nat.reduceEqDiff, Nat.reduceBEq, Int.reduceLT, Int.reduceLE, Int.reduceGT, Int.reduceGE, Int.reduceEq, Int.reduceNe, Int.reduceAdd, Int.reduceSub, Int.reduceMul, Int.reduceNeg, Int.reduceToNat, Int.reduceBEq, Int.reduceBNe, Int.cast_ofNat_Int, List.getElem?_toArray, stp, Try.underlying157, Try.underlying23, Try.underlying24, Try.underlying29, Try.underlying3, Try.underlying36, Try.underlying4, Try.underlying5, Try.underlying62, Try.underlying63, Try.underlying65, Try.underlying68, Try.underlying70, Try.underlying88, Try.underlying89, Try.underlying9, Try.underlying91, Try.underlying97, ty23, ty24, ty36, ty68, ty88, ty62, ty65, ty70, ty91, ty97, ty157, ty29, ty3, ty4, ty5, ty63, ty89, ty9, rs75]
  refine gr_sb Try.underlying9 Try.underlying24 Try.underlying5 rfl fun k6 h6 m6 s6' f6 n6 => ?_
  have m16 := s6' _ _ m14
  refine gr_end ?_
  simp only [eput]
  refine mk_of ?_; repeat' (first | (with_reducible first | refine gw_seq ?_ | refine gw_block ?_) | ((first | (with_reducible refine mk_to ?_) | (with_reducible first | refine gw_region ?_ | refine gw_if ?_ | refine gw_skip ?_ | refine gw_exit ?_ | refine gw_ret ?_) | ((with_reducible first | refine gif_b (fun hb => ?_) (fun hb => ?_) | refine want_t (fun hb => ?_) (fun hb => ?_) | refine want_f (fun hb => ?_) (fun hb => ?_)) <;> (try simp only [hb]) <;> (try simp only [hpr] at hb))) <;> try simp only [List.map, gop, ev, lk, aenv, gyield, gBin, gInt, gStrOp, gUn, gPick, gNil, gExtract, gIfc, gConvK, gIndexO, gIndexVO, gMakeV, gMinV, gMaxV, isInt, gMin, gMax, gBlt, gLenX, gCallV, gInvoke, gNilM, Array.toList_map, vcells, gField, gIndexV, gPart, reduceIte, Nat.reduceAdd, Nat.reduceSub, Nat.reduceMul, Nat.reduceLT, Nat.reduceLeDiff, Nat.reduceEqDiff, Nat.reduceBEq, Int.reduceLT, Int.reduceLE, Int.reduceGT, Int.reduceGE, Int.reduceEq, Int.reduceNe, Int.reduceAdd, Int.reduceSub, Int.reduceMul, Int.reduceNeg, Int.reduceToNat, Int.reduceBEq, Int.reduceBNe, Int.cast_ofNat_Int, List.getElem?_toArray, stp, Try.underlying157, Try.underlying23, Try.underlying24, Try.underlying29, Try.underlying3, Try.underlying36, Try.underlying4, Try.underlying5, Try.underlying62, Try.underlying63, Try.underlying65, Try.underlying68, Try.underlying70, Try.underlying88, Try.underlying89, Try.underlying9, Try.underlying91, Try.underlying97, ty23, ty24, ty36, ty68, ty88, ty62, ty65, ty70, ty91, ty97, ty157, ty29, ty3, ty4, ty5, ty63, ty89, ty9, rs75, gload1 m16 sz3, List.getElem?_cons_zero, List.getElem?_cons_succ]))
  refine (c_iat N (x4.hs s6') (bytes_rb m6) (by omega) q.to).mono ?_
  rintro v7 h7 ⟨at7, s7⟩
  have m17 := s7 _ _ m16
  have s47 := s6'.trans s7
  cases hA : atI M kb.data.toList q.to with
  | none =>
    rw [hA] at at7
    simp only [AtV] at at7
    subst at7
    have hno : dsel M q kb.data.toList = none := by unfold dsel; rw [hA]
    refine mk_of ?_; repeat' (first | (with_reducible first | refine gw_seq ?_ | refine gw_block ?_) | ((first | (with_reducible refine mk_to ?_) | (with_reducible first | refine gw_region ?_ | refine gw_if ?_ | refine gw_skip ?_ | refine gw_exit ?_ | refine gw_ret ?_) | ((with_reducible first | refine gif_b (fun hb => ?_) (fun hb => ?_) | refine want_t (fun hb => ?_) (fun hb => ?_) | refine want_f (fun hb => ?_) (fun hb => ?_)) <;> (try simp only [hb]) <;> (try simp only [hpr] at hb))) <;> try simp only [List.map, gop, ev, lk, aenv, gyield, gBin, gInt, gStrOp, gUn, gPick, gNil, gExtract, gIfc, gConvK, gIndexO, gIndexVO, gMakeV, gMinV, gMaxV, isInt, gMin, gMax, gBlt, gLenX, gCallV, gInvoke, gNilM, Array.toList_map, vcells, gField, gIndexV, gPart, reduceIte, Nat.reduceAdd, Nat.reduceSub, Nat.reduceMul, Nat.reduceLT, Nat.reduceLeDiff, Nat.reduceEqDiff, Nat.reduceBEq, Int.reduceLT, Int.reduceLE, Int.reduceGT, Int.reduceGE, Int.reduceEq, Int.reduceNe, Int.reduceAdd, Int.reduceSub, Int.reduceMul, Int.reduceNeg, Int.reduceToNat, Int.reduceBEq, Int.reduceBNe, Int.cast_ofNat_Int, List.getElem?_toArray, stp, Try.underlying157, Try.underlying23, Try.underlying24, Try.underlying29, Try.underlying3, Try.underlying36, Try.underlying4, Try.underlying5, Try.underlying62, Try.underlying63, Try.underlying65, Try.underlying68, Try.underlying70, Try.underlying88, Try.underlying89, Try.underlying9, Try.underlying91, Try.underlying97, ty23, ty24, ty36, ty68, ty88, ty62, ty65, ty70, ty91, ty97, ty157, ty29, ty3, ty4, ty5, ty63, ty89, ty9, rs75]))
    refine new_g fun k8 h8 m8 s8 f8 n8 => ?_
    refine mk_of ?_; repeat' (first | (with_reducible first | refine gw_seq ?_ | refine gw_block ?_) | ((first | (with_reducible refine mk_to ?_) | (with_reducible first | refine gw_region ?_ | refine gw_if ?_ | refine gw_skip ?_ | refine gw_exit ?_ | refine gw_ret ?_) | ((with_reducible first | refine gif_b (fun hb => ?_) (fun hb => ?_) | refine want_t (fun hb => ?_) (fun hb => ?_) | refine want_f (fun hb => ?_) (fun hb => ?_)) <;> (try simp only [hb]) <;> (try simp only [hpr] at hb))) <;> try simp only [List.map, gop, ev, lk, aenv, gyield, gBin, gInt, gStrOp, gUn, gPick, gNil, gExtract, gIfc, gConvK, gIndexO, gIndexVO, gMakeV, gMinV, gMaxV, isInt, gMin, gMax, gBlt, gLenX, gCallV, gInvoke, gNilM, Array.toList_map, vcells, gField, gIndexV, gPart, reduceIte, Nat.reduceAdd, Nat.reduceSub, Nat.reduceMul, Nat.reduceLT, Nat.reduceLeDiff, Nat.reduceEqDiff, Nat.reduceBEq, Int.reduceLT, Int.reduceLE, Int.reduceGT, Int.reduceGE, Int.reduceEq, Int.reduceNe, Int.reduceAdd, Int.reduceSub, Int.reduceMul, Int.reduceNeg, Int.reduceToNat, Int.reduceBEq, Int.reduceBNe, Int.cast_ofNat_Int, List.getElem?_toArray, stp, Try.underlying157, Try.underlying23, Try.underlying24, Try.underlying29, Try.underlying3, Try.underlying36, Try.underlying4, Try.underlying5, Try.underlying62, Try.underlying63, Try.underlying65, Try.underlying68, Try.underlying70, Try.underlying88, Try.underlying89, Try.underlying9, Try.underlying91, Try.underlying97, ty23, ty24, ty36, ty68, ty88, ty62, ty65, ty70, ty91, ty97, ty157, ty29, ty3, ty4, ty5, ty63, ty89, ty9, rs75]))
    refine st_all m8 sz97 rfl (by decide) rfl rfl rfl fun h9 m9 f9 => ?_
    have s9 : HS h7 h9 := (HS.refl h7).upd n8 (fun j hj => (f9 j hj).trans (f8 j hj))
    refine mk_of ?_; repeat' (first | (with_reducible first | refine gw_seq ?_ | refine gw_block ?_) | ((first | (with_reducible refine mk_to ?_) | (with_reducible first | refine gw_region ?_ | refine gw_if ?_ | refine gw_skip ?_ | refine gw_exit ?_ | refine gw_ret ?_) | ((with_reducible first | refine gif_b (fun hb => ?_) (fun hb => ?_) | refine want_t (fun hb => ?_) (fun hb => ?_) | refine want_f (fun hb => ?_) (fun hb => ?_)) <;> (try simp only [hb]) <;> (try simp only [hpr] at hb))) <;> try simp only [List.map, gop, ev, lk, aenv, gyield, gBin, gInt, gStrOp, gUn, gPick, gNil, gExtract, gIfc, gConvK, gIndexO, gIndexVO, gMakeV, gMinV, gMaxV, isInt, gMin, gMax, gBlt, gLenX, gCallV, gInvoke, gNilM, Array.toList_map, vcells, gField, gIndexV, gPart, reduceIte, Nat.reduceAdd, Nat.reduceSub, Nat.reduceMul, Nat.reduceLT, Nat.reduceLeDiff, Nat.reduceEqDiff, Nat.reduceBEq, Int.reduceLT, Int.reduceLE, Int.reduceGT, Int.reduceGE, Int.reduceEq, Int.reduceNe, Int.reduceAdd, Int.reduceSub, Int.reduceMul, Int.reduceNeg, Int.reduceToNat, Int.reduceBEq, Int.reduceBNe, Int.cast_ofNat_Int, List.getElem?_toArray, stp, Try.underlying157, Try.underlying23, Try.underlying24, Try.underlying29, Try.underlying3, Try.underlying36, Try.underlying4, Try.underlying5, Try.underlying62, Try.underlying63, Try.underlying65, Try.underlying68, Try.underlying70, Try.underlying88, Try.underlying89, Try.underlying9, Try.underlying91, Try.underlying97, ty23, ty24, ty36, ty68, ty88, ty62, ty65, ty70, ty91, ty97, ty157, ty29, ty3, ty4, ty5, ty63, ty89, ty9, rs75, gPick, gload1 m9 sz3, List.getElem?_cons_zero, List.getElem?_cons_succ]))
    obtain ⟨z0, is', ds', z1, z2⟩ := skip hno h9 (s47.trans s9)
    exact ⟨_, (a3, (dL M q l is).length, c3), z1, (by simp only [List.forall_mem_cons, List.not_mem_nil, false_implies, implies_true, List.map, List.cons_append, List.nil_append, lk, Nat.reduceEqDiff, reduceIte, and_true, true_and]), z0, is', ds', rfl, z2⟩
  | some pr =>
    obtain ⟨key', ep⟩ := pr
    rw [hA] at at7
    simp only [AtV] at at7
    obtain ⟨a7, c7, b7, d7, rfl, r7, r8⟩ := at7
    refine mk_of ?_; repeat' (first | (with_reducible first | refine gw_seq ?_ | refine gw_block ?_) | ((first | (with_reducible refine mk_to ?_) | (with_reducible first | refine gw_region ?_ | refine gw_if ?_ | refine gw_skip ?_ | refine gw_exit ?_ | refine gw_ret ?_) | ((with_reducible first | refine gif_b (fun hb => ?_) (fun hb => ?_) | refine want_t (fun hb => ?_) (fun hb => ?_) | refine want_f (fun hb => ?_) (fun hb => ?_)) <;> (try simp only [hb]) <;> (try simp only [hpr] at hb))) <;> try simp only [List.map, gop, ev, lk, aenv, gyield, gBin, gInt, gStrOp, gUn, gPick, gNil, gExtract, gIfc, gConvK, gIndexO, gIndexVO, gMakeV, gMinV, gMaxV, isInt, gMin, gMax, gBlt, gLenX, gCallV, gInvoke, gNilM, Array.toList_map, vcells, gField, gIndexV, gPart, reduceIte, Nat.reduceAdd, Nat.reduceSub, Nat.reduceMul, Nat.reduceLT, Nat.reduceLeDiff, Nat.reduceEqDiff, Nat.reduceBEq, Int.reduceLT, Int.reduceLE, Int.reduceGT, Int.reduceGE, Int.reduceEq, Int.reduceNe, Int.reduceAdd, Int.reduceSub, Int.reduceMul, Int.reduceNeg, Int.reduceToNat, Int.reduceBEq, Int.reduceBNe, Int.cast_ofNat_Int, List.getElem?_toArray, stp, Try.underlying157, Try.underlying23, Try.underlying24, Try.underlying29, Try.underlying3, Try.underlying36, Try.underlying4, Try.underlying5, Try.underlying62, Try.underlying63, Try.underlying65, Try.underlying68, Try.underlying70, Try.underlying88, Try.underlying89, Try.underlying9, Try.underlying91, Try.underlying97, ty23, ty24, ty36, ty68, ty88, ty62, ty65, ty70, ty91, ty97, ty157, ty29, ty3, ty4, ty5, ty63, ty89, ty9, rs75]))
    refine new_g fun k8 h8 m8 s8 f8 n8 => ?_
    refine mk_of ?_; repeat' (first | (with_reducible first | refine gw_seq ?_ | refine gw_block ?_) | ((first | (with_reducible refine mk_to ?_) | (with_reducible first | refine gw_region ?_ | refine gw_if ?_ | refine gw_skip ?_ | refine gw_exit ?_ | refine gw_ret ?_) | ((with_reducible first | refine gif_b (fun hb => ?_) (fun hb => ?_) | refine want_t (fun hb => ?_) (fun hb => ?_) | refine want_f (fun hb => ?_) (fun hb => ?_)) <;> (try simp only [hb]) <;> (try simp only [hpr] at hb))) <;> try simp only [List.map, gop, ev, lk, aenv, gyield, gBin, gInt, gStrOp, gUn, gPick, gNil, gExtract, gIfc, gConvK, gIndexO, gIndexVO, gMakeV, gMinV, gMaxV, isInt, gMin, gMax, gBlt, gLenX, gCallV, gInvoke, gNilM, Array.toList_map, vcells, gField, gIndexV, gPart, reduceIte, Nat.reduceAdd, Nat.reduceSub, Nat.reduceMul, Nat.reduceLT, Nat.reduceLeDiff, Nat.reduceEqDiff, Nat.reduceBEq, Int.reduceLT, Int.reduceLE, Int.reduceGT, Int.reduceGE, Int.reduceEq, Int.reduceNe, Int.reduceAdd, Int.reduceSub, Int.reduceMul, Int.reduceNeg, Int.reduceToNat, Int.reduceBEq, Int.reduceBNe, Int.cast_ofNat_Int, List.getElem?_toArray, stp, Try.underlying157, Try.underlying23, Try.underlying24, Try.underlying29, Try.underlying3, Try.underlying36, Try.underlying4, Try.underlying5, Try.underlying62, Try.underlying63, Try.underlying65, Try.underlying68, Try.underlying70, Try.underlying88, Try.underlying89, Try.underlying9, Try.underlying91, Try.underlying97, ty23, ty24, ty36, ty68, ty88, ty62, ty65, ty70, ty91, ty97, ty157, ty29, ty3, ty4, ty5, ty63, ty89, ty9, rs75]))
    refine st_all m8 sz97 rfl (by decide) rfl rfl rfl fun h9 m9 f9 => ?_
    have s9 : HS h7 h9 := (HS.refl h7).upd n8 (fun j hj => (f9 j hj).trans (f8 j hj))
    have m19 := s9 _ _ m17
    by_cases hf : (ep : Int) > q.fr
    case neg =>
      have d1 : decide ((ep : Int) > q.fr) = false := decide_eq_false hf
      have hno : dsel M q kb.data.toList = none := by unfold dsel; rw [hA]; simp only; rw [if_neg (fun z => hf z.1)]
      refine mk_of ?_; repeat' (first | (with_reducible first | refine gw_seq ?_ | refine gw_block ?_) | ((first | (with_reducible refine mk_to ?_) | (with_reducible first | refine gw_region ?_ | refine gw_if ?_ | refine gw_skip ?_ | refine gw_exit ?_ | refine gw_ret ?_) | ((with_reducible first | refine gif_b (fun hb => ?_) (fun hb => ?_) | refine want_t (fun hb => ?_) (fun hb => ?_) | refine want_f (fun hb => ?_) (fun hb => ?_)) <;> (try simp only [hb]) <;> (try simp only [hpr] at hb))) <;> try simp only [List.map, gop, ev, lk, aenv, gyield, gBin, gInt, gStrOp, gUn, gPick, gNil, gExtract, gIfc, gConvK, gIndexO, gIndexVO, gMakeV, gMinV, gMaxV, isInt, gMin, gMax, gBlt, gLenX, gCallV, gInvoke, gNilM, Array.toList_map, vcells, gField, gIndexV, gPart, reduceIte, Nat.reduceAdd, Nat.reduceSub, Nat.reduceMul, Nat.reduceLT, Nat.reduceLeDiff, Nat.reduceEqDiff, Nat.reduceBEq, Int.reduceLT, Int.reduceLE, Int.reduceGT, Int.reduceGE, Int.reduceEq, Int.reduceNe, Int.reduceAdd, Int.reduceSub, Int.reduceMul, Int.reduceNeg, Int.reduceToNat, Int.reduceBEq, Int.reduceBNe, Int.cast_ofNat_Int, List.getElem?_toArray, stp, Try.underlying157, Try.underlying23, Try.underlying24, Try.underlying29, Try.underlying3, Try.underlying36, Try.underlying4, Try.underlying5, Try.underlying62, Try.underlying63, Try.underlying65, Try.underlying68, Try.underlying70, Try.underlying88, Try.underlying89, Try.underlying9, Try.underlying91, Try.underlying97, ty23, ty24, ty36, ty68, ty88, ty62, ty65, ty70, ty91, ty97, ty157, ty29, ty3, ty4, ty5, ty63, ty89, ty9, rs75, gPick, d1, gload1 m9 sz3, gload1 m19 sz3, List.getElem?_cons_zero, List.getElem?_cons_succ]))
      obtain ⟨z0, is', ds', z1, z2⟩ := skip hno h9 (s47.trans s9)
      exact ⟨_, (a3, (dL M q l is).length, c3), z1, (by simp only [List.forall_mem_cons, List.not_mem_nil, false_implies, implies_true, List.map, List.cons_append, List.nil_append, lk, Nat.reduceEqDiff, reduceIte, and_true, true_and]), z0, is', ds', rfl, z2⟩
    have d1 : decide ((ep : Int) > q.fr) = true := decide_eq_true hf
    cases hsm : q.sm with
    | false =>
      have hyes : dsel M q kb.data.toList = some ((kb.data.toList, key'), ep) := by unfold dsel; rw [hA]; simp only; rw [if_pos ⟨hf, fun z => by rw [hsm] at z; cases z⟩]
      rw [hsm] at m19
      refine mk_of ?_; repeat' (first | (with_reducible first | refine gw_seq ?_ | refine gw_block ?_) | ((first | (with_reducible refine mk_to ?_) | (with_reducible first | refine gw_region ?_ | refine gw_if ?_ | refine gw_skip ?_ | refine gw_exit ?_ | refine gw_ret ?_) | ((with_reducible first | refine gif_b (fun hb => ?_) (fun hb => ?_) | refine want_t (fun hb => ?_) (fun hb => ?_) | refine want_f (fun hb => ?_) (fun hb => ?_)) <;> (try simp only [hb]) <;> (try simp only [hpr] at hb))) <;> try simp only [List.map, gop, ev, lk, aenv, gyield, gBin, gInt, gStrOp, gUn, gPick, gNil, gExtract, gIfc, gConvK, gIndexO, gIndexVO, gMakeV, gMinV, gMaxV, isInt, gMin, gMax, gBlt, gLenX, gCallV, gInvoke, gNilM, Array.toList_map, vcells, gField, gIndexV, gPart, reduceIte, Nat.reduceAdd, Nat.reduceSub, Nat.reduceMul, Nat.reduceLT, Nat.reduceLeDiff, Nat.reduceEqDiff, Nat.reduceBEq, Int.reduceLT, Int.reduceLE, Int.reduceGT, Int.reduceGE, Int.reduceEq, Int.reduceNe, Int.reduceAdd, Int.reduceSub, Int.reduceMul, Int.reduceNeg, Int.reduceToNat, Int.reduceBEq, Int.reduceBNe, Int.cast_ofNat_Int, List.getElem?_toArray, stp, Try.underlying157, Try.underlying23, Try.underlying24, Try.underlying29, Try.underlying3, Try.underlying36, Try.underlying4, Try.underlying5, Try.underlying62, Try.underlying63, Try.underlying65, Try.underlying68, Try.underlying70, Try.underlying88, Try.underlying89, Try.underlying9, Try.underlying91, Try.underlying97, ty23, ty24, ty36, ty68, ty88, ty62, ty65, ty70, ty91, ty97, ty157, ty29, ty3, ty4, ty5, ty63, ty89, ty9, rs75, gPick, d1, gloadA m9 sz97 rfl, gload1 m9 sz3, gload1 m19 sz3, gload1 m19 sz4, List.getElem?_cons_zero, List.getElem?_cons_succ]))
      refine bsn1_g el68 rfl rfl (by decide) (by decide) rfl fun k12 h12 b12 s12' f12 n12 => ?_
      have s412 := (s6'.trans s7).trans ((s9).trans s12')
      refine mk_of ?_; repeat' (first | (with_reducible first | refine gw_seq ?_ | refine gw_block ?_) | ((first | (with_reducible refine mk_to ?_) | (with_reducible first | refine gw_region ?_ | refine gw_if ?_ | refine gw_skip ?_ | refine gw_exit ?_ | refine gw_ret ?_) | ((with_reducible first | refine gif_b (fun hb => ?_) (fun hb => ?_) | refine want_t (fun hb => ?_) (fun hb => ?_) | refine want_f (fun hb => ?_) (fun hb => ?_)) <;> (try simp only [hb]) <;> (try simp only [hpr] at hb))) <;> try simp only [List.map, gop, ev, lk, aenv, gyield, gBin, gInt, gStrOp, gUn, gPick, gNil, gExtract, gIfc, gConvK, gIndexO, gIndexVO, gMakeV, gMinV, gMaxV, isInt, gMin, gMax, gBlt, gLenX, gCallV, gInvoke, gNilM, Array.toList_map, vcells, gField, gIndexV, gPart, reduceIte, Nat.reduceAdd, Nat.reduceSub, Nat.reduceMul, Nat.reduceLT, Nat.reduceLeDiff, Nat.reduceEqDiff, Nat.reduceBEq, Int.reduceLT, Int.reduceLE, Int.reduceGT, Int.reduceGE, Int.reduceEq, Int.reduceNe, Int.reduceAdd, Int.reduceSub, Int.reduceMul, Int.reduceNeg, Int.reduceToNat, Int.reduceBEq, Int.reduceBNe, Int.cast_ofNat_Int, List.getElem?_toArray, stp, Try.underlying157, Try.underlying23, Try.underlying24, Try.underlying29, Try.underlying3, Try.underlying36, Try.underlying4, Try.underlying5, Try.underlying62, Try.underlying63, Try.underlying65, Try.underlying68, Try.underlying70, Try.underlying88, Try.underlying89, Try.underlying9, Try.underlying91, Try.underlying97, ty23, ty24, ty36, ty68, ty88, ty62, ty65, ty70, ty91, ty97, ty157, ty29, ty3, ty4, ty5, ty63, ty89, ty9, rs75]))
      refine append_ownc el68 Try.underlying68 rfl (s4.trans s412) (o4.hs s412) b12 rfl rfl (by omega) (by simp only [maxLen]; omega) fun v13 h13 s13 fr13 o13 => ?_
      obtain ⟨a13, c13, rfl⟩ := o13.form
      refine mk_of ?_; repeat' (first | (with_reducible first | refine gw_seq ?_ | refine gw_block ?_) | ((first | (with_reducible refine mk_to ?_) | (with_reducible first | refine gw_region ?_ | refine gw_if ?_ | refine gw_skip ?_ | refine gw_exit ?_ | refine gw_ret ?_) | ((with_reducible first | refine gif_b (fun hb => ?_) (fun hb => ?_) | refine want_t (fun hb => ?_) (fun hb => ?_) | refine want_f (fun hb => ?_) (fun hb => ?_)) <;> (try simp only [hb]) <;> (try simp only [hpr] at hb))) <;> try simp only [List.map, gop, ev, lk, aenv, gyield, gBin, gInt, gStrOp, gUn, gPick, gNil, gExtract, gIfc, gConvK, gIndexO, gIndexVO, gMakeV, gMinV, gMaxV, isInt, gMin, gMax, gBlt, gLenX, gCallV, gInvoke, gNilM, Array.toList_map, vcells, gField, gIndexV, gPart, reduceIte, Nat.reduceAdd, Nat.reduceSub, Nat.reduceMul, Nat.reduceLT, Nat.reduceLeDiff, Nat.reduceEqDiff, Nat.reduceBEq, Int.reduceLT, Int.reduceLE, Int.reduceGT, Int.reduceGE, Int.reduceEq, Int.reduceNe, Int.reduceAdd, Int.reduceSub, Int.reduceMul, Int.reduceNeg, Int.reduceToNat, Int.reduceBEq, Int.reduceBNe, Int.cast_ofNat_Int, List.getElem?_toArray, stp, Try.underlying157, Try.underlying23, Try.underlying24, Try.underlying29, Try.underlying3, Try.underlying36, Try.underlying4, Try.underlying5, Try.underlying62, Try.underlying63, Try.underlying65, Try.underlying68, Try.underlying70, Try.underlying88, Try.underlying89, Try.underlying9, Try.underlying91, Try.underlying97, ty23, ty24, ty36, ty68, ty88, ty62, ty65, ty70, ty91, ty97, ty157, ty29, ty3, ty4, ty5, ty63, ty89, ty9, rs75]))
      have e := hch _ hyes
      have m12 := s412 _ _ mm4
      have keep : ∀ {q : List Value} {ee : Itm}, It h12 q ee → It h13 q ee := fun {q ee} w => by
        obtain ⟨a, c, b, d, e, r1, r2⟩ := w
        exact ⟨a, c, b, d, e, fr_rb fr13 u3 r1, fr_rb fr13 u3 r2⟩
      refine ⟨_, (a13, (dL M q l is).length + 1, c13), ?_, (by simp only [List.forall_mem_cons, List.not_mem_nil, false_implies, implies_true, List.map, List.cons_append, List.nil_append, lk, Nat.reduceEqDiff, reduceIte, and_true, true_and]), s13, is ++ [z], _, rfl, nd', lt', fr_es fr13 m12 (by simp), by rw [e, List.length_append]; exact o13, by rw [List.all_append, u3]; rfl, by rw [List.all_append, ic3]; rfl, ?_⟩
      · rw [List.length_append, List.length_singleton]; omega
      · rw [e]
        refine app_el (R := It h13) o3.len rfl (fun i x hx => keep (fr45 s412 (r3 i x hx))) (keep ⟨a7, c7, b7, d7, rfl, (r7.hs (s9)).hs s12', (r8.hs (s9)).hs s12'⟩)
    | true =>
      rw [hsm] at m19
      refine mk_of ?_; repeat' (first | (with_reducible first | refine gw_seq ?_ | refine gw_block ?_) | ((first | (with_reducible refine mk_to ?_) | (with_reducible first | refine gw_region ?_ | refine gw_if ?_ | refine gw_skip ?_ | refine gw_exit ?_ | refine gw_ret ?_) | ((with_reducible first | refine gif_b (fun hb => ?_) (fun hb => ?_) | refine want_t (fun hb => ?_) (fun hb => ?_) | refine want_f (fun hb => ?_) (fun hb => ?_)) <;> (try simp only [hb]) <;> (try simp only [hpr] at hb))) <;> try simp only [List.map, gop, ev, lk, aenv, gyield, gBin, gInt, gStrOp, gUn, gPick, gNil, gExtract, gIfc, gConvK, gIndexO, gIndexVO, gMakeV, gMinV, gMaxV, isInt, gMin, gMax, gBlt, gLenX, gCallV, gInvoke, gNilM, Array.toList_map, vcells, gField, gIndexV, gPart, reduceIte, Nat.reduceAdd, Nat.reduceSub, Nat.reduceMul, Nat.reduceLT, Nat.reduceLeDiff, Nat.reduceEqDiff, Nat.reduceBEq, Int.reduceLT, Int.reduceLE, Int.reduceGT, Int.reduceGE, Int.reduceEq, Int.reduceNe, Int.reduceAdd, Int.reduceSub, Int.reduceMul, Int.reduceNeg, Int.reduceToNat, Int.reduceBEq, Int.reduceBNe, Int.cast_ofNat_Int, List.getElem?_toArray, stp, Try.underlying157, Try.underlying23, Try.underlying24, Try.underlying29, Try.underlying3, Try.underlying36, Try.underlying4, Try.underlying5, Try.underlying62, Try.underlying63, Try.underlying65, Try.underlying68, Try.underlying70, Try.underlying88, Try.underlying89, Try.underlying9, Try.underlying91, Try.underlying97, ty23, ty24, ty36, ty68, ty88, ty62, ty65, ty70, ty91, ty97, ty157, ty29, ty3, ty4, ty5, ty63, ty89, ty9, rs75, gPick, d1, gload1 m9 sz3, gload1 m9 sz24, gload1 m19 sz3, gload1 m19 sz4, gload1 m19 sz24, List.getElem?_cons_zero, List.getElem?_cons_succ]))
      have s49 := s47.trans s9
      refine (c_Order N h9 (r7.hs s9) (((r.hs s12).hs (s4.trans s49))) rfl rfl).mono ?_
      rintro _ h10 ⟨rfl, s10⟩
      have m910 := s10 _ _ m9
      by_cases hgt : Lib.compareBytes (gkey kb.data.toList) (gkey q.id) > 0
      case neg =>
        have d2 : decide (Lib.compareBytes (gkey kb.data.toList) (gkey q.id) > 0) = false := decide_eq_false hgt
        have hno : dsel M q kb.data.toList = none := by unfold dsel; rw [hA]; simp only; rw [if_neg (fun z => hgt (z.2 hsm))]
        refine mk_of ?_; repeat' (first | (with_reducible first | refine gw_seq ?_ | refine gw_block ?_) | ((first | (with_reducible refine mk_to ?_) | (with_reducible first | refine gw_region ?_ | refine gw_if ?_ | refine gw_skip ?_ | refine gw_exit ?_ | refine gw_ret ?_) | ((with_reducible first | refine gif_b (fun hb => ?_) (fun hb => ?_) | refine want_t (fun hb => ?_) (fun hb => ?_) | refine want_f (fun hb => ?_) (fun hb => ?_)) <;> (try simp only [hb]) <;> (try simp only [hpr] at hb))) <;> try simp only [List.map, gop, ev, lk, aenv, gyield, gBin, gInt, gStrOp, gUn, gPick, gNil, gExtract, gIfc, gConvK, gIndexO, gIndexVO, gMakeV, gMinV, gMaxV, isInt, gMin, gMax, gBlt, gLenX, gCallV, gInvoke, gNilM, Array.toList_map, vcells, gField, gIndexV, gPart, reduceIte, Nat.reduceAdd, Nat.reduceSub, Nat.reduceMul, Nat.reduceLT, Nat.reduceLeDiff, Nat.reduceEqDiff, Nat.reduceBEq, Int.reduceLT, Int.reduceLE, Int.reduceGT, Int.reduceGE, Int.reduceEq, Int.reduceNe, Int.reduceAdd, Int.reduceSub, Int.reduceMul, Int.reduceNeg, Int.reduceToNat, Int.reduceBEq, Int.reduceBNe, Int.cast_ofNat_Int, List.getElem?_toArray, stp, Try.underlying157, Try.underlying23, Try.underlying24, Try.underlying29, Try.underlying3, Try.underlying36, Try.underlying4, Try.underlying5, Try.underlying62, Try.underlying63, Try.underlying65, Try.underlying68, Try.underlying70, Try.underlying88, Try.underlying89, Try.underlying9, Try.underlying91, Try.underlying97, ty23, ty24, ty36, ty68, ty88, ty62, ty65, ty70, ty91, ty97, ty157, ty29, ty3, ty4, ty5, ty63, ty89, ty9, rs75, gPick, d2]))
        obtain ⟨z0, is', ds', z1, z2⟩ := skip hno h10 (s49.trans s10)
        exact ⟨_, (a3, (dL M q l is).length, c3), z1, (by simp only [List.forall_mem_cons, List.not_mem_nil, false_implies, implies_true, List.map, List.cons_append, List.nil_append, lk, Nat.reduceEqDiff, reduceIte, and_true, true_and]), z0, is', ds', rfl, z2⟩
      have d2 : decide (Lib.compareBytes (gkey kb.data.toList) (gkey q.id) > 0) = true := decide_eq_true hgt
      have hyes : dsel M q kb.data.toList = some ((kb.data.toList, key'), ep) := by unfold dsel; rw [hA]; simp only; rw [if_pos ⟨hf, fun _ => hgt⟩]
      refine mk_of ?_; repeat' (first | (with_reducible first | refine gw_seq ?_ | refine gw_block ?_) | ((first | (with_reducible refine mk_to ?_) | (with_reducible first | refine gw_region ?_ | refine gw_if ?_ | refine gw_skip ?_ | refine gw_exit ?_ | refine gw_ret ?_) | ((with_reducible first | refine gif_b (fun hb => ?_) (fun hb => ?_) | refine want_t (fun hb => ?_) (fun hb => ?_) | refine want_f (fun hb => ?_) (fun hb => ?_)) <;> (try simp only [hb]) <;> (try simp only [hpr] at hb))) <;> try simp only [List.map, gop, ev, lk, aenv, gyield, gBin, gInt, gStrOp, gUn, gPick, gNil, gExtract, gIfc, gConvK, gIndexO, gIndexVO, gMakeV, gMinV, gMaxV, isInt, gMin, gMax, gBlt, gLenX, gCallV, gInvoke, gNilM, Array.toList_map, vcells, gField, gIndexV, gPart, reduceIte, Nat.reduceAdd, Nat.reduceSub, Nat.reduceMul, Nat.reduceLT, Nat.reduceLeDiff, Nat.reduceEqDiff, Nat.reduceBEq, Int.reduceLT, Int.reduceLE, Int.reduceGT, Int.reduceGE, Int.reduceEq, Int.reduceNe, Int.reduceAdd, Int.reduceSub, Int.reduceMul, Int.reduceNeg, Int.reduceToNat, Int.reduceBEq, Int.reduceBNe, Int.cast_ofNat_Int, List.getElem?_toArray, stp, Try.underlying157, Try.underlying23, Try.underlying24, Try.underlying29, Try.underlying3, Try.underlying36, Try.underlying4, Try.underlying5, Try.underlying62, Try.underlying63, Try.underlying65, Try.underlying68, Try.underlying70, Try.underlying88, Try.underlying89, Try.underlying9, Try.underlying91, Try.underlying97, ty23, ty24, ty36, ty68, ty88, ty62, ty65, ty70, ty91, ty97, ty157, ty29, ty3, ty4, ty5, ty63, ty89, ty9, rs75, gPick, d2, gloadA m910 sz97 rfl]))
      refine bsn1_g el68 rfl rfl (by decide) (by decide) rfl fun k12 h12 b12 s12' f12 n12 => ?_
      have s412 := (s6'.trans s7).trans ((s9.trans s10).trans s12')
      refine mk_of ?_; repeat' (first | (with_reducible first | refine gw_seq ?_ | refine gw_block ?_) | ((first | (with_reducible refine mk_to ?_) | (with_reducible first | refine gw_region ?_ | refine gw_if ?_ | refine gw_skip ?_ | refine gw_exit ?_ | refine gw_ret ?_) | ((with_reducible first | refine gif_b (fun hb => ?_) (fun hb => ?_) | refine want_t (fun hb => ?_) (fun hb => ?_) | refine want_f (fun hb => ?_) (fun hb => ?_)) <;> (try simp only [hb]) <;> (try simp only [hpr] at hb))) <;> try simp only [List.map, gop, ev, lk, aenv, gyield, gBin, gInt, gStrOp, gUn, gPick, gNil, gExtract, gIfc, gConvK, gIndexO, gIndexVO, gMakeV, gMinV, gMaxV, isInt, gMin, gMax, gBlt, gLenX, gCallV, gInvoke, gNilM, Array.toList_map, vcells, gField, gIndexV, gPart, reduceIte, Nat.reduceAdd, Nat.reduceSub, Nat.reduceMul, Nat.reduceLT, Nat.reduceLeDiff, Nat.reduceEqDiff, Nat.reduceBEq, Int.reduceLT, Int.reduceLE, Int.reduceGT, Int.reduceGE, Int.reduceEq, Int.reduceNe, Int.reduceAdd, Int.reduceSub, Int.reduceMul, Int.reduceNeg, Int.reduceToNat, Int.reduceBEq, Int.reduceBNe, Int.cast_ofNat_Int, List.getElem?_toArray, stp, Try.underlying157, Try.underlying23, Try.underlying24, Try.underlying29, Try.underlying3, Try.underlying36, Try.underlying4, Try.underlying5, Try.underlying62, Try.underlying63, Try.underlying65, Try.underlying68, Try.underlying70, Try.underlying88, Try.underlying89, Try.underlying9, Try.underlying91, Try.underlying97, ty23, ty24, ty36, ty68, ty88, ty62, ty65, ty70, ty91, ty97, ty157, ty29, ty3, ty4, ty5, ty63, ty89, ty9, rs75]))
      refine append_ownc el68 Try.underlying68 rfl (s4.trans s412) (o4.hs s412) b12 rfl rfl (by omega) (by simp only [maxLen]; omega) fun v13 h13 s13 fr13 o13 => ?_
      obtain ⟨a13, c13, rfl⟩ := o13.form
      refine mk_of ?_; repeat' (first | (with_reducible first | refine gw_seq ?_ | refine gw_block ?_) | ((first | (with_reducible refine mk_to ?_) | (with_reducible first | refine gw_region ?_ | refine gw_if ?_ | refine gw_skip ?_ | refine gw_exit ?_ | refine gw_ret ?_) | ((with_reducible first | refine gif_b (fun hb => ?_) (fun hb => ?_) | refine want_t (fun hb => ?_) (fun hb => ?_) | refine want_f (fun hb => ?_) (fun hb => ?_)) <;> (try simp only [hb]) <;> (try simp only [hpr] at hb))) <;> try simp only [List.map, gop, ev, lk, aenv, gyield, gBin, gInt, gStrOp, gUn, gPick, gNil, gExtract, gIfc, gConvK, gIndexO, gIndexVO, gMakeV, gMinV, gMaxV, isInt, gMin, gMax, gBlt, gLenX, gCallV, gInvoke, gNilM, Array.toList_map, vcells, gField, gIndexV, gPart, reduceIte, Nat.reduceAdd, Nat.reduceSub, Nat.reduceMul, Nat.reduceLT, Nat.reduceLeDiff, Nat.reduceEqDiff, Nat.reduceBEq, Int.reduceLT, Int.reduceLE, Int.reduceGT, Int.reduceGE, Int.reduceEq, Int.reduceNe, Int.reduceAdd, Int.reduceSub, Int.reduceMul, Int.reduceNeg, Int.reduceToNat, Int.reduceBEq, Int.reduceBNe, Int.cast_ofNat_Int, List.getElem?_toArray, stp, Try.underlying157, Try.underlying23, Try.underlying24, Try.underlying29, Try.underlying3, Try.underlying36, Try.underlying4, Try.underlying5, Try.underlying62, Try.underlying63, Try.underlying65, Try.underlying68, Try.underlying70, Try.underlying88, Try.underlying89, Try.underlying9, Try.underlying91, Try.underlying97, ty23, ty24, ty36, ty68, ty88, ty62, ty65, ty70, ty91, ty97, ty157, ty29, ty3, ty4, ty5, ty63, ty89, ty9, rs75]))
      have e := hch _ hyes
      have m12 := s412 _ _ mm4
      have keep : ∀ {q : List Value} {ee : Itm}, It h12 q ee → It h13 q ee := fun {q ee} w => by
        obtain ⟨a, c, b, d, e, r1, r2⟩ := w
        exact ⟨a, c, b, d, e, fr_rb fr13 u3 r1, fr_rb fr13 u3 r2⟩
      refine ⟨_, (a13, (dL M q l is).length + 1, c13), ?_, (by simp only [List.forall_mem_cons, List.not_mem_nil, false_implies, implies_true, List.map, List.cons_append, List.nil_append, lk, Nat.reduceEqDiff, reduceIte, and_true, true_and]), s13, is ++ [z], _, rfl, nd', lt', fr_es fr13 m12 (by simp), by rw [e, List.length_append]; exact o13, by rw [List.all_append, u3]; rfl, by rw [List.all_append, ic3]; rfl, ?_⟩
      · rw [List.length_append, List.length_singleton]; omega
      · rw [e]
        refine app_el (R := It h13) o3.len rfl (fun i x hx => keep (fr45 s412 (r3 i x hx))) (keep ⟨a7, c7, b7, d7, rfl, (r7.hs (s9.trans s10)).hs s12', (r8.hs (s9.trans s10)).hs s12'⟩)
end Go.Gh

/- Ideal: a map asked for a diff. -/

namespace Go.Gh
open Go Go.Proofs Go.RowKit
set_option linter.unusedVariables false
set_option linter.unusedSimpArgs false
set_option maxRecDepth 100000
set_option maxHeartbeats 4000000

def diffA (q : Ak) (L : List Itm) : An := { its := L.take q.lm.toNat, more := decide (q.lm.toNat < L.length) }
theorem c_DoDiff (N : Nat) {h0 h : GH} {k j : Nat} {p : Pm} {ew : Value} {cs l : List Value} {M : List (Int × List Bnd)} {ck : Int} {n : Nat} (x : IM h0 h k j p ew cs l M ck n) {a : Option Addr} {c : Nat} (q : Ak) (hk : q.kd = 6) (r : RB h (.slice a q.id.length c) q.id) (hid : q.id.length ≤ 140737488355328)
    {c4 c6 c7 c9 : Value} (hc : [c4, c6, c7, c9].all isCell = true) :
    GTri Try.prog N 32 [.pointer (some ⟨k, 0, none⟩), .agg #[.int .i64 q.kd, .slice a q.id.length c, .int .i64 q.fr, .int .i64 q.to, c4, .bool q.sm, c6, c7, .int .i64 q.lm, c9]] h fun v h' =>
      (wrongF true true p M.length q ≠ 0 ∧ RAn h' v { code := wrongF true true p M.length q } ∨ wrongF true true p M.length q = 0 ∧ ∃ L, Diff M q L ∧ RAn h' v (diffA q L)) ∧ HS h h' := by
  have hc3 : [Value.int .i64 q.kd, c4, c6, c7, c9].all isCell = true := by simpa [isCell] using hc
  have hc4 : [c4, .bool q.sm, c6, c7, c9].all isCell = true := by simpa [isCell] using hc
  have hr : rngK q.kd = true := by rw [hk]; rfl
  have hg : pagK q.kd = true := by rw [hk]; rfl
  have hpg := p.may_iff.1 x.may
  have e1 : (q.kd == 1) = false := by rw [hk]; rfl
  have e2 : (q.kd == 2) = false := by rw [hk]; rfl
  have e8 : (q.kd == 8) = false := by rw [hk]; rfl
  have e9 : (q.kd == 9) = false := by rw [hk]; rfl
  have e3 : (q.kd == 3) = false := by rw [hk]; rfl
  have e4 : (q.kd == 4) = false := by rw [hk]; rfl
  have e5 : (q.kd == 5) = false := by rw [hk]; rfl
  have e6 : (q.kd == 6) = true := by rw [hk]; rfl
  refine gtri Try.func32 rfl gf32 ok32 (by simp [Try.ntmps32]) ?_
  repeat' (first | (with_reducible first | refine gw_seq ?_ | refine gw_block ?_) | ((first | (with_reducible first | refine gw_region ?_ | refine gw_if ?_ | refine gw_skip ?_ | refine gw_exit ?_ | refine gw_ret ?_) | ((with_reducible first | refine gif_b (fun hb => ?_) (fun hb => ?_) | refine want_t (fun hb => ?_) (fun hb => ?_) | refine want_f (fun hb => ?_) (fun hb => ?_)) <;> (try simp only [hb]) <;> (try simp only [hpr] at hb))) <;> try simp only [List.map, gop, ev, lk, aenv, gyield, gBin, gInt, gStrOp, gUn, gPick, gNil, gExtract, gIfc, gConvK, gIndexO, gIndexVO, gMakeV, gMinV, gMaxV, isInt, gMin, gMax, gBlt, gLenX, gCallV, gInvoke, gNilM, Array.toList_map, vcells, gField, gIndexV, gPart, reduceIte, Nat.reduceAdd, Nat.reduceSub, Nat.reduceMul, Nat.reduceLT, Nat.reduceLeDiff, Nat.reduceEqDiff, Nat.reduceBEq, Int.reduceLT, Int.reduceLE, Int.reduceGT, Int.reduceGE, Int.reduceEq, Int.reduceNe, Int.reduceAdd, Int.reduceSub, Int.reduceMul, Int.reduceNeg, Int.reduceToNat, Int.reduceBEq, Int.reduceBNe, Int.cast_ofNat_Int, List.getElem?_toArray, stp, Try.underlying23, Try.underlying24, Try.underlying29, Try.underlying3, Try.underlying36, Try.underlying4, Try.underlying62, Try.underlying63, Try.underlying68, Try.underlying70, Try.underlying91, ty23, ty24, ty36, ty68, ty62, ty70, ty91, ty29, ty3, ty4, ty63, rs32]))
  refine box_g (by simpa [isCell] using hc) fun k1 h1 m1 s1 f1 n1 => ?_
  refine mk_of ?_; repeat' (first | (with_reducible first | refine gw_seq ?_ | refine gw_block ?_) | ((first | (with_reducible refine mk_to ?_) | (with_reducible first | refine gw_region ?_ | refine gw_if ?_ | refine gw_skip ?_ | refine gw_exit ?_ | refine gw_ret ?_) | ((with_reducible first | refine gif_b (fun hb => ?_) (fun hb => ?_) | refine want_t (fun hb => ?_) (fun hb => ?_) | refine want_f (fun hb => ?_) (fun hb => ?_)) <;> (try simp only [hb]) <;> (try simp only [hpr] at hb))) <;> try simp only [List.map, gop, ev, lk, aenv, gyield, gBin, gInt, gStrOp, gUn, gPick, gNil, gExtract, gIfc, gConvK, gIndexO, gIndexVO, gMakeV, gMinV, gMaxV, isInt, gMin, gMax, gBlt, gLenX, gCallV, gInvoke, gNilM, Array.toList_map, vcells, gField, gIndexV, gPart, reduceIte, Nat.reduceAdd, Nat.reduceSub, Nat.reduceMul, Nat.reduceLT, Nat.reduceLeDiff, Nat.reduceEqDiff, Nat.reduceBEq, Int.reduceLT, Int.reduceLE, Int.reduceGT, Int.reduceGE, Int.reduceEq, Int.reduceNe, Int.reduceAdd, Int.reduceSub, Int.reduceMul, Int.reduceNeg, Int.reduceToNat, Int.reduceBEq, Int.reduceBNe, Int.cast_ofNat_Int, List.getElem?_toArray, stp, Try.underlying23, Try.underlying24, Try.underlying29, Try.underlying3, Try.underlying36, Try.underlying4, Try.underlying62, Try.underlying63, Try.underlying68, Try.underlying70, Try.underlying91, ty23, ty24, ty36, ty68, ty62, ty70, ty91, ty29, ty3, ty4, ty63, rs32]))
  refine new_g fun k2 h2 m2 s2 f2 n2 => ?_
  replace m1 := s2 _ _ m1
  have s12 := s1.trans s2
  have x2 := x.hs s12
  have n2' := s1.none_of n2
  refine mk_of ?_; repeat' (first | (with_reducible first | refine gw_seq ?_ | refine gw_block ?_) | ((first | (with_reducible refine mk_to ?_) | (with_reducible first | refine gw_region ?_ | refine gw_if ?_ | refine gw_skip ?_ | refine gw_exit ?_ | refine gw_ret ?_) | ((with_reducible first | refine gif_b (fun hb => ?_) (fun hb => ?_) | refine want_t (fun hb => ?_) (fun hb => ?_) | refine want_f (fun hb => ?_) (fun hb => ?_)) <;> (try simp only [hb]) <;> (try simp only [hpr] at hb)) | ((refine GTri.mono (c_inone _ x2) ?_); rintro _ _ ⟨rfl, hh9⟩; replace hh9 := hh9.symm; subst hh9)) <;> try simp only [List.map, gop, ev, lk, aenv, gyield, gBin, gInt, gStrOp, gUn, gPick, gNil, gExtract, gIfc, gConvK, gIndexO, gIndexVO, gMakeV, gMinV, gMaxV, isInt, gMin, gMax, gBlt, gLenX, gCallV, gInvoke, gNilM, Array.toList_map, vcells, gField, gIndexV, gPart, reduceIte, Nat.reduceAdd, Nat.reduceSub, Nat.reduceMul, Nat.reduceLT, Nat.reduceLeDiff, Nat.reduceEqDiff, Nat.reduceBEq, Int.reduceLT, Int.reduceLE, Int.reduceGT, Int.reduceGE, Int.reduceEq, Int.reduceNe, Int.reduceAdd, Int.reduceSub, Int.reduceMul, Int.reduceNeg, Int.reduceToNat, Int.reduceBEq, Int.reduceBNe, Int.cast_ofNat_Int, List.getElem?_toArray, stp, Try.underlying23, Try.underlying24, Try.underlying29, Try.underlying3, Try.underlying36, Try.underlying4, Try.underlying62, Try.underlying63, Try.underlying68, Try.underlying70, Try.underlying91, ty23, ty24, ty36, ty68, ty62, ty70, ty91, ty29, ty3, ty4, ty63, rs32, List.map_toArray, List.map_cons, List.map_nil, gload1 m1 sz3, e1, e2, e8, e9, e3, e4, e5, e6, gloadA m1 sz62 rfl, List.getElem?_cons_zero, List.getElem?_cons_succ]))
  refine (c_wrong N x2 q hid hc4).mono ?_
  rintro _ h3 ⟨rfl, s3⟩
  rw [hr, hg]
  have m23 := s3 _ _ m2
  by_cases hw : wrongF true true p M.length q = 0
  case neg =>
    have dw : (wrongF true true p M.length q != 0) = true := by simpa using hw
    refine mk_of ?_; repeat' (first | (with_reducible first | refine gw_seq ?_ | refine gw_block ?_) | ((first | (with_reducible refine mk_to ?_) | (with_reducible first | refine gw_region ?_ | refine gw_if ?_ | refine gw_skip ?_ | refine gw_exit ?_ | refine gw_ret ?_) | ((with_reducible first | refine gif_b (fun hb => ?_) (fun hb => ?_) | refine want_t (fun hb => ?_) (fun hb => ?_) | refine want_f (fun hb => ?_) (fun hb => ?_)) <;> (try simp only [hb]) <;> (try simp only [hpr] at hb))) <;> try simp only [List.map, gop, ev, lk, aenv, gyield, gBin, gInt, gStrOp, gUn, gPick, gNil, gExtract, gIfc, gConvK, gIndexO, gIndexVO, gMakeV, gMinV, gMaxV, isInt, gMin, gMax, gBlt, gLenX, gCallV, gInvoke, gNilM, Array.toList_map, vcells, gField, gIndexV, gPart, reduceIte, Nat.reduceAdd, Nat.reduceSub, Nat.reduceMul, Nat.reduceLT, Nat.reduceLeDiff, Nat.reduceEqDiff, Nat.reduceBEq, Int.reduceLT, Int.reduceLE, Int.reduceGT, Int.reduceGE, Int.reduceEq, Int.reduceNe, Int.reduceAdd, Int.reduceSub, Int.reduceMul, Int.reduceNeg, Int.reduceToNat, Int.reduceBEq, Int.reduceBNe, Int.cast_ofNat_Int, List.getElem?_toArray, stp, Try.underlying23, Try.underlying24, Try.underlying29, Try.underlying3, Try.underlying36, Try.underlying4, Try.underlying62, Try.underlying63, Try.underlying68, Try.underlying70, Try.underlying91, ty23, ty24, ty36, ty68, ty62, ty70, ty91, ty29, ty3, ty4, ty63, rs32, dw, gBuild, lfill, lput, Shape.pl, List.all_cons, List.all_nil, isCell]))
    refine st_all m23 sz70 rfl (by decide) rfl rfl rfl fun h4 m4 f4 => ?_
    refine mk_of ?_; repeat' (first | (with_reducible first | refine gw_seq ?_ | refine gw_block ?_) | ((first | (with_reducible refine mk_to ?_) | (with_reducible first | refine gw_region ?_ | refine gw_if ?_ | refine gw_skip ?_ | refine gw_exit ?_ | refine gw_ret ?_) | ((with_reducible first | refine gif_b (fun hb => ?_) (fun hb => ?_) | refine want_t (fun hb => ?_) (fun hb => ?_) | refine want_f (fun hb => ?_) (fun hb => ?_)) <;> (try simp only [hb]) <;> (try simp only [hpr] at hb))) <;> try simp only [List.map, gop, ev, lk, aenv, gyield, gBin, gInt, gStrOp, gUn, gPick, gNil, gExtract, gIfc, gConvK, gIndexO, gIndexVO, gMakeV, gMinV, gMaxV, isInt, gMin, gMax, gBlt, gLenX, gCallV, gInvoke, gNilM, Array.toList_map, vcells, gField, gIndexV, gPart, reduceIte, Nat.reduceAdd, Nat.reduceSub, Nat.reduceMul, Nat.reduceLT, Nat.reduceLeDiff, Nat.reduceEqDiff, Nat.reduceBEq, Int.reduceLT, Int.reduceLE, Int.reduceGT, Int.reduceGE, Int.reduceEq, Int.reduceNe, Int.reduceAdd, Int.reduceSub, Int.reduceMul, Int.reduceNeg, Int.reduceToNat, Int.reduceBEq, Int.reduceBNe, Int.cast_ofNat_Int, List.getElem?_toArray, stp, Try.underlying23, Try.underlying24, Try.underlying29, Try.underlying3, Try.underlying36, Try.underlying4, Try.underlying62, Try.underlying63, Try.underlying68, Try.underlying70, Try.underlying91, ty23, ty24, ty36, ty68, ty62, ty70, ty91, ty29, ty3, ty4, ty63, rs32, gloadA m4 sz70 rfl]))
    exact ⟨.inl ⟨hw, RAn.zero h4 _ 0⟩, (s12.trans s3).upd n2' f4⟩
  obtain ⟨w1, w2, w3, w4, w5⟩ := wrong0 hw
  have dw : (wrongF true true p M.length q != 0) = false := by simpa using hw
  have s03 := s12.trans s3
  refine mk_of ?_; repeat' (first | (with_reducible first | refine gw_seq ?_ | refine gw_block ?_) | ((first | (with_reducible refine mk_to ?_) | (with_reducible first | refine gw_region ?_ | refine gw_if ?_ | refine gw_skip ?_ | refine gw_exit ?_ | refine gw_ret ?_) | ((with_reducible first | refine gif_b (fun hb => ?_) (fun hb => ?_) | refine want_t (fun hb => ?_) (fun hb => ?_) | refine want_f (fun hb => ?_) (fun hb => ?_)) <;> (try simp only [hb]) <;> (try simp only [hpr] at hb))) <;> try simp only [List.map, gop, ev, lk, aenv, gyield, gBin, gInt, gStrOp, gUn, gPick, gNil, gExtract, gIfc, gConvK, gIndexO, gIndexVO, gMakeV, gMinV, gMaxV, isInt, gMin, gMax, gBlt, gLenX, gCallV, gInvoke, gNilM, Array.toList_map, vcells, gField, gIndexV, gPart, reduceIte, Nat.reduceAdd, Nat.reduceSub, Nat.reduceMul, Nat.reduceLT, Nat.reduceLeDiff, Nat.reduceEqDiff, Nat.reduceBEq, Int.reduceLT, Int.reduceLE, Int.reduceGT, Int.reduceGE, Int.reduceEq, Int.reduceNe, Int.reduceAdd, Int.reduceSub, Int.reduceMul, Int.reduceNeg, Int.reduceToNat, Int.reduceBEq, Int.reduceBNe, Int.cast_ofNat_Int, List.getElem?_toArray, stp, Try.underlying23, Try.underlying24, Try.underlying29, Try.underlying3, Try.underlying36, Try.underlying4, Try.underlying62, Try.underlying63, Try.underlying68, Try.underlying70, Try.underlying91, ty23, ty24, ty36, ty68, ty62, ty70, ty91, ty29, ty3, ty4, ty63, rs32, dw, gloadA (s3 _ _ m1) sz62 rfl]))
  refine (c_diff N (x.hs s03) q (r.hs s03) (by omega) (by omega) hc3).mono ?_
  rintro v4 h4 ⟨⟨L, D, r4⟩, s4⟩
  have r4' : RAn h4 v4 (diffA q L) := r4
  obtain ⟨a4, b4, c4', d4, e4, f4', rfl, _⟩ := r4
  refine mk_of ?_; repeat' (first | (with_reducible first | refine gw_seq ?_ | refine gw_block ?_) | ((first | (with_reducible refine mk_to ?_) | (with_reducible first | refine gw_region ?_ | refine gw_if ?_ | refine gw_skip ?_ | refine gw_exit ?_ | refine gw_ret ?_) | ((with_reducible first | refine gif_b (fun hb => ?_) (fun hb => ?_) | refine want_t (fun hb => ?_) (fun hb => ?_) | refine want_f (fun hb => ?_) (fun hb => ?_)) <;> (try simp only [hb]) <;> (try simp only [hpr] at hb))) <;> try simp only [List.map, gop, ev, lk, aenv, gyield, gBin, gInt, gStrOp, gUn, gPick, gNil, gExtract, gIfc, gConvK, gIndexO, gIndexVO, gMakeV, gMinV, gMaxV, isInt, gMin, gMax, gBlt, gLenX, gCallV, gInvoke, gNilM, Array.toList_map, vcells, gField, gIndexV, gPart, reduceIte, Nat.reduceAdd, Nat.reduceSub, Nat.reduceMul, Nat.reduceLT, Nat.reduceLeDiff, Nat.reduceEqDiff, Nat.reduceBEq, Int.reduceLT, Int.reduceLE, Int.reduceGT, Int.reduceGE, Int.reduceEq, Int.reduceNe, Int.reduceAdd, Int.reduceSub, Int.reduceMul, Int.reduceNeg, Int.reduceToNat, Int.reduceBEq, Int.reduceBNe, Int.cast_ofNat_Int, List.getElem?_toArray, stp, Try.underlying23, Try.underlying24, Try.underlying29, Try.underlying3, Try.underlying36, Try.underlying4, Try.underlying62, Try.underlying63, Try.underlying68, Try.underlying70, Try.underlying91, ty23, ty24, ty36, ty68, ty62, ty70, ty91, ty29, ty3, ty4, ty63, rs32]))
  refine st_all (s4 _ _ m23) sz70 rfl (by decide) rfl rfl rfl fun h5 m5 f5 => ?_
  refine mk_of ?_; repeat' (first | (with_reducible first | refine gw_seq ?_ | refine gw_block ?_) | ((first | (with_reducible refine mk_to ?_) | (with_reducible first | refine gw_region ?_ | refine gw_if ?_ | refine gw_skip ?_ | refine gw_exit ?_ | refine gw_ret ?_) | ((with_reducible first | refine gif_b (fun hb => ?_) (fun hb => ?_) | refine want_t (fun hb => ?_) (fun hb => ?_) | refine want_f (fun hb => ?_) (fun hb => ?_)) <;> (try simp only [hb]) <;> (try simp only [hpr] at hb))) <;> try simp only [List.map, gop, ev, lk, aenv, gyield, gBin, gInt, gStrOp, gUn, gPick, gNil, gExtract, gIfc, gConvK, gIndexO, gIndexVO, gMakeV, gMinV, gMaxV, isInt, gMin, gMax, gBlt, gLenX, gCallV, gInvoke, gNilM, Array.toList_map, vcells, gField, gIndexV, gPart, reduceIte, Nat.reduceAdd, Nat.reduceSub, Nat.reduceMul, Nat.reduceLT, Nat.reduceLeDiff, Nat.reduceEqDiff, Nat.reduceBEq, Int.reduceLT, Int.reduceLE, Int.reduceGT, Int.reduceGE, Int.reduceEq, Int.reduceNe, Int.reduceAdd, Int.reduceSub, Int.reduceMul, Int.reduceNeg, Int.reduceToNat, Int.reduceBEq, Int.reduceBNe, Int.cast_ofNat_Int, List.getElem?_toArray, stp, Try.underlying23, Try.underlying24, Try.underlying29, Try.underlying3, Try.underlying36, Try.underlying4, Try.underlying62, Try.underlying63, Try.underlying68, Try.underlying70, Try.underlying91, ty23, ty24, ty36, ty68, ty62, ty70, ty91, ty29, ty3, ty4, ty63, rs32, gloadA m5 sz70 rfl]))
  exact ⟨.inr ⟨hw, L, D, r4'.hxv (s4 _ _ m23) ⟨rfl, rfl⟩ rfl fun j B n e => (f5 j n).trans e⟩, (s03.trans s4).upd n2' f5⟩
end Go.Gh

/- Ideal: a diff read page by page. -/

namespace Go.Gh
open Go Go.Proofs Go.RowKit
set_option linter.unusedVariables false
set_option linter.unusedSimpArgs false
set_option maxRecDepth 100000
set_option maxHeartbeats 4000000

theorem c_SEq (N : Nat) (h : GH) {a b : Option Addr} {c d : Nat} {l k : List UInt8} (r1 : RB h (.slice a l.length c) l) (r2 : RB h (.slice b k.length d) k) (hl : l.length ≤ 140737488355328) :
    GTri Try.prog N 48 [.slice a l.length c, .slice b k.length d] h fun v h' => v = .bool (l == k) ∧ h' = h := by
  refine gtri Try.func48 rfl gf48 ok48 (by simp [Try.ntmps48]) ?_
  by_cases hlm : l.length = k.length
  case neg =>
    have d0 : ((l.length : Int) != (k.length : Int)) = true := by simp; omega
    have e : (l == k) = false := by simpa using fun e => hlm (by rw [e])
    refine mk_of ?_; repeat' (first | (with_reducible first | refine gw_seq ?_ | refine gw_block ?_) | ((first | (with_reducible refine mk_to ?_) | (with_reducible first | refine gw_region ?_ | refine gw_if ?_ | refine gw_skip ?_ | refine gw_exit ?_ | refine gw_ret ?_) | ((with_reducible first | refine gif_b (fun hb => ?_) (fun hb => ?_) | refine want_t (fun hb => ?_) (fun hb => ?_) | refine want_f (fun hb => ?_) (fun hb => ?_) | refine dr_t (fun hb => ?_) (fun hb => ?_) | refine dr_f (fun hb => ?_) (fun hb => ?_)) <;> (try simp only [hb]) <;> (try simp only [hpr] at hb)) | with_reducible refine gw_draw (id := 6) [(0, []), (1, []), (2, []), (3, []), (4, []), (5, []), (6, []), (7, []), (8, [])] [0, 0, 3, 7, 0, 0, 48, 112, 255] mixed (by kernel_rfl) ?_) <;> try simp only [List.map, gop, ev, lk, aenv, gyield, gBin, gInt, gStrOp, gUn, gPick, gNil, gExtract, gIfc, gConvK, gIndexO, gIndexVO, gMakeV, gMinV, gMaxV, isInt, gMin, gMax, gBlt, gLenX, gCallV, gInvoke, gNilM, Array.toList_map, vcells, gField, gIndexV, gPart, reduceIte, Nat.reduceAdd, Nat.reduceSub, Nat.reduceMul, Nat.reduceLT, Nat.reduceLeDiff, Nat.reduceEqDiff, Nat.reduceBEq, Int.reduceLT, Int.reduceLE, Int.reduceGT, Int.reduceGE, Int.reduceEq, Int.reduceNe, Int.reduceAdd, Int.reduceSub, Int.reduceMul, Int.reduceNeg, Int.reduceToNat, Int.reduceBEq, Int.reduceBNe, Int.cast_ofNat_Int, List.getElem?_toArray, stp, rvOf, rvLen, wput, wlk, rdv, isEff, dsOf, sgl, stq, Try.underlying24, Try.underlying3, Try.underlying5, ty24, ty3, ty5, rs48, d0]))
    rw [e]
  have d0 : ((l.length : Int) != (k.length : Int)) = false := by simp; omega
  refine mk_of ?_; repeat' (first | (with_reducible first | refine gw_seq ?_ | refine gw_block ?_) | ((first | (with_reducible refine mk_to ?_) | (with_reducible first | refine gw_region ?_ | refine gw_if ?_ | refine gw_skip ?_ | refine gw_exit ?_ | refine gw_ret ?_) | ((with_reducible first | refine gif_b (fun hb => ?_) (fun hb => ?_) | refine want_t (fun hb => ?_) (fun hb => ?_) | refine want_f (fun hb => ?_) (fun hb => ?_) | refine dr_t (fun hb => ?_) (fun hb => ?_) | refine dr_f (fun hb => ?_) (fun hb => ?_)) <;> (try simp only [hb]) <;> (try simp only [hpr] at hb)) | with_reducible refine gw_draw (id := 6) [(0, []), (1, []), (2, []), (3, []), (4, []), (5, []), (6, []), (7, []), (8, [])] [0, 0, 3, 7, 0, 0, 48, 112, 255] mixed (by kernel_rfl) ?_) <;> try simp only [List.map, gop, ev, lk, aenv, gyield, gBin, gInt, gStrOp, gUn, gPick, gNil, gExtract, gIfc, gConvK, gIndexO, gIndexVO, gMakeV, gMinV, gMaxV, isInt, gMin, gMax, gBlt, gLenX, gCallV, gInvoke, gNilM, Array.toList_map, vcells, gField, gIndexV, gPart, reduceIte, Nat.reduceAdd, Nat.reduceSub, Nat.reduceMul, Nat.reduceLT, Nat.reduceLeDiff, Nat.reduceEqDiff, Nat.reduceBEq, Int.reduceLT, Int.reduceLE, Int.reduceGT, Int.reduceGE, Int.reduceEq, Int.reduceNe, Int.reduceAdd, Int.reduceSub, Int.reduceMul, Int.reduceNeg, Int.reduceToNat, Int.reduceBEq, Int.reduceBNe, Int.cast_ofNat_Int, List.getElem?_toArray, stp, rvOf, rvLen, wput, wlk, rdv, isEff, dsOf, sgl, stq, Try.underlying24, Try.underlying3, Try.underlying5, ty24, ty3, ty5, rs48, d0]))
  refine gw_loop2 [0, 1, 12] (fun (i : Nat) => [(13, .int .i64 (i : Int))])
    (fun q i h' => l.length - i = q ∧ i ≤ l.length ∧ h' = h ∧ l.take i = k.take i) l.length 0 (by simp [lk]) ⟨rfl, by omega, rfl, by simp⟩ ?_
  rintro _ i h5 ⟨rfl, hi, rfl, et⟩
  by_cases hil : i < l.length
  case neg =>
    have d3 : decide ((i : Int) < (l.length : Int)) = false := decide_eq_false (by omega)
    have : l = k := by rw [List.take_of_length_le (by omega), List.take_of_length_le (by omega)] at et; exact et
    have e : (l == k) = true := by simpa using this
    refine mk_of ?_; repeat' (first | (with_reducible first | refine gw_seq ?_ | refine gw_block ?_) | ((first | (with_reducible refine mk_to ?_) | (with_reducible first | refine gw_region ?_ | refine gw_if ?_ | refine gw_skip ?_ | refine gw_exit ?_ | refine gw_ret ?_) | ((with_reducible first | refine gif_b (fun hb => ?_) (fun hb => ?_) | refine want_t (fun hb => ?_) (fun hb => ?_) | refine want_f (fun hb => ?_) (fun hb => ?_) | refine dr_t (fun hb => ?_) (fun hb => ?_) | refine dr_f (fun hb => ?_) (fun hb => ?_)) <;> (try simp only [hb]) <;> (try simp only [hpr] at hb)) | with_reducible refine gw_draw (id := 6) [(0, []), (1, []), (2, []), (3, []), (4, []), (5, []), (6, []), (7, []), (8, [])] [0, 0, 3, 7, 0, 0, 48, 112, 255] mixed (by kernel_rfl) ?_) <;> try simp only [List.map, gop, ev, lk, aenv, gyield, gBin, gInt, gStrOp, gUn, gPick, gNil, gExtract, gIfc, gConvK, gIndexO, gIndexVO, gMakeV, gMinV, gMaxV, isInt, gMin, gMax, gBlt, gLenX, gCallV, gInvoke, gNilM, Array.toList_map, vcells, gField, gIndexV, gPart, reduceIte, Nat.reduceAdd, Nat.reduceSub, Nat.reduceMul, Nat.reduceLT, Nat.reduceLeDiff, Nat.reduceEqDiff, Nat.reduceBEq, Int.reduceLT, Int.reduceLE, Int.reduceGT, Int.reduceGE, Int.reduceEq, Int.reduceNe, Int.reduceAdd, Int.reduceSub, Int.reduceMul, Int.reduceNeg, Int.reduceToNat, Int.reduceBEq, Int.reduceBNe, Int.cast_ofNat_Int, List.getElem?_toArray, stp, rvOf, rvLen, wput, wlk, rdv, isEff, dsOf, sgl, stq, Try.underlying24, Try.underlying3, Try.underlying5, ty24, ty3, ty5, rs48, d3]))
    rw [e]
  have d3 : decide ((i : Int) < (l.length : Int)) = true := decide_eq_true (by omega)
  have wi : IntKind.i64.wrap ((i : Int) + 1) = ((i + 1 : Nat) : Int) := by rw [wrap64 (by omega) (by omega)]; omega
  obtain ⟨x, hx⟩ := get_lt hil
  obtain ⟨y, hy⟩ := get_lt (show i < k.length by omega)
  obtain ⟨a1, g1, l1⟩ := r1.at (P := Try.prog) Try.underlying24 sz5 hx
  obtain ⟨a2, g2, l2⟩ := r2.at (P := Try.prog) Try.underlying24 sz5 hy
  have hti : l.take (i + 1) = l.take i ++ [x] := by rw [List.take_add_one, hx]; rfl
  have htj : k.take (i + 1) = k.take i ++ [y] := by rw [List.take_add_one, hy]; rfl
  by_cases hxy : x = y
  · have dq : ((x.toNat : Int) != (y.toNat : Int)) = false := by rw [hxy]; simp
    refine mk_of ?_; repeat' (first | (with_reducible first | refine gw_seq ?_ | refine gw_block ?_) | ((first | (with_reducible refine mk_to ?_) | (with_reducible first | refine gw_region ?_ | refine gw_if ?_ | refine gw_skip ?_ | refine gw_exit ?_ | refine gw_ret ?_) | ((with_reducible first | refine gif_b (fun hb => ?_) (fun hb => ?_) | refine want_t (fun hb => ?_) (fun hb => ?_) | refine want_f (fun hb => ?_) (fun hb => ?_) | refine dr_t (fun hb => ?_) (fun hb => ?_) | refine dr_f (fun hb => ?_) (fun hb => ?_)) <;> (try simp only [hb]) <;> (try simp only [hpr] at hb)) | with_reducible refine gw_draw (id := 6) [(0, []), (1, []), (2, []), (3, []), (4, []), (5, []), (6, []), (7, []), (8, [])] [0, 0, 3, 7, 0, 0, 48, 112, 255] mixed (by kernel_rfl) ?_) <;> try simp only [List.map, gop, ev, lk, aenv, gyield, gBin, gInt, gStrOp, gUn, gPick, gNil, gExtract, gIfc, gConvK, gIndexO, gIndexVO, gMakeV, gMinV, gMaxV, isInt, gMin, gMax, gBlt, gLenX, gCallV, gInvoke, gNilM, Array.toList_map, vcells, gField, gIndexV, gPart, reduceIte, Nat.reduceAdd, Nat.reduceSub, Nat.reduceMul, Nat.reduceLT, Nat.reduceLeDiff, Nat.reduceEqDiff, Nat.reduceBEq, Int.reduceLT, Int.reduceLE, Int.reduceGT, Int.reduceGE, Int.reduceEq, Int.reduceNe, Int.reduceAdd, Int.reduceSub, Int.reduceMul, Int.reduceNeg, Int.reduceToNat, Int.reduceBEq, Int.reduceBNe, Int.cast_ofNat_Int, List.getElem?_toArray, stp, rvOf, rvLen, wput, wlk, rdv, isEff, dsOf, sgl, stq, Try.underlying24, Try.underlying3, Try.underlying5, ty24, ty3, ty5, rs48, d3, g1, g2, l1, l2, bv, dq, wi]))
    refine ⟨_, i + 1, ?_, (by simp only [List.forall_mem_cons, List.not_mem_nil, false_implies, implies_true, List.map, List.cons_append, List.nil_append, lk, Nat.reduceEqDiff, reduceIte, and_true, true_and]), rfl, by omega, ?_⟩
    · omega
    · rw [hti, htj, et, hxy]
  · have dq : ((x.toNat : Int) != (y.toNat : Int)) = true := by
      simp only [bne_iff_ne, ne_eq]
      intro e
      exact hxy (UInt8.toNat_inj.1 (by omega))
    have e : (l == k) = false := by
      simpa using fun e : l = k => by subst e; rw [hx] at hy; cases hy; exact hxy rfl
    refine mk_of ?_; repeat' (first | (with_reducible first | refine gw_seq ?_ | refine gw_block ?_) | ((first | (with_reducible refine mk_to ?_) | (with_reducible first | refine gw_region ?_ | refine gw_if ?_ | refine gw_skip ?_ | refine gw_exit ?_ | refine gw_ret ?_) | ((with_reducible first | refine gif_b (fun hb => ?_) (fun hb => ?_) | refine want_t (fun hb => ?_) (fun hb => ?_) | refine want_f (fun hb => ?_) (fun hb => ?_) | refine dr_t (fun hb => ?_) (fun hb => ?_) | refine dr_f (fun hb => ?_) (fun hb => ?_)) <;> (try simp only [hb]) <;> (try simp only [hpr] at hb)) | with_reducible refine gw_draw (id := 6) [(0, []), (1, []), (2, []), (3, []), (4, []), (5, []), (6, []), (7, []), (8, [])] [0, 0, 3, 7, 0, 0, 48, 112, 255] mixed (by kernel_rfl) ?_) <;> try simp only [List.map, gop, ev, lk, aenv, gyield, gBin, gInt, gStrOp, gUn, gPick, gNil, gExtract, gIfc, gConvK, gIndexO, gIndexVO, gMakeV, gMinV, gMaxV, isInt, gMin, gMax, gBlt, gLenX, gCallV, gInvoke, gNilM, Array.toList_map, vcells, gField, gIndexV, gPart, reduceIte, Nat.reduceAdd, Nat.reduceSub, Nat.reduceMul, Nat.reduceLT, Nat.reduceLeDiff, Nat.reduceEqDiff, Nat.reduceBEq, Int.reduceLT, Int.reduceLE, Int.reduceGT, Int.reduceGE, Int.reduceEq, Int.reduceNe, Int.reduceAdd, Int.reduceSub, Int.reduceMul, Int.reduceNeg, Int.reduceToNat, Int.reduceBEq, Int.reduceBNe, Int.cast_ofNat_Int, List.getElem?_toArray, stp, rvOf, rvLen, wput, wlk, rdv, isEff, dsOf, sgl, stq, Try.underlying24, Try.underlying3, Try.underlying5, ty24, ty3, ty5, rs48, d3, g1, g2, l1, l2, bv, dq]))
    rw [e]
end Go.Gh

/- Ideal: pages of a diff. Plain laws. -/

namespace Go.Gh
open Go Go.Proofs Go.RowKit
set_option linter.unusedVariables false
set_option linter.unusedSimpArgs false
set_option maxRecDepth 100000
set_option maxHeartbeats 2000000

theorem idO_irr (x : List UInt8) : ¬ idO x x < 0 := by have := tc_id.anti x x; omega
theorem Diff.nodup {M : List (Int × List Bnd)} {q : Ak} {L : List Itm} (x : Diff M q L) : (L.map (·.1.1)).Nodup := by
  unfold List.Nodup
  rw [List.pairwise_map]
  refine List.Pairwise.imp ?_ x.ord
  intro a b hab e
  rw [e] at hab
  exact idO_irr _ hab
theorem evA_mem {M : List (Int × List Bnd)} {e i : Nat} : ∀ {c s : Nat}, s ≤ e → e < s + c → i < (bOf M e).length → (e, i, bat1 (bOf M e) i) ∈ evA M s c := fun {c s} h1 h2 h3 => by
  unfold evA
  rw [List.mem_flatMap]
  refine ⟨e - s, List.mem_range.2 (by omega), ?_⟩
  rw [show s + (e - s) = e by omega]
  exact List.mem_of_getElem? (evs1_get h3)
theorem Diff.lens {M : List (Int × List Bnd)} {q : Ak} {L : List Itm} (x : Diff M q L) : L.length ≤ tot (M.map (·.2)) := by
  have hall : (evA M 0 M.length).length ≤ tot (M.map (·.2)) := by
    have := evA_tot M M.length 0 (by omega)
    rwa [List.drop_zero] at this
  have hch : ∀ id : List UInt8, ∃ g : Nat, id ∈ L.map (·.1.1) → ∃ v, (evA M 0 M.length)[g]? = some v ∧ v.2.2.1 = id := fun id => by
    by_cases h : id ∈ L.map (·.1.1)
    · obtain ⟨z, hz, rfl⟩ := List.mem_map.1 h
      obtain ⟨_, hat⟩ := x.len z hz
      obtain ⟨pp, hp, _, _⟩ := atI_sps hat
      obtain ⟨_, hl, b, hb, hi, hid⟩ := sps_mem hp
      rw [Nat.sub_zero, List.getElem?_map] at hb
      obtain ⟨y, hy, rfl⟩ := Option.map_eq_some_iff.1 hb
      have hbo := bOf_get hy
      rw [Nat.zero_add, List.length_map] at hl
      have hm := evA_mem (M := M) (e := pp.1) (i := pp.2) (s := 0) (c := M.length) (Nat.zero_le _) (by omega) (by rw [hbo]; exact hi)
      obtain ⟨g, hg⟩ := List.mem_iff_getElem?.1 hm
      exact ⟨g, fun _ => ⟨_, hg, by rw [hbo]; exact hid⟩⟩
    · exact ⟨0, fun q => absurd q h⟩
  obtain ⟨g, hg⟩ := Classical.axiomOfChoice hch
  have nd : ((L.map (·.1.1)).map g).Nodup := by
    unfold List.Nodup
    rw [List.pairwise_map]
    refine List.Pairwise.imp_of_mem ?_ x.nodup
    intro a b ha hb hne e
    obtain ⟨v, h1, h2⟩ := hg a ha
    obtain ⟨w, h3, h4⟩ := hg b hb
    rw [e, h3] at h1
    cases h1
    exact hne (h2.symm.trans h4)
  have := nodup_len (evA M 0 M.length).length _ nd fun q hq => by
    obtain ⟨id, hid, rfl⟩ := List.mem_map.1 hq
    obtain ⟨v, h1, _⟩ := hg id hid
    exact (List.getElem?_eq_some_iff.1 h1).1
  rw [List.length_map, List.length_map] at this
  omega
/-- Where one is among the pages. -/
def PG (M : List (Int × List Bnd)) (q0 : Ak) (sm : Bool) (id : List UInt8) (got : List Itm) : Prop :=
  (got = [] ∧ sm = false) ∨ ∃ L i z, Diff M q0 L ∧ L[i]? = some z ∧ sm = true ∧ id = z.1.1 ∧ got = L.take (i + 1)
theorem PG.page {M : List (Int × List Bnd)} {q0 : Ak} {sm : Bool} {id : List UInt8} {got L2 : List Itm} (x : PG M { q0 with sm := false } sm id got) (D : Diff M { q0 with sm := sm, id := id } L2) : ∃ L pos, Diff M { q0 with sm := false } L ∧ L2 = L.drop pos ∧ got = L.take pos ∧ pos ≤ L.length := by
  rcases x with ⟨rfl, rfl⟩ | ⟨L, i, z, D0, hz, rfl, rfl, rfl⟩
  · refine ⟨L2, 0, ⟨D.ord, fun z => ?_⟩, rfl, by simp, by omega⟩
    rw [D.mem]
    have : dsel M { q0 with sm := false, id := id } z.1.1 = dsel M { q0 with sm := false } z.1.1 := by
      unfold dsel
      simp
    rw [this]
  · have D1 : Diff M { q0 with sm := false, id := z.1.1 } L := ⟨D0.ord, fun w => by
      rw [D0.mem]
      have : dsel M { q0 with sm := false, id := z.1.1 } w.1.1 = dsel M { q0 with sm := false } w.1.1 := by
        unfold dsel
        simp
      rw [this]⟩
    have h1 := Diff.drop (q := { q0 with sm := true, id := z.1.1 }) D1 hz rfl rfl
    exact ⟨L, i + 1, D0, (D.uniq h1 fun _ => rfl), rfl, (List.getElem?_eq_some_iff.1 hz).1⟩
theorem cnt_one {pr : Itm → Bool} {z : Itm} (h1 : pr z = true) (h2 : ∀ y, pr y = true → y.1.1 = z.1.1) : ∀ {L : List Itm}, (L.map (·.1.1)).Nodup → z ∈ L → (L.filter pr).length = 1
  | [], _, h => by simp at h
  | y :: L, nd, h => by
    rw [List.map_cons, List.nodup_cons] at nd
    have none : (z.1.1 ∉ L.map (·.1.1)) → (L.filter pr) = [] := fun hn => by
      rw [List.filter_eq_nil_iff]
      intro w hw hp
      exact hn (List.mem_map.2 ⟨w, hw, h2 w hp⟩)
    by_cases hyz : y.1.1 = z.1.1
    · rw [hyz] at nd
      rcases List.mem_cons.1 h with rfl | h
      · rw [List.filter_cons, if_pos h1, none nd.1]; rfl
      · exact absurd (List.mem_map.2 ⟨z, h, rfl⟩) nd.1
    · rcases List.mem_cons.1 h with rfl | h
      · exact absurd rfl hyz
      · rw [List.filter_cons, if_neg (fun hp => hyz (h2 y hp))]
        exact cnt_one h1 h2 nd.2 h
/-- What is known of an identity of a batch, at the end of the range. -/
theorem atI_in {M : List (Int × List Bnd)} {e i : Nat} {y : Int × List Bnd} (hy : M[e]? = some y) (hi : i < y.2.length) {t : Int} (ht : (e : Int) ≤ t) : ∃ key ep, atI M (bat1 y.2 i).1 t = some (key, ep) ∧ e ≤ ep ∧ (ep : Int) ≤ t := by
  have hm : ∀ (Ms : List (List Bnd)) (s : Nat), Ms[e - s]? = some y.2 → s ≤ e → ∃ p ∈ sps s Ms (bat1 y.2 i).1, p.1 = e := by
    intro Ms
    induction Ms with
    | nil => intro s h; simp at h
    | cons b Ms ih =>
      intro s h hs
      by_cases h0 : e = s
      · subst h0
        rw [Nat.sub_self] at h
        simp at h
        subst h
        exact ⟨(e, i), List.mem_append_left _ (newsp_iff.2 ⟨rfl, hi, rfl⟩), rfl⟩
      · rw [show e - s = (e - (s + 1)) + 1 by omega, List.getElem?_cons_succ] at h
        obtain ⟨p, hp, e2⟩ := ih (s + 1) h (by omega)
        exact ⟨p, List.mem_append_right _ hp, e2⟩
  obtain ⟨p, hp, rfl⟩ := hm (M.map (·.2)) 0 (by rw [Nat.sub_zero, List.getElem?_map, hy]; rfl) (Nat.zero_le _)
  have ris := sps_ris (bat1 y.2 i).1 (M.map (·.2)) 0
  cases hA : atS (sps 0 (M.map (·.2)) (bat1 y.2 i).1) t with
  | none =>
    exfalso
    unfold atS at hA
    rw [Option.map_eq_none_iff, List.getLast?_eq_none_iff, List.filter_eq_nil_iff] at hA
    exact hA p hp (by simpa using ht)
  | some ep =>
    have hA' := hA
    unfold atS at hA
    obtain ⟨w, hw, rfl⟩ := Option.map_eq_some_iff.1 hA
    have hwm := List.mem_of_getLast? hw
    obtain ⟨g1, g2⟩ := List.mem_filter.1 hwm
    refine ⟨_, w.1, by unfold atI; rw [hA']; rfl, ?_, by simpa using g2⟩
    obtain ⟨ys, hys⟩ := List.getLast?_eq_some_iff.1 hw
    have hpm : p ∈ (sps 0 (M.map (·.2)) (bat1 y.2 i).1).filter fun p => decide ((p.1 : Int) ≤ t) := List.mem_filter.2 ⟨hp, decide_eq_true ht⟩
    have pw := (ris_pw ris).filter fun p => decide ((p.1 : Int) ≤ t)
    rw [hys] at hpm pw
    rcases List.mem_append.1 hpm with h | h
    · exact (List.pairwise_append.1 pw).2.2 p h w (by simp)
    · obtain rfl := List.mem_singleton.1 h; exact Nat.le_refl _
end Go.Gh

/- Ideal: a diff read page by page: the law. -/

namespace Go.Gh
open Go Go.Proofs Go.RowKit
set_option linter.unusedVariables false
set_option linter.unusedSimpArgs false
set_option maxRecDepth 100000
set_option maxHeartbeats 4000000

def prd (id key : List UInt8) (ep : Nat) (fr : Int) (y : Itm) : Bool := ((y.1.1 == id) && (y.1.2 == key)) && ((y.2 : Int) == (ep : Int)) && decide ((y.2 : Int) > fr)
def Its (h0 h : GH) (v : Value) (L : List Itm) : Prop := ∃ ds, OWNC 3 h0 h v L.length ds ∧ ds.all notU8 = true ∧ ∀ (i : Nat) x, L[i]? = some x → It h ((ds.drop (i * 3)).take 3) x
theorem Its.hs {h0 h h' : GH} {v : Value} {L : List Itm} (x : Its h0 h v L) (s : HS h h') : Its h0 h' v L := by
  obtain ⟨ds, o, u, r⟩ := x
  exact ⟨ds, o.hs s, u, fun i p hp => (r i p hp).hs s⟩
theorem Its.rl {h0 h : GH} {v : Value} {L : List Itm} (x : Its h0 h v L) : RL 3 It h v L := by
  obtain ⟨ds, o, u, r⟩ := x
  exact o.rl r
theorem It.cells {h : GH} {cs : List Value} {e : Itm} (r : It h cs e) : cs.length = 3 ∧ cs.all isCell = true ∧ cs.all notU8 = true ∧ vcells (.agg cs.toArray) = cs := by
  obtain ⟨a, c, b, d, rfl, _⟩ := r
  exact ⟨rfl, rfl, rfl, rfl⟩
/-- Who has a key is no longer than may be. -/
theorem IM.short {h0 h : GH} {k j : Nat} {p : Pm} {ew : Value} {cs l : List Value} {M : List (Int × List Bnd)} {ck : Int} {n : Nat} (x : IM h0 h k j p ew cs l M ck n) {id key : List UInt8} {e : Int} {ep : Nat} (hat : atI M id e = some (key, ep)) : (id.length : Int) ≤ p.mi := by
  obtain ⟨pp, hp, _, _⟩ := atI_sps hat
  obtain ⟨_, hl, b, hb, hi, hid⟩ := sps_mem hp
  rw [Nat.sub_zero, List.getElem?_map] at hb
  obtain ⟨y, hy, rfl⟩ := Option.map_eq_some_iff.1 hb
  rcases x.ks.2.2.1 y (List.mem_of_getElem? hy) with e | e
  · rw [e] at hi; simp at hi
  · have := (chkB_dis e).2 (bat1 y.2 pp.2) (by
      have : y.2[pp.2]? = some (bat1 y.2 pp.2) := by simp [bat1, List.getElem?_eq_getElem hi]
      exact List.mem_of_getElem? this)
    unfold tooLong at this
    rw [hid] at this
    omega
theorem IM.keyl {h0 h : GH} {k j : Nat} {p : Pm} {ew : Value} {cs l : List Value} {M : List (Int × List Bnd)} {ck : Int} {n : Nat} (x : IM h0 h k j p ew cs l M ck n) {id key : List UInt8} {e : Int} {ep : Nat} (hat : atI M id e = some (key, ep)) : key.length ≤ 140737488355328 := by
  unfold atI at hat
  obtain ⟨ep', h1, h2⟩ := Option.map_eq_some_iff.1 hat
  cases h2
  cases hy : M[ep]? with
  | none => simp [keyOf]
  | some y =>
    simp only [Option.map_some, Option.getD_some]
    unfold keyOf
    cases hf : y.2.find? (fun z => z.1 == id) with
    | none => simp
    | some z => exact ((x.bl y (List.mem_of_getElem? hy)).1 z (List.mem_of_find?_eq_some hf)).2
theorem c_IdealDiffs (N : Nat) (h : GH) {a : Option Addr} {c : Nat} {l : List (List Bnd)} (rl : RL 1 Bl h (.slice a l.length c) l) (hl : l.length ≤ 140737488355328) (hll : ∀ b ∈ l, small b ∧ b.length ≤ 140737488355328) (from' to' limit : Int) :
    GTri Try.prog N 10 [.slice a l.length c, .int .i64 from', .int .i64 to', .int .i64 limit] h fun v h' => v = .bool true := by
  have hd : pmd.v = .agg #[.int .i64 4, .int .i64 5, .int .i64 2, .int .i64 4, .int .i64 60, .int .i64 4681, .int .i64 1, .int .i64 3] := rfl
  refine gtri Try.func10 rfl gf10 ok10 (by simp [Try.ntmps10]) ?_
  repeat' (first | (with_reducible first | refine gw_seq ?_ | refine gw_block ?_) | ((first | (with_reducible first | refine gw_region ?_ | refine gw_if ?_ | refine gw_skip ?_ | refine gw_exit ?_ | refine gw_ret ?_) | ((with_reducible first | refine gif_b (fun hb => ?_) (fun hb => ?_) | refine want_t (fun hb => ?_) (fun hb => ?_) | refine want_f (fun hb => ?_) (fun hb => ?_) | refine dr_t (fun hb => ?_) (fun hb => ?_) | refine dr_f (fun hb => ?_) (fun hb => ?_)) <;> (try simp only [hb]) <;> (try simp only [hpr] at hb)) | with_reducible refine gw_draw (id := 15) [(0, []), (1, []), (2, []), (3, []), (4, []), (5, []), (6, []), (7, []), (8, [2, 6]), (9, []), (10, [])] [0, 0, 2, 6, 15, 31, 63, 0, 128, 511, 1023] mixed (by kernel_rfl) ?_) <;> try simp only [List.map, gop, ev, lk, aenv, gyield, gBin, gInt, gStrOp, gUn, gPick, gNil, gExtract, gIfc, gConvK, gIndexO, gIndexVO, gMakeV, gMinV, gMaxV, isInt, gMin, gMax, gBlt, gLenX, gCallV, gInvoke, gNilM, Array.toList_map, vcells, gField, gIndexV, gPart, reduceIte, Nat.reduceAdd, Nat.reduceSub, Nat.reduceMul, Nat.reduceLT, Nat.reduceLeDiff, Nat.reduceEqDiff, Nat.reduceBEq, Int.reduceLT, Int.reduceLE, Int.reduceGT, Int.reduceGE, Int.reduceEq, Int.reduceNe, Int.reduceAdd, Int.reduceSub, Int.reduceMul, Int.reduceNeg, Int.reduceToNat, Int.reduceBEq, Int.reduceBNe, Int.cast_ofNat_Int, List.getElem?_toArray, stp, rvOf, rvLen, wput, wlk, rdv, isEff, dsOf, sgl, stq, Try.underlying22, Try.underlying23, Try.underlying24, Try.underlying29, Try.underlying3, Try.underlying36, Try.underlying4, Try.underlying5, Try.underlying56, Try.underlying62, Try.underlying63, Try.underlying65, Try.underlying68, Try.underlying70, Try.underlying91, Try.underlying97, Try.underlying99, cv3_56, cv56_3, ty22, ty23, ty24, ty36, ty68, ty62, ty65, ty70, ty91, ty97, ty99, ty29, ty3, ty4, ty5, ty56, ty63, rs10]))
  refine (c_made N h rl hl hll).mono ?_
  rintro _ h1 ⟨⟨k, j, ew, cs, l', ck, B, rfl, hk, gB, x1⟩, s1⟩
  rw [hd]
  refine mk_of ?_; repeat' (first | (with_reducible first | refine gw_seq ?_ | refine gw_block ?_) | ((first | (with_reducible refine mk_to ?_) | (with_reducible first | refine gw_region ?_ | refine gw_if ?_ | refine gw_skip ?_ | refine gw_exit ?_ | refine gw_ret ?_) | ((with_reducible first | refine gif_b (fun hb => ?_) (fun hb => ?_) | refine want_t (fun hb => ?_) (fun hb => ?_) | refine want_f (fun hb => ?_) (fun hb => ?_) | refine dr_t (fun hb => ?_) (fun hb => ?_) | refine dr_f (fun hb => ?_) (fun hb => ?_)) <;> (try simp only [hb]) <;> (try simp only [hpr] at hb)) | with_reducible refine gw_draw (id := 15) [(0, []), (1, []), (2, []), (3, []), (4, []), (5, []), (6, []), (7, []), (8, [2, 6]), (9, []), (10, [])] [0, 0, 2, 6, 15, 31, 63, 0, 128, 511, 1023] mixed (by kernel_rfl) ?_) <;> try simp only [List.map, gop, ev, lk, aenv, gyield, gBin, gInt, gStrOp, gUn, gPick, gNil, gExtract, gIfc, gConvK, gIndexO, gIndexVO, gMakeV, gMinV, gMaxV, isInt, gMin, gMax, gBlt, gLenX, gCallV, gInvoke, gNilM, Array.toList_map, vcells, gField, gIndexV, gPart, reduceIte, Nat.reduceAdd, Nat.reduceSub, Nat.reduceMul, Nat.reduceLT, Nat.reduceLeDiff, Nat.reduceEqDiff, Nat.reduceBEq, Int.reduceLT, Int.reduceLE, Int.reduceGT, Int.reduceGE, Int.reduceEq, Int.reduceNe, Int.reduceAdd, Int.reduceSub, Int.reduceMul, Int.reduceNeg, Int.reduceToNat, Int.reduceBEq, Int.reduceBNe, Int.cast_ofNat_Int, List.getElem?_toArray, stp, rvOf, rvLen, wput, wlk, rdv, isEff, dsOf, sgl, stq, Try.underlying22, Try.underlying23, Try.underlying24, Try.underlying29, Try.underlying3, Try.underlying36, Try.underlying4, Try.underlying5, Try.underlying56, Try.underlying62, Try.underlying63, Try.underlying65, Try.underlying68, Try.underlying70, Try.underlying91, Try.underlying97, Try.underlying99, cv3_56, cv56_3, ty22, ty23, ty24, ty36, ty68, ty62, ty65, ty70, ty91, ty97, ty99, ty29, ty3, ty4, ty5, ty56, ty63, rs10]))
  refine new_g fun k2 h2 m2 s2 f2 n2 => ?_
  refine mk_of ?_; repeat' (first | (with_reducible first | refine gw_seq ?_ | refine gw_block ?_) | ((first | (with_reducible refine mk_to ?_) | (with_reducible first | refine gw_region ?_ | refine gw_if ?_ | refine gw_skip ?_ | refine gw_exit ?_ | refine gw_ret ?_) | ((with_reducible first | refine gif_b (fun hb => ?_) (fun hb => ?_) | refine want_t (fun hb => ?_) (fun hb => ?_) | refine want_f (fun hb => ?_) (fun hb => ?_) | refine dr_t (fun hb => ?_) (fun hb => ?_) | refine dr_f (fun hb => ?_) (fun hb => ?_)) <;> (try simp only [hb]) <;> (try simp only [hpr] at hb)) | with_reducible refine gw_draw (id := 15) [(0, []), (1, []), (2, []), (3, []), (4, []), (5, []), (6, []), (7, []), (8, [2, 6]), (9, []), (10, [])] [0, 0, 2, 6, 15, 31, 63, 0, 128, 511, 1023] mixed (by kernel_rfl) ?_) <;> try simp only [List.map, gop, ev, lk, aenv, gyield, gBin, gInt, gStrOp, gUn, gPick, gNil, gExtract, gIfc, gConvK, gIndexO, gIndexVO, gMakeV, gMinV, gMaxV, isInt, gMin, gMax, gBlt, gLenX, gCallV, gInvoke, gNilM, Array.toList_map, vcells, gField, gIndexV, gPart, reduceIte, Nat.reduceAdd, Nat.reduceSub, Nat.reduceMul, Nat.reduceLT, Nat.reduceLeDiff, Nat.reduceEqDiff, Nat.reduceBEq, Int.reduceLT, Int.reduceLE, Int.reduceGT, Int.reduceGE, Int.reduceEq, Int.reduceNe, Int.reduceAdd, Int.reduceSub, Int.reduceMul, Int.reduceNeg, Int.reduceToNat, Int.reduceBEq, Int.reduceBNe, Int.cast_ofNat_Int, List.getElem?_toArray, stp, rvOf, rvLen, wput, wlk, rdv, isEff, dsOf, sgl, stq, Try.underlying22, Try.underlying23, Try.underlying24, Try.underlying29, Try.underlying3, Try.underlying36, Try.underlying4, Try.underlying5, Try.underlying56, Try.underlying62, Try.underlying63, Try.underlying65, Try.underlying68, Try.underlying70, Try.underlying91, Try.underlying97, Try.underlying99, cv3_56, cv56_3, ty22, ty23, ty24, ty36, ty68, ty62, ty65, ty70, ty91, ty97, ty99, ty29, ty3, ty4, ty5, ty56, ty63, rs10]))
  refine st_all m2 sz65 rfl (by decide) rfl rfl rfl fun h3 m3 f3 => ?_
  have s3 : HS h1 h3 := (HS.refl h1).upd n2 (fun j hj => (f3 j hj).trans (f2 j hj))
  have x3 := x1.hs s3
  have hBl := gB.len
  have wE : IntKind.i64.wrap ((B.length : Int) + 1) = (B.length : Int) + 1 := by rw [wrap64 (by omega) (by omega)]
  have uE : IntKind.u64.wrap ((B.length : Int) + 1) = (B.length : Int) + 1 := wrapu64 (by omega) (by omega)
  have u3 : IntKind.u64.wrap 3 = 3 := rfl
  obtain ⟨to, hto, eto⟩ := umod to' ((B.length : Int) + 1) (by omega) (by omega)
  obtain ⟨fr, hfr, efr⟩ := umod from' ((to : Int) + 1) (by omega) (by omega)
  obtain ⟨lm, hlm, elm⟩ := umod limit 3 (by omega) (by omega)
  have wT : IntKind.i64.wrap ((to : Int) + 1) = (to : Int) + 1 := by rw [wrap64 (by omega) (by omega)]
  have uT : IntKind.u64.wrap ((to : Int) + 1) = (to : Int) + 1 := wrapu64 (by omega) (by omega)
  have nz : ((B.length : Int) + 1 ≠ 0) := by omega
  have nt : ((to : Int) + 1 ≠ 0) := by omega
  have wl : IntKind.i64.wrap (1 + (lm : Int)) = ((lm + 1 : Nat) : Int) := by rw [wrap64 (by omega) (by omega)]; omega
  have n30 : (3 : Int) ≠ 0 := by decide
  refine mk_of ?_; repeat' (first | (with_reducible first | refine gw_seq ?_ | refine gw_block ?_) | ((first | (with_reducible refine mk_to ?_) | (with_reducible first | refine gw_region ?_ | refine gw_if ?_ | refine gw_skip ?_ | refine gw_exit ?_ | refine gw_ret ?_) | ((with_reducible first | refine gif_b (fun hb => ?_) (fun hb => ?_) | refine want_t (fun hb => ?_) (fun hb => ?_) | refine want_f (fun hb => ?_) (fun hb => ?_) | refine dr_t (fun hb => ?_) (fun hb => ?_) | refine dr_f (fun hb => ?_) (fun hb => ?_)) <;> (try simp only [hb]) <;> (try simp only [hpr] at hb)) | with_reducible refine gw_draw (id := 15) [(0, []), (1, []), (2, []), (3, []), (4, []), (5, []), (6, []), (7, []), (8, [2, 6]), (9, []), (10, [])] [0, 0, 2, 6, 15, 31, 63, 0, 128, 511, 1023] mixed (by kernel_rfl) ?_ | ((refine GTri.mono (c_iEpoch _ x3) ?_); rintro _ _ ⟨rfl, hh9⟩; replace hh9 := hh9.symm; subst hh9)) <;> try simp only [List.map, gop, ev, lk, aenv, gyield, gBin, gInt, gStrOp, gUn, gPick, gNil, gExtract, gIfc, gConvK, gIndexO, gIndexVO, gMakeV, gMinV, gMaxV, isInt, gMin, gMax, gBlt, gLenX, gCallV, gInvoke, gNilM, Array.toList_map, vcells, gField, gIndexV, gPart, reduceIte, Nat.reduceAdd, Nat.reduceSub, Nat.reduceMul, Nat.reduceLT, Nat.reduceLeDiff, Nat.reduceEqDiff, Nat.reduceBEq, Int.reduceLT, Int.reduceLE, Int.reduceGT, Int.reduceGE, Int.reduceEq, Int.reduceNe, Int.reduceAdd, Int.reduceSub, Int.reduceMul, Int.reduceNeg, Int.reduceToNat, Int.reduceBEq, Int.reduceBNe, Int.cast_ofNat_Int, List.getElem?_toArray, stp, rvOf, rvLen, wput, wlk, rdv, isEff, dsOf, sgl, stq, Try.underlying22, Try.underlying23, Try.underlying24, Try.underlying29, Try.underlying3, Try.underlying36, Try.underlying4, Try.underlying5, Try.underlying56, Try.underlying62, Try.underlying63, Try.underlying65, Try.underlying68, Try.underlying70, Try.underlying91, Try.underlying97, Try.underlying99, cv3_56, cv56_3, ty22, ty23, ty24, ty36, ty68, ty62, ty65, ty70, ty91, ty97, ty99, ty29, ty3, ty4, ty5, ty56, ty63, rs10, gEq, ent_len, List.length_cons, Nat.add_sub_cancel, wE, uE, wT, uT, u3, eto, efr, elm, wl, gload1 m3 sz3, List.getElem?_cons_zero, List.getElem?_cons_succ]))
  refine ⟨nz, ?_⟩
  refine mk_of ?_; repeat' (first | (with_reducible first | refine gw_seq ?_ | refine gw_block ?_) | ((first | (with_reducible refine mk_to ?_) | (with_reducible first | refine gw_region ?_ | refine gw_if ?_ | refine gw_skip ?_ | refine gw_exit ?_ | refine gw_ret ?_) | ((with_reducible first | refine gif_b (fun hb => ?_) (fun hb => ?_) | refine want_t (fun hb => ?_) (fun hb => ?_) | refine want_f (fun hb => ?_) (fun hb => ?_) | refine dr_t (fun hb => ?_) (fun hb => ?_) | refine dr_f (fun hb => ?_) (fun hb => ?_)) <;> (try simp only [hb]) <;> (try simp only [hpr] at hb)) | with_reducible refine gw_draw (id := 15) [(0, []), (1, []), (2, []), (3, []), (4, []), (5, []), (6, []), (7, []), (8, [2, 6]), (9, []), (10, [])] [0, 0, 2, 6, 15, 31, 63, 0, 128, 511, 1023] mixed (by kernel_rfl) ?_ | ((refine GTri.mono (c_iEpoch _ x3) ?_); rintro _ _ ⟨rfl, hh9⟩; replace hh9 := hh9.symm; subst hh9)) <;> try simp only [List.map, gop, ev, lk, aenv, gyield, gBin, gInt, gStrOp, gUn, gPick, gNil, gExtract, gIfc, gConvK, gIndexO, gIndexVO, gMakeV, gMinV, gMaxV, isInt, gMin, gMax, gBlt, gLenX, gCallV, gInvoke, gNilM, Array.toList_map, vcells, gField, gIndexV, gPart, reduceIte, Nat.reduceAdd, Nat.reduceSub, Nat.reduceMul, Nat.reduceLT, Nat.reduceLeDiff, Nat.reduceEqDiff, Nat.reduceBEq, Int.reduceLT, Int.reduceLE, Int.reduceGT, Int.reduceGE, Int.reduceEq, Int.reduceNe, Int.reduceAdd, Int.reduceSub, Int.reduceMul, Int.reduceNeg, Int.reduceToNat, Int.reduceBEq, Int.reduceBNe, Int.cast_ofNat_Int, List.getElem?_toArray, stp, rvOf, rvLen, wput, wlk, rdv, isEff, dsOf, sgl, stq, Try.underlying22, Try.underlying23, Try.underlying24, Try.underlying29, Try.underlying3, Try.underlying36, Try.underlying4, Try.underlying5, Try.underlying56, Try.underlying62, Try.underlying63, Try.underlying65, Try.underlying68, Try.underlying70, Try.underlying91, Try.underlying97, Try.underlying99, cv3_56, cv56_3, ty22, ty23, ty24, ty36, ty68, ty62, ty65, ty70, ty91, ty97, ty99, ty29, ty3, ty4, ty5, ty56, ty63, rs10, gEq, ent_len, List.length_cons, Nat.add_sub_cancel, wE, uE, wT, uT, u3, eto, efr, elm, wl, n30, gload1 m3 sz3, List.getElem?_cons_zero, List.getElem?_cons_succ, gBuild, lfill, lput, Shape.pl, List.all_cons, List.all_nil, isCell]))
  refine ⟨nt, ?_⟩
  refine mk_of ?_; repeat' (first | (with_reducible first | refine gw_seq ?_ | refine gw_block ?_) | ((first | (with_reducible refine mk_to ?_) | (with_reducible first | refine gw_region ?_ | refine gw_if ?_ | refine gw_skip ?_ | refine gw_exit ?_ | refine gw_ret ?_) | ((with_reducible first | refine gif_b (fun hb => ?_) (fun hb => ?_) | refine want_t (fun hb => ?_) (fun hb => ?_) | refine want_f (fun hb => ?_) (fun hb => ?_) | refine dr_t (fun hb => ?_) (fun hb => ?_) | refine dr_f (fun hb => ?_) (fun hb => ?_)) <;> (try simp only [hb]) <;> (try simp only [hpr] at hb)) | with_reducible refine gw_draw (id := 15) [(0, []), (1, []), (2, []), (3, []), (4, []), (5, []), (6, []), (7, []), (8, [2, 6]), (9, []), (10, [])] [0, 0, 2, 6, 15, 31, 63, 0, 128, 511, 1023] mixed (by kernel_rfl) ?_ | ((refine GTri.mono (c_iEpoch _ x3) ?_); rintro _ _ ⟨rfl, hh9⟩; replace hh9 := hh9.symm; subst hh9)) <;> try simp only [List.map, gop, ev, lk, aenv, gyield, gBin, gInt, gStrOp, gUn, gPick, gNil, gExtract, gIfc, gConvK, gIndexO, gIndexVO, gMakeV, gMinV, gMaxV, isInt, gMin, gMax, gBlt, gLenX, gCallV, gInvoke, gNilM, Array.toList_map, vcells, gField, gIndexV, gPart, reduceIte, Nat.reduceAdd, Nat.reduceSub, Nat.reduceMul, Nat.reduceLT, Nat.reduceLeDiff, Nat.reduceEqDiff, Nat.reduceBEq, Int.reduceLT, Int.reduceLE, Int.reduceGT, Int.reduceGE, Int.reduceEq, Int.reduceNe, Int.reduceAdd, Int.reduceSub, Int.reduceMul, Int.reduceNeg, Int.reduceToNat, Int.reduceBEq, Int.reduceBNe, Int.cast_ofNat_Int, List.getElem?_toArray, stp, rvOf, rvLen, wput, wlk, rdv, isEff, dsOf, sgl, stq, Try.underlying22, Try.underlying23, Try.underlying24, Try.underlying29, Try.underlying3, Try.underlying36, Try.underlying4, Try.underlying5, Try.underlying56, Try.underlying62, Try.underlying63, Try.underlying65, Try.underlying68, Try.underlying70, Try.underlying91, Try.underlying97, Try.underlying99, cv3_56, cv56_3, ty22, ty23, ty24, ty36, ty68, ty62, ty65, ty70, ty91, ty97, ty99, ty29, ty3, ty4, ty5, ty56, ty63, rs10, gEq, ent_len, List.length_cons, Nat.add_sub_cancel, wE, uE, wT, uT, u3, eto, efr, elm, wl, n30, gload1 m3 sz3, List.getElem?_cons_zero, List.getElem?_cons_succ, gBuild, lfill, lput, Shape.pl, List.all_cons, List.all_nil, isCell]))
  refine new_g fun k9 h4 m4 s4 f4 n4 => ?_
  refine mk_of ?_; repeat' (first | (with_reducible first | refine gw_seq ?_ | refine gw_block ?_) | ((first | (with_reducible refine mk_to ?_) | (with_reducible first | refine gw_region ?_ | refine gw_if ?_ | refine gw_skip ?_ | refine gw_exit ?_ | refine gw_ret ?_) | ((with_reducible first | refine gif_b (fun hb => ?_) (fun hb => ?_) | refine want_t (fun hb => ?_) (fun hb => ?_) | refine want_f (fun hb => ?_) (fun hb => ?_) | refine dr_t (fun hb => ?_) (fun hb => ?_) | refine dr_f (fun hb => ?_) (fun hb => ?_)) <;> (try simp only [hb]) <;> (try simp only [hpr] at hb)) | with_reducible refine gw_draw (id := 15) [(0, []), (1, []), (2, []), (3, []), (4, []), (5, []), (6, []), (7, []), (8, [2, 6]), (9, []), (10, [])] [0, 0, 2, 6, 15, 31, 63, 0, 128, 511, 1023] mixed (by kernel_rfl) ?_) <;> try simp only [List.map, gop, ev, lk, aenv, gyield, gBin, gInt, gStrOp, gUn, gPick, gNil, gExtract, gIfc, gConvK, gIndexO, gIndexVO, gMakeV, gMinV, gMaxV, isInt, gMin, gMax, gBlt, gLenX, gCallV, gInvoke, gNilM, Array.toList_map, vcells, gField, gIndexV, gPart, reduceIte, Nat.reduceAdd, Nat.reduceSub, Nat.reduceMul, Nat.reduceLT, Nat.reduceLeDiff, Nat.reduceEqDiff, Nat.reduceBEq, Int.reduceLT, Int.reduceLE, Int.reduceGT, Int.reduceGE, Int.reduceEq, Int.reduceNe, Int.reduceAdd, Int.reduceSub, Int.reduceMul, Int.reduceNeg, Int.reduceToNat, Int.reduceBEq, Int.reduceBNe, Int.cast_ofNat_Int, List.getElem?_toArray, stp, rvOf, rvLen, wput, wlk, rdv, isEff, dsOf, sgl, stq, Try.underlying22, Try.underlying23, Try.underlying24, Try.underlying29, Try.underlying3, Try.underlying36, Try.underlying4, Try.underlying5, Try.underlying56, Try.underlying62, Try.underlying63, Try.underlying65, Try.underlying68, Try.underlying70, Try.underlying91, Try.underlying97, Try.underlying99, cv3_56, cv56_3, ty22, ty23, ty24, ty36, ty68, ty62, ty65, ty70, ty91, ty97, ty99, ty29, ty3, ty4, ty5, ty56, ty63, rs10, gload1 (s4 _ _ m3) sz3, List.getElem?_cons_zero, List.getElem?_cons_succ, gBuild, lfill, lput, Shape.pl, List.all_cons, List.all_nil, isCell]))
  refine st_all m4 sz62 rfl (by decide) rfl rfl rfl fun h5 m5 f5 => ?_
  have s5 : HS h3 h5 := (HS.refl h3).upd n4 (fun j hj => (f5 j hj).trans (f4 j hj))
  have s05 := (s1.trans s3).trans s5
  have x5 := x3.hs s5
  have n9 : h k9 = none := s1.none_of (s3.none_of n4)
  have k9k : k9 ≠ k := fun q => by subst q; rw [x3.obj] at n4; cases n4
  have k9j : k9 ≠ j + 1 := fun q => by subst q; rw [x3.mp] at n4; cases n4
  -- the base: all but what is asked
  have sb : HS h (hide k9 h5) := hide_of s05 n9
  have xb : IM h (hide k9 h5) k j pmd ew cs l' ((0, []) :: ent B B.length) ck (tot B) := x5.oth m5 rfl rfl (hide_ne h5) k9k k9j
  have hb9 : hide k9 h5 k9 = none := hide_k k9 h5
  have sb5 : HS (hide k9 h5) h5 := hide_hs k9 h5
  generalize hbd : hide k9 h5 = hb at *
  have hl60 : tot B ≤ 60 := by have h1 := gB.tt; have : pmd.ch = 60 := rfl; omega
  have hMl : ((0, []) :: ent B B.length : List (Int × List Bnd)).length = B.length + 1 := by rw [List.length_cons, ent_len]
  have hMs : ((0, []) :: ent B B.length : List (Int × List Bnd)).map (·.2) = [] :: B := by rw [List.map_cons, ent_snd B _ (Nat.le_refl _), List.take_length]
  have hMt : tot (((0, []) :: ent B B.length : List (Int × List Bnd)).map (·.2)) ≤ 60 := by rw [hMs]; simpa [tot] using hl60
  generalize hM : ((0, []) :: ent B B.length : List (Int × List Bnd)) = M at *
  obtain ⟨q0, hq0⟩ : ∃ q0 : Ak, q0 = ⟨6, [], fr, to, 0, false, 0, 0, (lm + 1 : Nat), []⟩ := ⟨_, rfl⟩
  refine mk_of ?_; repeat' (first | (with_reducible first | refine gw_seq ?_ | refine gw_block ?_) | ((first | (with_reducible refine mk_to ?_) | (with_reducible first | refine gw_region ?_ | refine gw_if ?_ | refine gw_skip ?_ | refine gw_exit ?_ | refine gw_ret ?_) | ((with_reducible first | refine gif_b (fun hb => ?_) (fun hb => ?_) | refine want_t (fun hb => ?_) (fun hb => ?_) | refine want_f (fun hb => ?_) (fun hb => ?_) | refine dr_t (fun hb => ?_) (fun hb => ?_) | refine dr_f (fun hb => ?_) (fun hb => ?_)) <;> (try simp only [hb]) <;> (try simp only [hpr] at hb)) | with_reducible refine gw_draw (id := 15) [(0, []), (1, []), (2, []), (3, []), (4, []), (5, []), (6, []), (7, []), (8, [2, 6]), (9, []), (10, [])] [0, 0, 2, 6, 15, 31, 63, 0, 128, 511, 1023] mixed (by kernel_rfl) ?_) <;> try simp only [List.map, gop, ev, lk, aenv, gyield, gBin, gInt, gStrOp, gUn, gPick, gNil, gExtract, gIfc, gConvK, gIndexO, gIndexVO, gMakeV, gMinV, gMaxV, isInt, gMin, gMax, gBlt, gLenX, gCallV, gInvoke, gNilM, Array.toList_map, vcells, gField, gIndexV, gPart, reduceIte, Nat.reduceAdd, Nat.reduceSub, Nat.reduceMul, Nat.reduceLT, Nat.reduceLeDiff, Nat.reduceEqDiff, Nat.reduceBEq, Int.reduceLT, Int.reduceLE, Int.reduceGT, Int.reduceGE, Int.reduceEq, Int.reduceNe, Int.reduceAdd, Int.reduceSub, Int.reduceMul, Int.reduceNeg, Int.reduceToNat, Int.reduceBEq, Int.reduceBNe, Int.cast_ofNat_Int, List.getElem?_toArray, stp, rvOf, rvLen, wput, wlk, rdv, isEff, dsOf, sgl, stq, Try.underlying22, Try.underlying23, Try.underlying24, Try.underlying29, Try.underlying3, Try.underlying36, Try.underlying4, Try.underlying5, Try.underlying56, Try.underlying62, Try.underlying63, Try.underlying65, Try.underlying68, Try.underlying70, Try.underlying91, Try.underlying97, Try.underlying99, cv3_56, cv56_3, ty22, ty23, ty24, ty36, ty68, ty62, ty65, ty70, ty91, ty97, ty99, ty29, ty3, ty4, ty5, ty56, ty63, rs10]))
  refine gw_loop2 [1, 2, 9, 11] (fun (y : Nat × (Option Addr × Nat × Nat)) => [(12, .slice y.2.1 y.2.2.1 y.2.2.2), (56, .int .i64 (y.1 : Int))])
    (fun q y h' => 100 - y.1 = q ∧ y.1 ≤ 100 ∧ HS hb h' ∧ ∃ (sm : Bool) (id : List UInt8) (ai : Option Addr) (ci : Nat) (got : List Itm), h' k9 = some ⟨[.int .i64 6, .slice ai id.length ci, .int .i64 (fr : Int), .int .i64 (to : Int), .int .i64 0, .bool sm, .int .i64 0, .int .i64 0, .int .i64 ((lm + 1 : Nat) : Int), .slice none 0 0], 0, true, false⟩ ∧
      RB h' (.slice ai id.length ci) id ∧ (id.length : Int) ≤ pmd.mi ∧ PG M { q0 with sm := false } sm id got ∧ Its hb h' (.slice y.2.1 y.2.2.1 y.2.2.2) got ∧ y.1 ≤ got.length ∧ got.length ≤ 60) 100 (0, (none, 0, 0)) (by simp [lk])
    ⟨rfl, by simp, sb5, false, [], none, 0, [], m5, RB.nil _, by simp [pmd], .inl ⟨rfl, rfl⟩, ⟨[], OWNC.nil _ _ _, rfl, fun i p hp => by simp at hp⟩, by simp, by simp⟩ ?_
  rintro _ ⟨t, a6, n6, c6⟩ h6 ⟨rfl, ht, s6, sm, id, ai, ci, got, m9, rid, hid, hPG, ig6, htp, hg60⟩
  simp only at ht htp ig6
  have hlt : t < 100 := by omega
  have d3 : decide ((t : Int) < 100) = true := decide_eq_true (by omega)
  have x6 := xb.hs s6
  have hpmi : pmd.mi = 2 := rfl
  refine mk_of ?_; repeat' (first | (with_reducible first | refine gw_seq ?_ | refine gw_block ?_) | ((first | (with_reducible refine mk_to ?_) | (with_reducible first | refine gw_region ?_ | refine gw_if ?_ | refine gw_skip ?_ | refine gw_exit ?_ | refine gw_ret ?_) | ((with_reducible first | refine gif_b (fun hb => ?_) (fun hb => ?_) | refine want_t (fun hb => ?_) (fun hb => ?_) | refine want_f (fun hb => ?_) (fun hb => ?_) | refine dr_t (fun hb => ?_) (fun hb => ?_) | refine dr_f (fun hb => ?_) (fun hb => ?_)) <;> (try simp only [hb]) <;> (try simp only [hpr] at hb)) | with_reducible refine gw_draw (id := 15) [(0, []), (1, []), (2, []), (3, []), (4, []), (5, []), (6, []), (7, []), (8, [2, 6]), (9, []), (10, [])] [0, 0, 2, 6, 15, 31, 63, 0, 128, 511, 1023] mixed (by kernel_rfl) ?_) <;> try simp only [List.map, gop, ev, lk, aenv, gyield, gBin, gInt, gStrOp, gUn, gPick, gNil, gExtract, gIfc, gConvK, gIndexO, gIndexVO, gMakeV, gMinV, gMaxV, isInt, gMin, gMax, gBlt, gLenX, gCallV, gInvoke, gNilM, Array.toList_map, vcells, gField, gIndexV, gPart, reduceIte, Nat.reduceAdd, Nat.reduceSub, Nat.reduceMul, Nat.reduceLT, Nat.reduceLeDiff, Nat.reduceEqDiff, Nat.reduceBEq, Int.reduceLT, Int.reduceLE, Int.reduceGT, Int.reduceGE, Int.reduceEq, Int.reduceNe, Int.reduceAdd, Int.reduceSub, Int.reduceMul, Int.reduceNeg, Int.reduceToNat, Int.reduceBEq, Int.reduceBNe, Int.cast_ofNat_Int, List.getElem?_toArray, stp, rvOf, rvLen, wput, wlk, rdv, isEff, dsOf, sgl, stq, Try.underlying22, Try.underlying23, Try.underlying24, Try.underlying29, Try.underlying3, Try.underlying36, Try.underlying4, Try.underlying5, Try.underlying56, Try.underlying62, Try.underlying63, Try.underlying65, Try.underlying68, Try.underlying70, Try.underlying91, Try.underlying97, Try.underlying99, cv3_56, cv56_3, ty22, ty23, ty24, ty36, ty68, ty62, ty65, ty70, ty91, ty97, ty99, ty29, ty3, ty4, ty5, ty56, ty63, rs10, d3, gloadA m9 sz62 rfl]))
  refine (c_DoDiff N x6 (q := ⟨6, id, fr, to, 0, sm, 0, 0, (lm + 1 : Nat), []⟩) rfl rid (by simp only; omega) rfl).mono ?_
  rintro v7 h7 ⟨r7, s7⟩
  have hpg : pmd.pg = 3 := rfl
  have hw : wrongF true true pmd M.length ⟨6, id, fr, to, 0, sm, 0, 0, (lm + 1 : Nat), []⟩ = 0 := by
    unfold wrongF
    rw [if_neg, if_neg, if_neg, if_neg]
    · simp only [true_and, hpg]; omega
    · simp only [true_and]; omega
    · simp only; omega
    · simp only [true_and]; omega
  rcases r7 with ⟨w, _⟩ | ⟨_, L2, D2, r7⟩
  · exact absurd hw w
  obtain ⟨L, pos, D, rfl, rfl, hpl⟩ := PG.page (q0 := q0) hPG (by rw [hq0]; exact D2)
  have hL60 : L.length ≤ 60 := Nat.le_trans D.lens hMt
  have m97 := s7 _ _ m9
  have n6W : n6 = (L.take pos).length := by
    obtain ⟨ds, o, _⟩ := ig6
    obtain ⟨_, _, q⟩ := o.form
    cases q; rfl
  subst n6W
  have hWp : (L.take pos).length = pos := by rw [List.length_take]; omega
  have z0 : ((0 : Int) != 0) = false := rfl
  have s67 := s6.trans s7
  obtain ⟨ds7, o7, u7, e7⟩ := ig6.hs s7
  unfold diffA at r7
  simp only [Int.toNat_natCast] at r7
  by_cases hmore : lm + 1 < (L.drop pos).length
  case pos =>
    rw [decide_eq_true hmore] at r7
    have hdl : (L.drop pos).length = L.length - pos := List.length_drop
    have hPl : ((L.drop pos).take (lm + 1)).length = lm + 1 := by rw [List.length_take]; omega
    generalize hPd : (L.drop pos).take (lm + 1) = P at r7 hPl
    obtain ⟨b1, b2, b3, b4, b5, b6, rfl, _, rE, _⟩ := r7
    simp only at rE
    have d5 : decide (((lm + 1 : Nat) : Int) > ((lm + 1 : Nat) : Int)) = false := decide_eq_false (by omega)
    have d6 : (((lm + 1 : Nat) : Int) == 0) = false := by rw [beq_eq_false_iff_ne]; omega
    refine mk_of ?_; repeat' (first | (with_reducible first | refine gw_seq ?_ | refine gw_block ?_) | ((first | (with_reducible refine mk_to ?_) | (with_reducible first | refine gw_region ?_ | refine gw_if ?_ | refine gw_skip ?_ | refine gw_exit ?_ | refine gw_ret ?_) | ((with_reducible first | refine gif_b (fun hb => ?_) (fun hb => ?_) | refine want_t (fun hb => ?_) (fun hb => ?_) | refine want_f (fun hb => ?_) (fun hb => ?_) | refine dr_t (fun hb => ?_) (fun hb => ?_) | refine dr_f (fun hb => ?_) (fun hb => ?_)) <;> (try simp only [hb]) <;> (try simp only [hpr] at hb)) | with_reducible refine gw_draw (id := 15) [(0, []), (1, []), (2, []), (3, []), (4, []), (5, []), (6, []), (7, []), (8, [2, 6]), (9, []), (10, [])] [0, 0, 2, 6, 15, 31, 63, 0, 128, 511, 1023] mixed (by kernel_rfl) ?_) <;> try simp only [List.map, gop, ev, lk, aenv, gyield, gBin, gInt, gStrOp, gUn, gPick, gNil, gExtract, gIfc, gConvK, gIndexO, gIndexVO, gMakeV, gMinV, gMaxV, isInt, gMin, gMax, gBlt, gLenX, gCallV, gInvoke, gNilM, Array.toList_map, vcells, gField, gIndexV, gPart, reduceIte, Nat.reduceAdd, Nat.reduceSub, Nat.reduceMul, Nat.reduceLT, Nat.reduceLeDiff, Nat.reduceEqDiff, Nat.reduceBEq, Int.reduceLT, Int.reduceLE, Int.reduceGT, Int.reduceGE, Int.reduceEq, Int.reduceNe, Int.reduceAdd, Int.reduceSub, Int.reduceMul, Int.reduceNeg, Int.reduceToNat, Int.reduceBEq, Int.reduceBNe, Int.cast_ofNat_Int, List.getElem?_toArray, stp, rvOf, rvLen, wput, wlk, rdv, isEff, dsOf, sgl, stq, Try.underlying22, Try.underlying23, Try.underlying24, Try.underlying29, Try.underlying3, Try.underlying36, Try.underlying4, Try.underlying5, Try.underlying56, Try.underlying62, Try.underlying63, Try.underlying65, Try.underlying68, Try.underlying70, Try.underlying91, Try.underlying97, Try.underlying99, cv3_56, cv56_3, ty22, ty23, ty24, ty36, ty68, ty62, ty65, ty70, ty91, ty97, ty99, ty29, ty3, ty4, ty5, ty56, ty63, rs10, hPl]))
    refine new_g fun k8 h8 m8 s8 f8 n8 => ?_
    refine mk_of ?_; repeat' (first | (with_reducible first | refine gw_seq ?_ | refine gw_block ?_) | ((first | (with_reducible refine mk_to ?_) | (with_reducible first | refine gw_region ?_ | refine gw_if ?_ | refine gw_skip ?_ | refine gw_exit ?_ | refine gw_ret ?_) | ((with_reducible first | refine gif_b (fun hb => ?_) (fun hb => ?_) | refine want_t (fun hb => ?_) (fun hb => ?_) | refine want_f (fun hb => ?_) (fun hb => ?_) | refine dr_t (fun hb => ?_) (fun hb => ?_) | refine dr_f (fun hb => ?_) (fun hb => ?_)) <;> (try simp only [hb]) <;> (try simp only [hpr] at hb)) | with_reducible refine gw_draw (id := 15) [(0, []), (1, []), (2, []), (3, []), (4, []), (5, []), (6, []), (7, []), (8, [2, 6]), (9, []), (10, [])] [0, 0, 2, 6, 15, 31, 63, 0, 128, 511, 1023] mixed (by kernel_rfl) ?_) <;> try simp only [List.map, gop, ev, lk, aenv, gyield, gBin, gInt, gStrOp, gUn, gPick, gNil, gExtract, gIfc, gConvK, gIndexO, gIndexVO, gMakeV, gMinV, gMaxV, isInt, gMin, gMax, gBlt, gLenX, gCallV, gInvoke, gNilM, Array.toList_map, vcells, gField, gIndexV, gPart, reduceIte, Nat.reduceAdd, Nat.reduceSub, Nat.reduceMul, Nat.reduceLT, Nat.reduceLeDiff, Nat.reduceEqDiff, Nat.reduceBEq, Int.reduceLT, Int.reduceLE, Int.reduceGT, Int.reduceGE, Int.reduceEq, Int.reduceNe, Int.reduceAdd, Int.reduceSub, Int.reduceMul, Int.reduceNeg, Int.reduceToNat, Int.reduceBEq, Int.reduceBNe, Int.cast_ofNat_Int, List.getElem?_toArray, stp, rvOf, rvLen, wput, wlk, rdv, isEff, dsOf, sgl, stq, Try.underlying22, Try.underlying23, Try.underlying24, Try.underlying29, Try.underlying3, Try.underlying36, Try.underlying4, Try.underlying5, Try.underlying56, Try.underlying62, Try.underlying63, Try.underlying65, Try.underlying68, Try.underlying70, Try.underlying91, Try.underlying97, Try.underlying99, cv3_56, cv56_3, ty22, ty23, ty24, ty36, ty68, ty62, ty65, ty70, ty91, ty97, ty99, ty29, ty3, ty4, ty5, ty56, ty63, rs10]))
    refine st_all m8 sz70 rfl (by decide) rfl rfl rfl fun h9 m10 f9 => ?_
    have s9 : HS h7 h9 := (HS.refl h7).upd n8 (fun j hj => (f9 j hj).trans (f8 j hj))
    have m99 := s9 _ _ m97
    rw [hPl] at rE
    have rE9 : RL 3 It h9 (.slice b3 (lm + 1) b4) P := rE.hcR s9.hc fun _ _ q => q.hs s9
    obtain ⟨xs, hsrc, hxl, hxe⟩ := rE9.src
    rw [hPl] at hsrc hxl
    have hxc : xs.all isCell = true := all_el (n := lm + 1) (es := 3) (by decide) hxl fun i hi => by
      obtain ⟨y, hy⟩ := get_lt (show i < P.length by omega)
      exact (hxe i y hy).cells.2.1
    have hxu : xs.all notU8 = true := all_el (n := lm + 1) (es := 3) (by decide) hxl fun i hi => by
      obtain ⟨y, hy⟩ := get_lt (show i < P.length by omega)
      exact (hxe i y hy).cells.2.2.1
    refine mk_of ?_; repeat' (first | (with_reducible first | refine gw_seq ?_ | refine gw_block ?_) | ((first | (with_reducible refine mk_to ?_) | (with_reducible first | refine gw_region ?_ | refine gw_if ?_ | refine gw_skip ?_ | refine gw_exit ?_ | refine gw_ret ?_) | ((with_reducible first | refine gif_b (fun hb => ?_) (fun hb => ?_) | refine want_t (fun hb => ?_) (fun hb => ?_) | refine want_f (fun hb => ?_) (fun hb => ?_) | refine dr_t (fun hb => ?_) (fun hb => ?_) | refine dr_f (fun hb => ?_) (fun hb => ?_)) <;> (try simp only [hb]) <;> (try simp only [hpr] at hb)) | with_reducible refine gw_draw (id := 15) [(0, []), (1, []), (2, []), (3, []), (4, []), (5, []), (6, []), (7, []), (8, [2, 6]), (9, []), (10, [])] [0, 0, 2, 6, 15, 31, 63, 0, 128, 511, 1023] mixed (by kernel_rfl) ?_) <;> try simp only [List.map, gop, ev, lk, aenv, gyield, gBin, gInt, gStrOp, gUn, gPick, gNil, gExtract, gIfc, gConvK, gIndexO, gIndexVO, gMakeV, gMinV, gMaxV, isInt, gMin, gMax, gBlt, gLenX, gCallV, gInvoke, gNilM, Array.toList_map, vcells, gField, gIndexV, gPart, reduceIte, Nat.reduceAdd, Nat.reduceSub, Nat.reduceMul, Nat.reduceLT, Nat.reduceLeDiff, Nat.reduceEqDiff, Nat.reduceBEq, Int.reduceLT, Int.reduceLE, Int.reduceGT, Int.reduceGE, Int.reduceEq, Int.reduceNe, Int.reduceAdd, Int.reduceSub, Int.reduceMul, Int.reduceNeg, Int.reduceToNat, Int.reduceBEq, Int.reduceBNe, Int.cast_ofNat_Int, List.getElem?_toArray, stp, rvOf, rvLen, wput, wlk, rdv, isEff, dsOf, sgl, stq, Try.underlying22, Try.underlying23, Try.underlying24, Try.underlying29, Try.underlying3, Try.underlying36, Try.underlying4, Try.underlying5, Try.underlying56, Try.underlying62, Try.underlying63, Try.underlying65, Try.underlying68, Try.underlying70, Try.underlying91, Try.underlying97, Try.underlying99, cv3_56, cv56_3, ty22, ty23, ty24, ty36, ty68, ty62, ty65, ty70, ty91, ty97, ty99, ty29, ty3, ty4, ty5, ty56, ty63, rs10, z0, d5, d6, gPick, gload1 m10 sz29, gload1 m10 sz68, gload1 m10 sz4, gload1 m99 sz3, List.getElem?_cons_zero, List.getElem?_cons_succ]))
    refine append_ownc el68 Try.underlying68 rfl (s67.trans s9) (o7.hs s9) hsrc hxl hxc (by omega) (by simp only [maxLen]; omega) fun v11 h11 s11 fr11 o11 => ?_
    obtain ⟨a11, c11, rfl⟩ := o11.form
    have m911 := fr_es fr11 m99 (by simp)
    have m1011 := fr_es fr11 m10 (by simp)
    have keep : ∀ {q : List Value} {ee : Itm}, It h9 q ee → It h11 q ee := fun {q ee} w => by
      obtain ⟨a, c, b, d, e, r1, r2⟩ := w
      exact ⟨a, c, b, d, e, fr_rb fr11 u7 r1, fr_rb fr11 u7 r2⟩
    have hgt : L.take pos ++ P = L.take (pos + (lm + 1)) := by rw [List.take_add, hPd]
    have hgl : (L.take pos).length + (lm + 1) = (L.take (pos + (lm + 1))).length := by rw [← hgt, List.length_append, hPl]
    have ig11 : Its hb h11 (.slice a11 ((L.take pos).length + (lm + 1)) c11) (L.take (pos + (lm + 1))) := by
      refine ⟨ds7 ++ xs, by rw [← hgl]; exact o11, by rw [List.all_append, u7, hxu]; rfl, ?_⟩
      rw [← hgt]
      exact apps_el (R := It h11) o7.len (fun i p hp => keep ((e7 i p hp).hs s9)) (fun i p hp => keep (hxe i p hp))
    obtain ⟨z, hz⟩ := get_lt (show pos + lm < L.length by omega)
    have hzG : (L.take (pos + (lm + 1)))[pos + lm]? = some z := by rw [List.getElem?_take, if_pos (by omega)]; exact hz
    obtain ⟨dsg, og, ug, rg⟩ := ig11
    have hGl : (L.take (pos + (lm + 1))).length = pos + (lm + 1) := by rw [List.length_take]; omega
    obtain ⟨kb, g1, mb⟩ := og.at (P := Try.prog) Try.underlying68 sz97 (i := pos + lm) (by omega)
    have ig11 : Its hb h11 (.slice a11 ((L.take pos).length + (lm + 1)) c11) (L.take (pos + (lm + 1))) := ⟨dsg, og, ug, rg⟩
    obtain ⟨az, cz, bz, dz, ez, rz1, rz2⟩ := rg _ _ hzG
    have cz0 : dsg[(pos + lm) * 3]? = some (.slice az z.1.1.length cz) := by
      have : ((dsg.drop ((pos + lm) * 3)).take 3)[0]? = some (.slice az z.1.1.length cz) := by rw [ez]; rfl
      rw [List.getElem?_take, if_pos (by decide), List.getElem?_drop, Nat.add_zero] at this
      exact this
    have kbk9 : kb ≠ k9 := fun q => by rw [q, m911] at mb; cases mb
    have lz : ∀ {h' : GH}, HX k9 h11 h' → gLoad Try.prog 24 h' (.pointer (some ⟨kb, (pos + lm) * 3, none⟩)) = some (.slice az z.1.1.length cz) := fun {h'} s => by
      rw [gload1 (s _ _ kbk9 mb) sz24]; exact cz0
    have lz0 := lz (fun j B n e => e)
    have wG : IntKind.i64.wrap ((((L.take pos).length + (lm + 1) : Nat) : Int) - 1) = ((pos + lm : Nat) : Int) := by rw [wrap64 (by omega) (by omega)]; omega
    refine mk_of ?_; repeat' (first | (with_reducible first | refine gw_seq ?_ | refine gw_block ?_) | ((first | (with_reducible refine mk_to ?_) | (with_reducible first | refine gw_region ?_ | refine gw_if ?_ | refine gw_skip ?_ | refine gw_exit ?_ | refine gw_ret ?_) | ((with_reducible first | refine gif_b (fun hb => ?_) (fun hb => ?_) | refine want_t (fun hb => ?_) (fun hb => ?_) | refine want_f (fun hb => ?_) (fun hb => ?_) | refine dr_t (fun hb => ?_) (fun hb => ?_) | refine dr_f (fun hb => ?_) (fun hb => ?_)) <;> (try simp only [hb]) <;> (try simp only [hpr] at hb)) | with_reducible refine gw_draw (id := 15) [(0, []), (1, []), (2, []), (3, []), (4, []), (5, []), (6, []), (7, []), (8, [2, 6]), (9, []), (10, [])] [0, 0, 2, 6, 15, 31, 63, 0, 128, 511, 1023] mixed (by kernel_rfl) ?_) <;> try simp only [List.map, gop, ev, lk, aenv, gyield, gBin, gInt, gStrOp, gUn, gPick, gNil, gExtract, gIfc, gConvK, gIndexO, gIndexVO, gMakeV, gMinV, gMaxV, isInt, gMin, gMax, gBlt, gLenX, gCallV, gInvoke, gNilM, Array.toList_map, vcells, gField, gIndexV, gPart, reduceIte, Nat.reduceAdd, Nat.reduceSub, Nat.reduceMul, Nat.reduceLT, Nat.reduceLeDiff, Nat.reduceEqDiff, Nat.reduceBEq, Int.reduceLT, Int.reduceLE, Int.reduceGT, Int.reduceGE, Int.reduceEq, Int.reduceNe, Int.reduceAdd, Int.reduceSub, Int.reduceMul, Int.reduceNeg, Int.reduceToNat, Int.reduceBEq, Int.reduceBNe, Int.cast_ofNat_Int, List.getElem?_toArray, stp, rvOf, rvLen, wput, wlk, rdv, isEff, dsOf, sgl, stq, Try.underlying22, Try.underlying23, Try.underlying24, Try.underlying29, Try.underlying3, Try.underlying36, Try.underlying4, Try.underlying5, Try.underlying56, Try.underlying62, Try.underlying63, Try.underlying65, Try.underlying68, Try.underlying70, Try.underlying91, Try.underlying97, Try.underlying99, cv3_56, cv56_3, ty22, ty23, ty24, ty36, ty68, ty62, ty65, ty70, ty91, ty97, ty99, ty29, ty3, ty4, ty5, ty56, ty63, rs10, Bool.not_true, gload1 m1011 sz4, gload1 m1011 sz3, wG, g1, Nat.add_zero, lz0, List.getElem?_cons_zero, List.getElem?_cons_succ]))
    refine st_one m911 sz4 rfl (by simp) rfl rfl fun h12 m12 f12 => ?_
    simp only [List.set_cons_succ, List.set_cons_zero] at m12
    have lz12 := lz (h' := h12) (fun j B n e => (f12 j n).trans e)
    have wt : IntKind.i64.wrap ((t : Int) + 1) = ((t + 1 : Nat) : Int) := by rw [wrap64 (by omega) (by omega)]; omega
    refine mk_of ?_; repeat' (first | (with_reducible first | refine gw_seq ?_ | refine gw_block ?_) | ((first | (with_reducible refine mk_to ?_) | (with_reducible first | refine gw_region ?_ | refine gw_if ?_ | refine gw_skip ?_ | refine gw_exit ?_ | refine gw_ret ?_) | ((with_reducible first | refine gif_b (fun hb => ?_) (fun hb => ?_) | refine want_t (fun hb => ?_) (fun hb => ?_) | refine want_f (fun hb => ?_) (fun hb => ?_) | refine dr_t (fun hb => ?_) (fun hb => ?_) | refine dr_f (fun hb => ?_) (fun hb => ?_)) <;> (try simp only [hb]) <;> (try simp only [hpr] at hb)) | with_reducible refine gw_draw (id := 15) [(0, []), (1, []), (2, []), (3, []), (4, []), (5, []), (6, []), (7, []), (8, [2, 6]), (9, []), (10, [])] [0, 0, 2, 6, 15, 31, 63, 0, 128, 511, 1023] mixed (by kernel_rfl) ?_) <;> try simp only [List.map, gop, ev, lk, aenv, gyield, gBin, gInt, gStrOp, gUn, gPick, gNil, gExtract, gIfc, gConvK, gIndexO, gIndexVO, gMakeV, gMinV, gMaxV, isInt, gMin, gMax, gBlt, gLenX, gCallV, gInvoke, gNilM, Array.toList_map, vcells, gField, gIndexV, gPart, reduceIte, Nat.reduceAdd, Nat.reduceSub, Nat.reduceMul, Nat.reduceLT, Nat.reduceLeDiff, Nat.reduceEqDiff, Nat.reduceBEq, Int.reduceLT, Int.reduceLE, Int.reduceGT, Int.reduceGE, Int.reduceEq, Int.reduceNe, Int.reduceAdd, Int.reduceSub, Int.reduceMul, Int.reduceNeg, Int.reduceToNat, Int.reduceBEq, Int.reduceBNe, Int.cast_ofNat_Int, List.getElem?_toArray, stp, rvOf, rvLen, wput, wlk, rdv, isEff, dsOf, sgl, stq, Try.underlying22, Try.underlying23, Try.underlying24, Try.underlying29, Try.underlying3, Try.underlying36, Try.underlying4, Try.underlying5, Try.underlying56, Try.underlying62, Try.underlying63, Try.underlying65, Try.underlying68, Try.underlying70, Try.underlying91, Try.underlying97, Try.underlying99, cv3_56, cv56_3, ty22, ty23, ty24, ty36, ty68, ty62, ty65, ty70, ty91, ty97, ty99, ty29, ty3, ty4, ty5, ty56, ty63, rs10, lz12]))
    refine st_one m12 sz24 rfl (by simp) rfl rfl fun h13 m13 f13 => ?_
    simp only [List.set_cons_succ, List.set_cons_zero] at m13
    refine mk_of ?_; repeat' (first | (with_reducible first | refine gw_seq ?_ | refine gw_block ?_) | ((first | (with_reducible refine mk_to ?_) | (with_reducible first | refine gw_region ?_ | refine gw_if ?_ | refine gw_skip ?_ | refine gw_exit ?_ | refine gw_ret ?_) | ((with_reducible first | refine gif_b (fun hb => ?_) (fun hb => ?_) | refine want_t (fun hb => ?_) (fun hb => ?_) | refine want_f (fun hb => ?_) (fun hb => ?_) | refine dr_t (fun hb => ?_) (fun hb => ?_) | refine dr_f (fun hb => ?_) (fun hb => ?_)) <;> (try simp only [hb]) <;> (try simp only [hpr] at hb)) | with_reducible refine gw_draw (id := 15) [(0, []), (1, []), (2, []), (3, []), (4, []), (5, []), (6, []), (7, []), (8, [2, 6]), (9, []), (10, [])] [0, 0, 2, 6, 15, 31, 63, 0, 128, 511, 1023] mixed (by kernel_rfl) ?_) <;> try simp only [List.map, gop, ev, lk, aenv, gyield, gBin, gInt, gStrOp, gUn, gPick, gNil, gExtract, gIfc, gConvK, gIndexO, gIndexVO, gMakeV, gMinV, gMaxV, isInt, gMin, gMax, gBlt, gLenX, gCallV, gInvoke, gNilM, Array.toList_map, vcells, gField, gIndexV, gPart, reduceIte, Nat.reduceAdd, Nat.reduceSub, Nat.reduceMul, Nat.reduceLT, Nat.reduceLeDiff, Nat.reduceEqDiff, Nat.reduceBEq, Int.reduceLT, Int.reduceLE, Int.reduceGT, Int.reduceGE, Int.reduceEq, Int.reduceNe, Int.reduceAdd, Int.reduceSub, Int.reduceMul, Int.reduceNeg, Int.reduceToNat, Int.reduceBEq, Int.reduceBNe, Int.cast_ofNat_Int, List.getElem?_toArray, stp, rvOf, rvLen, wput, wlk, rdv, isEff, dsOf, sgl, stq, Try.underlying22, Try.underlying23, Try.underlying24, Try.underlying29, Try.underlying3, Try.underlying36, Try.underlying4, Try.underlying5, Try.underlying56, Try.underlying62, Try.underlying63, Try.underlying65, Try.underlying68, Try.underlying70, Try.underlying91, Try.underlying97, Try.underlying99, cv3_56, cv56_3, ty22, ty23, ty24, ty36, ty68, ty62, ty65, ty70, ty91, ty97, ty99, ty29, ty3, ty4, ty5, ty56, ty63, rs10, wt]))
    have hx12 : HX k9 h11 h13 := fun j B n e => ((f13 j n).trans (f12 j n)).trans e
    have uk9 : (⟨[.int .i64 6, .slice ai id.length ci, .int .i64 (fr : Int), .int .i64 (to : Int), .int .i64 0, .bool sm, .int .i64 0, .int .i64 0, .int .i64 ((lm + 1 : Nat) : Int), .slice none 0 0], 0, true, false⟩ : GB).cells.all notU8 = true := rfl
    have hzid := IM.short x6 (D.len z (List.mem_of_getElem? hz)).2
    refine ⟨_, (t + 1, a11, (L.take pos).length + (lm + 1), c11), by simp only; omega, (by simp only [List.forall_mem_cons, List.not_mem_nil, false_implies, implies_true, List.map, List.cons_append, List.nil_append, lk, Nat.reduceEqDiff, reduceIte, and_true, true_and]), rfl, by simp only; omega, (s11.upd hb9 f12).upd hb9 f13, true, z.1.1, az, cz, L.take (pos + (lm + 1)), m13, rz1.hx m911 uk9 hx12, hzid, .inr ⟨L, pos + lm, z, D, hz, rfl, rfl, rfl⟩, ?_, by simp only; omega, by omega⟩
    refine ⟨dsg, og.hx m911 (by simp) hx12, ug, fun i x hx => ?_⟩
    obtain ⟨a, c, b, d, e, r1, r2⟩ := rg i x hx
    exact ⟨a, c, b, d, e, r1.hx m911 uk9 hx12, r2.hx m911 uk9 hx12⟩
  rw [decide_eq_false hmore] at r7
  have hPe : (L.drop pos).take (lm + 1) = L.drop pos := List.take_of_length_le (by omega)
  rw [hPe] at r7
  generalize hPd : L.drop pos = P at r7
  have hPl : P.length ≤ lm + 1 := by rw [← hPd]; omega
  obtain ⟨b1, b2, b3, b4, b5, b6, rfl, _, rE, _⟩ := r7
  simp only at rE
  have d5 : decide ((P.length : Int) > ((lm + 1 : Nat) : Int)) = false := decide_eq_false (by omega)
  refine mk_of ?_; repeat' (first | (with_reducible first | refine gw_seq ?_ | refine gw_block ?_) | ((first | (with_reducible refine mk_to ?_) | (with_reducible first | refine gw_region ?_ | refine gw_if ?_ | refine gw_skip ?_ | refine gw_exit ?_ | refine gw_ret ?_) | ((with_reducible first | refine gif_b (fun hb => ?_) (fun hb => ?_) | refine want_t (fun hb => ?_) (fun hb => ?_) | refine want_f (fun hb => ?_) (fun hb => ?_) | refine dr_t (fun hb => ?_) (fun hb => ?_) | refine dr_f (fun hb => ?_) (fun hb => ?_)) <;> (try simp only [hb]) <;> (try simp only [hpr] at hb)) | with_reducible refine gw_draw (id := 15) [(0, []), (1, []), (2, []), (3, []), (4, []), (5, []), (6, []), (7, []), (8, [2, 6]), (9, []), (10, [])] [0, 0, 2, 6, 15, 31, 63, 0, 128, 511, 1023] mixed (by kernel_rfl) ?_) <;> try simp only [List.map, gop, ev, lk, aenv, gyield, gBin, gInt, gStrOp, gUn, gPick, gNil, gExtract, gIfc, gConvK, gIndexO, gIndexVO, gMakeV, gMinV, gMaxV, isInt, gMin, gMax, gBlt, gLenX, gCallV, gInvoke, gNilM, Array.toList_map, vcells, gField, gIndexV, gPart, reduceIte, Nat.reduceAdd, Nat.reduceSub, Nat.reduceMul, Nat.reduceLT, Nat.reduceLeDiff, Nat.reduceEqDiff, Nat.reduceBEq, Int.reduceLT, Int.reduceLE, Int.reduceGT, Int.reduceGE, Int.reduceEq, Int.reduceNe, Int.reduceAdd, Int.reduceSub, Int.reduceMul, Int.reduceNeg, Int.reduceToNat, Int.reduceBEq, Int.reduceBNe, Int.cast_ofNat_Int, List.getElem?_toArray, stp, rvOf, rvLen, wput, wlk, rdv, isEff, dsOf, sgl, stq, Try.underlying22, Try.underlying23, Try.underlying24, Try.underlying29, Try.underlying3, Try.underlying36, Try.underlying4, Try.underlying5, Try.underlying56, Try.underlying62, Try.underlying63, Try.underlying65, Try.underlying68, Try.underlying70, Try.underlying91, Try.underlying97, Try.underlying99, cv3_56, cv56_3, ty22, ty23, ty24, ty36, ty68, ty62, ty65, ty70, ty91, ty97, ty99, ty29, ty3, ty4, ty5, ty56, ty63, rs10]))
  refine new_g fun k8 h8 m8 s8 f8 n8 => ?_
  refine mk_of ?_; repeat' (first | (with_reducible first | refine gw_seq ?_ | refine gw_block ?_) | ((first | (with_reducible refine mk_to ?_) | (with_reducible first | refine gw_region ?_ | refine gw_if ?_ | refine gw_skip ?_ | refine gw_exit ?_ | refine gw_ret ?_) | ((with_reducible first | refine gif_b (fun hb => ?_) (fun hb => ?_) | refine want_t (fun hb => ?_) (fun hb => ?_) | refine want_f (fun hb => ?_) (fun hb => ?_) | refine dr_t (fun hb => ?_) (fun hb => ?_) | refine dr_f (fun hb => ?_) (fun hb => ?_)) <;> (try simp only [hb]) <;> (try simp only [hpr] at hb)) | with_reducible refine gw_draw (id := 15) [(0, []), (1, []), (2, []), (3, []), (4, []), (5, []), (6, []), (7, []), (8, [2, 6]), (9, []), (10, [])] [0, 0, 2, 6, 15, 31, 63, 0, 128, 511, 1023] mixed (by kernel_rfl) ?_) <;> try simp only [List.map, gop, ev, lk, aenv, gyield, gBin, gInt, gStrOp, gUn, gPick, gNil, gExtract, gIfc, gConvK, gIndexO, gIndexVO, gMakeV, gMinV, gMaxV, isInt, gMin, gMax, gBlt, gLenX, gCallV, gInvoke, gNilM, Array.toList_map, vcells, gField, gIndexV, gPart, reduceIte, Nat.reduceAdd, Nat.reduceSub, Nat.reduceMul, Nat.reduceLT, Nat.reduceLeDiff, Nat.reduceEqDiff, Nat.reduceBEq, Int.reduceLT, Int.reduceLE, Int.reduceGT, Int.reduceGE, Int.reduceEq, Int.reduceNe, Int.reduceAdd, Int.reduceSub, Int.reduceMul, Int.reduceNeg, Int.reduceToNat, Int.reduceBEq, Int.reduceBNe, Int.cast_ofNat_Int, List.getElem?_toArray, stp, rvOf, rvLen, wput, wlk, rdv, isEff, dsOf, sgl, stq, Try.underlying22, Try.underlying23, Try.underlying24, Try.underlying29, Try.underlying3, Try.underlying36, Try.underlying4, Try.underlying5, Try.underlying56, Try.underlying62, Try.underlying63, Try.underlying65, Try.underlying68, Try.underlying70, Try.underlying91, Try.underlying97, Try.underlying99, cv3_56, cv56_3, ty22, ty23, ty24, ty36, ty68, ty62, ty65, ty70, ty91, ty97, ty99, ty29, ty3, ty4, ty5, ty56, ty63, rs10]))
  refine st_all m8 sz70 rfl (by decide) rfl rfl rfl fun h9 m10 f9 => ?_
  have s9 : HS h7 h9 := (HS.refl h7).upd n8 (fun j hj => (f9 j hj).trans (f8 j hj))
  have m99 := s9 _ _ m97
  have rE9 : RL 3 It h9 (.slice b3 P.length b4) P := rE.hcR s9.hc fun _ _ q => q.hs s9
  obtain ⟨xs, hsrc, hxl, hxe⟩ := rE9.src
  have hxc : xs.all isCell = true := all_el (es := 3) (by decide) hxl fun i hi => by
    obtain ⟨y, hy⟩ := get_lt hi
    exact (hxe i y hy).cells.2.1
  have hxu : xs.all notU8 = true := all_el (es := 3) (by decide) hxl fun i hi => by
    obtain ⟨y, hy⟩ := get_lt hi
    exact (hxe i y hy).cells.2.2.1
  refine mk_of ?_; repeat' (first | (with_reducible first | refine gw_seq ?_ | refine gw_block ?_) | ((first | (with_reducible refine mk_to ?_) | (with_reducible first | refine gw_region ?_ | refine gw_if ?_ | refine gw_skip ?_ | refine gw_exit ?_ | refine gw_ret ?_) | ((with_reducible first | refine gif_b (fun hb => ?_) (fun hb => ?_) | refine want_t (fun hb => ?_) (fun hb => ?_) | refine want_f (fun hb => ?_) (fun hb => ?_) | refine dr_t (fun hb => ?_) (fun hb => ?_) | refine dr_f (fun hb => ?_) (fun hb => ?_)) <;> (try simp only [hb]) <;> (try simp only [hpr] at hb)) | with_reducible refine gw_draw (id := 15) [(0, []), (1, []), (2, []), (3, []), (4, []), (5, []), (6, []), (7, []), (8, [2, 6]), (9, []), (10, [])] [0, 0, 2, 6, 15, 31, 63, 0, 128, 511, 1023] mixed (by kernel_rfl) ?_) <;> try simp only [List.map, gop, ev, lk, aenv, gyield, gBin, gInt, gStrOp, gUn, gPick, gNil, gExtract, gIfc, gConvK, gIndexO, gIndexVO, gMakeV, gMinV, gMaxV, isInt, gMin, gMax, gBlt, gLenX, gCallV, gInvoke, gNilM, Array.toList_map, vcells, gField, gIndexV, gPart, reduceIte, Nat.reduceAdd, Nat.reduceSub, Nat.reduceMul, Nat.reduceLT, Nat.reduceLeDiff, Nat.reduceEqDiff, Nat.reduceBEq, Int.reduceLT, Int.reduceLE, Int.reduceGT, Int.reduceGE, Int.reduceEq, Int.reduceNe, Int.reduceAdd, Int.reduceSub, Int.reduceMul, Int.reduceNeg, Int.reduceToNat, Int.reduceBEq, Int.reduceBNe, Int.cast_ofNat_Int, List.getElem?_toArray, stp, rvOf, rvLen, wput, wlk, rdv, isEff, dsOf, sgl, stq, Try.underlying22, Try.underlying23, Try.underlying24, Try.underlying29, Try.underlying3, Try.underlying36, Try.underlying4, Try.underlying5, Try.underlying56, Try.underlying62, Try.underlying63, Try.underlying65, Try.underlying68, Try.underlying70, Try.underlying91, Try.underlying97, Try.underlying99, cv3_56, cv56_3, ty22, ty23, ty24, ty36, ty68, ty62, ty65, ty70, ty91, ty97, ty99, ty29, ty3, ty4, ty5, ty56, ty63, rs10, z0, d5, gPick, gload1 m10 sz29, gload1 m10 sz68, gload1 m10 sz4, gload1 m99 sz3, List.getElem?_cons_zero, List.getElem?_cons_succ]))
  refine append_ownc el68 Try.underlying68 rfl (s67.trans s9) (o7.hs s9) hsrc hxl hxc (by omega) (by simp only [maxLen]; omega) fun v11 h11 s11 fr11 o11 => ?_
  obtain ⟨a11, c11, rfl⟩ := o11.form
  have m1011 := fr_es fr11 m10 (by simp)
  have keep : ∀ {q : List Value} {ee : Itm}, It h9 q ee → It h11 q ee := fun {q ee} w => by
    obtain ⟨a, c, b, d, e, r1, r2⟩ := w
    exact ⟨a, c, b, d, e, fr_rb fr11 u7 r1, fr_rb fr11 u7 r2⟩
  have hgt : L.take pos ++ P = L := by rw [← hPd, List.take_append_drop]
  have hgl : (L.take pos).length + P.length = L.length := by
    have := congrArg List.length hgt
    rwa [List.length_append] at this
  have ig11 : Its hb h11 (.slice a11 ((L.take pos).length + P.length) c11) L := by
    refine ⟨ds7 ++ xs, by rw [← hgl]; exact o11, by rw [List.all_append, u7, hxu]; rfl, ?_⟩
    have := apps_el (R := It h11) o7.len (fun i p hp => keep ((e7 i p hp).hs s9)) (fun i p hp => keep (hxe i p hp))
    rw [hgt] at this
    exact this
  rw [hgl] at ig11 ⊢
  have x11 := xb.hs s11
  have wf : IntKind.i64.wrap ((fr : Int) + 1) = ((fr + 1 : Nat) : Int) := by rw [wrap64 (by omega) (by omega)]; omega
  refine mk_of ?_; repeat' (first | (with_reducible first | refine gw_seq ?_ | refine gw_block ?_) | ((first | (with_reducible refine mk_to ?_) | (with_reducible first | refine gw_region ?_ | refine gw_if ?_ | refine gw_skip ?_ | refine gw_exit ?_ | refine gw_ret ?_) | ((with_reducible first | refine gif_b (fun hb => ?_) (fun hb => ?_) | refine want_t (fun hb => ?_) (fun hb => ?_) | refine want_f (fun hb => ?_) (fun hb => ?_) | refine dr_t (fun hb => ?_) (fun hb => ?_) | refine dr_f (fun hb => ?_) (fun hb => ?_)) <;> (try simp only [hb]) <;> (try simp only [hpr] at hb)) | with_reducible refine gw_draw (id := 15) [(0, []), (1, []), (2, []), (3, []), (4, []), (5, []), (6, []), (7, []), (8, [2, 6]), (9, []), (10, [])] [0, 0, 2, 6, 15, 31, 63, 0, 128, 511, 1023] mixed (by kernel_rfl) ?_) <;> try simp only [List.map, gop, ev, lk, aenv, gyield, gBin, gInt, gStrOp, gUn, gPick, gNil, gExtract, gIfc, gConvK, gIndexO, gIndexVO, gMakeV, gMinV, gMaxV, isInt, gMin, gMax, gBlt, gLenX, gCallV, gInvoke, gNilM, Array.toList_map, vcells, gField, gIndexV, gPart, reduceIte, Nat.reduceAdd, Nat.reduceSub, Nat.reduceMul, Nat.reduceLT, Nat.reduceLeDiff, Nat.reduceEqDiff, Nat.reduceBEq, Int.reduceLT, Int.reduceLE, Int.reduceGT, Int.reduceGE, Int.reduceEq, Int.reduceNe, Int.reduceAdd, Int.reduceSub, Int.reduceMul, Int.reduceNeg, Int.reduceToNat, Int.reduceBEq, Int.reduceBNe, Int.cast_ofNat_Int, List.getElem?_toArray, stp, rvOf, rvLen, wput, wlk, rdv, isEff, dsOf, sgl, stq, Try.underlying22, Try.underlying23, Try.underlying24, Try.underlying29, Try.underlying3, Try.underlying36, Try.underlying4, Try.underlying5, Try.underlying56, Try.underlying62, Try.underlying63, Try.underlying65, Try.underlying68, Try.underlying70, Try.underlying91, Try.underlying97, Try.underlying99, cv3_56, cv56_3, ty22, ty23, ty24, ty36, ty68, ty62, ty65, ty70, ty91, ty97, ty99, ty29, ty3, ty4, ty5, ty56, ty63, rs10, Bool.not_false, gload1 m1011 sz4, wf, List.getElem?_cons_zero, List.getElem?_cons_succ]))
  have hndL := D.nodup
  refine gw_loop2 [1, 2, 9, 12] (fun (e : Nat) => [(14, .int .i64 (e : Int))])
    (fun q e h' => to + 1 - e = q ∧ fr + 1 ≤ e ∧ e ≤ to + 1 ∧ HS h11 h') (to + 1 - (fr + 1)) (fr + 1) (by simp [lk]) ⟨rfl, Nat.le_refl _, by omega, HS.refl _⟩ ?_
  rintro _ e h12 ⟨rfl, hfe, hee, s12⟩
  have x12 := x11.hs s12
  have ig12 := ig11.hs s12
  by_cases het : e ≤ to
  case neg =>
    have d7 : decide ((e : Int) ≤ (to : Int)) = false := decide_eq_false (by omega)
    refine mk_of ?_; repeat' (first | (with_reducible first | refine gw_seq ?_ | refine gw_block ?_) | ((first | (with_reducible refine mk_to ?_) | (with_reducible first | refine gw_region ?_ | refine gw_if ?_ | refine gw_skip ?_ | refine gw_exit ?_ | refine gw_ret ?_) | ((with_reducible first | refine gif_b (fun hb => ?_) (fun hb => ?_) | refine want_t (fun hb => ?_) (fun hb => ?_) | refine want_f (fun hb => ?_) (fun hb => ?_) | refine dr_t (fun hb => ?_) (fun hb => ?_) | refine dr_f (fun hb => ?_) (fun hb => ?_)) <;> (try simp only [hb]) <;> (try simp only [hpr] at hb)) | with_reducible refine gw_draw (id := 15) [(0, []), (1, []), (2, []), (3, []), (4, []), (5, []), (6, []), (7, []), (8, [2, 6]), (9, []), (10, [])] [0, 0, 2, 6, 15, 31, 63, 0, 128, 511, 1023] mixed (by kernel_rfl) ?_) <;> try simp only [List.map, gop, ev, lk, aenv, gyield, gBin, gInt, gStrOp, gUn, gPick, gNil, gExtract, gIfc, gConvK, gIndexO, gIndexVO, gMakeV, gMinV, gMaxV, isInt, gMin, gMax, gBlt, gLenX, gCallV, gInvoke, gNilM, Array.toList_map, vcells, gField, gIndexV, gPart, reduceIte, Nat.reduceAdd, Nat.reduceSub, Nat.reduceMul, Nat.reduceLT, Nat.reduceLeDiff, Nat.reduceEqDiff, Nat.reduceBEq, Int.reduceLT, Int.reduceLE, Int.reduceGT, Int.reduceGE, Int.reduceEq, Int.reduceNe, Int.reduceAdd, Int.reduceSub, Int.reduceMul, Int.reduceNeg, Int.reduceToNat, Int.reduceBEq, Int.reduceBNe, Int.cast_ofNat_Int, List.getElem?_toArray, stp, rvOf, rvLen, wput, wlk, rdv, isEff, dsOf, sgl, stq, Try.underlying22, Try.underlying23, Try.underlying24, Try.underlying29, Try.underlying3, Try.underlying36, Try.underlying4, Try.underlying5, Try.underlying56, Try.underlying62, Try.underlying63, Try.underlying65, Try.underlying68, Try.underlying70, Try.underlying91, Try.underlying97, Try.underlying99, cv3_56, cv56_3, ty22, ty23, ty24, ty36, ty68, ty62, ty65, ty70, ty91, ty97, ty99, ty29, ty3, ty4, ty5, ty56, ty63, rs10, d7]))
    refine gw_loop2 [1, 2, 157, 158] (fun (i : Nat) => [(159, .int .i64 (i : Int))]) (fun q i h' => L.length - i = q ∧ i ≤ L.length ∧ HS h12 h') L.length 0 (by simp [lk]) ⟨rfl, by omega, HS.refl _⟩ ?_
    rintro _ i h13 ⟨rfl, hi, s13⟩
    by_cases hil : i < L.length
    case neg =>
      have d8 : decide ((i : Int) < (L.length : Int)) = false := decide_eq_false (by omega)
      refine mk_of ?_; repeat' (first | (with_reducible first | refine gw_seq ?_ | refine gw_block ?_) | ((first | (with_reducible refine mk_to ?_) | (with_reducible first | refine gw_region ?_ | refine gw_if ?_ | refine gw_skip ?_ | refine gw_exit ?_ | refine gw_ret ?_) | ((with_reducible first | refine gif_b (fun hb => ?_) (fun hb => ?_) | refine want_t (fun hb => ?_) (fun hb => ?_) | refine want_f (fun hb => ?_) (fun hb => ?_) | refine dr_t (fun hb => ?_) (fun hb => ?_) | refine dr_f (fun hb => ?_) (fun hb => ?_)) <;> (try simp only [hb]) <;> (try simp only [hpr] at hb)) | with_reducible refine gw_draw (id := 15) [(0, []), (1, []), (2, []), (3, []), (4, []), (5, []), (6, []), (7, []), (8, [2, 6]), (9, []), (10, [])] [0, 0, 2, 6, 15, 31, 63, 0, 128, 511, 1023] mixed (by kernel_rfl) ?_) <;> try simp only [List.map, gop, ev, lk, aenv, gyield, gBin, gInt, gStrOp, gUn, gPick, gNil, gExtract, gIfc, gConvK, gIndexO, gIndexVO, gMakeV, gMinV, gMaxV, isInt, gMin, gMax, gBlt, gLenX, gCallV, gInvoke, gNilM, Array.toList_map, vcells, gField, gIndexV, gPart, reduceIte, Nat.reduceAdd, Nat.reduceSub, Nat.reduceMul, Nat.reduceLT, Nat.reduceLeDiff, Nat.reduceEqDiff, Nat.reduceBEq, Int.reduceLT, Int.reduceLE, Int.reduceGT, Int.reduceGE, Int.reduceEq, Int.reduceNe, Int.reduceAdd, Int.reduceSub, Int.reduceMul, Int.reduceNeg, Int.reduceToNat, Int.reduceBEq, Int.reduceBNe, Int.cast_ofNat_Int, List.getElem?_toArray, stp, rvOf, rvLen, wput, wlk, rdv, isEff, dsOf, sgl, stq, Try.underlying22, Try.underlying23, Try.underlying24, Try.underlying29, Try.underlying3, Try.underlying36, Try.underlying4, Try.underlying5, Try.underlying56, Try.underlying62, Try.underlying63, Try.underlying65, Try.underlying68, Try.underlying70, Try.underlying91, Try.underlying97, Try.underlying99, cv3_56, cv56_3, ty22, ty23, ty24, ty36, ty68, ty62, ty65, ty70, ty91, ty97, ty99, ty29, ty3, ty4, ty5, ty56, ty63, rs10, d8]))
      refine (c_awake16 N h13).mono ?_
      rintro _ h14 ⟨rfl, s14⟩
      refine mk_of ?_; repeat' (first | (with_reducible first | refine gw_seq ?_ | refine gw_block ?_) | ((first | (with_reducible refine mk_to ?_) | (with_reducible first | refine gw_region ?_ | refine gw_if ?_ | refine gw_skip ?_ | refine gw_exit ?_ | refine gw_ret ?_) | ((with_reducible first | refine gif_b (fun hb => ?_) (fun hb => ?_) | refine want_t (fun hb => ?_) (fun hb => ?_) | refine want_f (fun hb => ?_) (fun hb => ?_) | refine dr_t (fun hb => ?_) (fun hb => ?_) | refine dr_f (fun hb => ?_) (fun hb => ?_)) <;> (try simp only [hb]) <;> (try simp only [hpr] at hb)) | with_reducible refine gw_draw (id := 15) [(0, []), (1, []), (2, []), (3, []), (4, []), (5, []), (6, []), (7, []), (8, [2, 6]), (9, []), (10, [])] [0, 0, 2, 6, 15, 31, 63, 0, 128, 511, 1023] mixed (by kernel_rfl) ?_) <;> try simp only [List.map, gop, ev, lk, aenv, gyield, gBin, gInt, gStrOp, gUn, gPick, gNil, gExtract, gIfc, gConvK, gIndexO, gIndexVO, gMakeV, gMinV, gMaxV, isInt, gMin, gMax, gBlt, gLenX, gCallV, gInvoke, gNilM, Array.toList_map, vcells, gField, gIndexV, gPart, reduceIte, Nat.reduceAdd, Nat.reduceSub, Nat.reduceMul, Nat.reduceLT, Nat.reduceLeDiff, Nat.reduceEqDiff, Nat.reduceBEq, Int.reduceLT, Int.reduceLE, Int.reduceGT, Int.reduceGE, Int.reduceEq, Int.reduceNe, Int.reduceAdd, Int.reduceSub, Int.reduceMul, Int.reduceNeg, Int.reduceToNat, Int.reduceBEq, Int.reduceBNe, Int.cast_ofNat_Int, List.getElem?_toArray, stp, rvOf, rvLen, wput, wlk, rdv, isEff, dsOf, sgl, stq, Try.underlying22, Try.underlying23, Try.underlying24, Try.underlying29, Try.underlying3, Try.underlying36, Try.underlying4, Try.underlying5, Try.underlying56, Try.underlying62, Try.underlying63, Try.underlying65, Try.underlying68, Try.underlying70, Try.underlying91, Try.underlying97, Try.underlying99, cv3_56, cv56_3, ty22, ty23, ty24, ty36, ty68, ty62, ty65, ty70, ty91, ty97, ty99, ty29, ty3, ty4, ty5, ty56, ty63, rs10]))
    have d8 : decide ((i : Int) < (L.length : Int)) = true := decide_eq_true (by omega)
    have wi : IntKind.i64.wrap ((i : Int) + 1) = ((i + 1 : Nat) : Int) := by rw [wrap64 (by omega) (by omega)]; omega
    obtain ⟨y, hy⟩ := get_lt hil
    obtain ⟨ad, cy, g1, g2, ity⟩ := (ig12.hs s13).rl.at (P := Try.prog) Try.underlying68 sz97 hy
    obtain ⟨ay, cy', by_, dy, rfl, ry1, ry2⟩ := ity
    have l1 : gLoad Try.prog 97 h13 (.pointer (some ad)) = some (.agg #[.slice ay y.1.1.length cy', .slice by_ y.1.2.length dy, .int .i64 (y.2 : Int)]) := by simp only [gLoad, sz97, g2]; rfl
    refine mk_of ?_; repeat' (first | (with_reducible first | refine gw_seq ?_ | refine gw_block ?_) | ((first | (with_reducible refine mk_to ?_) | (with_reducible first | refine gw_region ?_ | refine gw_if ?_ | refine gw_skip ?_ | refine gw_exit ?_ | refine gw_ret ?_) | ((with_reducible first | refine gif_b (fun hb => ?_) (fun hb => ?_) | refine want_t (fun hb => ?_) (fun hb => ?_) | refine want_f (fun hb => ?_) (fun hb => ?_) | refine dr_t (fun hb => ?_) (fun hb => ?_) | refine dr_f (fun hb => ?_) (fun hb => ?_)) <;> (try simp only [hb]) <;> (try simp only [hpr] at hb)) | with_reducible refine gw_draw (id := 15) [(0, []), (1, []), (2, []), (3, []), (4, []), (5, []), (6, []), (7, []), (8, [2, 6]), (9, []), (10, [])] [0, 0, 2, 6, 15, 31, 63, 0, 128, 511, 1023] mixed (by kernel_rfl) ?_) <;> try simp only [List.map, gop, ev, lk, aenv, gyield, gBin, gInt, gStrOp, gUn, gPick, gNil, gExtract, gIfc, gConvK, gIndexO, gIndexVO, gMakeV, gMinV, gMaxV, isInt, gMin, gMax, gBlt, gLenX, gCallV, gInvoke, gNilM, Array.toList_map, vcells, gField, gIndexV, gPart, reduceIte, Nat.reduceAdd, Nat.reduceSub, Nat.reduceMul, Nat.reduceLT, Nat.reduceLeDiff, Nat.reduceEqDiff, Nat.reduceBEq, Int.reduceLT, Int.reduceLE, Int.reduceGT, Int.reduceGE, Int.reduceEq, Int.reduceNe, Int.reduceAdd, Int.reduceSub, Int.reduceMul, Int.reduceNeg, Int.reduceToNat, Int.reduceBEq, Int.reduceBNe, Int.cast_ofNat_Int, List.getElem?_toArray, stp, rvOf, rvLen, wput, wlk, rdv, isEff, dsOf, sgl, stq, Try.underlying22, Try.underlying23, Try.underlying24, Try.underlying29, Try.underlying3, Try.underlying36, Try.underlying4, Try.underlying5, Try.underlying56, Try.underlying62, Try.underlying63, Try.underlying65, Try.underlying68, Try.underlying70, Try.underlying91, Try.underlying97, Try.underlying99, cv3_56, cv56_3, ty22, ty23, ty24, ty36, ty68, ty62, ty65, ty70, ty91, ty97, ty99, ty29, ty3, ty4, ty5, ty56, ty63, rs10, d8, g1, l1]))
    refine new_g fun k14 h14 m14 s14 f14 n14 => ?_
    refine mk_of ?_; repeat' (first | (with_reducible first | refine gw_seq ?_ | refine gw_block ?_) | ((first | (with_reducible refine mk_to ?_) | (with_reducible first | refine gw_region ?_ | refine gw_if ?_ | refine gw_skip ?_ | refine gw_exit ?_ | refine gw_ret ?_) | ((with_reducible first | refine gif_b (fun hb => ?_) (fun hb => ?_) | refine want_t (fun hb => ?_) (fun hb => ?_) | refine want_f (fun hb => ?_) (fun hb => ?_) | refine dr_t (fun hb => ?_) (fun hb => ?_) | refine dr_f (fun hb => ?_) (fun hb => ?_)) <;> (try simp only [hb]) <;> (try simp only [hpr] at hb)) | with_reducible refine gw_draw (id := 15) [(0, []), (1, []), (2, []), (3, []), (4, []), (5, []), (6, []), (7, []), (8, [2, 6]), (9, []), (10, [])] [0, 0, 2, 6, 15, 31, 63, 0, 128, 511, 1023] mixed (by kernel_rfl) ?_) <;> try simp only [List.map, gop, ev, lk, aenv, gyield, gBin, gInt, gStrOp, gUn, gPick, gNil, gExtract, gIfc, gConvK, gIndexO, gIndexVO, gMakeV, gMinV, gMaxV, isInt, gMin, gMax, gBlt, gLenX, gCallV, gInvoke, gNilM, Array.toList_map, vcells, gField, gIndexV, gPart, reduceIte, Nat.reduceAdd, Nat.reduceSub, Nat.reduceMul, Nat.reduceLT, Nat.reduceLeDiff, Nat.reduceEqDiff, Nat.reduceBEq, Int.reduceLT, Int.reduceLE, Int.reduceGT, Int.reduceGE, Int.reduceEq, Int.reduceNe, Int.reduceAdd, Int.reduceSub, Int.reduceMul, Int.reduceNeg, Int.reduceToNat, Int.reduceBEq, Int.reduceBNe, Int.cast_ofNat_Int, List.getElem?_toArray, stp, rvOf, rvLen, wput, wlk, rdv, isEff, dsOf, sgl, stq, Try.underlying22, Try.underlying23, Try.underlying24, Try.underlying29, Try.underlying3, Try.underlying36, Try.underlying4, Try.underlying5, Try.underlying56, Try.underlying62, Try.underlying63, Try.underlying65, Try.underlying68, Try.underlying70, Try.underlying91, Try.underlying97, Try.underlying99, cv3_56, cv56_3, ty22, ty23, ty24, ty36, ty68, ty62, ty65, ty70, ty91, ty97, ty99, ty29, ty3, ty4, ty5, ty56, ty63, rs10]))
    refine st_all m14 sz97 rfl (by decide) rfl rfl rfl fun h15 m15 f15 => ?_
    have s15 : HS h13 h15 := (HS.refl h13).upd n14 (fun j hj => (f15 j hj).trans (f14 j hj))
    obtain ⟨hyf, hyat⟩ := D.len y (List.mem_of_getElem? hy)
    obtain ⟨_, _, _, hyt⟩ := atI_sps hyat
    rw [hq0] at hyf hyt
    simp only at hyf hyt
    have d9 : decide ((y.2 : Int) ≤ (fr : Int)) = false := decide_eq_false (by omega)
    have d10 : decide ((y.2 : Int) > (to : Int)) = false := decide_eq_false (by omega)
    refine mk_of ?_; repeat' (first | (with_reducible first | refine gw_seq ?_ | refine gw_block ?_) | ((first | (with_reducible refine mk_to ?_) | (with_reducible first | refine gw_region ?_ | refine gw_if ?_ | refine gw_skip ?_ | refine gw_exit ?_ | refine gw_ret ?_) | ((with_reducible first | refine gif_b (fun hb => ?_) (fun hb => ?_) | refine want_t (fun hb => ?_) (fun hb => ?_) | refine want_f (fun hb => ?_) (fun hb => ?_) | refine dr_t (fun hb => ?_) (fun hb => ?_) | refine dr_f (fun hb => ?_) (fun hb => ?_)) <;> (try simp only [hb]) <;> (try simp only [hpr] at hb)) | with_reducible refine gw_draw (id := 15) [(0, []), (1, []), (2, []), (3, []), (4, []), (5, []), (6, []), (7, []), (8, [2, 6]), (9, []), (10, [])] [0, 0, 2, 6, 15, 31, 63, 0, 128, 511, 1023] mixed (by kernel_rfl) ?_) <;> try simp only [List.map, gop, ev, lk, aenv, gyield, gBin, gInt, gStrOp, gUn, gPick, gNil, gExtract, gIfc, gConvK, gIndexO, gIndexVO, gMakeV, gMinV, gMaxV, isInt, gMin, gMax, gBlt, gLenX, gCallV, gInvoke, gNilM, Array.toList_map, vcells, gField, gIndexV, gPart, reduceIte, Nat.reduceAdd, Nat.reduceSub, Nat.reduceMul, Nat.reduceLT, Nat.reduceLeDiff, Nat.reduceEqDiff, Nat.reduceBEq, Int.reduceLT, Int.reduceLE, Int.reduceGT, Int.reduceGE, Int.reduceEq, Int.reduceNe, Int.reduceAdd, Int.reduceSub, Int.reduceMul, Int.reduceNeg, Int.reduceToNat, Int.reduceBEq, Int.reduceBNe, Int.cast_ofNat_Int, List.getElem?_toArray, stp, rvOf, rvLen, wput, wlk, rdv, isEff, dsOf, sgl, stq, Try.underlying22, Try.underlying23, Try.underlying24, Try.underlying29, Try.underlying3, Try.underlying36, Try.underlying4, Try.underlying5, Try.underlying56, Try.underlying62, Try.underlying63, Try.underlying65, Try.underlying68, Try.underlying70, Try.underlying91, Try.underlying97, Try.underlying99, cv3_56, cv56_3, ty22, ty23, ty24, ty36, ty68, ty62, ty65, ty70, ty91, ty97, ty99, ty29, ty3, ty4, ty5, ty56, ty63, rs10, d9, d10, gPick, wi, gload1 m15 sz3, List.getElem?_cons_zero, List.getElem?_cons_succ]))
    exact ⟨_, i + 1, by omega, (by simp only [List.forall_mem_cons, List.not_mem_nil, false_implies, implies_true, List.map, List.cons_append, List.nil_append, lk, Nat.reduceEqDiff, reduceIte, and_true, true_and]), rfl, by omega, s13.trans s15⟩
  have d7 : decide ((e : Int) ≤ (to : Int)) = true := decide_eq_true (by omega)
  have we : IntKind.i64.wrap ((e : Int) + 1) = ((e + 1 : Nat) : Int) := by rw [wrap64 (by omega) (by omega)]; omega
  obtain ⟨y, hy⟩ := get_lt (show e < M.length by omega)
  have hyl := (x12.bl y (List.mem_of_getElem? hy)).2
  refine mk_of ?_; repeat' (first | (with_reducible first | refine gw_seq ?_ | refine gw_block ?_) | ((first | (with_reducible refine mk_to ?_) | (with_reducible first | refine gw_region ?_ | refine gw_if ?_ | refine gw_skip ?_ | refine gw_exit ?_ | refine gw_ret ?_) | ((with_reducible first | refine gif_b (fun hb => ?_) (fun hb => ?_) | refine want_t (fun hb => ?_) (fun hb => ?_) | refine want_f (fun hb => ?_) (fun hb => ?_) | refine dr_t (fun hb => ?_) (fun hb => ?_) | refine dr_f (fun hb => ?_) (fun hb => ?_)) <;> (try simp only [hb]) <;> (try simp only [hpr] at hb)) | with_reducible refine gw_draw (id := 15) [(0, []), (1, []), (2, []), (3, []), (4, []), (5, []), (6, []), (7, []), (8, [2, 6]), (9, []), (10, [])] [0, 0, 2, 6, 15, 31, 63, 0, 128, 511, 1023] mixed (by kernel_rfl) ?_) <;> try simp only [List.map, gop, ev, lk, aenv, gyield, gBin, gInt, gStrOp, gUn, gPick, gNil, gExtract, gIfc, gConvK, gIndexO, gIndexVO, gMakeV, gMinV, gMaxV, isInt, gMin, gMax, gBlt, gLenX, gCallV, gInvoke, gNilM, Array.toList_map, vcells, gField, gIndexV, gPart, reduceIte, Nat.reduceAdd, Nat.reduceSub, Nat.reduceMul, Nat.reduceLT, Nat.reduceLeDiff, Nat.reduceEqDiff, Nat.reduceBEq, Int.reduceLT, Int.reduceLE, Int.reduceGT, Int.reduceGE, Int.reduceEq, Int.reduceNe, Int.reduceAdd, Int.reduceSub, Int.reduceMul, Int.reduceNeg, Int.reduceToNat, Int.reduceBEq, Int.reduceBNe, Int.cast_ofNat_Int, List.getElem?_toArray, stp, rvOf, rvLen, wput, wlk, rdv, isEff, dsOf, sgl, stq, Try.underlying22, Try.underlying23, Try.underlying24, Try.underlying29, Try.underlying3, Try.underlying36, Try.underlying4, Try.underlying5, Try.underlying56, Try.underlying62, Try.underlying63, Try.underlying65, Try.underlying68, Try.underlying70, Try.underlying91, Try.underlying97, Try.underlying99, cv3_56, cv56_3, ty22, ty23, ty24, ty36, ty68, ty62, ty65, ty70, ty91, ty97, ty99, ty29, ty3, ty4, ty5, ty56, ty63, rs10, d7]))
  refine (c_iBatch N x12 hy).mono ?_
  rintro v13 h13 ⟨bt13, s13⟩
  obtain ⟨ab, cb, rfl⟩ : ∃ a c, v13 = .slice a y.2.length c := by
    obtain ⟨ds, o, _⟩ := bt13
    exact o.form
  have rb13 := bt13.rl
  refine mk_of ?_; repeat' (first | (with_reducible first | refine gw_seq ?_ | refine gw_block ?_) | ((first | (with_reducible refine mk_to ?_) | (with_reducible first | refine gw_region ?_ | refine gw_if ?_ | refine gw_skip ?_ | refine gw_exit ?_ | refine gw_ret ?_) | ((with_reducible first | refine gif_b (fun hb => ?_) (fun hb => ?_) | refine want_t (fun hb => ?_) (fun hb => ?_) | refine want_f (fun hb => ?_) (fun hb => ?_) | refine dr_t (fun hb => ?_) (fun hb => ?_) | refine dr_f (fun hb => ?_) (fun hb => ?_)) <;> (try simp only [hb]) <;> (try simp only [hpr] at hb)) | with_reducible refine gw_draw (id := 15) [(0, []), (1, []), (2, []), (3, []), (4, []), (5, []), (6, []), (7, []), (8, [2, 6]), (9, []), (10, [])] [0, 0, 2, 6, 15, 31, 63, 0, 128, 511, 1023] mixed (by kernel_rfl) ?_) <;> try simp only [List.map, gop, ev, lk, aenv, gyield, gBin, gInt, gStrOp, gUn, gPick, gNil, gExtract, gIfc, gConvK, gIndexO, gIndexVO, gMakeV, gMinV, gMaxV, isInt, gMin, gMax, gBlt, gLenX, gCallV, gInvoke, gNilM, Array.toList_map, vcells, gField, gIndexV, gPart, reduceIte, Nat.reduceAdd, Nat.reduceSub, Nat.reduceMul, Nat.reduceLT, Nat.reduceLeDiff, Nat.reduceEqDiff, Nat.reduceBEq, Int.reduceLT, Int.reduceLE, Int.reduceGT, Int.reduceGE, Int.reduceEq, Int.reduceNe, Int.reduceAdd, Int.reduceSub, Int.reduceMul, Int.reduceNeg, Int.reduceToNat, Int.reduceBEq, Int.reduceBNe, Int.cast_ofNat_Int, List.getElem?_toArray, stp, rvOf, rvLen, wput, wlk, rdv, isEff, dsOf, sgl, stq, Try.underlying22, Try.underlying23, Try.underlying24, Try.underlying29, Try.underlying3, Try.underlying36, Try.underlying4, Try.underlying5, Try.underlying56, Try.underlying62, Try.underlying63, Try.underlying65, Try.underlying68, Try.underlying70, Try.underlying91, Try.underlying97, Try.underlying99, cv3_56, cv56_3, ty22, ty23, ty24, ty36, ty68, ty62, ty65, ty70, ty91, ty97, ty99, ty29, ty3, ty4, ty5, ty56, ty63, rs10]))
  refine gw_loop2 [1, 2, 9, 12, 14, 101, 102, 103, 106, 107, 108, 109] (fun (i : Nat) => [(110, .int .i64 (i : Int))]) (fun q i h' => y.2.length - i = q ∧ i ≤ y.2.length ∧ HS h13 h') y.2.length 0 (by simp [lk]) ⟨rfl, by omega, HS.refl _⟩ ?_
  rintro _ i h14 ⟨rfl, hi, s14⟩
  by_cases hib : i < y.2.length
  case neg =>
    have d8 : decide ((i : Int) < (y.2.length : Int)) = false := decide_eq_false (by omega)
    refine mk_of ?_; repeat' (first | (with_reducible first | refine gw_seq ?_ | refine gw_block ?_) | ((first | (with_reducible refine mk_to ?_) | (with_reducible first | refine gw_region ?_ | refine gw_if ?_ | refine gw_skip ?_ | refine gw_exit ?_ | refine gw_ret ?_) | ((with_reducible first | refine gif_b (fun hb => ?_) (fun hb => ?_) | refine want_t (fun hb => ?_) (fun hb => ?_) | refine want_f (fun hb => ?_) (fun hb => ?_) | refine dr_t (fun hb => ?_) (fun hb => ?_) | refine dr_f (fun hb => ?_) (fun hb => ?_)) <;> (try simp only [hb]) <;> (try simp only [hpr] at hb)) | with_reducible refine gw_draw (id := 15) [(0, []), (1, []), (2, []), (3, []), (4, []), (5, []), (6, []), (7, []), (8, [2, 6]), (9, []), (10, [])] [0, 0, 2, 6, 15, 31, 63, 0, 128, 511, 1023] mixed (by kernel_rfl) ?_) <;> try simp only [List.map, gop, ev, lk, aenv, gyield, gBin, gInt, gStrOp, gUn, gPick, gNil, gExtract, gIfc, gConvK, gIndexO, gIndexVO, gMakeV, gMinV, gMaxV, isInt, gMin, gMax, gBlt, gLenX, gCallV, gInvoke, gNilM, Array.toList_map, vcells, gField, gIndexV, gPart, reduceIte, Nat.reduceAdd, Nat.reduceSub, Nat.reduceMul, Nat.reduceLT, Nat.reduceLeDiff, Nat.reduceEqDiff, Nat.reduceBEq, Int.reduceLT, Int.reduceLE, Int.reduceGT, Int.reduceGE, Int.reduceEq, Int.reduceNe, Int.reduceAdd, Int.reduceSub, Int.reduceMul, Int.reduceNeg, Int.reduceToNat, Int.reduceBEq, Int.reduceBNe, Int.cast_ofNat_Int, List.getElem?_toArray, stp, rvOf, rvLen, wput, wlk, rdv, isEff, dsOf, sgl, stq, Try.underlying22, Try.underlying23, Try.underlying24, Try.underlying29, Try.underlying3, Try.underlying36, Try.underlying4, Try.underlying5, Try.underlying56, Try.underlying62, Try.underlying63, Try.underlying65, Try.underlying68, Try.underlying70, Try.underlying91, Try.underlying97, Try.underlying99, cv3_56, cv56_3, ty22, ty23, ty24, ty36, ty68, ty62, ty65, ty70, ty91, ty97, ty99, ty29, ty3, ty4, ty5, ty56, ty63, rs10, d8, we]))
    exact ⟨_, e + 1, by omega, (by simp only [List.forall_mem_cons, List.not_mem_nil, false_implies, implies_true, List.map, List.cons_append, List.nil_append, lk, Nat.reduceEqDiff, reduceIte, and_true, true_and]), rfl, by omega, by omega, (s12.trans s13).trans s14⟩
  have d8 : decide ((i : Int) < (y.2.length : Int)) = true := decide_eq_true (by omega)
  have wi : IntKind.i64.wrap ((i : Int) + 1) = ((i + 1 : Nat) : Int) := by rw [wrap64 (by omega) (by omega)]; omega
  obtain ⟨b, hb⟩ := get_lt hib
  obtain ⟨ad, cs2, g1, g2, a', n', c', b', m', d', rfl, q1, q2⟩ := (rb13.bs s14).at (P := Try.prog) Try.underlying23 sz99 hb
  have l1 : gLoad Try.prog 99 h14 (.pointer (some ad)) = some (.agg #[.slice a' n' c', .slice b' m' d']) := by simp only [gLoad, sz99, g2]; rfl
  have e1 := q1.len_eq
  subst e1
  have hb1 : bat1 y.2 i = b := bat1_get hb
  obtain ⟨key, ep, hat, hep1, hep2⟩ := atI_in hy hib (t := (to : Int)) (by omega)
  rw [hb1] at hat
  have hbm : (b.1.length : Int) ≤ pmd.mi := IM.short x12 hat
  refine mk_of ?_; repeat' (first | (with_reducible first | refine gw_seq ?_ | refine gw_block ?_) | ((first | (with_reducible refine mk_to ?_) | (with_reducible first | refine gw_region ?_ | refine gw_if ?_ | refine gw_skip ?_ | refine gw_exit ?_ | refine gw_ret ?_) | ((with_reducible first | refine gif_b (fun hb => ?_) (fun hb => ?_) | refine want_t (fun hb => ?_) (fun hb => ?_) | refine want_f (fun hb => ?_) (fun hb => ?_) | refine dr_t (fun hb => ?_) (fun hb => ?_) | refine dr_f (fun hb => ?_) (fun hb => ?_)) <;> (try simp only [hb]) <;> (try simp only [hpr] at hb)) | with_reducible refine gw_draw (id := 15) [(0, []), (1, []), (2, []), (3, []), (4, []), (5, []), (6, []), (7, []), (8, [2, 6]), (9, []), (10, [])] [0, 0, 2, 6, 15, 31, 63, 0, 128, 511, 1023] mixed (by kernel_rfl) ?_) <;> try simp only [List.map, gop, ev, lk, aenv, gyield, gBin, gInt, gStrOp, gUn, gPick, gNil, gExtract, gIfc, gConvK, gIndexO, gIndexVO, gMakeV, gMinV, gMaxV, isInt, gMin, gMax, gBlt, gLenX, gCallV, gInvoke, gNilM, Array.toList_map, vcells, gField, gIndexV, gPart, reduceIte, Nat.reduceAdd, Nat.reduceSub, Nat.reduceMul, Nat.reduceLT, Nat.reduceLeDiff, Nat.reduceEqDiff, Nat.reduceBEq, Int.reduceLT, Int.reduceLE, Int.reduceGT, Int.reduceGE, Int.reduceEq, Int.reduceNe, Int.reduceAdd, Int.reduceSub, Int.reduceMul, Int.reduceNeg, Int.reduceToNat, Int.reduceBEq, Int.reduceBNe, Int.cast_ofNat_Int, List.getElem?_toArray, stp, rvOf, rvLen, wput, wlk, rdv, isEff, dsOf, sgl, stq, Try.underlying22, Try.underlying23, Try.underlying24, Try.underlying29, Try.underlying3, Try.underlying36, Try.underlying4, Try.underlying5, Try.underlying56, Try.underlying62, Try.underlying63, Try.underlying65, Try.underlying68, Try.underlying70, Try.underlying91, Try.underlying97, Try.underlying99, cv3_56, cv56_3, ty22, ty23, ty24, ty36, ty68, ty62, ty65, ty70, ty91, ty97, ty99, ty29, ty3, ty4, ty5, ty56, ty63, rs10, d8, g1, l1]))
  refine new_g fun k15 h15 m15 s15 f15 n15 => ?_
  refine mk_of ?_; repeat' (first | (with_reducible first | refine gw_seq ?_ | refine gw_block ?_) | ((first | (with_reducible refine mk_to ?_) | (with_reducible first | refine gw_region ?_ | refine gw_if ?_ | refine gw_skip ?_ | refine gw_exit ?_ | refine gw_ret ?_) | ((with_reducible first | refine gif_b (fun hb => ?_) (fun hb => ?_) | refine want_t (fun hb => ?_) (fun hb => ?_) | refine want_f (fun hb => ?_) (fun hb => ?_) | refine dr_t (fun hb => ?_) (fun hb => ?_) | refine dr_f (fun hb => ?_) (fun hb => ?_)) <;> (try simp only [hb]) <;> (try simp only [hpr] at hb)) | with_reducible refine gw_draw (id := 15) [(0, []), (1, []), (2, []), (3, []), (4, []), (5, []), (6, []), (7, []), (8, [2, 6]), (9, []), (10, [])] [0, 0, 2, 6, 15, 31, 63, 0, 128, 511, 1023] mixed (by kernel_rfl) ?_) <;> try simp only [List.map, gop, ev, lk, aenv, gyield, gBin, gInt, gStrOp, gUn, gPick, gNil, gExtract, gIfc, gConvK, gIndexO, gIndexVO, gMakeV, gMinV, gMaxV, isInt, gMin, gMax, gBlt, gLenX, gCallV, gInvoke, gNilM, Array.toList_map, vcells, gField, gIndexV, gPart, reduceIte, Nat.reduceAdd, Nat.reduceSub, Nat.reduceMul, Nat.reduceLT, Nat.reduceLeDiff, Nat.reduceEqDiff, Nat.reduceBEq, Int.reduceLT, Int.reduceLE, Int.reduceGT, Int.reduceGE, Int.reduceEq, Int.reduceNe, Int.reduceAdd, Int.reduceSub, Int.reduceMul, Int.reduceNeg, Int.reduceToNat, Int.reduceBEq, Int.reduceBNe, Int.cast_ofNat_Int, List.getElem?_toArray, stp, rvOf, rvLen, wput, wlk, rdv, isEff, dsOf, sgl, stq, Try.underlying22, Try.underlying23, Try.underlying24, Try.underlying29, Try.underlying3, Try.underlying36, Try.underlying4, Try.underlying5, Try.underlying56, Try.underlying62, Try.underlying63, Try.underlying65, Try.underlying68, Try.underlying70, Try.underlying91, Try.underlying97, Try.underlying99, cv3_56, cv56_3, ty22, ty23, ty24, ty36, ty68, ty62, ty65, ty70, ty91, ty97, ty99, ty29, ty3, ty4, ty5, ty56, ty63, rs10]))
  refine st_all m15 sz99 rfl (by decide) rfl rfl rfl fun h16 m16 f16 => ?_
  have s16 : HS h14 h16 := (HS.refl h14).upd n15 (fun j hj => (f16 j hj).trans (f15 j hj))
  have s1216 := (s13.trans s14).trans s16
  refine mk_of ?_; repeat' (first | (with_reducible first | refine gw_seq ?_ | refine gw_block ?_) | ((first | (with_reducible refine mk_to ?_) | (with_reducible first | refine gw_region ?_ | refine gw_if ?_ | refine gw_skip ?_ | refine gw_exit ?_ | refine gw_ret ?_) | ((with_reducible first | refine gif_b (fun hb => ?_) (fun hb => ?_) | refine want_t (fun hb => ?_) (fun hb => ?_) | refine want_f (fun hb => ?_) (fun hb => ?_) | refine dr_t (fun hb => ?_) (fun hb => ?_) | refine dr_f (fun hb => ?_) (fun hb => ?_)) <;> (try simp only [hb]) <;> (try simp only [hpr] at hb)) | with_reducible refine gw_draw (id := 15) [(0, []), (1, []), (2, []), (3, []), (4, []), (5, []), (6, []), (7, []), (8, [2, 6]), (9, []), (10, [])] [0, 0, 2, 6, 15, 31, 63, 0, 128, 511, 1023] mixed (by kernel_rfl) ?_) <;> try simp only [List.map, gop, ev, lk, aenv, gyield, gBin, gInt, gStrOp, gUn, gPick, gNil, gExtract, gIfc, gConvK, gIndexO, gIndexVO, gMakeV, gMinV, gMaxV, isInt, gMin, gMax, gBlt, gLenX, gCallV, gInvoke, gNilM, Array.toList_map, vcells, gField, gIndexV, gPart, reduceIte, Nat.reduceAdd, Nat.reduceSub, Nat.reduceMul, Nat.reduceLT, Nat.reduceLeDiff, Nat.reduceEqDiff, Nat.reduceBEq, Int.reduceLT, Int.reduceLE, Int.reduceGT, Int.reduceGE, Int.reduceEq, Int.reduceNe, Int.reduceAdd, Int.reduceSub, Int.reduceMul, Int.reduceNeg, Int.reduceToNat, Int.reduceBEq, Int.reduceBNe, Int.cast_ofNat_Int, List.getElem?_toArray, stp, rvOf, rvLen, wput, wlk, rdv, isEff, dsOf, sgl, stq, Try.underlying22, Try.underlying23, Try.underlying24, Try.underlying29, Try.underlying3, Try.underlying36, Try.underlying4, Try.underlying5, Try.underlying56, Try.underlying62, Try.underlying63, Try.underlying65, Try.underlying68, Try.underlying70, Try.underlying91, Try.underlying97, Try.underlying99, cv3_56, cv56_3, ty22, ty23, ty24, ty36, ty68, ty62, ty65, ty70, ty91, ty97, ty99, ty29, ty3, ty4, ty5, ty56, ty63, rs10, gload1 m16 sz24, List.getElem?_cons_zero, List.getElem?_cons_succ, gBuild, lfill, lput, Shape.pl, List.all_cons, List.all_nil, isCell]))
  refine (c_DoAsof N (x12.hs s1216) (q := ⟨3, b.1, 0, to, 0, false, 0, 0, 0, []⟩) rfl (q1.hs s16) (by simp only; omega) rfl).mono ?_
  rintro v17 h17 ⟨r17, s17⟩
  have hw : wrongF false false pmd M.length ⟨3, b.1, 0, to, 0, false, 0, 0, 0, []⟩ = 0 := by
    unfold wrongF
    rw [if_neg, if_neg, if_neg, if_neg]
    · simp
    · simp
    · simp only; omega
    · simp only [Bool.false_eq_true, false_and, or_false]; omega
  rw [if_pos hw] at r17
  unfold asofA at r17
  rw [hat] at r17
  obtain ⟨t1, t2, t3, t4, t5, t6, rfl, rk17, _⟩ := r17
  simp only at rk17
  refine mk_of ?_; repeat' (first | (with_reducible first | refine gw_seq ?_ | refine gw_block ?_) | ((first | (with_reducible refine mk_to ?_) | (with_reducible first | refine gw_region ?_ | refine gw_if ?_ | refine gw_skip ?_ | refine gw_exit ?_ | refine gw_ret ?_) | ((with_reducible first | refine gif_b (fun hb => ?_) (fun hb => ?_) | refine want_t (fun hb => ?_) (fun hb => ?_) | refine want_f (fun hb => ?_) (fun hb => ?_) | refine dr_t (fun hb => ?_) (fun hb => ?_) | refine dr_f (fun hb => ?_) (fun hb => ?_)) <;> (try simp only [hb]) <;> (try simp only [hpr] at hb)) | with_reducible refine gw_draw (id := 15) [(0, []), (1, []), (2, []), (3, []), (4, []), (5, []), (6, []), (7, []), (8, [2, 6]), (9, []), (10, [])] [0, 0, 2, 6, 15, 31, 63, 0, 128, 511, 1023] mixed (by kernel_rfl) ?_) <;> try simp only [List.map, gop, ev, lk, aenv, gyield, gBin, gInt, gStrOp, gUn, gPick, gNil, gExtract, gIfc, gConvK, gIndexO, gIndexVO, gMakeV, gMinV, gMaxV, isInt, gMin, gMax, gBlt, gLenX, gCallV, gInvoke, gNilM, Array.toList_map, vcells, gField, gIndexV, gPart, reduceIte, Nat.reduceAdd, Nat.reduceSub, Nat.reduceMul, Nat.reduceLT, Nat.reduceLeDiff, Nat.reduceEqDiff, Nat.reduceBEq, Int.reduceLT, Int.reduceLE, Int.reduceGT, Int.reduceGE, Int.reduceEq, Int.reduceNe, Int.reduceAdd, Int.reduceSub, Int.reduceMul, Int.reduceNeg, Int.reduceToNat, Int.reduceBEq, Int.reduceBNe, Int.cast_ofNat_Int, List.getElem?_toArray, stp, rvOf, rvLen, wput, wlk, rdv, isEff, dsOf, sgl, stq, Try.underlying22, Try.underlying23, Try.underlying24, Try.underlying29, Try.underlying3, Try.underlying36, Try.underlying4, Try.underlying5, Try.underlying56, Try.underlying62, Try.underlying63, Try.underlying65, Try.underlying68, Try.underlying70, Try.underlying91, Try.underlying97, Try.underlying99, cv3_56, cv56_3, ty22, ty23, ty24, ty36, ty68, ty62, ty65, ty70, ty91, ty97, ty99, ty29, ty3, ty4, ty5, ty56, ty63, rs10]))
  refine new_g fun k18 h18 m18 s18 f18 n18 => ?_
  refine mk_of ?_; repeat' (first | (with_reducible first | refine gw_seq ?_ | refine gw_block ?_) | ((first | (with_reducible refine mk_to ?_) | (with_reducible first | refine gw_region ?_ | refine gw_if ?_ | refine gw_skip ?_ | refine gw_exit ?_ | refine gw_ret ?_) | ((with_reducible first | refine gif_b (fun hb => ?_) (fun hb => ?_) | refine want_t (fun hb => ?_) (fun hb => ?_) | refine want_f (fun hb => ?_) (fun hb => ?_) | refine dr_t (fun hb => ?_) (fun hb => ?_) | refine dr_f (fun hb => ?_) (fun hb => ?_)) <;> (try simp only [hb]) <;> (try simp only [hpr] at hb)) | with_reducible refine gw_draw (id := 15) [(0, []), (1, []), (2, []), (3, []), (4, []), (5, []), (6, []), (7, []), (8, [2, 6]), (9, []), (10, [])] [0, 0, 2, 6, 15, 31, 63, 0, 128, 511, 1023] mixed (by kernel_rfl) ?_) <;> try simp only [List.map, gop, ev, lk, aenv, gyield, gBin, gInt, gStrOp, gUn, gPick, gNil, gExtract, gIfc, gConvK, gIndexO, gIndexVO, gMakeV, gMinV, gMaxV, isInt, gMin, gMax, gBlt, gLenX, gCallV, gInvoke, gNilM, Array.toList_map, vcells, gField, gIndexV, gPart, reduceIte, Nat.reduceAdd, Nat.reduceSub, Nat.reduceMul, Nat.reduceLT, Nat.reduceLeDiff, Nat.reduceEqDiff, Nat.reduceBEq, Int.reduceLT, Int.reduceLE, Int.reduceGT, Int.reduceGE, Int.reduceEq, Int.reduceNe, Int.reduceAdd, Int.reduceSub, Int.reduceMul, Int.reduceNeg, Int.reduceToNat, Int.reduceBEq, Int.reduceBNe, Int.cast_ofNat_Int, List.getElem?_toArray, stp, rvOf, rvLen, wput, wlk, rdv, isEff, dsOf, sgl, stq, Try.underlying22, Try.underlying23, Try.underlying24, Try.underlying29, Try.underlying3, Try.underlying36, Try.underlying4, Try.underlying5, Try.underlying56, Try.underlying62, Try.underlying63, Try.underlying65, Try.underlying68, Try.underlying70, Try.underlying91, Try.underlying97, Try.underlying99, cv3_56, cv56_3, ty22, ty23, ty24, ty36, ty68, ty62, ty65, ty70, ty91, ty97, ty99, ty29, ty3, ty4, ty5, ty56, ty63, rs10]))
  refine st_all m18 sz70 rfl (by decide) rfl rfl rfl fun h19 m19 f19 => ?_
  have s19 : HS h17 h19 := (HS.refl h17).upd n18 (fun j hj => (f19 j hj).trans (f18 j hj))
  have m1619 := s19 _ _ (s17 _ _ m16)
  have s1219 := (s1216.trans s17).trans s19
  have ig19 := ig12.hs s1219
  have q119 := ((q1.hs s16).hs s17).hs s19
  have rk19 := rk17.hs s19
  refine mk_of ?_; repeat' (first | (with_reducible first | refine gw_seq ?_ | refine gw_block ?_) | ((first | (with_reducible refine mk_to ?_) | (with_reducible first | refine gw_region ?_ | refine gw_if ?_ | refine gw_skip ?_ | refine gw_exit ?_ | refine gw_ret ?_) | ((with_reducible first | refine gif_b (fun hb => ?_) (fun hb => ?_) | refine want_t (fun hb => ?_) (fun hb => ?_) | refine want_f (fun hb => ?_) (fun hb => ?_) | refine dr_t (fun hb => ?_) (fun hb => ?_) | refine dr_f (fun hb => ?_) (fun hb => ?_)) <;> (try simp only [hb]) <;> (try simp only [hpr] at hb)) | with_reducible refine gw_draw (id := 15) [(0, []), (1, []), (2, []), (3, []), (4, []), (5, []), (6, []), (7, []), (8, [2, 6]), (9, []), (10, [])] [0, 0, 2, 6, 15, 31, 63, 0, 128, 511, 1023] mixed (by kernel_rfl) ?_) <;> try simp only [List.map, gop, ev, lk, aenv, gyield, gBin, gInt, gStrOp, gUn, gPick, gNil, gExtract, gIfc, gConvK, gIndexO, gIndexVO, gMakeV, gMinV, gMaxV, isInt, gMin, gMax, gBlt, gLenX, gCallV, gInvoke, gNilM, Array.toList_map, vcells, gField, gIndexV, gPart, reduceIte, Nat.reduceAdd, Nat.reduceSub, Nat.reduceMul, Nat.reduceLT, Nat.reduceLeDiff, Nat.reduceEqDiff, Nat.reduceBEq, Int.reduceLT, Int.reduceLE, Int.reduceGT, Int.reduceGE, Int.reduceEq, Int.reduceNe, Int.reduceAdd, Int.reduceSub, Int.reduceMul, Int.reduceNeg, Int.reduceToNat, Int.reduceBEq, Int.reduceBNe, Int.cast_ofNat_Int, List.getElem?_toArray, stp, rvOf, rvLen, wput, wlk, rdv, isEff, dsOf, sgl, stq, Try.underlying22, Try.underlying23, Try.underlying24, Try.underlying29, Try.underlying3, Try.underlying36, Try.underlying4, Try.underlying5, Try.underlying56, Try.underlying62, Try.underlying63, Try.underlying65, Try.underlying68, Try.underlying70, Try.underlying91, Try.underlying97, Try.underlying99, cv3_56, cv56_3, ty22, ty23, ty24, ty36, ty68, ty62, ty65, ty70, ty91, ty97, ty99, ty29, ty3, ty4, ty5, ty56, ty63, rs10]))
  refine gw_loop2 [1, 2, 8, 9, 12, 14, 16, 17, 101, 102, 103, 106, 107, 108, 109, 110, 111, 112, 113, 114, 115, 116, 117, 118, 119, 120, 121] (fun (w : Nat × Nat) => [(18, .int .i64 (w.2 : Int)), (122, .int .i64 (w.1 : Int))])
    (fun q w h' => L.length - w.1 = q ∧ w.1 ≤ L.length ∧ HS h19 h' ∧ w.2 = ((L.take w.1).filter (prd b.1 key ep fr)).length) L.length (0, 0) (by simp [lk]) ⟨by simp, by simp, HS.refl _, by simp⟩ ?_
  rintro _ ⟨u, cn⟩ h20 ⟨rfl, hu, s20, hcn⟩
  simp only at hu hcn
  by_cases hul : u < L.length
  case neg =>
    have d9 : decide ((u : Int) < (L.length : Int)) = false := decide_eq_false (by omega)
    have hz : ((b.1, key), ep) ∈ L := by
      rw [D.mem]
      unfold dsel
      rw [hq0]
      simp only [hat]
      rw [if_pos ⟨by omega, by simp⟩]
    have h1 : cn = 1 := by
      rw [hcn, List.take_of_length_le (by omega)]
      refine cnt_one (z := ((b.1, key), ep)) ?_ (fun y hy => ?_) hndL hz
      · simp only [prd, beq_self_eq_true, Bool.and_self, Bool.true_and, decide_eq_true_eq]
        omega
      · simp only [prd, Bool.and_eq_true, beq_iff_eq] at hy
        exact hy.1.1.1
    subst h1
    have d10 : (((1 : Nat) : Int) != 1) = false := rfl
    refine mk_of ?_; repeat' (first | (with_reducible first | refine gw_seq ?_ | refine gw_block ?_) | ((first | (with_reducible refine mk_to ?_) | (with_reducible first | refine gw_region ?_ | refine gw_if ?_ | refine gw_skip ?_ | refine gw_exit ?_ | refine gw_ret ?_) | ((with_reducible first | refine gif_b (fun hb => ?_) (fun hb => ?_) | refine want_t (fun hb => ?_) (fun hb => ?_) | refine want_f (fun hb => ?_) (fun hb => ?_) | refine dr_t (fun hb => ?_) (fun hb => ?_) | refine dr_f (fun hb => ?_) (fun hb => ?_)) <;> (try simp only [hb]) <;> (try simp only [hpr] at hb)) | with_reducible refine gw_draw (id := 15) [(0, []), (1, []), (2, []), (3, []), (4, []), (5, []), (6, []), (7, []), (8, [2, 6]), (9, []), (10, [])] [0, 0, 2, 6, 15, 31, 63, 0, 128, 511, 1023] mixed (by kernel_rfl) ?_) <;> try simp only [List.map, gop, ev, lk, aenv, gyield, gBin, gInt, gStrOp, gUn, gPick, gNil, gExtract, gIfc, gConvK, gIndexO, gIndexVO, gMakeV, gMinV, gMaxV, isInt, gMin, gMax, gBlt, gLenX, gCallV, gInvoke, gNilM, Array.toList_map, vcells, gField, gIndexV, gPart, reduceIte, Nat.reduceAdd, Nat.reduceSub, Nat.reduceMul, Nat.reduceLT, Nat.reduceLeDiff, Nat.reduceEqDiff, Nat.reduceBEq, Int.reduceLT, Int.reduceLE, Int.reduceGT, Int.reduceGE, Int.reduceEq, Int.reduceNe, Int.reduceAdd, Int.reduceSub, Int.reduceMul, Int.reduceNeg, Int.reduceToNat, Int.reduceBEq, Int.reduceBNe, Int.cast_ofNat_Int, List.getElem?_toArray, stp, rvOf, rvLen, wput, wlk, rdv, isEff, dsOf, sgl, stq, Try.underlying22, Try.underlying23, Try.underlying24, Try.underlying29, Try.underlying3, Try.underlying36, Try.underlying4, Try.underlying5, Try.underlying56, Try.underlying62, Try.underlying63, Try.underlying65, Try.underlying68, Try.underlying70, Try.underlying91, Try.underlying97, Try.underlying99, cv3_56, cv56_3, ty22, ty23, ty24, ty36, ty68, ty62, ty65, ty70, ty91, ty97, ty99, ty29, ty3, ty4, ty5, ty56, ty63, rs10, d9, d10, wi]))
    exact ⟨_, i + 1, by omega, (by simp only [List.forall_mem_cons, List.not_mem_nil, false_implies, implies_true, List.map, List.cons_append, List.nil_append, lk, Nat.reduceEqDiff, reduceIte, and_true, true_and]), rfl, by omega, ((((s14.trans s16).trans s17).trans s19).trans s20)⟩
  have d9 : decide ((u : Int) < (L.length : Int)) = true := decide_eq_true (by omega)
  have wu : IntKind.i64.wrap ((u : Int) + 1) = ((u + 1 : Nat) : Int) := by rw [wrap64 (by omega) (by omega)]; omega
  obtain ⟨w, hw⟩ := get_lt hul
  have hcnl : cn ≤ u := by
    rw [hcn]
    refine Nat.le_trans (List.length_filter_le _ _) ?_
    rw [List.length_take]; omega
  have wc : IntKind.i64.wrap ((cn : Int) + 1) = ((cn + 1 : Nat) : Int) := by rw [wrap64 (by omega) (by omega)]; omega
  have hti : L.take (u + 1) = L.take u ++ [w] := by rw [List.take_add_one, hw]; rfl
  obtain ⟨ad2, cy, g3, g4, ay, cy', by_, dy, rfl, ry1, ry2⟩ := (ig19.hs s20).rl.at (P := Try.prog) Try.underlying68 sz97 hw
  have l2 : gLoad Try.prog 97 h20 (.pointer (some ad2)) = some (.agg #[.slice ay w.1.1.length cy', .slice by_ w.1.2.length dy, .int .i64 (w.2 : Int)]) := by simp only [gLoad, sz97, g4]; rfl
  refine mk_of ?_; repeat' (first | (with_reducible first | refine gw_seq ?_ | refine gw_block ?_) | ((first | (with_reducible refine mk_to ?_) | (with_reducible first | refine gw_region ?_ | refine gw_if ?_ | refine gw_skip ?_ | refine gw_exit ?_ | refine gw_ret ?_) | ((with_reducible first | refine gif_b (fun hb => ?_) (fun hb => ?_) | refine want_t (fun hb => ?_) (fun hb => ?_) | refine want_f (fun hb => ?_) (fun hb => ?_) | refine dr_t (fun hb => ?_) (fun hb => ?_) | refine dr_f (fun hb => ?_) (fun hb => ?_)) <;> (try simp only [hb]) <;> (try simp only [hpr] at hb)) | with_reducible refine gw_draw (id := 15) [(0, []), (1, []), (2, []), (3, []), (4, []), (5, []), (6, []), (7, []), (8, [2, 6]), (9, []), (10, [])] [0, 0, 2, 6, 15, 31, 63, 0, 128, 511, 1023] mixed (by kernel_rfl) ?_) <;> try simp only [List.map, gop, ev, lk, aenv, gyield, gBin, gInt, gStrOp, gUn, gPick, gNil, gExtract, gIfc, gConvK, gIndexO, gIndexVO, gMakeV, gMinV, gMaxV, isInt, gMin, gMax, gBlt, gLenX, gCallV, gInvoke, gNilM, Array.toList_map, vcells, gField, gIndexV, gPart, reduceIte, Nat.reduceAdd, Nat.reduceSub, Nat.reduceMul, Nat.reduceLT, Nat.reduceLeDiff, Nat.reduceEqDiff, Nat.reduceBEq, Int.reduceLT, Int.reduceLE, Int.reduceGT, Int.reduceGE, Int.reduceEq, Int.reduceNe, Int.reduceAdd, Int.reduceSub, Int.reduceMul, Int.reduceNeg, Int.reduceToNat, Int.reduceBEq, Int.reduceBNe, Int.cast_ofNat_Int, List.getElem?_toArray, stp, rvOf, rvLen, wput, wlk, rdv, isEff, dsOf, sgl, stq, Try.underlying22, Try.underlying23, Try.underlying24, Try.underlying29, Try.underlying3, Try.underlying36, Try.underlying4, Try.underlying5, Try.underlying56, Try.underlying62, Try.underlying63, Try.underlying65, Try.underlying68, Try.underlying70, Try.underlying91, Try.underlying97, Try.underlying99, cv3_56, cv56_3, ty22, ty23, ty24, ty36, ty68, ty62, ty65, ty70, ty91, ty97, ty99, ty29, ty3, ty4, ty5, ty56, ty63, rs10, d9, g3, l2]))
  refine new_g fun k21 h21 m21 s21 f21 n21 => ?_
  refine mk_of ?_; repeat' (first | (with_reducible first | refine gw_seq ?_ | refine gw_block ?_) | ((first | (with_reducible refine mk_to ?_) | (with_reducible first | refine gw_region ?_ | refine gw_if ?_ | refine gw_skip ?_ | refine gw_exit ?_ | refine gw_ret ?_) | ((with_reducible first | refine gif_b (fun hb => ?_) (fun hb => ?_) | refine want_t (fun hb => ?_) (fun hb => ?_) | refine want_f (fun hb => ?_) (fun hb => ?_) | refine dr_t (fun hb => ?_) (fun hb => ?_) | refine dr_f (fun hb => ?_) (fun hb => ?_)) <;> (try simp only [hb]) <;> (try simp only [hpr] at hb)) | with_reducible refine gw_draw (id := 15) [(0, []), (1, []), (2, []), (3, []), (4, []), (5, []), (6, []), (7, []), (8, [2, 6]), (9, []), (10, [])] [0, 0, 2, 6, 15, 31, 63, 0, 128, 511, 1023] mixed (by kernel_rfl) ?_) <;> try simp only [List.map, gop, ev, lk, aenv, gyield, gBin, gInt, gStrOp, gUn, gPick, gNil, gExtract, gIfc, gConvK, gIndexO, gIndexVO, gMakeV, gMinV, gMaxV, isInt, gMin, gMax, gBlt, gLenX, gCallV, gInvoke, gNilM, Array.toList_map, vcells, gField, gIndexV, gPart, reduceIte, Nat.reduceAdd, Nat.reduceSub, Nat.reduceMul, Nat.reduceLT, Nat.reduceLeDiff, Nat.reduceEqDiff, Nat.reduceBEq, Int.reduceLT, Int.reduceLE, Int.reduceGT, Int.reduceGE, Int.reduceEq, Int.reduceNe, Int.reduceAdd, Int.reduceSub, Int.reduceMul, Int.reduceNeg, Int.reduceToNat, Int.reduceBEq, Int.reduceBNe, Int.cast_ofNat_Int, List.getElem?_toArray, stp, rvOf, rvLen, wput, wlk, rdv, isEff, dsOf, sgl, stq, Try.underlying22, Try.underlying23, Try.underlying24, Try.underlying29, Try.underlying3, Try.underlying36, Try.underlying4, Try.underlying5, Try.underlying56, Try.underlying62, Try.underlying63, Try.underlying65, Try.underlying68, Try.underlying70, Try.underlying91, Try.underlying97, Try.underlying99, cv3_56, cv56_3, ty22, ty23, ty24, ty36, ty68, ty62, ty65, ty70, ty91, ty97, ty99, ty29, ty3, ty4, ty5, ty56, ty63, rs10]))
  refine st_all m21 sz97 rfl (by decide) rfl rfl rfl fun h22 m22 f22 => ?_
  have s22 : HS h20 h22 := (HS.refl h20).upd n21 (fun j hj => (f22 j hj).trans (f21 j hj))
  have s1922 := s20.trans s22
  have m1622 := s1922 _ _ m1619
  have m1922 := s1922 _ _ m19
  have hwat := (D.len w (List.mem_of_getElem? hw)).2
  have hk24 : w.1.1.length ≤ 140737488355328 ∧ w.1.2.length ≤ 140737488355328 := ⟨by have := IM.short x12 hwat; omega, IM.keyl x12 hwat⟩
  cases hE1 : (w.1.1 == b.1)
  case false =>
    have hp : prd b.1 key ep fr w = false := by simp only [prd, hE1, Bool.false_and]
    refine mk_of ?_; repeat' (first | (with_reducible first | refine gw_seq ?_ | refine gw_block ?_) | ((first | (with_reducible refine mk_to ?_) | (with_reducible first | refine gw_region ?_ | refine gw_if ?_ | refine gw_skip ?_ | refine gw_exit ?_ | refine gw_ret ?_) | ((with_reducible first | refine gif_b (fun hb => ?_) (fun hb => ?_) | refine want_t (fun hb => ?_) (fun hb => ?_) | refine want_f (fun hb => ?_) (fun hb => ?_) | refine dr_t (fun hb => ?_) (fun hb => ?_) | refine dr_f (fun hb => ?_) (fun hb => ?_)) <;> (try simp only [hb]) <;> (try simp only [hpr] at hb)) | with_reducible refine gw_draw (id := 15) [(0, []), (1, []), (2, []), (3, []), (4, []), (5, []), (6, []), (7, []), (8, [2, 6]), (9, []), (10, [])] [0, 0, 2, 6, 15, 31, 63, 0, 128, 511, 1023] mixed (by kernel_rfl) ?_ | ((refine GTri.mono (c_SEq N h22 (ry1.hs s22) (q119.hs s1922) hk24.1) ?_); rintro _ _ ⟨rfl, hh9⟩; replace hh9 := hh9.symm; subst hh9) | ((refine GTri.mono (c_SEq N h22 (ry2.hs s22) (rk19.hs s1922) hk24.2) ?_); rintro _ _ ⟨rfl, hh9⟩; replace hh9 := hh9.symm; subst hh9)) <;> try simp only [List.map, gop, ev, lk, aenv, gyield, gBin, gInt, gStrOp, gUn, gPick, gNil, gExtract, gIfc, gConvK, gIndexO, gIndexVO, gMakeV, gMinV, gMaxV, isInt, gMin, gMax, gBlt, gLenX, gCallV, gInvoke, gNilM, Array.toList_map, vcells, gField, gIndexV, gPart, reduceIte, Nat.reduceAdd, Nat.reduceSub, Nat.reduceMul, Nat.reduceLT, Nat.reduceLeDiff, Nat.reduceEqDiff, Nat.reduceBEq, Int.reduceLT, Int.reduceLE, Int.reduceGT, Int.reduceGE, Int.reduceEq, Int.reduceNe, Int.reduceAdd, Int.reduceSub, Int.reduceMul, Int.reduceNeg, Int.reduceToNat, Int.reduceBEq, Int.reduceBNe, Int.cast_ofNat_Int, List.getElem?_toArray, stp, rvOf, rvLen, wput, wlk, rdv, isEff, dsOf, sgl, stq, Try.underlying22, Try.underlying23, Try.underlying24, Try.underlying29, Try.underlying3, Try.underlying36, Try.underlying4, Try.underlying5, Try.underlying56, Try.underlying62, Try.underlying63, Try.underlying65, Try.underlying68, Try.underlying70, Try.underlying91, Try.underlying97, Try.underlying99, cv3_56, cv56_3, ty22, ty23, ty24, ty36, ty68, ty62, ty65, ty70, ty91, ty97, ty99, ty29, ty3, ty4, ty5, ty56, ty63, rs10, hE1, gPick, wu, wc, gload1 m22 sz24, gload1 m22 sz3, gload1 m1922 sz24, gload1 m1922 sz3, gload1 m1622 sz24, List.getElem?_cons_zero, List.getElem?_cons_succ]))
    exact ⟨_, (u + 1, cn), by simp only; omega, (by simp only [List.forall_mem_cons, List.not_mem_nil, false_implies, implies_true, List.map, List.cons_append, List.nil_append, lk, Nat.reduceEqDiff, reduceIte, and_true, true_and]), rfl, by simp only; omega, s1922, by simp only; rw [hti, List.filter_append, List.length_append, ← hcn, List.filter_cons, if_neg (by rw [hp]; simp)]; rfl⟩
  cases hE2 : (w.1.2 == key)
  case false =>
    have hp : prd b.1 key ep fr w = false := by simp only [prd, hE2, Bool.and_false, Bool.false_and]
    refine mk_of ?_; repeat' (first | (with_reducible first | refine gw_seq ?_ | refine gw_block ?_) | ((first | (with_reducible refine mk_to ?_) | (with_reducible first | refine gw_region ?_ | refine gw_if ?_ | refine gw_skip ?_ | refine gw_exit ?_ | refine gw_ret ?_) | ((with_reducible first | refine gif_b (fun hb => ?_) (fun hb => ?_) | refine want_t (fun hb => ?_) (fun hb => ?_) | refine want_f (fun hb => ?_) (fun hb => ?_) | refine dr_t (fun hb => ?_) (fun hb => ?_) | refine dr_f (fun hb => ?_) (fun hb => ?_)) <;> (try simp only [hb]) <;> (try simp only [hpr] at hb)) | with_reducible refine gw_draw (id := 15) [(0, []), (1, []), (2, []), (3, []), (4, []), (5, []), (6, []), (7, []), (8, [2, 6]), (9, []), (10, [])] [0, 0, 2, 6, 15, 31, 63, 0, 128, 511, 1023] mixed (by kernel_rfl) ?_ | ((refine GTri.mono (c_SEq N h22 (ry1.hs s22) (q119.hs s1922) hk24.1) ?_); rintro _ _ ⟨rfl, hh9⟩; replace hh9 := hh9.symm; subst hh9) | ((refine GTri.mono (c_SEq N h22 (ry2.hs s22) (rk19.hs s1922) hk24.2) ?_); rintro _ _ ⟨rfl, hh9⟩; replace hh9 := hh9.symm; subst hh9)) <;> try simp only [List.map, gop, ev, lk, aenv, gyield, gBin, gInt, gStrOp, gUn, gPick, gNil, gExtract, gIfc, gConvK, gIndexO, gIndexVO, gMakeV, gMinV, gMaxV, isInt, gMin, gMax, gBlt, gLenX, gCallV, gInvoke, gNilM, Array.toList_map, vcells, gField, gIndexV, gPart, reduceIte, Nat.reduceAdd, Nat.reduceSub, Nat.reduceMul, Nat.reduceLT, Nat.reduceLeDiff, Nat.reduceEqDiff, Nat.reduceBEq, Int.reduceLT, Int.reduceLE, Int.reduceGT, Int.reduceGE, Int.reduceEq, Int.reduceNe, Int.reduceAdd, Int.reduceSub, Int.reduceMul, Int.reduceNeg, Int.reduceToNat, Int.reduceBEq, Int.reduceBNe, Int.cast_ofNat_Int, List.getElem?_toArray, stp, rvOf, rvLen, wput, wlk, rdv, isEff, dsOf, sgl, stq, Try.underlying22, Try.underlying23, Try.underlying24, Try.underlying29, Try.underlying3, Try.underlying36, Try.underlying4, Try.underlying5, Try.underlying56, Try.underlying62, Try.underlying63, Try.underlying65, Try.underlying68, Try.underlying70, Try.underlying91, Try.underlying97, Try.underlying99, cv3_56, cv56_3, ty22, ty23, ty24, ty36, ty68, ty62, ty65, ty70, ty91, ty97, ty99, ty29, ty3, ty4, ty5, ty56, ty63, rs10, hE1, hE2, gPick, wu, wc, gload1 m22 sz24, gload1 m22 sz3, gload1 m1922 sz24, gload1 m1922 sz3, gload1 m1622 sz24, List.getElem?_cons_zero, List.getElem?_cons_succ]))
    exact ⟨_, (u + 1, cn), by simp only; omega, (by simp only [List.forall_mem_cons, List.not_mem_nil, false_implies, implies_true, List.map, List.cons_append, List.nil_append, lk, Nat.reduceEqDiff, reduceIte, and_true, true_and]), rfl, by simp only; omega, s1922, by simp only; rw [hti, List.filter_append, List.length_append, ← hcn, List.filter_cons, if_neg (by rw [hp]; simp)]; rfl⟩
  cases hE3 : ((w.2 : Int) == (ep : Int))
  case false =>
    have hp : prd b.1 key ep fr w = false := by simp only [prd, hE3, Bool.and_false, Bool.false_and]
    refine mk_of ?_; repeat' (first | (with_reducible first | refine gw_seq ?_ | refine gw_block ?_) | ((first | (with_reducible refine mk_to ?_) | (with_reducible first | refine gw_region ?_ | refine gw_if ?_ | refine gw_skip ?_ | refine gw_exit ?_ | refine gw_ret ?_) | ((with_reducible first | refine gif_b (fun hb => ?_) (fun hb => ?_) | refine want_t (fun hb => ?_) (fun hb => ?_) | refine want_f (fun hb => ?_) (fun hb => ?_) | refine dr_t (fun hb => ?_) (fun hb => ?_) | refine dr_f (fun hb => ?_) (fun hb => ?_)) <;> (try simp only [hb]) <;> (try simp only [hpr] at hb)) | with_reducible refine gw_draw (id := 15) [(0, []), (1, []), (2, []), (3, []), (4, []), (5, []), (6, []), (7, []), (8, [2, 6]), (9, []), (10, [])] [0, 0, 2, 6, 15, 31, 63, 0, 128, 511, 1023] mixed (by kernel_rfl) ?_ | ((refine GTri.mono (c_SEq N h22 (ry1.hs s22) (q119.hs s1922) hk24.1) ?_); rintro _ _ ⟨rfl, hh9⟩; replace hh9 := hh9.symm; subst hh9) | ((refine GTri.mono (c_SEq N h22 (ry2.hs s22) (rk19.hs s1922) hk24.2) ?_); rintro _ _ ⟨rfl, hh9⟩; replace hh9 := hh9.symm; subst hh9)) <;> try simp only [List.map, gop, ev, lk, aenv, gyield, gBin, gInt, gStrOp, gUn, gPick, gNil, gExtract, gIfc, gConvK, gIndexO, gIndexVO, gMakeV, gMinV, gMaxV, isInt, gMin, gMax, gBlt, gLenX, gCallV, gInvoke, gNilM, Array.toList_map, vcells, gField, gIndexV, gPart, reduceIte, Nat.reduceAdd, Nat.reduceSub, Nat.reduceMul, Nat.reduceLT, Nat.reduceLeDiff, Nat.reduceEqDiff, Nat.reduceBEq, Int.reduceLT, Int.reduceLE, Int.reduceGT, Int.reduceGE, Int.reduceEq, Int.reduceNe, Int.reduceAdd, Int.reduceSub, Int.reduceMul, Int.reduceNeg, Int.reduceToNat, Int.reduceBEq, Int.reduceBNe, Int.cast_ofNat_Int, List.getElem?_toArray, stp, rvOf, rvLen, wput, wlk, rdv, isEff, dsOf, sgl, stq, Try.underlying22, Try.underlying23, Try.underlying24, Try.underlying29, Try.underlying3, Try.underlying36, Try.underlying4, Try.underlying5, Try.underlying56, Try.underlying62, Try.underlying63, Try.underlying65, Try.underlying68, Try.underlying70, Try.underlying91, Try.underlying97, Try.underlying99, cv3_56, cv56_3, ty22, ty23, ty24, ty36, ty68, ty62, ty65, ty70, ty91, ty97, ty99, ty29, ty3, ty4, ty5, ty56, ty63, rs10, hE1, hE2, hE3, gPick, wu, wc, gload1 m22 sz24, gload1 m22 sz3, gload1 m1922 sz24, gload1 m1922 sz3, gload1 m1622 sz24, List.getElem?_cons_zero, List.getElem?_cons_succ]))
    exact ⟨_, (u + 1, cn), by simp only; omega, (by simp only [List.forall_mem_cons, List.not_mem_nil, false_implies, implies_true, List.map, List.cons_append, List.nil_append, lk, Nat.reduceEqDiff, reduceIte, and_true, true_and]), rfl, by simp only; omega, s1922, by simp only; rw [hti, List.filter_append, List.length_append, ← hcn, List.filter_cons, if_neg (by rw [hp]; simp)]; rfl⟩
  cases hE4 : decide ((w.2 : Int) > (fr : Int))
  case false =>
    have hp : prd b.1 key ep fr w = false := by simp only [prd, hE4, Bool.and_false]
    refine mk_of ?_; repeat' (first | (with_reducible first | refine gw_seq ?_ | refine gw_block ?_) | ((first | (with_reducible refine mk_to ?_) | (with_reducible first | refine gw_region ?_ | refine gw_if ?_ | refine gw_skip ?_ | refine gw_exit ?_ | refine gw_ret ?_) | ((with_reducible first | refine gif_b (fun hb => ?_) (fun hb => ?_) | refine want_t (fun hb => ?_) (fun hb => ?_) | refine want_f (fun hb => ?_) (fun hb => ?_) | refine dr_t (fun hb => ?_) (fun hb => ?_) | refine dr_f (fun hb => ?_) (fun hb => ?_)) <;> (try simp only [hb]) <;> (try simp only [hpr] at hb)) | with_reducible refine gw_draw (id := 15) [(0, []), (1, []), (2, []), (3, []), (4, []), (5, []), (6, []), (7, []), (8, [2, 6]), (9, []), (10, [])] [0, 0, 2, 6, 15, 31, 63, 0, 128, 511, 1023] mixed (by kernel_rfl) ?_ | ((refine GTri.mono (c_SEq N h22 (ry1.hs s22) (q119.hs s1922) hk24.1) ?_); rintro _ _ ⟨rfl, hh9⟩; replace hh9 := hh9.symm; subst hh9) | ((refine GTri.mono (c_SEq N h22 (ry2.hs s22) (rk19.hs s1922) hk24.2) ?_); rintro _ _ ⟨rfl, hh9⟩; replace hh9 := hh9.symm; subst hh9)) <;> try simp only [List.map, gop, ev, lk, aenv, gyield, gBin, gInt, gStrOp, gUn, gPick, gNil, gExtract, gIfc, gConvK, gIndexO, gIndexVO, gMakeV, gMinV, gMaxV, isInt, gMin, gMax, gBlt, gLenX, gCallV, gInvoke, gNilM, Array.toList_map, vcells, gField, gIndexV, gPart, reduceIte, Nat.reduceAdd, Nat.reduceSub, Nat.reduceMul, Nat.reduceLT, Nat.reduceLeDiff, Nat.reduceEqDiff, Nat.reduceBEq, Int.reduceLT, Int.reduceLE, Int.reduceGT, Int.reduceGE, Int.reduceEq, Int.reduceNe, Int.reduceAdd, Int.reduceSub, Int.reduceMul, Int.reduceNeg, Int.reduceToNat, Int.reduceBEq, Int.reduceBNe, Int.cast_ofNat_Int, List.getElem?_toArray, stp, rvOf, rvLen, wput, wlk, rdv, isEff, dsOf, sgl, stq, Try.underlying22, Try.underlying23, Try.underlying24, Try.underlying29, Try.underlying3, Try.underlying36, Try.underlying4, Try.underlying5, Try.underlying56, Try.underlying62, Try.underlying63, Try.underlying65, Try.underlying68, Try.underlying70, Try.underlying91, Try.underlying97, Try.underlying99, cv3_56, cv56_3, ty22, ty23, ty24, ty36, ty68, ty62, ty65, ty70, ty91, ty97, ty99, ty29, ty3, ty4, ty5, ty56, ty63, rs10, hE1, hE2, hE3, hE4, gPick, wu, wc, gload1 m22 sz24, gload1 m22 sz3, gload1 m1922 sz24, gload1 m1922 sz3, gload1 m1622 sz24, List.getElem?_cons_zero, List.getElem?_cons_succ]))
    exact ⟨_, (u + 1, cn), by simp only; omega, (by simp only [List.forall_mem_cons, List.not_mem_nil, false_implies, implies_true, List.map, List.cons_append, List.nil_append, lk, Nat.reduceEqDiff, reduceIte, and_true, true_and]), rfl, by simp only; omega, s1922, by simp only; rw [hti, List.filter_append, List.length_append, ← hcn, List.filter_cons, if_neg (by rw [hp]; simp)]; rfl⟩
  have hp : prd b.1 key ep fr w = true := by simp only [prd, hE1, hE2, hE3, hE4, Bool.and_true]
  refine mk_of ?_; repeat' (first | (with_reducible first | refine gw_seq ?_ | refine gw_block ?_) | ((first | (with_reducible refine mk_to ?_) | (with_reducible first | refine gw_region ?_ | refine gw_if ?_ | refine gw_skip ?_ | refine gw_exit ?_ | refine gw_ret ?_) | ((with_reducible first | refine gif_b (fun hb => ?_) (fun hb => ?_) | refine want_t (fun hb => ?_) (fun hb => ?_) | refine want_f (fun hb => ?_) (fun hb => ?_) | refine dr_t (fun hb => ?_) (fun hb => ?_) | refine dr_f (fun hb => ?_) (fun hb => ?_)) <;> (try simp only [hb]) <;> (try simp only [hpr] at hb)) | with_reducible refine gw_draw (id := 15) [(0, []), (1, []), (2, []), (3, []), (4, []), (5, []), (6, []), (7, []), (8, [2, 6]), (9, []), (10, [])] [0, 0, 2, 6, 15, 31, 63, 0, 128, 511, 1023] mixed (by kernel_rfl) ?_ | ((refine GTri.mono (c_SEq N h22 (ry1.hs s22) (q119.hs s1922) hk24.1) ?_); rintro _ _ ⟨rfl, hh9⟩; replace hh9 := hh9.symm; subst hh9) | ((refine GTri.mono (c_SEq N h22 (ry2.hs s22) (rk19.hs s1922) hk24.2) ?_); rintro _ _ ⟨rfl, hh9⟩; replace hh9 := hh9.symm; subst hh9)) <;> try simp only [List.map, gop, ev, lk, aenv, gyield, gBin, gInt, gStrOp, gUn, gPick, gNil, gExtract, gIfc, gConvK, gIndexO, gIndexVO, gMakeV, gMinV, gMaxV, isInt, gMin, gMax, gBlt, gLenX, gCallV, gInvoke, gNilM, Array.toList_map, vcells, gField, gIndexV, gPart, reduceIte, Nat.reduceAdd, Nat.reduceSub, Nat.reduceMul, Nat.reduceLT, Nat.reduceLeDiff, Nat.reduceEqDiff, Nat.reduceBEq, Int.reduceLT, Int.reduceLE, Int.reduceGT, Int.reduceGE, Int.reduceEq, Int.reduceNe, Int.reduceAdd, Int.reduceSub, Int.reduceMul, Int.reduceNeg, Int.reduceToNat, Int.reduceBEq, Int.reduceBNe, Int.cast_ofNat_Int, List.getElem?_toArray, stp, rvOf, rvLen, wput, wlk, rdv, isEff, dsOf, sgl, stq, Try.underlying22, Try.underlying23, Try.underlying24, Try.underlying29, Try.underlying3, Try.underlying36, Try.underlying4, Try.underlying5, Try.underlying56, Try.underlying62, Try.underlying63, Try.underlying65, Try.underlying68, Try.underlying70, Try.underlying91, Try.underlying97, Try.underlying99, cv3_56, cv56_3, ty22, ty23, ty24, ty36, ty68, ty62, ty65, ty70, ty91, ty97, ty99, ty29, ty3, ty4, ty5, ty56, ty63, rs10, hE1, hE2, hE3, hE4, gPick, wu, wc, gload1 m22 sz24, gload1 m22 sz3, gload1 m1922 sz24, gload1 m1922 sz3, gload1 m1622 sz24, List.getElem?_cons_zero, List.getElem?_cons_succ]))
  exact ⟨_, (u + 1, cn + 1), by simp only; omega, (by simp only [List.forall_mem_cons, List.not_mem_nil, false_implies, implies_true, List.map, List.cons_append, List.nil_append, lk, Nat.reduceEqDiff, reduceIte, and_true, true_and]), rfl, by simp only; omega, s1922, by simp only; rw [hti, List.filter_append, List.length_append, ← hcn, List.filter_cons, if_pos hp]; rfl⟩
end Go.Gh

