/- A framework of this claim's proof, part 12. Results, bytes, and what is kept. No statement of the claim stands here. -/
import Derived.Test.YtlobmpkfdnifpaaGh11
namespace Go.Gh
open Go Go.RowKit
set_option linter.unusedVariables false
set_option linter.unusedSimpArgs false

/-! ## Ends of functions -/
def gretK (P : Program) (e : Env) (h : GH) (res : List ResultVar) (Q : Value → GH → Prop) : Prop := ∃ l, gress P e h res = some l ∧ Q (gone l) h
section
variable {P : Program} {res : Array ResultVar} {Q : Value → GH → Prop} {e : Env} {h : GH} {N nt : Nat}
theorem retQ_r : retQ P res Q .ret e h = gretK P e h res.toList Q := by simp [retQ, gretK]
theorem retQ_n : retQ P res Q .normal e h = gretK P e h res.toList Q := by simp [retQ, gretK]
theorem gret_0 : gretK P e h [] Q = Q (.tuple #[]) h := by simp [gretK, gress, gone]
theorem gret_1 (t : Nat) : gretK P e h [.tmp t] Q = Q (lk e t) h := by simp [gretK, gress, gone]
theorem gret_2 (t u : Nat) : gretK P e h [.tmp t, .tmp u] Q = Q (.tuple #[lk e t, lk e u]) h := by simp [gretK, gress, gone]
theorem gret_3 (t u v : Nat) : gretK P e h [.tmp t, .tmp u, .tmp v] Q = Q (.tuple #[lk e t, lk e u, lk e v]) h := by simp [gretK, gress, gone]
theorem gret_c (a ty : Nat) : gretK P e h [.cell a ty] Q = optK (gLoad P ty h (lk e a)) h Q := by
  unfold gretK optK
  apply propext
  constructor
  · rintro ⟨l, h1, h2⟩
    simp only [gress] at h1
    split at h1
    · rename_i v l' hv hl
      cases hl; cases h1
      exact ⟨v, hv, h2⟩
    · cases h1
  · rintro ⟨v, h1, h2⟩
    exact ⟨[v], by simp [gress, h1], h2⟩
theorem gret_c1 (a ty t : Nat) : gretK P e h [.cell a ty, .tmp t] Q = optK ((gLoad P ty h (lk e a)).map fun v => .tuple #[v, lk e t]) h Q := by
  unfold gretK optK
  apply propext
  constructor
  · rintro ⟨l, h1, h2⟩
    simp only [gress, Option.map_some] at h1
    split at h1
    · rename_i v l' hv hl
      cases hl; cases h1
      exact ⟨_, by rw [hv]; rfl, h2⟩
    · cases h1
  · rintro ⟨v, h1, h2⟩
    simp only [Option.map_eq_some_iff] at h1
    obtain ⟨v0, h1, rfl⟩ := h1
    exact ⟨[v0, lk e t], by simp [gress, h1], h2⟩
theorem gret_c2 (a ty t u : Nat) : gretK P e h [.cell a ty, .tmp t, .tmp u] Q = optK ((gLoad P ty h (lk e a)).map fun v => .tuple #[v, lk e t, lk e u]) h Q := by
  unfold gretK optK
  apply propext
  constructor
  · rintro ⟨l, h1, h2⟩
    simp only [gress, Option.map_some] at h1
    split at h1
    · rename_i v l' hv hl
      cases hl; cases h1
      exact ⟨_, by rw [hv]; rfl, h2⟩
    · cases h1
  · rintro ⟨v, h1, h2⟩
    simp only [Option.map_eq_some_iff] at h1
    obtain ⟨v0, h1, rfl⟩ := h1
    exact ⟨[v0, lk e t, lk e u], by simp [gress, h1], h2⟩

theorem want_split {b w : Bool} {ds : List (Option Tmp)} {r : List Oper} {K : Env → GH → Prop} {d : Option Tmp} {op : Op} (ht : b = w → gop P N e h (kops P N ds r K e d) op) (hf : b = (!w) → kops P N ds r K e d UD h) : wantK (some b) w P N ds r K e h d op := by
  refine ⟨b, rfl, ?_⟩
  by_cases hb : b = w
  · rw [if_pos hb]; exact ht hb
  · rw [if_neg hb]; exact hf (by cases b <;> cases w <;> simp_all)

/-- What is known of the temporaries, pruned to some of them. -/
theorem gw_env {c : Code} {Q : GQ} (e' : Env) (he : ∀ p ∈ e', lk e p.1 = p.2) (g : GW P N nt c Q e' h) : GW P N nt c Q e h := by
  refine gw_weak (fun i => ?_) g
  have : ∀ (l : Env), (∀ p ∈ l, lk e p.1 = p.2) → lk l i = U ∨ lk l i = lk e i := by
    intro l hl
    induction l with
    | nil => exact .inl rfl
    | cons p l ih =>
      obtain ⟨j, v⟩ := p
      simp only [lk]
      by_cases hj : j = i
      · rw [if_pos hj]
        have := hl (j, v) (by simp)
        simp only at this
        exact .inr (by rw [← hj]; exact this.symm)
      · rw [if_neg hj]
        exact ih fun p hp => hl p (by simp [hp])
  exact this e' he
theorem sub_of {e' e : Env} (he : ∀ p ∈ e', lk e p.1 = p.2) : Sub e' e := by
  intro i
  have : ∀ (l : Env), (∀ p ∈ l, lk e p.1 = p.2) → lk l i = U ∨ lk l i = lk e i := by
    intro l hl
    induction l with
    | nil => exact .inl rfl
    | cons p l ih =>
      obtain ⟨j, v⟩ := p
      simp only [lk]
      by_cases hj : j = i
      · rw [if_pos hj]
        have := hl (j, v) (by simp)
        simp only at this
        exact .inr (by rw [← hj]; exact this.symm)
      · rw [if_neg hj]
        exact ih fun p hp => hl p (by simp [hp])
  exact this e' he
end

/-! ## Memory that has grown -/

/-- All that was is as it was. -/
def HS (h h' : GH) : Prop := ∀ k B, h k = some B → h' k = some B
/-- All cells that were are as they were. -/
def HC (h h' : GH) : Prop := ∀ k B, h k = some B → ∃ B', h' k = some B' ∧ B'.cells = B.cells ∧ B'.es = B.es ∧ (B'.wr = true → B.wr = true)
theorem HS.refl (h : GH) : HS h h := fun _ _ e => e
theorem HS.trans {a b c : GH} (x : HS a b) (y : HS b c) : HS a c := fun k B e => y k B (x k B e)
theorem HS.hc {a b : GH} (x : HS a b) : HC a b := fun k B e => ⟨B, x k B e, rfl, rfl, id⟩
theorem HC.refl (h : GH) : HC h h := (HS.refl h).hc
theorem HC.trans {a b c : GH} (x : HC a b) (y : HC b c) : HC a c := fun k B e => by
  obtain ⟨B1, h1, h2, h3, w1⟩ := x k B e
  obtain ⟨B2, h4, h5, h6, w2⟩ := y k B1 h1
  exact ⟨B2, h4, h5.trans h2, h6.trans h3, fun w => w1 (w2 w)⟩
theorem HS.new {h : GH} {k : Nat} (hk : h k = none) (B : GB) : HS h (hset h k B) := fun j C e => by
  have : j ≠ k := fun ee => by rw [ee, hk] at e; cases e
  rw [hset_ne _ _ this]; exact e
theorem HS.none_of {a b : GH} (x : HS a b) {k : Nat} (h : b k = none) : a k = none := by
  cases hk : a k with
  | none => rfl
  | some B => have := x k B hk; rw [h] at this; cases this

theorem gread_hc {h h' : GH} (x : HC h h') {a : Addr} {n : Nat} {cs : List Value} (e : gread h a n = some cs) : gread h' a n = some cs := by
  unfold gread at e ⊢
  split at e
  · rename_i h0; rw [if_pos h0]; exact e
  · rename_i h0
    rw [if_neg h0]
    split at e
    case h_2 => cases e
    rename_i B hs hB
    obtain ⟨B', h1, h2, h3⟩ := x _ _ hB
    rw [hs, h1]
    simp only [h2]
    exact e

/-! ## Bytes -/

def bv (b : UInt8) : Value := .int .u8 b.toNat
/-- A slice that reads as these bytes. -/
def RB (h : GH) (v : Value) (l : List UInt8) : Prop :=
  (∃ c, v = .slice none 0 c ∧ l = []) ∨ ∃ ad c, v = .slice (some ad) l.length c ∧ gread h ad l.length = some (l.map bv) ∧ 2 * l.length ≤ c

theorem RB.hc {h h' : GH} (x : HC h h') {v : Value} {l : List UInt8} (r : RB h v l) : RB h' v l := by
  rcases r with r | ⟨ad, c, h1, h2, h3⟩
  · exact .inl r
  · exact .inr ⟨ad, c, h1, gread_hc x h2, h3⟩
theorem RB.hs {h h' : GH} (x : HS h h') {v : Value} {l : List UInt8} (r : RB h v l) : RB h' v l := r.hc x.hc
theorem RB.nil (h : GH) : RB h (.slice none 0 0) [] := .inl ⟨0, rfl, rfl⟩
/-- Its form. -/
theorem RB.form {h : GH} {v : Value} {l : List UInt8} (r : RB h v l) : ∃ a c, v = .slice a l.length c ∧ (a = none → l = []) := by
  rcases r with ⟨c, rfl, rfl⟩ | ⟨ad, c, rfl, h2, h3⟩
  · exact ⟨none, c, rfl, fun _ => rfl⟩
  · exact ⟨some ad, c, rfl, fun h => by cases h⟩


theorem gread_get {h : GH} {ad : Addr} {n : Nat} {cs : List Value} (e : gread h ad n = some cs) {i : Nat} {v : Value} (hv : cs[i]? = some v) : gread h ⟨ad.block, ad.off + i, none⟩ 1 = some [v] := by
  have hlt : i < n := by rw [← gread_length e]; exact (List.getElem?_eq_some_iff.1 hv).1
  unfold gread at e ⊢
  rw [if_neg (by omega)] at e
  rw [if_neg (by omega)]
  split at e
  case h_2 => cases e
  rename_i B hs hB
  split at e
  case isFalse => cases e
  rename_i hle
  cases e
  simp only [hB]
  rw [if_pos (by omega)]
  rw [List.getElem?_take, if_pos hlt, List.getElem?_drop] at hv
  obtain ⟨hl, hv⟩ := List.getElem?_eq_some_iff.1 hv
  rw [List.drop_eq_getElem_cons (by omega), hv]
  rfl

theorem gread_sub {h : GH} {ad : Addr} {n : Nat} {cs : List Value} (e : gread h ad n = some cs) (o m : Nat) (hm : o + m ≤ n) : gread h ⟨ad.block, ad.off + o, ad.spot⟩ m = some ((cs.drop o).take m) := by
  unfold gread at e ⊢
  by_cases h0 : m = 0
  · subst h0; simp
  · rw [if_neg h0]
    rw [if_neg (by omega)] at e
    split at e
    case h_2 => cases e
    rename_i B hs hB
    split at e
    case isFalse => cases e
    rename_i hle
    cases e
    simp only [hs, hB]
    rw [if_pos (by omega)]
    congr 1
    rw [List.drop_take, List.take_take, List.drop_drop]
    congr 1
    omega

/-- Element i. -/
theorem RB.at {P : Program} {h : GH} {v : Value} {l : List UInt8} (r : RB h v l) {t e : TypeId} (ht : P.underlying t = some (.slice e)) (he : gsz P e = some (false, 1)) {i : Nat} {b : UInt8} (hb : l[i]? = some b) :
    ∃ p, gIndex P t v i = some p ∧ gLoad P e h p = some (bv b) := by
  have hlt := (List.getElem?_eq_some_iff.1 hb).1
  rcases r with ⟨c, rfl, rfl⟩ | ⟨ad, c, rfl, h2, h3⟩
  · simp at hlt
  · refine ⟨.pointer (some ⟨ad.block, ad.off + i, none⟩), ?_, ?_⟩
    · simp only [gIndex, ht, he]
      rw [if_pos (by omega)]
      simp
    · have := gread_get h2 (i := i) (v := bv b) (by simp [hb])
      simp only [gLoad, he, this]
      rfl

theorem RB.len {P : Program} {h : GH} {v : Value} {l : List UInt8} (r : RB h v l) {t e : TypeId} (ht : P.underlying t = some (.slice e)) : gLen P t v = some (l.length : Int) := by
  obtain ⟨a, c, rfl, _⟩ := r.form
  simp only [gLen, ht]


/-! ## append -/

/-- It may be appended to, and nothing of h0 is touched. -/
def AP (h0 h : GH) (v : Value) (es : Nat) : Prop :=
  (∃ c, v = .slice none 0 c) ∨ (∃ ad n, v = .slice (some ad) n (2 * n + 1)) ∨
  ∃ ad n c B, v = .slice (some ad) n c ∧ c % 2 = 0 ∧ h ad.block = some B ∧ ad.spot = none ∧ B.tl = true ∧ B.es = es ∧ ad.off + n * es = B.cells.length ∧ h0 ad.block = none

theorem AP.nil (h0 h : GH) (es : Nat) : AP h0 h (.slice none 0 0) es := .inl ⟨0, rfl⟩
theorem AP.hs {h0 h h' : GH} {v : Value} {es : Nat} (a : AP h0 h v es) (x : HS h h') : AP h0 h' v es := by
  rcases a with a | a | ⟨ad, n, c, B, h1, h2, h3, h4, h5, h6, h7, h8⟩
  · exact .inl a
  · exact .inr (.inl a)
  · exact .inr (.inr ⟨ad, n, c, B, h1, h2, x _ _ h3, h4, h5, h6, h7, h8⟩)

/-- An append, said of cells: of es cells an element; the elder slice reads on. -/
theorem append_cells {P : Program} {t u e es by_ : Nat} {z : Value} {du : TypeDesc} {h0 h : GH} {s x : Value} {n m : Nat} {cs xs : List Value} {K : Value → GH → Prop} (hel : gel P t = some (e, es, by_, z)) (hu : P.underlying u = some du) (hni : notInt du = true)
    (hs0 : HS h0 h) (hs : (∃ c, s = .slice none 0 c ∧ n = 0 ∧ cs = []) ∨ ∃ ad c, s = .slice (some ad) n c ∧ gread h ad (n * es) = some cs ∧ 2 * n ≤ c) (ap : AP h0 h s es) (hsrc : gSrc h es x = some (m, xs)) (hxl : xs.length = m * es) (hcell : xs.all isCell = true)
    (hsz : (n + m) * by_ ≤ 140737488355328) (hml : n + m ≤ maxLen)
    (k : ∀ v h', HS h0 h' → HC h h' → (∀ j B, h j = some B → (∀ ad c, s = .slice (some ad) n c → c % 2 = 0 → j ≠ ad.block) → h' j = some B) → AP h0 h' v es →
      ((∃ c, v = .slice none 0 c ∧ n + m = 0 ∧ cs ++ xs = []) ∨ ∃ ad c, v = .slice (some ad) (n + m) c ∧ gread h' ad ((n + m) * es) = some (cs ++ xs) ∧ 2 * (n + m) ≤ c) → K v h') : gAppendX P t u h s x K := by
  refine .inl ⟨du, e, es, by_, z, m, xs, hu, hni, hel, hsrc, e, es, by_, z, hel, hxl, hcell, ?_⟩
  have grd : ∀ (h' : GH) (k0 : Nat) (B : GB), h' k0 = some B → B.cells = cs ++ xs → cs.length = n * es → gread h' ⟨k0, 0, none⟩ ((n + m) * es) = some (cs ++ xs) := by
    intro h' k0 B hk hB hcl
    unfold gread
    have hl : B.cells.length = (n + m) * es := by rw [hB, List.length_append, hcl, hxl, Nat.add_mul]
    split
    · rename_i h0'
      rw [h0'] at hl
      rw [← hB, List.eq_nil_of_length_eq_zero hl]
    · simp only [hk, Nat.zero_add, List.drop_zero]
      rw [if_pos (by omega), List.take_of_length_le (by omega), hB]
  rcases hs with ⟨c, rfl, rfl, rfl⟩ | ⟨ad, c, rfl, hrd, hnc⟩
  · simp only
    by_cases hm : m = 0
    · subst hm
      have hx0 : xs = [] := List.eq_nil_of_length_eq_zero (by simpa using hxl)
      subst hx0
      exact .inl ⟨rfl, k _ h hs0 (HC.refl h) (fun j B hj _ => hj) ap (.inl ⟨c, rfl, rfl, rfl⟩)⟩
    · refine .inr ⟨by omega, by omega, by simpa using hsz, fun k0 hk0 => ?_⟩
      have hS := HS.new hk0 ⟨xs, es, true, true⟩
      refine k _ _ (hs0.trans hS) hS.hc (fun j B hj _ => hS j B hj) (.inr (.inr ⟨⟨k0, 0, none⟩, m, 2 * m, _, rfl, by omega, hset_same _ _ _, rfl, rfl, rfl, by simp [hxl], hs0.none_of hk0⟩)) (.inr ⟨⟨k0, 0, none⟩, 2 * m, by simp, ?_⟩)
      exact ⟨grd _ k0 _ (hset_same _ _ _) (by simp) (by simp), by omega⟩
  · simp only
    have hcl := gread_length hrd
    by_cases hm : m = 0
    · subst hm
      have hx0 : xs = [] := List.eq_nil_of_length_eq_zero (by simpa using hxl)
      subst hx0
      exact .inl ⟨rfl, k _ h hs0 (HC.refl h) (fun j B hj _ => hj) ap (.inr ⟨ad, c, by simp, by simpa using hrd, by omega⟩)⟩
    · refine .inr ⟨by omega, hml, hsz, ?_⟩
      rcases ap with ⟨c', h1⟩ | ⟨ad', n', h1⟩ | ⟨ad', n', c', B, h1, h2, h3, h4, h5, h6, h7, h8⟩
      · cases h1
      · cases h1
        refine .inl ⟨cs, hrd, by omega, by omega, fun k0 hk0 => ?_⟩
        have hS := HS.new hk0 ⟨cs ++ xs, es, true, true⟩
        refine k _ _ (hs0.trans hS) hS.hc (fun j B hj _ => hS j B hj) (.inr (.inr ⟨⟨k0, 0, none⟩, n + m, 2 * (n + m), _, rfl, by omega, hset_same _ _ _, rfl, rfl, rfl, by simp [hcl, hxl, Nat.add_mul], hs0.none_of hk0⟩)) (.inr ⟨⟨k0, 0, none⟩, 2 * (n + m), rfl, ?_⟩)
        exact ⟨grd _ k0 _ (hset_same _ _ _) rfl hcl, by omega⟩
      · cases h1
        refine .inr (.inr ⟨B, h3, h4, h2, h5, h6, h7, .inr fun k0 hk0 hne => ?_⟩)
        have hdrop : B.cells.drop ad.off = cs := by
          unfold gread at hrd
          split at hrd
          · rename_i h00
            cases hrd
            rw [h00, Nat.add_zero] at h7
            rw [h7]; simp
          · rw [h4, h3] at hrd
            simp only at hrd
            rw [if_pos (by omega)] at hrd
            cases hrd
            rw [List.take_of_length_le (by simp; omega)]
        have hC : HC h (hset (hset h ad.block { B with wr := false, tl := false }) k0 ⟨B.cells.drop ad.off ++ xs, es, false, true⟩) := fun j C hj => by
          have hjk : j ≠ k0 := fun ee => by rw [ee, hk0] at hj; cases hj
          rw [hset_ne _ _ hjk]
          by_cases hja : j = ad.block
          · subst hja; rw [hset_same]; rw [h3] at hj; cases hj
            exact ⟨_, rfl, rfl, rfl, fun w => by cases w⟩
          · rw [hset_ne _ _ hja]; exact ⟨C, hj, rfl, rfl, id⟩
        refine k _ _ (fun j C hj => ?_) hC (fun j C hj hne2 => ?_) (.inr (.inr ⟨⟨k0, 0, none⟩, n + m, 2 * (n + m), _, rfl, by omega, hset_same _ _ _, rfl, rfl, rfl, by simp only [hdrop]; simp [hcl, hxl, Nat.add_mul], hs0.none_of hk0⟩)) (.inr ⟨⟨k0, 0, none⟩, 2 * (n + m), rfl, ?_⟩)
        · have hja : j ≠ ad.block := fun ee => by rw [ee, h8] at hj; cases hj
          have hj' := hs0 j C hj
          have hjk : j ≠ k0 := fun ee => by rw [ee, hk0] at hj'; cases hj'
          rw [hset_ne _ _ hjk, hset_ne _ _ hja]; exact hj'
        · have hja := hne2 ad c rfl h2
          have hjk : j ≠ k0 := fun ee => by rw [ee, hk0] at hj; cases hj
          rw [hset_ne _ _ hjk, hset_ne _ _ hja]; exact hj
        · exact ⟨grd _ k0 _ (hset_same _ _ _) (by simp only [hdrop]) hcl, by omega⟩

theorem RB.src {h : GH} {v : Value} {l : List UInt8} (r : RB h v l) : gSrc h 1 v = some (l.length, l.map bv) := by
  rcases r with ⟨c, rfl, rfl⟩ | ⟨ad, c, rfl, h2, h3⟩
  · rfl
  · simp only [gSrc, Nat.mul_one, h2]; rfl

theorem bv_cells (l : List UInt8) : (l.map bv).all isCell = true := by
  rw [List.all_eq_true]
  intro v hv
  obtain ⟨b, _, rfl⟩ := List.mem_map.1 hv
  rfl

/-- An append of bytes. -/
theorem append_bytes {P : Program} {t u e : Nat} {z : Value} {du : TypeDesc} {h0 h : GH} {s x : Value} {l l2 : List UInt8} {K : Value → GH → Prop} (hel : gel P t = some (e, 1, 1, z)) (hu : P.underlying u = some du) (hni : notInt du = true)
    (hs0 : HS h0 h) (hs : RB h s l) (ap : AP h0 h s 1) (hsrc : gSrc h 1 x = some (l2.length, l2.map bv)) (hsz : l.length + l2.length ≤ 140737488355328)
    (k : ∀ v h', HS h0 h' → HC h h' → (∀ j B, h j = some B → (∀ ad n c, s = .slice (some ad) n c → c % 2 = 0 → j ≠ ad.block) → h' j = some B) → AP h0 h' v 1 → RB h' v (l ++ l2) → K v h') : gAppendX P t u h s x K := by
  refine append_cells (n := l.length) (cs := l.map bv) hel hu hni hs0 ?_ ap hsrc (by simp) (bv_cells _) (by simpa using hsz) (by simp only [maxLen]; omega) ?_
  · rcases hs with ⟨c, rfl, rfl⟩ | ⟨ad, c, rfl, h2, h3⟩
    · exact .inl ⟨c, rfl, rfl, rfl⟩
    · exact .inr ⟨ad, c, rfl, by simpa using h2, h3⟩
  · intro v h' h1 h2 h3 h4 h5
    refine k v h' h1 h2 (fun j B hj hne => h3 j B hj fun ad c hh hc => hne ad _ c hh hc) h4 ?_
    rcases h5 with ⟨c, rfl, h6, h7⟩ | ⟨ad, c, rfl, h6, h7⟩
    · exact .inl ⟨c, rfl, List.eq_nil_of_length_eq_zero (by simpa using h6)⟩
    · exact .inr ⟨ad, c, by simp, by simpa using h6, by simpa using h7⟩

end Go.Gh
