/- Parts of this claim's proof, 11. No statement of the claim stands here. -/
import Derived.Test.YtkifgpomablpiaaGreatDoorP10
namespace Go.Gh
open Go Go.Proofs Go.RowKit
set_option linter.unusedVariables false
set_option linter.unusedSimpArgs false
set_option maxRecDepth 100000
set_option maxHeartbeats 4000000
theorem qM7 : type_of% (And.intro zF (And.intro xB (And.intro wF rs95))) := And.intro zF (And.intro xB (And.intro wF rs95))
theorem zT8 : ((List.range 256).all fun d => d == 0 || ((List.range (8 - dG d)).all (fun i => !(d.testBit (7 - i))) && decide (8 - dG d < 8) && d.testBit (7 - (8 - dG d)))) = true := by decide +kernel
theorem qF5 {x y : UInt8} (h : x ≠ y) : 8 - dG (x ^^^ y).toNat < 8 ∧ (∀ i, i < 8 - dG (x ^^^ y).toNat → x.toNat.testBit (7 - i) = y.toNat.testBit (7 - i)) ∧ x.toNat.testBit (7 - (8 - dG (x ^^^ y).toNat)) ≠ y.toNat.testBit (7 - (8 - dG (x ^^^ y).toNat)) := by
  have hd : (x ^^^ y).toNat ≠ 0 := fun e => h (by
    have : x ^^^ y = 0 := UInt8.toNat_inj.1 (by simpa using e)
    exact UInt8.xor_eq_zero_iff.1 this)
  have hx : ∀ i, (x ^^^ y).toNat.testBit i = (x.toNat.testBit i ^^ y.toNat.testBit i) := fun i => by rw [UInt8.toNat_xor, Nat.testBit_xor]
  have hb := zT8
  rw [List.all_eq_true] at hb
  have := hb (x ^^^ y).toNat (by simpa using (x ^^^ y).toNat_lt)
  simp only [Bool.or_eq_true, beq_iff_eq, hd, false_or, Bool.and_eq_true, decide_eq_true_eq, List.all_eq_true, List.mem_range, Bool.not_eq_true', hx] at this
  obtain ⟨⟨h1, h2⟩, h3⟩ := this
  refine ⟨h2, fun i hi => ?_, fun e => ?_⟩
  · have := h1 i hi
    simpa using this
  · rw [e] at h3
    simp at h3
theorem dV (a : UInt8) (l : List UInt8) (i : Nat) : xA (a :: l) (i + 8) = xA l i := by
  simp only [xA]
  rw [show (i + 8) / 8 = i / 8 + 1 by omega, List.getElem?_cons_succ, show (i + 8) % 8 = i % 8 by omega]
theorem yR (a : UInt8) (l : List UInt8) {i : Nat} (h : i < 8) : xA (a :: l) i = if a.toNat.testBit (7 - i) = true then 1 else 0 := by
  simp only [xA]
  rw [show i / 8 = 0 by omega, List.getElem?_cons_zero, show i % 8 = i by omega]
theorem gbit_nonneg {l : List UInt8} {i : Nat} : 0 ≤ xA l i ↔ i < 8 * l.length := by
  unfold xA
  split
  · rename_i h
    rw [List.getElem?_eq_none_iff] at h
    omega
  · rename_i b h
    have := (List.getElem?_eq_some_iff.1 h).1
    split <;> omega
theorem qW9 {l : List UInt8} {i : Nat} : xA l i ≤ 1 := by
  unfold xA
  split
  · omega
  · split <;> omega
theorem dT : ∀ l m : List UInt8, (∀ i, i < yW l m → 0 ≤ xA l i ∧ xA l i = xA m i) ∧ (xA l (yW l m) < 0 ∨ xA l (yW l m) ≠ xA m (yW l m))
  | [], m => ⟨fun i hi => by simp [yW] at hi, .inl (by simp [xA, yW])⟩
  | a :: l, [] => ⟨fun i hi => by simp [yW] at hi, .inr (by
      have h1 := (gbit_nonneg (l := a :: l) (i := 0)).2 (by simp)
      have h2 : xA [] 0 = -1 := rfl
      simp only [yW]
      omega)⟩
  | a :: l, b :: m => by
    by_cases hab : a = b
    · subst hab
      obtain ⟨h1, h2⟩ := dT l m
      simp only [yW, if_true]
      refine ⟨fun i hi => ?_, ?_⟩
      · by_cases h8 : i < 8
        · rw [yR a l h8, yR a m h8]
          exact ⟨by split <;> omega, rfl⟩
        · obtain ⟨j, rfl⟩ : ∃ j, i = j + 8 := ⟨i - 8, by omega⟩
          rw [dV, dV]
          exact h1 j (by omega)
      · rw [Nat.add_comm, dV, dV]
        exact h2
    · obtain ⟨h1, h2, h3⟩ := qF5 hab
      simp only [yW, if_neg hab]
      refine ⟨fun i hi => ?_, .inr ?_⟩
      · rw [yR a l (by omega), yR b m (by omega), h2 i hi]
        exact ⟨by split <;> omega, rfl⟩
      · rw [yR a l h1, yR b m h1]
        generalize a.toNat.testBit (7 - (8 - dG (a ^^^ b).toNat)) = p at h3 ⊢
        generalize b.toNat.testBit (7 - (8 - dG (a ^^^ b).toNat)) = q at h3 ⊢
        cases p <;> cases q <;> simp at h3 ⊢
theorem tO {l m : List UInt8} {n : Nat} (h1 : ∀ i, i < n → 0 ≤ xA l i ∧ xA l i = xA m i) (h2 : xA l n < 0 ∨ xA l n ≠ xA m n) : yW l m = n := by
  obtain ⟨h3, h4⟩ := dT l m
  rcases Nat.lt_trichotomy (yW l m) n with h | h | h
  · have := h1 _ h
    rcases h4 with h4 | h4
    · omega
    · exact absurd this.2 h4
  · exact h
  · have := h3 _ h
    rcases h2 with h2 | h2
    · omega
    · exact absurd this.2 h2
theorem jK (N : Nat) (h : GH) {a : Option Addr} {c : Nat} {l : List UInt8} (r : RB h (.slice a l.length c) l) (i : Nat) (hi : i ≤ 9223372036854775807) : GTri Tryz.prog N 57 [.slice a l.length c, .int .i64 i] h fun v h' => v = .int .i64 (xA l i) ∧ h' = h :=
  (c_rBit N h r rfl i (WalkArith.wf_i64 (by omega))).mono fun v h' ⟨e1, e2⟩ => ⟨by rw [e1, if_neg (by omega), Int.toNat_natCast], e2⟩
theorem dJ (N : Nat) (h : GH) {a : Option Addr} {c : Nat} {l : List UInt8} (r : RB h (.slice a l.length c) l) (i : Nat) (hi : i ≤ 9223372036854775807) : GTri Tryz.prog N 41 [.slice a l.length c, .int .i64 i] h fun v h' => v = .int .i64 (xA l i) ∧ h' = h :=
  (c_Bit N h r rfl i (WalkArith.wf_i64 (by omega))).mono fun v h' ⟨e1, e2⟩ => ⟨by rw [e1, if_neg (by omega), Int.toNat_natCast], e2⟩
theorem qF4 (N : Nat) (h : GH) {a b : Option Addr} {n m c d : Nat} {l k : List UInt8} (r1 : RB h (.slice a n c) l) (r2 : RB h (.slice b m d) k) (hn : n = l.length) (hm : m = k.length) (hb : l.length ≤ 140737488355328) : GTri Tryz.prog N 95 [.slice a n c, .slice b m d] h fun v h' => v = .int .i64 (yW l k) ∧ h' = h := by
  subst hn; subst hm
  refine zU Tryz.func95 rfl gf95 ok95 (by simp [Tryz.ntmps95]) ?_
  repeat' (first | (with_reducible first | apply qK | apply qS) | ((with_reducible apply qB) <;> try simp only [qN, qC, qE, qG, qD, qA, qF, seval, qQ, qO, qP, qM7]))
  refine qW6 (fun q e h' => ∃ i : Nat, i ≤ 8 * l.length ∧ q = 8 * l.length - i ∧ h' = h ∧ (∀ j, j < i → 0 ≤ xA l j ∧ xA l j = xA k j) ∧ e = [(5, .int .i64 i), (0, .slice a l.length c), (1, .slice b k.length d)]) (8 * l.length)
    (e0 := [(5, .int .i64 0), (0, .slice a l.length c), (1, .slice b k.length d)]) (pD (by simp only [List.forall_mem_cons, List.not_mem_nil, false_implies, implies_true, lk, Nat.reduceEqDiff, reduceIte, and_true, true_and])) ⟨0, by omega, rfl, rfl, fun j hj => by omega, rfl⟩ ?_
  rintro q e h' ⟨i, hi, rfl, rfl, ht, rfl⟩
  have w2 : IntKind.i64.wrap ((i : Int) + 1) = ((i + 1 : Nat) : Int) := by rw [wrap64 (by omega) (by omega)]; omega
  repeat' (first | (with_reducible first | apply qK | apply qS) | ((first | (with_reducible first | apply qB | apply qR | apply qT | apply xT | apply qM) | ((with_reducible first | apply qA0 | apply qU6) <;> intro hb <;> (try simp only [hb])) | ((refine GTri.mono (jK _ _ r1 i (by omega)) ?_); rintro _ _ ⟨rfl, rfl⟩) | ((refine GTri.mono (jK _ _ r2 i (by omega)) ?_); rintro _ _ ⟨rfl, rfl⟩)) <;> try simp only [qN, qC, qE, qG, qD, qA, qF, seval, qQ, qO, qP, qM7, w2]))
  · simp only [decide_eq_true_eq, beq_iff_eq] at *
    rename_i hb2 _
    have hlt : i < 8 * l.length := gbit_nonneg.1 (by omega)
    refine ⟨_, _, ?_, ?_, i + 1, ?_, rfl, ?_, rfl⟩
    · omega
    · exact (pD (by simp only [List.forall_mem_cons, List.not_mem_nil, false_implies, implies_true, lk, Nat.reduceEqDiff, reduceIte, and_true, true_and]))
    · omega
    · intro j hj
      by_cases hji : j < i
      · exact ht j hji
      · obtain rfl : j = i := by omega
        exact ⟨by omega, hb⟩
  · simp only [beq_eq_false_iff_ne] at hb
    rw [tO ht (.inr hb)]
  · simp only [decide_eq_false_iff_not] at hb
    rw [tO ht (.inl (by omega))]
theorem qW1 : ∀ {l m : List UInt8}, l.length = m.length → l ≠ m → yW l m < 8 * l.length
  | [], [], _, h => absurd rfl h
  | [], _ :: _, h, _ => by simp at h
  | _ :: _, [], h, _ => by simp at h
  | a :: l, b :: m, h, h2 => by
    by_cases hab : a = b
    · subst hab
      have := qW1 (l := l) (m := m) (by simpa using h) (fun e => h2 (by rw [e]))
      simp only [yW, if_true, List.length_cons]
      omega
    · have := (qF5 hab).1
      simp only [yW, if_neg hab, List.length_cons]
      omega
theorem zR8 {l m : List UInt8} (hl : l.length ≤ 255) (hm : m.length ≤ 255) (h : l ≠ m) : yW (zL l) (zL m) < 8 * (zL l).length ∧ yW (zL l) (zL m) < 8 * (zL m).length := by
  have e : ∀ l : List UInt8, l.length ≤ 255 → zL l = UInt8.ofNat l.length :: l := fun l hl => by
    simp only [zL]
    rw [Nat.min_eq_left hl, List.take_of_length_le hl]
  rw [e l hl, e m hm]
  by_cases hlen : l.length = m.length
  · have := qW1 (l := UInt8.ofNat l.length :: l) (m := UInt8.ofNat m.length :: m) (by simp [hlen]) (by simp [h])
    simp only [List.length_cons] at this ⊢
    omega
  · have hne : UInt8.ofNat l.length ≠ UInt8.ofNat m.length := fun e => hlen (by
      have := congrArg UInt8.toNat e
      rw [UInt8.toNat_ofNat_of_lt' (by simpa using (by omega : l.length < 256)), UInt8.toNat_ofNat_of_lt' (by simpa using (by omega : m.length < 256))] at this
      exact this)
    have := (qF5 hne).1
    simp only [yW, if_neg hne, List.length_cons]
    omega
theorem kV : type_of% (And.intro zF (And.intro xB (And.intro wF rs79))) := And.intro zF (And.intro xB (And.intro wF rs79))
def jM : Nat → List (Nat × List Nat) × List Nat
  | 9 => ([(0, []), (1, []), (2, []), (3, []), (4, []), (5, []), (6, []), (7, []), (8, []), (9, []), (10, []), (11, [])], [0, 0, 2, 6, 15, 31, 0, 64, 192, 511, 1023, 2047])
  | _ => ([], [])
def fY (x : UInt8) (k : Nat) : UInt8 := UInt8.ofNat (x.toNat / 2 ^ (8 - k) * 2 ^ (8 - k))
def zG : List UInt8 → Nat → List UInt8
  | [], _ => []
  | x :: l, n => if n = 0 then [] else if n < 8 then [fY x n] else x :: zG l (n - 8)
theorem pJ : ∀ (l : List UInt8) (j : Nat), zG l (8 * j) = l.take j
  | [], j => by simp [zG]
  | x :: l, 0 => by simp [zG]
  | x :: l, j + 1 => by
    simp only [zG, List.take_succ_cons]
    rw [if_neg (by omega), if_neg (by omega), show 8 * (j + 1) - 8 = 8 * j by omega, pJ l j]
theorem lB : ∀ (l : List UInt8) (n : Nat), 8 * l.length ≤ n → zG l n = l
  | [], n, _ => by simp [zG]
  | x :: l, n, h => by
    simp only [List.length_cons] at h
    simp only [zG]
    rw [if_neg (by omega), if_neg (by omega), lB l (n - 8) (by omega)]
theorem pK : ∀ (l : List UInt8) (j r : Nat), j < l.length → 0 < r → r < 8 → zG l (8 * j + r) = l.take j ++ [fY (l.getD j 0) r]
  | [], j, r, h, _, _ => by simp at h
  | x :: l, 0, r, _, h0, h8 => by
    simp only [zG, Nat.mul_zero, Nat.zero_add, List.take_zero, List.nil_append]
    rw [if_neg (by omega), if_pos h8]
    rfl
  | x :: l, j + 1, r, h, h0, h8 => by
    simp only [zG, List.take_succ_cons, List.cons_append]
    rw [if_neg (by omega), if_neg (by omega), show 8 * (j + 1) + r - 8 = 8 * j + r by omega, pK l j r (by simpa using h) h0 h8]
    rfl
theorem wM : ∀ (l : List UInt8) (n : Nat), (zG l n).length = min l.length ((n + 7) / 8)
  | [], n => by simp [zG]
  | x :: l, n => by
    simp only [zG]
    split
    · subst n; simp
    · split
      · simp only [List.length_cons, List.length_nil]; omega
      · simp only [List.length_cons, wM l (n - 8)]; omega
theorem zI7 : ((List.range 256).all fun x => (List.range 8).all fun k => (List.range 8).all fun i => !decide (i < k) || ((x / 2 ^ (8 - k) * 2 ^ (8 - k)).testBit (7 - i) == x.testBit (7 - i))) = true := by decide +kernel
theorem zR5 (x : UInt8) {k i : Nat} (hk : k < 8) (hi : i < k) : (fY x k).toNat.testBit (7 - i) = x.toNat.testBit (7 - i) := by
  have h := zI7
  simp only [List.all_eq_true, List.mem_range, Bool.or_eq_true, Bool.not_eq_true', decide_eq_false_iff_not, beq_iff_eq] at h
  have := h x.toNat x.toNat_lt k hk i (by omega)
  have hm : x.toNat / 2 ^ (8 - k) * 2 ^ (8 - k) < 256 := Nat.lt_of_le_of_lt (Nat.div_mul_le_self _ _) x.toNat_lt
  rw [fY, UInt8.toNat_ofNat_of_lt' (by simpa using hm)]
  rcases this with h | h
  · exact absurd hi h
  · exact h
theorem jG : ∀ (l : List UInt8) (n i : Nat), i < n → xA (zG l n) i = xA l i
  | [], n, i, _ => by simp [zG]
  | x :: l, n, i, h => by
    simp only [zG]
    rw [if_neg (by omega)]
    split
    · rename_i h8
      rw [yR _ _ (by omega), yR _ _ (by omega), zR5 x h8 h]
    · by_cases hi : i < 8
      · rw [yR _ _ hi, yR _ _ hi]
      · obtain ⟨j, rfl⟩ : ∃ j, i = j + 8 := ⟨i - 8, by omega⟩
        rw [dV, dV]
        exact jG l (n - 8) j (by omega)
theorem zB6 : ((List.range 256).all fun x => (List.range 8).all fun k => (List.range 8).all fun i => x / 2 ^ (8 - k) * 2 ^ (8 - k) / 2 ^ (8 - i) * 2 ^ (8 - i) == x / 2 ^ (8 - min k i) * 2 ^ (8 - min k i)) = true := by decide +kernel
theorem zB8 (x : UInt8) {k i : Nat} (hk : k < 8) (hi : i < 8) : fY (fY x k) i = fY x (min k i) := by
  have h := zB6
  simp only [List.all_eq_true, List.mem_range, beq_iff_eq] at h
  have := h x.toNat x.toNat_lt k hk i hi
  have hm : x.toNat / 2 ^ (8 - k) * 2 ^ (8 - k) < 256 := Nat.lt_of_le_of_lt (Nat.div_mul_le_self _ _) x.toNat_lt
  rw [fY, fY, UInt8.toNat_ofNat_of_lt' (by simpa using hm), this]; rfl
theorem zJ0 (n : Nat) : zG [] n = [] := by simp [zG]
theorem qG5 (l : List UInt8) : zG l 0 = [] := by cases l <;> simp [zG]
theorem tS (x : UInt8) (l : List UInt8) {n : Nat} (h0 : n ≠ 0) (h8 : n < 8) : zG (x :: l) n = [fY x n] := by
  rw [zG, if_neg h0, if_pos h8]
theorem tT (x : UInt8) (l : List UInt8) {n : Nat} (h8 : ¬ n < 8) : zG (x :: l) n = x :: zG l (n - 8) := by
  rw [zG, if_neg (by omega), if_neg h8]
theorem fN : ∀ (l : List UInt8) (n m : Nat), zG (zG l n) m = zG l (min n m)
  | [], n, m => by simp [zG]
  | x :: l, n, m => by
    by_cases hn : n = 0
    · subst hn; simp [zG]
    · by_cases hm : m = 0
      · subst hm; simp [qG5]
      · by_cases hn8 : n < 8
        · rw [tS x l hn hn8, tS x l (by omega) (by omega)]
          by_cases hm8 : m < 8
          · rw [tS _ _ hm hm8, zB8 x hn8 hm8]
          · rw [tT _ _ hm8, zJ0, Nat.min_eq_left (by omega)]
        · rw [tT x l hn8]
          by_cases hm8 : m < 8
          · rw [tS _ _ hm hm8, tS x l (by omega) (by omega), Nat.min_eq_right (by omega)]
          · rw [tT _ _ hm8, tT x l (by omega), fN l, show min n m - 8 = min (n - 8) (m - 8) by omega]
theorem zI8 : ((List.range 256).all fun x => (List.range 8).all fun r => x &&& (255 * 2 ^ (8 - r)) % 256 == x / 2 ^ (8 - r) * 2 ^ (8 - r)) = true := by decide +kernel
theorem zR6 (x : UInt8) {r : Nat} (h8 : r < 8) : bits .and .u8 (x.toNat : Int) (IntKind.u8.wrap (255 * 2 ^ min (((8 - r : Nat) : Int)).toNat IntKind.u8.bits)) = ((fY x r).toNat : Int) := by
  have h := zI8
  simp only [List.all_eq_true, List.mem_range, beq_iff_eq] at h
  have := h x.toNat x.toNat_lt r h8
  have hm : x.toNat / 2 ^ (8 - r) * 2 ^ (8 - r) < 256 := Nat.lt_of_le_of_lt (Nat.div_mul_le_self _ _) x.toNat_lt
  have e : IntKind.u8.wrap (255 * 2 ^ min (((8 - r : Nat) : Int)).toNat IntKind.u8.bits) = ((255 * 2 ^ (8 - r) % 256 : Nat) : Int) := by
    have e8 : min (((8 - r : Nat) : Int)).toNat IntKind.u8.bits = 8 - r := by
      rw [Int.toNat_natCast]; exact Nat.min_eq_left (by show 8 - r ≤ 8; omega)
    rw [e8]
    have e2 : (255 * 2 ^ (8 - r) : Int) = ((255 * 2 ^ (8 - r) : Nat) : Int) := by rw [Int.natCast_mul, Int.natCast_pow]; rfl
    rw [e2]
    simp [IntKind.wrap, IntKind.signed, IntKind.bits]
  rw [e, (qZ6 x.toNat_lt (Nat.mod_lt _ (by decide))).1, this, fY, UInt8.toNat_ofNat_of_lt' (by simpa using hm)]
theorem qB6 (N : Nat) (h : GH) {a : Option Addr} {n c : Nat} {l : List UInt8} (r : RB h (.slice a n c) l) (hl : l.length ≤ 140737488355328) (i : Int) : GTri Tryz.prog N 79 [.slice a n c, .int .i64 i] h fun v h' => HS h h' ∧ ∃ a' c', v = .slice a' (zG l i.toNat).length c' ∧ RB h' v (zG l i.toNat) := by
  obtain rfl := r.len_eq
  have w1 : IntKind.i64.wrap (8 * (l.length : Int)) = ((8 * l.length : Nat) : Int) := by rw [wrap64 (by omega) (by omega)]; omega
  refine zU Tryz.func79 rfl gf79 ok79 (by simp [Tryz.ntmps79]) ?_
  by_cases h1 : 8 * (l.length : Int) ≤ i
  · have d1 : decide (i ≥ ((8 * l.length : Nat) : Int)) = true := decide_eq_true (by omega)
    repeat' (first | with_reducible apply qK | ((first | (with_reducible first | apply qB | apply qR | apply qM) | ((refine GTri.mono (gT _ _ r hl) ?_); rintro _ h2 ⟨s1, o⟩)) <;> try simp only [qN, qC, qE, qG, qD, qA, qF, seval, qQ, qO, qP, qL, qY, qZ, zC, kV, jM, w1, d1]))
    obtain ⟨a', c', rfl⟩ := o.form
    rw [lB l _ (by omega)]
    exact ⟨s1, a', c', rfl, o.rb⟩
  · have d1 : decide (i ≥ ((8 * l.length : Nat) : Int)) = false := decide_eq_false (by omega)
    by_cases h2 : i < 1
    · have d2 : decide (i < 1) = true := decide_eq_true h2
      repeat' (first | with_reducible apply qK | ((with_reducible first | apply qB | apply qR | apply qT | apply qM) <;> try simp only [qN, qC, qE, qG, qD, qA, qF, seval, qQ, qO, qP, qL, qY, qZ, zC, kV, jM, w1, d1, d2]))
      rw [show i.toNat = 0 by omega, qG5]
      exact ⟨HS.refl h, none, 0, rfl, RB.nil h⟩
    · have d2 : decide (i < 1) = false := decide_eq_false h2
      obtain ⟨n, rfl⟩ : ∃ n : Nat, i = n := ⟨i.toNat, by omega⟩
      have w2 : IntKind.i64.wrap ((n : Int) - 1) = ((n - 1 : Nat) : Int) := by rw [wrap64 (by omega) (by omega)]; omega
      have w3 : IntKind.i64.wrap (Int.tdiv ((n - 1 : Nat) : Int) 8) = (((n - 1) / 8 : Nat) : Int) := by
        rw [show (8 : Int) = ((8 : Nat) : Int) from rfl, kD]
        exact wrap64 (by omega) (by omega)
      have w4 : IntKind.i64.wrap ((((n - 1) / 8 : Nat) : Int) + 1) = (((n - 1) / 8 + 1 : Nat) : Int) := by rw [wrap64 (by omega) (by omega)]; omega
      have w5 := and7 (i := n) (by omega)
      repeat' (first | with_reducible apply qK | ((with_reducible first | apply qB | apply qR | apply qT) <;> try simp only [qN, qC, qE, qG, qD, qA, qF, seval, qQ, qO, qP, qL, qY, qZ, zC, kV, jM, w1, d1, d2, w2, w3, w4]))
      refine zB3 vA (by omega) fun k h3 m3 s3 f3 n3 => ?_
      refine qJ ?_; repeat' (first | with_reducible apply qK | ((with_reducible first | apply qI | apply qB) <;> try simp only [qN, qC, qE, qG, qD, qA, qF, seval, qQ, qO, qP, qL, qY, qZ, zC, kV, jM]))
      refine copy_g vA m3 List.length_replicate.symm (r.hs s3) fun h4 m4 f4 => ?_
      have s4 := s3.upd n3 f4
      rw [List.drop_eq_nil_of_le (by simp; omega), List.append_nil] at m4
      have hlen : (l.take ((n - 1) / 8 + 1)).length = (n - 1) / 8 + 1 := by simp; omega
      refine qJ ?_; repeat' (first | with_reducible apply qK | ((first | (with_reducible first | apply qI | apply qB | apply qR | apply qT | apply qM) | (with_reducible apply qA0 <;> intro hb <;> (try simp only [hb])) | with_reducible refine zE jM xC (by kernel_rfl) ?_) <;> try simp only [qN, qC, qE, qG, qD, qA, qF, seval, qQ, qO, qP, qL, qY, qZ, zC, kV, jM, w5]))
      · simp only [decide_eq_true_eq] at hb
        have e1 : (n - 1) / 8 = n / 8 := by omega
        rw [e1] at m4 hlen ⊢
        have w6 : IntKind.i64.wrap (((n / 8 + 1 : Nat) : Int) - 1) = ((n / 8 : Nat) : Int) := by rw [wrap64 (by omega) (by omega)]; omega
        have w7 : IntKind.i64.wrap (8 - ((n % 8 : Nat) : Int)) = ((8 - n % 8 : Nat) : Int) := by rw [wrap64 (by omega) (by omega)]; omega
        have i1 := kR (P := Tryz.prog) (t := 22) (k := k) (n := n / 8 + 1) (c := 2 * (n / 8 + 1) + 1) (i := n / 8) Tryz.underlying22 sH (by omega)
        rw [Nat.mul_one] at i1
        obtain ⟨x, hx⟩ : ∃ x, l[n / 8]? = some x := ⟨l[n / 8]'(by omega), List.getElem?_eq_getElem _⟩
        have g1 : wZ Tryz.prog 5 h4 (.pointer (some ⟨k, n / 8, none⟩)) = some (bv x) := by
          rw [qH m4 sH]
          simp [List.getElem?_take, hx]
        refine qJ ?_; repeat' (first | ((with_reducible apply qI) <;> try simp only [qN, qC, qE, qG, qD, qA, qF, seval, qQ, qO, qP, qL, qY, qZ, zC, kV, jM, w6, w7, i1, g1, bv]))
        refine ⟨by omega, ?_⟩
        rw [zR6 x (by omega)]
        refine zW m4 sH rfl (by rw [List.length_map, hlen]; omega) rfl rfl fun h5 m5 f5 => ?_
        have s5 := s4.upd n3 f5
        have e2 : zG l n = l.take (n / 8) ++ [fY x (n % 8)] := by
          have := pK l (n / 8) (n % 8) (by omega) (by omega) (by omega)
          rw [show 8 * (n / 8) + n % 8 = n by omega] at this
          rw [this, List.getD, hx]; rfl
        have e3 : ((l.take (n / 8 + 1)).map bv).set (n / 8) (.int .u8 ((fY x (n % 8)).toNat : Int)) = (zG l n).map bv := by
          have := set_bv (l.take (n / 8 + 1)) (n / 8) (fY x (n % 8))
          rw [bv] at this
          rw [this, e2, List.take_add_one, hx]
          congr 1
          have hl8 : (l.take (n / 8)).length = n / 8 := by simp; omega
          rw [List.set_append_right _ _ (by omega), hl8, Nat.sub_self]; rfl
        simp only [e3] at m5
        have e4 : (zG l n).length = n / 8 + 1 := by rw [wM]; omega
        refine qJ ?_; repeat' (first | with_reducible apply qK | ((with_reducible first | apply qI | apply qB | apply qM) <;> try simp only [qN, qC, qE, qG, qD, qA, qF, seval, qQ, qO, qP, qL, qY, qZ, zC, kV, jM]))
        rw [Int.toNat_natCast, e4]
        exact ⟨s5, _, _, rfl, yN m5 e4.symm⟩
      · simp only [decide_eq_false_iff_not] at hb
        have e1 : zG l n = l.take ((n - 1) / 8 + 1) := by
          have := pJ l (n / 8)
          rw [show 8 * (n / 8) = n by omega] at this
          rw [this]; congr 1; omega
        rw [Int.toNat_natCast, e1, hlen]
        exact ⟨s4, _, _, rfl, yN m4 hlen.symm⟩
theorem yM : type_of% (And.intro zF (And.intro xB (And.intro wF rs103))) := And.intro zF (And.intro xB (And.intro wF rs103))
theorem zB7 (x : UInt8) {r : Nat} (h8 : r < 8) : IntKind.u8.wrap ((x.toNat : Int).fdiv (2 ^ min (((8 - r : Nat) : Int)).toNat IntKind.u8.bits) * 2 ^ min (((8 - r : Nat) : Int)).toNat IntKind.u8.bits) = ((fY x r).toNat : Int) := by
  have e8 : min (((8 - r : Nat) : Int)).toNat IntKind.u8.bits = 8 - r := by
    rw [Int.toNat_natCast]; exact Nat.min_eq_left (by show 8 - r ≤ 8; omega)
  have hm : x.toNat / 2 ^ (8 - r) * 2 ^ (8 - r) < 256 := Nat.lt_of_le_of_lt (Nat.div_mul_le_self _ _) x.toNat_lt
  have e2 : (2 ^ (8 - r) : Int) = ((2 ^ (8 - r) : Nat) : Int) := by rw [Int.natCast_pow]; rfl
  rw [e8, e2, pQ, ← Int.natCast_mul, fY, UInt8.toNat_ofNat_of_lt' (by simpa using hm)]
  exact sJ (by omega) (by omega)
theorem gR (N : Nat) (h : GH) {a : Option Addr} {n c : Nat} {l : List UInt8} (r : RB h (.slice a n c) l) (hl : l.length ≤ 140737488351232) (i : Int) (hi : (Lit.int .i64 i).wf = true) : GTri Tryz.prog N 103 [.slice a n c, .int .i64 i] h fun v h' => HS h h' ∧ ∃ a' c', v = .slice a' (zG l i.toNat).length c' ∧ RB h' v (zG l i.toNat) := by
  obtain rfl := r.len_eq
  have hb := bounds_i64 hi
  refine zU Tryz.func103 rfl gf103 ok103 (by simp [Tryz.ntmps103]) ?_
  repeat' (first | (with_reducible first | apply qK | apply qS) | ((with_reducible apply qB) <;> try simp only [qN, qC, qE, qG, qD, qA, qF, seval, qQ, qO, qP, yM]))
  refine xR [0, 1, 4] (fun (x : Nat × Value) => [(5, x.2), (6, .int .i64 ((8 * x.1 : Nat) : Int))])
    (fun q x h' => q = l.length - x.1 ∧ x.1 ≤ l.length ∧ HS h h' ∧ AP h h' x.2 1 ∧ ∃ L, RB h' x.2 L ∧ ((L = l.take x.1 ∧ 8 * x.1 ≤ i.toNat) ∨ (L = zG l i.toNat ∧ i.toNat < 8 * x.1))) l.length (0, .slice none 0 0) (by simp [lk]) ⟨rfl, by omega, HS.refl h, AP.nil _ _ _, [], RB.nil h, .inl ⟨by simp, by omega⟩⟩ ?_
  rintro q ⟨j, v⟩ h1 ⟨rfl, hj, s1, ap, L, rL, hL⟩
  simp only at *
  have w1 : IntKind.i64.wrap (Int.tdiv ((8 * j : Nat) : Int) 8) = (j : Int) := by
    rw [show (8 : Int) = ((8 : Nat) : Int) from rfl, kD, show 8 * j / 8 = j by omega]
    exact wrap64 (by omega) (by omega)
  by_cases h0 : ((8 * j : Nat) : Int) < i
  · have d0 : decide (((8 * j : Nat) : Int) < i) = true := decide_eq_true h0
    by_cases hjl : j < l.length
    · have d2 : decide ((j : Int) < (l.length : Int)) = true := decide_eq_true (by omega)
      obtain ⟨p, u1, u2⟩ := (r.hs s1).idx Tryz.underlying22 sH (i := (j : Int)) (by omega) (by omega)
      rw [Int.toNat_natCast] at u2
      have w3 : IntKind.i64.wrap (i - ((8 * j : Nat) : Int)) = ((i.toNat - 8 * j : Nat) : Int) := by rw [wrap64 (by omega) (by omega)]; omega
      have w4 : IntKind.i64.wrap (((8 * j : Nat) : Int) + 8) = ((8 * (j + 1) : Nat) : Int) := by rw [wrap64 (by omega) (by omega)]; omega
      rcases hL with ⟨rfl, hL⟩ | ⟨rfl, hL⟩
      case inr => omega
      by_cases h8 : i.toNat - 8 * j < 8
      · have d8 : decide (((i.toNat - 8 * j : Nat) : Int) < 8) = true := decide_eq_true (by omega)
        have w5 : IntKind.i64.wrap (8 - ((i.toNat - 8 * j : Nat) : Int)) = ((8 - (i.toNat - 8 * j) : Nat) : Int) := by rw [wrap64 (by omega) (by omega)]; omega
        refine qJ ?_; repeat' (first | (with_reducible first | apply qK | apply qS) | ((with_reducible first | apply qI | apply qB | apply qR | apply qT) <;> try simp only [qN, qC, qE, qG, qD, qA, qF, seval, qQ, qO, qP, yM, d0, w1, d2, u1, u2, bv, w3, d8, w5]))
        refine ⟨by omega, by omega, ?_⟩
        refine qJ ?_; repeat' (first | ((with_reducible first | apply qI | apply qB) <;> try simp only [qN, qC, qE, qG, qD, qA, qF, seval, qQ, qO, qP, yM]))
        rw [zB7 _ (by omega)]
        refine qH7 vA fun k2 h2 r2 s2 f2 n2 => ?_
        refine qJ ?_; repeat' (first | ((with_reducible apply qI) <;> try simp only [qN, qC, qE, qG, qD, qA, qF, seval, qQ, qO, qP, yM]))
        refine jI vA Tryz.underlying22 rfl (s1.trans s2) (rL.hs s2) (ap.hs s2) r2.src (by simp; omega) fun v3 h3 s3 _ _ ap3 r3 => ?_
        refine qJ ?_; repeat' (first | ((with_reducible first | apply qI | apply qB) <;> try simp only [qN, qC, qE, qG, qD, qA, qF, seval, qQ, qO, qP, yM, w4]))
        refine ⟨_, (j + 1, v3), ?_, (by simp only [List.forall_mem_cons, List.not_mem_nil, false_implies, implies_true, List.map, List.cons_append, List.nil_append, lk, Nat.reduceEqDiff, reduceIte, and_true, true_and]), rfl, by omega, s3, ap3, _, r3, .inr ⟨?_, by omega⟩⟩
        · omega
        · have := pK l j (i.toNat - 8 * j) hjl (by omega) h8
          rw [show 8 * j + (i.toNat - 8 * j) = i.toNat by omega] at this
          rw [this]
      · have d8 : decide (((i.toNat - 8 * j : Nat) : Int) < 8) = false := decide_eq_false (by omega)
        refine qJ ?_; repeat' (first | (with_reducible first | apply qK | apply qS) | ((with_reducible first | apply qI | apply qB | apply qR | apply qT) <;> try simp only [qN, qC, qE, qG, qD, qA, qF, seval, qQ, qO, qP, yM, d0, w1, d2, u1, u2, bv, w3, d8]))
        refine qH7 vA fun k2 h2 r2 s2 f2 n2 => ?_
        refine qJ ?_; repeat' (first | ((with_reducible apply qI) <;> try simp only [qN, qC, qE, qG, qD, qA, qF, seval, qQ, qO, qP, yM]))
        refine jI vA Tryz.underlying22 rfl (s1.trans s2) (rL.hs s2) (ap.hs s2) r2.src (by simp; omega) fun v3 h3 s3 _ _ ap3 r3 => ?_
        refine qJ ?_; repeat' (first | ((with_reducible first | apply qI | apply qB) <;> try simp only [qN, qC, qE, qG, qD, qA, qF, seval, qQ, qO, qP, yM, w4]))
        refine ⟨_, (j + 1, v3), ?_, (by simp only [List.forall_mem_cons, List.not_mem_nil, false_implies, implies_true, List.map, List.cons_append, List.nil_append, lk, Nat.reduceEqDiff, reduceIte, and_true, true_and]), rfl, by omega, s3, ap3, _, r3, .inl ⟨?_, by omega⟩⟩
        · omega
        · rw [List.take_add_one, List.getD, List.getElem?_eq_getElem hjl]; rfl
    · have d2 : decide ((j : Int) < (l.length : Int)) = false := decide_eq_false (by omega)
      refine qJ ?_; repeat' (first | with_reducible apply qK | ((with_reducible first | apply qI | apply qB | apply qR | apply xT | apply qM) <;> try simp only [qN, qC, qE, qG, qD, qA, qF, seval, qQ, qO, qP, yM, d0, w1, d2]))
      have e : L = zG l i.toNat := by
        rcases hL with ⟨rfl, hL⟩ | ⟨rfl, hL⟩
        · rw [lB l _ (by omega), List.take_of_length_le (by omega)]
        · rfl
      rw [← e]
      obtain ⟨a', c', rfl, _⟩ := rL.form
      exact ⟨s1, a', c', rfl, rL⟩
  · have d0 : decide (((8 * j : Nat) : Int) < i) = false := decide_eq_false h0
    refine qJ ?_; repeat' (first | with_reducible apply qK | ((with_reducible first | apply qI | apply qB | apply qR | apply xT | apply qM) <;> try simp only [qN, qC, qE, qG, qD, qA, qF, seval, qQ, qO, qP, yM, d0]))
    have e : L = zG l i.toNat := by
      rcases hL with ⟨rfl, hL⟩ | ⟨rfl, hL⟩
      · rw [show i.toNat = 8 * j by omega, pJ]
      · rfl
    rw [← e]
    obtain ⟨a', c', rfl, _⟩ := rL.form
    exact ⟨s1, a', c', rfl, rL⟩
theorem pM : type_of% (And.intro Tryz.underlying160 (And.intro mW (And.intro ty160 (And.intro xB (And.intro wF rs77))))) := And.intro Tryz.underlying160 (And.intro mW (And.intro ty160 (And.intro xB (And.intro wF rs77))))
theorem dW : type_of% (And.intro mH (And.intro mG (And.intro zF (And.intro qQ6 (And.intro xB (And.intro wF rs106)))))) := And.intro mH (And.intro mG (And.intro zF (And.intro qQ6 (And.intro xB (And.intro wF rs106)))))
def RBc (h : GH) (cs : List Value) (x : List UInt8) : Prop := ∃ a c, cs = [.slice a x.length c] ∧ RB h (.slice a x.length c) x
theorem RBc.hs {h h' : GH} (k : HS h h') {cs : List Value} {x : List UInt8} (r : RBc h cs x) : RBc h' cs x := by
  obtain ⟨a, c, rfl, q⟩ := r
  exact ⟨a, c, rfl, q.hs k⟩
abbrev RBs (h : GH) (v : Value) (l : List (List UInt8)) : Prop := RL 1 RBc h v l
theorem RBs.hs {h h' : GH} (k : HS h h') {v : Value} {l : List (List UInt8)} (r : RBs h v l) : RBs h' v l := RL.hcR (R := RBc) r k.hc fun _ _ q => q.hs k
theorem kZ {h : GH} {k es : Nat} {wr tl : Bool} {vs : List Value} {l : List (List UInt8)} (hk : h k = some ⟨vs, es, wr, tl⟩) (he : es ≠ 0) (hl : vs.length = l.length) (hv : ∀ (i : Nat) x, l[i]? = some x → ∃ a c, vs[i]? = some (.slice a x.length c) ∧ RB h (.slice a x.length c) x) : RBs h (.slice (some ⟨k, 0, none⟩) l.length (2 * l.length + 1)) l := by
  refine .inr ⟨⟨k, 0, none⟩, _, vs, rfl, yF hk (by rw [List.drop_zero, Nat.mul_one, ← hl, List.take_length]) (by omega), by omega, fun i x hx => ?_, .inr ⟨_, hk, .inl he⟩⟩
  obtain ⟨a, c, h1, h2⟩ := hv i x hx
  refine ⟨a, c, ?_, h2⟩
  rw [Nat.mul_one]
  obtain ⟨h3, h4⟩ := List.getElem?_eq_some_iff.1 h1
  rw [List.drop_eq_getElem_cons h3, h4]; rfl
def vJ (n : Nat) : List UInt8 := arr 8 fun i => UInt8.ofNat (n / 256 ^ (7 - i) % 256)
theorem vD (n : Nat) : (vJ n).length = 8 := vB _ _
def partB (p : List UInt8) : List UInt8 := UInt8.ofNat (p.length / 256 % 256) :: UInt8.ofNat (p.length % 256) :: p
def yX (tag : Nat) (ps : List (List UInt8)) : List UInt8 := UInt8.ofNat tag :: ps.flatMap partB
def gJ (ps : List (List UInt8)) : Nat := (ps.map fun p => p.length + 2).sum
theorem fD : ∀ ps : List (List UInt8), (ps.flatMap partB).length = gJ ps
  | [] => rfl
  | p :: ps => by
    have := fD ps
    simp only [List.flatMap_cons, List.length_append, gJ, List.map_cons, List.sum_cons, partB, List.length_cons] at this ⊢
    omega
theorem zO7 {α : Type} (f : α → List UInt8) (L : List α) {i : Nat} {x : α} (h : L[i]? = some x) : (L.take (i + 1)).flatMap f = (L.take i).flatMap f ++ f x := by
  simp [List.take_add_one, h]
theorem fm_le {α : Type} (f : α → List UInt8) (L : List α) (i : Nat) : ((L.take i).flatMap f).length ≤ (L.flatMap f).length := by
  have : L.flatMap f = (L.take i).flatMap f ++ (L.drop i).flatMap f := by rw [← List.flatMap_append, List.take_append_drop]
  rw [this, List.length_append]; omega
theorem idx160 {k j : Nat} (h : j < 8) : zJ Tryz.prog 160 (.pointer (some ⟨k, 0, none⟩)) (j : Int) = some (.pointer (some ⟨k, j, none⟩)) := by
  simp [zJ, Tryz.underlying160, sH]; omega
theorem shr8 (n : Nat) : (n : Int).fdiv (2 ^ min 8 IntKind.i64.bits) = ((n / 256 : Nat) : Int) := by
  rw [show min 8 IntKind.i64.bits = 8 from rfl, show (2 : Int) ^ 8 = ((256 : Nat) : Int) from rfl, Int.fdiv_eq_ediv_of_nonneg _ (by omega), ← Int.natCast_ediv]
theorem sF (N : Nat) (h : GH) (n : Nat) (hn : n ≤ 4611686018427387904) : GTri Tryz.prog N 77 [.int .i64 n] h fun v h' => HS h h' ∧ ∃ k, v = .slice (some ⟨k, 0, none⟩) 8 17 ∧ RB h' (.slice (some ⟨k, 0, none⟩) (vJ n).length 17) (vJ n) := by
  refine zU Tryz.func77 rfl gf77 ok77 (by simp [Tryz.ntmps77]) ?_
  repeat' (first | with_reducible apply qK | ((with_reducible apply qB) <;> try simp only [qN, qC, qE, qG, qD, qA, qF, seval, qQ, qO, qP, pM]))
  refine xE fun k h1 m1 s1 f1 n1 => ?_
  have e1 : h1 k = some ⟨zA3 8 (fun j => if 8 ≤ j + 0 then UInt8.ofNat (n / 256 ^ (7 - j) % 256) else 0), 0, true, false⟩ := m1
  clear m1
  refine qJ ?_; repeat' (first | (with_reducible first | apply qK | apply qS) | ((with_reducible first | apply qI | apply qB) <;> try simp only [qN, qC, qE, qG, qD, qA, qF, seval, qQ, qO, qP, pM]))
  refine xR [2, 3] (fun (p : Nat) => [(0, .int .i64 ((n / 256 ^ p : Nat) : Int)), (4, .int .i64 (8 - (p : Int)))]) (fun z p h' => 8 - p = z ∧ p ≤ 8 ∧ HX k h1 h' ∧ h' k = some ⟨zA3 8 (fun j => if 8 ≤ j + p then UInt8.ofNat (n / 256 ^ (7 - j) % 256) else 0), 0, true, false⟩) 8 0 (by simp [lk]) ⟨rfl, by omega, HX.refl _ _, e1⟩ ?_
  rintro _ p h2 ⟨rfl, hp, x2, m2⟩
  by_cases hp8 : p < 8
  case pos =>
    have d1 : decide (8 - (p : Int) > 0) = true := decide_eq_true (by omega)
    have w1 : IntKind.i64.wrap (8 - (p : Int) - 1) = ((7 - p : Nat) : Int) := by rw [wrap64 (by omega) (by omega)]; omega
    have w2 := uN (n / 256 ^ p)
    have w3 := shr8 (n / 256 ^ p)
    have w4 : n / 256 ^ p / 256 = n / 256 ^ (p + 1) := by rw [Nat.div_div_eq_div_mul, Nat.pow_succ]
    have w5 : ((7 - p : Nat) : Int) = 8 - ((p + 1 : Nat) : Int) := by omega
    rw [w4] at w3
    have gi := idx160 (k := k) (j := 7 - p) (by omega)
    refine qJ ?_; repeat' (first | (with_reducible first | apply qK | apply qS) | ((with_reducible first | apply qI | apply qB | apply qR | apply qT) <;> try simp only [qN, qC, qE, qG, qD, qA, qF, seval, qQ, qO, qP, pM, d1, w1, w2, gi]))
    refine zW m2 sH rfl (by rw [vB]; omega) rfl rfl fun h3 m3 f3 => ?_
    have m4 : h3 k = some ⟨zA3 8 (fun j => if 8 ≤ j + (p + 1) then UInt8.ofNat (n / 256 ^ (7 - j) % 256) else 0), 0, true, false⟩ := by
      rw [← qZ7 (fun j => if 8 ≤ j + p then UInt8.ofNat (n / 256 ^ (7 - j) % 256) else 0) (i := 7 - p) (x := UInt8.ofNat (n / 256 ^ p % 256)) _ (fun j hj => ?_)]
      · exact m3
      · by_cases e : j = 7 - p
        · subst e; rw [if_pos rfl, if_pos (by omega), show 7 - (7 - p) = p by omega]
        · rw [if_neg e]
          by_cases h : 8 ≤ j + p
          · rw [if_pos h, if_pos (by omega)]
          · rw [if_neg h, if_neg (by omega)]
    refine qJ ?_; repeat' (first | ((with_reducible first | apply qI | apply qB) <;> try simp only [qN, qC, qE, qG, qD, qA, qF, seval, qQ, qO, qP, pM, w1, w3, w5]))
    exact ⟨_, p + 1, by omega, (by simp only [List.forall_mem_cons, List.not_mem_nil, false_implies, implies_true, List.map, List.cons_append, List.nil_append, lk, Nat.reduceEqDiff, reduceIte, and_true, true_and]), rfl, by omega, x2.trans (zH f3), m4⟩
  have d1 : decide (8 - (p : Int) > 0) = false := decide_eq_false (by omega)
  obtain rfl : p = 8 := by omega
  have gq : vW Tryz.prog 160 h2 (.pointer (some ⟨k, 0, none⟩)) none none none = some (.slice (some ⟨k, 0, none⟩) 8 17) := by
    simp [vW, Tryz.underlying160, sH, gM, dP]
  refine qJ ?_; repeat' (first | with_reducible apply qK | ((with_reducible first | apply qI | apply qB | apply qR | apply xT | apply qM) <;> try simp only [qN, qC, qE, qG, qD, qA, qF, seval, qQ, qO, qP, pM, d1, gq]))
  refine ⟨x2.new s1 n1, k, rfl, ?_⟩
  have e : zA3 8 (fun j => if 8 ≤ j + 8 then UInt8.ofNat (n / 256 ^ (7 - j) % 256) else 0) = (vJ n).map bv := by
    rw [vJ, ← qZ8]
    exact qO8 fun j hj => by
      show bv (if 8 ≤ j + 8 then _ else 0) = _
      rw [if_pos (by omega)]
  rw [e] at m2
  exact yN m2 rfl
theorem rA (N : Nat) (h : GH) (n : Nat) (hn : n ≤ 4611686018427387904) : GTri Tryz.prog N 106 [.int .i64 n] h fun v h' => HS h h' ∧ ∃ a c, v = .slice a 8 c ∧ RB h' (.slice a (vJ n).length c) (vJ n) := by
  have w4 : IntKind.u64.wrap (n : Int) = (n : Int) := fK (by omega) (by omega)
  refine zU Tryz.func106 rfl gf106 ok106 (by simp [Tryz.ntmps106]) ?_
  repeat' (first | (with_reducible first | apply qK | apply qS) | ((with_reducible apply qB) <;> try simp only [qN, qC, qE, qG, qD, qA, qF, seval, qQ, qO, qP, dW]))
  refine xR [0, 2] (fun (y : Nat × (Option Addr × Nat)) => [(3, .slice y.2.1 ((vJ n).take y.1).length y.2.2), (4, .int .i64 (56 - 8 * (y.1 : Int)))]) (fun z y h' => 8 - y.1 = z ∧ y.1 ≤ 8 ∧ HS h h' ∧ OWN h h' (.slice y.2.1 ((vJ n).take y.1).length y.2.2) ((vJ n).take y.1)) 8 (0, none, 0) (by simp [lk]) ⟨rfl, by omega, HS.refl _, OWN.nil _ _⟩ ?_
  rintro _ ⟨p, a1, c1⟩ h1 ⟨rfl, hp, s1, o1⟩
  simp only at hp o1
  by_cases hp8 : p < 8
  case pos =>
    have d3 : decide (56 - 8 * (p : Int) ≥ 0) = true := decide_eq_true (by omega)
    have w5 : (n : Int).fdiv (2 ^ min (56 - 8 * (p : Int)).toNat IntKind.u64.bits) = ((n / 256 ^ (7 - p) : Nat) : Int) := by
      rw [show (56 - 8 * (p : Int)).toNat = 8 * (7 - p) by omega, show min (8 * (7 - p)) IntKind.u64.bits = 8 * (7 - p) from Nat.min_eq_left (by simp [IntKind.bits]; omega)]
      rw [show (2 : Int) ^ (8 * (7 - p)) = ((256 ^ (7 - p) : Nat) : Int) by rw [Int.pow_mul]; push_cast; rfl, Int.fdiv_eq_ediv_of_nonneg _ (Int.natCast_nonneg _), ← Int.natCast_ediv]
    have w6 := uN (n / 256 ^ (7 - p))
    have w7 : IntKind.i64.wrap (56 - 8 * (p : Int) - 8) = 56 - 8 * ((p + 1 : Nat) : Int) := by rw [wrap64 (by omega) (by omega)]; omega
    refine qJ ?_; repeat' (first | (with_reducible first | apply qK | apply qS) | ((with_reducible first | apply qI | apply qB | apply qR | apply qT) <;> try simp only [qN, qC, qE, qG, qD, qA, qF, seval, qQ, qO, qP, dW, d3, w4, w5, w6]))
    refine ⟨by omega, ?_⟩
    refine qJ ?_; repeat' (first | ((with_reducible apply qI) <;> try simp only [qN, qC, qE, qG, qD, qA, qF, seval, qQ, qO, qP, dW, d3, w4, w5, w6]))
    refine qH7 (x := UInt8.ofNat (n / 256 ^ (7 - p) % 256)) vA fun kb h2 r2 s2 f2 n2 => ?_
    refine qJ ?_; repeat' (first | ((with_reducible apply qI) <;> try simp only [qN, qC, qE, qG, qD, qA, qF, seval, qQ, qO, qP, dW]))
    refine xW vA Tryz.underlying22 rfl (s1.trans s2) (o1.hs s2) r2.src (by rw [List.length_take, vD]; simp; omega) fun v3 h3 s3 x3 o3 => ?_
    have e : (vJ n).take p ++ [UInt8.ofNat (n / 256 ^ (7 - p) % 256)] = (vJ n).take (p + 1) := by
      rw [List.take_add_one, vJ, tB _ hp8]; rfl
    rw [e] at o3
    obtain ⟨a3, c3, rfl⟩ := o3.form
    refine qJ ?_; repeat' (first | ((with_reducible first | apply qI | apply qB) <;> try simp only [qN, qC, qE, qG, qD, qA, qF, seval, qQ, qO, qP, dW, w7]))
    exact ⟨_, (p + 1, a3, c3), by omega, (by simp only [List.forall_mem_cons, List.not_mem_nil, false_implies, implies_true, List.map, List.cons_append, List.nil_append, lk, Nat.reduceEqDiff, reduceIte, and_true, true_and]), rfl, by omega, s3, o3⟩
  have d3 : decide (56 - 8 * (p : Int) ≥ 0) = false := decide_eq_false (by omega)
  obtain rfl : p = 8 := by omega
  rw [List.take_of_length_le (by rw [vD]; omega)] at o1
  refine qJ ?_; repeat' (first | with_reducible apply qK | ((with_reducible first | apply qI | apply qB | apply qR | apply xT | apply qM) <;> try simp only [qN, qC, qE, qG, qD, qA, qF, seval, qQ, qO, qP, dW, d3]))
  exact ⟨s1, a1, c1, by rw [List.take_of_length_le (by rw [vD]; omega), vD], o1.rb⟩
theorem zK3 : type_of% (And.intro zF (And.intro xB (And.intro wF rs150))) := And.intro zF (And.intro xB (And.intro wF rs150))
theorem lD : type_of% (And.intro zF (And.intro jA (And.intro xB (And.intro wF rs159)))) := And.intro zF (And.intro jA (And.intro xB (And.intro wF rs159)))
theorem zK2 : type_of% (And.intro Tryz.underlying185 (And.intro zF (And.intro jA (And.intro zM0 (And.intro xB rs151))))) := And.intro Tryz.underlying185 (And.intro zF (And.intro jA (And.intro zM0 (And.intro xB rs151))))
theorem kS : type_of% (And.intro Tryz.underlying185 (And.intro mW (And.intro qT4 (And.intro zF (And.intro jA (And.intro zM0 (And.intro xB (And.intro wF rs123)))))))) := And.intro Tryz.underlying185 (And.intro mW (And.intro qT4 (And.intro zF (And.intro jA (And.intro zM0 (And.intro xB (And.intro wF rs123)))))))
theorem kU : type_of% (And.intro mW (And.intro zF (And.intro jA (And.intro xB (And.intro wF rs105))))) := And.intro mW (And.intro zF (And.intro jA (And.intro xB (And.intro wF rs105))))
theorem c_long (N : Nat) (h : GH) (a : Option Addr) (n c : Nat) : GTri Tryz.prog N 150 [.slice a n c] h fun v h' => v = .bool (decide ((n : Int) > 65535)) ∧ h' = h := by
  refine zU Tryz.func150 rfl gf150 ok150 (by simp [Tryz.ntmps150]) ?_
  repeat' (first | with_reducible apply qK | ((with_reducible first | apply qB | apply qM) <;> try simp only [qN, qC, qE, qG, qD, qA, qF, seval, qQ, qO, qP, zK3]))
theorem zG8 (N : Nat) (h : GH) {a : Option Addr} {c : Nat} {ps : List (List UInt8)} (r : RBs h (.slice a ps.length c) ps) (hs : ∀ p ∈ ps, p.length ≤ 65535) (hl : ps.length ≤ 1000000) : GTri Tryz.prog N 159 [.slice a ps.length c, .func (.func 150) #[] #[]] h fun v h' => v = .int .i64 (-1) ∧ h' = h := by
  refine zU Tryz.func159 rfl gf159 ok159 (by simp [Tryz.ntmps159]) ?_
  repeat' (first | (with_reducible first | apply qK | apply qS) | ((with_reducible apply qB) <;> try simp only [qN, qC, qE, qG, qD, qA, qF, seval, qQ, qO, qP, lD]))
  refine xR [0, 1, 7] (fun (i : Nat) => [(8, .int .i64 (i : Int))]) (fun q i h' => ps.length - i = q ∧ i ≤ ps.length ∧ h = h') ps.length 0 (by simp [lk]) ⟨rfl, by omega, rfl⟩ ?_
  rintro _ j _ ⟨rfl, hj, rfl⟩
  by_cases hil : j < ps.length
  case neg =>
    have d3 : decide ((j : Int) < (ps.length : Int)) = false := decide_eq_false (by omega)
    refine qJ ?_; repeat' (first | with_reducible apply qK | ((with_reducible first | apply qI | apply qB | apply qR | apply xT | apply qM) <;> try simp only [qN, qC, qE, qG, qD, qA, qF, seval, qQ, qO, qP, lD, d3]))
  have d3 : decide ((j : Int) < (ps.length : Int)) = true := decide_eq_true (by omega)
  have wi : IntKind.i64.wrap ((j : Int) + 1) = ((j + 1 : Nat) : Int) := by rw [wrap64 (by omega) (by omega)]; omega
  obtain ⟨x, hx⟩ : ∃ x, ps[j]? = some x := ⟨_, List.getElem?_eq_getElem hil⟩
  obtain ⟨ad, cs2, g1, g2, a', c', rfl, p1⟩ := RL.at (P := Tryz.prog) r Tryz.underlying36 zD hx
  have d4 : decide ((x.length : Int) > 65535) = false := decide_eq_false (by have := hs x (List.mem_of_getElem? hx); omega)
  refine qJ ?_; repeat' (first | (with_reducible first | apply qK | apply qS) | ((first | (with_reducible first | apply qI | apply qB | apply qR | apply qT) | ((refine GTri.mono (c_long _ _ _ _ _) ?_); rintro _ _ ⟨rfl, hh9⟩; replace hh9 := hh9.symm; subst hh9)) <;> try simp only [qN, qC, qE, qG, qD, qA, qF, seval, qQ, qO, qP, lD, d3, g1, lZ zD g2, d4, wi]))
  exact ⟨_, j + 1, by omega, (by simp only [List.forall_mem_cons, List.not_mem_nil, false_implies, implies_true, List.map, List.cons_append, List.nil_append, lk, Nat.reduceEqDiff, reduceIte, and_true, true_and]), rfl, by omega⟩
theorem qO3 (N : Nat) (h : GH) {a : Option Addr} {c : Nat} {ps : List (List UInt8)} (r : RBs h (.slice a ps.length c) ps) (hs : ∀ p ∈ ps, p.length ≤ 65535) (hl : ps.length ≤ 1000000) : GTri Tryz.prog N 151 [.slice a ps.length c, .func (.func 150) #[] #[]] h fun v h' => v = .bool false ∧ h' = h := by
  refine zU Tryz.func151 rfl gf151 ok151 (by simp [Tryz.ntmps151]) ?_
  repeat' (first | with_reducible apply qK | ((first | (with_reducible first | apply qB | apply qM) | ((refine GTri.mono (zG8 _ _ r hs hl) ?_); rintro _ _ ⟨rfl, hh9⟩; replace hh9 := hh9.symm; subst hh9)) <;> try simp only [qN, qC, qE, qG, qD, qA, qF, seval, qQ, qO, qP, zK2]))
theorem AP.sl {h0 h : GH} {v : Value} (p : AP h0 h v 1) : SL h v := by
  intro ad n c e
  subst e
  rcases p with p | p | p
  · obtain ⟨_, h⟩ := p; cases h
  · obtain ⟨_, _, h⟩ := p; cases h; exact .inr (.inl (by omega))
  · obtain ⟨_, _, _, B, h, _, hB, _, _, he, _⟩ := p
    cases h
    exact .inr (.inr (by simp [zE7, hB, he]))
theorem c_Text (N : Nat) (h : GH) {tag : Nat} (ht : tag ≤ 255) {a : Option Addr} {c : Nat} {ps : List (List UInt8)} (r : RBs h (.slice a ps.length c) ps) (hs : ∀ p ∈ ps, p.length ≤ 65535) (hl : ps.length ≤ 1000000) (hp : gJ ps ≤ 100000000) : GTri Tryz.prog N 123 [.int .i64 tag, .slice a ps.length c] h fun v h' => HS h h' ∧ ∃ a c, v = .tuple #[.slice a (yX tag ps).length c, .int .i64 0] ∧ RB h' (.slice a (yX tag ps).length c) (yX tag ps) ∧ SL h' (.slice a (yX tag ps).length c) := by
  obtain ⟨W, hW⟩ : ∃ W : Nat → List UInt8, ∀ i, W i = UInt8.ofNat tag :: (ps.take i).flatMap partB := ⟨_, fun _ => rfl⟩
  have w0 : [UInt8.ofNat tag] = W 0 := by rw [hW]; rfl
  have hpl := fD ps
  have wl : ∀ i, (W i).length ≤ 1 + gJ ps := fun i => by
    have := fm_le partB ps i
    rw [hW, List.length_cons]; omega
  have wn : W ps.length = yX tag ps := by rw [hW, List.take_length]; rfl
  have t1 : IntKind.u8.wrap (tag : Int) = ((UInt8.ofNat tag).toNat : Int) := by
    rw [UInt8.toNat_ofNat_of_lt' (by simpa using (by omega : tag < 256)), sJ (by omega) (by omega)]
  have t2 : IntKind.i64.wrap ((UInt8.ofNat tag).toNat : Int) = (tag : Int) := by
    rw [UInt8.toNat_ofNat_of_lt' (by simpa using (by omega : tag < 256))]; exact lG (by omega)
  have t4 : ((tag : Int) != (tag : Int)) = false := by simp
  refine zU Tryz.func123 rfl gf123 ok123 (by simp [Tryz.ntmps123]) ?_
  repeat' (first | with_reducible apply qK | ((first | (with_reducible first | apply qB | apply qR | apply qT) | ((refine GTri.mono (qO3 _ _ r hs hl) ?_); rintro _ _ ⟨rfl, hh9⟩; replace hh9 := hh9.symm; subst hh9)) <;> try simp only [qN, qC, qE, qG, qD, qA, qF, seval, qQ, qO, qP, kS, t1, t2, t4]))
  refine qH7 (x := UInt8.ofNat tag) vA fun kb h1 r1 s1 f1 n1 => ?_
  have e1 : 1 = (W 0).length := by rw [← w0]; rfl
  have ap1 : AP h h1 (.slice (some ⟨kb, 0, none⟩) (W 0).length 3) 1 := .inr (.inl ⟨_, 1, by rw [← e1]⟩)
  rw [w0, e1] at r1
  refine qJ ?_; repeat' (first | (with_reducible first | apply qK | apply qS) | ((with_reducible first | apply qI | apply qB) <;> try simp only [qN, qC, qE, qG, qD, qA, qF, seval, qQ, qO, qP, kS]))
  refine xR [4, 5, 22, 23] (fun (y : Nat × (Option Addr × Nat)) => [(7, .slice y.2.1 (W y.1).length y.2.2), (24, .int .i64 (y.1 : Int))]) (fun z y h' => ps.length - y.1 = z ∧ y.1 ≤ ps.length ∧ HS h h' ∧ RB h' (.slice y.2.1 (W y.1).length y.2.2) (W y.1) ∧ AP h h' (.slice y.2.1 (W y.1).length y.2.2) 1) ps.length (0, some ⟨kb, 0, none⟩, 3) (by simp only [← w0]; simp [lk]) ⟨rfl, by omega, s1, r1, ap1⟩ ?_
  rintro _ ⟨j, a2, c2⟩ h2 ⟨rfl, hj, s2, r2, ap2⟩
  simp only at hj r2 ap2
  have wj := wl j
  by_cases hil : j < ps.length
  case neg =>
    have d3 : decide ((j : Int) < (ps.length : Int)) = false := decide_eq_false (by omega)
    obtain rfl : j = ps.length := by omega
    rw [wn] at r2 ap2
    simp only [wn]
    refine qJ ?_; repeat' (first | with_reducible apply qK | ((with_reducible first | apply qI | apply qB | apply qR | apply xT | apply qM) <;> try simp only [qN, qC, qE, qG, qD, qA, qF, seval, qQ, qO, qP, kS, d3]))
    exact ⟨s2, a2, c2, rfl, r2, ap2.sl⟩
  have d3 : decide ((j : Int) < (ps.length : Int)) = true := decide_eq_true (by omega)
  have wi : IntKind.i64.wrap ((j : Int) + 1) = ((j + 1 : Nat) : Int) := by rw [wrap64 (by omega) (by omega)]; omega
  obtain ⟨x, hx⟩ : ∃ x, ps[j]? = some x := ⟨_, List.getElem?_eq_getElem hil⟩
  obtain ⟨ad, cs2, g1, g2, a', c', rfl, p1⟩ := RL.at (P := Tryz.prog) (RBs.hs s2 r) Tryz.underlying36 zD hx
  have hxs := hs x (List.mem_of_getElem? hx)
  have d4 : decide ((x.length : Int) > 65535) = false := decide_eq_false (by omega)
  have b1 := shr8 x.length
  have b2 := uN (x.length / 256)
  have b3 := uN x.length
  have wj1 := wl (j + 1)
  have ww : W (j + 1) = W j ++ [UInt8.ofNat (x.length / 256 % 256), UInt8.ofNat (x.length % 256)] ++ x := by rw [hW, hW, zO7 partB ps hx, partB]; simp
  refine qJ ?_; repeat' (first | (with_reducible first | apply qK | apply qS) | ((with_reducible first | apply qI | apply qB | apply qR | apply qT) <;> try simp only [qN, qC, qE, qG, qD, qA, qF, seval, qQ, qO, qP, kS, d3, g1, lZ zD g2, d4, b1, b2, b3]))
  refine fJ (cs := ([UInt8.ofNat (x.length / 256 % 256), UInt8.ofNat (x.length % 256)] : List UInt8).map bv) vA rfl (by decide) (by decide) (by rw [wD _ rfl]; rfl) rfl fun k3 h3 m3 s3 f3 n3 => ?_
  have r3 : RB h3 (.slice (some ⟨k3, 0, none⟩) 2 5) [UInt8.ofNat (x.length / 256 % 256), UInt8.ofNat (x.length % 256)] := yN m3 rfl
  refine qJ ?_; repeat' (first | ((with_reducible apply qI) <;> try simp only [qN, qC, qE, qG, qD, qA, qF, seval, qQ, qO, qP, kS]))
  refine jI vA Tryz.underlying22 rfl (s2.trans s3) (r2.hs s3) (ap2.hs s3) r3.src (by simp; omega) fun v4 h4 s4 hc4 _ ap4 r4 => ?_
  refine qJ ?_; repeat' (first | ((with_reducible first | apply qI | apply qB) <;> try simp only [qN, qC, qE, qG, qD, qA, qF, seval, qQ, qO, qP, kS]))
  refine jI vA Tryz.underlying22 rfl s4 r4 ap4 ((p1.hs s3).hc hc4).src (by simp; omega) fun v5 h5 s5 hc5 _ ap5 r5 => ?_
  rw [← ww] at r5
  obtain ⟨a5, c5, rfl, _⟩ := r5.form
  refine qJ ?_; repeat' (first | ((with_reducible first | apply qI | apply qB) <;> try simp only [qN, qC, qE, qG, qD, qA, qF, seval, qQ, qO, qP, kS, wi]))
  exact ⟨_, (j + 1, a5, c5), by omega, (by simp only [List.forall_mem_cons, List.not_mem_nil, false_implies, implies_true, List.map, List.cons_append, List.nil_append, lk, Nat.reduceEqDiff, reduceIte, and_true, true_and]), rfl, by omega, s5, r5, ap5⟩
theorem qJ6 (N : Nat) (h : GH) {tag : Nat} (ht : tag ≤ 255) {a : Option Addr} {c : Nat} {ps : List (List UInt8)} (r : RBs h (.slice a ps.length c) ps) (hs : ∀ p ∈ ps, p.length ≤ 65535) (hl : ps.length ≤ 1000000) (hp : gJ ps ≤ 100000000) : GTri Tryz.prog N 105 [.int .i64 tag, .slice a ps.length c] h fun v h' => HS h h' ∧ ∃ a c, v = .tuple #[.slice a (yX tag ps).length c, .int .i64 0] ∧ RB h' (.slice a (yX tag ps).length c) (yX tag ps) ∧ SL h' (.slice a (yX tag ps).length c) := by
  obtain ⟨W, hW⟩ : ∃ W : Nat → List UInt8, ∀ i, W i = UInt8.ofNat tag :: (ps.take i).flatMap partB := ⟨_, fun _ => rfl⟩
  have w0 : [UInt8.ofNat tag] = W 0 := by rw [hW]; rfl
  have hpl := fD ps
  have wl : ∀ i, (W i).length ≤ 1 + gJ ps := fun i => by
    have := fm_le partB ps i
    rw [hW, List.length_cons]; omega
  have wn : W ps.length = yX tag ps := by rw [hW, List.take_length]; rfl
  have t1 : IntKind.u8.wrap (tag : Int) = ((UInt8.ofNat tag).toNat : Int) := by
    rw [UInt8.toNat_ofNat_of_lt' (by simpa using (by omega : tag < 256)), sJ (by omega) (by omega)]
  have t2 : IntKind.i64.wrap ((UInt8.ofNat tag).toNat : Int) = (tag : Int) := by
    rw [UInt8.toNat_ofNat_of_lt' (by simpa using (by omega : tag < 256))]; exact lG (by omega)
  have t4 : decide ((tag : Int) < 0) = false := decide_eq_false (by omega)
  have t5 : decide ((tag : Int) > 255) = false := decide_eq_false (by omega)
  refine zU Tryz.func105 rfl gf105 ok105 (by simp [Tryz.ntmps105]) ?_
  repeat' (first | with_reducible apply qK | ((with_reducible first | apply qB | apply qR | apply qT) <;> try simp only [qN, qC, qE, qG, qD, qA, qF, seval, qQ, qO, qP, kU, t1, t2, t4, t5]))
  refine qH7 (x := UInt8.ofNat tag) vA fun kb h1 r1 s1 f1 n1 => ?_
  have e1 : 1 = (W 0).length := by rw [← w0]; rfl
  have ap1 : AP h h1 (.slice (some ⟨kb, 0, none⟩) (W 0).length 3) 1 := .inr (.inl ⟨_, 1, by rw [← e1]⟩)
  rw [w0, e1] at r1
  refine qJ ?_; repeat' (first | (with_reducible first | apply qK | apply qS) | ((with_reducible first | apply qI | apply qB) <;> try simp only [qN, qC, qE, qG, qD, qA, qF, seval, qQ, qO, qP, kU]))
  refine xR [18, 19] (fun (y : Nat × (Option Addr × Nat)) => [(6, .slice y.2.1 (W y.1).length y.2.2), (20, .int .i64 (y.1 : Int))]) (fun z y h' => ps.length - y.1 = z ∧ y.1 ≤ ps.length ∧ HS h h' ∧ RB h' (.slice y.2.1 (W y.1).length y.2.2) (W y.1) ∧ AP h h' (.slice y.2.1 (W y.1).length y.2.2) 1) ps.length (0, some ⟨kb, 0, none⟩, 3) (by simp only [← w0]; simp [lk]) ⟨rfl, by omega, s1, r1, ap1⟩ ?_
  rintro _ ⟨j, a2, c2⟩ h2 ⟨rfl, hj, s2, r2, ap2⟩
  simp only at hj r2 ap2
  have wj := wl j
  by_cases hil : j < ps.length
  case neg =>
    have d3 : decide ((j : Int) < (ps.length : Int)) = false := decide_eq_false (by omega)
    obtain rfl : j = ps.length := by omega
    rw [wn] at r2 ap2
    simp only [wn]
    refine qJ ?_; repeat' (first | with_reducible apply qK | ((with_reducible first | apply qI | apply qB | apply qR | apply xT | apply qM) <;> try simp only [qN, qC, qE, qG, qD, qA, qF, seval, qQ, qO, qP, kU, d3]))
    exact ⟨s2, a2, c2, rfl, r2, ap2.sl⟩
  have d3 : decide ((j : Int) < (ps.length : Int)) = true := decide_eq_true (by omega)
  have wi : IntKind.i64.wrap ((j : Int) + 1) = ((j + 1 : Nat) : Int) := by rw [wrap64 (by omega) (by omega)]; omega
  obtain ⟨x, hx⟩ : ∃ x, ps[j]? = some x := ⟨_, List.getElem?_eq_getElem hil⟩
  obtain ⟨ad, cs2, g1, g2, a', c', rfl, p1⟩ := RL.at (P := Tryz.prog) (RBs.hs s2 r) Tryz.underlying36 zD hx
  have hxs := hs x (List.mem_of_getElem? hx)
  have d4 : decide ((x.length : Int) > 65535) = false := decide_eq_false (by omega)
  have b1 := shr8 x.length
  have b2 := uN (x.length / 256)
  have b3 := uN x.length
  have wj1 := wl (j + 1)
  have ww : W (j + 1) = W j ++ [UInt8.ofNat (x.length / 256 % 256), UInt8.ofNat (x.length % 256)] ++ x := by rw [hW, hW, zO7 partB ps hx, partB]; simp
  refine qJ ?_; repeat' (first | (with_reducible first | apply qK | apply qS) | ((with_reducible first | apply qI | apply qB | apply qR | apply qT) <;> try simp only [qN, qC, qE, qG, qD, qA, qF, seval, qQ, qO, qP, kU, d3, g1, lZ zD g2, d4, b1, b2, b3]))
  refine fJ (cs := ([UInt8.ofNat (x.length / 256 % 256), UInt8.ofNat (x.length % 256)] : List UInt8).map bv) vA rfl (by decide) (by decide) (by rw [wD _ rfl]; rfl) rfl fun k3 h3 m3 s3 f3 n3 => ?_
  have r3 : RB h3 (.slice (some ⟨k3, 0, none⟩) 2 5) [UInt8.ofNat (x.length / 256 % 256), UInt8.ofNat (x.length % 256)] := yN m3 rfl
  refine qJ ?_; repeat' (first | ((with_reducible apply qI) <;> try simp only [qN, qC, qE, qG, qD, qA, qF, seval, qQ, qO, qP, kU]))
  refine jI vA Tryz.underlying22 rfl (s2.trans s3) (r2.hs s3) (ap2.hs s3) r3.src (by simp; omega) fun v4 h4 s4 hc4 _ ap4 r4 => ?_
  refine qJ ?_; repeat' (first | ((with_reducible apply qI) <;> try simp only [qN, qC, qE, qG, qD, qA, qF, seval, qQ, qO, qP, kU]))
  refine jI vA Tryz.underlying22 rfl s4 r4 ap4 ((p1.hs s3).hc hc4).src (by simp; omega) fun v5 h5 s5 hc5 _ ap5 r5 => ?_
  rw [← ww] at r5
  obtain ⟨a5, c5, rfl, _⟩ := r5.form
  refine qJ ?_; repeat' (first | ((with_reducible first | apply qI | apply qB) <;> try simp only [qN, qC, qE, qG, qD, qA, qF, seval, qQ, qO, qP, kU, wi]))
  exact ⟨_, (j + 1, a5, c5), by omega, (by simp only [List.forall_mem_cons, List.not_mem_nil, false_implies, implies_true, List.map, List.cons_append, List.nil_append, lk, Nat.reduceEqDiff, reduceIte, and_true, true_and]), rfl, by omega, s5, r5, ap5⟩
theorem zE1 : type_of% (And.intro zF (And.intro xB (And.intro wF rs50))) := And.intro zF (And.intro xB (And.intro wF rs50))
theorem qH0 : type_of% (And.intro zF (And.intro xB (And.intro wF rs55))) := And.intro zF (And.intro xB (And.intro wF rs55))
theorem qY5 : type_of% (And.intro zF (And.intro xB (And.intro wF rs148))) := And.intro zF (And.intro xB (And.intro wF rs148))
theorem qA7 : type_of% (And.intro zF (And.intro xB (And.intro wF rs149))) := And.intro zF (And.intro xB (And.intro wF rs149))
theorem dL (l m : List UInt8) (n : Nat) : n ≤ yW l m ↔ ∀ i, i < n → 0 ≤ xA l i ∧ xA l i = xA m i := by
  obtain ⟨h1, h2⟩ := dT l m
  constructor
  · exact fun h i hi => h1 i (by omega)
  · intro h
    rcases Nat.lt_or_ge (yW l m) n with hh | hh
    · have := h _ hh
      rcases h2 with h2 | h2
      · omega
      · exact absurd this.2 h2
    · exact hh
theorem lR (l m : List UInt8) : yW l m ≤ 8 * l.length := by
  rcases Nat.lt_or_ge (8 * l.length) (yW l m) with h | h
  · have := (dT l m).1 _ h
    have h2 := gbit_nonneg.1 this.1
    omega
  · exact h
theorem zI0 (l m : List UInt8) (n : Nat) : n ≤ yW (zG l n) (zG m n) ↔ n ≤ yW l m := by
  rw [dL, dL]
  constructor
  · intro h i hi
    have := h i hi
    rwa [jG l n i hi, jG m n i hi] at this
  · intro h i hi
    rw [jG l n i hi, jG m n i hi]
    exact h i hi
def tV (l m : List UInt8) (n : Int) : Bool := decide (n < 1) || (decide (n ≤ 8 * (l.length : Int)) && decide (n ≤ 8 * (m.length : Int)) && decide (n ≤ (yW l m : Int)))
theorem pT (N : Nat) (h : GH) {a b : Option Addr} {n m c d : Nat} {l k : List UInt8} (r1 : RB h (.slice a n c) l) (r2 : RB h (.slice b m d) k) (hl : l.length ≤ 140737488351232) (hk : k.length ≤ 140737488351232) (i : Int) : GTri Tryz.prog N 50 [.slice a n c, .slice b m d, .int .i64 i] h fun v h' => v = .bool (tV l k i) ∧ h' = h := by
  obtain rfl := r1.len_eq
  obtain rfl := r2.len_eq
  have mn := qL3 l.length k.length
  have w1 : IntKind.i64.wrap (8 * ((min l.length k.length : Nat) : Int)) = ((8 * min l.length k.length : Nat) : Int) := by rw [wrap64 (by omega) (by omega)]; omega
  refine zU Tryz.func50 rfl gf50 ok50 (by simp [Tryz.ntmps50]) ?_
  repeat' (first | with_reducible apply qK | ((first | (with_reducible first | apply qB | apply qM) | ((with_reducible first | apply qU6 | apply want_f) <;> intro hb <;> (try simp only [hb])) | ((refine GTri.mono (qB7 _ _ r1 r2 rfl rfl (by omega)) ?_); rintro _ _ ⟨rfl, rfl⟩)) <;> try simp only [qN, qC, qE, qG, qD, qA, qF, seval, qQ, qO, qP, zE1, mn, w1]))
  all_goals
    simp only [decide_eq_true_eq, decide_eq_false_iff_not] at *
    refine congrArg Value.bool ?_
    rw [Bool.eq_iff_iff]
    simp only [tV, Bool.or_eq_true, Bool.and_eq_true, decide_eq_true_eq, Bool.false_eq_true, false_iff, true_iff]
    omega
theorem mN (N : Nat) (h : GH) {a b : Option Addr} {n m c d : Nat} {l k : List UInt8} (r1 : RB h (.slice a n c) l) (r2 : RB h (.slice b m d) k) (hl : l.length ≤ 140737488351232) (hk : k.length ≤ 140737488351232) (i : Int) (hi : (Lit.int .i64 i).wf = true) : GTri Tryz.prog N 55 [.slice a n c, .slice b m d, .int .i64 i] h fun v h' => v = .bool (tV l k i) ∧ HS h h' := by
  obtain rfl := r1.len_eq
  obtain rfl := r2.len_eq
  have hb := bounds_i64 hi
  have w1 : IntKind.i64.wrap (8 * (l.length : Int)) = ((8 * l.length : Nat) : Int) := by rw [wrap64 (by omega) (by omega)]; omega
  have w2 : IntKind.i64.wrap (8 * (k.length : Int)) = ((8 * k.length : Nat) : Int) := by rw [wrap64 (by omega) (by omega)]; omega
  have hf : (zG l i.toNat).length ≤ 140737488355328 := by rw [wM]; omega
  refine zU Tryz.func55 rfl gf55 ok55 (by simp [Tryz.ntmps55]) ?_
  by_cases h1 : i < 1
  · have d1 : decide (i < 1) = true := decide_eq_true h1
    repeat' (first | with_reducible apply qK | ((with_reducible first | apply qB | apply qM) <;> try simp only [qN, qC, qE, qG, qD, qA, qF, seval, qQ, qO, qP, qH0, d1]))
    rw [tV, d1]; exact ⟨rfl, HS.refl h⟩
  · have d1 : decide (i < 1) = false := decide_eq_false h1
    have w3 : IntKind.i64.wrap (Int.tdiv i 8) = ((i.toNat / 8 : Nat) : Int) := by
      obtain ⟨n, rfl⟩ : ∃ n : Nat, i = n := ⟨i.toNat, by omega⟩
      rw [show (8 : Int) = ((8 : Nat) : Int) from rfl, kD, Int.toNat_natCast]
      exact wrap64 (by omega) (by omega)
    repeat' (first | with_reducible apply qK | ((first | (with_reducible first | apply qB | apply qM) | (with_reducible apply qU6 <;> intro hb <;> (try simp only [hb])) | ((refine GTri.mono (gR _ _ r1 hl i hi) ?_); rintro _ h1 ⟨s1, a1, c1, rfl, q1⟩) | ((refine GTri.mono (gR _ _ (r2.hs s1) hk i hi) ?_); rintro _ h2 ⟨s2, a2, c2, rfl, q2⟩) | ((refine GTri.mono (qF4 _ _ (q1.hs s2) q2 rfl rfl hf) ?_); rintro _ _ ⟨rfl, rfl⟩)) <;> try simp only [qN, qC, qE, qG, qD, qA, qF, seval, qQ, qO, qP, qH0, w1, w2, w3, d1]))
    all_goals
      simp only [decide_eq_true_eq, decide_eq_false_iff_not] at *
    all_goals
      refine ⟨congrArg Value.bool ?_, by first | exact HS.refl _ | exact s1.trans s2⟩
      have nf := zI0 l k i.toNat
      rw [Bool.eq_iff_iff]
      simp only [tV, Bool.or_eq_true, Bool.and_eq_true, decide_eq_true_eq, Bool.false_eq_true, false_iff, true_iff]
      omega
theorem c_isNaN (N : Nat) (h : GH) (x : Int) : GTri Tryz.prog N 161 [.int .i64 x] h fun v h' => v = .bool false ∧ h' = h := by
  refine zU Tryz.func161 rfl gf161 ok161 (by simp [Tryz.ntmps161]) ?_
  repeat' (first | with_reducible apply qK | ((with_reducible first | apply qB | apply qM) <;> try simp only [qN, qC, qE, qG, qD, qA, qF, seval, qQ, qO, qP, xB, rs161, bne_self_eq_false]))
theorem c_cmpI (N : Nat) (h : GH) (x y : Int) : GTri Tryz.prog N 158 [.int .i64 x, .int .i64 y] h fun v h' => v = .int .i64 (if x < y then -1 else if x > y then 1 else 0) ∧ h' = h := by
  refine zU Tryz.func158 rfl gf158 ok158 (by simp [Tryz.ntmps158]) ?_
  repeat' (first | with_reducible apply qK | ((first | (with_reducible first | apply qB | apply qR | apply qT | apply qM) | (with_reducible apply qA0 <;> intro hb <;> (try simp only [hb])) | ((refine GTri.mono (c_isNaN _ _ _) ?_); rintro _ _ ⟨rfl, rfl⟩)) <;> try simp only [qN, qC, qE, qG, qD, qA, qF, seval, qQ, qO, qP, xB, rs158]))
  all_goals
    simp only [decide_eq_true_eq, decide_eq_false_iff_not] at *
    simp [*]
def pH (l : List UInt8) (n : Int) (m : List UInt8) : Int :=
  if (yW l m : Int) ≥ n ∨ yW l m ≥ 8 * min l.length m.length then 0 else if xA l (yW l m) < xA m (yW l m) then -1 else if xA l (yW l m) > xA m (yW l m) then 1 else 0
theorem c_Side (N : Nat) (h : GH) {a b : Option Addr} {n m c d : Nat} {l k : List UInt8} (r1 : RB h (.slice a n c) l) (r2 : RB h (.slice b m d) k) (hl : l.length ≤ 140737488351232) (hk : k.length ≤ 140737488351232) (i : Int) : GTri Tryz.prog N 148 [.slice a n c, .int .i64 i, .slice b m d] h fun v h' => v = .int .i64 (pH l i k) ∧ h' = h := by
  obtain rfl := r1.len_eq
  obtain rfl := r2.len_eq
  have mn := qL3 l.length k.length
  have w1 : IntKind.i64.wrap (8 * ((min l.length k.length : Nat) : Int)) = ((8 * min l.length k.length : Nat) : Int) := by rw [wrap64 (by omega) (by omega)]; omega
  refine zU Tryz.func148 rfl gf148 ok148 (by simp [Tryz.ntmps148]) ?_
  have nc : yW l k ≤ 9223372036854775807 := by
    have := lR l k
    omega
  repeat' (first | with_reducible apply qK | ((first | (with_reducible first | apply qB | apply qR | apply qT | apply qM) | ((with_reducible first | apply qA0 | apply want_f) <;> intro hb <;> (try simp only [hb])) | ((refine GTri.mono (qB7 _ _ r1 r2 rfl rfl (by omega)) ?_); rintro _ _ ⟨rfl, rfl⟩) | ((refine GTri.mono (dJ _ _ r1 _ nc) ?_); rintro _ _ ⟨rfl, rfl⟩) | ((refine GTri.mono (dJ _ _ r2 _ nc) ?_); rintro _ _ ⟨rfl, rfl⟩) | ((refine GTri.mono (c_cmpI _ _ _ _) ?_); rintro _ _ ⟨rfl, rfl⟩)) <;> try simp only [qN, qC, qE, qG, qD, qA, qF, seval, qQ, qO, qP, qY5, mn, w1]))
  all_goals
    clear mn w1
    simp only [decide_eq_true_eq, decide_eq_false_iff_not] at *
    refine congrArg (Value.int .i64) ?_
    unfold pH
    split <;> omega
theorem c_rSide (N : Nat) (h : GH) {a b : Option Addr} {n m c d : Nat} {l k : List UInt8} (r1 : RB h (.slice a n c) l) (r2 : RB h (.slice b m d) k) (hl : l.length ≤ 140737488351232) (hk : k.length ≤ 140737488351232) (i : Int) : GTri Tryz.prog N 149 [.slice a n c, .int .i64 i, .slice b m d] h fun v h' => v = .int .i64 (pH l i k) ∧ h' = h := by
  obtain rfl := r1.len_eq
  obtain rfl := r2.len_eq
  refine zU Tryz.func149 rfl gf149 ok149 (by simp [Tryz.ntmps149]) ?_
  repeat' (first | (with_reducible first | apply qK | apply qS) | ((with_reducible apply qB) <;> try simp only [qN, qC, qE, qG, qD, qA, qF, seval, qQ, qO, qP, qA7]))
  refine xR [0, 1, 2] (fun (j : Nat) => [(7, .int .i64 (j : Int))])
    (fun q j h' => q = 8 * l.length - j ∧ j ≤ 8 * l.length ∧ h' = h ∧ (∀ t, t < j → 0 ≤ xA l t ∧ xA l t = xA k t) ∧ j ≤ max i.toNat 0) (8 * l.length) 0 (by simp [lk]) ⟨rfl, by omega, rfl, fun t ht => by omega, by omega⟩ ?_
  rintro q j h1 ⟨rfl, hj, rfl, hs, hi⟩
  have w1 : IntKind.i64.wrap ((j : Int) + 1) = ((j + 1 : Nat) : Int) := by rw [wrap64 (by omega) (by omega)]; omega
  have nf := (dL l k j).2 hs
  have nj : xA l j = xA k j → 0 ≤ xA l j → j + 1 ≤ yW l k := fun e e2 => (dL l k (j + 1)).2 fun t ht => by
    by_cases h : t < j
    · exact hs t h
    · obtain rfl : t = j := by omega
      exact ⟨e2, e⟩
  refine qJ ?_; repeat' (first | (with_reducible first | apply qK | apply qS) | ((first | (with_reducible first | apply qI | apply qB | apply qR | apply qT | apply xT | apply qM) | ((with_reducible first | apply qA0 | apply qU6) <;> intro hb <;> (try simp only [hb])) | ((refine GTri.mono (jK _ _ r1 j (by omega)) ?_); rintro _ _ ⟨rfl, rfl⟩) | ((refine GTri.mono (jK _ _ r2 j (by omega)) ?_); rintro _ _ ⟨rfl, rfl⟩)) <;> try simp only [qN, qC, qE, qG, qD, qA, qF, seval, qQ, qO, qP, qA7, w1]))
  · simp only [decide_eq_true_eq, bne_iff_ne] at *
    rename_i p1 p2 p3 _
    have e := tO hs (.inr hb)
    have g1 := qW9 (l := l) (i := j)
    have g2 := qW9 (l := k) (i := j)
    have b1 := gbit_nonneg.1 (show 0 ≤ xA l j by omega)
    have b2 := gbit_nonneg.1 (show 0 ≤ xA k j by omega)
    refine congrArg (Value.int .i64) ?_
    rw [wrap64 (x := 2 * xA l j) (by omega) (by omega), wrap64 (by omega) (by omega)]
    unfold pH
    rw [e]
    split <;> omega
  · rename_i p1 p2 p3 h5
    simp only [decide_eq_true_eq, bne_eq_false_iff_eq] at hb p1 p2 p3
    have b1 := gbit_nonneg.1 (show 0 ≤ xA l j by omega)
    refine ⟨_, j + 1, ?_, (by simp only [List.forall_mem_cons, List.not_mem_nil, false_implies, implies_true, List.map, List.cons_append, List.nil_append, lk, Nat.reduceEqDiff, reduceIte, and_true, true_and]), rfl, by omega, (dL l k (j + 1)).1 (nj hb (by omega)), by omega⟩
    omega
  · rename_i p1 p2 h5
    simp only [decide_eq_true_eq, decide_eq_false_iff_not] at hb p1 p2
    have e := tO hs (.inr (by omega))
    have b2 : ¬ j < 8 * k.length := fun h => hb (gbit_nonneg.2 h)
    refine congrArg (Value.int .i64) ?_
    unfold pH
    rw [if_pos (.inr (by omega))]
  · rename_i p1 h5
    simp only [decide_eq_true_eq, decide_eq_false_iff_not] at hb p1
    have e := tO hs (.inl (by omega))
    have b2 : ¬ j < 8 * l.length := fun h => hb (gbit_nonneg.2 h)
    refine congrArg (Value.int .i64) ?_
    unfold pH
    rw [if_pos (.inr (by omega))]
  · simp only [decide_eq_false_iff_not] at hb
    refine congrArg (Value.int .i64) ?_
    unfold pH
    rw [if_pos (.inl (by omega))]
theorem qE3 : type_of% (And.intro zF (And.intro jA (And.intro xB (And.intro mP (And.intro wF rs100))))) := And.intro zF (And.intro jA (And.intro xB (And.intro mP (And.intro wF rs100))))
theorem qE2 : type_of% (And.intro zF (And.intro jA (And.intro xB (And.intro mP (And.intro wF rs104))))) := And.intro zF (And.intro jA (And.intro xB (And.intro mP (And.intro wF rs104))))
theorem zD7 : type_of% (And.intro zF (And.intro jA (And.intro xB rs76))) := And.intro zF (And.intro jA (And.intro xB rs76))
theorem sC : type_of% (And.intro zF (And.intro jA (And.intro xB (And.intro wF rs42)))) := And.intro zF (And.intro jA (And.intro xB (And.intro wF rs42)))
theorem sB : type_of% (And.intro zF (And.intro jA (And.intro xB (And.intro wF rs61)))) := And.intro zF (And.intro jA (And.intro xB (And.intro wF rs61)))
theorem dZ : type_of% (And.intro zF (And.intro jA (And.intro xB (And.intro wF rs132)))) := And.intro zF (And.intro jA (And.intro xB (And.intro wF rs132)))
theorem dY : type_of% (And.intro zF (And.intro jA (And.intro xB (And.intro wF rs136)))) := And.intro zF (And.intro jA (And.intro xB (And.intro wF rs136)))
theorem qA5 : type_of% (And.intro zF (And.intro jA (And.intro xB rs60))) := And.intro zF (And.intro jA (And.intro xB rs60))
theorem mC : type_of% (And.intro zF (And.intro jA (And.intro xB rs128))) := And.intro zF (And.intro jA (And.intro xB rs128))
theorem mA : type_of% (And.intro zF (And.intro jA (And.intro xB rs135))) := And.intro zF (And.intro jA (And.intro xB rs135))
theorem zD8 : type_of% (And.intro zF (And.intro jA (And.intro xB rs59))) := And.intro zF (And.intro jA (And.intro xB rs59))
def vQ (d : Nat) (pf : List UInt8) (w : Nat) (l r : List UInt8) : List UInt8 := yX 2 [vJ d, zG pf d, vJ w, l, r]
def fW (id ky : List UInt8) (w : Nat) : List UInt8 := yX 1 [id, ky, vJ w]
def emptyB : List UInt8 := yX 0 []
theorem c_Hash (N : Nat) {h : GH} (t : TK h) (k : Int) {tag : Nat} (ht : tag ≤ 255) {a : Option Addr} {c : Nat} {ps : List (List UInt8)} (r : RBs h (.slice a ps.length c) ps) (hs : ∀ p ∈ ps, p.length ≤ 65535) (hl : ps.length ≤ 1000000) (hp : gJ ps ≤ 100000000) : GTri Tryz.prog N 100 [.int .i64 k, .int .i64 tag, .slice a ps.length c] h fun v h' => HS h h' ∧ ∃ a c, v = .slice a (vS k (yX tag ps)).length c ∧ RB h' (.slice a (vS k (yX tag ps)).length c) (vS k (yX tag ps)) ∧ SL h' (.slice a (vS k (yX tag ps)).length c) := by
  have hlen : (yX tag ps).length ≤ 100000001 := by simp only [yX, List.length_cons, fD]; omega
  refine zU Tryz.func100 rfl gf100 ok100 (by simp [Tryz.ntmps100]) ?_
  repeat' (first | with_reducible apply qK | ((with_reducible apply qB) <;> try simp only [qN, qC, qE, qG, qD, qA, qF, seval, qQ, qO, qP, qE3]))
  refine (c_Text N h ht r hs hl hp).mono ?_
  rintro _ h1 ⟨s1, a1, c1, rfl, r1, sl1⟩
  refine qJ ?_; repeat' (first | with_reducible apply qK | ((with_reducible first | apply qI | apply qB | apply qR | apply qT) <;> try simp only [qN, qC, qE, qG, qD, qA, qF, seval, qQ, qO, qP, qE3]))
  refine (c_Cut N (t.hs s1) r1 sl1 (by omega) k).mono ?_
  rintro _ h2 ⟨s2, a2, c2, rfl, r2, sl2⟩
  refine qJ ?_; repeat' (first | ((with_reducible first | apply qI | apply qM) <;> try simp only [qN, qC, qE, qG, qD, qA, qF, seval, qQ, qO, qP, qE3]))
  exact ⟨s1.trans s2, a2, c2, rfl, r2, sl2⟩
theorem zP6 (N : Nat) {h : GH} (k : Int) {tag : Nat} (ht : tag ≤ 255) {a : Option Addr} {c : Nat} {ps : List (List UInt8)} (r : RBs h (.slice a ps.length c) ps) (hs : ∀ p ∈ ps, p.length ≤ 65535) (hl : ps.length ≤ 1000000) (hp : gJ ps ≤ 100000000) : GTri Tryz.prog N 104 [.int .i64 k, .int .i64 tag, .slice a ps.length c] h fun v h' => HS h h' ∧ ∃ a c, v = .slice a (vS k (yX tag ps)).length c ∧ RB h' (.slice a (vS k (yX tag ps)).length c) (vS k (yX tag ps)) := by
  have hlen : (yX tag ps).length ≤ 100000001 := by simp only [yX, List.length_cons, fD]; omega
  refine zU Tryz.func104 rfl gf104 ok104 (by simp [Tryz.ntmps104]) ?_
  repeat' (first | with_reducible apply qK | ((with_reducible apply qB) <;> try simp only [qN, qC, qE, qG, qD, qA, qF, seval, qQ, qO, qP, qE2]))
  refine (qJ6 N h ht r hs hl hp).mono ?_
  rintro _ h1 ⟨s1, a1, c1, rfl, r1, sl1⟩
  refine qJ ?_; repeat' (first | with_reducible apply qK | ((with_reducible first | apply qI | apply qB | apply qR | apply qT) <;> try simp only [qN, qC, qE, qG, qD, qA, qF, seval, qQ, qO, qP, qE2]))
  refine (zL3 N r1 (by omega) k).mono ?_
  rintro _ h2 ⟨s2, a2, c2, rfl, r2⟩
  refine qJ ?_; repeat' (first | ((with_reducible first | apply qI | apply qM) <;> try simp only [qN, qC, qE, qG, qD, qA, qF, seval, qQ, qO, qP, qE2]))
  exact ⟨s1.trans s2, a2, c2, rfl, r2⟩
theorem qZ0 (N : Nat) (h : GH) {tag : Nat} (ht : tag ≤ 255) {a : Option Addr} {c : Nat} {ps : List (List UInt8)} (r : RBs h (.slice a ps.length c) ps) (hs : ∀ p ∈ ps, p.length ≤ 65535) (hl : ps.length ≤ 1000000) (hp : gJ ps ≤ 100000000) : GTri Tryz.prog N 76 [.int .i64 tag, .slice a ps.length c] h fun v h' => HS h h' ∧ ∃ a c, v = .slice a (yX tag ps).length c ∧ RB h' (.slice a (yX tag ps).length c) (yX tag ps) ∧ SL h' (.slice a (yX tag ps).length c) := by
  refine zU Tryz.func76 rfl gf76 ok76 (by simp [Tryz.ntmps76]) ?_
  repeat' (first | with_reducible apply qK | ((with_reducible apply qB) <;> try simp only [qN, qC, qE, qG, qD, qA, qF, seval, qQ, qO, qP, zD7]))
  refine (c_Text N h ht r hs hl hp).mono ?_
  rintro _ h1 ⟨s1, a1, c1, rfl, r1, sl1⟩
  refine qJ ?_; repeat' (first | with_reducible apply qK | ((with_reducible first | apply qI | apply qB | apply qM) <;> try simp only [qN, qC, qE, qG, qD, qA, qF, seval, qQ, qO, qP, zD7]))
  exact ⟨s1, a1, c1, rfl, r1, sl1⟩
theorem c_Fork (N : Nat) {h : GH} {d w : Nat} (hd : d ≤ 1000000) (hw : w ≤ 1000000) {a b c : Option Addr} {ca cb cc : Nat} {pf l r : List UInt8} (rp : RB h (.slice a pf.length ca) pf) (rl : RB h (.slice b l.length cb) l) (rr : RB h (.slice c r.length cc) r) (hp : pf.length ≤ 60000) (hl : l.length ≤ 60000) (hr : r.length ≤ 60000) : GTri Tryz.prog N 42 [.int .i64 d, .slice a pf.length ca, .int .i64 w, .slice b l.length cb, .slice c r.length cc] h fun v h' => HS h h' ∧ ∃ a c, v = .slice a (vQ d pf w l r).length c ∧ RB h' (.slice a (vQ d pf w l r).length c) (vQ d pf w l r) ∧ SL h' (.slice a (vQ d pf w l r).length c) := by
  have gl := wM pf d
  refine zU Tryz.func42 rfl gf42 ok42 (by simp [Tryz.ntmps42]) ?_
  repeat' (first | with_reducible apply qK | ((with_reducible apply qB) <;> try simp only [qN, qC, qE, qG, qD, qA, qF, seval, qQ, qO, qP, sC]))
  refine (sF N h d (by omega)).mono ?_
  rintro _ h1 ⟨s1, k1, rfl, r1⟩
  refine qJ ?_; repeat' (first | ((with_reducible apply qI) <;> try simp only [qN, qC, qE, qG, qD, qA, qF, seval, qQ, qO, qP, sC]))
  refine (qB6 N h1 (rp.hs s1) (by omega) d).mono ?_
  rintro _ h2 ⟨s2, a2, c2, rfl, r2⟩
  rw [Int.toNat_natCast] at r2
  simp only [Int.toNat_natCast]
  have t2 := s1.trans s2
  refine qJ ?_; repeat' (first | ((with_reducible apply qI) <;> try simp only [qN, qC, qE, qG, qD, qA, qF, seval, qQ, qO, qP, sC]))
  refine (sF N h2 w (by omega)).mono ?_
  rintro _ h3 ⟨s3, k3, rfl, r3⟩
  have t3 := t2.trans s3
  refine qJ ?_; repeat' (first | ((with_reducible apply qI) <;> try simp only [qN, qC, qE, qG, qD, qA, qF, seval, qQ, qO, qP, sC]))
  refine fJ (cs := [.slice (some ⟨k1, 0, none⟩) 8 17, .slice a2 (zG pf d).length c2, .slice (some ⟨k3, 0, none⟩) 8 17, .slice b l.length cb, .slice c r.length cc]) qP8 rfl (by decide) (by decide) (by rw [wD _ rfl]; rfl) rfl fun k4 h4 m4 s4 f4 n4 => ?_
  have t4 := t3.trans s4
  have q4 : RBs h4 (.slice (some ⟨k4, 0, none⟩) ([vJ d, zG pf d, vJ w, l, r] : List (List UInt8)).length 11) [vJ d, zG pf d, vJ w, l, r] := kZ m4 (by decide) rfl fun i x hx => by
    rcases i with _ | _ | _ | _ | _ | i
    · cases hx; exact ⟨_, _, rfl, r1.hs ((s2.trans s3).trans s4)⟩
    · cases hx; exact ⟨_, _, rfl, r2.hs (s3.trans s4)⟩
    · cases hx; exact ⟨_, _, rfl, r3.hs s4⟩
    · cases hx; exact ⟨_, _, rfl, rl.hs t4⟩
    · cases hx; exact ⟨_, _, rfl, rr.hs t4⟩
    · simp at hx
  have hg : (zG pf d).length ≤ 65535 := by omega
  have hs4 : ∀ p ∈ ([vJ d, zG pf d, vJ w, l, r] : List (List UInt8)), p.length ≤ 65535 := by
    intro p hp
    simp only [List.mem_cons, List.not_mem_nil, or_false] at hp
    rcases hp with rfl | rfl | rfl | rfl | rfl <;> first | omega | (rw [vD]; omega)
  have hp4 : gJ [vJ d, zG pf d, vJ w, l, r] ≤ 100000000 := by simp only [gJ, List.map_cons, List.map_nil, List.sum_cons, List.sum_nil, vD]; omega
  refine qJ ?_; repeat' (first | ((with_reducible apply qI) <;> try simp only [qN, qC, qE, qG, qD, qA, qF, seval, qQ, qO, qP, sC]))
  refine (qZ0 N h4 (tag := 2) (by omega) q4 hs4 (by simp) hp4).mono ?_
  rintro _ h5 ⟨s5, a5, c5, rfl, r5, sl5⟩
  refine qJ ?_; repeat' (first | ((with_reducible first | apply qI | apply qM) <;> try simp only [qN, qC, qE, qG, qD, qA, qF, seval, qQ, qO, qP, sC]))
  exact ⟨t4.trans s5, a5, c5, rfl, r5, sl5⟩
theorem qH6 (N : Nat) {h : GH} {d w : Nat} (hd : d ≤ 1000000) (hw : w ≤ 1000000) {a b c : Option Addr} {ca cb cc : Nat} {pf l r : List UInt8} (rp : RB h (.slice a pf.length ca) pf) (rl : RB h (.slice b l.length cb) l) (rr : RB h (.slice c r.length cc) r) (hp : pf.length ≤ 60000) (hl : l.length ≤ 60000) (hr : r.length ≤ 60000) : GTri Tryz.prog N 61 [.int .i64 d, .slice a pf.length ca, .int .i64 w, .slice b l.length cb, .slice c r.length cc] h fun v h' => HS h h' ∧ ∃ a c, v = .slice a (vQ d pf w l r).length c ∧ RB h' (.slice a (vQ d pf w l r).length c) (vQ d pf w l r) ∧ SL h' (.slice a (vQ d pf w l r).length c) := by
  have gl := wM pf d
  refine zU Tryz.func61 rfl gf61 ok61 (by simp [Tryz.ntmps61]) ?_
  repeat' (first | with_reducible apply qK | ((with_reducible apply qB) <;> try simp only [qN, qC, qE, qG, qD, qA, qF, seval, qQ, qO, qP, sB]))
  refine (rA N h d (by omega)).mono ?_
  rintro _ h1 ⟨s1, k1, z1, rfl, r1⟩
  refine qJ ?_; repeat' (first | ((with_reducible apply qI) <;> try simp only [qN, qC, qE, qG, qD, qA, qF, seval, qQ, qO, qP, sB]))
  refine (gR N h1 (rp.hs s1) (by omega) d (WalkArith.wf_i64 (by omega))).mono ?_
  rintro _ h2 ⟨s2, a2, c2, rfl, r2⟩
  rw [Int.toNat_natCast] at r2
  simp only [Int.toNat_natCast]
  have t2 := s1.trans s2
  refine qJ ?_; repeat' (first | ((with_reducible apply qI) <;> try simp only [qN, qC, qE, qG, qD, qA, qF, seval, qQ, qO, qP, sB]))
  refine (rA N h2 w (by omega)).mono ?_
  rintro _ h3 ⟨s3, k3, z3, rfl, r3⟩
  have t3 := t2.trans s3
  refine qJ ?_; repeat' (first | ((with_reducible apply qI) <;> try simp only [qN, qC, qE, qG, qD, qA, qF, seval, qQ, qO, qP, sB]))
  refine fJ (cs := [.slice k1 8 z1, .slice a2 (zG pf d).length c2, .slice k3 8 z3, .slice b l.length cb, .slice c r.length cc]) qP8 rfl (by decide) (by decide) (by rw [wD _ rfl]; rfl) rfl fun k4 h4 m4 s4 f4 n4 => ?_
  have t4 := t3.trans s4
  have q4 : RBs h4 (.slice (some ⟨k4, 0, none⟩) ([vJ d, zG pf d, vJ w, l, r] : List (List UInt8)).length 11) [vJ d, zG pf d, vJ w, l, r] := kZ m4 (by decide) rfl fun i x hx => by
    rcases i with _ | _ | _ | _ | _ | i
    · cases hx; exact ⟨_, _, rfl, r1.hs ((s2.trans s3).trans s4)⟩
    · cases hx; exact ⟨_, _, rfl, r2.hs (s3.trans s4)⟩
    · cases hx; exact ⟨_, _, rfl, r3.hs s4⟩
    · cases hx; exact ⟨_, _, rfl, rl.hs t4⟩
    · cases hx; exact ⟨_, _, rfl, rr.hs t4⟩
    · simp at hx
  have hg : (zG pf d).length ≤ 65535 := by omega
  have hs4 : ∀ p ∈ ([vJ d, zG pf d, vJ w, l, r] : List (List UInt8)), p.length ≤ 65535 := by
    intro p hp
    simp only [List.mem_cons, List.not_mem_nil, or_false] at hp
    rcases hp with rfl | rfl | rfl | rfl | rfl <;> first | omega | (rw [vD]; omega)
  have hp4 : gJ [vJ d, zG pf d, vJ w, l, r] ≤ 100000000 := by simp only [gJ, List.map_cons, List.map_nil, List.sum_cons, List.sum_nil, vD]; omega
  refine qJ ?_; repeat' (first | ((with_reducible apply qI) <;> try simp only [qN, qC, qE, qG, qD, qA, qF, seval, qQ, qO, qP, sB]))
  refine (qJ6 N h4 (tag := 2) (by omega) q4 hs4 (by simp) hp4).mono ?_
  rintro _ h5 ⟨s5, a5, c5, rfl, r5, sl5⟩
  refine qJ ?_; repeat' (first | with_reducible apply qK | ((with_reducible first | apply qI | apply qB | apply qM) <;> try simp only [qN, qC, qE, qG, qD, qA, qF, seval, qQ, qO, qP, sB]))
  exact ⟨t4.trans s5, a5, c5, rfl, r5, sl5⟩
theorem qO2 (N : Nat) {h : GH} (t : TK h) (k : Int) {d w : Nat} (hd : d ≤ 1000000) (hw : w ≤ 1000000) {a b c : Option Addr} {ca cb cc : Nat} {pf l r : List UInt8} (rp : RB h (.slice a pf.length ca) pf) (rl : RB h (.slice b l.length cb) l) (rr : RB h (.slice c r.length cc) r) (hp : pf.length ≤ 60000) (hl : l.length ≤ 60000) (hr : r.length ≤ 60000) : GTri Tryz.prog N 132 [.int .i64 k, .int .i64 d, .slice a pf.length ca, .int .i64 w, .slice b l.length cb, .slice c r.length cc] h fun v h' => HS h h' ∧ ∃ a c, v = .slice a (vS k (vQ d pf w l r)).length c ∧ RB h' (.slice a (vS k (vQ d pf w l r)).length c) (vS k (vQ d pf w l r)) ∧ SL h' (.slice a (vS k (vQ d pf w l r)).length c) := by
  have gl := wM pf d
  refine zU Tryz.func132 rfl gf132 ok132 (by simp [Tryz.ntmps132]) ?_
  repeat' (first | with_reducible apply qK | ((with_reducible apply qB) <;> try simp only [qN, qC, qE, qG, qD, qA, qF, seval, qQ, qO, qP, dZ]))
  refine (sF N h d (by omega)).mono ?_
  rintro _ h1 ⟨s1, k1, rfl, r1⟩
  refine qJ ?_; repeat' (first | ((with_reducible apply qI) <;> try simp only [qN, qC, qE, qG, qD, qA, qF, seval, qQ, qO, qP, dZ]))
  refine (qB6 N h1 (rp.hs s1) (by omega) d).mono ?_
  rintro _ h2 ⟨s2, a2, c2, rfl, r2⟩
  rw [Int.toNat_natCast] at r2
  simp only [Int.toNat_natCast]
  have t2 := s1.trans s2
  refine qJ ?_; repeat' (first | ((with_reducible apply qI) <;> try simp only [qN, qC, qE, qG, qD, qA, qF, seval, qQ, qO, qP, dZ]))
  refine (sF N h2 w (by omega)).mono ?_
  rintro _ h3 ⟨s3, k3, rfl, r3⟩
  have t3 := t2.trans s3
  refine qJ ?_; repeat' (first | ((with_reducible apply qI) <;> try simp only [qN, qC, qE, qG, qD, qA, qF, seval, qQ, qO, qP, dZ]))
  refine fJ (cs := [.slice (some ⟨k1, 0, none⟩) 8 17, .slice a2 (zG pf d).length c2, .slice (some ⟨k3, 0, none⟩) 8 17, .slice b l.length cb, .slice c r.length cc]) qP8 rfl (by decide) (by decide) (by rw [wD _ rfl]; rfl) rfl fun k4 h4 m4 s4 f4 n4 => ?_
  have t4 := t3.trans s4
  have q4 : RBs h4 (.slice (some ⟨k4, 0, none⟩) ([vJ d, zG pf d, vJ w, l, r] : List (List UInt8)).length 11) [vJ d, zG pf d, vJ w, l, r] := kZ m4 (by decide) rfl fun i x hx => by
    rcases i with _ | _ | _ | _ | _ | i
    · cases hx; exact ⟨_, _, rfl, r1.hs ((s2.trans s3).trans s4)⟩
    · cases hx; exact ⟨_, _, rfl, r2.hs (s3.trans s4)⟩
    · cases hx; exact ⟨_, _, rfl, r3.hs s4⟩
    · cases hx; exact ⟨_, _, rfl, rl.hs t4⟩
    · cases hx; exact ⟨_, _, rfl, rr.hs t4⟩
    · simp at hx
  have hg : (zG pf d).length ≤ 65535 := by omega
  have hs4 : ∀ p ∈ ([vJ d, zG pf d, vJ w, l, r] : List (List UInt8)), p.length ≤ 65535 := by
    intro p hp
    simp only [List.mem_cons, List.not_mem_nil, or_false] at hp
    rcases hp with rfl | rfl | rfl | rfl | rfl <;> first | omega | (rw [vD]; omega)
  have hp4 : gJ [vJ d, zG pf d, vJ w, l, r] ≤ 100000000 := by simp only [gJ, List.map_cons, List.map_nil, List.sum_cons, List.sum_nil, vD]; omega
  refine qJ ?_; repeat' (first | ((with_reducible apply qI) <;> try simp only [qN, qC, qE, qG, qD, qA, qF, seval, qQ, qO, qP, dZ]))
  refine (c_Hash N (t.hs t4) k (tag := 2) (by omega) q4 hs4 (by simp) hp4).mono ?_
  rintro _ h5 ⟨s5, a5, c5, rfl, r5, sl5⟩
  refine qJ ?_; repeat' (first | ((with_reducible first | apply qI | apply qM) <;> try simp only [qN, qC, qE, qG, qD, qA, qF, seval, qQ, qO, qP, dZ]))
  exact ⟨t4.trans s5, a5, c5, rfl, r5, sl5⟩
theorem rZ (N : Nat) {h : GH} (k : Int) {d w : Nat} (hd : d ≤ 1000000) (hw : w ≤ 1000000) {a b c : Option Addr} {ca cb cc : Nat} {pf l r : List UInt8} (rp : RB h (.slice a pf.length ca) pf) (rl : RB h (.slice b l.length cb) l) (rr : RB h (.slice c r.length cc) r) (hp : pf.length ≤ 60000) (hl : l.length ≤ 60000) (hr : r.length ≤ 60000) : GTri Tryz.prog N 136 [.int .i64 k, .int .i64 d, .slice a pf.length ca, .int .i64 w, .slice b l.length cb, .slice c r.length cc] h fun v h' => HS h h' ∧ ∃ a c, v = .slice a (vS k (vQ d pf w l r)).length c ∧ RB h' (.slice a (vS k (vQ d pf w l r)).length c) (vS k (vQ d pf w l r)) := by
  have gl := wM pf d
  refine zU Tryz.func136 rfl gf136 ok136 (by simp [Tryz.ntmps136]) ?_
  repeat' (first | with_reducible apply qK | ((with_reducible apply qB) <;> try simp only [qN, qC, qE, qG, qD, qA, qF, seval, qQ, qO, qP, dY]))
  refine (rA N h d (by omega)).mono ?_
  rintro _ h1 ⟨s1, k1, z1, rfl, r1⟩
  refine qJ ?_; repeat' (first | ((with_reducible apply qI) <;> try simp only [qN, qC, qE, qG, qD, qA, qF, seval, qQ, qO, qP, dY]))
  refine (gR N h1 (rp.hs s1) (by omega) d (WalkArith.wf_i64 (by omega))).mono ?_
  rintro _ h2 ⟨s2, a2, c2, rfl, r2⟩
  rw [Int.toNat_natCast] at r2
  simp only [Int.toNat_natCast]
  have t2 := s1.trans s2
  refine qJ ?_; repeat' (first | ((with_reducible apply qI) <;> try simp only [qN, qC, qE, qG, qD, qA, qF, seval, qQ, qO, qP, dY]))
  refine (rA N h2 w (by omega)).mono ?_
  rintro _ h3 ⟨s3, k3, z3, rfl, r3⟩
  have t3 := t2.trans s3
  refine qJ ?_; repeat' (first | ((with_reducible apply qI) <;> try simp only [qN, qC, qE, qG, qD, qA, qF, seval, qQ, qO, qP, dY]))
  refine fJ (cs := [.slice k1 8 z1, .slice a2 (zG pf d).length c2, .slice k3 8 z3, .slice b l.length cb, .slice c r.length cc]) qP8 rfl (by decide) (by decide) (by rw [wD _ rfl]; rfl) rfl fun k4 h4 m4 s4 f4 n4 => ?_
  have t4 := t3.trans s4
  have q4 : RBs h4 (.slice (some ⟨k4, 0, none⟩) ([vJ d, zG pf d, vJ w, l, r] : List (List UInt8)).length 11) [vJ d, zG pf d, vJ w, l, r] := kZ m4 (by decide) rfl fun i x hx => by
    rcases i with _ | _ | _ | _ | _ | i
    · cases hx; exact ⟨_, _, rfl, r1.hs ((s2.trans s3).trans s4)⟩
    · cases hx; exact ⟨_, _, rfl, r2.hs (s3.trans s4)⟩
    · cases hx; exact ⟨_, _, rfl, r3.hs s4⟩
    · cases hx; exact ⟨_, _, rfl, rl.hs t4⟩
    · cases hx; exact ⟨_, _, rfl, rr.hs t4⟩
    · simp at hx
  have hg : (zG pf d).length ≤ 65535 := by omega
  have hs4 : ∀ p ∈ ([vJ d, zG pf d, vJ w, l, r] : List (List UInt8)), p.length ≤ 65535 := by
    intro p hp
    simp only [List.mem_cons, List.not_mem_nil, or_false] at hp
    rcases hp with rfl | rfl | rfl | rfl | rfl <;> first | omega | (rw [vD]; omega)
  have hp4 : gJ [vJ d, zG pf d, vJ w, l, r] ≤ 100000000 := by simp only [gJ, List.map_cons, List.map_nil, List.sum_cons, List.sum_nil, vD]; omega
  refine qJ ?_; repeat' (first | ((with_reducible apply qI) <;> try simp only [qN, qC, qE, qG, qD, qA, qF, seval, qQ, qO, qP, dY]))
  refine (zP6 N k (tag := 2) (by omega) q4 hs4 (by simp) hp4).mono ?_
  rintro _ h5 ⟨s5, a5, c5, rfl, r5⟩
  refine qJ ?_; repeat' (first | ((with_reducible first | apply qI | apply qM) <;> try simp only [qN, qC, qE, qG, qD, qA, qF, seval, qQ, qO, qP, dY]))
  exact ⟨t4.trans s5, a5, c5, rfl, r5⟩
theorem zG2 (N : Nat) {h : GH} {w : Nat} (hw : w ≤ 1000000) {a b : Option Addr} {ca cb : Nat} {id ky : List UInt8} (ri : RB h (.slice a id.length ca) id) (rk : RB h (.slice b ky.length cb) ky) (hi : id.length ≤ 60000) (hk : ky.length ≤ 60000) : GTri Tryz.prog N 60 [.slice a id.length ca, .slice b ky.length cb, .int .i64 w] h fun v h' => HS h h' ∧ ∃ a c, v = .slice a (fW id ky w).length c ∧ RB h' (.slice a (fW id ky w).length c) (fW id ky w) ∧ SL h' (.slice a (fW id ky w).length c) := by
  refine zU Tryz.func60 rfl gf60 ok60 (by simp [Tryz.ntmps60]) ?_
  repeat' (first | with_reducible apply qK | ((with_reducible apply qB) <;> try simp only [qN, qC, qE, qG, qD, qA, qF, seval, qQ, qO, qP, qA5]))
  refine (rA N h w (by omega)).mono ?_
  rintro _ h3 ⟨t3, k3, z3, rfl, r3⟩
  refine qJ ?_; repeat' (first | ((with_reducible apply qI) <;> try simp only [qN, qC, qE, qG, qD, qA, qF, seval, qQ, qO, qP, qA5]))
  refine fJ (cs := [.slice a id.length ca, .slice b ky.length cb, .slice k3 8 z3]) qP8 rfl (by decide) (by decide) (by rw [wD _ rfl]; rfl) rfl fun k4 h4 m4 s4 f4 n4 => ?_
  have t4 := t3.trans s4
  have q4 : RBs h4 (.slice (some ⟨k4, 0, none⟩) ([id, ky, vJ w] : List (List UInt8)).length 7) [id, ky, vJ w] := kZ m4 (by decide) rfl fun i x hx => by
    rcases i with _ | _ | _ | i
    · cases hx; exact ⟨_, _, rfl, ri.hs t4⟩
    · cases hx; exact ⟨_, _, rfl, rk.hs t4⟩
    · cases hx; exact ⟨_, _, rfl, r3.hs s4⟩
    · simp at hx
  have hs4 : ∀ p ∈ ([id, ky, vJ w] : List (List UInt8)), p.length ≤ 65535 := by
    intro p hp
    simp only [List.mem_cons, List.not_mem_nil, or_false] at hp
    rcases hp with rfl | rfl | rfl <;> first | omega | (rw [vD]; omega)
  have hp4 : gJ [id, ky, vJ w] ≤ 100000000 := by simp only [gJ, List.map_cons, List.map_nil, List.sum_cons, List.sum_nil, vD]; omega
  refine qJ ?_; repeat' (first | ((with_reducible apply qI) <;> try simp only [qN, qC, qE, qG, qD, qA, qF, seval, qQ, qO, qP, qA5]))
  refine (qJ6 N h4 (tag := 1) (by omega) q4 hs4 (by simp) hp4).mono ?_
  rintro _ h5 ⟨s5, a5, c5, rfl, r5, sl5⟩
  refine qJ ?_; repeat' (first | with_reducible apply qK | ((with_reducible first | apply qI | apply qB | apply qM) <;> try simp only [qN, qC, qE, qG, qD, qA, qF, seval, qQ, qO, qP, qA5]))
  exact ⟨t4.trans s5, a5, c5, rfl, r5, sl5⟩
theorem zL5 (N : Nat) {h : GH} (t : TK h) (k : Int) {w : Nat} (hw : w ≤ 1000000) {a b : Option Addr} {ca cb : Nat} {id ky : List UInt8} (ri : RB h (.slice a id.length ca) id) (rk : RB h (.slice b ky.length cb) ky) (hi : id.length ≤ 60000) (hk : ky.length ≤ 60000) : GTri Tryz.prog N 128 [.int .i64 k, .slice a id.length ca, .slice b ky.length cb, .int .i64 w] h fun v h' => HS h h' ∧ ∃ a c, v = .slice a (vS k (fW id ky w)).length c ∧ RB h' (.slice a (vS k (fW id ky w)).length c) (vS k (fW id ky w)) ∧ SL h' (.slice a (vS k (fW id ky w)).length c) := by
  refine zU Tryz.func128 rfl gf128 ok128 (by simp [Tryz.ntmps128]) ?_
  repeat' (first | with_reducible apply qK | ((with_reducible apply qB) <;> try simp only [qN, qC, qE, qG, qD, qA, qF, seval, qQ, qO, qP, mC]))
  refine (sF N h w (by omega)).mono ?_
  rintro _ h3 ⟨t3, k3, rfl, r3⟩
  refine qJ ?_; repeat' (first | ((with_reducible apply qI) <;> try simp only [qN, qC, qE, qG, qD, qA, qF, seval, qQ, qO, qP, mC]))
  refine fJ (cs := [.slice a id.length ca, .slice b ky.length cb, .slice (some ⟨k3, 0, none⟩) 8 17]) qP8 rfl (by decide) (by decide) (by rw [wD _ rfl]; rfl) rfl fun k4 h4 m4 s4 f4 n4 => ?_
  have t4 := t3.trans s4
  have q4 : RBs h4 (.slice (some ⟨k4, 0, none⟩) ([id, ky, vJ w] : List (List UInt8)).length 7) [id, ky, vJ w] := kZ m4 (by decide) rfl fun i x hx => by
    rcases i with _ | _ | _ | i
    · cases hx; exact ⟨_, _, rfl, ri.hs t4⟩
    · cases hx; exact ⟨_, _, rfl, rk.hs t4⟩
    · cases hx; exact ⟨_, _, rfl, r3.hs s4⟩
    · simp at hx
  have hs4 : ∀ p ∈ ([id, ky, vJ w] : List (List UInt8)), p.length ≤ 65535 := by
    intro p hp
    simp only [List.mem_cons, List.not_mem_nil, or_false] at hp
    rcases hp with rfl | rfl | rfl <;> first | omega | (rw [vD]; omega)
  have hp4 : gJ [id, ky, vJ w] ≤ 100000000 := by simp only [gJ, List.map_cons, List.map_nil, List.sum_cons, List.sum_nil, vD]; omega
  refine qJ ?_; repeat' (first | ((with_reducible apply qI) <;> try simp only [qN, qC, qE, qG, qD, qA, qF, seval, qQ, qO, qP, mC]))
  refine (c_Hash N (t.hs t4) k (tag := 1) (by omega) q4 hs4 (by simp) hp4).mono ?_
  rintro _ h5 ⟨s5, a5, c5, rfl, r5, sl5⟩
  refine qJ ?_; repeat' (first | ((with_reducible first | apply qI | apply qM) <;> try simp only [qN, qC, qE, qG, qD, qA, qF, seval, qQ, qO, qP, mC]))
  exact ⟨t4.trans s5, a5, c5, rfl, r5, sl5⟩
theorem zG4 (N : Nat) {h : GH} (k : Int) {w : Nat} (hw : w ≤ 1000000) {a b : Option Addr} {ca cb : Nat} {id ky : List UInt8} (ri : RB h (.slice a id.length ca) id) (rk : RB h (.slice b ky.length cb) ky) (hi : id.length ≤ 60000) (hk : ky.length ≤ 60000) : GTri Tryz.prog N 135 [.int .i64 k, .slice a id.length ca, .slice b ky.length cb, .int .i64 w] h fun v h' => HS h h' ∧ ∃ a c, v = .slice a (vS k (fW id ky w)).length c ∧ RB h' (.slice a (vS k (fW id ky w)).length c) (vS k (fW id ky w)) := by
  refine zU Tryz.func135 rfl gf135 ok135 (by simp [Tryz.ntmps135]) ?_
  repeat' (first | with_reducible apply qK | ((with_reducible apply qB) <;> try simp only [qN, qC, qE, qG, qD, qA, qF, seval, qQ, qO, qP, mA]))
  refine (rA N h w (by omega)).mono ?_
  rintro _ h3 ⟨t3, k3, z3, rfl, r3⟩
  refine qJ ?_; repeat' (first | ((with_reducible apply qI) <;> try simp only [qN, qC, qE, qG, qD, qA, qF, seval, qQ, qO, qP, mA]))
  refine fJ (cs := [.slice a id.length ca, .slice b ky.length cb, .slice k3 8 z3]) qP8 rfl (by decide) (by decide) (by rw [wD _ rfl]; rfl) rfl fun k4 h4 m4 s4 f4 n4 => ?_
  have t4 := t3.trans s4
  have q4 : RBs h4 (.slice (some ⟨k4, 0, none⟩) ([id, ky, vJ w] : List (List UInt8)).length 7) [id, ky, vJ w] := kZ m4 (by decide) rfl fun i x hx => by
    rcases i with _ | _ | _ | i
    · cases hx; exact ⟨_, _, rfl, ri.hs t4⟩
    · cases hx; exact ⟨_, _, rfl, rk.hs t4⟩
    · cases hx; exact ⟨_, _, rfl, r3.hs s4⟩
    · simp at hx
  have hs4 : ∀ p ∈ ([id, ky, vJ w] : List (List UInt8)), p.length ≤ 65535 := by
    intro p hp
    simp only [List.mem_cons, List.not_mem_nil, or_false] at hp
    rcases hp with rfl | rfl | rfl <;> first | omega | (rw [vD]; omega)
  have hp4 : gJ [id, ky, vJ w] ≤ 100000000 := by simp only [gJ, List.map_cons, List.map_nil, List.sum_cons, List.sum_nil, vD]; omega
  refine qJ ?_; repeat' (first | ((with_reducible apply qI) <;> try simp only [qN, qC, qE, qG, qD, qA, qF, seval, qQ, qO, qP, mA]))
  refine (zP6 N k (tag := 1) (by omega) q4 hs4 (by simp) hp4).mono ?_
  rintro _ h5 ⟨s5, a5, c5, rfl, r5⟩
  refine qJ ?_; repeat' (first | ((with_reducible first | apply qI | apply qM) <;> try simp only [qN, qC, qE, qG, qD, qA, qF, seval, qQ, qO, qP, mA]))
  exact ⟨t4.trans s5, a5, c5, rfl, r5⟩
theorem qY9 (N : Nat) (h : GH) : GTri Tryz.prog N 59 [] h fun v h' => HS h h' ∧ ∃ a c, v = .slice a emptyB.length c ∧ RB h' (.slice a emptyB.length c) emptyB ∧ SL h' (.slice a emptyB.length c) := by
  refine zU Tryz.func59 rfl gf59 ok59 (by simp [Tryz.ntmps59]) ?_
  repeat' (first | with_reducible apply qK | ((with_reducible apply qB) <;> try simp only [qN, qC, qE, qG, qD, qA, qF, seval, qQ, qO, qP, zD8]))
  refine (qJ6 N h (tag := 0) (by omega) (ps := []) (RL.nil h) (by simp) (by simp) (by simp [gJ])).mono ?_
  rintro _ h1 ⟨s1, a1, c1, rfl, r1, sl1⟩
  refine qJ ?_; repeat' (first | with_reducible apply qK | ((with_reducible first | apply qI | apply qB | apply qM) <;> try simp only [qN, qC, qE, qG, qD, qA, qF, seval, qQ, qO, qP, zD8]))
  exact ⟨s1, a1, c1, rfl, r1, sl1⟩
def FR (e k : Nat) (h h' : GH) : Prop := ∀ j B, h j = some B → (B.cells.all vO = false ∨ (j ≠ k ∧ B.es ≠ e)) → h' j = some B
theorem FR.of {e k : Nat} {h h' : GH} (s : HS h h') : FR e k h h' := fun j B m _ => s j B m
theorem FR.trans {e k : Nat} {a b c : GH} (x : FR e k a b) (y : FR e k b c) : FR e k a c := fun j B m q => y j B (x j B m q) q
theorem FR.hs {e k : Nat} {a b c : GH} (x : FR e k a b) (s : HS b c) : FR e k a c := x.trans (.of s)
theorem RB.fr {e k : Nat} {h h' : GH} (f : FR e k h h') {v : Value} {l : List UInt8} (r : RB h v l) : RB h' v l := by
  rcases r with r | ⟨ad, c, h1, h2, h3⟩
  · exact .inl r
  · refine .inr ⟨ad, c, h1, ?_, h3⟩
    by_cases h0 : l.length = 0
    · rw [h0] at h2 ⊢; simp only [wA, if_true] at h2 ⊢; exact h2
    · have h2' := h2
      unfold wA at h2
      rw [if_neg h0] at h2
      split at h2
      case h_2 => cases h2
      rename_i B hs hB
      have hb : bv (l[0]'(by omega)) ∈ B.cells := qD2 h2' h0 hB _ (List.mem_map.2 ⟨_, List.getElem_mem _, rfl⟩)
      have := f _ B hB (.inl (by
        cases hc : B.cells.all vO
        · rfl
        · rw [List.all_eq_true] at hc
          have := hc _ hb
          simp [vO, bv] at this))
      unfold wA
      rw [if_neg h0, hs, this]
      exact h2
theorem OWNC.fr {es e k : Nat} {h0 h h' : GH} {v : Value} {n : Nat} {cs : List Value} (f : FR e k h h') {B : GB} (hk : h k = some B) (hb : B.es ≠ es) (he : es ≠ e) (o : OWNC es h0 h v n cs) : OWNC es h0 h' v n cs := by
  rcases o with o | o | ⟨j, c, h1, h2, h3, h4, h5, h6, h7⟩
  · exact .inl o
  · exact .inr (.inl o)
  · exact .inr (.inr ⟨j, c, h1, h2, h3, h4, h5, f _ _ h6 (.inr ⟨fun q => by rw [q, hk] at h6; cases h6; exact hb rfl, he⟩), h7⟩)
theorem jP {α : Type} {l : List α} {i : Nat} (h : i < l.length) : ∃ x, l[i]? = some x := ⟨_, List.getElem?_eq_getElem h⟩
theorem rO {α : Type} {L cs : List α} {o n i : Nat} {v : α} (h : (L.drop o).take n = cs) (h2 : cs[i]? = some v) : L[o + i]? = some v := by
  subst h
  have hi : i < n := by
    have := (List.getElem?_eq_some_iff.1 h2).1
    rw [List.length_take] at this; omega
  rw [List.getElem?_take, if_pos hi, List.getElem?_drop] at h2
  exact h2
structure Nd where
  (lf : Bool) (id ky : List UInt8) (si dp : Nat) (pf : List UInt8) (nw l r : Nat) (hs : List UInt8)
def Nd.cs (x : Nd) (i k p s : Value) : List Value := [.bool x.lf, i, k, .int .i64 x.si, .int .i64 x.dp, p, .int .i64 x.nw, .int .i64 x.l, .int .i64 x.r, s]
def RNd (h : GH) (cs : List Value) (x : Nd) : Prop :=
  ∃ a1 c1 a2 c2 a3 c3 a4 c4, cs = x.cs (.slice a1 x.id.length c1) (.slice a2 x.ky.length c2) (.slice a3 x.pf.length c3) (.slice a4 x.hs.length c4) ∧
    RB h (.slice a1 x.id.length c1) x.id ∧ RB h (.slice a2 x.ky.length c2) x.ky ∧ RB h (.slice a3 x.pf.length c3) x.pf ∧ RB h (.slice a4 x.hs.length c4) x.hs
theorem RNd.fr {e k : Nat} {h h' : GH} (f : FR e k h h') {cs : List Value} {x : Nd} (r : RNd h cs x) : RNd h' cs x := by
  obtain ⟨a1, c1, a2, c2, a3, c3, a4, c4, rfl, r1, r2, r3, r4⟩ := r
  exact ⟨a1, c1, a2, c2, a3, c3, a4, c4, rfl, r1.fr f, r2.fr f, r3.fr f, r4.fr f⟩
theorem RNd.hs {h h' : GH} (s : HS h h') {cs : List Value} {x : Nd} (r : RNd h cs x) : RNd h' cs x := r.fr (e := 0) (k := 0) (.of s)
theorem RNd.len {h : GH} {cs : List Value} {x : Nd} (r : RNd h cs x) : cs.length = 10 ∧ cs.all zK = true ∧ cs.all vO = true := by
  obtain ⟨a1, c1, a2, c2, a3, c3, a4, c4, rfl, _⟩ := r
  exact ⟨rfl, rfl, rfl⟩
def CNd (h : GH) (cs : List Value) (x : Nd) : Prop := ∃ cn, cs = .bool true :: cn ∧ RNd h cn x
theorem CNd.fr {e k : Nat} {h h' : GH} (f : FR e k h h') {cs : List Value} {x : Nd} (r : CNd h cs x) : CNd h' cs x := by
  obtain ⟨cn, rfl, r⟩ := r
  exact ⟨cn, rfl, r.fr f⟩
structure Nd.ok (x : Nd) (i : Nat) : Prop where
  id : x.id.length ≤ 255
  ky : x.ky.length ≤ 60000
  pf : x.pf.length ≤ 60000
  si : x.si ≤ 1000000
  dp : x.dp ≤ 1000000
  nw : x.nw ≤ 1000000
  hs : x.hs.length = 4
  l : x.l ≤ i
  r : x.r ≤ i
structure NOK (M : List Nd) : Prop where
  len : M.length ≤ 10000
  ok : ∀ (i : Nat) x, M[i]? = some x → x.ok i
theorem NOK.push {M : List Nd} (n : NOK M) {x : Nd} (hl : M.length < 10000) (hx : x.ok M.length) : NOK (M ++ [x]) := by
  refine ⟨by simp; omega, fun i y hy => ?_⟩
  by_cases h : i < M.length
  · rw [List.getElem?_append_left h] at hy
    exact n.ok i y hy
  · rw [List.getElem?_append_right (by omega)] at hy
    have : i - M.length = 0 := by
      by_cases h2 : i - M.length = 0
      · exact h2
      · rw [List.getElem?_eq_none (by simp; omega)] at hy; cases hy
    rw [this] at hy
    cases hy
    rw [show i = M.length by omega]; exact hx
structure AS (e : Nat) (R : GH → List Value → Nd → Prop) (h0 h : GH) (v : Value) (cs : List Value) (M : List Nd) : Prop where
  own : OWNC e h0 h v M.length cs
  u8 : cs.all vO = true
  nd : ∀ (i : Nat) x, M[i]? = some x → R h ((cs.drop (i * e)).take e) x
  ok : NOK M
theorem AS.at {P : Program} {e : Nat} {R : GH → List Value → Nd → Prop} {h0 h : GH} {a : Option Addr} {m c : Nat} {cs : List Value} {M : List Nd} (s : AS e R h0 h (.slice a m c) cs M) {t et : TypeId} {b : Bool} (ht : P.underlying t = some (.slice et)) (he : vG P et = some (b, e)) {i : Nat} {x : Nd} (hx : M[i]? = some x) :
    ∃ kb, zJ P t (.slice a m c) (i : Int) = some (.pointer (some ⟨kb, i * e, none⟩)) ∧ h kb = some ⟨cs, e, true, true⟩ ∧ R h ((cs.drop (i * e)).take e) x := by
  have hlt := (List.getElem?_eq_some_iff.1 hx).1
  rcases s.own with ⟨_, q, _⟩ | ⟨_, _, q, _⟩ | ⟨kb, c', q, h2, h3, h4, h5, h6, h7⟩
  · omega
  · omega
  · cases q
    exact ⟨kb, kR ht he hlt, h6, s.nd i x hx⟩
theorem AS.keep {e : Nat} {R : GH → List Value → Nd → Prop} {h0 h h' : GH} {v : Value} {cs : List Value} {M : List Nd} (s : AS e R h0 h v cs M) (o : OWNC e h0 h' v M.length cs) (f : ∀ c x, R h c x → R h' c x) : AS e R h0 h' v cs M := ⟨o, s.u8, fun i x hx => f _ _ (s.nd i x hx), s.ok⟩
theorem AS.push {e : Nat} {R : GH → List Value → Nd → Prop} {h0 h h' : GH} {v v' : Value} {cs cn : List Value} {M : List Nd} {x : Nd} (s : AS e R h0 h v cs M) (o : OWNC e h0 h' v' (M.length + 1) (cs ++ cn)) (hu : cn.all vO = true) (hl : cn.length = e) (f : ∀ c x, R h c x → R h' c x) (r : R h' cn x) (hm : M.length < 10000) (hx : x.ok M.length) : AS e R h0 h' v' (cs ++ cn) (M ++ [x]) := by
  have hc := s.own.len
  refine ⟨by simpa using o, by rw [List.all_append, s.u8, hu]; rfl, fun i y hy => ?_, s.ok.push hm hx⟩
  by_cases h : i < M.length
  · rw [List.getElem?_append_left h] at hy
    have hle : i * e + e ≤ cs.length := by
      rw [hc]
      have := Nat.mul_le_mul_right e (show i + 1 ≤ M.length by omega)
      rw [Nat.add_mul, Nat.one_mul] at this
      exact this
    have h1 := f _ _ (s.nd i y hy)
    rwa [List.drop_append_of_le_length (by omega), List.take_append_of_le_length (by rw [List.length_drop]; omega)]
  · rw [List.getElem?_append_right (by omega)] at hy
    have : i - M.length = 0 := by
      by_cases h2 : i - M.length = 0
      · exact h2
      · rw [List.getElem?_eq_none (by simp; omega)] at hy; cases hy
    rw [this] at hy
    cases hy
    rw [show i = M.length by omega, ← hc, List.drop_left, List.take_of_length_le (by omega)]
    exact r
theorem st_end {P : Program} {h : GH} {k o : Nat} {pre old : List Value} {es : Nat} {tl : Bool} {t n : Nat} {b : Bool} {v : Value} {K : Value → GH → Prop} (hk : h k = some ⟨pre ++ old, es, true, tl⟩) (hz : vG P t = some (b, n)) (hn : n ≠ 0) (ho : o = pre.length) (hl : (vcells v).length = n) (hB : old.length = n) (hc : (vcells v).all zK = true)
    (g : ∀ h', h' k = some ⟨pre ++ vcells v, es, true, tl⟩ → (∀ j, j ≠ k → h' j = h j) → K U h') : qV9 (dI P t h (.pointer (some ⟨k, o, none⟩)) v) K := by
  refine ⟨yB h k ⟨pre ++ vcells v, es, true, tl⟩, ?_, g _ (zP _ _ _) (fun j hj => zT _ _ hj)⟩
  have hs : v.cells.size = n := by rw [← hl, ← vM]; simp
  simp only [dI, hz]
  rw [if_pos ⟨hs, by rw [vM]; exact hc⟩]
  simp only [kQ, hk, vM]
  rw [if_neg (by omega), if_pos ⟨by first | trivial | rfl, by simp; omega⟩]
  congr 3
  simp only [jE]
  rw [ho, List.take_left, hl, ← hB, ← List.length_append, List.drop_length, List.append_nil]
structure AA (h0 h : GH) (k : Nat) (v : Value) (cs : List Value) (M : List Nd) : Prop where
  obj : h k = some ⟨[.int .i64 4, .int .i64 16384, v, .slice none 0 0], 0, true, false⟩
  nk : h0 k = none
  arr : AS 11 CNd h0 h v cs M
structure AB (h0 h : GH) (k : Nat) (v : Value) (cs : List Value) (M : List Nd) : Prop where
  obj : h k = some ⟨[.int .i64 4, .int .i64 16384, v], 0, true, false⟩
  nk : h0 k = none
  arr : AS 10 RNd h0 h v cs M
section
variable {h0 h h' : GH} {k : Nat} {v : Value} {cs : List Value} {M : List Nd}
theorem AA.fr {e j : Nat} (x : AA h0 h k v cs M) (f : FR e j h h') {B : GB} (hj : h j = some B) (hb : B.es = 0) (hne : k ≠ j) (he : e ≠ 0) (he2 : e ≠ 11) : AA h0 h' k v cs M :=
  ⟨f _ _ x.obj (.inr ⟨hne, fun q => he q.symm⟩), x.nk, x.arr.keep (x.arr.own.fr f hj (by omega) (by omega)) fun _ _ r => r.fr f⟩
theorem AB.fr {e j : Nat} (x : AB h0 h k v cs M) (f : FR e j h h') {B : GB} (hj : h j = some B) (hb : B.es = 0) (hne : k ≠ j) (he : e ≠ 0) (he2 : e ≠ 10) : AB h0 h' k v cs M :=
  ⟨f _ _ x.obj (.inr ⟨hne, fun q => he q.symm⟩), x.nk, x.arr.keep (x.arr.own.fr f hj (by omega) (by omega)) fun _ _ r => r.fr f⟩
theorem AA.hs (x : AA h0 h k v cs M) (s : HS h h') : AA h0 h' k v cs M :=
  ⟨s _ _ x.obj, x.nk, x.arr.keep (x.arr.own.hs s) fun _ _ r => r.fr (e := 0) (k := 0) (.of s)⟩
theorem AB.hs (x : AB h0 h k v cs M) (s : HS h h') : AB h0 h' k v cs M :=
  ⟨s _ _ x.obj, x.nk, x.arr.keep (x.arr.own.hs s) fun _ _ r => r.fr (e := 0) (k := 0) (.of s)⟩
end
theorem zS8 : type_of% (And.intro kX (And.intro kA (And.intro vT (And.intro xB (And.intro jJ rs99))))) := And.intro kX (And.intro kA (And.intro vT (And.intro xB (And.intro jJ rs99))))
theorem qE8 : type_of% (And.intro kX (And.intro kA (And.intro vT (And.intro qQ4 (And.intro vU (And.intro xB (And.intro uI (And.intro jJ rs97)))))))) := And.intro kX (And.intro kA (And.intro vT (And.intro qQ4 (And.intro vU (And.intro xB (And.intro uI (And.intro jJ rs97)))))))
theorem zK4 : type_of% (And.intro kA (And.intro xB rs154)) := And.intro kA (And.intro xB rs154)
theorem zK5 : type_of% (And.intro kX (And.intro kA (And.intro vT (And.intro qQ4 (And.intro xB (And.intro jJ rs127)))))) := And.intro kX (And.intro kA (And.intro vT (And.intro qQ4 (And.intro xB (And.intro jJ rs127)))))
def qK2 : Nat → List (Nat × List Nat) × List Nat
  | 3 => ([(0, []), (1, []), (2, []), (3, []), (4, []), (5, []), (6, []), (7, []), (8, []), (9, [3, 4]), (10, []), (11, [])], [0, 1, 3, 7, 15, 0, 32, 96, 224, 480, 1023, 2047])
  | _ => ([], [])
theorem zS9 : type_of% (And.intro kX (And.intro kA (And.intro vT (And.intro xB (And.intro jJ rs85))))) := And.intro kX (And.intro kA (And.intro vT (And.intro xB (And.intro jJ rs85))))
def qR2 : Nat → List (Nat × List Nat) × List Nat
  | 3 => ([(0, []), (1, []), (2, []), (3, []), (4, []), (5, [3]), (6, []), (7, [])], [0, 1, 3, 7, 0, 16, 63, 127])
  | _ => ([], [])
theorem zT0 : type_of% (And.intro kX (And.intro kA (And.intro vT (And.intro xB (And.intro jJ rs82))))) := And.intro kX (And.intro kA (And.intro vT (And.intro xB (And.intro jJ rs82))))
theorem jH : type_of% (And.intro Tryz.underlying192 (And.intro kX (And.intro kA (And.intro zF (And.intro vT (And.intro qQ4 (And.intro vU (And.intro ty188 (And.intro xB (And.intro uI (And.intro jJ (And.intro ty192 rs129)))))))))))) := And.intro Tryz.underlying192 (And.intro kX (And.intro kA (And.intro zF (And.intro vT (And.intro qQ4 (And.intro vU (And.intro ty188 (And.intro xB (And.intro uI (And.intro jJ (And.intro ty192 rs129)))))))))))
def jD : Nat → List (Nat × List Nat) × List Nat
  | 7 => ([(0, []), (1, []), (2, []), (3, []), (4, []), (5, []), (6, []), (7, []), (8, [])], [0, 1, 3, 7, 0, 0, 32, 127, 255])
  | _ => ([], [])
theorem ne_es {h : GH} {a b : Nat} {A B : GB} (x : h a = some A) (y : h b = some B) (e : A.es ≠ B.es) : a ≠ b := fun q => by
  rw [q, y] at x; cases x; exact e rfl
section
variable {h0 h h' : GH} {k : Nat} {v : Value} {cs : List Value} {M : List Nd}
theorem sV (N : Nat) (x : AA h0 h k v cs M) : GTri Tryz.prog N 99 [.pointer (some ⟨k, 0, none⟩)] h fun u h' => u = .bool false ∧ h' = h := by
  have ho := x.obj
  refine zU Tryz.func99 rfl gf99 ok99 (by simp [Tryz.ntmps99]) ?_
  refine qJ ?_; repeat' (first | with_reducible apply qK | ((with_reducible first | apply qI | apply qB | apply qM) <;> try simp only [qN, qC, qE, qG, qD, qA, qF, seval, qQ, qO, qP, zS8, gNil, qH ho zS]))
theorem c_at (N : Nat) (x : AA h0 h k v cs M) {i : Nat} {nd : Nd} (hi : M[i]? = some nd) : GTri Tryz.prog N 97 [.pointer (some ⟨k, 0, none⟩), .int .i64 (i : Int)] h fun u h' => h' = h ∧ ∃ kb cn, u = .pointer (some ⟨kb, i * 11 + 1, none⟩) ∧ h kb = some ⟨cs, 11, true, true⟩ ∧ (cs.drop (i * 11 + 1)).take 10 = cn ∧ RNd h cn nd := by
  obtain ⟨a, c, e⟩ := x.arr.own.form
  subst e
  have hlt := (List.getElem?_eq_some_iff.1 hi).1
  have hlen := x.arr.ok.len
  have ho := x.obj
  obtain ⟨kb, g1, mb, cn, e1, r1⟩ := x.arr.at (P := Tryz.prog) Tryz.underlying126 zM5 hi
  have z0 : cs[i * 11]? = some (.bool true) := rO (i := 0) e1 rfl
  have z1 : (cs.drop (i * 11 + 1)).take 10 = cn := by
    have : (List.take 11 (List.drop (i * 11) cs)).drop 1 = cn := by rw [e1]; rfl
    rw [List.drop_take, List.drop_drop] at this
    exact this
  have d1 : decide ((i : Int) < 0) = false := decide_eq_false (by omega)
  have d2 : decide ((i : Int) ≥ (M.length : Int)) = false := decide_eq_false (by omega)
  refine zU Tryz.func97 rfl gf97 ok97 (by simp [Tryz.ntmps97]) ?_
  refine qJ ?_; repeat' (first | with_reducible apply qK | ((first | (with_reducible first | apply qI | apply qB | apply qR | apply qT | apply qM) | ((refine GTri.mono (sV _ x) ?_); rintro _ _ ⟨rfl, hh9⟩; replace hh9 := hh9.symm; subst hh9)) <;> try simp only [qN, qC, qE, qG, qD, qA, qF, seval, qQ, qO, qP, qE8, d1, d2, gNil, qH ho qG3, g1, qH mb gV, Nat.add_zero, z0]))
  exact ⟨kb, cn, rfl, mb, z1, r1⟩
theorem c_atN (N : Nat) (x : AA h0 h k v cs M) {i : Int} (hi : i < 0 ∨ (M.length : Int) ≤ i) : GTri Tryz.prog N 97 [.pointer (some ⟨k, 0, none⟩), .int .i64 i] h fun u h' => h' = h ∧ u = .pointer none := by
  obtain ⟨a, c, e⟩ := x.arr.own.form
  subst e
  have hlen := x.arr.ok.len
  have ho := x.obj
  refine zU Tryz.func97 rfl gf97 ok97 (by simp [Tryz.ntmps97]) ?_
  by_cases h1 : i < 0
  · have d1 : decide (i < 0) = true := decide_eq_true h1
    refine qJ ?_; repeat' (first | with_reducible apply qK | ((first | (with_reducible first | apply qI | apply qB | apply qR | apply qM) | ((refine GTri.mono (sV _ x) ?_); rintro _ _ ⟨rfl, hh9⟩; replace hh9 := hh9.symm; subst hh9)) <;> try simp only [qN, qC, qE, qG, qD, qA, qF, seval, qQ, qO, qP, qE8, d1]))
  have d1 : decide (i < 0) = false := decide_eq_false h1
  have d2 : decide (i ≥ (M.length : Int)) = true := decide_eq_true (by omega)
  refine qJ ?_; repeat' (first | with_reducible apply qK | ((first | (with_reducible first | apply qI | apply qB | apply qR | apply qM) | ((refine GTri.mono (sV _ x) ?_); rintro _ _ ⟨rfl, hh9⟩; replace hh9 := hh9.symm; subst hh9)) <;> try simp only [qN, qC, qE, qG, qD, qA, qF, seval, qQ, qO, qP, qE8, d1, d2, gNil, qH ho qG3]))
theorem zG7 (N : Nat) (h : GH) : GTri Tryz.prog N 154 [.slice none 0 0] h fun u h' => u = .int .i64 0 ∧ h' = h := by
  refine zU Tryz.func154 rfl gf154 ok154 (by simp [Tryz.ntmps154]) ?_
  refine qJ ?_; repeat' (first | with_reducible apply qK | ((with_reducible first | apply qI | apply qB | apply qM) <;> try simp only [qN, qC, qE, qG, qD, qA, qF, seval, qQ, qO, qP, zK4]))
theorem c_Used (N : Nat) (x : AA h0 h k v cs M) : GTri Tryz.prog N 127 [.pointer (some ⟨k, 0, none⟩)] h fun u h' => u = .int .i64 (M.length : Int) ∧ h' = h := by
  obtain ⟨a, c, e⟩ := x.arr.own.form
  subst e
  have hlen := x.arr.ok.len
  have ho := x.obj
  have w : IntKind.i64.wrap ((M.length : Int) - 0) = (M.length : Int) := by rw [wrap64 (by omega) (by omega)]; omega
  refine zU Tryz.func127 rfl gf127 ok127 (by simp [Tryz.ntmps127]) ?_
  refine qJ ?_; repeat' (first | with_reducible apply qK | ((first | (with_reducible first | apply qI | apply qB | apply qR | apply qT | apply qM) | with_reducible refine zE qK2 xC (by kernel_rfl) ?_ | ((refine GTri.mono (sV _ x) ?_); rintro _ _ ⟨rfl, hh9⟩; replace hh9 := hh9.symm; subst hh9) | ((refine GTri.mono (zG7 _ _) ?_); rintro _ _ ⟨rfl, hh9⟩; replace hh9 := hh9.symm; subst hh9)) <;> try simp only [qN, qC, qE, qG, qD, qA, qF, seval, qQ, qO, qP, qL, qY, qZ, zC, zK5, qK2, gNil, qH ho qG3, qH ho sz128, w]))
theorem c_Room (N : Nat) (x : AA h0 h k v cs M) : GTri Tryz.prog N 85 [.pointer (some ⟨k, 0, none⟩)] h fun u h' => u = .int .i64 (16384 - (M.length : Int)) ∧ h' = h := by
  have hlen := x.arr.ok.len
  have ho := x.obj
  have w : IntKind.i64.wrap (16384 - (M.length : Int)) = 16384 - (M.length : Int) := by rw [wrap64 (by omega) (by omega)]
  refine zU Tryz.func85 rfl gf85 ok85 (by simp [Tryz.ntmps85]) ?_
  refine qJ ?_; repeat' (first | with_reducible apply qK | ((first | (with_reducible first | apply qI | apply qB | apply qR | apply qT | apply qM) | with_reducible refine zE qR2 xC (by kernel_rfl) ?_ | ((refine GTri.mono (sV _ x) ?_); rintro _ _ ⟨rfl, hh9⟩; replace hh9 := hh9.symm; subst hh9) | ((refine GTri.mono (c_Used _ x) ?_); rintro _ _ ⟨rfl, hh9⟩; replace hh9 := hh9.symm; subst hh9)) <;> try simp only [qN, qC, qE, qG, qD, qA, qF, seval, qQ, qO, qP, qL, qY, qZ, zC, zS9, qR2, gNil, qH ho zS, w]))
theorem c_Size (N : Nat) (x : AA h0 h k v cs M) : GTri Tryz.prog N 82 [.pointer (some ⟨k, 0, none⟩)] h fun u h' => u = .int .i64 4 ∧ h' = h := by
  have ho := x.obj
  refine zU Tryz.func82 rfl gf82 ok82 (by simp [Tryz.ntmps82]) ?_
  refine qJ ?_; repeat' (first | with_reducible apply qK | ((first | (with_reducible first | apply qI | apply qB | apply qR | apply qT | apply qM) | ((refine GTri.mono (sV _ x) ?_); rintro _ _ ⟨rfl, hh9⟩; replace hh9 := hh9.symm; subst hh9)) <;> try simp only [qN, qC, qE, qG, qD, qA, qF, seval, qQ, qO, qP, zT0, gNil, qH ho zS]))
theorem c_put (N : Nat) (s0 : HS h0 h) (x : AA h0 h k v cs M) {nc : List Value} {nd : Nd} (r : RNd h nc nd) (hm : M.length < 10000) (ok : nd.ok M.length) : GTri Tryz.prog N 129 [.pointer (some ⟨k, 0, none⟩), .agg nc.toArray] h fun u h' => u = .tuple #[.int .i64 (M.length : Int), .int .i64 0] ∧ HS h0 h' ∧ FR 11 k h h' ∧ ∃ v' cs', AA h0 h' k v' cs' (M ++ [nd]) := by
  obtain ⟨l1, l2, l3⟩ := r.len
  have hlen := x.arr.ok.len
  have d1 : ((16384 - (M.length : Int)) == 0) = false := by simp; omega
  refine zU Tryz.func129 rfl gf129 ok129 (by simp [Tryz.ntmps129]) ?_
  repeat' (first | with_reducible apply qK | ((with_reducible apply qB) <;> try simp only [qN, qC, qE, qG, qD, qA, qF, seval, qQ, qO, qP, qL, qY, qZ, zC, jH, jD]))
  refine wP (by simpa using l2) fun k2 h2 m2 s2 f2 n2 => ?_
  have x2 := x.hs s2
  have ho := x2.obj
  obtain ⟨a, c, e⟩ := x2.arr.own.form
  subst e
  refine qJ ?_; repeat' (first | with_reducible apply qK | ((first | (with_reducible first | apply qI | apply qB | apply qR | apply qT) | ((refine GTri.mono (c_Room _ x2) ?_); rintro _ _ ⟨rfl, hh9⟩; replace hh9 := hh9.symm; subst hh9)) <;> try simp only [qN, qC, qE, qG, qD, qA, qF, seval, qQ, qO, qP, qL, qY, qZ, zC, jH, jD, d1]))
  refine qJ ?_; repeat' (first | with_reducible apply qK | ((first | (with_reducible first | apply qI | apply qB | apply qR) | ((refine GTri.mono (zG7 _ _) ?_); rintro _ _ ⟨rfl, hh9⟩; replace hh9 := hh9.symm; subst hh9)) <;> try simp only [qN, qC, qE, qG, qD, qA, qF, seval, qQ, qO, qP, qL, qY, qZ, zC, jH, jD, gNil, qH ho qG3, qH ho sz128]))
  refine qJ ?_; repeat' (first | ((with_reducible apply qI) <;> try simp only [qN, qC, qE, qG, qD, qA, qF, seval, qQ, qO, qP, qL, qY, qZ, zC, jH, jD, xP, xZ, vY, Shape.pl, List.all_cons, List.all_nil, zK]))
  refine qO4 el126 rfl rfl (by decide) (by decide) rfl fun k3 h3 b3 s3 f3 n3 => ?_
  have x3 := x2.hs s3
  have s03 := (s0.trans s2).trans s3
  refine qJ ?_; repeat' (first | ((with_reducible apply qI) <;> try simp only [qN, qC, qE, qG, qD, qA, qF, seval, qQ, qO, qP, qL, qY, qZ, zC, jH, jD]))
  refine gG el126 Tryz.underlying126 rfl s03 x3.arr.own b3 rfl rfl (by omega) (by simp only [maxLen]; omega) fun v4 h4 s4 fr4 o4 => ?_
  obtain ⟨a4, c4, rfl⟩ := o4.form
  have ho4 := qH1 fr4 x3.obj (by simp)
  have m24 := qH1 fr4 (s3 _ _ m2) (by simp)
  refine qJ ?_; repeat' (first | ((with_reducible apply qI) <;> try simp only [qN, qC, qE, qG, qD, qA, qF, seval, qQ, qO, qP, qL, qY, qZ, zC, jH, jD]))
  refine zW ho4 qG3 rfl (by simp) rfl rfl fun h5 m5 f5 => ?_
  simp only [List.set_cons_zero, List.set_cons_succ] at m5
  have hk2 : k2 ≠ k := fun q => by rw [q, x.obj] at n2; cases n2
  have m25 : h5 k2 = some ⟨nc, 0, true, false⟩ := by rw [f5 k2 hk2]; exact m24
  rcases o4 with ⟨_, q, _⟩ | ⟨_, _, q, _⟩ | ⟨kb, c5, q, q1, q2, q3, q4, mb, nb⟩
  · omega
  · omega
  cases q
  have hkb : kb ≠ k := ne_es mb ho4 (by simp)
  rw [← f5 kb hkb] at mb
  have gi : zJ Tryz.prog 126 (.slice (some ⟨kb, 0, none⟩) (M.length + 1) c4) (M.length : Int) = some (.pointer (some ⟨kb, M.length * 11, none⟩)) := kR Tryz.underlying126 zM5 (by omega)
  have hcl := x.arr.own.len
  obtain ⟨a1, c1, a2, c2, a3, c3, a6, c6, rfl, r1, r2, r3, r4⟩ := r
  have ld : wZ Tryz.prog 92 h5 (.pointer (some ⟨k2, 0, none⟩)) = some (.agg (nd.cs (.slice a1 nd.id.length c1) (.slice a2 nd.ky.length c2) (.slice a3 nd.pf.length c3) (.slice a6 nd.hs.length c6)).toArray) := zI m25 wE l1
  have bd : xP Tryz.prog 177 [(0, .bool true), (1, .agg (nd.cs (.slice a1 nd.id.length c1) (.slice a2 nd.ky.length c2) (.slice a3 nd.pf.length c3) (.slice a6 nd.hs.length c6)).toArray)] = some (.agg (.bool true :: nd.cs (.slice a1 nd.id.length c1) (.slice a2 nd.ky.length c2) (.slice a3 nd.pf.length c3) (.slice a6 nd.hs.length c6)).toArray) := by
    simp only [qN, qC, qE, qG, qD, qA, qF, seval, qQ, qO, qP, jH, Nd.cs, xP, xZ, vY, Shape.pl, List.all_cons, List.all_nil, zK]
  have vc : vcells (.agg (.bool true :: nd.cs (.slice a1 nd.id.length c1) (.slice a2 nd.ky.length c2) (.slice a3 nd.pf.length c3) (.slice a6 nd.hs.length c6)).toArray) = .bool true :: nd.cs (.slice a1 nd.id.length c1) (.slice a2 nd.ky.length c2) (.slice a3 nd.pf.length c3) (.slice a6 nd.hs.length c6) := rfl
  refine qJ ?_; repeat' (first | with_reducible apply qK | ((first | (with_reducible apply qI) | with_reducible refine zE jD xC (by kernel_rfl) ?_) <;> try simp only [qN, qC, qE, qG, qD, qA, qF, seval, qQ, qO, qP, qL, qY, qZ, zC, jH, jD, gNil, qH m5 qG3, gi, ld, bd]))
  refine st_end mb zM5 (by decide) hcl.symm (by rw [vc]; simp [l1]) rfl (by rw [vc]; simp [l2, zK]) fun h6 m6 f6 => ?_
  rw [vc] at m6
  have ld6 := ld
  have f56 : ∀ j, j ≠ kb → h6 j = h5 j := f6
  have m56 : h6 k = some ⟨[.int .i64 4, .int .i64 16384, .slice (some ⟨kb, 0, none⟩) (M.length + 1) c4, .slice none 0 0], 0, true, false⟩ := by rw [f6 k hkb.symm]; exact m5
  have fr : FR 11 k h h6 := fun j B m q => by
    have m3 := s3 _ _ (s2 _ _ m)
    have j1 : ∀ (B' : GB), h3 j = some B' → B'.es = 11 → B'.cells.all vO = true → False := fun B' mB he hu => by
      rw [m3] at mB; cases mB
      rcases q with q | ⟨_, q⟩
      · rw [hu] at q; cases q
      · exact q he
    have m4 := fr4 j B m3 fun _ kb' c' _ _ hk' e => by
      rw [e] at j1
      exact j1 _ hk' rfl x.arr.u8
    have hjk : j ≠ k := fun e => by
      rw [e, x.obj] at m; cases m
      rcases q with q | ⟨q, _⟩
      · cases q
      · exact q e
    have hjb : j ≠ kb := fun e => by
      rw [e] at m4
      rw [f5 kb hkb, m4] at mb
      cases mb
      rcases q with q | ⟨_, q⟩
      · rw [List.all_append, x.arr.u8] at q; cases q
      · exact q rfl
    rw [f6 j hjb, f5 j hjk]; exact m4
  have s06 : HS h0 h6 := fun j B m => by
    have m4 := s4 _ _ m
    have hjk : j ≠ k := fun e => by rw [e, x.nk] at m; cases m
    have hjb : j ≠ kb := fun e => by rw [e, nb] at m; cases m
    rw [f6 j hjb, f5 j hjk]; exact m4
  have e10 : (Value.bool true :: nd.cs (.slice a1 nd.id.length c1) (.slice a2 nd.ky.length c2) (.slice a3 nd.pf.length c3) (.slice a6 nd.hs.length c6)).length = 11 := rfl
  refine qJ ?_; repeat' (first | with_reducible apply qK | ((with_reducible first | apply qI | apply qB | apply qM) <;> try simp only [qN, qC, qE, qG, qD, qA, qF, seval, qQ, qO, qP, qL, qY, qZ, zC, jH, jD, gNil, qH m56 qG3]))
  refine ⟨s06, fr, _, _, m56, x.nk, x.arr.push (x := nd) (cn := .bool true :: nd.cs (.slice a1 nd.id.length c1) (.slice a2 nd.ky.length c2) (.slice a3 nd.pf.length c3) (.slice a6 nd.hs.length c6)) (.inr (.inr ⟨kb, c4, rfl, q1, q2, q3, ?_, m6, nb⟩)) rfl rfl (fun _ _ r => r.fr fr) ⟨_, rfl, _, _, _, _, _, _, _, _, rfl, r1.fr fr, r2.fr fr, r3.fr fr, r4.fr fr⟩ hm ok⟩
  rw [List.length_append, e10, hcl]; omega
end
theorem qT1 : type_of% (And.intro kX (And.intro kA (And.intro vT (And.intro xB rs45)))) := And.intro kX (And.intro kA (And.intro vT (And.intro xB rs45)))
theorem gE : type_of% (And.intro kX (And.intro kA (And.intro zF (And.intro vT (And.intro vU (And.intro xB (And.intro uI (And.intro jJ (And.intro wF rs86))))))))) := And.intro kX (And.intro kA (And.intro zF (And.intro vT (And.intro vU (And.intro xB (And.intro uI (And.intro jJ (And.intro wF rs86))))))))
theorem yI : type_of% (And.intro kX (And.intro kA (And.intro zF (And.intro vT (And.intro vU (And.intro qQ5 (And.intro xB (And.intro uI (And.intro jJ (And.intro wF rs89)))))))))) := And.intro kX (And.intro kA (And.intro zF (And.intro vT (And.intro vU (And.intro qQ5 (And.intro xB (And.intro uI (And.intro jJ (And.intro wF rs89)))))))))
def wJ : List (Nat × List Nat) := [(0, []), (1, []), (2, []), (4, []), (5, []), (6, []), (7, []), (8, []), (9, []), (10, []), (11, []), (12, []), (13, []), (14, []), (3, [7, 11]), (15, []), (16, [7, 11]), (17, [])]
def qV2 : List Nat := [0, 0, 0, 6, 0, 16, 48, 112, 0, 256, 768, 1792, 4080, 0, 0, 32767, 14, 131071]
def wI : List (Nat × List Nat) := [(0, []), (1, []), (2, []), (4, []), (5, []), (6, []), (7, []), (8, []), (9, []), (10, []), (11, []), (12, []), (13, []), (14, []), (16, [7, 11]), (3, [7, 11]), (15, []), (17, [])]
def qV1 : List Nat := [0, 0, 0, 65542, 0, 16, 48, 112, 0, 256, 768, 1792, 4080, 0, 0, 98303, 0, 131071]
def vN : Nat → List (Nat × List Nat) × List Nat
  | 7 => ([(0, []), (1, []), (2, []), (3, []), (4, []), (5, []), (6, []), (7, []), (8, []), (9, []), (10, []), (11, []), (12, []), (13, []), (14, []), (15, []), (16, []), (17, []), (18, []), (19, [])], [0, 1, 3, 7, 0, 0, 32, 0, 128, 0, 512, 1536, 3584, 0, 8192, 24576, 57344, 131071, 262143, 524287])
  | _ => ([], [])
def vZ (id ky : List UInt8) (si : Nat) : Nd := ⟨true, id, ky, si, 0, [], si, 0, 0, vS 4 (fW id ky si)⟩
def uR (M : List Nd) (i : Nat) : Nd := (M[i]?).getD ⟨false, [], [], 0, 0, [], 0, 0, 0, []⟩
theorem wT {M : List Nd} {i : Nat} {x : Nd} (h : M[i]? = some x) : uR M i = x := by simp [uR, h]
def vF (M : List Nd) (d : Nat) (pf : List UInt8) (l r : Nat) : Nd :=
  ⟨false, [], [], 0, d, zG pf d, max (uR M l).nw (uR M r).nw, l, r, vS 4 (vQ d pf (max (uR M l).nw (uR M r).nw) (uR M l).hs (uR M r).hs)⟩
theorem dF (l : List UInt8) : (vS 4 l).length = 4 := by
  have := fU l
  simp only [vS, List.length_take, this]; decide
section
variable {h0 h h' : GH} {k : Nat} {v : Value} {cs : List Value} {M : List Nd}
theorem c_New (N : Nat) (h : GH) : GTri Tryz.prog N 45 [.int .i64 4, .int .i64 16384] h fun u h' => HS h h' ∧ ∃ k, u = .tuple #[.pointer (some ⟨k, 0, none⟩), .int .i64 0] ∧ AA h h' k (.slice none 0 0) [] [] := by
  refine zU Tryz.func45 rfl gf45 ok45 (by simp [Tryz.ntmps45]) ?_
  refine qJ ?_; repeat' (first | with_reducible apply qK | ((with_reducible first | apply qI | apply qB | apply qR | apply qT) <;> try simp only [qN, qC, qE, qG, qD, qA, qF, seval, qQ, qO, qP, qT1, xP, xZ, vY, Shape.pl, List.all_cons, List.all_nil, zK]))
  refine wP rfl fun k2 h2 m2 s2 f2 n2 => ?_
  refine qJ ?_; repeat' (first | ((with_reducible first | apply qI | apply qM) <;> try simp only [qN, qC, qE, qG, qD, qA, qF, seval, qQ, qO, qP, qT1]))
  exact ⟨s2, k2, rfl, m2, n2, .nil _ _ _, rfl, fun i x hx => by simp at hx, by simp, fun i x hx => by simp at hx⟩
theorem c_Leaf (N : Nat) (s0 : HS h0 h) (t : TK h0) (x : AA h0 h k v cs M) {a b : Option Addr} {ca cb : Nat} {id ky : List UInt8} (ri : RB h (.slice a id.length ca) id) (rk : RB h (.slice b ky.length cb) ky) (hi : id.length ≤ 255) (hk : ky.length ≤ 60000) {si : Nat} (hs : si ≤ 1000000) (hm : M.length < 10000) :
    GTri Tryz.prog N 86 [.pointer (some ⟨k, 0, none⟩), .slice a id.length ca, .slice b ky.length cb, .int .i64 (si : Int)] h fun u h' => u = .tuple #[.int .i64 (M.length : Int), .int .i64 0] ∧ HS h0 h' ∧ FR 11 k h h' ∧ ∃ v' cs', AA h0 h' k v' cs' (M ++ [vZ id ky si]) := by
  have d1 : decide ((si : Int) < 0) = false := decide_eq_false (by omega)
  have d2 : decide ((if (id.length : Int) < (ky.length : Int) then (ky.length : Int) else (id.length : Int)) > 65535) = false := decide_eq_false (by split <;> omega)
  refine zU Tryz.func86 rfl gf86 ok86 (by simp [Tryz.ntmps86]) ?_
  refine qJ ?_; repeat' (first | (with_reducible first | apply qK | apply qS) | ((first | (with_reducible first | apply qI | apply qB | apply qR | apply qT) | ((refine GTri.mono (sV _ x) ?_); rintro _ _ ⟨rfl, hh9⟩; replace hh9 := hh9.symm; subst hh9)) <;> try simp only [qN, qC, qE, qG, qD, qA, qF, seval, qQ, qO, qP, gE, d1, d2]))
  refine (gT N h ri (by omega)).mono ?_
  rintro _ h1 ⟨s1, o1⟩
  obtain ⟨a1, c1, rfl⟩ := o1.form
  refine qJ ?_; repeat' (first | ((with_reducible apply qI) <;> try simp only [qN, qC, qE, qG, qD, qA, qF, seval, qQ, qO, qP, gE]))
  refine (gT N h1 (rk.hs s1) (by omega)).mono ?_
  rintro _ h2 ⟨s2, o2⟩
  obtain ⟨a2, c2, rfl⟩ := o2.form
  refine qJ ?_; repeat' (first | ((with_reducible apply qI) <;> try simp only [qN, qC, qE, qG, qD, qA, qF, seval, qQ, qO, qP, gE, xP, xZ, vY, Shape.pl, List.all_cons, List.all_nil, zK]))
  refine xE fun k3 h3 m3 s3 f3 n3 => ?_
  refine qJ ?_; repeat' (first | ((with_reducible apply qI) <;> try simp only [qN, qC, qE, qG, qD, qA, qF, seval, qQ, qO, qP, gE]))
  refine wL m3 wE rfl (by decide) rfl rfl rfl fun h4 m4 f4 => ?_
  have s24 : HS h2 h4 := s3.upd n3 f4
  have s4 := (s1.trans s2).trans s24
  have x4 := x.hs s4
  have ho4 := x4.obj
  have n3' : h k3 = none := (s1.trans s2).none_of n3
  have k3k : k3 ≠ k := fun q => by rw [q, x.obj] at n3'; cases n3'
  have s04 := s0.trans s4
  refine qJ ?_; repeat' (first | with_reducible apply qK | ((with_reducible first | apply qI | apply qB) <;> try simp only [qN, qC, qE, qG, qD, qA, qF, seval, qQ, qO, qP, gE, gNil, qH ho4 zS]))
  refine (zL5 N (t.hs s04) 4 (w := si) (by omega) (ri.hs s4) (rk.hs s4) (by omega) (by omega)).mono ?_
  rintro _ h5 ⟨s5, a5, c5, rfl, r5, sl5⟩
  refine qJ ?_; repeat' (first | ((with_reducible apply qI) <;> try simp only [qN, qC, qE, qG, qD, qA, qF, seval, qQ, qO, qP, gE]))
  refine zW (s5 _ _ m4) zD rfl (by simp [vcells]) rfl rfl fun h6 m6 f6 => ?_
  simp only [vcells, List.set_cons_zero, List.set_cons_succ] at m6
  have s46 : HS h h6 := (s4.trans s5).upd n3' f6
  have x6 := x.hs s46
  have rn : RNd h6 [.bool true, .slice a1 id.length c1, .slice a2 ky.length c2, .int .i64 si, .int .i64 0, .slice none 0 0, .int .i64 si, .int .i64 0, .int .i64 0, .slice a5 (vS 4 (fW id ky si)).length c5] (vZ id ky si) :=
    ⟨a1, c1, a2, c2, none, 0, a5, c5, rfl, (((o1.rb.hs s2).hs s24).hs s5).hx (s5 _ _ m4) rfl (zH f6), ((o2.rb.hs s24).hs s5).hx (s5 _ _ m4) rfl (zH f6), RB.nil _, r5.hx (s5 _ _ m4) rfl (zH f6)⟩
  refine qJ ?_; repeat' (first | with_reducible apply qK | ((with_reducible first | apply qI | apply qB) <;> try simp only [qN, qC, qE, qG, qD, qA, qF, seval, qQ, qO, qP, gE, zI m6 wE rfl]))
  refine (c_put N (s0.trans s46) x6 rn hm ⟨hi, hk, by simp [vZ], hs, by simp [vZ], hs, dF _, by simp [vZ], by simp [vZ]⟩).mono ?_
  rintro _ h7 ⟨rfl, s7, fr7, v', cs', x7⟩
  refine qJ ?_; repeat' (first | ((with_reducible first | apply qI | apply qM) <;> try simp only [qN, qC, qE, qG, qD, qA, qF, seval, qQ, qO, qP, gE]))
  exact ⟨s7, (FR.of s46).trans fr7, v', cs', x7⟩
theorem sG (N : Nat) (s0 : HS h0 h) (t : TK h0) (x : AA h0 h k v cs M) {a : Option Addr} {ca : Nat} {pf : List UInt8} (rp : RB h (.slice a pf.length ca) pf) (hp : pf.length ≤ 60000) {d l r : Nat} (hd : d ≤ 8 * pf.length) (hl : l < M.length) (hr : r < M.length) (hm : M.length < 10000) :
    GTri Tryz.prog N 89 [.pointer (some ⟨k, 0, none⟩), .int .i64 (d : Int), .slice a pf.length ca, .int .i64 (l : Int), .int .i64 (r : Int)] h fun u h' => u = .tuple #[.int .i64 (M.length : Int), .int .i64 0] ∧ HS h0 h' ∧ FR 11 k h h' ∧ ∃ v' cs', AA h0 h' k v' cs' (M ++ [vF M d pf l r]) := by
  obtain ⟨xl, hxl⟩ := jP hl
  obtain ⟨xr, hxr⟩ := jP hr
  have okl := x.arr.ok.ok l xl hxl
  have okr := x.arr.ok.ok r xr hxr
  have el := wT hxl
  have er := wT hxr
  have d1 : decide ((d : Int) < 0) = false := decide_eq_false (by omega)
  have w8 : IntKind.i64.wrap (8 * (pf.length : Int)) = 8 * (pf.length : Int) := by rw [wrap64 (by omega) (by omega)]
  have d2 : decide ((d : Int) > 8 * (pf.length : Int)) = false := decide_eq_false (by omega)
  have mx : (if (xl.nw : Int) < (xr.nw : Int) then (xr.nw : Int) else (xl.nw : Int)) = ((max xl.nw xr.nw : Nat) : Int) := by split <;> omega
  have d3 : decide ((pf.length : Int) > 65535) = false := decide_eq_false (by omega)
  refine zU Tryz.func89 rfl gf89 ok89 (by simp [Tryz.ntmps89]) ?_
  refine qJ ?_; repeat' (first | with_reducible apply qK | ((first | (with_reducible first | apply qI | apply qB | apply qR | apply qT) | ((refine GTri.mono (sV _ x) ?_); rintro _ _ ⟨rfl, hh9⟩; replace hh9 := hh9.symm; subst hh9)) <;> try simp only [qN, qC, qE, qG, qD, qA, qF, seval, qQ, qO, qP, qL, qY, qZ, zC, yI, vN, wJ, wI]))
  refine (c_at N x hxl).mono ?_
  rintro _ _ ⟨rfl, kl, cl, rfl, ml, zl, rl⟩
  refine qJ ?_; repeat' (first | ((with_reducible apply qI) <;> try simp only [qN, qC, qE, qG, qD, qA, qF, seval, qQ, qO, qP, qL, qY, qZ, zC, yI, vN, wJ, wI]))
  refine (c_at N x hxr).mono ?_
  rintro _ _ ⟨rfl, kr, cr, rfl, mr, zr, rr⟩
  obtain ⟨la1, lc1, la2, lc2, la3, lc3, la4, lc4, el2, rl1, rl2, rl3, rl4⟩ := rl
  obtain ⟨ra1, rc1, ra2, rc2, ra3, rc3, ra4, rc4, er2, rr1, rr2, rr3, rr4⟩ := rr
  have ll6 : cs[l * 11 + 7]? = some (.int .i64 (xl.nw : Int)) := by rw [show l * 11 + 7 = l * 11 + 1 + 6 from rfl]; exact rO (zl.trans el2) rfl
  have ll9 : cs[l * 11 + 10]? = some (.slice la4 xl.hs.length lc4) := by rw [show l * 11 + 10 = l * 11 + 1 + 9 from rfl]; exact rO (zl.trans el2) rfl
  have lr6 : cs[r * 11 + 7]? = some (.int .i64 (xr.nw : Int)) := by rw [show r * 11 + 7 = r * 11 + 1 + 6 from rfl]; exact rO (zr.trans er2) rfl
  have lr9 : cs[r * 11 + 10]? = some (.slice ra4 xr.hs.length rc4) := by rw [show r * 11 + 10 = r * 11 + 1 + 9 from rfl]; exact rO (zr.trans er2) rfl
  refine qJ ?_; repeat' (first | with_reducible apply qK | ((first | (with_reducible first | apply qI | apply qB | apply qR | apply qT) | with_reducible refine lX (id := 6) 3 16 wJ qV2 wI qV1 xC (by kernel_rfl) (by kernel_rfl) (by kernel_rfl) ?_ ?_) <;> try simp only [qN, qC, qE, qG, qD, qA, qF, seval, qQ, qO, qP, qL, qY, qZ, zC, yI, vN, wJ, wI, d1, w8, d2, d3, gNil, Nat.add_assoc, Nat.reduceAdd, qH ml zS, qH mr zS, ll6, lr6]))
  · refine (qB6 N _ rp (by omega) d).mono ?_
    rintro _ h2 ⟨s2, a2, c2, rfl, r2⟩
    rw [Int.toNat_natCast] at r2
    simp only [Int.toNat_natCast]
    have ml2 := s2 _ _ ml
    have mr2 := s2 _ _ mr
    refine qJ ?_; repeat' (first | ((with_reducible apply qI) <;> try simp only [qN, qC, qE, qG, qD, qA, qF, seval, qQ, qO, qP, qL, qY, qZ, zC, yI, vN, wJ, wI, xP, xZ, vY, Shape.pl, List.all_cons, List.all_nil, zK, mx, qH ml2 zS, qH mr2 zS, ll6, lr6, Nat.add_assoc, Nat.reduceAdd]))
    refine xE fun k3 h3 m3 s3 f3 n3 => ?_
    have s0h := s2.trans s3
    have ml3 := s0h _ _ ml
    have mr3 := s0h _ _ mr
    have n3' := s2.none_of n3
    refine qJ ?_; repeat' (first | ((with_reducible apply qI) <;> try simp only [qN, qC, qE, qG, qD, qA, qF, seval, qQ, qO, qP, qL, qY, qZ, zC, yI, vN, wJ, wI, xP, xZ, vY, Shape.pl, List.all_cons, List.all_nil, zK, mx, qH ml3 zS, qH mr3 zS, ll6, lr6, Nat.add_assoc, Nat.reduceAdd]))
    refine wL m3 wE rfl (by decide) rfl rfl rfl fun h4 m4 f4 => ?_
    have r4 := (r2.hs s3).hx m3 rfl (zH f4)
    have s4 := s0h.upd n3' f4
    simp only [vcells] at m4
    have x4 := x.hs s4
    have ho4 := x4.obj
    have ml4 := s4 _ _ ml
    have mr4 := s4 _ _ mr
    have k3k : k3 ≠ k := fun q => by rw [q, x.obj] at n3'; cases n3'
    refine qJ ?_; repeat' (first | with_reducible apply qK | ((first | (with_reducible apply qI) | with_reducible refine zE vN xC (by kernel_rfl) ?_) <;> try simp only [qN, qC, qE, qG, qD, qA, qF, seval, qQ, qO, qP, qL, qY, qZ, zC, yI, vN, wJ, wI, gNil, qH ho4 zS, qH m4 zS, qH m4 zD, qH ml4 zD, qH mr4 zD, qH ml4 zS, qH mr4 zS, ll6, lr6, ll9, lr9, Nat.add_assoc, Nat.reduceAdd]))
    refine (qO2 N (t.hs (s0.trans s4)) 4 (d := d) (w := max xl.nw xr.nw) (by omega) (by have := okl.nw; have := okr.nw; omega) r4 (rl4.hs s4) (rr4.hs s4) (by rw [wM]; omega) (by have := okl.hs; omega) (by have := okr.hs; omega)).mono ?_
    rintro _ h5 ⟨s5, a5, c5, rfl, r5, sl5⟩
    have ef : vQ d (zG pf d) (max xl.nw xr.nw) xl.hs xr.hs = vQ d pf (max xl.nw xr.nw) xl.hs xr.hs := by simp only [vQ, fN, Nat.min_self]
    rw [ef] at r5
    rw [ef]
    refine qJ ?_; repeat' (first | ((with_reducible apply qI) <;> try simp only [qN, qC, qE, qG, qD, qA, qF, seval, qQ, qO, qP, qL, qY, qZ, zC, yI, vN, wJ, wI]))
    refine zW (s5 _ _ m4) zD rfl (by simp) rfl rfl fun h6 m6 f6 => ?_
    simp only [List.set_cons_zero, List.set_cons_succ] at m6
    have s46 : HS _ h6 := (s4.trans s5).upd n3' f6
    have x6 := x.hs s46
    have en : vF M d pf l r = ⟨false, [], [], 0, d, zG pf d, max xl.nw xr.nw, l, r, vS 4 (vQ d pf (max xl.nw xr.nw) xl.hs xr.hs)⟩ := by simp only [vF, el, er]
    have rn : RNd h6 [.bool false, .slice none 0 0, .slice none 0 0, .int .i64 0, .int .i64 d, .slice a2 (zG pf d).length c2, .int .i64 ((max xl.nw xr.nw : Nat) : Int), .int .i64 l, .int .i64 r, .slice a5 (vS 4 (vQ d pf (max xl.nw xr.nw) xl.hs xr.hs)).length c5] (vF M d pf l r) := by
      rw [en]
      exact ⟨none, 0, none, 0, a2, c2, a5, c5, rfl, RB.nil _, RB.nil _, (r4.hs s5).hx (s5 _ _ m4) rfl (zH f6), r5.hx (s5 _ _ m4) rfl (zH f6)⟩
    have okn : (vF M d pf l r).ok M.length := by
      rw [en]
      have := okl.nw
      have := okr.nw
      exact ⟨by simp, by simp, by show (zG pf d).length ≤ 60000; rw [wM]; omega, by simp, by show d ≤ 1000000; omega, by show max xl.nw xr.nw ≤ 1000000; omega, dF _, by show l ≤ M.length; omega, by show r ≤ M.length; omega⟩
    refine qJ ?_; repeat' (first | with_reducible apply qK | ((with_reducible first | apply qI | apply qB) <;> try simp only [qN, qC, qE, qG, qD, qA, qF, seval, qQ, qO, qP, qL, qY, qZ, zC, yI, vN, wJ, wI, zI m6 wE rfl]))
    refine (c_put N (s0.trans s46) x6 rn hm okn).mono ?_
    rintro _ h7 ⟨rfl, s7, fr7, v', cs', x7⟩
    refine qJ ?_; repeat' (first | ((with_reducible first | apply qI | apply qM) <;> try simp only [qN, qC, qE, qG, qD, qA, qF, seval, qQ, qO, qP, qL, qY, qZ, zC, yI, vN, wJ, wI]))
    exact ⟨s7, (FR.of s46).trans fr7, v', cs', x7⟩
  · refine xE fun k3 h2 m2 s2 f2 n2 => ?_
    have ml2 := s2 _ _ ml
    have mr2 := s2 _ _ mr
    refine qJ ?_; repeat' (first | ((with_reducible apply qI) <;> try simp only [qN, qC, qE, qG, qD, qA, qF, seval, qQ, qO, qP, qL, qY, qZ, zC, yI, vN, wJ, wI, mx, qH ml2 zS, qH mr2 zS, ll6, lr6, Nat.add_assoc, Nat.reduceAdd]))
    refine (qB6 N h2 (rp.hs s2) (by omega) d).mono ?_
    rintro _ h3 ⟨s3, a2, c2, rfl, r2⟩
    rw [Int.toNat_natCast] at r2
    simp only [Int.toNat_natCast]
    have m3 := s3 _ _ m2
    have s0h := s2.trans s3
    have ml3 := s0h _ _ ml
    have mr3 := s0h _ _ mr
    have n3' := n2
    refine qJ ?_; repeat' (first | ((with_reducible apply qI) <;> try simp only [qN, qC, qE, qG, qD, qA, qF, seval, qQ, qO, qP, qL, qY, qZ, zC, yI, vN, wJ, wI, xP, xZ, vY, Shape.pl, List.all_cons, List.all_nil, zK, mx, qH ml3 zS, qH mr3 zS, ll6, lr6, Nat.add_assoc, Nat.reduceAdd]))
    refine wL m3 wE rfl (by decide) rfl rfl rfl fun h4 m4 f4 => ?_
    have r4 := r2.hx m3 rfl (zH f4)
    have s4 := s0h.upd n3' f4
    simp only [vcells] at m4
    have x4 := x.hs s4
    have ho4 := x4.obj
    have ml4 := s4 _ _ ml
    have mr4 := s4 _ _ mr
    have k3k : k3 ≠ k := fun q => by rw [q, x.obj] at n3'; cases n3'
    refine qJ ?_; repeat' (first | with_reducible apply qK | ((first | (with_reducible apply qI) | with_reducible refine zE vN xC (by kernel_rfl) ?_) <;> try simp only [qN, qC, qE, qG, qD, qA, qF, seval, qQ, qO, qP, qL, qY, qZ, zC, yI, vN, wJ, wI, gNil, qH ho4 zS, qH m4 zS, qH m4 zD, qH ml4 zD, qH mr4 zD, qH ml4 zS, qH mr4 zS, ll6, lr6, ll9, lr9, Nat.add_assoc, Nat.reduceAdd]))
    refine (qO2 N (t.hs (s0.trans s4)) 4 (d := d) (w := max xl.nw xr.nw) (by omega) (by have := okl.nw; have := okr.nw; omega) r4 (rl4.hs s4) (rr4.hs s4) (by rw [wM]; omega) (by have := okl.hs; omega) (by have := okr.hs; omega)).mono ?_
    rintro _ h5 ⟨s5, a5, c5, rfl, r5, sl5⟩
    have ef : vQ d (zG pf d) (max xl.nw xr.nw) xl.hs xr.hs = vQ d pf (max xl.nw xr.nw) xl.hs xr.hs := by simp only [vQ, fN, Nat.min_self]
    rw [ef] at r5
    rw [ef]
    refine qJ ?_; repeat' (first | ((with_reducible apply qI) <;> try simp only [qN, qC, qE, qG, qD, qA, qF, seval, qQ, qO, qP, qL, qY, qZ, zC, yI, vN, wJ, wI]))
    refine zW (s5 _ _ m4) zD rfl (by simp) rfl rfl fun h6 m6 f6 => ?_
    simp only [List.set_cons_zero, List.set_cons_succ] at m6
    have s46 : HS _ h6 := (s4.trans s5).upd n3' f6
    have x6 := x.hs s46
    have en : vF M d pf l r = ⟨false, [], [], 0, d, zG pf d, max xl.nw xr.nw, l, r, vS 4 (vQ d pf (max xl.nw xr.nw) xl.hs xr.hs)⟩ := by simp only [vF, el, er]
    have rn : RNd h6 [.bool false, .slice none 0 0, .slice none 0 0, .int .i64 0, .int .i64 d, .slice a2 (zG pf d).length c2, .int .i64 ((max xl.nw xr.nw : Nat) : Int), .int .i64 l, .int .i64 r, .slice a5 (vS 4 (vQ d pf (max xl.nw xr.nw) xl.hs xr.hs)).length c5] (vF M d pf l r) := by
      rw [en]
      exact ⟨none, 0, none, 0, a2, c2, a5, c5, rfl, RB.nil _, RB.nil _, (r4.hs s5).hx (s5 _ _ m4) rfl (zH f6), r5.hx (s5 _ _ m4) rfl (zH f6)⟩
    have okn : (vF M d pf l r).ok M.length := by
      rw [en]
      have := okl.nw
      have := okr.nw
      exact ⟨by simp, by simp, by show (zG pf d).length ≤ 60000; rw [wM]; omega, by simp, by show d ≤ 1000000; omega, by show max xl.nw xr.nw ≤ 1000000; omega, dF _, by show l ≤ M.length; omega, by show r ≤ M.length; omega⟩
    refine qJ ?_; repeat' (first | with_reducible apply qK | ((with_reducible first | apply qI | apply qB) <;> try simp only [qN, qC, qE, qG, qD, qA, qF, seval, qQ, qO, qP, qL, qY, qZ, zC, yI, vN, wJ, wI, zI m6 wE rfl]))
    refine (c_put N (s0.trans s46) x6 rn hm okn).mono ?_
    rintro _ h7 ⟨rfl, s7, fr7, v', cs', x7⟩
    refine qJ ?_; repeat' (first | ((with_reducible first | apply qI | apply qM) <;> try simp only [qN, qC, qE, qG, qD, qA, qF, seval, qQ, qO, qP, qL, qY, qZ, zC, yI, vN, wJ, wI]))
    exact ⟨s7, (FR.of s46).trans fr7, v', cs', x7⟩
end
theorem wK : type_of% (And.intro Tryz.underlying152 (And.intro zF (And.intro vT (And.intro vU (And.intro qQ5 (And.intro ty151 (And.intro ty152 (And.intro xB (And.intro uI (And.intro jJ (And.intro wF rs49))))))))))) := And.intro Tryz.underlying152 (And.intro zF (And.intro vT (And.intro vU (And.intro qQ5 (And.intro ty151 (And.intro ty152 (And.intro xB (And.intro uI (And.intro jJ (And.intro wF rs49))))))))))
theorem qE7 : type_of% (And.intro kX (And.intro kA (And.intro zF (And.intro jA (And.intro vT (And.intro vU (And.intro qQ5 (And.intro xB (And.intro uI (And.intro jJ (And.intro wF rs52))))))))))) := And.intro kX (And.intro kA (And.intro zF (And.intro jA (And.intro vT (And.intro vU (And.intro qQ5 (And.intro xB (And.intro uI (And.intro jJ (And.intro wF rs52))))))))))
section
variable {h0 h h' : GH} {k : Nat} {v : Value} {cs : List Value} {M : List Nd}
theorem RNd.hx {j : Nat} {h h' : GH} {cs : List Value} {x : Nd} (r : RNd h cs x) {B : GB} (m : h j = some B) (hB : B.cells.all vO = true) (y : HX j h h') : RNd h' cs x := by
  obtain ⟨a1, c1, a2, c2, a3, c3, a4, c4, rfl, r1, r2, r3, r4⟩ := r
  exact ⟨a1, c1, a2, c2, a3, c3, a4, c4, rfl, r1.hx m hB y, r2.hx m hB y, r3.hx m hB y, r4.hx m hB y⟩
def zN : List Value := [.bool false, .slice none 0 0, .slice none 0 0, .int .i64 0, .int .i64 0, .slice none 0 0, .int .i64 0, .int .i64 0, .int .i64 0, .slice none 0 0]
theorem zQ0 (N : Nat) (x : AA h0 h k v cs M) {i : Int} (hi : i < 0 ∨ (M.length : Int) ≤ i) : GTri Tryz.prog N 49 [.pointer (some ⟨k, 0, none⟩), .int .i64 i] h fun u h' => HS h h' ∧ u = .tuple #[.agg zN.toArray, .bool false] := by
  refine zU Tryz.func49 rfl gf49 ok49 (by simp [Tryz.ntmps49]) ?_
  repeat' (first | with_reducible apply qK | ((with_reducible apply qB) <;> try simp only [qN, qC, qE, qG, qD, qA, qF, seval, qQ, qO, qP, wK]))
  refine xE fun k4 h4 m4 s4 f4 n4 => ?_
  refine qJ ?_; repeat' (first | with_reducible apply qK | ((with_reducible first | apply qI | apply qB) <;> try simp only [qN, qC, qE, qG, qD, qA, qF, seval, qQ, qO, qP, wK]))
  refine (c_atN N (x.hs s4) hi).mono ?_
  rintro _ _ ⟨rfl, rfl⟩
  refine qJ ?_; repeat' (first | with_reducible apply qK | ((with_reducible first | apply qI | apply qB | apply qR) <;> try simp only [qN, qC, qE, qG, qD, qA, qF, seval, qQ, qO, qP, wK, Option.isNone_none, xP, xZ, vY, Shape.pl, List.all_cons, List.all_nil, zK]))
  refine wL m4 wE rfl (by decide) rfl rfl rfl fun h5 m5 f5 => ?_
  simp only [vcells] at m5
  refine qJ ?_; repeat' (first | ((with_reducible first | apply qI | apply qM) <;> try simp only [qN, qC, qE, qG, qD, qA, qF, seval, qQ, qO, qP, wK, dN, zI m5 wE rfl]))
  exact ⟨s4.upd n4 f5, rfl⟩
theorem c_Node (N : Nat) (x : AA h0 h k v cs M) {i : Nat} {nd : Nd} (hi : M[i]? = some nd) : GTri Tryz.prog N 49 [.pointer (some ⟨k, 0, none⟩), .int .i64 (i : Int)] h fun u h' => HS h h' ∧ ∃ cn, u = .tuple #[.agg cn.toArray, .bool true] ∧ RNd h' cn nd := by
  have ok := x.arr.ok.ok i nd hi
  refine zU Tryz.func49 rfl gf49 ok49 (by simp [Tryz.ntmps49]) ?_
  repeat' (first | with_reducible apply qK | ((with_reducible apply qB) <;> try simp only [qN, qC, qE, qG, qD, qA, qF, seval, qQ, qO, qP, wK]))
  refine xE fun k4 h4 m4 s4 f4 n4 => ?_
  refine qJ ?_; repeat' (first | with_reducible apply qK | ((with_reducible first | apply qI | apply qB) <;> try simp only [qN, qC, qE, qG, qD, qA, qF, seval, qQ, qO, qP, wK]))
  refine (c_at N (x.hs s4) hi).mono ?_
  rintro _ _ ⟨rfl, kb, cn, rfl, mb, z1, r1⟩
  have l1 := r1.len
  have ld := wN (P := Tryz.prog) (t := 92) mb wE z1 l1.1
  refine qJ ?_; repeat' (first | with_reducible apply qK | ((with_reducible first | apply qI | apply qB | apply qR | apply qT) <;> try simp only [qN, qC, qE, qG, qD, qA, qF, seval, qQ, qO, qP, wK, ld]))
  refine xE fun k7 h7 m7 s7 f7 n7 => ?_
  refine qJ ?_; repeat' (first | ((with_reducible apply qI) <;> try simp only [qN, qC, qE, qG, qD, qA, qF, seval, qQ, qO, qP, wK]))
  refine xY m7 wE rfl (by decide) l1.1 rfl l1.2.1 fun h8 m8 f8 => ?_
  have s8 := s7.upd n7 f8
  have m48 := s8 _ _ m4
  have k47 : k4 ≠ k7 := yA m4 n7
  have r8 := r1.hs s8
  refine qJ ?_; repeat' (first | (with_reducible first | apply qK | apply qS) | ((with_reducible first | apply qI | apply qB) <;> try simp only [qN, qC, qE, qG, qD, qA, qF, seval, qQ, qO, qP, wK, xP, xZ, vY, Shape.pl, List.all_cons, List.all_nil, zK]))
  refine xR [4, 5, 7, 23] (fun (j : Nat) => [(24, .int .i64 (j : Int))])
    (fun q j h' => 4 - j = q ∧ j ≤ 4 ∧ HX k7 h8 h' ∧ ∃ cells, h' k7 = some ⟨cells, 0, true, false⟩ ∧ RNd h' cells nd) 4 0 (by simp [lk]) ⟨rfl, by omega, HX.refl _ _, cn, m8, r8⟩ ?_
  rintro _ j h9 ⟨rfl, hj, x9, cells, m9, r9⟩
  have s49 : HS h h9 := fun q B m => x9 q B (yA m ((s4.none_of n7))) (s8 q B (s4 q B m))
  have m49 := x9 _ _ k47 m48
  by_cases h4j : j < 4
  case neg =>
    obtain rfl : j = 4 := by omega
    have l9 := r9.len
    have lda := zI (P := Tryz.prog) (t := 92) m9 wE l9.1
    have d3 : decide ((4 : Int) < 4) = false := rfl
    refine qJ ?_; repeat' (first | with_reducible apply qK | ((with_reducible first | apply qI | apply qB | apply qR | apply xT) <;> try simp only [qN, qC, qE, qG, qD, qA, qF, seval, qQ, qO, qP, wK, lda, d3, Int.reduceLT]))
    refine xY m49 wE rfl (by decide) l9.1 rfl l9.2.1 fun h10 m10 f10 => ?_
    have lda2 := zI (P := Tryz.prog) (t := 92) m10 wE l9.1
    refine qJ ?_; repeat' (first | ((with_reducible first | apply qI | apply qM) <;> try simp only [qN, qC, qE, qG, qD, qA, qF, seval, qQ, qO, qP, wK, dN, lda2]))
    exact ⟨s49.upd n4 f10, cells, rfl, r9.hx m49 rfl (zH f10)⟩
  obtain ⟨a1, c1, a2, c2, a3, c3, a4, c4, rfl, q1, q2, q3, q4⟩ := r9
  simp only [Nd.cs] at m9
  have gi : qA Tryz.prog 152 (.agg #[.pointer (some ⟨k7, 1, none⟩), .pointer (some ⟨k7, 2, none⟩), .pointer (some ⟨k7, 5, none⟩), .pointer (some ⟨k7, 9, none⟩)]) (j : Int) = (#[Value.pointer (some ⟨k7, 1, none⟩), .pointer (some ⟨k7, 2, none⟩), .pointer (some ⟨k7, 5, none⟩), .pointer (some ⟨k7, 9, none⟩)])[j]? := zC9 Tryz.underlying152 sz151 h4j
  have d3 : decide ((j : Int) < 4) = true := decide_eq_true (by omega)
  have wi : IntKind.i64.wrap ((j : Int) + 1) = ((j + 1 : Nat) : Int) := by rw [wrap64 (by omega) (by omega)]; omega
  rcases (show j = 0 ∨ j = 1 ∨ j = 2 ∨ j = 3 by omega) with rfl | rfl | rfl | rfl
  · refine qJ ?_; repeat' (first | (with_reducible first | apply qK | apply qS) | ((with_reducible first | apply qI | apply qB | apply qR | apply qT) <;> try simp only [qN, qC, qE, qG, qD, qA, qF, seval, qQ, qO, qP, wK, d3, gi, Int.natCast_zero, Int.cast_ofNat_Int, gNil, qH m9 zD, List.getElem?_toArray]))
    refine (gT N h9 q1 (by have := ok.id; omega)).mono ?_
    rintro _ h10 ⟨s10, o10⟩
    obtain ⟨a5, c5, rfl⟩ := o10.form
    refine qJ ?_; repeat' (first | ((with_reducible apply qI) <;> try simp only [qN, qC, qE, qG, qD, qA, qF, seval, qQ, qO, qP, wK, gNil]))
    refine zW (s10 _ _ m9) zD rfl (by simp) rfl rfl fun h11 m11 f11 => ?_
    simp only [List.set_cons_zero, List.set_cons_succ] at m11
    refine qJ ?_; repeat' (first | ((with_reducible first | apply qI | apply qB) <;> try simp only [qN, qC, qE, qG, qD, qA, qF, seval, qQ, qO, qP, wK, wi]))
    exact ⟨_, 1, by omega, (by simp [lk]), rfl, by omega, (x9.hs s10).trans (zH f11), _, m11, a5, c5, a2, c2, a3, c3, a4, c4, rfl, o10.rb.hx (s10 _ _ m9) rfl (zH f11), (q2.hs s10).hx (s10 _ _ m9) rfl (zH f11), (q3.hs s10).hx (s10 _ _ m9) rfl (zH f11), (q4.hs s10).hx (s10 _ _ m9) rfl (zH f11)⟩
  · refine qJ ?_; repeat' (first | (with_reducible first | apply qK | apply qS) | ((with_reducible first | apply qI | apply qB | apply qR | apply qT) <;> try simp only [qN, qC, qE, qG, qD, qA, qF, seval, qQ, qO, qP, wK, d3, gi, Int.natCast_zero, Int.cast_ofNat_Int, gNil, qH m9 zD, List.getElem?_toArray]))
    refine (gT N h9 q2 (by have := ok.ky; omega)).mono ?_
    rintro _ h10 ⟨s10, o10⟩
    obtain ⟨a5, c5, rfl⟩ := o10.form
    refine qJ ?_; repeat' (first | ((with_reducible apply qI) <;> try simp only [qN, qC, qE, qG, qD, qA, qF, seval, qQ, qO, qP, wK, gNil]))
    refine zW (s10 _ _ m9) zD rfl (by simp) rfl rfl fun h11 m11 f11 => ?_
    simp only [List.set_cons_zero, List.set_cons_succ] at m11
    refine qJ ?_; repeat' (first | ((with_reducible first | apply qI | apply qB) <;> try simp only [qN, qC, qE, qG, qD, qA, qF, seval, qQ, qO, qP, wK, wi]))
    exact ⟨_, 2, by omega, (by simp [lk]), rfl, by omega, (x9.hs s10).trans (zH f11), _, m11, a1, c1, a5, c5, a3, c3, a4, c4, rfl, (q1.hs s10).hx (s10 _ _ m9) rfl (zH f11), o10.rb.hx (s10 _ _ m9) rfl (zH f11), (q3.hs s10).hx (s10 _ _ m9) rfl (zH f11), (q4.hs s10).hx (s10 _ _ m9) rfl (zH f11)⟩
  · refine qJ ?_; repeat' (first | (with_reducible first | apply qK | apply qS) | ((with_reducible first | apply qI | apply qB | apply qR | apply qT) <;> try simp only [qN, qC, qE, qG, qD, qA, qF, seval, qQ, qO, qP, wK, d3, gi, Int.natCast_zero, Int.cast_ofNat_Int, gNil, qH m9 zD, List.getElem?_toArray]))
    refine (gT N h9 q3 (by have := ok.pf; omega)).mono ?_
    rintro _ h10 ⟨s10, o10⟩
    obtain ⟨a5, c5, rfl⟩ := o10.form
    refine qJ ?_; repeat' (first | ((with_reducible apply qI) <;> try simp only [qN, qC, qE, qG, qD, qA, qF, seval, qQ, qO, qP, wK, gNil]))
    refine zW (s10 _ _ m9) zD rfl (by simp) rfl rfl fun h11 m11 f11 => ?_
    simp only [List.set_cons_zero, List.set_cons_succ] at m11
    refine qJ ?_; repeat' (first | ((with_reducible first | apply qI | apply qB) <;> try simp only [qN, qC, qE, qG, qD, qA, qF, seval, qQ, qO, qP, wK, wi]))
    exact ⟨_, 3, by omega, (by simp [lk]), rfl, by omega, (x9.hs s10).trans (zH f11), _, m11, a1, c1, a2, c2, a5, c5, a4, c4, rfl, (q1.hs s10).hx (s10 _ _ m9) rfl (zH f11), (q2.hs s10).hx (s10 _ _ m9) rfl (zH f11), o10.rb.hx (s10 _ _ m9) rfl (zH f11), (q4.hs s10).hx (s10 _ _ m9) rfl (zH f11)⟩
  · refine qJ ?_; repeat' (first | (with_reducible first | apply qK | apply qS) | ((with_reducible first | apply qI | apply qB | apply qR | apply qT) <;> try simp only [qN, qC, qE, qG, qD, qA, qF, seval, qQ, qO, qP, wK, d3, gi, Int.natCast_zero, Int.cast_ofNat_Int, gNil, qH m9 zD, List.getElem?_toArray]))
    refine (gT N h9 q4 (by have := ok.hs; omega)).mono ?_
    rintro _ h10 ⟨s10, o10⟩
    obtain ⟨a5, c5, rfl⟩ := o10.form
    refine qJ ?_; repeat' (first | ((with_reducible apply qI) <;> try simp only [qN, qC, qE, qG, qD, qA, qF, seval, qQ, qO, qP, wK, gNil]))
    refine zW (s10 _ _ m9) zD rfl (by simp) rfl rfl fun h11 m11 f11 => ?_
    simp only [List.set_cons_zero, List.set_cons_succ] at m11
    refine qJ ?_; repeat' (first | ((with_reducible first | apply qI | apply qB) <;> try simp only [qN, qC, qE, qG, qD, qA, qF, seval, qQ, qO, qP, wK, wi]))
    exact ⟨_, 4, by omega, (by simp [lk]), rfl, by omega, (x9.hs s10).trans (zH f11), _, m11, a1, c1, a2, c2, a3, c3, a5, c5, rfl, (q1.hs s10).hx (s10 _ _ m9) rfl (zH f11), (q2.hs s10).hx (s10 _ _ m9) rfl (zH f11), (q3.hs s10).hx (s10 _ _ m9) rfl (zH f11), o10.rb.hx (s10 _ _ m9) rfl (zH f11)⟩
theorem qZ3 (N : Nat) (x : AA h0 h k v cs M) {i : Nat} {nd : Nd} (hi : M[i]? = some nd) : GTri Tryz.prog N 52 [.pointer (some ⟨k, 0, none⟩), .int .i64 (i : Int)] h fun u h' => HS h h' ∧ ∃ a c, u = .slice a nd.hs.length c ∧ RB h' (.slice a nd.hs.length c) nd.hs := by
  have ok := x.arr.ok.ok i nd hi
  refine zU Tryz.func52 rfl gf52 ok52 (by simp [Tryz.ntmps52]) ?_
  refine qJ ?_; repeat' (first | with_reducible apply qK | ((first | (with_reducible first | apply qI | apply qB | apply qR | apply qT) | ((refine GTri.mono (sV _ x) ?_); rintro _ _ ⟨rfl, hh9⟩; replace hh9 := hh9.symm; subst hh9)) <;> try simp only [qN, qC, qE, qG, qD, qA, qF, seval, qQ, qO, qP, qE7]))
  refine (c_at N x hi).mono ?_
  rintro _ _ ⟨rfl, kb, cn, rfl, mb, z1, r1⟩
  obtain ⟨a1, c1, a2, c2, a3, c3, a4, c4, e2, r1, r2, r3, r4⟩ := r1
  have l9 : cs[i * 11 + 10]? = some (.slice a4 nd.hs.length c4) := by rw [show i * 11 + 10 = i * 11 + 1 + 9 from rfl]; exact rO (z1.trans e2) rfl
  refine qJ ?_; repeat' (first | with_reducible apply qK | ((with_reducible first | apply qI | apply qB | apply qR) <;> try simp only [qN, qC, qE, qG, qD, qA, qF, seval, qQ, qO, qP, qE7, Option.isNone_some, gNil, qH mb zD, l9, Nat.add_assoc, Nat.reduceAdd]))
  refine (gT N _ r4 (by have := ok.hs; omega)).mono ?_
  rintro _ h10 ⟨s10, o10⟩
  obtain ⟨a5, c5, rfl⟩ := o10.form
  refine qJ ?_; repeat' (first | ((with_reducible first | apply qI | apply qM) <;> try simp only [qN, qC, qE, qG, qD, qA, qF, seval, qQ, qO, qP, qE7]))
  exact ⟨s10, a5, c5, rfl, o10.rb⟩
end
theorem zE2 : type_of% (And.intro uK (And.intro yJ (And.intro xB rs46))) := And.intro uK (And.intro yJ (And.intro xB rs46))
theorem qE5 : type_of% (And.intro uK (And.intro zF (And.intro yJ (And.intro vU (And.intro xB (And.intro uI (And.intro wF rs101))))))) := And.intro uK (And.intro zF (And.intro yJ (And.intro vU (And.intro xB (And.intro uI (And.intro wF rs101))))))
theorem qM8 : type_of% (And.intro uK (And.intro yJ (And.intro vU (And.intro xB (And.intro kC rs91))))) := And.intro uK (And.intro yJ (And.intro vU (And.intro xB (And.intro kC rs91))))
theorem fG : type_of% (And.intro uK (And.intro zF (And.intro yJ (And.intro vU (And.intro xB (And.intro uI (And.intro kC rs134))))))) := And.intro uK (And.intro zF (And.intro yJ (And.intro vU (And.intro xB (And.intro uI (And.intro kC rs134))))))
def jX : Nat → List (Nat × List Nat) × List Nat
  | 1 => ([(0, []), (2, []), (3, []), (4, []), (5, []), (1, [5]), (6, [])], [0, 1, 0, 4, 12, 28, 63])
  | 7 => ([(0, []), (1, []), (2, []), (3, []), (4, []), (5, []), (6, []), (7, [])], [0, 1, 3, 7, 0, 0, 63, 127])
  | 10 => ([(0, []), (1, []), (2, []), (3, []), (4, []), (5, []), (6, [4]), (7, []), (8, []), (9, []), (10, [])], [0, 0, 2, 6, 14, 0, 32, 126, 255, 511, 1023])
  | _ => ([], [])
theorem OWNC.by5 {es : Nat} {h0 h h' : GH} {v : Value} {n : Nat} {cs : List Value} {k : Nat} {B : GB} (o : OWNC es h0 h v n cs) (hk : h k = some B) (f : ∀ j, j ≠ k → h' j = h j) (he : B.es ≠ es := by simp) : OWNC es h0 h' v n cs := by
  rcases o with o | o | ⟨j, c, h1, h2, h3, h4, h5, h6, h7⟩
  · exact .inl o
  · exact .inr (.inl o)
  · exact .inr (.inr ⟨j, c, h1, h2, h3, h4, h5, by rw [f j (fun e => by rw [e, hk] at h6; cases h6; exact he rfl)]; exact h6, h7⟩)
section
variable {h0 h h' : GH} {k : Nat} {v : Value} {cs : List Value} {M : List Nd}
theorem c_rNew (N : Nat) (h : GH) : GTri Tryz.prog N 46 [.int .i64 4, .int .i64 16384] h fun u h' => HS h h' ∧ ∃ k, u = .tuple #[.pointer (some ⟨k, 0, none⟩), .int .i64 0] ∧ AB h h' k (.slice none 0 0) [] [] := by
  refine zU Tryz.func46 rfl gf46 ok46 (by simp [Tryz.ntmps46]) ?_
  refine qJ ?_; repeat' (first | with_reducible apply qK | ((with_reducible first | apply qI | apply qB | apply qR | apply qT) <;> try simp only [qN, qC, qE, qG, qD, qA, qF, seval, qQ, qO, qP, zE2, xP, xZ, vY, Shape.pl, List.all_cons, List.all_nil, zK]))
  refine wP rfl fun k2 h2 m2 s2 f2 n2 => ?_
  refine qJ ?_; repeat' (first | ((with_reducible first | apply qI | apply qM) <;> try simp only [qN, qC, qE, qG, qD, qA, qF, seval, qQ, qO, qP, zE2]))
  exact ⟨s2, k2, rfl, m2, n2, .nil _ _ _, rfl, fun i x hx => by simp at hx, by simp, fun i x hx => by simp at hx⟩
theorem AB.cell (x : AB h0 h k v cs M) {i : Nat} {nd : Nd} (hi : M[i]? = some nd) : ∃ kb, zJ Tryz.prog 131 v (i : Int) = some (.pointer (some ⟨kb, i * 10, none⟩)) ∧ h kb = some ⟨cs, 10, true, true⟩ ∧ RNd h ((cs.drop (i * 10)).take 10) nd := by
  obtain ⟨a, c, e⟩ := x.arr.own.form
  subst e
  exact x.arr.at (P := Tryz.prog) Tryz.underlying131 wE hi
theorem mJ (N : Nat) (x : AB h0 h k v cs M) {i : Nat} {nd : Nd} (hi : M[i]? = some nd) : GTri Tryz.prog N 101 [.pointer (some ⟨k, 0, none⟩), .int .i64 (i : Int)] h fun u h' => u = .bool true ∧ h' = h := by
  obtain ⟨kb, g1, mb, r1⟩ := x.cell hi
  obtain ⟨a, c, e⟩ := x.arr.own.form
  subst e
  obtain ⟨a1, c1, a2, c2, a3, c3, a4, c4, e2, r1, r2, r3, r4⟩ := r1
  have l9 : cs[i * 10 + 9]? = some (.slice a4 nd.hs.length c4) := rO e2 rfl
  have hlt := (List.getElem?_eq_some_iff.1 hi).1
  have ok := x.arr.ok.ok i nd hi
  have ho := x.obj
  have d1 : decide ((i : Int) ≥ 0) = true := decide_eq_true (by omega)
  have d2 : decide ((i : Int) < (M.length : Int)) = true := decide_eq_true (by omega)
  have d3 : decide ((nd.hs.length : Int) > 0) = true := decide_eq_true (by have := ok.hs; omega)
  refine zU Tryz.func101 rfl gf101 ok101 (by simp [Tryz.ntmps101]) ?_
  refine qJ ?_; repeat' (first | with_reducible apply qK | ((with_reducible first | apply qI | apply qB | apply qM) <;> try simp only [qN, qC, qE, qG, qD, qA, qF, seval, qQ, qO, qP, qE5, d1, d2, d3, gNil, qH ho uL, g1, qH mb zD, l9]))
theorem c_thereN (N : Nat) (x : AB h0 h k v cs M) {i : Int} (hi : i < 0 ∨ (M.length : Int) ≤ i) : GTri Tryz.prog N 101 [.pointer (some ⟨k, 0, none⟩), .int .i64 i] h fun u h' => u = .bool false ∧ h' = h := by
  obtain ⟨a, c, e⟩ := x.arr.own.form
  subst e
  have ho := x.obj
  refine zU Tryz.func101 rfl gf101 ok101 (by simp [Tryz.ntmps101]) ?_
  by_cases h1 : i < 0
  · have d1 : decide (i ≥ 0) = false := decide_eq_false (by omega)
    refine qJ ?_; repeat' (first | with_reducible apply qK | ((with_reducible first | apply qI | apply qB | apply qM) <;> try simp only [qN, qC, qE, qG, qD, qA, qF, seval, qQ, qO, qP, qE5, d1]))
  have d1 : decide (i ≥ 0) = true := decide_eq_true (by omega)
  have d2 : decide (i < (M.length : Int)) = false := decide_eq_false (by omega)
  refine qJ ?_; repeat' (first | with_reducible apply qK | ((with_reducible first | apply qI | apply qB | apply qM) <;> try simp only [qN, qC, qE, qG, qD, qA, qF, seval, qQ, qO, qP, qE5, d1, d2, gNil, qH ho uL]))
theorem zP5 (N : Nat) (x : AB h0 h k v cs M) : GTri Tryz.prog N 91 [.pointer (some ⟨k, 0, none⟩)] h fun u h' => u = .int .i64 (M.length : Int) ∧ h' = h := by
  obtain ⟨a, c, e⟩ := x.arr.own.form
  subst e
  have ho := x.obj
  have hlen := x.arr.ok.len
  refine zU Tryz.func91 rfl gf91 ok91 (by simp [Tryz.ntmps91]) ?_
  refine qJ ?_; repeat' (first | (with_reducible first | apply qK | apply qS) | ((with_reducible first | apply qI | apply qB) <;> try simp only [qN, qC, qE, qG, qD, qA, qF, seval, qQ, qO, qP, qM8, gNil, qH ho uL]))
  refine xR [0, 2, 9] (fun (j : Nat) => [(3, .int .i64 (j : Int)), (10, .int .i64 (j : Int))])
    (fun q j h' => M.length - j = q ∧ j ≤ M.length ∧ h' = h) M.length 0 (by simp [lk]) ⟨rfl, by omega, rfl⟩ ?_
  rintro _ j _ ⟨rfl, hj, rfl⟩
  by_cases hjl : j < M.length
  case neg =>
    obtain rfl : j = M.length := by omega
    have d3 : decide ((M.length : Int) < (M.length : Int)) = false := decide_eq_false (by omega)
    refine qJ ?_; repeat' (first | with_reducible apply qK | ((with_reducible first | apply qI | apply qB | apply qR | apply xT | apply qM) <;> try simp only [qN, qC, qE, qG, qD, qA, qF, seval, qQ, qO, qP, qM8, d3]))
  obtain ⟨nd, hn⟩ := jP hjl
  have d3 : decide ((j : Int) < (M.length : Int)) = true := decide_eq_true (by omega)
  have wi : IntKind.i64.wrap ((j : Int) + 1) = ((j + 1 : Nat) : Int) := by rw [wrap64 (by omega) (by omega)]; omega
  refine qJ ?_; repeat' (first | (with_reducible first | apply qK | apply qS) | ((first | (with_reducible first | apply qI | apply qB | apply qR | apply qT) | ((refine GTri.mono (mJ _ x hn) ?_); rintro _ _ ⟨rfl, hh9⟩; replace hh9 := hh9.symm; subst hh9)) <;> try simp only [qN, qC, qE, qG, qD, qA, qF, seval, qQ, qO, qP, qM8, d3, wi]))
  exact ⟨_, j + 1, by omega, (by simp only [List.forall_mem_cons, List.not_mem_nil, false_implies, implies_true, List.map, List.cons_append, List.nil_append, lk, Nat.reduceEqDiff, reduceIte, and_true, true_and]), rfl, by omega⟩
theorem qN7 (N : Nat) (s0 : HS h0 h) (x : AB h0 h k v cs M) {nc : List Value} {nd : Nd} (r : RNd h nc nd) (hm : M.length < 10000) (ok : nd.ok M.length) : GTri Tryz.prog N 134 [.pointer (some ⟨k, 0, none⟩), .agg nc.toArray] h fun u h' => u = .tuple #[.int .i64 (M.length : Int), .int .i64 0] ∧ HS h0 h' ∧ FR 10 k h h' ∧ ∃ v' cs', AB h0 h' k v' cs' (M ++ [nd]) := by
  obtain ⟨l1, l2, l3⟩ := r.len
  have hlen := x.arr.ok.len
  have d1 : decide ((M.length : Int) ≥ 16384) = false := decide_eq_false (by omega)
  refine zU Tryz.func134 rfl gf134 ok134 (by simp [Tryz.ntmps134]) ?_
  repeat' (first | with_reducible apply qK | ((with_reducible apply qB) <;> try simp only [qN, qC, qE, qG, qD, qA, qF, seval, qQ, qO, qP, qL, qY, qZ, zC, fG, jX]))
  refine wP (by simpa using l2) fun k2 h2 m2 s2 f2 n2 => ?_
  have x2 := x.hs s2
  have ho := x2.obj
  obtain ⟨a, c, e⟩ := x2.arr.own.form
  subst e
  have ld2 := zI (P := Tryz.prog) (t := 92) m2 wE l1
  have ld2' : wZ Tryz.prog 92 h2 (.pointer (some ⟨k2, 0, none⟩)) = some (.agg nc.toArray) := ld2
  refine qJ ?_; repeat' (first | (with_reducible first | apply qK | apply qS) | ((first | (with_reducible first | apply qI | apply qB | apply qR | apply qT) | with_reducible refine zE jX xC (by kernel_rfl) ?_ | ((refine GTri.mono (zP5 _ x2) ?_); rintro _ _ ⟨rfl, hh9⟩; replace hh9 := hh9.symm; subst hh9)) <;> try simp only [qN, qC, qE, qG, qD, qA, qF, seval, qQ, qO, qP, qL, qY, qZ, zC, fG, jX, d1, gNil, qH ho zS, qH ho uL]))
  refine xR [0, 3, 18] (fun (j : Nat) => [(19, .int .i64 (j : Int))])
    (fun q j h' => M.length - j = q ∧ j ≤ M.length ∧ h' = h2) M.length 0 (by simp [lk]) ⟨rfl, by omega, rfl⟩ ?_
  rintro _ j _ ⟨rfl, hj, rfl⟩
  by_cases hjl : j < M.length
  case pos =>
    obtain ⟨nd', hn⟩ := jP hjl
    have d3 : decide ((j : Int) < (M.length : Int)) = true := decide_eq_true (by omega)
    have wi : IntKind.i64.wrap ((j : Int) + 1) = ((j + 1 : Nat) : Int) := by rw [wrap64 (by omega) (by omega)]; omega
    refine qJ ?_; repeat' (first | (with_reducible first | apply qK | apply qS) | ((first | (with_reducible first | apply qI | apply qB | apply qR | apply qT) | ((refine GTri.mono (mJ _ x2 hn) ?_); rintro _ _ ⟨rfl, hh9⟩; replace hh9 := hh9.symm; subst hh9)) <;> try simp only [qN, qC, qE, qG, qD, qA, qF, seval, qQ, qO, qP, qL, qY, qZ, zC, fG, jX, d3, wi]))
    exact ⟨_, j + 1, by omega, (by simp only [List.forall_mem_cons, List.not_mem_nil, false_implies, implies_true, List.map, List.cons_append, List.nil_append, lk, Nat.reduceEqDiff, reduceIte, and_true, true_and]), rfl, by omega⟩
  obtain rfl : j = M.length := by omega
  have d3 : decide ((M.length : Int) < (M.length : Int)) = false := decide_eq_false (by omega)
  refine qJ ?_; repeat' (first | with_reducible apply qK | ((first | (with_reducible first | apply qI | apply qB | apply qR | apply xT) | with_reducible refine zE jX xC (by kernel_rfl) ?_) <;> try simp only [qN, qC, qE, qG, qD, qA, qF, seval, qQ, qO, qP, qL, qY, qZ, zC, fG, jX, d3, gNil, qH ho uL, ld2']))
  refine qO4 (x := .agg nc.toArray) zF0 rfl (by simpa [vcells] using l1) (by decide) (by decide) (by simpa [vcells] using l2) fun k3 h3 b3 s3 f3 n3 => ?_
  have x3 := x2.hs s3
  have s03 := (s0.trans s2).trans s3
  have vc : vcells (.agg nc.toArray) = nc := by simp [vcells]
  rw [vc] at b3
  have ho3 := x3.obj
  have ld3 : wZ Tryz.prog 92 h3 (.pointer (some ⟨k2, 0, none⟩)) = some (.agg nc.toArray) := zI (P := Tryz.prog) (t := 92) (s3 _ _ m2) wE l1
  refine qJ ?_; repeat' (first | ((with_reducible apply qI) <;> try simp only [qN, qC, qE, qG, qD, qA, qF, seval, qQ, qO, qP, qL, qY, qZ, zC, fG, jX, gNil, qH ho3 uL, ld3]))
  refine gG zF0 Tryz.underlying131 rfl s03 x3.arr.own b3 (by simpa using l1) l2 (by omega) (by simp only [maxLen]; omega) fun v4 h4 s4 fr4 o4 => ?_
  obtain ⟨a4, c4, rfl⟩ := o4.form
  have ho4 := qH1 fr4 x3.obj (by simp)
  have m24 := qH1 fr4 (s3 _ _ m2) (by simp)
  have ld4 : wZ Tryz.prog 92 h4 (.pointer (some ⟨k2, 0, none⟩)) = some (.agg nc.toArray) := zI (P := Tryz.prog) (t := 92) m24 wE l1
  refine qJ ?_; repeat' (first | ((with_reducible apply qI) <;> try simp only [qN, qC, qE, qG, qD, qA, qF, seval, qQ, qO, qP, qL, qY, qZ, zC, fG, jX, gNil, qH ho4 uL, ld4]))
  refine zW ho4 uL rfl (by simp) rfl rfl fun h5 m5 f5 => ?_
  simp only [List.set_cons_zero, List.set_cons_succ] at m5
  have wl : IntKind.i64.wrap (((M.length + 1 : Nat) : Int) - 1) = (M.length : Int) := by rw [wrap64 (by omega) (by omega)]; omega
  have fr : FR 10 k h h5 := fun j B m q => by
    have m3 := s3 _ _ (s2 _ _ m)
    have j1 : ∀ (B' : GB), h3 j = some B' → B'.es = 10 → B'.cells.all vO = true → False := fun B' mB he hu => by
      rw [m3] at mB; cases mB
      rcases q with q | ⟨_, q⟩
      · rw [hu] at q; cases q
      · exact q he
    have m4 := fr4 j B m3 fun _ kb' c' _ _ hk' e => by
      rw [e] at j1
      exact j1 _ hk' rfl x.arr.u8
    have hjk : j ≠ k := fun e => by
      rw [e, x.obj] at m; cases m
      rcases q with q | ⟨q, _⟩
      · cases q
      · exact q e
    rw [f5 j hjk]; exact m4
  have s05 : HS h0 h5 := fun j B m => by
    have m4 := s4 _ _ m
    have hjk : j ≠ k := fun e => by rw [e, x.nk] at m; cases m
    rw [f5 j hjk]; exact m4
  refine qJ ?_; repeat' (first | with_reducible apply qK | ((with_reducible first | apply qI | apply qB | apply qM) <;> try simp only [qN, qC, qE, qG, qD, qA, qF, seval, qQ, qO, qP, qL, qY, qZ, zC, fG, jX, gNil, qH m5 uL, wl]))
  exact ⟨s05, fr, _, _, m5, x.nk, x.arr.push (o4.by5 ho4 f5) l3 l1 (fun _ _ r => r.fr fr) (r.fr fr) hm ok⟩
end
theorem fI : type_of% (And.intro uK (And.intro zF (And.intro yJ (And.intro vU (And.intro xB (And.intro uI (And.intro kC (And.intro wF rs93)))))))) := And.intro uK (And.intro zF (And.intro yJ (And.intro vU (And.intro xB (And.intro uI (And.intro kC (And.intro wF rs93)))))))
def kY : Nat → List (Nat × List Nat) × List Nat
  | 3 => ([(0, []), (1, []), (2, []), (4, []), (5, []), (7, []), (8, []), (9, []), (10, []), (11, []), (12, []), (13, []), (14, []), (15, []), (3, [12]), (6, [12]), (16, []), (17, []), (18, []), (19, []), (20, []), (21, []), (22, [])], [0, 0, 0, 6, 0, 0, 62, 0, 0, 0, 512, 1536, 3584, 0, 0, 0, 65150, 131070, 262143, 524287, 524287, 2097151, 4194303])
  | _ => ([], [])
theorem xH : type_of% (And.intro uK (And.intro zF (And.intro yJ (And.intro vU (And.intro xB (And.intro uI (And.intro kC (And.intro wF rs96)))))))) := And.intro uK (And.intro zF (And.intro yJ (And.intro vU (And.intro xB (And.intro uI (And.intro kC (And.intro wF rs96)))))))
def zR : List (Nat × List Nat) := [(0, []), (1, []), (2, []), (3, []), (4, []), (5, []), (6, []), (7, []), (8, []), (9, []), (10, []), (11, []), (12, []), (13, []), (14, [3, 6, 10, 13]), (15, [3, 6, 10, 13]), (16, [10, 13]), (17, [])]
def qV0 : List Nat := [0, 1, 3, 7, 0, 31, 63, 0, 128, 384, 896, 0, 3968, 8064, 0, 16384, 49279, 131071]
def zQ : List (Nat × List Nat) := [(0, []), (1, []), (2, []), (3, []), (4, []), (5, []), (6, []), (7, []), (8, []), (9, []), (10, []), (11, []), (12, []), (13, []), (15, [3, 6, 10, 13]), (14, [3, 6, 10, 13]), (16, [10, 13]), (17, [])]
def qU9 : List Nat := [0, 1, 3, 7, 0, 31, 63, 0, 128, 384, 896, 0, 3968, 8064, 32768, 0, 49279, 131071]
def zO : List (Nat × List Nat) := [(0, []), (1, []), (2, []), (4, []), (5, []), (6, []), (7, []), (8, []), (9, []), (10, []), (3, [5, 7]), (11, []), (12, [5, 7]), (13, [])]
def lL : List Nat := [0, 0, 0, 6, 0, 16, 0, 64, 240, 0, 0, 2047, 14, 8191]
def zM : List (Nat × List Nat) := [(0, []), (1, []), (2, []), (4, []), (5, []), (6, []), (7, []), (8, []), (9, []), (10, []), (12, [5, 7]), (3, [5, 7]), (11, []), (13, [])]
def lK : List Nat := [0, 0, 0, 4102, 0, 16, 0, 64, 240, 0, 0, 6143, 0, 8191]
def zZ : Nat → List (Nat × List Nat) × List Nat
  | 5 => ([(0, []), (1, []), (2, []), (3, []), (4, []), (5, []), (6, []), (7, []), (8, []), (9, []), (10, []), (11, []), (12, []), (13, []), (14, [])], [0, 1, 3, 7, 0, 0, 0, 64, 0, 256, 0, 1024, 4095, 8191, 16383])
  | _ => ([], [])
section
variable {h0 h h' : GH} {k : Nat} {v : Value} {cs : List Value} {M : List Nd}
theorem c_rLeaf (N : Nat) (s0 : HS h0 h) (x : AB h0 h k v cs M) {a b : Option Addr} {ca cb : Nat} {id ky : List UInt8} (ri : RB h (.slice a id.length ca) id) (rk : RB h (.slice b ky.length cb) ky) (hi : id.length ≤ 255) (hk : ky.length ≤ 60000) {si : Nat} (hs : si ≤ 1000000) (hm : M.length < 10000) :
    GTri Tryz.prog N 93 [.pointer (some ⟨k, 0, none⟩), .slice a id.length ca, .slice b ky.length cb, .int .i64 (si : Int)] h fun u h' => u = .tuple #[.int .i64 (M.length : Int), .int .i64 0] ∧ HS h0 h' ∧ FR 10 k h h' ∧ ∃ v' cs', AB h0 h' k v' cs' (M ++ [vZ id ky si]) := by
  have d1 : decide ((si : Int) < 0) = false := decide_eq_false (by omega)
  have d2 : decide ((id.length : Int) > 65535) = false := decide_eq_false (by omega)
  have d3 : decide ((ky.length : Int) > 65535) = false := decide_eq_false (by omega)
  have ho := x.obj
  have iz : (!(#[] : Array (Nat × Operand)).size == 0) = false := rfl
  refine zU Tryz.func93 rfl gf93 ok93 (by simp [Tryz.ntmps93]) ?_
  refine qJ ?_; repeat' (first | with_reducible apply qK | ((first | (with_reducible first | apply qI | apply qB | apply qR | apply qT) | with_reducible refine zE kY xC (by kernel_rfl) ?_) <;> try simp only [qN, qC, qE, qG, qD, qA, qF, seval, qQ, qO, qP, qL, qY, qZ, zC, fI, kY, d1, d2, d3, iz, gNil, qH ho zS]))
  refine mX vA rfl ?_
  refine qJ ?_; repeat' (first | ((with_reducible apply qI) <;> try simp only [qN, qC, qE, qG, qD, qA, qF, seval, qQ, qO, qP, qL, qY, qZ, zC, fI, kY, iz, gNil, qH ho zS]))
  refine mX vA rfl ?_
  refine qJ ?_; repeat' (first | ((with_reducible apply qI) <;> try simp only [qN, qC, qE, qG, qD, qA, qF, seval, qQ, qO, qP, qL, qY, qZ, zC, fI, kY, iz, gNil, qH ho zS]))
  refine xW vA Tryz.underlying22 rfl (HS.refl h) (.inr (.inl ⟨_, rfl, rfl⟩)) ri.src (by simp; omega) fun v1 h1 s1 _ o1 => ?_
  rw [List.nil_append] at o1
  obtain ⟨a1, c1, rfl⟩ := o1.form
  have ho1 := s1 _ _ ho
  refine qJ ?_; repeat' (first | ((with_reducible apply qI) <;> try simp only [qN, qC, qE, qG, qD, qA, qF, seval, qQ, qO, qP, qL, qY, qZ, zC, fI, kY, iz, gNil, qH ho1 zS, xP, xZ, vY, Shape.pl, List.all_cons, List.all_nil, zK]))
  refine xW vA Tryz.underlying22 rfl (HS.refl h1) (.inr (.inl ⟨_, rfl, rfl⟩)) (rk.hs s1).src (by simp; omega) fun v2 h2 s2 _ o2 => ?_
  rw [List.nil_append] at o2
  obtain ⟨a2, c2, rfl⟩ := o2.form
  have ho2 := s2 _ _ ho1
  have s12 := s1.trans s2
  refine qJ ?_; repeat' (first | ((with_reducible apply qI) <;> try simp only [qN, qC, qE, qG, qD, qA, qF, seval, qQ, qO, qP, qL, qY, qZ, zC, fI, kY, iz, gNil, qH ho2 zS, xP, xZ, vY, Shape.pl, List.all_cons, List.all_nil, zK]))
  refine (zG4 N 4 (w := si) (by omega) (ri.hs s12) (rk.hs s12) (by omega) (by omega)).mono ?_
  rintro _ h3 ⟨s3, a3, c3, rfl, r3⟩
  have ho3 := s3 _ _ ho2
  have s13 := s12.trans s3
  refine qJ ?_; repeat' (first | ((with_reducible apply qI) <;> try simp only [qN, qC, qE, qG, qD, qA, qF, seval, qQ, qO, qP, qL, qY, qZ, zC, fI, kY, iz, gNil, qH ho3 zS, xP, xZ, vY, Shape.pl, List.all_cons, List.all_nil, zK]))
  refine (qN7 N (s0.trans s13) (x.hs s13) (nd := vZ id ky si) ⟨a1, c1, a2, c2, none, 0, a3, c3, rfl, (o1.rb.hs s2).hs s3, o2.rb.hs s3, RB.nil _, r3⟩ hm ⟨hi, hk, by simp [vZ], hs, by simp [vZ], hs, dF _, by simp [vZ], by simp [vZ]⟩).mono ?_
  rintro _ h7 ⟨rfl, s7, fr7, v', cs', x7⟩
  refine qJ ?_; repeat' (first | ((with_reducible first | apply qI | apply qM) <;> try simp only [qN, qC, qE, qG, qD, qA, qF, seval, qQ, qO, qP, qL, qY, qZ, zC, fI, kY]))
  exact ⟨s7, (FR.of s13).trans fr7, v', cs', x7⟩
theorem mM (N : Nat) (s0 : HS h0 h) (x : AB h0 h k v cs M) {a : Option Addr} {ca : Nat} {pf : List UInt8} (rp : RB h (.slice a pf.length ca) pf) (hp : pf.length ≤ 60000) {d l r : Nat} (hd : d ≤ 8 * pf.length) (hl : l < M.length) (hr : r < M.length) (hm : M.length < 10000) :
    GTri Tryz.prog N 96 [.pointer (some ⟨k, 0, none⟩), .int .i64 (d : Int), .slice a pf.length ca, .int .i64 (l : Int), .int .i64 (r : Int)] h fun u h' => u = .tuple #[.int .i64 (M.length : Int), .int .i64 0] ∧ HS h0 h' ∧ FR 10 k h h' ∧ ∃ v' cs', AB h0 h' k v' cs' (M ++ [vF M d pf l r]) := by
  obtain ⟨xl, hxl⟩ := jP hl
  obtain ⟨xr, hxr⟩ := jP hr
  have okl := x.arr.ok.ok l xl hxl
  have okr := x.arr.ok.ok r xr hxr
  have el := wT hxl
  have er := wT hxr
  have ho := x.obj
  have d1 : decide ((d : Int) < 0) = false := decide_eq_false (by omega)
  have w8 : IntKind.i64.wrap (8 * (pf.length : Int)) = 8 * (pf.length : Int) := by rw [wrap64 (by omega) (by omega)]
  have d2 : decide ((d : Int) > 8 * (pf.length : Int)) = false := decide_eq_false (by omega)
  have d3 : decide ((pf.length : Int) > 65535) = false := decide_eq_false (by omega)
  have mx : (if (xl.nw : Int) < (xr.nw : Int) then (xr.nw : Int) else (xl.nw : Int)) = ((max xl.nw xr.nw : Nat) : Int) := by split <;> omega
  obtain ⟨kl, gl, ml, rl⟩ := x.cell hxl
  obtain ⟨kr, gr, mr, rr⟩ := x.cell hxr
  obtain ⟨la1, lc1, la2, lc2, la3, lc3, la4, lc4, el2, rl1, rl2, rl3, rl4⟩ := rl
  obtain ⟨ra1, rc1, ra2, rc2, ra3, rc3, ra4, rc4, er2, rr1, rr2, rr3, rr4⟩ := rr
  have ldl := wN (P := Tryz.prog) (t := 92) ml wE el2 rfl
  have ldr := wN (P := Tryz.prog) (t := 92) mr wE er2 rfl
  refine zU Tryz.func96 rfl gf96 ok96 (by simp [Tryz.ntmps96]) ?_
  refine qJ ?_; repeat' (first | with_reducible apply qK | ((first | (with_reducible first | apply qI | apply qB | apply qR | apply qT) | with_reducible refine lX (id := 3) 14 15 zR qV0 zQ qU9 xC (by kernel_rfl) (by kernel_rfl) (by kernel_rfl) ?_ ?_ | ((refine GTri.mono (mJ _ x hxl) ?_); rintro _ _ ⟨rfl, hh9⟩; replace hh9 := hh9.symm; subst hh9) | ((refine GTri.mono (mJ _ x hxr) ?_); rintro _ _ ⟨rfl, hh9⟩; replace hh9 := hh9.symm; subst hh9)) <;> try simp only [qN, qC, qE, qG, qD, qA, qF, seval, qQ, qO, qP, qL, qY, qZ, zC, xH, zZ, zR, zQ, zO, zM, d1, d2, d3, w8, gNil, qH ho uL, gl, gr, ldl, ldr]))
  · refine xE fun k12 h1 q12_1 S1 f1 n12 => ?_
    have ho1 := S1 _ _ ho
    have ml1 := S1 _ _ ml
    have mr1 := S1 _ _ mr
    have ldl1 := wN (P := Tryz.prog) (t := 92) ml1 wE el2 rfl
    have ldr1 := wN (P := Tryz.prog) (t := 92) mr1 wE er2 rfl
    refine qJ ?_; repeat' (first | ((with_reducible apply qI) <;> try simp only [qN, qC, qE, qG, qD, qA, qF, seval, qQ, qO, qP, qL, qY, qZ, zC, xH, zZ, zR, zQ, zO, zM, gNil, qH ho1 uL, qH ho1 zS, gl, gr, ldl1, ldr1]))
    refine xE fun k13 h2 q13_2 s2 f2 n13' => ?_
    have S2 := S1.trans s2
    have n13 := S1.none_of n13'
    have q12_2 := s2 _ _ q12_1
    have ne : k12 ≠ k13 := yA q12_1 n13'
    have ho2 := S2 _ _ ho
    have ml2 := S2 _ _ ml
    have mr2 := S2 _ _ mr
    have ldl2 := wN (P := Tryz.prog) (t := 92) ml2 wE el2 rfl
    have ldr2 := wN (P := Tryz.prog) (t := 92) mr2 wE er2 rfl
    refine qJ ?_; repeat' (first | ((with_reducible apply qI) <;> try simp only [qN, qC, qE, qG, qD, qA, qF, seval, qQ, qO, qP, qL, qY, qZ, zC, xH, zZ, zR, zQ, zO, zM, gNil, qH ho2 uL, qH ho2 zS, gl, gr, ldl2, ldr2]))
    refine xY q12_2 wE rfl (by decide) rfl rfl rfl fun h3 q12_3 f3 => ?_
    have S3 := S2.upd n12 f3
    have q13_3 := (f3 k13 (ne.symm)).trans q13_2
    have ho3 := S3 _ _ ho
    have ml3 := S3 _ _ ml
    have mr3 := S3 _ _ mr
    have ldl3 := wN (P := Tryz.prog) (t := 92) ml3 wE el2 rfl
    have ldr3 := wN (P := Tryz.prog) (t := 92) mr3 wE er2 rfl
    refine qJ ?_; repeat' (first | ((with_reducible apply qI) <;> try simp only [qN, qC, qE, qG, qD, qA, qF, seval, qQ, qO, qP, qL, qY, qZ, zC, xH, zZ, zR, zQ, zO, zM, gNil, qH ho3 uL, qH ho3 zS, gl, gr, ldl3, ldr3]))
    refine xY q13_3 wE rfl (by decide) rfl rfl rfl fun h4 q13_4 f4 => ?_
    have S4 := S3.upd n13 f4
    have q12_4 := (f4 k12 (ne)).trans q12_3
    simp only [Nd.cs] at q12_4 q13_4
    have ho4 := S4 _ _ ho
    have ml4 := S4 _ _ ml
    have mr4 := S4 _ _ mr
    have ldl4 := wN (P := Tryz.prog) (t := 92) ml4 wE el2 rfl
    have ldr4 := wN (P := Tryz.prog) (t := 92) mr4 wE er2 rfl
    refine qJ ?_; repeat' (first | with_reducible apply qK | ((first | (with_reducible apply qI) | with_reducible refine lX (id := 4) 3 12 zO lL zM lK xC (by kernel_rfl) (by kernel_rfl) (by kernel_rfl) ?_ ?_) <;> try simp only [qN, qC, qE, qG, qD, qA, qF, seval, qQ, qO, qP, qL, qY, qZ, zC, xH, zZ, zR, zQ, zO, zM, gNil, qH ho4 uL, qH ho4 zS, gl, gr, ldl4, ldr4, qH q12_4 zS, qH q13_4 zS, qH q12_4 zD, qH q13_4 zD]))
    · refine (gR N _ (rp.hs S4) (by omega) d (WalkArith.wf_i64 (by omega))).mono ?_
      rintro _ h5 ⟨s5, a2, c2, rfl, r2⟩
      rw [Int.toNat_natCast] at r2
      simp only [Int.toNat_natCast]
      have q12_5 := s5 _ _ q12_4
      have q13_5 := s5 _ _ q13_4
      refine qJ ?_; repeat' (first | ((with_reducible apply qI) <;> try simp only [qN, qC, qE, qG, qD, qA, qF, seval, qQ, qO, qP, qL, qY, qZ, zC, xH, zZ, zR, zQ, zO, zM, xP, xZ, vY, Shape.pl, List.all_cons, List.all_nil, zK, mx, qH q12_5 zS, qH q13_5 zS, qH q12_5 zD, qH q13_5 zD]))
      refine xE fun k14 h6 q14_6 s6 f6 n14' => ?_
      have n14 := (S4.trans s5).none_of n14'
      have q12_6 := s6 _ _ q12_5
      have q13_6 := s6 _ _ q13_5
      have ne12 := yA q12_5 n14'
      have ne13 := yA q13_5 n14'
      refine qJ ?_; repeat' (first | ((with_reducible apply qI) <;> try simp only [qN, qC, qE, qG, qD, qA, qF, seval, qQ, qO, qP, qL, qY, qZ, zC, xH, zZ, zR, zQ, zO, zM, xP, xZ, vY, Shape.pl, List.all_cons, List.all_nil, zK, mx, qH q12_6 zS, qH q13_6 zS, qH q12_6 zD, qH q13_6 zD]))
      refine wL q14_6 wE rfl (by decide) rfl rfl rfl fun h7 q14_7 f7 => ?_
      have S7 := ((S4.trans s5).trans s6).upd n14 f7
      have r7 := (r2.hs s6).hx q14_6 rfl (zH f7)
      have q12_7 := (f7 k12 ne12).trans q12_6
      have q13_7 := (f7 k13 ne13).trans q13_6
      have k14k : k14 ≠ k := fun q => by rw [q, x.obj] at n14; cases n14
      simp only [vcells] at q14_7
      have ho7 := S7 _ _ ho
      have ml7 := S7 _ _ ml
      have mr7 := S7 _ _ mr
      have ldl7 := wN (P := Tryz.prog) (t := 92) ml7 wE el2 rfl
      have ldr7 := wN (P := Tryz.prog) (t := 92) mr7 wE er2 rfl
      refine qJ ?_; repeat' (first | with_reducible apply qK | ((first | (with_reducible apply qI) | with_reducible refine zE zZ xC (by kernel_rfl) ?_) <;> try simp only [qN, qC, qE, qG, qD, qA, qF, seval, qQ, qO, qP, qL, qY, qZ, zC, xH, zZ, zR, zQ, zO, zM, gNil, qH ho7 zS, qH q14_7 zS, qH q14_7 zD, qH q12_7 zS, qH q13_7 zS, qH q12_7 zD, qH q13_7 zD]))
      refine (rZ N 4 (d := d) (w := max xl.nw xr.nw) (by omega) (by have := okl.nw; have := okr.nw; omega) (rp.hs S7) (rl4.hs S7) (rr4.hs S7) hp (by have := okl.hs; omega) (by have := okr.hs; omega)).mono ?_
      rintro _ h8 ⟨s8, a5, c5, rfl, r5⟩
      refine qJ ?_; repeat' (first | ((with_reducible apply qI) <;> try simp only [qN, qC, qE, qG, qD, qA, qF, seval, qQ, qO, qP, qL, qY, qZ, zC, xH, zZ, zR, zQ, zO, zM]))
      refine zW (s8 _ _ q14_7) zD rfl (by simp) rfl rfl fun h9 m9 f9 => ?_
      simp only [List.set_cons_zero, List.set_cons_succ] at m9
      have S9 := (S7.trans s8).upd n14 f9
      have en : vF M d pf l r = ⟨false, [], [], 0, d, zG pf d, max xl.nw xr.nw, l, r, vS 4 (vQ d pf (max xl.nw xr.nw) xl.hs xr.hs)⟩ := by simp only [vF, el, er]
      have rn : RNd h9 [.bool false, .slice none 0 0, .slice none 0 0, .int .i64 0, .int .i64 d, .slice a2 (zG pf d).length c2, .int .i64 ((max xl.nw xr.nw : Nat) : Int), .int .i64 l, .int .i64 r, .slice a5 (vS 4 (vQ d pf (max xl.nw xr.nw) xl.hs xr.hs)).length c5] (vF M d pf l r) := by
        rw [en]
        exact ⟨none, 0, none, 0, a2, c2, a5, c5, rfl, RB.nil _, RB.nil _, (r7.hs s8).hx (s8 _ _ q14_7) rfl (zH f9), r5.hx (s8 _ _ q14_7) rfl (zH f9)⟩
      have okn : (vF M d pf l r).ok M.length := by
        rw [en]
        have := okl.nw
        have := okr.nw
        exact ⟨by simp, by simp, by show (zG pf d).length ≤ 60000; rw [wM]; omega, by simp, by show d ≤ 1000000; omega, by show max xl.nw xr.nw ≤ 1000000; omega, dF _, by show l ≤ M.length; omega, by show r ≤ M.length; omega⟩
      have ldn := zI (P := Tryz.prog) (t := 92) m9 wE rfl
      refine qJ ?_; repeat' (first | with_reducible apply qK | ((with_reducible first | apply qI | apply qB) <;> try simp only [qN, qC, qE, qG, qD, qA, qF, seval, qQ, qO, qP, qL, qY, qZ, zC, xH, zZ, zR, zQ, zO, zM, ldn]))
      refine (qN7 N (s0.trans S9) (x.hs S9) rn hm okn).mono ?_
      rintro _ h10 ⟨rfl, s10, fr10, v', cs', x10⟩
      refine qJ ?_; repeat' (first | ((with_reducible first | apply qI | apply qM) <;> try simp only [qN, qC, qE, qG, qD, qA, qF, seval, qQ, qO, qP, qL, qY, qZ, zC, xH, zZ, zR, zQ, zO, zM]))
      exact ⟨s10, (FR.of S9).trans fr10, v', cs', x10⟩
    · refine xE fun k14 h5 q14_5 s5 f5 n14' => ?_
      have n14 := S4.none_of n14'
      have q12_5 := s5 _ _ q12_4
      have q13_5 := s5 _ _ q13_4
      have ne12 := yA q12_4 n14'
      have ne13 := yA q13_4 n14'
      refine qJ ?_; repeat' (first | ((with_reducible apply qI) <;> try simp only [qN, qC, qE, qG, qD, qA, qF, seval, qQ, qO, qP, qL, qY, qZ, zC, xH, zZ, zR, zQ, zO, zM, xP, xZ, vY, Shape.pl, List.all_cons, List.all_nil, zK, mx, qH q12_5 zS, qH q13_5 zS, qH q12_5 zD, qH q13_5 zD]))
      refine (gR N _ ((rp.hs S4).hs s5) (by omega) d (WalkArith.wf_i64 (by omega))).mono ?_
      rintro _ h6 ⟨s6, a2, c2, rfl, r2⟩
      rw [Int.toNat_natCast] at r2
      simp only [Int.toNat_natCast]
      have q12_6 := s6 _ _ q12_5
      have q13_6 := s6 _ _ q13_5
      have q14_6 := s6 _ _ q14_5
      refine qJ ?_; repeat' (first | ((with_reducible apply qI) <;> try simp only [qN, qC, qE, qG, qD, qA, qF, seval, qQ, qO, qP, qL, qY, qZ, zC, xH, zZ, zR, zQ, zO, zM, xP, xZ, vY, Shape.pl, List.all_cons, List.all_nil, zK, mx, qH q12_6 zS, qH q13_6 zS, qH q12_6 zD, qH q13_6 zD]))
      refine wL q14_6 wE rfl (by decide) rfl rfl rfl fun h7 q14_7 f7 => ?_
      have S7 := ((S4.trans s5).trans s6).upd n14 f7
      have r7 := r2.hx q14_6 rfl (zH f7)
      have q12_7 := (f7 k12 ne12).trans q12_6
      have q13_7 := (f7 k13 ne13).trans q13_6
      have k14k : k14 ≠ k := fun q => by rw [q, x.obj] at n14; cases n14
      simp only [vcells] at q14_7
      have ho7 := S7 _ _ ho
      have ml7 := S7 _ _ ml
      have mr7 := S7 _ _ mr
      have ldl7 := wN (P := Tryz.prog) (t := 92) ml7 wE el2 rfl
      have ldr7 := wN (P := Tryz.prog) (t := 92) mr7 wE er2 rfl
      refine qJ ?_; repeat' (first | with_reducible apply qK | ((first | (with_reducible apply qI) | with_reducible refine zE zZ xC (by kernel_rfl) ?_) <;> try simp only [qN, qC, qE, qG, qD, qA, qF, seval, qQ, qO, qP, qL, qY, qZ, zC, xH, zZ, zR, zQ, zO, zM, gNil, qH ho7 zS, qH q14_7 zS, qH q14_7 zD, qH q12_7 zS, qH q13_7 zS, qH q12_7 zD, qH q13_7 zD]))
      refine (rZ N 4 (d := d) (w := max xl.nw xr.nw) (by omega) (by have := okl.nw; have := okr.nw; omega) (rp.hs S7) (rl4.hs S7) (rr4.hs S7) hp (by have := okl.hs; omega) (by have := okr.hs; omega)).mono ?_
      rintro _ h8 ⟨s8, a5, c5, rfl, r5⟩
      refine qJ ?_; repeat' (first | ((with_reducible apply qI) <;> try simp only [qN, qC, qE, qG, qD, qA, qF, seval, qQ, qO, qP, qL, qY, qZ, zC, xH, zZ, zR, zQ, zO, zM]))
      refine zW (s8 _ _ q14_7) zD rfl (by simp) rfl rfl fun h9 m9 f9 => ?_
      simp only [List.set_cons_zero, List.set_cons_succ] at m9
      have S9 := (S7.trans s8).upd n14 f9
      have en : vF M d pf l r = ⟨false, [], [], 0, d, zG pf d, max xl.nw xr.nw, l, r, vS 4 (vQ d pf (max xl.nw xr.nw) xl.hs xr.hs)⟩ := by simp only [vF, el, er]
      have rn : RNd h9 [.bool false, .slice none 0 0, .slice none 0 0, .int .i64 0, .int .i64 d, .slice a2 (zG pf d).length c2, .int .i64 ((max xl.nw xr.nw : Nat) : Int), .int .i64 l, .int .i64 r, .slice a5 (vS 4 (vQ d pf (max xl.nw xr.nw) xl.hs xr.hs)).length c5] (vF M d pf l r) := by
        rw [en]
        exact ⟨none, 0, none, 0, a2, c2, a5, c5, rfl, RB.nil _, RB.nil _, (r7.hs s8).hx (s8 _ _ q14_7) rfl (zH f9), r5.hx (s8 _ _ q14_7) rfl (zH f9)⟩
      have okn : (vF M d pf l r).ok M.length := by
        rw [en]
        have := okl.nw
        have := okr.nw
        exact ⟨by simp, by simp, by show (zG pf d).length ≤ 60000; rw [wM]; omega, by simp, by show d ≤ 1000000; omega, by show max xl.nw xr.nw ≤ 1000000; omega, dF _, by show l ≤ M.length; omega, by show r ≤ M.length; omega⟩
      have ldn := zI (P := Tryz.prog) (t := 92) m9 wE rfl
      refine qJ ?_; repeat' (first | with_reducible apply qK | ((with_reducible first | apply qI | apply qB) <;> try simp only [qN, qC, qE, qG, qD, qA, qF, seval, qQ, qO, qP, qL, qY, qZ, zC, xH, zZ, zR, zQ, zO, zM, ldn]))
      refine (qN7 N (s0.trans S9) (x.hs S9) rn hm okn).mono ?_
      rintro _ h10 ⟨rfl, s10, fr10, v', cs', x10⟩
      refine qJ ?_; repeat' (first | ((with_reducible first | apply qI | apply qM) <;> try simp only [qN, qC, qE, qG, qD, qA, qF, seval, qQ, qO, qP, qL, qY, qZ, zC, xH, zZ, zR, zQ, zO, zM]))
      exact ⟨s10, (FR.of S9).trans fr10, v', cs', x10⟩
  · refine xE fun k13 h1 q13_1 S1 f1 n13 => ?_
    have ho1 := S1 _ _ ho
    have ml1 := S1 _ _ ml
    have mr1 := S1 _ _ mr
    have ldl1 := wN (P := Tryz.prog) (t := 92) ml1 wE el2 rfl
    have ldr1 := wN (P := Tryz.prog) (t := 92) mr1 wE er2 rfl
    refine qJ ?_; repeat' (first | ((with_reducible apply qI) <;> try simp only [qN, qC, qE, qG, qD, qA, qF, seval, qQ, qO, qP, qL, qY, qZ, zC, xH, zZ, zR, zQ, zO, zM, gNil, qH ho1 uL, qH ho1 zS, gl, gr, ldl1, ldr1]))
    refine xE fun k12 h2 q12_2 s2 f2 n12' => ?_
    have S2 := S1.trans s2
    have n12 := S1.none_of n12'
    have q13_2 := s2 _ _ q13_1
    have ne : k13 ≠ k12 := yA q13_1 n12'
    have ho2 := S2 _ _ ho
    have ml2 := S2 _ _ ml
    have mr2 := S2 _ _ mr
    have ldl2 := wN (P := Tryz.prog) (t := 92) ml2 wE el2 rfl
    have ldr2 := wN (P := Tryz.prog) (t := 92) mr2 wE er2 rfl
    refine qJ ?_; repeat' (first | ((with_reducible apply qI) <;> try simp only [qN, qC, qE, qG, qD, qA, qF, seval, qQ, qO, qP, qL, qY, qZ, zC, xH, zZ, zR, zQ, zO, zM, gNil, qH ho2 uL, qH ho2 zS, gl, gr, ldl2, ldr2]))
    refine xY q12_2 wE rfl (by decide) rfl rfl rfl fun h3 q12_3 f3 => ?_
    have S3 := S2.upd n12 f3
    have q13_3 := (f3 k13 (ne)).trans q13_2
    have ho3 := S3 _ _ ho
    have ml3 := S3 _ _ ml
    have mr3 := S3 _ _ mr
    have ldl3 := wN (P := Tryz.prog) (t := 92) ml3 wE el2 rfl
    have ldr3 := wN (P := Tryz.prog) (t := 92) mr3 wE er2 rfl
    refine qJ ?_; repeat' (first | ((with_reducible apply qI) <;> try simp only [qN, qC, qE, qG, qD, qA, qF, seval, qQ, qO, qP, qL, qY, qZ, zC, xH, zZ, zR, zQ, zO, zM, gNil, qH ho3 uL, qH ho3 zS, gl, gr, ldl3, ldr3]))
    refine xY q13_3 wE rfl (by decide) rfl rfl rfl fun h4 q13_4 f4 => ?_
    have S4 := S3.upd n13 f4
    have q12_4 := (f4 k12 (ne.symm)).trans q12_3
    simp only [Nd.cs] at q12_4 q13_4
    have ho4 := S4 _ _ ho
    have ml4 := S4 _ _ ml
    have mr4 := S4 _ _ mr
    have ldl4 := wN (P := Tryz.prog) (t := 92) ml4 wE el2 rfl
    have ldr4 := wN (P := Tryz.prog) (t := 92) mr4 wE er2 rfl
    refine qJ ?_; repeat' (first | with_reducible apply qK | ((first | (with_reducible apply qI) | with_reducible refine lX (id := 4) 3 12 zO lL zM lK xC (by kernel_rfl) (by kernel_rfl) (by kernel_rfl) ?_ ?_) <;> try simp only [qN, qC, qE, qG, qD, qA, qF, seval, qQ, qO, qP, qL, qY, qZ, zC, xH, zZ, zR, zQ, zO, zM, gNil, qH ho4 uL, qH ho4 zS, gl, gr, ldl4, ldr4, qH q12_4 zS, qH q13_4 zS, qH q12_4 zD, qH q13_4 zD]))
    · refine (gR N _ (rp.hs S4) (by omega) d (WalkArith.wf_i64 (by omega))).mono ?_
      rintro _ h5 ⟨s5, a2, c2, rfl, r2⟩
      rw [Int.toNat_natCast] at r2
      simp only [Int.toNat_natCast]
      have q12_5 := s5 _ _ q12_4
      have q13_5 := s5 _ _ q13_4
      refine qJ ?_; repeat' (first | ((with_reducible apply qI) <;> try simp only [qN, qC, qE, qG, qD, qA, qF, seval, qQ, qO, qP, qL, qY, qZ, zC, xH, zZ, zR, zQ, zO, zM, xP, xZ, vY, Shape.pl, List.all_cons, List.all_nil, zK, mx, qH q12_5 zS, qH q13_5 zS, qH q12_5 zD, qH q13_5 zD]))
      refine xE fun k14 h6 q14_6 s6 f6 n14' => ?_
      have n14 := (S4.trans s5).none_of n14'
      have q12_6 := s6 _ _ q12_5
      have q13_6 := s6 _ _ q13_5
      have ne12 := yA q12_5 n14'
      have ne13 := yA q13_5 n14'
      refine qJ ?_; repeat' (first | ((with_reducible apply qI) <;> try simp only [qN, qC, qE, qG, qD, qA, qF, seval, qQ, qO, qP, qL, qY, qZ, zC, xH, zZ, zR, zQ, zO, zM, xP, xZ, vY, Shape.pl, List.all_cons, List.all_nil, zK, mx, qH q12_6 zS, qH q13_6 zS, qH q12_6 zD, qH q13_6 zD]))
      refine wL q14_6 wE rfl (by decide) rfl rfl rfl fun h7 q14_7 f7 => ?_
      have S7 := ((S4.trans s5).trans s6).upd n14 f7
      have r7 := (r2.hs s6).hx q14_6 rfl (zH f7)
      have q12_7 := (f7 k12 ne12).trans q12_6
      have q13_7 := (f7 k13 ne13).trans q13_6
      have k14k : k14 ≠ k := fun q => by rw [q, x.obj] at n14; cases n14
      simp only [vcells] at q14_7
      have ho7 := S7 _ _ ho
      have ml7 := S7 _ _ ml
      have mr7 := S7 _ _ mr
      have ldl7 := wN (P := Tryz.prog) (t := 92) ml7 wE el2 rfl
      have ldr7 := wN (P := Tryz.prog) (t := 92) mr7 wE er2 rfl
      refine qJ ?_; repeat' (first | with_reducible apply qK | ((first | (with_reducible apply qI) | with_reducible refine zE zZ xC (by kernel_rfl) ?_) <;> try simp only [qN, qC, qE, qG, qD, qA, qF, seval, qQ, qO, qP, qL, qY, qZ, zC, xH, zZ, zR, zQ, zO, zM, gNil, qH ho7 zS, qH q14_7 zS, qH q14_7 zD, qH q12_7 zS, qH q13_7 zS, qH q12_7 zD, qH q13_7 zD]))
      refine (rZ N 4 (d := d) (w := max xl.nw xr.nw) (by omega) (by have := okl.nw; have := okr.nw; omega) (rp.hs S7) (rl4.hs S7) (rr4.hs S7) hp (by have := okl.hs; omega) (by have := okr.hs; omega)).mono ?_
      rintro _ h8 ⟨s8, a5, c5, rfl, r5⟩
      refine qJ ?_; repeat' (first | ((with_reducible apply qI) <;> try simp only [qN, qC, qE, qG, qD, qA, qF, seval, qQ, qO, qP, qL, qY, qZ, zC, xH, zZ, zR, zQ, zO, zM]))
      refine zW (s8 _ _ q14_7) zD rfl (by simp) rfl rfl fun h9 m9 f9 => ?_
      simp only [List.set_cons_zero, List.set_cons_succ] at m9
      have S9 := (S7.trans s8).upd n14 f9
      have en : vF M d pf l r = ⟨false, [], [], 0, d, zG pf d, max xl.nw xr.nw, l, r, vS 4 (vQ d pf (max xl.nw xr.nw) xl.hs xr.hs)⟩ := by simp only [vF, el, er]
      have rn : RNd h9 [.bool false, .slice none 0 0, .slice none 0 0, .int .i64 0, .int .i64 d, .slice a2 (zG pf d).length c2, .int .i64 ((max xl.nw xr.nw : Nat) : Int), .int .i64 l, .int .i64 r, .slice a5 (vS 4 (vQ d pf (max xl.nw xr.nw) xl.hs xr.hs)).length c5] (vF M d pf l r) := by
        rw [en]
        exact ⟨none, 0, none, 0, a2, c2, a5, c5, rfl, RB.nil _, RB.nil _, (r7.hs s8).hx (s8 _ _ q14_7) rfl (zH f9), r5.hx (s8 _ _ q14_7) rfl (zH f9)⟩
      have okn : (vF M d pf l r).ok M.length := by
        rw [en]
        have := okl.nw
        have := okr.nw
        exact ⟨by simp, by simp, by show (zG pf d).length ≤ 60000; rw [wM]; omega, by simp, by show d ≤ 1000000; omega, by show max xl.nw xr.nw ≤ 1000000; omega, dF _, by show l ≤ M.length; omega, by show r ≤ M.length; omega⟩
      have ldn := zI (P := Tryz.prog) (t := 92) m9 wE rfl
      refine qJ ?_; repeat' (first | with_reducible apply qK | ((with_reducible first | apply qI | apply qB) <;> try simp only [qN, qC, qE, qG, qD, qA, qF, seval, qQ, qO, qP, qL, qY, qZ, zC, xH, zZ, zR, zQ, zO, zM, ldn]))
      refine (qN7 N (s0.trans S9) (x.hs S9) rn hm okn).mono ?_
      rintro _ h10 ⟨rfl, s10, fr10, v', cs', x10⟩
      refine qJ ?_; repeat' (first | ((with_reducible first | apply qI | apply qM) <;> try simp only [qN, qC, qE, qG, qD, qA, qF, seval, qQ, qO, qP, qL, qY, qZ, zC, xH, zZ, zR, zQ, zO, zM]))
      exact ⟨s10, (FR.of S9).trans fr10, v', cs', x10⟩
    · refine xE fun k14 h5 q14_5 s5 f5 n14' => ?_
      have n14 := S4.none_of n14'
      have q12_5 := s5 _ _ q12_4
      have q13_5 := s5 _ _ q13_4
      have ne12 := yA q12_4 n14'
      have ne13 := yA q13_4 n14'
      refine qJ ?_; repeat' (first | ((with_reducible apply qI) <;> try simp only [qN, qC, qE, qG, qD, qA, qF, seval, qQ, qO, qP, qL, qY, qZ, zC, xH, zZ, zR, zQ, zO, zM, xP, xZ, vY, Shape.pl, List.all_cons, List.all_nil, zK, mx, qH q12_5 zS, qH q13_5 zS, qH q12_5 zD, qH q13_5 zD]))
      refine (gR N _ ((rp.hs S4).hs s5) (by omega) d (WalkArith.wf_i64 (by omega))).mono ?_
      rintro _ h6 ⟨s6, a2, c2, rfl, r2⟩
      rw [Int.toNat_natCast] at r2
      simp only [Int.toNat_natCast]
      have q12_6 := s6 _ _ q12_5
      have q13_6 := s6 _ _ q13_5
      have q14_6 := s6 _ _ q14_5
      refine qJ ?_; repeat' (first | ((with_reducible apply qI) <;> try simp only [qN, qC, qE, qG, qD, qA, qF, seval, qQ, qO, qP, qL, qY, qZ, zC, xH, zZ, zR, zQ, zO, zM, xP, xZ, vY, Shape.pl, List.all_cons, List.all_nil, zK, mx, qH q12_6 zS, qH q13_6 zS, qH q12_6 zD, qH q13_6 zD]))
      refine wL q14_6 wE rfl (by decide) rfl rfl rfl fun h7 q14_7 f7 => ?_
      have S7 := ((S4.trans s5).trans s6).upd n14 f7
      have r7 := r2.hx q14_6 rfl (zH f7)
      have q12_7 := (f7 k12 ne12).trans q12_6
      have q13_7 := (f7 k13 ne13).trans q13_6
      have k14k : k14 ≠ k := fun q => by rw [q, x.obj] at n14; cases n14
      simp only [vcells] at q14_7
      have ho7 := S7 _ _ ho
      have ml7 := S7 _ _ ml
      have mr7 := S7 _ _ mr
      have ldl7 := wN (P := Tryz.prog) (t := 92) ml7 wE el2 rfl
      have ldr7 := wN (P := Tryz.prog) (t := 92) mr7 wE er2 rfl
      refine qJ ?_; repeat' (first | with_reducible apply qK | ((first | (with_reducible apply qI) | with_reducible refine zE zZ xC (by kernel_rfl) ?_) <;> try simp only [qN, qC, qE, qG, qD, qA, qF, seval, qQ, qO, qP, qL, qY, qZ, zC, xH, zZ, zR, zQ, zO, zM, gNil, qH ho7 zS, qH q14_7 zS, qH q14_7 zD, qH q12_7 zS, qH q13_7 zS, qH q12_7 zD, qH q13_7 zD]))
      refine (rZ N 4 (d := d) (w := max xl.nw xr.nw) (by omega) (by have := okl.nw; have := okr.nw; omega) (rp.hs S7) (rl4.hs S7) (rr4.hs S7) hp (by have := okl.hs; omega) (by have := okr.hs; omega)).mono ?_
      rintro _ h8 ⟨s8, a5, c5, rfl, r5⟩
      refine qJ ?_; repeat' (first | ((with_reducible apply qI) <;> try simp only [qN, qC, qE, qG, qD, qA, qF, seval, qQ, qO, qP, qL, qY, qZ, zC, xH, zZ, zR, zQ, zO, zM]))
      refine zW (s8 _ _ q14_7) zD rfl (by simp) rfl rfl fun h9 m9 f9 => ?_
      simp only [List.set_cons_zero, List.set_cons_succ] at m9
      have S9 := (S7.trans s8).upd n14 f9
      have en : vF M d pf l r = ⟨false, [], [], 0, d, zG pf d, max xl.nw xr.nw, l, r, vS 4 (vQ d pf (max xl.nw xr.nw) xl.hs xr.hs)⟩ := by simp only [vF, el, er]
      have rn : RNd h9 [.bool false, .slice none 0 0, .slice none 0 0, .int .i64 0, .int .i64 d, .slice a2 (zG pf d).length c2, .int .i64 ((max xl.nw xr.nw : Nat) : Int), .int .i64 l, .int .i64 r, .slice a5 (vS 4 (vQ d pf (max xl.nw xr.nw) xl.hs xr.hs)).length c5] (vF M d pf l r) := by
        rw [en]
        exact ⟨none, 0, none, 0, a2, c2, a5, c5, rfl, RB.nil _, RB.nil _, (r7.hs s8).hx (s8 _ _ q14_7) rfl (zH f9), r5.hx (s8 _ _ q14_7) rfl (zH f9)⟩
      have okn : (vF M d pf l r).ok M.length := by
        rw [en]
        have := okl.nw
        have := okr.nw
        exact ⟨by simp, by simp, by show (zG pf d).length ≤ 60000; rw [wM]; omega, by simp, by show d ≤ 1000000; omega, by show max xl.nw xr.nw ≤ 1000000; omega, dF _, by show l ≤ M.length; omega, by show r ≤ M.length; omega⟩
      have ldn := zI (P := Tryz.prog) (t := 92) m9 wE rfl
      refine qJ ?_; repeat' (first | with_reducible apply qK | ((with_reducible first | apply qI | apply qB) <;> try simp only [qN, qC, qE, qG, qD, qA, qF, seval, qQ, qO, qP, qL, qY, qZ, zC, xH, zZ, zR, zQ, zO, zM, ldn]))
      refine (qN7 N (s0.trans S9) (x.hs S9) rn hm okn).mono ?_
      rintro _ h10 ⟨rfl, s10, fr10, v', cs', x10⟩
      refine qJ ?_; repeat' (first | ((with_reducible first | apply qI | apply qM) <;> try simp only [qN, qC, qE, qG, qD, qA, qF, seval, qQ, qO, qP, qL, qY, qZ, zC, xH, zZ, zR, zQ, zO, zM]))
      exact ⟨s10, (FR.of S9).trans fr10, v', cs', x10⟩
end
theorem vE : type_of% (And.intro zF (And.intro vU (And.intro xB (And.intro uI (And.intro wF rs102))))) := And.intro zF (And.intro vU (And.intro xB (And.intro uI (And.intro wF rs102))))
def wQ : Nat → List (Nat × List Nat) × List Nat
  | 1 => ([(0, []), (1, []), (2, []), (4, []), (5, []), (6, []), (3, [6]), (8, []), (7, []), (9, []), (10, []), (11, [])], [0, 0, 2, 7, 0, 0, 32, 127, 111, 511, 1023, 2047])
  | 2 => ([(0, []), (1, []), (2, []), (4, []), (5, []), (6, []), (3, [6]), (8, []), (7, []), (9, []), (10, []), (11, [])], [0, 0, 2, 7, 0, 0, 32, 127, 111, 511, 1023, 2047])
  | _ => ([], [])
theorem fH : type_of% (And.intro uK (And.intro zF (And.intro yJ (And.intro vU (And.intro xB (And.intro uI (And.intro kC rs54))))))) := And.intro uK (And.intro zF (And.intro yJ (And.intro vU (And.intro xB (And.intro uI (And.intro kC rs54))))))
theorem qE6 : type_of% (And.intro uK (And.intro zF (And.intro jA (And.intro yJ (And.intro vU (And.intro xB (And.intro uI (And.intro kC (And.intro wF rs56))))))))) := And.intro uK (And.intro zF (And.intro jA (And.intro yJ (And.intro vU (And.intro xB (And.intro uI (And.intro kC (And.intro wF rs56))))))))
section
variable {h0 h h' : GH} {k : Nat} {v : Value} {cs : List Value} {M : List Nd}
theorem c_Copy (N : Nat) {cn : List Value} {nd : Nd} (r : RNd h cn nd) {i : Nat} (ok : nd.ok i) : GTri Tryz.prog N 102 [.agg cn.toArray] h fun u h' => HS h h' ∧ ∃ cn', u = .agg cn'.toArray ∧ RNd h' cn' nd := by
  obtain ⟨a1, c1, a2, c2, a3, c3, a4, c4, rfl, r1, r2, r3, r4⟩ := r
  have iz : (!(#[] : Array (Nat × Operand)).size == 0) = false := rfl
  have l1 := ok.id
  have l2 := ok.ky
  have l3 := ok.pf
  have l4 := ok.hs
  refine zU Tryz.func102 rfl gf102 ok102 (by simp [Tryz.ntmps102]) ?_
  repeat' (first | with_reducible apply qK | ((with_reducible apply qB) <;> try simp only [qN, qC, qE, qG, qD, qA, qF, seval, qQ, qO, qP, qL, qY, qZ, zC, vE, wQ]))
  refine wP rfl fun k1 h1 m1 s1 f1 n1 => ?_
  simp only [Nd.cs] at m1
  refine qJ ?_; repeat' (first | ((with_reducible apply qI) <;> try simp only [qN, qC, qE, qG, qD, qA, qF, seval, qQ, qO, qP, qL, qY, qZ, zC, vE, wQ]))
  refine xE fun k2 h2 m2 s2 f2 n2 => ?_
  have m12 := s2 _ _ m1
  have S2 := s1.trans s2
  refine qJ ?_; repeat' (first | with_reducible apply qK | ((first | (with_reducible apply qI) | with_reducible refine zE wQ xC (by kernel_rfl) ?_) <;> try simp only [qN, qC, qE, qG, qD, qA, qF, seval, qQ, qO, qP, qL, qY, qZ, zC, vE, wQ, iz, qH m12 zD]))
  refine mX vA rfl ?_
  refine qJ ?_; repeat' (first | ((with_reducible apply qI) <;> try simp only [qN, qC, qE, qG, qD, qA, qF, seval, qQ, qO, qP, qL, qY, qZ, zC, vE, wQ, iz, qH m12 zD]))
  refine mX vA rfl ?_
  refine qJ ?_; repeat' (first | ((with_reducible apply qI) <;> try simp only [qN, qC, qE, qG, qD, qA, qF, seval, qQ, qO, qP, qL, qY, qZ, zC, vE, wQ, iz, qH m12 zD]))
  refine xW vA Tryz.underlying22 rfl (HS.refl h2) (.inr (.inl ⟨_, rfl, rfl⟩)) (r1.hs S2).src (by simp; omega) fun v3 h3 s3 _ o3 => ?_
  rw [List.nil_append] at o3
  obtain ⟨b1, d1, rfl⟩ := o3.form
  have m13 := s3 _ _ m12
  have S3 := S2.trans s3
  refine qJ ?_; repeat' (first | ((with_reducible apply qI) <;> try simp only [qN, qC, qE, qG, qD, qA, qF, seval, qQ, qO, qP, qL, qY, qZ, zC, vE, wQ, iz, qH m13 zD]))
  refine xW vA Tryz.underlying22 rfl (HS.refl h3) (.inr (.inl ⟨_, rfl, rfl⟩)) (r2.hs S3).src (by simp; omega) fun v4 h4 s4 _ o4 => ?_
  rw [List.nil_append] at o4
  obtain ⟨b2, d2, rfl⟩ := o4.form
  have m14 := s4 _ _ m13
  have S4 := S3.trans s4
  refine qJ ?_; repeat' (first | ((with_reducible apply qI) <;> try simp only [qN, qC, qE, qG, qD, qA, qF, seval, qQ, qO, qP, qL, qY, qZ, zC, vE, wQ, iz, qH m14 zD]))
  refine zW m14 zD rfl (by simp) rfl rfl fun h5 m15 f5 => ?_
  simp only [List.set_cons_zero, List.set_cons_succ] at m15
  have S5 := S4.upd n1 f5
  refine qJ ?_; repeat' (first | ((with_reducible apply qI) <;> try simp only [qN, qC, qE, qG, qD, qA, qF, seval, qQ, qO, qP, qL, qY, qZ, zC, vE, wQ, iz, qH m15 zD]))
  refine zW m15 zD rfl (by simp) rfl rfl fun h6 m16 f6 => ?_
  simp only [List.set_cons_zero, List.set_cons_succ] at m16
  have S6 := S5.upd n1 f6
  have y1 := ((o3.rb.hs s4).hx m14 rfl (zH f5)).hx m15 rfl (zH f6)
  have y2 := (o4.rb.hx m14 rfl (zH f5)).hx m15 rfl (zH f6)
  refine qJ ?_; repeat' (first | with_reducible apply qK | ((first | (with_reducible apply qI) | with_reducible refine zE wQ xC (by kernel_rfl) ?_) <;> try simp only [qN, qC, qE, qG, qD, qA, qF, seval, qQ, qO, qP, qL, qY, qZ, zC, vE, wQ, iz, qH m16 zD]))
  refine mX vA rfl ?_
  refine qJ ?_; repeat' (first | ((with_reducible apply qI) <;> try simp only [qN, qC, qE, qG, qD, qA, qF, seval, qQ, qO, qP, qL, qY, qZ, zC, vE, wQ, iz, qH m16 zD]))
  refine mX vA rfl ?_
  refine qJ ?_; repeat' (first | ((with_reducible apply qI) <;> try simp only [qN, qC, qE, qG, qD, qA, qF, seval, qQ, qO, qP, qL, qY, qZ, zC, vE, wQ, iz, qH m16 zD]))
  refine xW vA Tryz.underlying22 rfl (HS.refl h6) (.inr (.inl ⟨_, rfl, rfl⟩)) (r3.hs S6).src (by simp; omega) fun v7 h7 s7 _ o7 => ?_
  rw [List.nil_append] at o7
  obtain ⟨b3, d3, rfl⟩ := o7.form
  have m17 := s7 _ _ m16
  have S7 := S6.trans s7
  refine qJ ?_; repeat' (first | ((with_reducible apply qI) <;> try simp only [qN, qC, qE, qG, qD, qA, qF, seval, qQ, qO, qP, qL, qY, qZ, zC, vE, wQ, iz, qH m17 zD]))
  refine xW vA Tryz.underlying22 rfl (HS.refl h7) (.inr (.inl ⟨_, rfl, rfl⟩)) (r4.hs S7).src (by simp; omega) fun v8 h8 s8 _ o8 => ?_
  rw [List.nil_append] at o8
  obtain ⟨b4, d4, rfl⟩ := o8.form
  have m18 := s8 _ _ m17
  have S8 := S7.trans s8
  refine qJ ?_; repeat' (first | ((with_reducible apply qI) <;> try simp only [qN, qC, qE, qG, qD, qA, qF, seval, qQ, qO, qP, qL, qY, qZ, zC, vE, wQ, iz, qH m18 zD]))
  refine zW m18 zD rfl (by simp) rfl rfl fun h9 m19 f9 => ?_
  simp only [List.set_cons_zero, List.set_cons_succ] at m19
  refine qJ ?_; repeat' (first | ((with_reducible apply qI) <;> try simp only [qN, qC, qE, qG, qD, qA, qF, seval, qQ, qO, qP, qL, qY, qZ, zC, vE, wQ, iz, qH m19 zD]))
  refine zW m19 zD rfl (by simp) rfl rfl fun h10 m110 f10 => ?_
  simp only [List.set_cons_zero, List.set_cons_succ] at m110
  have S10 := (S8.upd n1 f9).upd n1 f10
  have m210 : h10 k2 = some ⟨[.bool false, .slice none 0 0, .slice none 0 0, .int .i64 0, .int .i64 0, .slice none 0 0, .int .i64 0, .int .i64 0, .int .i64 0, .slice none 0 0], 0, true, false⟩ := by
    have ne := (yA m1 n2).symm
    rw [f10 k2 ne, f9 k2 ne]
    refine s8 _ _ (s7 _ _ ?_)
    rw [f6 k2 ne, f5 k2 ne]
    exact s4 _ _ (s3 _ _ m2)
  have ldx := zI (P := Tryz.prog) (t := 92) m110 wE rfl
  refine qJ ?_; repeat' (first | with_reducible apply qK | ((with_reducible first | apply qI | apply qB) <;> try simp only [qN, qC, qE, qG, qD, qA, qF, seval, qQ, qO, qP, qL, qY, qZ, zC, vE, wQ, ldx]))
  refine wL m210 wE rfl (by decide) rfl rfl rfl fun h11 m11 f11 => ?_
  simp only [vcells] at m11
  have ldy := zI (P := Tryz.prog) (t := 92) m11 wE rfl
  have n2' : h k2 = none := s1.none_of n2
  have z1 : ∀ {v l}, RB h8 v l → RB h11 v l := fun r => ((r.hx m18 rfl (zH f9)).hx m19 rfl (zH f10)).hx m210 rfl (zH f11)
  refine qJ ?_; repeat' (first | ((with_reducible first | apply qI | apply qM) <;> try simp only [qN, qC, qE, qG, qD, qA, qF, seval, qQ, qO, qP, qL, qY, qZ, zC, vE, wQ, uW, ldy]))
  exact ⟨S10.upd n2' f11, _, rfl, b1, d1, b2, d2, b3, d3, b4, d4, rfl, z1 ((y1.hs s7).hs s8), z1 ((y2.hs s7).hs s8), z1 (o7.rb.hs s8), z1 o8.rb⟩
theorem qB3 (N : Nat) (x : AB h0 h k v cs M) {i : Int} (hi : i < 0 ∨ (M.length : Int) ≤ i) : GTri Tryz.prog N 54 [.pointer (some ⟨k, 0, none⟩), .int .i64 i] h fun u h' => HS h h' ∧ u = .tuple #[.agg zN.toArray, .bool false] := by
  refine zU Tryz.func54 rfl gf54 ok54 (by simp [Tryz.ntmps54]) ?_
  repeat' (first | with_reducible apply qK | ((with_reducible apply qB) <;> try simp only [qN, qC, qE, qG, qD, qA, qF, seval, qQ, qO, qP, fH]))
  refine xE fun k4 h4 m4 s4 f4 n4 => ?_
  refine qJ ?_; repeat' (first | with_reducible apply qK | ((first | (with_reducible first | apply qI | apply qB | apply qR) | ((refine GTri.mono (c_thereN _ (x.hs s4) hi) ?_); rintro _ _ ⟨rfl, hh9⟩; replace hh9 := hh9.symm; subst hh9)) <;> try simp only [qN, qC, qE, qG, qD, qA, qF, seval, qQ, qO, qP, fH, xP, xZ, vY, Shape.pl, List.all_cons, List.all_nil, zK]))
  refine wL m4 wE rfl (by decide) rfl rfl rfl fun h5 m5 f5 => ?_
  simp only [vcells] at m5
  refine qJ ?_; repeat' (first | ((with_reducible first | apply qI | apply qM) <;> try simp only [qN, qC, qE, qG, qD, qA, qF, seval, qQ, qO, qP, fH, dN, zI m5 wE rfl]))
  exact ⟨s4.upd n4 f5, rfl⟩
theorem qB4 (N : Nat) (x : AB h0 h k v cs M) {i : Nat} {nd : Nd} (hi : M[i]? = some nd) : GTri Tryz.prog N 54 [.pointer (some ⟨k, 0, none⟩), .int .i64 (i : Int)] h fun u h' => HS h h' ∧ ∃ cn, u = .tuple #[.agg cn.toArray, .bool true] ∧ RNd h' cn nd := by
  have ok := x.arr.ok.ok i nd hi
  refine zU Tryz.func54 rfl gf54 ok54 (by simp [Tryz.ntmps54]) ?_
  repeat' (first | with_reducible apply qK | ((with_reducible apply qB) <;> try simp only [qN, qC, qE, qG, qD, qA, qF, seval, qQ, qO, qP, fH]))
  refine xE fun k4 h4 m4 s4 f4 n4 => ?_
  have x4 := x.hs s4
  have ho4 := x4.obj
  obtain ⟨kb, g1, mb, r1⟩ := x4.cell hi
  have ld := wN (P := Tryz.prog) (t := 92) mb wE rfl r1.len.1
  refine qJ ?_; repeat' (first | with_reducible apply qK | ((first | (with_reducible first | apply qI | apply qB | apply qR | apply qT) | ((refine GTri.mono (mJ _ x4 hi) ?_); rintro _ _ ⟨rfl, hh9⟩; replace hh9 := hh9.symm; subst hh9)) <;> try simp only [qN, qC, qE, qG, qD, qA, qF, seval, qQ, qO, qP, fH, gNil, qH ho4 uL, g1, ld]))
  refine (c_Copy N r1 ok).mono ?_
  rintro _ h5 ⟨s5, cn, rfl, r5⟩
  have l5 := r5.len
  refine qJ ?_; repeat' (first | ((with_reducible apply qI) <;> try simp only [qN, qC, qE, qG, qD, qA, qF, seval, qQ, qO, qP, fH]))
  refine xY (s5 _ _ m4) wE rfl (by decide) l5.1 rfl l5.2.1 fun h10 m10 f10 => ?_
  have lda2 := zI (P := Tryz.prog) (t := 92) m10 wE l5.1
  refine qJ ?_; repeat' (first | ((with_reducible first | apply qI | apply qM) <;> try simp only [qN, qC, qE, qG, qD, qA, qF, seval, qQ, qO, qP, fH, dN, lda2]))
  exact ⟨(s4.trans s5).upd n4 f10, cn, rfl, r5.hx (s5 _ _ m4) rfl (zH f10)⟩
theorem zG5 (N : Nat) (x : AB h0 h k v cs M) {i : Nat} {nd : Nd} (hi : M[i]? = some nd) : GTri Tryz.prog N 56 [.pointer (some ⟨k, 0, none⟩), .int .i64 (i : Int)] h fun u h' => HS h h' ∧ ∃ a c, u = .slice a nd.hs.length c ∧ RB h' (.slice a nd.hs.length c) nd.hs := by
  have ok := x.arr.ok.ok i nd hi
  have d : ((i : Int) == -1) = false := by first | (simp; done) | (simp; omega)
  have ho := x.obj
  have iz : (!(#[] : Array (Nat × Operand)).size == 0) = false := rfl
  obtain ⟨kb, g1, mb, r1⟩ := x.cell hi
  obtain ⟨a1, c1, a2, c2, a3, c3, a4, c4, e2, r1, r2, r3, r4⟩ := r1
  have l9 : cs[i * 10 + 9]? = some (.slice a4 nd.hs.length c4) := rO e2 rfl
  refine zU Tryz.func56 rfl gf56 ok56 (by simp [Tryz.ntmps56]) ?_
  refine qJ ?_; repeat' (first | with_reducible apply qK | ((first | (with_reducible first | apply qI | apply qB | apply qR | apply qT) | ((refine GTri.mono (mJ _ x hi) ?_); rintro _ _ ⟨rfl, hh9⟩; replace hh9 := hh9.symm; subst hh9)) <;> try simp only [qN, qC, qE, qG, qD, qA, qF, seval, qQ, qO, qP, qE6, d, iz, gNil, qH ho uL, g1, qH mb zD, l9]))
  refine mX vA rfl ?_
  refine qJ ?_; repeat' (first | ((with_reducible apply qI) <;> try simp only [qN, qC, qE, qG, qD, qA, qF, seval, qQ, qO, qP, qE6, d, iz, gNil, qH ho uL, g1, qH mb zD, l9]))
  refine xW vA Tryz.underlying22 rfl (HS.refl h) (.inr (.inl ⟨_, rfl, rfl⟩)) r4.src (by simp; have := ok.hs; omega) fun v8 h8 s8 _ o8 => ?_
  rw [List.nil_append] at o8
  obtain ⟨b4, d4, rfl⟩ := o8.form
  refine qJ ?_; repeat' (first | ((with_reducible first | apply qI | apply qM) <;> try simp only [qN, qC, qE, qG, qD, qA, qF, seval, qQ, qO, qP, qE6]))
  exact ⟨s8, b4, d4, rfl, o8.rb⟩
end
theorem fZ (l m : List UInt8) (n : Nat) : tV l m (n : Int) = true ↔ ∀ i, i < n → 0 ≤ xA l i ∧ xA l i = xA m i := by
  rw [← dL]
  have h1 := lR l m
  have h2 : n ≤ yW l m → n ≤ 8 * m.length := fun h => by
    rcases Nat.lt_or_ge (8 * m.length) n with q | q
    · have := (dL l m n).1 h (8 * m.length) q
      have h3 : 0 ≤ xA m (8 * m.length) := by rw [← this.2]; exact this.1
      rw [gbit_nonneg] at h3
      omega
    · exact q
  simp only [tV, Bool.or_eq_true, Bool.and_eq_true, decide_eq_true_eq]
  constructor
  · rintro (h | ⟨⟨_, _⟩, h⟩)
    · omega
    · omega
  · intro h
    have := h2 h
    by_cases h0 : (n : Int) < 1
    · exact .inl h0
    · exact .inr ⟨⟨by omega, by omega⟩, by omega⟩
def kF (row : List UInt8) (x : Nd) : Bool := x.lf || !tV row x.pf (x.dp : Int)
def rV (row : List UInt8) (x : Nd) : Nat := if xA row x.dp = 1 then x.r else x.l
def uU (x : Nd) : List UInt8 := if x.lf then zL x.id else x.pf
def Qk (x y : Nd) (s : Int) : Prop := tV (uU y) x.pf (x.dp : Int) = true ∧ xA (uU y) x.dp = s ∧ (y.lf = false → x.dp < y.dp)
def KR (M : List Nd) (x : Nd) (i : Nat) (s : Int) : Prop := ∃ y, M[i]? = some y ∧ Qk x y s
structure FI (M : List Nd) (i : Nat) (x : Nd) : Prop where
  l : x.l < i
  r : x.r < i
  kl : KR M x x.l 0
  kr : KR M x x.r 1
  pf : ∃ id, x.pf = zG (zL id) x.dp ∧ x.dp < 8 * (zL id).length
structure TI (M : List Nd) : Prop where
  fork : ∀ (i : Nat) x, M[i]? = some x → x.lf = false → FI M i x
  leaf : ∀ (i : Nat) x, M[i]? = some x → x.lf = true → x.id.length ≤ 255
theorem TI.nil : TI [] := ⟨fun i x h => by simp at h, fun i x h => by simp at h⟩
theorem KR.app {M : List Nd} {x : Nd} {i : Nat} {s : Int} (k : KR M x i s) (L : List Nd) : KR (M ++ L) x i s := by
  obtain ⟨y, h, q⟩ := k
  refine ⟨y, ?_, q⟩
  rw [List.getElem?_append_left (List.getElem?_eq_some_iff.1 h).1]; exact h
theorem FI.app {M : List Nd} {x : Nd} {i : Nat} (f : FI M i x) (L : List Nd) : FI (M ++ L) i x := ⟨f.l, f.r, f.kl.app L, f.kr.app L, f.pf⟩
theorem zB9 {M : List Nd} {x y : Nd} {i : Nat} (h : (M ++ [x])[i]? = some y) : M[i]? = some y ∨ (i = M.length ∧ y = x) := by
  by_cases hi : i < M.length
  · rw [List.getElem?_append_left hi] at h; exact .inl h
  · rw [List.getElem?_append_right (by omega)] at h
    by_cases h2 : i - M.length = 0
    · rw [h2] at h; cases h; exact .inr ⟨by omega, rfl⟩
    · rw [List.getElem?_eq_none (by simp; omega)] at h; cases h
theorem TI.push {M : List Nd} (t : TI M) {x : Nd} (hf : x.lf = false → FI M M.length x) (hl : x.lf = true → x.id.length ≤ 255) : TI (M ++ [x]) := by
  refine ⟨fun i y hy hlf => ?_, fun i y hy hlf => ?_⟩
  · rcases zB9 hy with h | ⟨rfl, rfl⟩
    · exact (t.fork i y h hlf).app _
    · exact (hf hlf).app _
  · rcases zB9 hy with h | ⟨rfl, rfl⟩
    · exact t.leaf i y h hlf
    · exact hl hlf
theorem qJ2 {l : List UInt8} {i : Nat} (h : 0 ≤ xA l i) : xA l i = 0 ∨ xA l i = 1 := by
  have := @qW9 l i
  omega
theorem kr_of {M : List Nd} {i : Nat} {x : Nd} (f : FI M i x) {row : List UInt8} (h : 0 ≤ xA row x.dp) : KR M x (rV row x) (xA row x.dp) := by
  unfold rV
  rcases qJ2 h with e | e
  · rw [e, if_neg (by decide)]; exact f.kl
  · rw [e, if_pos rfl]; exact f.kr
theorem zN7 {a b m : List UInt8} (h : 8 ≤ yW (zL a) m) (hm : ∃ d, 8 ≤ d ∧ m = zG (zL b) d) : (zL a).length = (zL b).length := by
  obtain ⟨d, hd, rfl⟩ := hm
  unfold zL at h
  rw [tT _ _ (by omega)] at h
  have h2 := (dL _ _ 8).1 h
  by_cases e : UInt8.ofNat (min a.length 255) = UInt8.ofNat (min b.length 255)
  · rw [vV, vV]
    have := congrArg UInt8.toNat e
    simp only [UInt8.toNat_ofNat'] at this
    omega
  · have q := qW1 (l := [UInt8.ofNat (min a.length 255)]) (m := [UInt8.ofNat (min b.length 255)]) rfl (fun q => e (by simpa using q))
    have p := (dT [UInt8.ofNat (min a.length 255)] [UInt8.ofNat (min b.length 255)]).2
    simp only [List.length_singleton] at q
    have r := h2 _ q
    rw [yR _ _ q, yR _ _ q] at r
    rw [yR _ _ q, yR _ _ q] at p
    rcases p with p | p
    · split at p <;> omega
    · exact absurd r.2 p
theorem zP0 {M : List Nd} {i : Nat} {x : Nd} (f : FI M i x) {id : List UInt8} (hs : kF (zL id) x = false) : x.dp < 8 * (zL id).length := by
  obtain ⟨jd, hpf, hdp⟩ := f.pf
  have hg : tV (zL id) x.pf (x.dp : Int) = true := by
    unfold kF at hs
    rw [Bool.or_eq_false_iff] at hs
    simpa using hs.2
  have hn : x.dp ≤ yW (zL id) x.pf := (dL _ _ _).2 ((fZ _ _ _).1 hg)
  have hle := lR (zL id) x.pf
  have h1 := vV id
  rcases Nat.lt_or_ge x.dp (8 * (zL id).length) with h | h
  · exact h
  · have := zN7 (a := id) (b := jd) (m := x.pf) (by omega) ⟨x.dp, by omega, hpf⟩
    omega
inductive Way (M : List Nd) (row : List UInt8) : Nat → List Nat → Nat → Nd → Prop
  | stop {i x} : M[i]? = some x → kF row x = true → Way M row i [] i x
  | go {i x fs e y} : M[i]? = some x → kF row x = false → Way M row (rV row x) fs e y → Way M row i (i :: fs) e y
theorem Way.end {M : List Nd} {row : List UInt8} {i e : Nat} {fs : List Nat} {y : Nd} (w : Way M row i fs e y) : M[e]? = some y ∧ kF row y = true := by
  induction w with
  | stop h1 h2 => exact ⟨h1, h2⟩
  | go _ _ _ ih => exact ih
theorem yE {row : List UInt8} {x : Nd} (h : kF row x = false) : x.lf = false ∧ tV row x.pf (x.dp : Int) = true := by
  unfold kF at h
  rw [Bool.or_eq_false_iff] at h
  exact ⟨h.1, by simpa using h.2⟩
theorem way_ex {M : List Nd} (t : TI M) (id : List UInt8) : ∀ (n i d : Nat), i ≤ n → i < M.length → d ≤ 8 * (zL id).length → (∀ y, M[i]? = some y → y.lf = false → d ≤ y.dp) → ∃ fs e x, Way M (zL id) i fs e x ∧ fs.length ≤ 8 * (zL id).length - d := by
  intro n
  induction n with
  | zero =>
    intro i d hi hl hd hy
    obtain ⟨x, hx⟩ := jP hl
    by_cases hs : kF (zL id) x = true
    · exact ⟨[], i, x, .stop hx hs, by simp⟩
    · have hs' : kF (zL id) x = false := by simpa using hs
      have f := t.fork i x hx (yE hs').1
      have := f.l
      omega
  | succ n ih =>
    intro i d hi hl hd hy
    obtain ⟨x, hx⟩ := jP hl
    by_cases hs : kF (zL id) x = true
    · exact ⟨[], i, x, .stop hx hs, by simp⟩
    · have hs' : kF (zL id) x = false := by simpa using hs
      have f := t.fork i x hx (yE hs').1
      have hdp := zP0 f hs'
      have hd2 := hy x hx (yE hs').1
      obtain ⟨y, hky, q1, q2, q3⟩ := kr_of f (gbit_nonneg.2 hdp)
      have hk := (List.getElem?_eq_some_iff.1 hky).1
      have hki : rV (zL id) x < i := by
        unfold rV
        split
        · exact f.r
        · exact f.l
      obtain ⟨fs, e, z, w, hw⟩ := ih (rV (zL id) x) (x.dp + 1) (by omega) hk (by omega) (fun y' h1 h2 => by
        rw [hky] at h1; cases h1
        exact q3 h2)
      exact ⟨i :: fs, e, z, .go hx hs' w, by simp; omega⟩
theorem way_of {M : List Nd} (t : TI M) (id : List UInt8) {i : Nat} (hi : i < M.length) : ∃ fs e x, Way M (zL id) i fs e x ∧ fs.length ≤ 8 * (zL id).length := by
  obtain ⟨fs, e, x, w, h⟩ := way_ex t id i i 0 (Nat.le_refl _) hi (Nat.zero_le _) (fun _ _ _ => Nat.zero_le _)
  exact ⟨fs, e, x, w, by omega⟩
theorem Way.at {M : List Nd} {row : List UInt8} {i e : Nat} {fs : List Nat} {y : Nd} (w : Way M row i fs e y) : (fs ++ [e])[0]? = some i ∧ ∀ j p, fs[j]? = some p → ∃ x, M[p]? = some x ∧ kF row x = false ∧ (fs ++ [e])[j + 1]? = some (rV row x) := by
  induction w with
  | stop h1 h2 => exact ⟨rfl, fun j p h => by simp at h⟩
  | go h1 h2 w ih =>
    refine ⟨rfl, fun j p h => ?_⟩
    rcases j with _ | j
    · cases h
      exact ⟨_, h1, h2, by simpa using ih.1⟩
    · obtain ⟨x, a, b, c⟩ := ih.2 j p (by simpa using h)
      exact ⟨x, a, b, by simpa using c⟩
def pA (row : List UInt8) (S : List Nd × Nat) (p : Nat) : List Nd × Nat :=
  (S.1 ++ [vF S.1 (uR S.1 p).dp (uR S.1 p).pf (if xA row (uR S.1 p).dp = 1 then (uR S.1 p).l else S.2) (if xA row (uR S.1 p).dp = 1 then S.2 else (uR S.1 p).r)], S.1.length)
def fV (row : List UInt8) (M : List Nd) (now e : Nat) (x : Nd) : List Nd × Nat :=
  (M ++ [vF M (yW row (uU x)) row (if xA row (yW row (uU x)) = 1 then e else now) (if xA row (yW row (uU x)) = 1 then now else e)], M.length)
def rE (id ky : List UInt8) (si : Nat) (M : List Nd) (e : Nat) (x : Nd) : List Nd × Nat :=
  if (x.lf && x.id == id) = true then (M ++ [vZ id ky si], M.length) else fV (zL id) (M ++ [vZ id ky si]) M.length e x
def insS (id ky : List UInt8) (si : Nat) (M : List Nd) (fs : List Nat) (e : Nat) (x : Nd) : List Nd × Nat := fs.reverse.foldl (pA (zL id)) (rE id ky si M e x)
inductive Up (M : List Nd) (row : List UInt8) : Nat → List Nat → Prop
  | nil {e} : Up M row e []
  | cons {e p x rs} : M[p]? = some x → kF row x = false → rV row x = e → Up M row p rs → Up M row e (p :: rs)
theorem Up.app {M : List Nd} {row : List UInt8} (L : List Nd) {e : Nat} {rs : List Nat} (u : Up M row e rs) : Up (M ++ L) row e rs := by
  induction u with
  | nil => exact .nil
  | cons h1 h2 h3 _ ih => exact .cons (by rw [List.getElem?_append_left (List.getElem?_eq_some_iff.1 h1).1]; exact h1) h2 h3 ih
theorem Way.up {M : List Nd} {row : List UInt8} {i e : Nat} {fs : List Nat} {y : Nd} (w : Way M row i fs e y) : Up M row e fs.reverse := by
  have key : ∀ {i e : Nat} {fs : List Nat} {y : Nd}, Way M row i fs e y → ∀ rs, Up M row i rs → Up M row e (fs.reverse ++ rs) := by
    intro i e fs y w
    induction w with
    | stop h1 h2 => intro rs u; simpa using u
    | go h1 h2 w ih =>
      intro rs u
      rw [List.reverse_cons, List.append_assoc]
      exact ih _ (.cons h1 h2 rfl u)
  have := key w [] .nil
  simpa using this
theorem Qk.same {x x' y : Nd} {s : Int} (h1 : x'.pf = x.pf) (h2 : x'.dp = x.dp) (q : Qk x y s) : Qk x' y s := by
  unfold Qk
  rw [h1, h2]; exact q
theorem Qk.kid {x y y' : Nd} {s : Int} (h0 : y.lf = false) (h1 : y'.lf = false) (h2 : y'.pf = y.pf) (h3 : y'.dp = y.dp) (q : Qk x y s) : Qk x y' s := by
  obtain ⟨a, b, c⟩ := q
  have e : uU y' = uU y := by unfold uU; rw [h0, h1, h2]; rfl
  exact ⟨by rw [e]; exact a, by rw [e]; exact b, fun _ => by rw [h3]; exact c h0⟩
theorem ups_ok (id : List UInt8) : ∀ (rs : List Nat) (S : List Nd × Nat) (e : Nat), TI S.1 → S.2 < S.1.length → Up S.1 (zL id) e rs →
    (∀ p x, rs.head? = some p → S.1[p]? = some x → ∃ y, S.1[S.2]? = some y ∧ Qk x y (xA (zL id) x.dp)) →
    TI (rs.foldl (pA (zL id)) S).1 ∧ (rs.foldl (pA (zL id)) S).2 < (rs.foldl (pA (zL id)) S).1.length ∧ (rs.foldl (pA (zL id)) S).1.length = S.1.length + rs.length := by
  intro rs
  induction rs with
  | nil => intro S e t h u q; exact ⟨t, h, by simp⟩
  | cons p rs ih =>
    intro S e t h u q
    cases u with
    | @cons _ _ x _ h1 h2 h3 u =>
    rw [List.foldl_cons]
    obtain ⟨hlf, hg⟩ := yE h2
    have f := t.fork p x h1 hlf
    have hdp := zP0 f h2
    have h01 := qJ2 (gbit_nonneg.2 hdp)
    obtain ⟨y, hy, qk⟩ := q p x rfl h1
    have hp := (List.getElem?_eq_some_iff.1 h1).1
    have en : uR S.1 p = x := wT h1
    obtain ⟨jd, hpf, hjd⟩ := f.pf
    have epf : zG x.pf x.dp = x.pf := by rw [hpf, fN, Nat.min_self]
    have eu : pA (zL id) S p = (S.1 ++ [vF S.1 x.dp x.pf (if xA (zL id) x.dp = 1 then x.l else S.2) (if xA (zL id) x.dp = 1 then S.2 else x.r)], S.1.length) := by
      unfold pA; rw [en]
    rw [eu]
    generalize hnx : vF S.1 x.dp x.pf (if xA (zL id) x.dp = 1 then x.l else S.2) (if xA (zL id) x.dp = 1 then S.2 else x.r) = nx
    have n1 : nx.lf = false := by rw [← hnx]; rfl
    have n2 : nx.pf = x.pf := by rw [← hnx]; exact epf
    have n3 : nx.dp = x.dp := by rw [← hnx]; rfl
    have n4 : nx.l = if xA (zL id) x.dp = 1 then x.l else S.2 := by rw [← hnx]; rfl
    have n5 : nx.r = if xA (zL id) x.dp = 1 then S.2 else x.r := by rw [← hnx]; rfl
    have fi : FI S.1 S.1.length nx := by
      have fl := f.l
      have fr := f.r
      have same : ∀ {i s}, KR S.1 x i s → KR S.1 nx i s := fun ⟨y, a, b⟩ => ⟨y, a, b.same n2 n3⟩
      rcases h01 with e0 | e0
      · rw [if_neg (by rw [e0]; decide)] at n4 n5
        refine ⟨by omega, by omega, ?_, ?_, jd, by rw [n2, n3]; exact hpf, by omega⟩
        · rw [n4]; exact ⟨y, hy, by rw [e0] at qk; exact qk.same n2 n3⟩
        · rw [n5]; exact same f.kr
      · rw [if_pos e0] at n4 n5
        refine ⟨by omega, by omega, ?_, ?_, jd, by rw [n2, n3]; exact hpf, by omega⟩
        · rw [n4]; exact same f.kl
        · rw [n5]; exact ⟨y, hy, by rw [e0] at qk; exact qk.same n2 n3⟩
    have t' : TI (S.1 ++ [nx]) := t.push (fun _ => fi) (fun q => by rw [n1] at q; cases q)
    obtain ⟨a, b, c⟩ := ih (S.1 ++ [nx], S.1.length) p t' (by simp) (u.app _) (fun p' x' hp' hx' => by
      refine ⟨nx, by simp, ?_⟩
      cases u with
      | nil => cases hp'
      | @cons _ _ z _ g1 g2 g3 _ =>
      cases hp'
      have : (S.1 ++ [nx])[p']? = some z := by rw [List.getElem?_append_left (List.getElem?_eq_some_iff.1 g1).1]; exact g1
      rw [this] at hx'; cases hx'
      have fz := t.fork p' _ g1 (yE g2).1
      obtain ⟨w, w1, w2⟩ := kr_of fz (gbit_nonneg.2 (zP0 fz g2))
      rw [g3, h1] at w1
      cases w1
      exact w2.kid hlf n1 n2 n3)
    refine ⟨a, b, ?_⟩
    rw [c]; simp; omega
theorem low_ok {M : List Nd} (t : TI M) {id ky : List UInt8} (hid : id.length ≤ 255) {si e : Nat} {x : Nd} (he : M[e]? = some x) (hs : kF (zL id) x = true) :
    TI (rE id ky si M e x).1 ∧ (rE id ky si M e x).2 < (rE id ky si M e x).1.length ∧ (rE id ky si M e x).1.length ≤ M.length + 2 ∧ (∃ L, (rE id ky si M e x).1 = M ++ L) ∧
    ∀ (p : Nat) (z : Nd), M[p]? = some z → kF (zL id) z = false → rV (zL id) z = e → ∃ y, (rE id ky si M e x).1[(rE id ky si M e x).2]? = some y ∧ Qk z y (xA (zL id) z.dp) := by
  have tl : TI (M ++ [vZ id ky si]) := t.push (fun q => by simp [vZ] at q) (fun _ => hid)
  have hel := (List.getElem?_eq_some_iff.1 he).1
  unfold rE
  by_cases hsame : (x.lf && x.id == id) = true
  · rw [if_pos hsame]
    refine ⟨tl, by simp, by simp, ⟨_, rfl⟩, fun p z hz hst hk => ⟨vZ id ky si, by simp, ?_⟩⟩
    have fz := t.fork p z hz (yE hst).1
    exact ⟨(yE hst).2, rfl, fun q => by simp [vZ] at q⟩
  · rw [if_neg hsame]
    unfold fV
    have spec := dT (zL id) (uU x)
    generalize hd : yW (zL id) (uU x) = d at spec
    have key : d < 8 * (zL id).length ∧ 0 ≤ xA (uU x) d ∧ (x.lf = false → d < x.dp) := by
      by_cases hlf : x.lf = true
      · have hne : x.id ≠ id := fun q => hsame (by simp [hlf, q])
        have ey : uU x = zL x.id := by unfold uU; rw [if_pos hlf]
        have := zR8 hid (t.leaf e x he hlf) (Ne.symm hne)
        rw [ey] at hd ⊢
        rw [hd] at this
        exact ⟨this.1, gbit_nonneg.2 this.2, fun q => by rw [hlf] at q; cases q⟩
      · have hlf' : x.lf = false := by simpa using hlf
        have ey : uU x = x.pf := by unfold uU; rw [hlf']; rfl
        have f := t.fork e x he hlf'
        obtain ⟨jd, hpf, hjd⟩ := f.pf
        have hnb : tV (zL id) x.pf (x.dp : Int) = false := by
          unfold kF at hs
          rw [hlf'] at hs
          simpa using hs
        rw [ey] at hd spec ⊢
        have hlt : d < x.dp := by
          rcases Nat.lt_or_ge d x.dp with h | h
          · exact h
          · have : tV (zL id) x.pf (x.dp : Int) = true := (fZ _ _ _).2 fun i hi => spec.1 i (by omega)
            rw [this] at hnb; cases hnb
        have hpd : 0 ≤ xA x.pf d := by
          rw [hpf, jG _ _ _ hlt, gbit_nonneg]; omega
        refine ⟨?_, hpd, fun _ => hlt⟩
        rcases Nat.lt_or_ge d (8 * (zL id).length) with h | h
        · exact h
        · have h1 := vV id
          have := zN7 (a := id) (b := jd) (m := x.pf) (by omega) ⟨x.dp, by omega, hpf⟩
          omega
    obtain ⟨k1, k2, k3⟩ := key
    have hr01 := qJ2 (gbit_nonneg.2 k1)
    have ho01 := qJ2 k2
    have hne : xA (zL id) d ≠ xA (uU x) d := by
      rcases spec.2 with h | h
      · have := gbit_nonneg.2 k1; omega
      · exact h
    generalize hnx : vF (M ++ [vZ id ky si]) d (zL id) (if xA (zL id) d = 1 then e else M.length) (if xA (zL id) d = 1 then M.length else e) = nx
    have n1 : nx.lf = false := by rw [← hnx]; rfl
    have n2 : nx.pf = zG (zL id) d := by rw [← hnx]; rfl
    have n3 : nx.dp = d := by rw [← hnx]; rfl
    have n4 : nx.l = if xA (zL id) d = 1 then e else M.length := by rw [← hnx]; rfl
    have n5 : nx.r = if xA (zL id) d = 1 then M.length else e := by rw [← hnx]; rfl
    have beg : ∀ m : List UInt8, (∀ i, i < d → 0 ≤ xA m i ∧ xA m i = xA (zL id) i) → tV m nx.pf (nx.dp : Int) = true := fun m hm => by
      rw [n2, n3]
      exact (fZ _ _ _).2 fun i hi => ⟨(hm i hi).1, by rw [jG _ _ _ hi]; exact (hm i hi).2⟩
    have kleaf : KR (M ++ [vZ id ky si]) nx M.length (xA (zL id) d) :=
      ⟨vZ id ky si, by simp, beg _ fun i hi => ⟨(spec.1 i hi).1, rfl⟩, by rw [n3]; rfl, fun q => by simp [vZ] at q⟩
    have kx : KR (M ++ [vZ id ky si]) nx e (xA (uU x) d) :=
      ⟨x, by rw [List.getElem?_append_left hel]; exact he, beg _ fun i hi => ⟨by rw [← (spec.1 i hi).2]; exact (spec.1 i hi).1, (spec.1 i hi).2.symm⟩, by rw [n3], fun q => by rw [n3]; exact k3 q⟩
    have fi : FI (M ++ [vZ id ky si]) (M ++ [vZ id ky si]).length nx := by
      rcases hr01 with e0 | e0
      · have e1 : xA (uU x) d = 1 := by omega
        rw [if_neg (by rw [e0]; decide)] at n4 n5
        rw [e0] at kleaf
        rw [e1] at kx
        exact ⟨by simp; omega, by simp; omega, by rw [n4]; exact kleaf, by rw [n5]; exact kx, id, by rw [n2, n3], by rw [n3]; exact k1⟩
      · have e1 : xA (uU x) d = 0 := by omega
        rw [if_pos e0] at n4 n5
        rw [e0] at kleaf
        rw [e1] at kx
        exact ⟨by simp; omega, by simp; omega, by rw [n4]; exact kx, by rw [n5]; exact kleaf, id, by rw [n2, n3], by rw [n3]; exact k1⟩
    refine ⟨tl.push (fun _ => fi) (fun q => by rw [n1] at q; cases q), by simp, by simp, ⟨[vZ id ky si, nx], by simp⟩, fun p z hz hst hk => ⟨nx, by simp, ?_⟩⟩
    have fz := t.fork p z hz (yE hst).1
    have hzl := zP0 fz hst
    have hgz := (fZ _ _ _).1 (yE hst).2
    obtain ⟨y, hy, q1, q2, q3⟩ := kr_of fz (gbit_nonneg.2 hzl)
    rw [hk, he] at hy
    cases hy
    have hgy := (fZ _ _ _).1 q1
    have hlt : z.dp < d := by
      rcases Nat.lt_or_ge z.dp d with h | h
      · exact h
      · exfalso
        rcases Nat.lt_or_ge d z.dp with h2 | h2
        · have := (hgz d h2).2
          have := (hgy d h2).2
          omega
        · have : z.dp = d := by omega
          rw [this] at q2
          omega
    refine ⟨?_, ?_, fun _ => by rw [n3]; exact hlt⟩
    · have ey : uU nx = zG (zL id) d := by unfold uU; rw [n1, ← n2]; rfl
      rw [ey]
      exact (fZ _ _ _).2 fun i hi => by rw [jG _ _ _ (by omega)]; exact hgz i hi
    · have ey : uU nx = zG (zL id) d := by unfold uU; rw [n1, ← n2]; rfl
      rw [ey, jG _ _ _ hlt]
theorem ins_ok {M : List Nd} (t : TI M) {id ky : List UInt8} (hid : id.length ≤ 255) {si i e : Nat} {fs : List Nat} {x : Nd} (w : Way M (zL id) i fs e x) :
    TI (insS id ky si M fs e x).1 ∧ (insS id ky si M fs e x).2 < (insS id ky si M fs e x).1.length ∧ (insS id ky si M fs e x).1.length ≤ M.length + 2 + fs.length := by
  obtain ⟨he, hs⟩ := w.end
  obtain ⟨a, b, c, ⟨L, eL⟩, q⟩ := low_ok t hid (ky := ky) (si := si) he hs
  have u := w.up
  obtain ⟨a2, b2, c2⟩ := ups_ok id fs.reverse (rE id ky si M e x) e a b (by rw [eL]; exact u.app L) (fun p z hp hz => by
    cases hu : fs.reverse with
    | nil => rw [hu] at hp; cases hp
    | cons p' rs =>
      rw [hu] at hp u
      cases hp
      cases u with
      | @cons _ _ z' _ g1 g2 g3 _ =>
      have : (rE id ky si M e x).1[p]? = some z' := by rw [eL, List.getElem?_append_left (List.getElem?_eq_some_iff.1 g1).1]; exact g1
      rw [this] at hz; cases hz
      exact q p z g1 g2 g3)
  refine ⟨a2, b2, ?_⟩
  unfold insS
  rw [c2, List.length_reverse]; omega
end Go.Gh
