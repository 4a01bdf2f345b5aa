/- The law BitsApart, as a triple. -/
import Derived.Test.YtejjnmnljbehiaaBits6
namespace Go.Gh
open Go Go.Proofs Go.RowKit
set_option linter.unusedVariables false
set_option linter.unusedSimpArgs false
set_option maxRecDepth 100000

theorem byte_less {x y : UInt8} {p : Nat} (hp : p < 8) (hs : ∀ i, i < p → x.toNat.testBit (7 - i) = y.toNat.testBit (7 - i)) (hx : x.toNat.testBit (7 - p) = false) (hy : y.toNat.testBit (7 - p) = true) : x < y := by
  rw [UInt8.lt_iff_toNat_lt]
  have hhi : x.toNat / 2 ^ (7 - p) / 2 = y.toNat / 2 ^ (7 - p) / 2 := by
    rw [Nat.div_div_eq_div_mul, Nat.div_div_eq_div_mul, ← Nat.pow_succ]
    apply Nat.eq_of_testBit_eq
    intro j
    rw [Nat.testBit_div_two_pow, Nat.testBit_div_two_pow]
    by_cases h7 : j + (7 - p + 1) ≤ 7
    · have := hs (7 - (j + (7 - p + 1))) (by omega)
      rwa [show 7 - (7 - (j + (7 - p + 1))) = j + (7 - p + 1) by omega] at this
    · have e : ∀ z : UInt8, z.toNat.testBit (j + (7 - p + 1)) = false := fun z => Nat.testBit_lt_two_pow (Nat.lt_of_lt_of_le z.toNat_lt (by
        have : (2 : Nat) ^ 8 ≤ 2 ^ (j + (7 - p + 1)) := Nat.pow_le_pow_right (by omega) (by omega)
        simpa using this))
      rw [e, e]
  rw [Nat.testBit_eq_decide_div_mod_eq] at hx hy
  simp only [decide_eq_false_iff_not, decide_eq_true_eq] at hx hy
  have hlt : x.toNat / 2 ^ (7 - p) < y.toNat / 2 ^ (7 - p) := by omega
  exact Nat.lt_of_div_lt_div hlt
/-- The order of two rows goes by the first bit where they part. -/
theorem cmp_bits : ∀ l m : List UInt8, ncom l m < 8 * l.length → ncom l m < 8 * m.length → Lib.compareBytes l m = gbit l (ncom l m) - gbit m (ncom l m)
  | [], _, h, _ => by simp at h
  | _ :: _, [], _, h => by simp at h
  | a :: l, b :: m, h1, h2 => by
    by_cases hab : a = b
    · subst hab
      simp only [ncom, if_true, List.length_cons] at h1 h2 ⊢
      rw [Nat.add_comm 8, gbit_cons, gbit_cons, ← cmp_bits l m (by omega) (by omega)]
      simp [Lib.compareBytes, UInt8.lt_irrefl]
    · obtain ⟨g1, g2, g3⟩ := byte_part hab
      simp only [ncom, if_neg hab]
      rw [gbit_head a l g1, gbit_head b m g1]
      cases hx : a.toNat.testBit (7 - (8 - len8 (a ^^^ b).toNat)) with
      | false =>
        have hy : b.toNat.testBit (7 - (8 - len8 (a ^^^ b).toNat)) = true := by
          rw [hx] at g3
          cases hy : b.toNat.testBit (7 - (8 - len8 (a ^^^ b).toNat))
          · exact absurd hy.symm g3
          · rfl
        have := byte_less g1 g2 hx hy
        rw [hy]
        simp [Lib.compareBytes, this]
      | true =>
        have hy : b.toNat.testBit (7 - (8 - len8 (a ^^^ b).toNat)) = false := by
          rw [hx] at g3
          cases hy : b.toNat.testBit (7 - (8 - len8 (a ^^^ b).toNat))
          · rfl
          · exact absurd hy.symm g3
        have h := byte_less g1 (fun i hi => (g2 i hi).symm) hy hx
        have h' : ¬ a < b := fun e => absurd (UInt8.lt_trans h e) (UInt8.lt_irrefl _)
        rw [hy]
        simp [Lib.compareBytes, h, h']
theorem ncom_lt : ∀ {l m : List UInt8}, l.length = m.length → l ≠ m → ncom l m < 8 * l.length
  | [], [], _, h => absurd rfl h
  | [], _ :: _, h, _ => by simp at h
  | _ :: _, [], h, _ => by simp at h
  | a :: l, b :: m, h, h2 => by
    by_cases hab : a = b
    · subst hab
      have := ncom_lt (l := l) (m := m) (by simpa using h) (fun e => h2 (by rw [e]))
      simp only [ncom, if_true, List.length_cons]
      omega
    · have := (byte_part hab).1
      simp only [ncom, if_neg hab, List.length_cons]
      omega
theorem ncom_self (l : List UInt8) : ncom l l = 8 * l.length := ncom_end (i := l.length) rfl (by simp)
theorem cmp_self : ∀ l : List UInt8, Lib.compareBytes l l = 0
  | [] => rfl
  | a :: l => by simp [Lib.compareBytes, UInt8.lt_irrefl, cmp_self l]
/-- Two unlike short identities' bits part before either ends. -/
theorem gkey_part {l m : List UInt8} (hl : l.length ≤ 255) (hm : m.length ≤ 255) (h : l ≠ m) : ncom (gkey l) (gkey m) < 8 * (gkey l).length ∧ ncom (gkey l) (gkey m) < 8 * (gkey m).length := by
  have e : ∀ l : List UInt8, l.length ≤ 255 → gkey l = UInt8.ofNat l.length :: l := fun l hl => by
    simp only [gkey]
    rw [Nat.min_eq_left hl, List.take_of_length_le hl]
  rw [e l hl, e m hm]
  by_cases hlen : l.length = m.length
  · have := ncom_lt (l := UInt8.ofNat l.length :: l) (m := UInt8.ofNat m.length :: m) (by simp [hlen]) (by simp [h])
    simp only [List.length_cons] at this ⊢
    omega
  · have hne : UInt8.ofNat l.length ≠ UInt8.ofNat m.length := fun e => hlen (by
      have := congrArg UInt8.toNat e
      rw [UInt8.toNat_ofNat_of_lt' (by simpa using (by omega : l.length < 256)), UInt8.toNat_ofNat_of_lt' (by simpa using (by omega : m.length < 256))] at this
      exact this)
    have := (byte_part hne).1
    simp only [ncom, if_neg hne, List.length_cons]
    omega
theorem cmp_flip (l m : List UInt8) : Lib.compareBytes l m = - Lib.compareBytes m l := by
  rw [compare_less, compare_less]
  have : ¬ (Op.bytesLess l m = true ∧ Op.bytesLess m l = true) := by
    rintro ⟨h1, h2⟩
    rw [← less_flip, h1] at h2
    simp at h2
  by_cases h1 : Op.bytesLess l m = true <;> by_cases h2 : Op.bytesLess m l = true <;> simp_all
end Go.Gh
