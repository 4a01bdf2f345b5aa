/- A framework of this claim's proof, part 18. Words and their bits. No statement of the claim stands here. -/
import Derived.Test.YtlobmpkfdnifpaaGh17
namespace Go.Gh
open Go Go.RowKit
set_option linter.unusedVariables false
set_option linter.unusedSimpArgs false

theorem bits_i64 {a b : Nat} (ha : a < 9223372036854775808) (hb : b < 9223372036854775808) : bits .and .i64 (a : Int) (b : Int) = ((a &&& b : Nat) : Int) ∧ bits .or .i64 (a : Int) (b : Int) = ((a ||| b : Nat) : Int) ∧ bits .xor .i64 (a : Int) (b : Int) = ((a ^^^ b : Nat) : Int) := by
  have h1 : a &&& b < 2 ^ 63 := Nat.and_lt_two_pow _ (by omega)
  have h2 : a ||| b < 2 ^ 63 := Nat.or_lt_two_pow (by omega) (by omega)
  have h3 : a ^^^ b < 2 ^ 63 := Nat.xor_lt_two_pow (by omega) (by omega)
  have e1 : a % 18446744073709551616 = a := Nat.mod_eq_of_lt (by omega)
  have e2 : b % 18446744073709551616 = b := Nat.mod_eq_of_lt (by omega)
  have q1 : (BitVec.ofNat 64 a &&& BitVec.ofNat 64 b).toNat = a &&& b := by simp only [BitVec.toNat_and, BitVec.toNat_ofNat, Nat.reducePow, e1, e2]
  have q2 : (BitVec.ofNat 64 a ||| BitVec.ofNat 64 b).toNat = a ||| b := by simp only [BitVec.toNat_or, BitVec.toNat_ofNat, Nat.reducePow, e1, e2]
  have q3 : (BitVec.ofNat 64 a ^^^ BitVec.ofNat 64 b).toNat = a ^^^ b := by simp only [BitVec.toNat_xor, BitVec.toNat_ofNat, Nat.reducePow, e1, e2]
  simp only [bits, IntKind.bits, BitVec.ofInt_natCast]
  refine ⟨?_, ?_, ?_⟩
  · show IntKind.wrap .i64 ((BitVec.ofNat 64 a &&& BitVec.ofNat 64 b).toNat : Int) = _
    rw [q1]; apply wrap64 <;> omega
  · show IntKind.wrap .i64 ((BitVec.ofNat 64 a ||| BitVec.ofNat 64 b).toNat : Int) = _
    rw [q2]; apply wrap64 <;> omega
  · show IntKind.wrap .i64 ((BitVec.ofNat 64 a ^^^ BitVec.ofNat 64 b).toNat : Int) = _
    rw [q3]; apply wrap64 <;> omega
theorem bits_u8 {a b : Nat} (ha : a < 256) (hb : b < 256) : bits .and .u8 (a : Int) (b : Int) = ((a &&& b : Nat) : Int) ∧ bits .or .u8 (a : Int) (b : Int) = ((a ||| b : Nat) : Int) ∧ bits .xor .u8 (a : Int) (b : Int) = ((a ^^^ b : Nat) : Int) := by
  have h1 : a &&& b < 2 ^ 8 := Nat.and_lt_two_pow _ (by omega)
  have h2 : a ||| b < 2 ^ 8 := Nat.or_lt_two_pow (by omega) (by omega)
  have h3 : a ^^^ b < 2 ^ 8 := Nat.xor_lt_two_pow (by omega) (by omega)
  have e1 : a % 256 = a := Nat.mod_eq_of_lt (by omega)
  have e2 : b % 256 = b := Nat.mod_eq_of_lt (by omega)
  have q1 : (BitVec.ofNat 8 a &&& BitVec.ofNat 8 b).toNat = a &&& b := by simp only [BitVec.toNat_and, BitVec.toNat_ofNat, Nat.reducePow, e1, e2]
  have q2 : (BitVec.ofNat 8 a ||| BitVec.ofNat 8 b).toNat = a ||| b := by simp only [BitVec.toNat_or, BitVec.toNat_ofNat, Nat.reducePow, e1, e2]
  have q3 : (BitVec.ofNat 8 a ^^^ BitVec.ofNat 8 b).toNat = a ^^^ b := by simp only [BitVec.toNat_xor, BitVec.toNat_ofNat, Nat.reducePow, e1, e2]
  simp only [bits, IntKind.bits, BitVec.ofInt_natCast]
  refine ⟨?_, ?_, ?_⟩
  · show IntKind.wrap .u8 ((BitVec.ofNat 8 a &&& BitVec.ofNat 8 b).toNat : Int) = _
    rw [q1]; apply wrapu8 <;> omega
  · show IntKind.wrap .u8 ((BitVec.ofNat 8 a ||| BitVec.ofNat 8 b).toNat : Int) = _
    rw [q2]; apply wrapu8 <;> omega
  · show IntKind.wrap .u8 ((BitVec.ofNat 8 a ^^^ BitVec.ofNat 8 b).toNat : Int) = _
    rw [q3]; apply wrapu8 <;> omega
theorem fdiv_nat (a b : Nat) : Int.fdiv (a : Int) (b : Int) = ((a / b : Nat) : Int) := by
  rw [Int.fdiv_eq_ediv_of_nonneg _ (by omega)]
  exact (Int.natCast_ediv a b).symm
theorem tdiv_nat (a b : Nat) : Int.tdiv (a : Int) (b : Int) = ((a / b : Nat) : Int) := (Int.ofNat_tdiv a b).symm
theorem tmod_nat (a b : Nat) : Int.tmod (a : Int) (b : Int) = ((a % b : Nat) : Int) := (Int.ofNat_tmod a b).symm

/-- Bit i of a row of bytes; -1 beyond its end. -/
def gbit (l : List UInt8) (i : Nat) : Int := match l[i / 8]? with
  | none => -1
  | some b => if b.toNat.testBit (7 - i % 8) = true then 1 else 0

theorem and_pow (x i : Nat) : x &&& 2 ^ i = if x.testBit i = true then 2 ^ i else 0 := by
  apply Nat.eq_of_testBit_eq
  intro j
  rw [Nat.testBit_and, Nat.testBit_two_pow]
  by_cases h : i = j
  · subst h
    cases hx : x.testBit i <;> simp [Nat.testBit_two_pow]
  · cases hx : x.testBit i <;> simp [Nat.testBit_two_pow, h]
theorem bit_mask (b : UInt8) (i : Nat) (h63 : i < 9223372036854775808) : bits .and .u8 (b.toNat : Int) (Int.fdiv 128 (2 ^ min (bits .and .i64 (i : Int) 7).toNat 8)) = (if b.toNat.testBit (7 - i % 8) = true then ((2 ^ (7 - i % 8) : Nat) : Int) else 0) := by
  have e1 : bits .and .i64 (i : Int) ((7 : Nat) : Int) = ((i % 8 : Nat) : Int) := by
    rw [(bits_i64 h63 (by omega)).1]
    congr 1
    exact Nat.and_two_pow_sub_one_eq_mod i 3
  have e2 : bits .and .i64 (i : Int) 7 = ((i % 8 : Nat) : Int) := e1
  rw [e2, Int.toNat_natCast, Nat.min_eq_left (by omega)]
  have e3 : Int.fdiv 128 (2 ^ (i % 8)) = ((2 ^ (7 - i % 8) : Nat) : Int) := by
    have h := fdiv_nat 128 (2 ^ (i % 8))
    rw [Int.natCast_pow] at h
    have h2 : 128 / 2 ^ (i % 8) = 2 ^ (7 - i % 8) := by
      rw [show (128 : Nat) = 2 ^ 7 from rfl, Nat.pow_div (by omega) (by omega)]
    rw [h2] at h
    exact h
  have hlt : 2 ^ (7 - i % 8) < 256 := by
    have : 2 ^ (7 - i % 8) ≤ 2 ^ 7 := Nat.pow_le_pow_right (by omega) (by omega)
    omega
  rw [e3, (bits_u8 b.toNat_lt hlt).1, and_pow]
  cases b.toNat.testBit (7 - i % 8) <;> simp
theorem bit_shift (b : UInt8) (k : Nat) (hk : k < 8) : bits .and .i64 (Int.fdiv (b.toNat : Int) (2 ^ min k 8)) 1 = (if b.toNat.testBit k = true then 1 else 0) := by
  have h := fdiv_nat b.toNat (2 ^ k)
  rw [Int.natCast_pow] at h
  rw [Nat.min_eq_left (by omega), show (2 : Int) ^ k = ((2 : Nat) : Int) ^ k from rfl, h]
  have hb := b.toNat_lt
  have hlt : b.toNat / 2 ^ k ≤ b.toNat := Nat.div_le_self _ _
  have e : bits .and .i64 ((b.toNat / 2 ^ k : Nat) : Int) ((1 : Nat) : Int) = _ := (bits_i64 (a := b.toNat / 2 ^ k) (b := 1) (by omega) (by omega)).1
  rw [show (1 : Int) = ((1 : Nat) : Int) from rfl, e, Nat.and_one_is_mod, Nat.testBit_eq_decide_div_mod_eq]
  have : b.toNat / 2 ^ k % 2 = 0 ∨ b.toNat / 2 ^ k % 2 = 1 := by omega
  rcases this with h | h <;> simp [h]
theorem gbit_at {l : List UInt8} {j : Nat} (h : j / 8 < l.length) : gbit l j = if (l.getD (j / 8) 0).toNat.testBit (7 - j % 8) = true then 1 else 0 := by
  simp [gbit, List.getD, h]
theorem bit_shift' (b : UInt8) (k : Nat) (hk : k < 8) : bits .and .i64 (IntKind.i64.wrap (Int.fdiv (b.toNat : Int) (2 ^ min k IntKind.u8.bits))) 1 = (if b.toNat.testBit k = true then 1 else 0) := by
  have h := fdiv_nat b.toNat (2 ^ k)
  rw [Int.natCast_pow] at h
  have hb := b.toNat_lt
  have hlt : b.toNat / 2 ^ k ≤ b.toNat := Nat.div_le_self _ _
  have e : IntKind.i64.wrap (Int.fdiv (b.toNat : Int) (2 ^ min k IntKind.u8.bits)) = Int.fdiv (b.toNat : Int) (2 ^ min k 8) := by
    have e2 : Int.fdiv (b.toNat : Int) (2 ^ min k 8) = ((b.toNat / 2 ^ k : Nat) : Int) := by
      rw [Nat.min_eq_left (by omega)]; exact h
    have e3 : Int.fdiv (b.toNat : Int) (2 ^ min k IntKind.u8.bits) = ((b.toNat / 2 ^ k : Nat) : Int) := e2
    rw [e3, e2]
    clear e2 e3 h
    generalize b.toNat / 2 ^ k = q at *
    exact wrap64 (by omega) (by omega)
  rw [e]
  exact bit_shift b k hk
theorem and7 {i : Nat} (h63 : i < 9223372036854775808) : bits .and .i64 (i : Int) 7 = ((i % 8 : Nat) : Int) := by
  have e1 : bits .and .i64 (i : Int) ((7 : Nat) : Int) = ((i % 8 : Nat) : Int) := by
    rw [(bits_i64 h63 (by omega)).1]
    congr 1
    exact Nat.and_two_pow_sub_one_eq_mod i 3
  exact e1
theorem bit_mask' (b : UInt8) (i : Nat) (h63 : i < 9223372036854775808) : (bits .and .u8 (b.toNat : Int) (Int.fdiv 128 (2 ^ min (i % 8) IntKind.u8.bits)) != 0) = b.toNat.testBit (7 - i % 8) := by
  have h := bit_mask b i h63
  rw [and7 h63, Int.toNat_natCast] at h
  have h' : bits .and .u8 (b.toNat : Int) (Int.fdiv 128 (2 ^ min (i % 8) IntKind.u8.bits)) = _ := h
  rw [h']
  cases b.toNat.testBit (7 - i % 8)
  · rfl
  · have : (2 : Nat) ^ (7 - i % 8) ≠ 0 := Nat.pos_iff_ne_zero.1 (Nat.two_pow_pos _)
    simp only [if_true]
    rw [bne_iff_ne]
    omega
end Go.Gh
