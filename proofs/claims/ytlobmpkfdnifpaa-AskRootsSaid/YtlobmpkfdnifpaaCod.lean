/- Numbers as bytes; the codec's writers and the reference's. -/
import Derived.Test.YtlobmpkfdnifpaaBits5
import Derived.Test.YtlobmpkfdnifpaaOwn

namespace Go.Gh
open Go Go.Proofs Go.RowKit
set_option linter.unusedVariables false
set_option linter.unusedSimpArgs false
set_option maxRecDepth 100000

/-- A number's bytes, the greatest first. -/
def ubytes (n : Nat) : List UInt8 := if n = 0 then [] else ubytes (n / 256) ++ [UInt8.ofNat (n % 256)]
termination_by n
decreasing_by omega
theorem ubytes_zero : ubytes 0 = [] := by rw [ubytes]; simp
theorem ubytes_pos {n : Nat} (h : n ≠ 0) : ubytes n = ubytes (n / 256) ++ [UInt8.ofNat (n % 256)] := by rw [ubytes]; simp [h]
/-- What bytes are worth. -/
def uval (l : List UInt8) : Nat := l.foldl (fun n x => n * 256 + x.toNat) 0
theorem uval_nil : uval [] = 0 := rfl
theorem uval_snoc (l : List UInt8) (x : UInt8) : uval (l ++ [x]) = uval l * 256 + x.toNat := by simp [uval]
theorem uval_ubytes (n : Nat) : uval (ubytes n) = n := by
  induction n using Nat.strongRecOn with
  | _ n ih =>
    by_cases h : n = 0
    · subst h; rw [ubytes_zero]; rfl
    · rw [ubytes_pos h, uval_snoc, ih (n / 256) (by omega), UInt8.toNat_ofNat_of_lt' (by simpa using Nat.mod_lt n (by decide : 0 < 256))]
      omega
theorem ubytes_le : ∀ (k n : Nat), n < 256 ^ k → (ubytes n).length ≤ k
  | 0, n, h => by
    obtain rfl : n = 0 := by simpa using h
    simp [ubytes_zero]
  | k + 1, n, h => by
    by_cases h0 : n = 0
    · subst h0; simp [ubytes_zero]
    · rw [ubytes_pos h0, List.length_append, List.length_singleton]
      have := ubytes_le k (n / 256) (by rw [Nat.pow_succ] at h; omega)
      omega
theorem ubytes_gt : ∀ (k n : Nat), 256 ^ k ≤ n → k < (ubytes n).length
  | 0, n, h => by
    have h0 : n ≠ 0 := by simp at h; omega
    rw [ubytes_pos h0]; simp
  | k + 1, n, h => by
    have hp : 0 < 256 ^ k := Nat.pow_pos (by decide)
    have h0 : n ≠ 0 := by rw [Nat.pow_succ] at h; omega
    rw [ubytes_pos h0, List.length_append, List.length_singleton]
    have := ubytes_gt k (n / 256) (by rw [Nat.pow_succ] at h; omega)
    omega
theorem ubytes_head (n : Nat) : (ubytes n)[0]? ≠ some 0 := by
  induction n using Nat.strongRecOn with
  | _ n ih =>
    by_cases h : n = 0
    · subst h; simp [ubytes_zero]
    · rw [ubytes_pos h]
      by_cases h2 : n / 256 = 0
      · rw [h2, ubytes_zero]
        simp only [List.nil_append, List.getElem?_cons_zero, ne_eq, Option.some.injEq]
        intro e
        have := congrArg UInt8.toNat e
        rw [UInt8.toNat_ofNat_of_lt' (by simpa using Nat.mod_lt n (by decide : 0 < 256))] at this
        simp at this
        omega
      · have := ih (n / 256) (by omega)
        rw [List.getElem?_append_left]
        · exact this
        · have := ubytes_gt 0 (n / 256) (by omega); omega
theorem rev_ind {α : Type} {p : List α → Prop} (h0 : p []) (h1 : ∀ l x, p l → p (l ++ [x])) (l : List α) : p l := by
  have : ∀ m : List α, p m.reverse := fun m => by
    induction m with
    | nil => exact h0
    | cons x m ih => rw [List.reverse_cons]; exact h1 _ _ ih
  have := this l.reverse
  rwa [List.reverse_reverse] at this
theorem uval_lt (l : List UInt8) : uval l < 256 ^ l.length := by
  induction l using rev_ind with
  | h0 => simp [uval]
  | h1 l x ih =>
    rw [uval_snoc, List.length_append, List.length_singleton, Nat.pow_succ]
    have := x.toNat_lt
    omega
/-- Bytes that do not begin with nought are their number's. -/
theorem ubytes_uval (l : List UInt8) (h : l[0]? ≠ some 0) : ubytes (uval l) = l := by
  induction l using rev_ind with
  | h0 => rw [uval_nil, ubytes_zero]
  | h1 l x ih =>
    have hx := x.toNat_lt
    have h1 : (uval l * 256 + x.toNat) / 256 = uval l := by omega
    have h2 : (uval l * 256 + x.toNat) % 256 = x.toNat := by omega
    have h0 : uval l * 256 + x.toNat ≠ 0 := by
      cases l with
      | nil =>
        simp at h
        intro e
        apply h
        apply UInt8.toNat_inj.1
        simp [uval] at e
        simpa using e
      | cons a l =>
        have ih := ih (by simpa using h)
        intro e
        have : uval (a :: l) = 0 := by omega
        rw [this, ubytes_zero] at ih
        cases ih
    rw [uval_snoc, ubytes_pos h0, h1, h2]
    congr 1
    · apply ih
      cases l with
      | nil => simp
      | cons a l => simpa using h
    · simp
/-- Byte j of a number's bytes. -/
theorem ubytes_get (n : Nat) : ∀ j, j < (ubytes n).length → (ubytes n)[j]? = some (UInt8.ofNat (n / 256 ^ ((ubytes n).length - 1 - j) % 256)) := by
  induction n using Nat.strongRecOn with
  | _ n ih =>
    intro j hj
    by_cases h : n = 0
    · subst h; simp [ubytes_zero] at hj
    · rw [ubytes_pos h] at hj ⊢
      simp only [List.length_append, List.length_singleton] at hj ⊢
      by_cases hl : j < (ubytes (n / 256)).length
      · rw [List.getElem?_append_left hl, ih (n / 256) (by omega) j hl]
        congr 3
        rw [show (ubytes (n / 256)).length + 1 - 1 - j = ((ubytes (n / 256)).length - 1 - j) + 1 by omega, Nat.pow_succ, Nat.mul_comm, Nat.div_div_eq_div_mul]
      · obtain rfl : j = (ubytes (n / 256)).length := by omega
        rw [List.getElem?_append_right (by omega)]
        simp

theorem len8_div {x k : Nat} (h : 2 ^ k ≤ x) : len8 x = k + len8 (x / 2 ^ k) := by
  have hk : 0 < 2 ^ k := Nat.two_pow_pos k
  have h0 : x ≠ 0 := by omega
  have h1 : x / 2 ^ k ≠ 0 := by
    have := Nat.div_pos h hk
    omega
  simp only [len8, if_neg h0, if_neg h1]
  have : Nat.log2 x = k + Nat.log2 (x / 2 ^ k) := by
    have a1 := Nat.log2_self_le h1
    have a2 := Nat.lt_log2_self (n := x / 2 ^ k)
    refine (Nat.log2_eq_iff h0).2 ⟨?_, ?_⟩
    · rw [Nat.pow_add]
      calc 2 ^ k * 2 ^ (x / 2 ^ k).log2 ≤ 2 ^ k * (x / 2 ^ k) := Nat.mul_le_mul_left _ a1
        _ ≤ x := Nat.mul_div_le _ _
    · rw [Nat.add_assoc, Nat.pow_add, Nat.mul_comm]
      exact (Nat.div_lt_iff_lt_mul hk).1 a2
  omega
theorem len8_small {n : Nat} (h : n < 256) (h0 : n ≠ 0) : 1 ≤ len8 n ∧ len8 n ≤ 8 := by
  have : Nat.log2 n < 8 := (Nat.log2_lt h0).2 (by omega)
  simp only [len8, if_neg h0]
  omega
theorem len8_width (n : Nat) : (len8 n + 7) / 8 = (ubytes n).length := by
  induction n using Nat.strongRecOn with
  | _ n ih =>
    by_cases h : n = 0
    · subst h; rw [ubytes_zero]; rfl
    · rw [ubytes_pos h, List.length_append, List.length_singleton, ← ih (n / 256) (by omega)]
      by_cases h2 : n < 256
      · have := len8_small h2 h
        rw [show n / 256 = 0 by omega]
        simp only [len8, if_true] at this ⊢
        omega
      · have := len8_div (x := n) (k := 8) (by omega)
        rw [show (2 : Nat) ^ 8 = 256 from rfl] at this
        rw [this]; omega

theorem shr64 (x k : Nat) (hk : k ≤ 64) : (x : Int).fdiv (2 ^ min k IntKind.u64.bits) = ((x / 2 ^ k : Nat) : Int) := by
  have := fdiv_nat x (2 ^ k)
  rw [Int.natCast_pow] at this
  have e : min k IntKind.u64.bits = k := Nat.min_eq_left hk
  rw [e]; exact this
theorem tab_nat {T : List UInt8} {f : Nat → Nat} {x : Nat} (h : ((List.range 256).all fun n => T[n]? == some (UInt8.ofNat (f n))) = true) (hx : x < 256) : T[x]? = some (UInt8.ofNat (f x)) := by
  rw [List.all_eq_true] at h
  simpa using h x (by simpa using hx)
theorem len8_le {n : Nat} (h : n < 256) : len8 n ≤ 8 := by
  by_cases h0 : n = 0
  · subst h0; decide
  · exact (len8_small h h0).2
theorem len8_byte {n : Nat} (h : n < 256) : ((UInt8.ofNat (len8 n)).toNat : Int) = (len8 n : Int) := by
  have := len8_le h
  rw [UInt8.toNat_ofNat_of_lt' (by simpa using (by omega : len8 n < 256))]
theorem optK_tab {T : List UInt8} {K : Value → GH → Prop} {h : GH} {i : Int} {y : Nat} (hT : ((List.range 256).all fun n => T[n]? == some (UInt8.ofNat (len8 n))) = true) (hi : i = y) (hy : y < 256) (g : len8 y ≤ 8 → IntKind.i64.wrap (len8 y : Int) = (len8 y : Int) → K (.int .u8 (len8 y : Int)) h) :
    optK (if 0 ≤ i then Option.map (fun b : UInt8 => Value.int .u8 (b.toNat : Int)) T[i.toNat]? else none) h K := by
  subst hi
  rw [if_pos (by omega), Int.toNat_natCast, tab_nat (f := len8) hT hy]
  simp only [Option.map_some, optK_some, len8_byte hy]
  exact g (len8_le hy) (wrap64 (by omega) (by have := len8_le hy; omega))
theorem c_Len64 (N : Nat) (h : GH) (x : Nat) (hx : x < 18446744073709551616) : GTri Try.prog N 77 [.int .u64 x] h fun v h' => v = .int .i64 (len8 x : Int) ∧ h' = h := by
  have a1 := fun y => shr64 y 32 (by omega)
  have a2 := fun y => shr64 y 16 (by omega)
  have a3 := fun y => shr64 y 8 (by omega)
  simp only [Nat.reducePow] at a1 a2 a3
  have b1 := @len8_div x 32
  have b2 := @len8_div (x / 4294967296) 16
  have b3 := @len8_div (x / 4294967296 / 65536) 8
  have b4 := @len8_div (x / 4294967296) 8
  have b5 := @len8_div x 16
  have b6 := @len8_div (x / 65536) 8
  have b7 := @len8_div x 8
  simp only [Nat.reducePow] at b1 b2 b3 b4 b5 b6 b7
  refine gtri Try.func77 rfl gf77 ok77 (by simp [Try.ntmps77]) ?_
  repeat' (first | (with_reducible first | refine gw_seq ?_ | refine gw_block ?_) | ((first | (with_reducible first | refine gw_region ?_ | refine gw_if ?_ | refine gw_skip ?_ | refine gw_exit ?_ | refine gw_ret ?_) | ((with_reducible first | refine gif_b (fun hb => ?_) (fun hb => ?_) | refine want_t (fun hb => ?_) (fun hb => ?_) | refine want_f (fun hb => ?_) (fun hb => ?_)) <;> (try simp only [hb]) <;> (try simp only [hpr] at hb))) <;> try simp only [List.map, gop, ev, lk, aenv, gyield, gBin, gInt, gStrOp, gUn, gPick, gNil, gExtract, gIfc, gConvK, gIndexO, gIndexVO, gMakeV, gMinV, gMaxV, isInt, gMin, gMax, gBlt, gCallV, gInvoke, gNilM, vcells, gField, gIndexV, gPart, reduceIte, Nat.reduceAdd, Nat.reduceSub, Nat.reduceMul, Nat.reduceLT, Nat.reduceLeDiff, Nat.reduceEqDiff, Nat.reduceBEq, Int.reduceLT, Int.reduceLE, Int.reduceGT, Int.reduceGE, Int.reduceEq, Int.reduceNe, Int.reduceAdd, Int.reduceSub, Int.reduceMul, Int.reduceNeg, Int.reduceToNat, Int.reduceBEq, Int.reduceBNe, Int.cast_ofNat_Int, List.getElem?_toArray, stp, Try.underlying104, Try.underlying3, Try.underlying5, Try.underlying9, cv104_5, cv5_3, ni104, ni3, ni5, ni9, sz104, sz3, sz5, sz9, zr104, zr3, zr5, zr9, rs77, a1, a2, a3]))
  all_goals
    refine optK_tab (by decide +kernel) (wrapu8 (by omega) (by omega)) (by omega) fun c2 c3 => ?_
    (try simp only [List.map, gop, ev, lk, aenv, gyield, gBin, gInt, gStrOp, gUn, gPick, gNil, gExtract, gIfc, gConvK, gIndexO, gIndexVO, gMakeV, gMinV, gMaxV, isInt, gMin, gMax, gBlt, gCallV, gInvoke, gNilM, vcells, gField, gIndexV, gPart, reduceIte, Nat.reduceAdd, Nat.reduceSub, Nat.reduceMul, Nat.reduceLT, Nat.reduceLeDiff, Nat.reduceEqDiff, Nat.reduceBEq, Int.reduceLT, Int.reduceLE, Int.reduceGT, Int.reduceGE, Int.reduceEq, Int.reduceNe, Int.reduceAdd, Int.reduceSub, Int.reduceMul, Int.reduceNeg, Int.reduceToNat, Int.reduceBEq, Int.reduceBNe, Int.cast_ofNat_Int, List.getElem?_toArray, stp, Try.underlying104, Try.underlying3, Try.underlying5, Try.underlying9, cv104_5, cv5_3, ni104, ni3, ni5, ni9, sz104, sz3, sz5, sz9, zr104, zr3, zr5, zr9, rs77, c3]); repeat' (first | (with_reducible first | refine gw_seq ?_ | refine gw_block ?_) | ((first | (with_reducible first | refine gw_region ?_ | refine gw_if ?_ | refine gw_skip ?_ | refine gw_exit ?_ | refine gw_ret ?_) | ((with_reducible first | refine gif_b (fun hb => ?_) (fun hb => ?_) | refine want_t (fun hb => ?_) (fun hb => ?_) | refine want_f (fun hb => ?_) (fun hb => ?_)) <;> (try simp only [hb]) <;> (try simp only [hpr] at hb))) <;> try simp only [List.map, gop, ev, lk, aenv, gyield, gBin, gInt, gStrOp, gUn, gPick, gNil, gExtract, gIfc, gConvK, gIndexO, gIndexVO, gMakeV, gMinV, gMaxV, isInt, gMin, gMax, gBlt, gCallV, gInvoke, gNilM, vcells, gField, gIndexV, gPart, reduceIte, Nat.reduceAdd, Nat.reduceSub, Nat.reduceMul, Nat.reduceLT, Nat.reduceLeDiff, Nat.reduceEqDiff, Nat.reduceBEq, Int.reduceLT, Int.reduceLE, Int.reduceGT, Int.reduceGE, Int.reduceEq, Int.reduceNe, Int.reduceAdd, Int.reduceSub, Int.reduceMul, Int.reduceNeg, Int.reduceToNat, Int.reduceBEq, Int.reduceBNe, Int.cast_ofNat_Int, List.getElem?_toArray, stp, Try.underlying104, Try.underlying3, Try.underlying5, Try.underlying9, cv104_5, cv5_3, ni104, ni3, ni5, ni9, sz104, sz3, sz5, sz9, zr104, zr3, zr5, zr9, rs77, c3]))
    refine congrArg (Value.int .i64) ?_
    rw [wrap64 (by omega) (by omega)]
    omega
theorem c_Len (N : Nat) (h : GH) (x : Nat) (hx : x < 18446744073709551616) : GTri Try.prog N 72 [.int .u64 x] h fun v h' => v = .int .i64 (len8 x : Int) ∧ h' = h := by
  refine gtri Try.func72 rfl gf72 ok72 (by simp [Try.ntmps72]) ?_
  repeat' (first | (with_reducible first | refine gw_seq ?_ | refine gw_block ?_) | ((first | (with_reducible first | refine gw_region ?_ | refine gw_if ?_ | refine gw_skip ?_ | refine gw_exit ?_ | refine gw_ret ?_) | ((with_reducible first | refine gif_b (fun hb => ?_) (fun hb => ?_) | refine want_t (fun hb => ?_) (fun hb => ?_) | refine want_f (fun hb => ?_) (fun hb => ?_)) <;> (try simp only [hb]) <;> (try simp only [hpr] at hb)) | ((refine GTri.mono (c_Len64 _ _ x hx) ?_); rintro _ _ ⟨rfl, hh9⟩; replace hh9 := hh9.symm; subst hh9)) <;> try simp only [List.map, gop, ev, lk, aenv, gyield, gBin, gInt, gStrOp, gUn, gPick, gNil, gExtract, gIfc, gConvK, gIndexO, gIndexVO, gMakeV, gMinV, gMaxV, isInt, gMin, gMax, gBlt, gCallV, gInvoke, gNilM, vcells, gField, gIndexV, gPart, reduceIte, Nat.reduceAdd, Nat.reduceSub, Nat.reduceMul, Nat.reduceLT, Nat.reduceLeDiff, Nat.reduceEqDiff, Nat.reduceBEq, Int.reduceLT, Int.reduceLE, Int.reduceGT, Int.reduceGE, Int.reduceEq, Int.reduceNe, Int.reduceAdd, Int.reduceSub, Int.reduceMul, Int.reduceNeg, Int.reduceToNat, Int.reduceBEq, Int.reduceBNe, Int.cast_ofNat_Int, List.getElem?_toArray, stp, Try.underlying104, Try.underlying105, Try.underlying123, cv105_123, ni104, ni105, ni123, sz104, sz105, sz123, zr104, zr105, zr123, rs72]))

/-- A number as it is put. -/
def gnum (n : Int) : Nat := (min (max n 0) 4611686018427387904).toNat
def guint (n : Int) : List UInt8 := UInt8.ofNat (ubytes (gnum n)).length :: ubytes (gnum n)
theorem gnum_le (n : Int) : gnum n ≤ 4611686018427387904 := by unfold gnum; omega
theorem gnum_w (n : Int) : (ubytes (gnum n)).length ≤ 8 := ubytes_le 8 _ (by have := gnum_le n; simp; omega)
theorem guint_len (n : Int) : (guint n).length ≤ 9 := by have := gnum_w n; simp [guint]; omega

theorem c_Uint (N : Nat) (h : GH) {a : Option Addr} {n c : Nat} {l : List UInt8} (r : RB h (.slice a n c) l) (hl : l.length ≤ 70368744177664) (i : Int) : GTri Try.prog N 49 [.slice a n c, .int .i64 i] h fun v h' => HS h h' ∧ OWN h h' v (l ++ guint i) := by
  have mm : (if 4611686018427387904 < (if 0 > i then 0 else i) then 4611686018427387904 else (if 0 > i then 0 else i)) = ((gnum i : Nat) : Int) := by unfold gnum; split <;> split <;> omega
  have g1 := gnum_le i
  have g2 := gnum_w i
  have wd := len8_width (gnum i)
  have gu : guint i = UInt8.ofNat (ubytes (gnum i)).length :: ubytes (gnum i) := rfl
  generalize gnum i = m at *
  generalize hw : (ubytes m).length = w at *
  have w0 : IntKind.u64.wrap (m : Int) = m := wrapu64 (by omega) (by omega)
  have w1 : IntKind.i64.wrap ((len8 m : Int) + 7) = ((len8 m + 7 : Nat) : Int) := by rw [wrap64 (by omega) (by omega)]; omega
  have w2 : IntKind.i64.wrap (Int.tdiv ((len8 m + 7 : Nat) : Int) 8) = (w : Int) := by
    rw [show (8 : Int) = ((8 : Nat) : Int) from rfl, tdiv_nat, wd]
    exact wrap64 (by omega) (by omega)
  have w3 : IntKind.u8.wrap (w : Int) = ((UInt8.ofNat w).toNat : Int) := by
    rw [UInt8.toNat_ofNat_of_lt' (by simpa using (by omega : w < 256))]
    exact wrapu8 (by omega) (by omega)
  have w4 : IntKind.i64.wrap ((w : Int) - 1) = (w : Int) - 1 - ((0 : Nat) : Int) := by rw [wrap64 (by omega) (by omega)]; omega
  refine gtri Try.func49 rfl gf49 ok49 (by simp [Try.ntmps49]) ?_
  repeat' (first | (with_reducible first | refine gw_seq ?_ | refine gw_block ?_) | ((first | (with_reducible first | refine gw_region ?_ | refine gw_if ?_ | refine gw_skip ?_ | refine gw_exit ?_ | refine gw_ret ?_) | ((with_reducible first | refine gif_b (fun hb => ?_) (fun hb => ?_) | refine want_t (fun hb => ?_) (fun hb => ?_) | refine want_f (fun hb => ?_) (fun hb => ?_)) <;> (try simp only [hb]) <;> (try simp only [hpr] at hb)) | ((refine GTri.mono (c_Len _ _ m (by omega)) ?_); rintro _ _ ⟨rfl, hh9⟩; replace hh9 := hh9.symm; subst hh9) | ((refine GTri.mono (c_SClone _ _ r (by omega)) ?_); rintro _ h1 ⟨s1, o1⟩)) <;> try simp only [List.map, gop, ev, lk, aenv, gyield, gBin, gInt, gStrOp, gUn, gPick, gNil, gExtract, gIfc, gConvK, gIndexO, gIndexVO, gMakeV, gMinV, gMaxV, isInt, gMin, gMax, gBlt, gCallV, gInvoke, gNilM, vcells, gField, gIndexV, gPart, reduceIte, Nat.reduceAdd, Nat.reduceSub, Nat.reduceMul, Nat.reduceLT, Nat.reduceLeDiff, Nat.reduceEqDiff, Nat.reduceBEq, Int.reduceLT, Int.reduceLE, Int.reduceGT, Int.reduceGE, Int.reduceEq, Int.reduceNe, Int.reduceAdd, Int.reduceSub, Int.reduceMul, Int.reduceNeg, Int.reduceToNat, Int.reduceBEq, Int.reduceBNe, Int.cast_ofNat_Int, List.getElem?_toArray, stp, Try.underlying105, Try.underlying22, Try.underlying3, Try.underlying5, cv3_105, cv3_5, el22, ni105, ni22, ni3, ni5, sz105, sz22, sz3, sz5, zr105, zr22, zr3, zr5, rs49, mm, w0, w1, w2, w3]))
  refine bs1_g el22 fun k2 h2 r2 s2 f2 n2 => ?_
  (try simp only [List.map, gop, ev, lk, aenv, gyield, gBin, gInt, gStrOp, gUn, gPick, gNil, gExtract, gIfc, gConvK, gIndexO, gIndexVO, gMakeV, gMinV, gMaxV, isInt, gMin, gMax, gBlt, gCallV, gInvoke, gNilM, vcells, gField, gIndexV, gPart, reduceIte, Nat.reduceAdd, Nat.reduceSub, Nat.reduceMul, Nat.reduceLT, Nat.reduceLeDiff, Nat.reduceEqDiff, Nat.reduceBEq, Int.reduceLT, Int.reduceLE, Int.reduceGT, Int.reduceGE, Int.reduceEq, Int.reduceNe, Int.reduceAdd, Int.reduceSub, Int.reduceMul, Int.reduceNeg, Int.reduceToNat, Int.reduceBEq, Int.reduceBNe, Int.cast_ofNat_Int, List.getElem?_toArray, stp, Try.underlying105, Try.underlying22, Try.underlying3, Try.underlying5, cv3_105, cv3_5, el22, ni105, ni22, ni3, ni5, sz105, sz22, sz3, sz5, zr105, zr22, zr3, zr5, rs49]); repeat' (first | (with_reducible first | refine gw_seq ?_ | refine gw_block ?_) | ((first | (with_reducible first | refine gw_region ?_ | refine gw_if ?_ | refine gw_skip ?_ | refine gw_exit ?_ | refine gw_ret ?_) | ((with_reducible first | refine gif_b (fun hb => ?_) (fun hb => ?_) | refine want_t (fun hb => ?_) (fun hb => ?_) | refine want_f (fun hb => ?_) (fun hb => ?_)) <;> (try simp only [hb]) <;> (try simp only [hpr] at hb))) <;> try simp only [List.map, gop, ev, lk, aenv, gyield, gBin, gInt, gStrOp, gUn, gPick, gNil, gExtract, gIfc, gConvK, gIndexO, gIndexVO, gMakeV, gMinV, gMaxV, isInt, gMin, gMax, gBlt, gCallV, gInvoke, gNilM, vcells, gField, gIndexV, gPart, reduceIte, Nat.reduceAdd, Nat.reduceSub, Nat.reduceMul, Nat.reduceLT, Nat.reduceLeDiff, Nat.reduceEqDiff, Nat.reduceBEq, Int.reduceLT, Int.reduceLE, Int.reduceGT, Int.reduceGE, Int.reduceEq, Int.reduceNe, Int.reduceAdd, Int.reduceSub, Int.reduceMul, Int.reduceNeg, Int.reduceToNat, Int.reduceBEq, Int.reduceBNe, Int.cast_ofNat_Int, List.getElem?_toArray, stp, Try.underlying105, Try.underlying22, Try.underlying3, Try.underlying5, cv3_105, cv3_5, el22, ni105, ni22, ni3, ni5, sz105, sz22, sz3, sz5, zr105, zr22, zr3, zr5, rs49]))
  refine append_own el22 Try.underlying22 rfl (s1.trans s2) (o1.hs s2) r2.src (by simp; omega) fun v3 h3 s3 _ o3 => ?_
  (try simp only [List.map, gop, ev, lk, aenv, gyield, gBin, gInt, gStrOp, gUn, gPick, gNil, gExtract, gIfc, gConvK, gIndexO, gIndexVO, gMakeV, gMinV, gMaxV, isInt, gMin, gMax, gBlt, gCallV, gInvoke, gNilM, vcells, gField, gIndexV, gPart, reduceIte, Nat.reduceAdd, Nat.reduceSub, Nat.reduceMul, Nat.reduceLT, Nat.reduceLeDiff, Nat.reduceEqDiff, Nat.reduceBEq, Int.reduceLT, Int.reduceLE, Int.reduceGT, Int.reduceGE, Int.reduceEq, Int.reduceNe, Int.reduceAdd, Int.reduceSub, Int.reduceMul, Int.reduceNeg, Int.reduceToNat, Int.reduceBEq, Int.reduceBNe, Int.cast_ofNat_Int, List.getElem?_toArray, stp, Try.underlying105, Try.underlying22, Try.underlying3, Try.underlying5, cv3_105, cv3_5, el22, ni105, ni22, ni3, ni5, sz105, sz22, sz3, sz5, zr105, zr22, zr3, zr5, rs49, w4]); repeat' (first | (with_reducible first | refine gw_seq ?_ | refine gw_block ?_) | ((first | (with_reducible first | refine gw_region ?_ | refine gw_if ?_ | refine gw_skip ?_ | refine gw_exit ?_ | refine gw_ret ?_) | ((with_reducible first | refine gif_b (fun hb => ?_) (fun hb => ?_) | refine want_t (fun hb => ?_) (fun hb => ?_) | refine want_f (fun hb => ?_) (fun hb => ?_)) <;> (try simp only [hb]) <;> (try simp only [hpr] at hb))) <;> try simp only [List.map, gop, ev, lk, aenv, gyield, gBin, gInt, gStrOp, gUn, gPick, gNil, gExtract, gIfc, gConvK, gIndexO, gIndexVO, gMakeV, gMinV, gMaxV, isInt, gMin, gMax, gBlt, gCallV, gInvoke, gNilM, vcells, gField, gIndexV, gPart, reduceIte, Nat.reduceAdd, Nat.reduceSub, Nat.reduceMul, Nat.reduceLT, Nat.reduceLeDiff, Nat.reduceEqDiff, Nat.reduceBEq, Int.reduceLT, Int.reduceLE, Int.reduceGT, Int.reduceGE, Int.reduceEq, Int.reduceNe, Int.reduceAdd, Int.reduceSub, Int.reduceMul, Int.reduceNeg, Int.reduceToNat, Int.reduceBEq, Int.reduceBNe, Int.cast_ofNat_Int, List.getElem?_toArray, stp, Try.underlying105, Try.underlying22, Try.underlying3, Try.underlying5, cv3_105, cv3_5, el22, ni105, ni22, ni3, ni5, sz105, sz22, sz3, sz5, zr105, zr22, zr3, zr5, rs49, w4]))
  refine gw_loop2 [1, 4] (fun (x : Nat × Value) => [(6, x.2), (7, .int .i64 ((w : Int) - 1 - (x.1 : Int)))])
    (fun q x h' => q = w - x.1 ∧ x.1 ≤ w ∧ HS h h' ∧ OWN h h' x.2 (l ++ (UInt8.ofNat w :: (ubytes m).take x.1))) w (0, v3) (by simp [lk]) ⟨rfl, by omega, s3, by simpa using o3⟩ ?_
  rintro q ⟨j, v⟩ h4 ⟨rfl, hj, s4, o4⟩
  simp only at *
  by_cases hjw : j < w
  · have e1 : (w : Int) - 1 - (j : Int) = ((w - 1 - j : Nat) : Int) := by omega
    have d1 : decide (((w - 1 - j : Nat) : Int) ≥ 0) = true := decide_eq_true (by omega)
    have w5 : IntKind.i64.wrap (8 * ((w - 1 - j : Nat) : Int)) = ((8 * (w - 1 - j) : Nat) : Int) := by rw [wrap64 (by omega) (by omega)]; omega
    have w6 : IntKind.u8.wrap ((m : Int).fdiv (2 ^ min (((8 * (w - 1 - j) : Nat) : Int)).toNat IntKind.i64.bits)) = ((UInt8.ofNat (m / 256 ^ (w - 1 - j) % 256)).toNat : Int) := by
      have e8 : min (((8 * (w - 1 - j) : Nat) : Int)).toNat IntKind.i64.bits = 8 * (w - 1 - j) := by
        rw [Int.toNat_natCast]; exact Nat.min_eq_left (by show _ ≤ 64; omega)
      have := fdiv_nat m (2 ^ (8 * (w - 1 - j)))
      rw [Int.natCast_pow] at this
      rw [e8, UInt8.toNat_ofNat_of_lt' (by simpa using Nat.mod_lt _ (by decide : 0 < 256))]
      have e9 : (2 : Nat) ^ (8 * (w - 1 - j)) = 256 ^ (w - 1 - j) := by rw [Nat.pow_mul]
      rw [e9] at this
      have e10 : (m : Int).fdiv (2 ^ (8 * (w - 1 - j))) = ((m / 256 ^ (w - 1 - j) : Nat) : Int) := this
      rw [e10]
      simp [IntKind.wrap, IntKind.signed, IntKind.bits]
    have w7 : IntKind.i64.wrap (((w - 1 - j : Nat) : Int) - 1) = (w : Int) - 1 - ((j + 1 : Nat) : Int) := by rw [wrap64 (by omega) (by omega)]; omega
    (try simp only [List.map, gop, ev, lk, aenv, gyield, gBin, gInt, gStrOp, gUn, gPick, gNil, gExtract, gIfc, gConvK, gIndexO, gIndexVO, gMakeV, gMinV, gMaxV, isInt, gMin, gMax, gBlt, gCallV, gInvoke, gNilM, vcells, gField, gIndexV, gPart, reduceIte, Nat.reduceAdd, Nat.reduceSub, Nat.reduceMul, Nat.reduceLT, Nat.reduceLeDiff, Nat.reduceEqDiff, Nat.reduceBEq, Int.reduceLT, Int.reduceLE, Int.reduceGT, Int.reduceGE, Int.reduceEq, Int.reduceNe, Int.reduceAdd, Int.reduceSub, Int.reduceMul, Int.reduceNeg, Int.reduceToNat, Int.reduceBEq, Int.reduceBNe, Int.cast_ofNat_Int, List.getElem?_toArray, stp, Try.underlying105, Try.underlying22, Try.underlying3, Try.underlying5, cv3_105, cv3_5, el22, ni105, ni22, ni3, ni5, sz105, sz22, sz3, sz5, zr105, zr22, zr3, zr5, rs49, e1, d1, w5]); repeat' (first | (with_reducible first | refine gw_seq ?_ | refine gw_block ?_) | ((first | (with_reducible first | refine gw_region ?_ | refine gw_if ?_ | refine gw_skip ?_ | refine gw_exit ?_ | refine gw_ret ?_) | ((with_reducible first | refine gif_b (fun hb => ?_) (fun hb => ?_) | refine want_t (fun hb => ?_) (fun hb => ?_) | refine want_f (fun hb => ?_) (fun hb => ?_)) <;> (try simp only [hb]) <;> (try simp only [hpr] at hb))) <;> try simp only [List.map, gop, ev, lk, aenv, gyield, gBin, gInt, gStrOp, gUn, gPick, gNil, gExtract, gIfc, gConvK, gIndexO, gIndexVO, gMakeV, gMinV, gMaxV, isInt, gMin, gMax, gBlt, gCallV, gInvoke, gNilM, vcells, gField, gIndexV, gPart, reduceIte, Nat.reduceAdd, Nat.reduceSub, Nat.reduceMul, Nat.reduceLT, Nat.reduceLeDiff, Nat.reduceEqDiff, Nat.reduceBEq, Int.reduceLT, Int.reduceLE, Int.reduceGT, Int.reduceGE, Int.reduceEq, Int.reduceNe, Int.reduceAdd, Int.reduceSub, Int.reduceMul, Int.reduceNeg, Int.reduceToNat, Int.reduceBEq, Int.reduceBNe, Int.cast_ofNat_Int, List.getElem?_toArray, stp, Try.underlying105, Try.underlying22, Try.underlying3, Try.underlying5, cv3_105, cv3_5, el22, ni105, ni22, ni3, ni5, sz105, sz22, sz3, sz5, zr105, zr22, zr3, zr5, rs49, e1, d1, w5]))
    refine ⟨by omega, ?_⟩
    rw [w6]
    refine bs1_g el22 fun k5 h5 r5 s5 f5 n5 => ?_
    (try simp only [List.map, gop, ev, lk, aenv, gyield, gBin, gInt, gStrOp, gUn, gPick, gNil, gExtract, gIfc, gConvK, gIndexO, gIndexVO, gMakeV, gMinV, gMaxV, isInt, gMin, gMax, gBlt, gCallV, gInvoke, gNilM, vcells, gField, gIndexV, gPart, reduceIte, Nat.reduceAdd, Nat.reduceSub, Nat.reduceMul, Nat.reduceLT, Nat.reduceLeDiff, Nat.reduceEqDiff, Nat.reduceBEq, Int.reduceLT, Int.reduceLE, Int.reduceGT, Int.reduceGE, Int.reduceEq, Int.reduceNe, Int.reduceAdd, Int.reduceSub, Int.reduceMul, Int.reduceNeg, Int.reduceToNat, Int.reduceBEq, Int.reduceBNe, Int.cast_ofNat_Int, List.getElem?_toArray, stp, Try.underlying105, Try.underlying22, Try.underlying3, Try.underlying5, cv3_105, cv3_5, el22, ni105, ni22, ni3, ni5, sz105, sz22, sz3, sz5, zr105, zr22, zr3, zr5, rs49]); repeat' (first | (with_reducible first | refine gw_seq ?_ | refine gw_block ?_) | ((first | (with_reducible first | refine gw_region ?_ | refine gw_if ?_ | refine gw_skip ?_ | refine gw_exit ?_ | refine gw_ret ?_) | ((with_reducible first | refine gif_b (fun hb => ?_) (fun hb => ?_) | refine want_t (fun hb => ?_) (fun hb => ?_) | refine want_f (fun hb => ?_) (fun hb => ?_)) <;> (try simp only [hb]) <;> (try simp only [hpr] at hb))) <;> try simp only [List.map, gop, ev, lk, aenv, gyield, gBin, gInt, gStrOp, gUn, gPick, gNil, gExtract, gIfc, gConvK, gIndexO, gIndexVO, gMakeV, gMinV, gMaxV, isInt, gMin, gMax, gBlt, gCallV, gInvoke, gNilM, vcells, gField, gIndexV, gPart, reduceIte, Nat.reduceAdd, Nat.reduceSub, Nat.reduceMul, Nat.reduceLT, Nat.reduceLeDiff, Nat.reduceEqDiff, Nat.reduceBEq, Int.reduceLT, Int.reduceLE, Int.reduceGT, Int.reduceGE, Int.reduceEq, Int.reduceNe, Int.reduceAdd, Int.reduceSub, Int.reduceMul, Int.reduceNeg, Int.reduceToNat, Int.reduceBEq, Int.reduceBNe, Int.cast_ofNat_Int, List.getElem?_toArray, stp, Try.underlying105, Try.underlying22, Try.underlying3, Try.underlying5, cv3_105, cv3_5, el22, ni105, ni22, ni3, ni5, sz105, sz22, sz3, sz5, zr105, zr22, zr3, zr5, rs49]))
    refine append_own el22 Try.underlying22 rfl (s4.trans s5) (o4.hs s5) r5.src (by simp; omega) fun v6 h6 s6 _ o6 => ?_
    (try simp only [List.map, gop, ev, lk, aenv, gyield, gBin, gInt, gStrOp, gUn, gPick, gNil, gExtract, gIfc, gConvK, gIndexO, gIndexVO, gMakeV, gMinV, gMaxV, isInt, gMin, gMax, gBlt, gCallV, gInvoke, gNilM, vcells, gField, gIndexV, gPart, reduceIte, Nat.reduceAdd, Nat.reduceSub, Nat.reduceMul, Nat.reduceLT, Nat.reduceLeDiff, Nat.reduceEqDiff, Nat.reduceBEq, Int.reduceLT, Int.reduceLE, Int.reduceGT, Int.reduceGE, Int.reduceEq, Int.reduceNe, Int.reduceAdd, Int.reduceSub, Int.reduceMul, Int.reduceNeg, Int.reduceToNat, Int.reduceBEq, Int.reduceBNe, Int.cast_ofNat_Int, List.getElem?_toArray, stp, Try.underlying105, Try.underlying22, Try.underlying3, Try.underlying5, cv3_105, cv3_5, el22, ni105, ni22, ni3, ni5, sz105, sz22, sz3, sz5, zr105, zr22, zr3, zr5, rs49, w7]); repeat' (first | (with_reducible first | refine gw_seq ?_ | refine gw_block ?_) | ((first | (with_reducible first | refine gw_region ?_ | refine gw_if ?_ | refine gw_skip ?_ | refine gw_exit ?_ | refine gw_ret ?_) | ((with_reducible first | refine gif_b (fun hb => ?_) (fun hb => ?_) | refine want_t (fun hb => ?_) (fun hb => ?_) | refine want_f (fun hb => ?_) (fun hb => ?_)) <;> (try simp only [hb]) <;> (try simp only [hpr] at hb))) <;> try simp only [List.map, gop, ev, lk, aenv, gyield, gBin, gInt, gStrOp, gUn, gPick, gNil, gExtract, gIfc, gConvK, gIndexO, gIndexVO, gMakeV, gMinV, gMaxV, isInt, gMin, gMax, gBlt, gCallV, gInvoke, gNilM, vcells, gField, gIndexV, gPart, reduceIte, Nat.reduceAdd, Nat.reduceSub, Nat.reduceMul, Nat.reduceLT, Nat.reduceLeDiff, Nat.reduceEqDiff, Nat.reduceBEq, Int.reduceLT, Int.reduceLE, Int.reduceGT, Int.reduceGE, Int.reduceEq, Int.reduceNe, Int.reduceAdd, Int.reduceSub, Int.reduceMul, Int.reduceNeg, Int.reduceToNat, Int.reduceBEq, Int.reduceBNe, Int.cast_ofNat_Int, List.getElem?_toArray, stp, Try.underlying105, Try.underlying22, Try.underlying3, Try.underlying5, cv3_105, cv3_5, el22, ni105, ni22, ni3, ni5, sz105, sz22, sz3, sz5, zr105, zr22, zr3, zr5, rs49, w7]))
    refine ⟨_, (j + 1, v6), ?_, (by simp only [List.forall_mem_cons, List.not_mem_nil, false_implies, implies_true, List.map, List.cons_append, List.nil_append, lk, Nat.reduceEqDiff, reduceIte, and_true, true_and]), rfl, by omega, s6, ?_⟩
    · omega
    · have := ubytes_get m j (by omega)
      rw [hw] at this
      rw [List.take_add_one, this]
      simpa using o6
  · have d1 : decide ((w : Int) - 1 - (j : Int) ≥ 0) = false := decide_eq_false (by omega)
    (try simp only [List.map, gop, ev, lk, aenv, gyield, gBin, gInt, gStrOp, gUn, gPick, gNil, gExtract, gIfc, gConvK, gIndexO, gIndexVO, gMakeV, gMinV, gMaxV, isInt, gMin, gMax, gBlt, gCallV, gInvoke, gNilM, vcells, gField, gIndexV, gPart, reduceIte, Nat.reduceAdd, Nat.reduceSub, Nat.reduceMul, Nat.reduceLT, Nat.reduceLeDiff, Nat.reduceEqDiff, Nat.reduceBEq, Int.reduceLT, Int.reduceLE, Int.reduceGT, Int.reduceGE, Int.reduceEq, Int.reduceNe, Int.reduceAdd, Int.reduceSub, Int.reduceMul, Int.reduceNeg, Int.reduceToNat, Int.reduceBEq, Int.reduceBNe, Int.cast_ofNat_Int, List.getElem?_toArray, stp, Try.underlying105, Try.underlying22, Try.underlying3, Try.underlying5, cv3_105, cv3_5, el22, ni105, ni22, ni3, ni5, sz105, sz22, sz3, sz5, zr105, zr22, zr3, zr5, rs49, d1]); repeat' (first | (with_reducible first | refine gw_seq ?_ | refine gw_block ?_) | ((first | (with_reducible first | refine gw_region ?_ | refine gw_if ?_ | refine gw_skip ?_ | refine gw_exit ?_ | refine gw_ret ?_) | ((with_reducible first | refine gif_b (fun hb => ?_) (fun hb => ?_) | refine want_t (fun hb => ?_) (fun hb => ?_) | refine want_f (fun hb => ?_) (fun hb => ?_)) <;> (try simp only [hb]) <;> (try simp only [hpr] at hb))) <;> try simp only [List.map, gop, ev, lk, aenv, gyield, gBin, gInt, gStrOp, gUn, gPick, gNil, gExtract, gIfc, gConvK, gIndexO, gIndexVO, gMakeV, gMinV, gMaxV, isInt, gMin, gMax, gBlt, gCallV, gInvoke, gNilM, vcells, gField, gIndexV, gPart, reduceIte, Nat.reduceAdd, Nat.reduceSub, Nat.reduceMul, Nat.reduceLT, Nat.reduceLeDiff, Nat.reduceEqDiff, Nat.reduceBEq, Int.reduceLT, Int.reduceLE, Int.reduceGT, Int.reduceGE, Int.reduceEq, Int.reduceNe, Int.reduceAdd, Int.reduceSub, Int.reduceMul, Int.reduceNeg, Int.reduceToNat, Int.reduceBEq, Int.reduceBNe, Int.cast_ofNat_Int, List.getElem?_toArray, stp, Try.underlying105, Try.underlying22, Try.underlying3, Try.underlying5, cv3_105, cv3_5, el22, ni105, ni22, ni3, ni5, sz105, sz22, sz3, sz5, zr105, zr22, zr3, zr5, rs49, d1]))
    rw [gu]
    rw [List.take_of_length_le (by omega)] at o4
    exact ⟨s4, o4⟩
end Go.Gh
