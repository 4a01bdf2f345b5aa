/- Contracts of math/bits.Len8, LeadingZeros8, of Common and its reference. -/
import Derived.Test.YtejjnmnljbehiaaBits4
namespace Go.Gh
open Go Go.Proofs Go.RowKit
set_option linter.unusedVariables false
set_option linter.unusedSimpArgs false
set_option maxRecDepth 100000

/-- How many bits a byte has. -/
def len8 (x : Nat) : Nat := if x = 0 then 0 else Nat.log2 x + 1

theorem c_Len8 (N : Nat) (h : GH) (x : UInt8) : GTri Try.prog N 86 [bv x] h fun v h' => v = .int .i64 (len8 x.toNat) ∧ h' = h := by
  refine gtri Try.func86 rfl gf86 ok86 (by simp [Try.ntmps86]) ?_
  repeat' (first | (with_reducible first | refine gw_seq ?_ | refine gw_block ?_) | ((first | (with_reducible first | refine gw_region ?_ | refine gw_if ?_ | refine gw_skip ?_ | refine gw_exit ?_ | refine gw_ret ?_) | ((with_reducible first | refine gif_b (fun hb => ?_) (fun hb => ?_) | refine want_t (fun hb => ?_) (fun hb => ?_) | refine want_f (fun hb => ?_) (fun hb => ?_)) <;> (try simp only [hb]))) <;> try simp only [List.map, gop, ev, lk, aenv, gyield, gBin, gInt, gStrOp, gUn, gPick, gNil, gExtract, gIfc, gConvK, gIndexO, gIndexVO, gMakeV, gMinV, gMaxV, isInt, gMin, gMax, gBlt, gCallV, vcells, gField, gIndexV, gPart, reduceIte, Nat.reduceAdd, Nat.reduceSub, Nat.reduceMul, Nat.reduceLT, Nat.reduceLeDiff, Nat.reduceEqDiff, Nat.reduceBEq, Int.reduceLT, Int.reduceLE, Int.reduceGT, Int.reduceGE, Int.reduceEq, Int.reduceNe, Int.reduceAdd, Int.reduceSub, Int.reduceMul, Int.reduceNeg, Int.reduceToNat, Int.reduceBEq, Int.reduceBNe, Int.cast_ofNat_Int, List.getElem?_toArray, stp, Try.underlying3, Try.underlying5, Try.underlying9, cv5_3, ni3, ni5, ni9, sz3, sz5, sz9, zr3, zr5, zr9, rs86, bv]))
  have hx := x.toNat_lt
  have hl : len8 x.toNat < 256 := by
    unfold len8
    split
    · omega
    · have : Nat.log2 x.toNat < 8 := (Nat.log2_lt (by omega)).2 (by omega)
      omega
  rw [if_pos (by omega), Int.toNat_natCast, tab_at (f := len8)]
  · have e : ((UInt8.ofNat (len8 x.toNat)).toNat : Int) = (len8 x.toNat : Int) := by
      rw [UInt8.toNat_ofNat_of_lt' (by simpa using hl)]
    have w : IntKind.i64.wrap (len8 x.toNat : Int) = (len8 x.toNat : Int) := wrap64 (by omega) (by omega)
    simp only [List.map, gop, ev, lk, aenv, gyield, gBin, gInt, gStrOp, gUn, gPick, gNil, gExtract, gIfc, gConvK, gIndexO, gIndexVO, gMakeV, gMinV, gMaxV, isInt, gMin, gMax, gBlt, gCallV, vcells, gField, gIndexV, gPart, reduceIte, Nat.reduceAdd, Nat.reduceSub, Nat.reduceMul, Nat.reduceLT, Nat.reduceLeDiff, Nat.reduceEqDiff, Nat.reduceBEq, Int.reduceLT, Int.reduceLE, Int.reduceGT, Int.reduceGE, Int.reduceEq, Int.reduceNe, Int.reduceAdd, Int.reduceSub, Int.reduceMul, Int.reduceNeg, Int.reduceToNat, Int.reduceBEq, Int.reduceBNe, Int.cast_ofNat_Int, List.getElem?_toArray, stp, Try.underlying3, Try.underlying5, Try.underlying9, cv5_3, ni3, ni5, ni9, sz3, sz5, sz9, zr3, zr5, zr9, rs86, e, w]
    repeat' (first | (with_reducible first | refine gw_seq ?_ | refine gw_block ?_) | ((first | (with_reducible first | refine gw_region ?_ | refine gw_if ?_ | refine gw_skip ?_ | refine gw_exit ?_ | refine gw_ret ?_) | ((with_reducible first | refine gif_b (fun hb => ?_) (fun hb => ?_) | refine want_t (fun hb => ?_) (fun hb => ?_) | refine want_f (fun hb => ?_) (fun hb => ?_)) <;> (try simp only [hb]))) <;> try simp only [List.map, gop, ev, lk, aenv, gyield, gBin, gInt, gStrOp, gUn, gPick, gNil, gExtract, gIfc, gConvK, gIndexO, gIndexVO, gMakeV, gMinV, gMaxV, isInt, gMin, gMax, gBlt, gCallV, vcells, gField, gIndexV, gPart, reduceIte, Nat.reduceAdd, Nat.reduceSub, Nat.reduceMul, Nat.reduceLT, Nat.reduceLeDiff, Nat.reduceEqDiff, Nat.reduceBEq, Int.reduceLT, Int.reduceLE, Int.reduceGT, Int.reduceGE, Int.reduceEq, Int.reduceNe, Int.reduceAdd, Int.reduceSub, Int.reduceMul, Int.reduceNeg, Int.reduceToNat, Int.reduceBEq, Int.reduceBNe, Int.cast_ofNat_Int, List.getElem?_toArray, stp, Try.underlying3, Try.underlying5, Try.underlying9, cv5_3, ni3, ni5, ni9, sz3, sz5, sz9, zr3, zr5, zr9, rs86]))
  · decide +kernel
theorem c_Lead (N : Nat) (h : GH) (x : UInt8) : GTri Try.prog N 75 [bv x] h fun v h' => v = .int .i64 ((8 - len8 x.toNat : Nat) : Int) ∧ h' = h := by
  have hx := x.toNat_lt
  have hl : len8 x.toNat ≤ 8 := by
    unfold len8
    split
    · omega
    · have : Nat.log2 x.toNat < 8 := (Nat.log2_lt (by omega)).2 (by omega)
      omega
  have w : IntKind.i64.wrap (8 - (len8 x.toNat : Int)) = ((8 - len8 x.toNat : Nat) : Int) := by
    rw [wrap64 (by omega) (by omega)]; omega
  refine gtri Try.func75 rfl gf75 ok75 (by simp [Try.ntmps75]) ?_
  repeat' (first | (with_reducible first | refine gw_seq ?_ | refine gw_block ?_) | ((first | (with_reducible first | refine gw_region ?_ | refine gw_if ?_ | refine gw_skip ?_ | refine gw_exit ?_ | refine gw_ret ?_) | ((with_reducible first | refine gif_b (fun hb => ?_) (fun hb => ?_) | refine want_t (fun hb => ?_) (fun hb => ?_) | refine want_f (fun hb => ?_) (fun hb => ?_)) <;> (try simp only [hb])) | ((refine GTri.mono (c_Len8 _ _ x) ?_); rintro _ _ ⟨rfl, rfl⟩)) <;> try simp only [List.map, gop, ev, lk, aenv, gyield, gBin, gInt, gStrOp, gUn, gPick, gNil, gExtract, gIfc, gConvK, gIndexO, gIndexVO, gMakeV, gMinV, gMaxV, isInt, gMin, gMax, gBlt, gCallV, vcells, gField, gIndexV, gPart, reduceIte, Nat.reduceAdd, Nat.reduceSub, Nat.reduceMul, Nat.reduceLT, Nat.reduceLeDiff, Nat.reduceEqDiff, Nat.reduceBEq, Int.reduceLT, Int.reduceLE, Int.reduceGT, Int.reduceGE, Int.reduceEq, Int.reduceNe, Int.reduceAdd, Int.reduceSub, Int.reduceMul, Int.reduceNeg, Int.reduceToNat, Int.reduceBEq, Int.reduceBNe, Int.cast_ofNat_Int, List.getElem?_toArray, stp, Try.underlying3, Try.underlying5, ni3, ni5, sz3, sz5, zr3, zr5, rs75, w]))

/-- How many bits two rows have in common. -/
def ncom : List UInt8 → List UInt8 → Nat
  | a :: l, b :: m => if a = b then 8 + ncom l m else 8 - len8 (a ^^^ b).toNat
  | _, _ => 0
theorem ncom_at : ∀ {l m : List UInt8} {i : Nat} {x y : UInt8}, l.take i = m.take i → l[i]? = some x → m[i]? = some y → x ≠ y → ncom l m = 8 * i + (8 - len8 (x ^^^ y).toNat)
  | [], _, _, _, _, _, h, _, _ => by simp at h
  | _ :: _, [], _, _, _, _, _, h, _ => by simp at h
  | a :: l, b :: m, 0, x, y, _, h1, h2, h3 => by
    simp at h1 h2
    subst h1; subst h2
    simp [ncom, h3]
  | a :: l, b :: m, i + 1, x, y, h, h1, h2, h3 => by
    simp only [List.take_succ_cons, List.cons.injEq] at h
    obtain ⟨rfl, h⟩ := h
    simp at h1 h2
    simp only [ncom, if_true]
    rw [ncom_at h h1 h2 h3]
    omega
theorem ncom_end : ∀ {l m : List UInt8} {i : Nat}, l.take i = m.take i → i = min l.length m.length → ncom l m = 8 * i
  | [], m, i, _, h => by simp at h; subst h; cases m <;> rfl
  | _ :: _, [], i, _, h => by simp at h; subst h; rfl
  | a :: l, b :: m, 0, _, h => by simp at h
  | a :: l, b :: m, i + 1, h, h2 => by
    simp only [List.take_succ_cons, List.cons.injEq] at h
    obtain ⟨rfl, h⟩ := h
    simp only [ncom, if_true]
    rw [ncom_end h (by simp at h2; omega)]
    omega

theorem c_Common (N : Nat) (h : GH) {a b : Option Addr} {n m c d : Nat} {l k : List UInt8} (r1 : RB h (.slice a n c) l) (r2 : RB h (.slice b m d) k) (hn : n = l.length) (hm : m = k.length) (hb : l.length ≤ 140737488355328) : GTri Try.prog N 38 [.slice a n c, .slice b m d] h fun v h' => v = .int .i64 (ncom l k) ∧ h' = h := by
  subst hn; subst hm
  have mn : (if (k.length : Int) < (l.length : Int) then (k.length : Int) else (l.length : Int)) = ((min l.length k.length : Nat) : Int) := min_if _ _
  obtain ⟨a1, c1, q1, r3, _⟩ := r1.cut Try.underlying29 sz5 (hi := ((min l.length k.length : Nat) : Int)) (by omega) (by omega) .i64
  rw [Int.toNat_natCast] at q1 r3
  refine gtri Try.func38 rfl gf38 ok38 (by simp [Try.ntmps38]) ?_
  repeat' (first | (with_reducible first | refine gw_seq ?_ | refine gw_block ?_) | ((first | (with_reducible first | refine gw_region ?_ | refine gw_if ?_ | refine gw_skip ?_ | refine gw_exit ?_ | refine gw_ret ?_) | ((with_reducible first | refine gif_b (fun hb => ?_) (fun hb => ?_) | refine want_t (fun hb => ?_) (fun hb => ?_) | refine want_f (fun hb => ?_) (fun hb => ?_)) <;> (try simp only [hb]))) <;> try simp only [List.map, gop, ev, lk, aenv, gyield, gBin, gInt, gStrOp, gUn, gPick, gNil, gExtract, gIfc, gConvK, gIndexO, gIndexVO, gMakeV, gMinV, gMaxV, isInt, gMin, gMax, gBlt, gCallV, vcells, gField, gIndexV, gPart, reduceIte, Nat.reduceAdd, Nat.reduceSub, Nat.reduceMul, Nat.reduceLT, Nat.reduceLeDiff, Nat.reduceEqDiff, Nat.reduceBEq, Int.reduceLT, Int.reduceLE, Int.reduceGT, Int.reduceGE, Int.reduceEq, Int.reduceNe, Int.reduceAdd, Int.reduceSub, Int.reduceMul, Int.reduceNeg, Int.reduceToNat, Int.reduceBEq, Int.reduceBNe, Int.cast_ofNat_Int, List.getElem?_toArray, stp, Try.underlying29, Try.underlying3, Try.underlying5, el29, ni29, ni3, ni5, sz29, sz3, sz5, zr29, zr3, zr5, rs38, mn, q1]))
  refine gw_loop (fun q e h' => ∃ i : Nat, i ≤ min l.length k.length ∧ q = min l.length k.length - i ∧ h' = h ∧ l.take i = k.take i ∧ e = [(17, .int .i64 i), (16, .int .i64 ((min l.length k.length : Nat) : Int)), (15, .slice a1 (min l.length k.length) c1), (1, .slice b k.length d), (5, .int .i64 ((min l.length k.length : Nat) : Int))]) (min l.length k.length)
    (e0 := [(17, .int .i64 0), (16, .int .i64 ((min l.length k.length : Nat) : Int)), (15, .slice a1 (min l.length k.length) c1), (1, .slice b k.length d), (5, .int .i64 ((min l.length k.length : Nat) : Int))]) (sub_of (by simp only [List.forall_mem_cons, List.not_mem_nil, false_implies, implies_true, lk, Nat.reduceEqDiff, reduceIte, and_true, true_and])) ⟨0, by omega, rfl, rfl, by simp, rfl⟩ ?_
  rintro q e h' ⟨i, hi, rfl, rfl, ht, rfl⟩
  by_cases h0 : i < min l.length k.length
  · have d0 : decide ((i : Int) < ((min l.length k.length : Nat) : Int)) = true := decide_eq_true (by omega)
    obtain ⟨x, hx⟩ : ∃ x, l[i]? = some x := ⟨l[i]'(by omega), List.getElem?_eq_getElem _⟩
    obtain ⟨y, hy⟩ : ∃ y, k[i]? = some y := ⟨k[i]'(by omega), List.getElem?_eq_getElem _⟩
    obtain ⟨p1, u1, u2⟩ := r3.idx Try.underlying29 sz5 (i := (i : Int)) (by omega) (by simp; omega)
    obtain ⟨p2, u3, u4⟩ := r2.idx Try.underlying29 sz5 (i := (i : Int)) (by omega) (by omega)
    have ex : (l.take (min l.length k.length)).getD i 0 = x := by rw [List.getD, List.getElem?_take_of_lt h0, hx]; rfl
    have ey : k.getD i 0 = y := by rw [List.getD, hy]; rfl
    rw [Int.toNat_natCast, ex] at u2
    rw [Int.toNat_natCast, ey] at u4
    have w1 : IntKind.i64.wrap (8 * (i : Int)) = ((8 * i : Nat) : Int) := by rw [wrap64 (by omega) (by omega)]; omega
    have w2 : IntKind.i64.wrap ((i : Int) + 1) = ((i + 1 : Nat) : Int) := by rw [wrap64 (by omega) (by omega)]; omega
    have bx : Value.int .u8 (bits .xor .u8 (x.toNat : Int) (y.toNat : Int)) = bv (x ^^^ y) := by
      rw [(bits_u8 x.toNat_lt y.toNat_lt).2.2, bv, UInt8.toNat_xor]
    repeat' (first | (with_reducible first | refine gw_seq ?_ | refine gw_block ?_) | ((first | (with_reducible first | refine gw_region ?_ | refine gw_if ?_ | refine gw_skip ?_ | refine gw_exit ?_ | refine gw_ret ?_) | ((with_reducible first | refine gif_b (fun hb => ?_) (fun hb => ?_) | refine want_t (fun hb => ?_) (fun hb => ?_) | refine want_f (fun hb => ?_) (fun hb => ?_)) <;> (try simp only [hb]))) <;> try simp only [List.map, gop, ev, lk, aenv, gyield, gBin, gInt, gStrOp, gUn, gPick, gNil, gExtract, gIfc, gConvK, gIndexO, gIndexVO, gMakeV, gMinV, gMaxV, isInt, gMin, gMax, gBlt, gCallV, vcells, gField, gIndexV, gPart, reduceIte, Nat.reduceAdd, Nat.reduceSub, Nat.reduceMul, Nat.reduceLT, Nat.reduceLeDiff, Nat.reduceEqDiff, Nat.reduceBEq, Int.reduceLT, Int.reduceLE, Int.reduceGT, Int.reduceGE, Int.reduceEq, Int.reduceNe, Int.reduceAdd, Int.reduceSub, Int.reduceMul, Int.reduceNeg, Int.reduceToNat, Int.reduceBEq, Int.reduceBNe, Int.cast_ofNat_Int, List.getElem?_toArray, stp, Try.underlying29, Try.underlying3, Try.underlying5, el29, ni29, ni3, ni5, sz29, sz3, sz5, zr29, zr3, zr5, rs38, d0, u1, u2, u3, u4, bv, w1, w2]))
    · rw [bx]
      have hne : x ≠ y := by rintro rfl; simp at hb
      have w3 := wrap_add (n := 8 * i) (m := 8 - len8 (x ^^^ y).toNat) (by omega)
      refine (c_Lead _ _ _).mono ?_
      rintro _ _ ⟨rfl, rfl⟩
      simp only [List.map, gop, ev, lk, aenv, gyield, gBin, gInt, gStrOp, gUn, gPick, gNil, gExtract, gIfc, gConvK, gIndexO, gIndexVO, gMakeV, gMinV, gMaxV, isInt, gMin, gMax, gBlt, gCallV, vcells, gField, gIndexV, gPart, reduceIte, Nat.reduceAdd, Nat.reduceSub, Nat.reduceMul, Nat.reduceLT, Nat.reduceLeDiff, Nat.reduceEqDiff, Nat.reduceBEq, Int.reduceLT, Int.reduceLE, Int.reduceGT, Int.reduceGE, Int.reduceEq, Int.reduceNe, Int.reduceAdd, Int.reduceSub, Int.reduceMul, Int.reduceNeg, Int.reduceToNat, Int.reduceBEq, Int.reduceBNe, Int.cast_ofNat_Int, List.getElem?_toArray, stp, Try.underlying29, Try.underlying3, Try.underlying5, el29, ni29, ni3, ni5, sz29, sz3, sz5, zr29, zr3, zr5, rs38, w3]
      repeat' (first | (with_reducible first | refine gw_seq ?_ | refine gw_block ?_) | ((first | (with_reducible first | refine gw_region ?_ | refine gw_if ?_ | refine gw_skip ?_ | refine gw_exit ?_ | refine gw_ret ?_) | ((with_reducible first | refine gif_b (fun hb => ?_) (fun hb => ?_) | refine want_t (fun hb => ?_) (fun hb => ?_) | refine want_f (fun hb => ?_) (fun hb => ?_)) <;> (try simp only [hb]))) <;> try simp only [List.map, gop, ev, lk, aenv, gyield, gBin, gInt, gStrOp, gUn, gPick, gNil, gExtract, gIfc, gConvK, gIndexO, gIndexVO, gMakeV, gMinV, gMaxV, isInt, gMin, gMax, gBlt, gCallV, vcells, gField, gIndexV, gPart, reduceIte, Nat.reduceAdd, Nat.reduceSub, Nat.reduceMul, Nat.reduceLT, Nat.reduceLeDiff, Nat.reduceEqDiff, Nat.reduceBEq, Int.reduceLT, Int.reduceLE, Int.reduceGT, Int.reduceGE, Int.reduceEq, Int.reduceNe, Int.reduceAdd, Int.reduceSub, Int.reduceMul, Int.reduceNeg, Int.reduceToNat, Int.reduceBEq, Int.reduceBNe, Int.cast_ofNat_Int, List.getElem?_toArray, stp, Try.underlying29, Try.underlying3, Try.underlying5, el29, ni29, ni3, ni5, sz29, sz3, sz5, zr29, zr3, zr5, rs38]))
      rw [ncom_at ht hx hy hne]
    · have he : x = y := by
        simp only [bne_eq_false_iff_eq] at hb
        exact UInt8.toNat_inj.1 (by omega)
      refine ⟨_, _, ?_, ?_, i + 1, ?_, rfl, ?_, rfl⟩
      · omega
      · exact (sub_of (by simp only [List.forall_mem_cons, List.not_mem_nil, false_implies, implies_true, lk, Nat.reduceEqDiff, reduceIte, and_true, true_and]))
      · omega
      · rw [List.take_add_one, List.take_add_one, ht, hx, hy, he]
  · have d0 : decide ((i : Int) < ((min l.length k.length : Nat) : Int)) = false := decide_eq_false (by omega)
    have w1 : IntKind.i64.wrap (8 * ((min l.length k.length : Nat) : Int)) = ((8 * min l.length k.length : Nat) : Int) := by rw [wrap64 (by omega) (by omega)]; omega
    repeat' (first | (with_reducible first | refine gw_seq ?_ | refine gw_block ?_) | ((first | (with_reducible first | refine gw_region ?_ | refine gw_if ?_ | refine gw_skip ?_ | refine gw_exit ?_ | refine gw_ret ?_) | ((with_reducible first | refine gif_b (fun hb => ?_) (fun hb => ?_) | refine want_t (fun hb => ?_) (fun hb => ?_) | refine want_f (fun hb => ?_) (fun hb => ?_)) <;> (try simp only [hb]))) <;> try simp only [List.map, gop, ev, lk, aenv, gyield, gBin, gInt, gStrOp, gUn, gPick, gNil, gExtract, gIfc, gConvK, gIndexO, gIndexVO, gMakeV, gMinV, gMaxV, isInt, gMin, gMax, gBlt, gCallV, vcells, gField, gIndexV, gPart, reduceIte, Nat.reduceAdd, Nat.reduceSub, Nat.reduceMul, Nat.reduceLT, Nat.reduceLeDiff, Nat.reduceEqDiff, Nat.reduceBEq, Int.reduceLT, Int.reduceLE, Int.reduceGT, Int.reduceGE, Int.reduceEq, Int.reduceNe, Int.reduceAdd, Int.reduceSub, Int.reduceMul, Int.reduceNeg, Int.reduceToNat, Int.reduceBEq, Int.reduceBNe, Int.cast_ofNat_Int, List.getElem?_toArray, stp, Try.underlying29, Try.underlying3, Try.underlying5, el29, ni29, ni3, ni5, sz29, sz3, sz5, zr29, zr3, zr5, rs38, d0, w1]))
    have e : i = min l.length k.length := by omega
    rw [ncom_end ht e, e]
end Go.Gh
