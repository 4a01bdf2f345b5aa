/- Parts of this claim's proof, 7. No statement of the claim stands here. -/
import Derived.Test.YtlobmpkfdnifpaaP6
/- The codec's reader: numbers, texts, yes or no. -/

namespace Go.Gh
open Go Go.Proofs Go.RowKit
set_option linter.unusedVariables false
set_option linter.unusedSimpArgs false
set_option maxRecDepth 100000

/-- A number of bytes, as it may be. -/
def goodU (l : List UInt8) : Bool := decide (l[0]? ≠ some 0) && decide (uval l ≤ 4611686018427387904)
def St.num (s : St) (l : List UInt8) (most : Int) : Int × St :=
  if (s.ok (goodU l) 5).e = 0 then
    if (s.ok (decide ((uval l : Int) ≤ most)) 4).e = 0 then ((uval l : Int), s) else (0, s.ok (decide ((uval l : Int) ≤ most)) 4)
  else (0, s.ok (goodU l) 5)
def St.wid (s : St) (y : UInt8) (most : Int) : Int × St :=
  if (s.ok (decide (y.toNat ≤ 8)) 5).e = 0 then (s.take y.toNat).2.num (s.take y.toNat).1 most else (0, s.ok (decide (y.toNat ≤ 8)) 5)
def St.uint (s : St) (most : Int) : Int × St :=
  if (s.take 1).2.e = 0 then (s.take 1).2.wid ((s.take 1).1.getD 0 0) most else (0, (s.take 1).2)

theorem or_byte {n : Nat} {x : UInt8} (h : n < 72057594037927936) : bits .or .u64 (IntKind.u64.wrap ((n : Int) * 2 ^ min 8 IntKind.u64.bits)) (x.toNat : Int) = ((n * 256 + x.toNat : Nat) : Int) := by
  have hx := x.toNat_lt
  have e : IntKind.u64.wrap ((n : Int) * 2 ^ min 8 IntKind.u64.bits) = ((n * 256 : Nat) : Int) := by
    have : ((n : Int) * 2 ^ min 8 IntKind.u64.bits) = ((n * 256 : Nat) : Int) := by rw [Int.natCast_mul]; rfl
    rw [this]
    exact wrapu64 (by omega) (by omega)
  rw [e, (bits_u64 (by omega) (by omega)).2.1]
  congr 1
  have := Nat.two_pow_add_eq_or_of_lt (i := 8) (b := x.toNat) (by omega) n
  rw [Nat.mul_comm n, show (256 : Nat) = 2 ^ 8 from rfl, this]

theorem RB.rd {h h' : GH} {k : Nat} {s : St} {v : Value} {l : List UInt8} (q : RB h v l) (r : RD h k s) (x : HX k h h') : RB h' v l := by
  obtain ⟨a, c, m, _, _⟩ := r
  exact q.hx m rfl x
theorem uval_small {l : List UInt8} {n : Nat} (h : l.length ≤ n) : uval l < 256 ^ n := Nat.lt_of_lt_of_le (uval_lt l) (Nat.pow_le_pow_right (by decide) h)
theorem c_RUint (N : Nat) (h : GH) {k : Nat} {s : St} (r : RD h k s) (most : Int) (hb : s.b.length ≤ 140737488355328) : GTri Try.prog N 51 [.pointer (some ⟨k, 0, none⟩), .int .i64 most] h fun v h' => v = .int .i64 (s.uint most).1 ∧ RD h' k (s.uint most).2 ∧ HX k h h' := by
  refine gtri Try.func51 rfl gf51 ok51 (by simp [Try.ntmps51]) ?_
  repeat' (first | (with_reducible first | refine gw_seq ?_ | refine gw_block ?_) | ((first | (with_reducible first | refine gw_region ?_ | refine gw_if ?_ | refine gw_skip ?_ | refine gw_exit ?_ | refine gw_ret ?_) | ((with_reducible first | refine gif_b (fun hb => ?_) (fun hb => ?_) | refine want_t (fun hb => ?_) (fun hb => ?_) | refine want_f (fun hb => ?_) (fun hb => ?_)) <;> (try simp only [hb]) <;> (try simp only [hpr] at hb))) <;> try simp only [List.map, gop, ev, lk, aenv, gyield, gBin, gInt, gStrOp, gUn, gPick, gNil, gExtract, gIfc, gConvK, gIndexO, gIndexVO, gMakeV, gMinV, gMaxV, isInt, gMin, gMax, gBlt, gCallV, gInvoke, gNilM, Array.toList_map, vcells, gField, gIndexV, gPart, reduceIte, Nat.reduceAdd, Nat.reduceSub, Nat.reduceMul, Nat.reduceLT, Nat.reduceLeDiff, Nat.reduceEqDiff, Nat.reduceBEq, Int.reduceLT, Int.reduceLE, Int.reduceGT, Int.reduceGE, Int.reduceEq, Int.reduceNe, Int.reduceAdd, Int.reduceSub, Int.reduceMul, Int.reduceNeg, Int.reduceToNat, Int.reduceBEq, Int.reduceBNe, Int.cast_ofNat_Int, List.getElem?_toArray, stp, Try.underlying100, Try.underlying104, Try.underlying22, Try.underlying23, Try.underlying3, Try.underlying4, Try.underlying5, Try.underlying50, cv104_3, cv5_104, cv5_3, ty22, ty100, ty104, ty23, ty3, ty4, ty5, ty50, rs51]))
  refine (c_take N h r 1 hb).mono ?_
  rintro _ h1 ⟨r1, x1, a1, c1, rfl, q1, n1⟩
  have tl1 := s.take_len 1
  by_cases he : (s.take 1).2.e = 0
  case neg =>
    obtain rfl := n1 he
    (try simp only [List.map, gop, ev, lk, aenv, gyield, gBin, gInt, gStrOp, gUn, gPick, gNil, gExtract, gIfc, gConvK, gIndexO, gIndexVO, gMakeV, gMinV, gMaxV, isInt, gMin, gMax, gBlt, gCallV, gInvoke, gNilM, Array.toList_map, vcells, gField, gIndexV, gPart, reduceIte, Nat.reduceAdd, Nat.reduceSub, Nat.reduceMul, Nat.reduceLT, Nat.reduceLeDiff, Nat.reduceEqDiff, Nat.reduceBEq, Int.reduceLT, Int.reduceLE, Int.reduceGT, Int.reduceGE, Int.reduceEq, Int.reduceNe, Int.reduceAdd, Int.reduceSub, Int.reduceMul, Int.reduceNeg, Int.reduceToNat, Int.reduceBEq, Int.reduceBNe, Int.cast_ofNat_Int, List.getElem?_toArray, stp, Try.underlying100, Try.underlying104, Try.underlying22, Try.underlying23, Try.underlying3, Try.underlying4, Try.underlying5, Try.underlying50, cv104_3, cv5_104, cv5_3, ty22, ty100, ty104, ty23, ty3, ty4, ty5, ty50, rs51, Option.isNone_none]); repeat' (first | (with_reducible first | refine gw_seq ?_ | refine gw_block ?_) | ((first | (with_reducible first | refine gw_region ?_ | refine gw_if ?_ | refine gw_skip ?_ | refine gw_exit ?_ | refine gw_ret ?_) | ((with_reducible first | refine gif_b (fun hb => ?_) (fun hb => ?_) | refine want_t (fun hb => ?_) (fun hb => ?_) | refine want_f (fun hb => ?_) (fun hb => ?_)) <;> (try simp only [hb]) <;> (try simp only [hpr] at hb))) <;> try simp only [List.map, gop, ev, lk, aenv, gyield, gBin, gInt, gStrOp, gUn, gPick, gNil, gExtract, gIfc, gConvK, gIndexO, gIndexVO, gMakeV, gMinV, gMaxV, isInt, gMin, gMax, gBlt, gCallV, gInvoke, gNilM, Array.toList_map, vcells, gField, gIndexV, gPart, reduceIte, Nat.reduceAdd, Nat.reduceSub, Nat.reduceMul, Nat.reduceLT, Nat.reduceLeDiff, Nat.reduceEqDiff, Nat.reduceBEq, Int.reduceLT, Int.reduceLE, Int.reduceGT, Int.reduceGE, Int.reduceEq, Int.reduceNe, Int.reduceAdd, Int.reduceSub, Int.reduceMul, Int.reduceNeg, Int.reduceToNat, Int.reduceBEq, Int.reduceBNe, Int.cast_ofNat_Int, List.getElem?_toArray, stp, Try.underlying100, Try.underlying104, Try.underlying22, Try.underlying23, Try.underlying3, Try.underlying4, Try.underlying5, Try.underlying50, cv104_3, cv5_104, cv5_3, ty22, ty100, ty104, ty23, ty3, ty4, ty5, ty50, rs51, Option.isNone_none]))
    unfold St.uint
    rw [if_neg he]
    exact ⟨rfl, r1, x1⟩
  obtain ⟨t1, t2, t3⟩ := St.take_0 he
  obtain ⟨y, hy⟩ : ∃ y, (s.take 1).1 = [y] := by
    rw [t3]
    cases hs : s.b with
    | nil => rw [hs] at t2; simp at t2
    | cons y l => exact ⟨y, by simp⟩
  have un : s.uint most = (s.take 1).2.wid y most := by unfold St.uint; rw [if_pos he, hy]; rfl
  rw [hy] at q1
  replace q1 : RB h1 (.slice a1 1 c1) [y] := q1
  simp only [hy]
  generalize (s.take 1).2 = s1 at *
  obtain ⟨ad1, rfl⟩ : ∃ ad, a1 = some ad := by
    cases a1 with
    | none => have := q1.isnil rfl; cases this
    | some ad => exact ⟨ad, rfl⟩
  obtain ⟨p, i1, l1⟩ := q1.idx Try.underlying22 sz5 (i := 0) (by omega) (by simp)
  simp only [Int.toNat_zero, List.getD_cons_zero] at l1
  have dy : decide ((y.toNat : Int) ≤ 8) = decide (y.toNat ≤ 8) := by
    have : ((y.toNat : Int) ≤ 8) ↔ y.toNat ≤ 8 := by omega
    simp only [this]
  have wy : IntKind.i64.wrap (y.toNat : Int) = y.toNat := wrap64 (by omega) (by have := y.toNat_lt; omega)
  (try simp only [List.map, gop, ev, lk, aenv, gyield, gBin, gInt, gStrOp, gUn, gPick, gNil, gExtract, gIfc, gConvK, gIndexO, gIndexVO, gMakeV, gMinV, gMaxV, isInt, gMin, gMax, gBlt, gCallV, gInvoke, gNilM, Array.toList_map, vcells, gField, gIndexV, gPart, reduceIte, Nat.reduceAdd, Nat.reduceSub, Nat.reduceMul, Nat.reduceLT, Nat.reduceLeDiff, Nat.reduceEqDiff, Nat.reduceBEq, Int.reduceLT, Int.reduceLE, Int.reduceGT, Int.reduceGE, Int.reduceEq, Int.reduceNe, Int.reduceAdd, Int.reduceSub, Int.reduceMul, Int.reduceNeg, Int.reduceToNat, Int.reduceBEq, Int.reduceBNe, Int.cast_ofNat_Int, List.getElem?_toArray, stp, Try.underlying100, Try.underlying104, Try.underlying22, Try.underlying23, Try.underlying3, Try.underlying4, Try.underlying5, Try.underlying50, cv104_3, cv5_104, cv5_3, ty22, ty100, ty104, ty23, ty3, ty4, ty5, ty50, rs51, Option.isNone_some, i1, l1, bv, dy]); repeat' (first | (with_reducible first | refine gw_seq ?_ | refine gw_block ?_) | ((first | (with_reducible first | refine gw_region ?_ | refine gw_if ?_ | refine gw_skip ?_ | refine gw_exit ?_ | refine gw_ret ?_) | ((with_reducible first | refine gif_b (fun hb => ?_) (fun hb => ?_) | refine want_t (fun hb => ?_) (fun hb => ?_) | refine want_f (fun hb => ?_) (fun hb => ?_)) <;> (try simp only [hb]) <;> (try simp only [hpr] at hb))) <;> try simp only [List.map, gop, ev, lk, aenv, gyield, gBin, gInt, gStrOp, gUn, gPick, gNil, gExtract, gIfc, gConvK, gIndexO, gIndexVO, gMakeV, gMinV, gMaxV, isInt, gMin, gMax, gBlt, gCallV, gInvoke, gNilM, Array.toList_map, vcells, gField, gIndexV, gPart, reduceIte, Nat.reduceAdd, Nat.reduceSub, Nat.reduceMul, Nat.reduceLT, Nat.reduceLeDiff, Nat.reduceEqDiff, Nat.reduceBEq, Int.reduceLT, Int.reduceLE, Int.reduceGT, Int.reduceGE, Int.reduceEq, Int.reduceNe, Int.reduceAdd, Int.reduceSub, Int.reduceMul, Int.reduceNeg, Int.reduceToNat, Int.reduceBEq, Int.reduceBNe, Int.cast_ofNat_Int, List.getElem?_toArray, stp, Try.underlying100, Try.underlying104, Try.underlying22, Try.underlying23, Try.underlying3, Try.underlying4, Try.underlying5, Try.underlying50, cv104_3, cv5_104, cv5_3, ty22, ty100, ty104, ty23, ty3, ty4, ty5, ty50, rs51, Option.isNone_some, i1, l1, bv, dy]))
  refine (c_ok N h1 r1 (decide (y.toNat ≤ 8)) 5).mono ?_
  rintro _ h2 ⟨rfl, r2, x2⟩
  have q2 := q1.rd r1 x2
  replace x2 := x1.trans x2
  by_cases he2 : (s1.ok (decide (y.toNat ≤ 8)) 5).e = 0
  case neg =>
    have d2 : ((s1.ok (decide (y.toNat ≤ 8)) 5).e == 0) = false := by simpa using he2
    (try simp only [List.map, gop, ev, lk, aenv, gyield, gBin, gInt, gStrOp, gUn, gPick, gNil, gExtract, gIfc, gConvK, gIndexO, gIndexVO, gMakeV, gMinV, gMaxV, isInt, gMin, gMax, gBlt, gCallV, gInvoke, gNilM, Array.toList_map, vcells, gField, gIndexV, gPart, reduceIte, Nat.reduceAdd, Nat.reduceSub, Nat.reduceMul, Nat.reduceLT, Nat.reduceLeDiff, Nat.reduceEqDiff, Nat.reduceBEq, Int.reduceLT, Int.reduceLE, Int.reduceGT, Int.reduceGE, Int.reduceEq, Int.reduceNe, Int.reduceAdd, Int.reduceSub, Int.reduceMul, Int.reduceNeg, Int.reduceToNat, Int.reduceBEq, Int.reduceBNe, Int.cast_ofNat_Int, List.getElem?_toArray, stp, Try.underlying100, Try.underlying104, Try.underlying22, Try.underlying23, Try.underlying3, Try.underlying4, Try.underlying5, Try.underlying50, cv104_3, cv5_104, cv5_3, ty22, ty100, ty104, ty23, ty3, ty4, ty5, ty50, rs51, d2, gUn]); repeat' (first | (with_reducible first | refine gw_seq ?_ | refine gw_block ?_) | ((first | (with_reducible first | refine gw_region ?_ | refine gw_if ?_ | refine gw_skip ?_ | refine gw_exit ?_ | refine gw_ret ?_) | ((with_reducible first | refine gif_b (fun hb => ?_) (fun hb => ?_) | refine want_t (fun hb => ?_) (fun hb => ?_) | refine want_f (fun hb => ?_) (fun hb => ?_)) <;> (try simp only [hb]) <;> (try simp only [hpr] at hb))) <;> try simp only [List.map, gop, ev, lk, aenv, gyield, gBin, gInt, gStrOp, gUn, gPick, gNil, gExtract, gIfc, gConvK, gIndexO, gIndexVO, gMakeV, gMinV, gMaxV, isInt, gMin, gMax, gBlt, gCallV, gInvoke, gNilM, Array.toList_map, vcells, gField, gIndexV, gPart, reduceIte, Nat.reduceAdd, Nat.reduceSub, Nat.reduceMul, Nat.reduceLT, Nat.reduceLeDiff, Nat.reduceEqDiff, Nat.reduceBEq, Int.reduceLT, Int.reduceLE, Int.reduceGT, Int.reduceGE, Int.reduceEq, Int.reduceNe, Int.reduceAdd, Int.reduceSub, Int.reduceMul, Int.reduceNeg, Int.reduceToNat, Int.reduceBEq, Int.reduceBNe, Int.cast_ofNat_Int, List.getElem?_toArray, stp, Try.underlying100, Try.underlying104, Try.underlying22, Try.underlying23, Try.underlying3, Try.underlying4, Try.underlying5, Try.underlying50, cv104_3, cv5_104, cv5_3, ty22, ty100, ty104, ty23, ty3, ty4, ty5, ty50, rs51, d2, gUn]))
    rw [un, St.wid, if_neg he2]
    exact ⟨rfl, r2, x2⟩
  have d2 : ((s1.ok (decide (y.toNat ≤ 8)) 5).e == 0) = true := by simpa using he2
  obtain ⟨y8, _⟩ := St.ok_0 (by decide) he2
  rw [St.wid, if_pos he2] at un
  rw [un]
  rw [y8, St.ok_t] at r2
  simp only [decide_eq_true_eq] at y8
  obtain ⟨p2, i2, l2⟩ := q2.idx Try.underlying22 sz5 (i := 0) (by omega) (by simp)
  simp only [Int.toNat_zero, List.getD_cons_zero] at l2
  (try simp only [List.map, gop, ev, lk, aenv, gyield, gBin, gInt, gStrOp, gUn, gPick, gNil, gExtract, gIfc, gConvK, gIndexO, gIndexVO, gMakeV, gMinV, gMaxV, isInt, gMin, gMax, gBlt, gCallV, gInvoke, gNilM, Array.toList_map, vcells, gField, gIndexV, gPart, reduceIte, Nat.reduceAdd, Nat.reduceSub, Nat.reduceMul, Nat.reduceLT, Nat.reduceLeDiff, Nat.reduceEqDiff, Nat.reduceBEq, Int.reduceLT, Int.reduceLE, Int.reduceGT, Int.reduceGE, Int.reduceEq, Int.reduceNe, Int.reduceAdd, Int.reduceSub, Int.reduceMul, Int.reduceNeg, Int.reduceToNat, Int.reduceBEq, Int.reduceBNe, Int.cast_ofNat_Int, List.getElem?_toArray, stp, Try.underlying100, Try.underlying104, Try.underlying22, Try.underlying23, Try.underlying3, Try.underlying4, Try.underlying5, Try.underlying50, cv104_3, cv5_104, cv5_3, ty22, ty100, ty104, ty23, ty3, ty4, ty5, ty50, rs51, d2, gUn, i2, l2, bv, wy]); repeat' (first | (with_reducible first | refine gw_seq ?_ | refine gw_block ?_) | ((first | (with_reducible first | refine gw_region ?_ | refine gw_if ?_ | refine gw_skip ?_ | refine gw_exit ?_ | refine gw_ret ?_) | ((with_reducible first | refine gif_b (fun hb => ?_) (fun hb => ?_) | refine want_t (fun hb => ?_) (fun hb => ?_) | refine want_f (fun hb => ?_) (fun hb => ?_)) <;> (try simp only [hb]) <;> (try simp only [hpr] at hb))) <;> try simp only [List.map, gop, ev, lk, aenv, gyield, gBin, gInt, gStrOp, gUn, gPick, gNil, gExtract, gIfc, gConvK, gIndexO, gIndexVO, gMakeV, gMinV, gMaxV, isInt, gMin, gMax, gBlt, gCallV, gInvoke, gNilM, Array.toList_map, vcells, gField, gIndexV, gPart, reduceIte, Nat.reduceAdd, Nat.reduceSub, Nat.reduceMul, Nat.reduceLT, Nat.reduceLeDiff, Nat.reduceEqDiff, Nat.reduceBEq, Int.reduceLT, Int.reduceLE, Int.reduceGT, Int.reduceGE, Int.reduceEq, Int.reduceNe, Int.reduceAdd, Int.reduceSub, Int.reduceMul, Int.reduceNeg, Int.reduceToNat, Int.reduceBEq, Int.reduceBNe, Int.cast_ofNat_Int, List.getElem?_toArray, stp, Try.underlying100, Try.underlying104, Try.underlying22, Try.underlying23, Try.underlying3, Try.underlying4, Try.underlying5, Try.underlying50, cv104_3, cv5_104, cv5_3, ty22, ty100, ty104, ty23, ty3, ty4, ty5, ty50, rs51, d2, gUn, i2, l2, bv, wy]))
  refine (c_take N h2 r2 y.toNat (by omega)).mono ?_
  rintro _ h3 ⟨r3, x3, a3, c3, rfl, q3, n3⟩
  have tl2 := s1.take_len y.toNat
  generalize (s1.take y.toNat).2 = s3 at *
  generalize (s1.take y.toNat).1 = l at *
  replace x3 := x2.trans x3
  have hl8 : l.length ≤ 8 := by omega
  (try simp only [List.map, gop, ev, lk, aenv, gyield, gBin, gInt, gStrOp, gUn, gPick, gNil, gExtract, gIfc, gConvK, gIndexO, gIndexVO, gMakeV, gMinV, gMaxV, isInt, gMin, gMax, gBlt, gCallV, gInvoke, gNilM, Array.toList_map, vcells, gField, gIndexV, gPart, reduceIte, Nat.reduceAdd, Nat.reduceSub, Nat.reduceMul, Nat.reduceLT, Nat.reduceLeDiff, Nat.reduceEqDiff, Nat.reduceBEq, Int.reduceLT, Int.reduceLE, Int.reduceGT, Int.reduceGE, Int.reduceEq, Int.reduceNe, Int.reduceAdd, Int.reduceSub, Int.reduceMul, Int.reduceNeg, Int.reduceToNat, Int.reduceBEq, Int.reduceBNe, Int.cast_ofNat_Int, List.getElem?_toArray, stp, Try.underlying100, Try.underlying104, Try.underlying22, Try.underlying23, Try.underlying3, Try.underlying4, Try.underlying5, Try.underlying50, cv104_3, cv5_104, cv5_3, ty22, ty100, ty104, ty23, ty3, ty4, ty5, ty50, rs51]); repeat' (first | (with_reducible first | refine gw_seq ?_ | refine gw_block ?_) | ((first | (with_reducible first | refine gw_region ?_ | refine gw_if ?_ | refine gw_skip ?_ | refine gw_exit ?_ | refine gw_ret ?_) | ((with_reducible first | refine gif_b (fun hb => ?_) (fun hb => ?_) | refine want_t (fun hb => ?_) (fun hb => ?_) | refine want_f (fun hb => ?_) (fun hb => ?_)) <;> (try simp only [hb]) <;> (try simp only [hpr] at hb))) <;> try simp only [List.map, gop, ev, lk, aenv, gyield, gBin, gInt, gStrOp, gUn, gPick, gNil, gExtract, gIfc, gConvK, gIndexO, gIndexVO, gMakeV, gMinV, gMaxV, isInt, gMin, gMax, gBlt, gCallV, gInvoke, gNilM, Array.toList_map, vcells, gField, gIndexV, gPart, reduceIte, Nat.reduceAdd, Nat.reduceSub, Nat.reduceMul, Nat.reduceLT, Nat.reduceLeDiff, Nat.reduceEqDiff, Nat.reduceBEq, Int.reduceLT, Int.reduceLE, Int.reduceGT, Int.reduceGE, Int.reduceEq, Int.reduceNe, Int.reduceAdd, Int.reduceSub, Int.reduceMul, Int.reduceNeg, Int.reduceToNat, Int.reduceBEq, Int.reduceBNe, Int.cast_ofNat_Int, List.getElem?_toArray, stp, Try.underlying100, Try.underlying104, Try.underlying22, Try.underlying23, Try.underlying3, Try.underlying4, Try.underlying5, Try.underlying50, cv104_3, cv5_104, cv5_3, ty22, ty100, ty104, ty23, ty3, ty4, ty5, ty50, rs51]))
  refine gw_loop2 [0, 1, 4, 6, 30, 31] (fun (i : Nat) => [(7, .int .u64 ((uval (l.take i) : Nat) : Int)), (32, .int .i64 (i : Int))]) (fun q i h' => l.length - i = q ∧ i ≤ l.length ∧ h3 = h') l.length 0 (by simp [lk, uval]) ⟨rfl, by omega, rfl⟩ ?_
  rintro _ i _ ⟨rfl, hi, rfl⟩
  by_cases hil : i < l.length
  · have d3 : decide ((i : Int) < (l.length : Int)) = true := decide_eq_true (by omega)
    obtain ⟨p4, i4, l4⟩ := q3.idx Try.underlying22 sz5 (i := (i : Int)) (by omega) (by omega)
    rw [Int.toNat_natCast] at l4
    have ov := uval_small (l := l.take i) (n := 7) (by simp; omega)
    have wb : IntKind.u64.wrap ((l.getD i 0).toNat : Int) = (l.getD i 0).toNat := wrapu64 (by omega) (by have := (l.getD i 0).toNat_lt; omega)
    have ob := or_byte (n := uval (l.take i)) (x := l.getD i 0) (by simpa using ov)
    have wi : IntKind.i64.wrap ((i : Int) + 1) = ((i + 1 : Nat) : Int) := by rw [wrap64 (by omega) (by omega)]; omega
    have us : uval (l.take i) * 256 + (l.getD i 0).toNat = uval (l.take (i + 1)) := by
      rw [List.take_add_one, List.getElem?_eq_getElem hil, Option.toList_some, uval_snoc, List.getD, List.getElem?_eq_getElem hil, Option.getD_some]
    rw [us] at ob
    (try simp only [List.map, gop, ev, lk, aenv, gyield, gBin, gInt, gStrOp, gUn, gPick, gNil, gExtract, gIfc, gConvK, gIndexO, gIndexVO, gMakeV, gMinV, gMaxV, isInt, gMin, gMax, gBlt, gCallV, gInvoke, gNilM, Array.toList_map, vcells, gField, gIndexV, gPart, reduceIte, Nat.reduceAdd, Nat.reduceSub, Nat.reduceMul, Nat.reduceLT, Nat.reduceLeDiff, Nat.reduceEqDiff, Nat.reduceBEq, Int.reduceLT, Int.reduceLE, Int.reduceGT, Int.reduceGE, Int.reduceEq, Int.reduceNe, Int.reduceAdd, Int.reduceSub, Int.reduceMul, Int.reduceNeg, Int.reduceToNat, Int.reduceBEq, Int.reduceBNe, Int.cast_ofNat_Int, List.getElem?_toArray, stp, Try.underlying100, Try.underlying104, Try.underlying22, Try.underlying23, Try.underlying3, Try.underlying4, Try.underlying5, Try.underlying50, cv104_3, cv5_104, cv5_3, ty22, ty100, ty104, ty23, ty3, ty4, ty5, ty50, rs51, d3, i4, l4, bv, wb, ob, wi]); repeat' (first | (with_reducible first | refine gw_seq ?_ | refine gw_block ?_) | ((first | (with_reducible first | refine gw_region ?_ | refine gw_if ?_ | refine gw_skip ?_ | refine gw_exit ?_ | refine gw_ret ?_) | ((with_reducible first | refine gif_b (fun hb => ?_) (fun hb => ?_) | refine want_t (fun hb => ?_) (fun hb => ?_) | refine want_f (fun hb => ?_) (fun hb => ?_)) <;> (try simp only [hb]) <;> (try simp only [hpr] at hb))) <;> try simp only [List.map, gop, ev, lk, aenv, gyield, gBin, gInt, gStrOp, gUn, gPick, gNil, gExtract, gIfc, gConvK, gIndexO, gIndexVO, gMakeV, gMinV, gMaxV, isInt, gMin, gMax, gBlt, gCallV, gInvoke, gNilM, Array.toList_map, vcells, gField, gIndexV, gPart, reduceIte, Nat.reduceAdd, Nat.reduceSub, Nat.reduceMul, Nat.reduceLT, Nat.reduceLeDiff, Nat.reduceEqDiff, Nat.reduceBEq, Int.reduceLT, Int.reduceLE, Int.reduceGT, Int.reduceGE, Int.reduceEq, Int.reduceNe, Int.reduceAdd, Int.reduceSub, Int.reduceMul, Int.reduceNeg, Int.reduceToNat, Int.reduceBEq, Int.reduceBNe, Int.cast_ofNat_Int, List.getElem?_toArray, stp, Try.underlying100, Try.underlying104, Try.underlying22, Try.underlying23, Try.underlying3, Try.underlying4, Try.underlying5, Try.underlying50, cv104_3, cv5_104, cv5_3, ty22, ty100, ty104, ty23, ty3, ty4, ty5, ty50, rs51, d3, i4, l4, bv, wb, ob, wi]))
    refine ⟨_, i + 1, ?_, (by simp only [List.forall_mem_cons, List.not_mem_nil, false_implies, implies_true, List.map, List.cons_append, List.nil_append, lk, Nat.reduceEqDiff, reduceIte, and_true, true_and]), rfl, by omega⟩
    omega
  have d3 : decide ((i : Int) < (l.length : Int)) = false := decide_eq_false (by omega)
  obtain rfl : i = l.length := by omega
  rw [List.take_length]
  have gl : ∀ b, (l[0]? = some 0 ↔ b = false) → goodU l = (b && decide (uval l ≤ 4611686018427387904)) := by
    intro b hb
    unfold goodU
    congr 1
    by_cases h : l[0]? = some 0
    · rw [hb.1 h]; simp [h]
    · cases b
      · exact absurd (hb.2 rfl) h
      · simp [h]
  have du : decide ((uval l : Int) ≤ 4611686018427387904) = decide (uval l ≤ 4611686018427387904) := by
    have : ((uval l : Int) ≤ 4611686018427387904) ↔ uval l ≤ 4611686018427387904 := by omega
    simp only [this]
  have fin : ∀ so, goodU l = so → (GTri Try.prog N 65 [.pointer (some ⟨k, 0, none⟩), .bool so, .int .i64 5] h3 fun v h' => v = .bool ((s3.ok (goodU l) 5).e == 0) ∧ RD h' k (s3.ok (goodU l) 5) ∧ HX k h3 h') := fun so e => by
    rw [e]; exact c_ok N h3 r3 so 5
  have key : l = [] ∨ (l ≠ [] ∧ l[0]? = some 0) ∨ (l ≠ [] ∧ ¬ l[0]? = some 0) := by
    by_cases h1 : l = []
    · exact .inl h1
    · by_cases h2 : l[0]? = some 0
      · exact .inr (.inl ⟨h1, h2⟩)
      · exact .inr (.inr ⟨h1, h2⟩)
  have ne0 : l ≠ [] → 0 < l.length := fun h => List.length_pos_iff.2 h
  rcases key with c | ⟨c, z⟩ | ⟨c, z⟩
  have de : ((l.length : Int) == 0) = true := by rw [c]; rfl
  (try simp only [List.map, gop, ev, lk, aenv, gyield, gBin, gInt, gStrOp, gUn, gPick, gNil, gExtract, gIfc, gConvK, gIndexO, gIndexVO, gMakeV, gMinV, gMaxV, isInt, gMin, gMax, gBlt, gCallV, gInvoke, gNilM, Array.toList_map, vcells, gField, gIndexV, gPart, reduceIte, Nat.reduceAdd, Nat.reduceSub, Nat.reduceMul, Nat.reduceLT, Nat.reduceLeDiff, Nat.reduceEqDiff, Nat.reduceBEq, Int.reduceLT, Int.reduceLE, Int.reduceGT, Int.reduceGE, Int.reduceEq, Int.reduceNe, Int.reduceAdd, Int.reduceSub, Int.reduceMul, Int.reduceNeg, Int.reduceToNat, Int.reduceBEq, Int.reduceBNe, Int.cast_ofNat_Int, List.getElem?_toArray, stp, Try.underlying100, Try.underlying104, Try.underlying22, Try.underlying23, Try.underlying3, Try.underlying4, Try.underlying5, Try.underlying50, cv104_3, cv5_104, cv5_3, ty22, ty100, ty104, ty23, ty3, ty4, ty5, ty50, rs51, d3, de, du]); repeat' (first | (with_reducible first | refine gw_seq ?_ | refine gw_block ?_) | ((first | (with_reducible first | refine gw_region ?_ | refine gw_if ?_ | refine gw_skip ?_ | refine gw_exit ?_ | refine gw_ret ?_) | ((with_reducible first | refine gif_b (fun hb => ?_) (fun hb => ?_) | refine want_t (fun hb => ?_) (fun hb => ?_) | refine want_f (fun hb => ?_) (fun hb => ?_)) <;> (try simp only [hb]) <;> (try simp only [hpr] at hb))) <;> try simp only [List.map, gop, ev, lk, aenv, gyield, gBin, gInt, gStrOp, gUn, gPick, gNil, gExtract, gIfc, gConvK, gIndexO, gIndexVO, gMakeV, gMinV, gMaxV, isInt, gMin, gMax, gBlt, gCallV, gInvoke, gNilM, Array.toList_map, vcells, gField, gIndexV, gPart, reduceIte, Nat.reduceAdd, Nat.reduceSub, Nat.reduceMul, Nat.reduceLT, Nat.reduceLeDiff, Nat.reduceEqDiff, Nat.reduceBEq, Int.reduceLT, Int.reduceLE, Int.reduceGT, Int.reduceGE, Int.reduceEq, Int.reduceNe, Int.reduceAdd, Int.reduceSub, Int.reduceMul, Int.reduceNeg, Int.reduceToNat, Int.reduceBEq, Int.reduceBNe, Int.cast_ofNat_Int, List.getElem?_toArray, stp, Try.underlying100, Try.underlying104, Try.underlying22, Try.underlying23, Try.underlying3, Try.underlying4, Try.underlying5, Try.underlying50, cv104_3, cv5_104, cv5_3, ty22, ty100, ty104, ty23, ty3, ty4, ty5, ty50, rs51, d3, de, du]))
  refine (fin (decide (uval l ≤ 4611686018427387904)) (by rw [gl true (by rw [c]; simp), Bool.true_and])).mono ?_
  rotate_left
  have de : ((l.length : Int) == 0) = false := by have := ne0 c; simp; omega
  obtain ⟨p5, i5, l5⟩ := q3.idx Try.underlying22 sz5 (i := 0) (by omega) (by have := ne0 c; omega)
  rw [Int.toNat_zero, List.getD, z, Option.getD_some] at l5
  (try simp only [List.map, gop, ev, lk, aenv, gyield, gBin, gInt, gStrOp, gUn, gPick, gNil, gExtract, gIfc, gConvK, gIndexO, gIndexVO, gMakeV, gMinV, gMaxV, isInt, gMin, gMax, gBlt, gCallV, gInvoke, gNilM, Array.toList_map, vcells, gField, gIndexV, gPart, reduceIte, Nat.reduceAdd, Nat.reduceSub, Nat.reduceMul, Nat.reduceLT, Nat.reduceLeDiff, Nat.reduceEqDiff, Nat.reduceBEq, Int.reduceLT, Int.reduceLE, Int.reduceGT, Int.reduceGE, Int.reduceEq, Int.reduceNe, Int.reduceAdd, Int.reduceSub, Int.reduceMul, Int.reduceNeg, Int.reduceToNat, Int.reduceBEq, Int.reduceBNe, Int.cast_ofNat_Int, List.getElem?_toArray, stp, Try.underlying100, Try.underlying104, Try.underlying22, Try.underlying23, Try.underlying3, Try.underlying4, Try.underlying5, Try.underlying50, cv104_3, cv5_104, cv5_3, ty22, ty100, ty104, ty23, ty3, ty4, ty5, ty50, rs51, d3, de, du, i5, l5, bv, show (((0 : UInt8).toNat : Int) != 0) = false from rfl]); repeat' (first | (with_reducible first | refine gw_seq ?_ | refine gw_block ?_) | ((first | (with_reducible first | refine gw_region ?_ | refine gw_if ?_ | refine gw_skip ?_ | refine gw_exit ?_ | refine gw_ret ?_) | ((with_reducible first | refine gif_b (fun hb => ?_) (fun hb => ?_) | refine want_t (fun hb => ?_) (fun hb => ?_) | refine want_f (fun hb => ?_) (fun hb => ?_)) <;> (try simp only [hb]) <;> (try simp only [hpr] at hb))) <;> try simp only [List.map, gop, ev, lk, aenv, gyield, gBin, gInt, gStrOp, gUn, gPick, gNil, gExtract, gIfc, gConvK, gIndexO, gIndexVO, gMakeV, gMinV, gMaxV, isInt, gMin, gMax, gBlt, gCallV, gInvoke, gNilM, Array.toList_map, vcells, gField, gIndexV, gPart, reduceIte, Nat.reduceAdd, Nat.reduceSub, Nat.reduceMul, Nat.reduceLT, Nat.reduceLeDiff, Nat.reduceEqDiff, Nat.reduceBEq, Int.reduceLT, Int.reduceLE, Int.reduceGT, Int.reduceGE, Int.reduceEq, Int.reduceNe, Int.reduceAdd, Int.reduceSub, Int.reduceMul, Int.reduceNeg, Int.reduceToNat, Int.reduceBEq, Int.reduceBNe, Int.cast_ofNat_Int, List.getElem?_toArray, stp, Try.underlying100, Try.underlying104, Try.underlying22, Try.underlying23, Try.underlying3, Try.underlying4, Try.underlying5, Try.underlying50, cv104_3, cv5_104, cv5_3, ty22, ty100, ty104, ty23, ty3, ty4, ty5, ty50, rs51, d3, de, du, i5, l5, bv, show (((0 : UInt8).toNat : Int) != 0) = false from rfl]))
  refine (fin false (by rw [gl false (by simp [z]), Bool.false_and])).mono ?_
  rotate_left
  have de : ((l.length : Int) == 0) = false := by have := ne0 c; simp; omega
  obtain ⟨p5, i5, l5⟩ := q3.idx Try.underlying22 sz5 (i := 0) (by omega) (by have := ne0 c; omega)
  rw [Int.toNat_zero] at l5
  have dz : (((l.getD 0 0).toNat : Int) != 0) = true := by
    simp only [bne_iff_ne, ne_eq]
    intro e
    apply z
    have e2 : (l.getD 0 0) = 0 := UInt8.toNat_inj.1 (by simpa using e)
    rw [List.getElem?_eq_getElem (ne0 c)]
    rw [List.getD, List.getElem?_eq_getElem (ne0 c), Option.getD_some] at e2
    rw [e2]
  (try simp only [List.map, gop, ev, lk, aenv, gyield, gBin, gInt, gStrOp, gUn, gPick, gNil, gExtract, gIfc, gConvK, gIndexO, gIndexVO, gMakeV, gMinV, gMaxV, isInt, gMin, gMax, gBlt, gCallV, gInvoke, gNilM, Array.toList_map, vcells, gField, gIndexV, gPart, reduceIte, Nat.reduceAdd, Nat.reduceSub, Nat.reduceMul, Nat.reduceLT, Nat.reduceLeDiff, Nat.reduceEqDiff, Nat.reduceBEq, Int.reduceLT, Int.reduceLE, Int.reduceGT, Int.reduceGE, Int.reduceEq, Int.reduceNe, Int.reduceAdd, Int.reduceSub, Int.reduceMul, Int.reduceNeg, Int.reduceToNat, Int.reduceBEq, Int.reduceBNe, Int.cast_ofNat_Int, List.getElem?_toArray, stp, Try.underlying100, Try.underlying104, Try.underlying22, Try.underlying23, Try.underlying3, Try.underlying4, Try.underlying5, Try.underlying50, cv104_3, cv5_104, cv5_3, ty22, ty100, ty104, ty23, ty3, ty4, ty5, ty50, rs51, d3, de, du, i5, l5, bv, dz]); repeat' (first | (with_reducible first | refine gw_seq ?_ | refine gw_block ?_) | ((first | (with_reducible first | refine gw_region ?_ | refine gw_if ?_ | refine gw_skip ?_ | refine gw_exit ?_ | refine gw_ret ?_) | ((with_reducible first | refine gif_b (fun hb => ?_) (fun hb => ?_) | refine want_t (fun hb => ?_) (fun hb => ?_) | refine want_f (fun hb => ?_) (fun hb => ?_)) <;> (try simp only [hb]) <;> (try simp only [hpr] at hb))) <;> try simp only [List.map, gop, ev, lk, aenv, gyield, gBin, gInt, gStrOp, gUn, gPick, gNil, gExtract, gIfc, gConvK, gIndexO, gIndexVO, gMakeV, gMinV, gMaxV, isInt, gMin, gMax, gBlt, gCallV, gInvoke, gNilM, Array.toList_map, vcells, gField, gIndexV, gPart, reduceIte, Nat.reduceAdd, Nat.reduceSub, Nat.reduceMul, Nat.reduceLT, Nat.reduceLeDiff, Nat.reduceEqDiff, Nat.reduceBEq, Int.reduceLT, Int.reduceLE, Int.reduceGT, Int.reduceGE, Int.reduceEq, Int.reduceNe, Int.reduceAdd, Int.reduceSub, Int.reduceMul, Int.reduceNeg, Int.reduceToNat, Int.reduceBEq, Int.reduceBNe, Int.cast_ofNat_Int, List.getElem?_toArray, stp, Try.underlying100, Try.underlying104, Try.underlying22, Try.underlying23, Try.underlying3, Try.underlying4, Try.underlying5, Try.underlying50, cv104_3, cv5_104, cv5_3, ty22, ty100, ty104, ty23, ty3, ty4, ty5, ty50, rs51, d3, de, du, i5, l5, bv, dz]))
  refine (fin (decide (uval l ≤ 4611686018427387904)) (by rw [gl true (by simp [z]), Bool.true_and])).mono ?_
  rotate_left
  all_goals
    clear gl fin
    rintro _ h4 ⟨rfl, r4, x4⟩
    replace x4 := x3.trans x4
    by_cases he4 : (s3.ok (goodU l) 5).e = 0
    case neg =>
      have d4 : ((s3.ok (goodU l) 5).e == 0) = false := by simpa using he4
      (try simp only [List.map, gop, ev, lk, aenv, gyield, gBin, gInt, gStrOp, gUn, gPick, gNil, gExtract, gIfc, gConvK, gIndexO, gIndexVO, gMakeV, gMinV, gMaxV, isInt, gMin, gMax, gBlt, gCallV, gInvoke, gNilM, Array.toList_map, vcells, gField, gIndexV, gPart, reduceIte, Nat.reduceAdd, Nat.reduceSub, Nat.reduceMul, Nat.reduceLT, Nat.reduceLeDiff, Nat.reduceEqDiff, Nat.reduceBEq, Int.reduceLT, Int.reduceLE, Int.reduceGT, Int.reduceGE, Int.reduceEq, Int.reduceNe, Int.reduceAdd, Int.reduceSub, Int.reduceMul, Int.reduceNeg, Int.reduceToNat, Int.reduceBEq, Int.reduceBNe, Int.cast_ofNat_Int, List.getElem?_toArray, stp, Try.underlying100, Try.underlying104, Try.underlying22, Try.underlying23, Try.underlying3, Try.underlying4, Try.underlying5, Try.underlying50, cv104_3, cv5_104, cv5_3, ty22, ty100, ty104, ty23, ty3, ty4, ty5, ty50, rs51, d4, gUn]); repeat' (first | (with_reducible first | refine gw_seq ?_ | refine gw_block ?_) | ((first | (with_reducible first | refine gw_region ?_ | refine gw_if ?_ | refine gw_skip ?_ | refine gw_exit ?_ | refine gw_ret ?_) | ((with_reducible first | refine gif_b (fun hb => ?_) (fun hb => ?_) | refine want_t (fun hb => ?_) (fun hb => ?_) | refine want_f (fun hb => ?_) (fun hb => ?_)) <;> (try simp only [hb]) <;> (try simp only [hpr] at hb))) <;> try simp only [List.map, gop, ev, lk, aenv, gyield, gBin, gInt, gStrOp, gUn, gPick, gNil, gExtract, gIfc, gConvK, gIndexO, gIndexVO, gMakeV, gMinV, gMaxV, isInt, gMin, gMax, gBlt, gCallV, gInvoke, gNilM, Array.toList_map, vcells, gField, gIndexV, gPart, reduceIte, Nat.reduceAdd, Nat.reduceSub, Nat.reduceMul, Nat.reduceLT, Nat.reduceLeDiff, Nat.reduceEqDiff, Nat.reduceBEq, Int.reduceLT, Int.reduceLE, Int.reduceGT, Int.reduceGE, Int.reduceEq, Int.reduceNe, Int.reduceAdd, Int.reduceSub, Int.reduceMul, Int.reduceNeg, Int.reduceToNat, Int.reduceBEq, Int.reduceBNe, Int.cast_ofNat_Int, List.getElem?_toArray, stp, Try.underlying100, Try.underlying104, Try.underlying22, Try.underlying23, Try.underlying3, Try.underlying4, Try.underlying5, Try.underlying50, cv104_3, cv5_104, cv5_3, ty22, ty100, ty104, ty23, ty3, ty4, ty5, ty50, rs51, d4, gUn]))
      rw [St.num, if_neg he4]
      exact ⟨rfl, r4, x4⟩
    have d4 : ((s3.ok (goodU l) 5).e == 0) = true := by simpa using he4
    obtain ⟨g4, _⟩ := St.ok_0 (by decide) he4
    have ub : uval l ≤ 4611686018427387904 := by
      unfold goodU at g4
      simp only [Bool.and_eq_true, decide_eq_true_eq] at g4
      exact g4.2
    have wu : IntKind.i64.wrap (uval l : Int) = uval l := wrap64 (by omega) (by omega)
    rw [St.num, if_pos he4]
    rw [g4, St.ok_t] at r4
    (try simp only [List.map, gop, ev, lk, aenv, gyield, gBin, gInt, gStrOp, gUn, gPick, gNil, gExtract, gIfc, gConvK, gIndexO, gIndexVO, gMakeV, gMinV, gMaxV, isInt, gMin, gMax, gBlt, gCallV, gInvoke, gNilM, Array.toList_map, vcells, gField, gIndexV, gPart, reduceIte, Nat.reduceAdd, Nat.reduceSub, Nat.reduceMul, Nat.reduceLT, Nat.reduceLeDiff, Nat.reduceEqDiff, Nat.reduceBEq, Int.reduceLT, Int.reduceLE, Int.reduceGT, Int.reduceGE, Int.reduceEq, Int.reduceNe, Int.reduceAdd, Int.reduceSub, Int.reduceMul, Int.reduceNeg, Int.reduceToNat, Int.reduceBEq, Int.reduceBNe, Int.cast_ofNat_Int, List.getElem?_toArray, stp, Try.underlying100, Try.underlying104, Try.underlying22, Try.underlying23, Try.underlying3, Try.underlying4, Try.underlying5, Try.underlying50, cv104_3, cv5_104, cv5_3, ty22, ty100, ty104, ty23, ty3, ty4, ty5, ty50, rs51, d4, gUn, wu]); repeat' (first | (with_reducible first | refine gw_seq ?_ | refine gw_block ?_) | ((first | (with_reducible first | refine gw_region ?_ | refine gw_if ?_ | refine gw_skip ?_ | refine gw_exit ?_ | refine gw_ret ?_) | ((with_reducible first | refine gif_b (fun hb => ?_) (fun hb => ?_) | refine want_t (fun hb => ?_) (fun hb => ?_) | refine want_f (fun hb => ?_) (fun hb => ?_)) <;> (try simp only [hb]) <;> (try simp only [hpr] at hb))) <;> try simp only [List.map, gop, ev, lk, aenv, gyield, gBin, gInt, gStrOp, gUn, gPick, gNil, gExtract, gIfc, gConvK, gIndexO, gIndexVO, gMakeV, gMinV, gMaxV, isInt, gMin, gMax, gBlt, gCallV, gInvoke, gNilM, Array.toList_map, vcells, gField, gIndexV, gPart, reduceIte, Nat.reduceAdd, Nat.reduceSub, Nat.reduceMul, Nat.reduceLT, Nat.reduceLeDiff, Nat.reduceEqDiff, Nat.reduceBEq, Int.reduceLT, Int.reduceLE, Int.reduceGT, Int.reduceGE, Int.reduceEq, Int.reduceNe, Int.reduceAdd, Int.reduceSub, Int.reduceMul, Int.reduceNeg, Int.reduceToNat, Int.reduceBEq, Int.reduceBNe, Int.cast_ofNat_Int, List.getElem?_toArray, stp, Try.underlying100, Try.underlying104, Try.underlying22, Try.underlying23, Try.underlying3, Try.underlying4, Try.underlying5, Try.underlying50, cv104_3, cv5_104, cv5_3, ty22, ty100, ty104, ty23, ty3, ty4, ty5, ty50, rs51, d4, gUn, wu]))
    refine (c_ok N h4 r4 (decide ((uval l : Int) ≤ most)) 4).mono ?_
    rintro _ h6 ⟨rfl, r6, x6⟩
    replace x6 := x4.trans x6
    by_cases he6 : (s3.ok (decide ((uval l : Int) ≤ most)) 4).e = 0
    · have d6 : ((s3.ok (decide ((uval l : Int) ≤ most)) 4).e == 0) = true := by simpa using he6
      obtain ⟨g6, _⟩ := St.ok_0 (by decide) he6
      (try simp only [List.map, gop, ev, lk, aenv, gyield, gBin, gInt, gStrOp, gUn, gPick, gNil, gExtract, gIfc, gConvK, gIndexO, gIndexVO, gMakeV, gMinV, gMaxV, isInt, gMin, gMax, gBlt, gCallV, gInvoke, gNilM, Array.toList_map, vcells, gField, gIndexV, gPart, reduceIte, Nat.reduceAdd, Nat.reduceSub, Nat.reduceMul, Nat.reduceLT, Nat.reduceLeDiff, Nat.reduceEqDiff, Nat.reduceBEq, Int.reduceLT, Int.reduceLE, Int.reduceGT, Int.reduceGE, Int.reduceEq, Int.reduceNe, Int.reduceAdd, Int.reduceSub, Int.reduceMul, Int.reduceNeg, Int.reduceToNat, Int.reduceBEq, Int.reduceBNe, Int.cast_ofNat_Int, List.getElem?_toArray, stp, Try.underlying100, Try.underlying104, Try.underlying22, Try.underlying23, Try.underlying3, Try.underlying4, Try.underlying5, Try.underlying50, cv104_3, cv5_104, cv5_3, ty22, ty100, ty104, ty23, ty3, ty4, ty5, ty50, rs51, d6, gUn, wu]); repeat' (first | (with_reducible first | refine gw_seq ?_ | refine gw_block ?_) | ((first | (with_reducible first | refine gw_region ?_ | refine gw_if ?_ | refine gw_skip ?_ | refine gw_exit ?_ | refine gw_ret ?_) | ((with_reducible first | refine gif_b (fun hb => ?_) (fun hb => ?_) | refine want_t (fun hb => ?_) (fun hb => ?_) | refine want_f (fun hb => ?_) (fun hb => ?_)) <;> (try simp only [hb]) <;> (try simp only [hpr] at hb))) <;> try simp only [List.map, gop, ev, lk, aenv, gyield, gBin, gInt, gStrOp, gUn, gPick, gNil, gExtract, gIfc, gConvK, gIndexO, gIndexVO, gMakeV, gMinV, gMaxV, isInt, gMin, gMax, gBlt, gCallV, gInvoke, gNilM, Array.toList_map, vcells, gField, gIndexV, gPart, reduceIte, Nat.reduceAdd, Nat.reduceSub, Nat.reduceMul, Nat.reduceLT, Nat.reduceLeDiff, Nat.reduceEqDiff, Nat.reduceBEq, Int.reduceLT, Int.reduceLE, Int.reduceGT, Int.reduceGE, Int.reduceEq, Int.reduceNe, Int.reduceAdd, Int.reduceSub, Int.reduceMul, Int.reduceNeg, Int.reduceToNat, Int.reduceBEq, Int.reduceBNe, Int.cast_ofNat_Int, List.getElem?_toArray, stp, Try.underlying100, Try.underlying104, Try.underlying22, Try.underlying23, Try.underlying3, Try.underlying4, Try.underlying5, Try.underlying50, cv104_3, cv5_104, cv5_3, ty22, ty100, ty104, ty23, ty3, ty4, ty5, ty50, rs51, d6, gUn, wu]))
      rw [if_pos he6]
      rw [g6, St.ok_t] at r6
      exact ⟨rfl, r6, x6⟩
    · have d6 : ((s3.ok (decide ((uval l : Int) ≤ most)) 4).e == 0) = false := by simpa using he6
      (try simp only [List.map, gop, ev, lk, aenv, gyield, gBin, gInt, gStrOp, gUn, gPick, gNil, gExtract, gIfc, gConvK, gIndexO, gIndexVO, gMakeV, gMinV, gMaxV, isInt, gMin, gMax, gBlt, gCallV, gInvoke, gNilM, Array.toList_map, vcells, gField, gIndexV, gPart, reduceIte, Nat.reduceAdd, Nat.reduceSub, Nat.reduceMul, Nat.reduceLT, Nat.reduceLeDiff, Nat.reduceEqDiff, Nat.reduceBEq, Int.reduceLT, Int.reduceLE, Int.reduceGT, Int.reduceGE, Int.reduceEq, Int.reduceNe, Int.reduceAdd, Int.reduceSub, Int.reduceMul, Int.reduceNeg, Int.reduceToNat, Int.reduceBEq, Int.reduceBNe, Int.cast_ofNat_Int, List.getElem?_toArray, stp, Try.underlying100, Try.underlying104, Try.underlying22, Try.underlying23, Try.underlying3, Try.underlying4, Try.underlying5, Try.underlying50, cv104_3, cv5_104, cv5_3, ty22, ty100, ty104, ty23, ty3, ty4, ty5, ty50, rs51, d6, gUn, wu]); repeat' (first | (with_reducible first | refine gw_seq ?_ | refine gw_block ?_) | ((first | (with_reducible first | refine gw_region ?_ | refine gw_if ?_ | refine gw_skip ?_ | refine gw_exit ?_ | refine gw_ret ?_) | ((with_reducible first | refine gif_b (fun hb => ?_) (fun hb => ?_) | refine want_t (fun hb => ?_) (fun hb => ?_) | refine want_f (fun hb => ?_) (fun hb => ?_)) <;> (try simp only [hb]) <;> (try simp only [hpr] at hb))) <;> try simp only [List.map, gop, ev, lk, aenv, gyield, gBin, gInt, gStrOp, gUn, gPick, gNil, gExtract, gIfc, gConvK, gIndexO, gIndexVO, gMakeV, gMinV, gMaxV, isInt, gMin, gMax, gBlt, gCallV, gInvoke, gNilM, Array.toList_map, vcells, gField, gIndexV, gPart, reduceIte, Nat.reduceAdd, Nat.reduceSub, Nat.reduceMul, Nat.reduceLT, Nat.reduceLeDiff, Nat.reduceEqDiff, Nat.reduceBEq, Int.reduceLT, Int.reduceLE, Int.reduceGT, Int.reduceGE, Int.reduceEq, Int.reduceNe, Int.reduceAdd, Int.reduceSub, Int.reduceMul, Int.reduceNeg, Int.reduceToNat, Int.reduceBEq, Int.reduceBNe, Int.cast_ofNat_Int, List.getElem?_toArray, stp, Try.underlying100, Try.underlying104, Try.underlying22, Try.underlying23, Try.underlying3, Try.underlying4, Try.underlying5, Try.underlying50, cv104_3, cv5_104, cv5_3, ty22, ty100, ty104, ty23, ty3, ty4, ty5, ty50, rs51, d6, gUn, wu]))
      rw [if_neg he6]
      exact ⟨rfl, r6, x6⟩
end Go.Gh

/- The codec's reader: the other methods. -/

namespace Go.Gh
open Go Go.Proofs Go.RowKit
set_option linter.unusedVariables false
set_option linter.unusedSimpArgs false
set_option maxRecDepth 100000

def St.bytes (s : St) (most : Int) : List UInt8 × St := (s.uint most).2.take (s.uint most).1.toNat
def St.flag (s : St) : Bool × St :=
  if (s.take 1).2.e = 0 then (((s.take 1).1.getD 0 0) == 1, (s.take 1).2.ok (decide (((s.take 1).1.getD 0 0).toNat ≤ 1)) 5) else (false, (s.take 1).2)
def St.fin (s : St) : Int := if s.e = 0 ∧ s.b ≠ [] then 5 else s.e
theorem St.ok_len (s : St) (so : Bool) (e : Int) : (s.ok so e).b.length ≤ s.b.length := by
  cases so
  · simp only [St.ok_f, St.fail]
    split
    · simp
    · omega
  · simp [St.ok_t]
theorem St.num_len (s : St) (l : List UInt8) (most : Int) : (s.num l most).2.b.length ≤ s.b.length ∧ 0 ≤ (s.num l most).1 := by
  unfold St.num
  split
  · split
    · exact ⟨Nat.le_refl _, by omega⟩
    · exact ⟨St.ok_len _ _ _, by simp⟩
  · exact ⟨St.ok_len _ _ _, by simp⟩
theorem St.uint_len (s : St) (most : Int) : (s.uint most).2.b.length ≤ s.b.length ∧ 0 ≤ (s.uint most).1 := by
  unfold St.uint
  have h1 := s.take_len 1
  split
  · unfold St.wid
    split
    · have h2 := (s.take 1).2.take_len ((s.take 1).1.getD 0 0).toNat
      have h3 := St.num_len ((s.take 1).2.take ((s.take 1).1.getD 0 0).toNat).2 ((s.take 1).2.take ((s.take 1).1.getD 0 0).toNat).1 most
      exact ⟨by omega, h3.2⟩
    · have := St.ok_len (s.take 1).2 (decide (((s.take 1).1.getD 0 0).toNat ≤ 8)) 5
      exact ⟨Nat.le_trans this h1.2, by simp⟩
  · exact ⟨h1.2, by simp⟩
theorem St.bytes_len (s : St) (most : Int) : (s.bytes most).2.b.length ≤ s.b.length := by
  have h1 := s.uint_len most
  have h2 := (s.uint most).2.take_len (s.uint most).1.toNat
  unfold St.bytes
  omega
theorem St.take_one {s : St} (h : (s.take 1).2.e = 0) : ∃ y, (s.take 1).1 = [y] := by
  obtain ⟨t1, t2, t3⟩ := St.take_0 h
  rw [t3]
  cases hs : s.b with
  | nil => rw [hs] at t2; simp at t2
  | cons y l => exact ⟨y, by simp⟩
theorem c_RBytes (N : Nat) (h : GH) {k : Nat} {s : St} (r : RD h k s) (most : Int) (hb : s.b.length ≤ 140737488355328) : GTri Try.prog N 74 [.pointer (some ⟨k, 0, none⟩), .int .i64 most] h fun v h' => RD h' k (s.bytes most).2 ∧ HX k h h' ∧ ∃ a c, v = .slice a (s.bytes most).1.length c ∧ RB h' (.slice a (s.bytes most).1.length c) (s.bytes most).1 := by
  have hu := s.uint_len most
  have hn : ((s.uint most).1.toNat : Int) = (s.uint most).1 := by omega
  refine gtri Try.func74 rfl gf74 ok74 (by simp [Try.ntmps74]) ?_
  repeat' (first | (with_reducible first | refine gw_seq ?_ | refine gw_block ?_) | ((first | (with_reducible first | refine gw_region ?_ | refine gw_if ?_ | refine gw_skip ?_ | refine gw_exit ?_ | refine gw_ret ?_) | ((with_reducible first | refine gif_b (fun hb => ?_) (fun hb => ?_) | refine want_t (fun hb => ?_) (fun hb => ?_) | refine want_f (fun hb => ?_) (fun hb => ?_)) <;> (try simp only [hb]) <;> (try simp only [hpr] at hb))) <;> try simp only [List.map, gop, ev, lk, aenv, gyield, gBin, gInt, gStrOp, gUn, gPick, gNil, gExtract, gIfc, gConvK, gIndexO, gIndexVO, gMakeV, gMinV, gMaxV, isInt, gMin, gMax, gBlt, gCallV, gInvoke, gNilM, Array.toList_map, vcells, gField, gIndexV, gPart, reduceIte, Nat.reduceAdd, Nat.reduceSub, Nat.reduceMul, Nat.reduceLT, Nat.reduceLeDiff, Nat.reduceEqDiff, Nat.reduceBEq, Int.reduceLT, Int.reduceLE, Int.reduceGT, Int.reduceGE, Int.reduceEq, Int.reduceNe, Int.reduceAdd, Int.reduceSub, Int.reduceMul, Int.reduceNeg, Int.reduceToNat, Int.reduceBEq, Int.reduceBNe, Int.cast_ofNat_Int, List.getElem?_toArray, stp, Try.underlying100, Try.underlying3, Try.underlying50, ty100, ty3, ty50, rs74]))
  refine (c_RUint N h r most hb).mono ?_
  rintro _ h1 ⟨rfl, r1, x1⟩
  have ct := c_take N h1 r1 (s.uint most).1.toNat (by omega)
  rw [hn] at ct
  (try simp only [List.map, gop, ev, lk, aenv, gyield, gBin, gInt, gStrOp, gUn, gPick, gNil, gExtract, gIfc, gConvK, gIndexO, gIndexVO, gMakeV, gMinV, gMaxV, isInt, gMin, gMax, gBlt, gCallV, gInvoke, gNilM, Array.toList_map, vcells, gField, gIndexV, gPart, reduceIte, Nat.reduceAdd, Nat.reduceSub, Nat.reduceMul, Nat.reduceLT, Nat.reduceLeDiff, Nat.reduceEqDiff, Nat.reduceBEq, Int.reduceLT, Int.reduceLE, Int.reduceGT, Int.reduceGE, Int.reduceEq, Int.reduceNe, Int.reduceAdd, Int.reduceSub, Int.reduceMul, Int.reduceNeg, Int.reduceToNat, Int.reduceBEq, Int.reduceBNe, Int.cast_ofNat_Int, List.getElem?_toArray, stp, Try.underlying100, Try.underlying3, Try.underlying50, ty100, ty3, ty50, rs74]); repeat' (first | (with_reducible first | refine gw_seq ?_ | refine gw_block ?_) | ((first | (with_reducible first | refine gw_region ?_ | refine gw_if ?_ | refine gw_skip ?_ | refine gw_exit ?_ | refine gw_ret ?_) | ((with_reducible first | refine gif_b (fun hb => ?_) (fun hb => ?_) | refine want_t (fun hb => ?_) (fun hb => ?_) | refine want_f (fun hb => ?_) (fun hb => ?_)) <;> (try simp only [hb]) <;> (try simp only [hpr] at hb))) <;> try simp only [List.map, gop, ev, lk, aenv, gyield, gBin, gInt, gStrOp, gUn, gPick, gNil, gExtract, gIfc, gConvK, gIndexO, gIndexVO, gMakeV, gMinV, gMaxV, isInt, gMin, gMax, gBlt, gCallV, gInvoke, gNilM, Array.toList_map, vcells, gField, gIndexV, gPart, reduceIte, Nat.reduceAdd, Nat.reduceSub, Nat.reduceMul, Nat.reduceLT, Nat.reduceLeDiff, Nat.reduceEqDiff, Nat.reduceBEq, Int.reduceLT, Int.reduceLE, Int.reduceGT, Int.reduceGE, Int.reduceEq, Int.reduceNe, Int.reduceAdd, Int.reduceSub, Int.reduceMul, Int.reduceNeg, Int.reduceToNat, Int.reduceBEq, Int.reduceBNe, Int.cast_ofNat_Int, List.getElem?_toArray, stp, Try.underlying100, Try.underlying3, Try.underlying50, ty100, ty3, ty50, rs74]))
  refine ct.mono ?_
  rintro _ h2 ⟨r2, x2, a2, c2, rfl, q2, _⟩
  (try simp only [List.map, gop, ev, lk, aenv, gyield, gBin, gInt, gStrOp, gUn, gPick, gNil, gExtract, gIfc, gConvK, gIndexO, gIndexVO, gMakeV, gMinV, gMaxV, isInt, gMin, gMax, gBlt, gCallV, gInvoke, gNilM, Array.toList_map, vcells, gField, gIndexV, gPart, reduceIte, Nat.reduceAdd, Nat.reduceSub, Nat.reduceMul, Nat.reduceLT, Nat.reduceLeDiff, Nat.reduceEqDiff, Nat.reduceBEq, Int.reduceLT, Int.reduceLE, Int.reduceGT, Int.reduceGE, Int.reduceEq, Int.reduceNe, Int.reduceAdd, Int.reduceSub, Int.reduceMul, Int.reduceNeg, Int.reduceToNat, Int.reduceBEq, Int.reduceBNe, Int.cast_ofNat_Int, List.getElem?_toArray, stp, Try.underlying100, Try.underlying3, Try.underlying50, ty100, ty3, ty50, rs74]); repeat' (first | (with_reducible first | refine gw_seq ?_ | refine gw_block ?_) | ((first | (with_reducible first | refine gw_region ?_ | refine gw_if ?_ | refine gw_skip ?_ | refine gw_exit ?_ | refine gw_ret ?_) | ((with_reducible first | refine gif_b (fun hb => ?_) (fun hb => ?_) | refine want_t (fun hb => ?_) (fun hb => ?_) | refine want_f (fun hb => ?_) (fun hb => ?_)) <;> (try simp only [hb]) <;> (try simp only [hpr] at hb))) <;> try simp only [List.map, gop, ev, lk, aenv, gyield, gBin, gInt, gStrOp, gUn, gPick, gNil, gExtract, gIfc, gConvK, gIndexO, gIndexVO, gMakeV, gMinV, gMaxV, isInt, gMin, gMax, gBlt, gCallV, gInvoke, gNilM, Array.toList_map, vcells, gField, gIndexV, gPart, reduceIte, Nat.reduceAdd, Nat.reduceSub, Nat.reduceMul, Nat.reduceLT, Nat.reduceLeDiff, Nat.reduceEqDiff, Nat.reduceBEq, Int.reduceLT, Int.reduceLE, Int.reduceGT, Int.reduceGE, Int.reduceEq, Int.reduceNe, Int.reduceAdd, Int.reduceSub, Int.reduceMul, Int.reduceNeg, Int.reduceToNat, Int.reduceBEq, Int.reduceBNe, Int.cast_ofNat_Int, List.getElem?_toArray, stp, Try.underlying100, Try.underlying3, Try.underlying50, ty100, ty3, ty50, rs74]))
  exact ⟨r2, x1.trans x2, a2, c2, rfl, q2⟩
theorem c_RFlag (N : Nat) (h : GH) {k : Nat} {s : St} (r : RD h k s) (hb : s.b.length ≤ 140737488355328) : GTri Try.prog N 27 [.pointer (some ⟨k, 0, none⟩)] h fun v h' => v = .bool s.flag.1 ∧ RD h' k s.flag.2 ∧ HX k h h' := by
  refine gtri Try.func27 rfl gf27 ok27 (by simp [Try.ntmps27]) ?_
  repeat' (first | (with_reducible first | refine gw_seq ?_ | refine gw_block ?_) | ((first | (with_reducible first | refine gw_region ?_ | refine gw_if ?_ | refine gw_skip ?_ | refine gw_exit ?_ | refine gw_ret ?_) | ((with_reducible first | refine gif_b (fun hb => ?_) (fun hb => ?_) | refine want_t (fun hb => ?_) (fun hb => ?_) | refine want_f (fun hb => ?_) (fun hb => ?_)) <;> (try simp only [hb]) <;> (try simp only [hpr] at hb))) <;> try simp only [List.map, gop, ev, lk, aenv, gyield, gBin, gInt, gStrOp, gUn, gPick, gNil, gExtract, gIfc, gConvK, gIndexO, gIndexVO, gMakeV, gMinV, gMaxV, isInt, gMin, gMax, gBlt, gCallV, gInvoke, gNilM, Array.toList_map, vcells, gField, gIndexV, gPart, reduceIte, Nat.reduceAdd, Nat.reduceSub, Nat.reduceMul, Nat.reduceLT, Nat.reduceLeDiff, Nat.reduceEqDiff, Nat.reduceBEq, Int.reduceLT, Int.reduceLE, Int.reduceGT, Int.reduceGE, Int.reduceEq, Int.reduceNe, Int.reduceAdd, Int.reduceSub, Int.reduceMul, Int.reduceNeg, Int.reduceToNat, Int.reduceBEq, Int.reduceBNe, Int.cast_ofNat_Int, List.getElem?_toArray, stp, Try.underlying100, Try.underlying22, Try.underlying23, Try.underlying3, Try.underlying4, Try.underlying5, Try.underlying50, ty22, ty100, ty23, ty3, ty4, ty5, ty50, rs27]))
  refine (c_take N h r 1 hb).mono ?_
  rintro _ h1 ⟨r1, x1, a1, c1, rfl, q1, n1⟩
  by_cases he : (s.take 1).2.e = 0
  case neg =>
    obtain rfl := n1 he
    (try simp only [List.map, gop, ev, lk, aenv, gyield, gBin, gInt, gStrOp, gUn, gPick, gNil, gExtract, gIfc, gConvK, gIndexO, gIndexVO, gMakeV, gMinV, gMaxV, isInt, gMin, gMax, gBlt, gCallV, gInvoke, gNilM, Array.toList_map, vcells, gField, gIndexV, gPart, reduceIte, Nat.reduceAdd, Nat.reduceSub, Nat.reduceMul, Nat.reduceLT, Nat.reduceLeDiff, Nat.reduceEqDiff, Nat.reduceBEq, Int.reduceLT, Int.reduceLE, Int.reduceGT, Int.reduceGE, Int.reduceEq, Int.reduceNe, Int.reduceAdd, Int.reduceSub, Int.reduceMul, Int.reduceNeg, Int.reduceToNat, Int.reduceBEq, Int.reduceBNe, Int.cast_ofNat_Int, List.getElem?_toArray, stp, Try.underlying100, Try.underlying22, Try.underlying23, Try.underlying3, Try.underlying4, Try.underlying5, Try.underlying50, ty22, ty100, ty23, ty3, ty4, ty5, ty50, rs27, Option.isNone_none]); repeat' (first | (with_reducible first | refine gw_seq ?_ | refine gw_block ?_) | ((first | (with_reducible first | refine gw_region ?_ | refine gw_if ?_ | refine gw_skip ?_ | refine gw_exit ?_ | refine gw_ret ?_) | ((with_reducible first | refine gif_b (fun hb => ?_) (fun hb => ?_) | refine want_t (fun hb => ?_) (fun hb => ?_) | refine want_f (fun hb => ?_) (fun hb => ?_)) <;> (try simp only [hb]) <;> (try simp only [hpr] at hb))) <;> try simp only [List.map, gop, ev, lk, aenv, gyield, gBin, gInt, gStrOp, gUn, gPick, gNil, gExtract, gIfc, gConvK, gIndexO, gIndexVO, gMakeV, gMinV, gMaxV, isInt, gMin, gMax, gBlt, gCallV, gInvoke, gNilM, Array.toList_map, vcells, gField, gIndexV, gPart, reduceIte, Nat.reduceAdd, Nat.reduceSub, Nat.reduceMul, Nat.reduceLT, Nat.reduceLeDiff, Nat.reduceEqDiff, Nat.reduceBEq, Int.reduceLT, Int.reduceLE, Int.reduceGT, Int.reduceGE, Int.reduceEq, Int.reduceNe, Int.reduceAdd, Int.reduceSub, Int.reduceMul, Int.reduceNeg, Int.reduceToNat, Int.reduceBEq, Int.reduceBNe, Int.cast_ofNat_Int, List.getElem?_toArray, stp, Try.underlying100, Try.underlying22, Try.underlying23, Try.underlying3, Try.underlying4, Try.underlying5, Try.underlying50, ty22, ty100, ty23, ty3, ty4, ty5, ty50, rs27, Option.isNone_none]))
    unfold St.flag
    rw [if_neg he]
    exact ⟨rfl, r1, x1⟩
  obtain ⟨y, hy⟩ := St.take_one he
  have un : s.flag = (y == 1, (s.take 1).2.ok (decide (y.toNat ≤ 1)) 5) := by unfold St.flag; rw [if_pos he, hy]; rfl
  rw [un]
  rw [hy] at q1
  replace q1 : RB h1 (.slice a1 1 c1) [y] := q1
  simp only [hy]
  generalize (s.take 1).2 = s1 at *
  obtain ⟨ad1, rfl⟩ : ∃ ad, a1 = some ad := by
    cases a1 with
    | none => have := q1.isnil rfl; cases this
    | some ad => exact ⟨ad, rfl⟩
  obtain ⟨p, i1, l1⟩ := q1.idx Try.underlying22 sz5 (i := 0) (by omega) (by simp)
  simp only [Int.toNat_zero, List.getD_cons_zero] at l1
  have dy : decide ((y.toNat : Int) ≤ 1) = decide (y.toNat ≤ 1) := by
    have : ((y.toNat : Int) ≤ 1) ↔ y.toNat ≤ 1 := by omega
    simp only [this]
  (try simp only [List.map, gop, ev, lk, aenv, gyield, gBin, gInt, gStrOp, gUn, gPick, gNil, gExtract, gIfc, gConvK, gIndexO, gIndexVO, gMakeV, gMinV, gMaxV, isInt, gMin, gMax, gBlt, gCallV, gInvoke, gNilM, Array.toList_map, vcells, gField, gIndexV, gPart, reduceIte, Nat.reduceAdd, Nat.reduceSub, Nat.reduceMul, Nat.reduceLT, Nat.reduceLeDiff, Nat.reduceEqDiff, Nat.reduceBEq, Int.reduceLT, Int.reduceLE, Int.reduceGT, Int.reduceGE, Int.reduceEq, Int.reduceNe, Int.reduceAdd, Int.reduceSub, Int.reduceMul, Int.reduceNeg, Int.reduceToNat, Int.reduceBEq, Int.reduceBNe, Int.cast_ofNat_Int, List.getElem?_toArray, stp, Try.underlying100, Try.underlying22, Try.underlying23, Try.underlying3, Try.underlying4, Try.underlying5, Try.underlying50, ty22, ty100, ty23, ty3, ty4, ty5, ty50, rs27, Option.isNone_some, i1, l1, bv, dy]); repeat' (first | (with_reducible first | refine gw_seq ?_ | refine gw_block ?_) | ((first | (with_reducible first | refine gw_region ?_ | refine gw_if ?_ | refine gw_skip ?_ | refine gw_exit ?_ | refine gw_ret ?_) | ((with_reducible first | refine gif_b (fun hb => ?_) (fun hb => ?_) | refine want_t (fun hb => ?_) (fun hb => ?_) | refine want_f (fun hb => ?_) (fun hb => ?_)) <;> (try simp only [hb]) <;> (try simp only [hpr] at hb))) <;> try simp only [List.map, gop, ev, lk, aenv, gyield, gBin, gInt, gStrOp, gUn, gPick, gNil, gExtract, gIfc, gConvK, gIndexO, gIndexVO, gMakeV, gMinV, gMaxV, isInt, gMin, gMax, gBlt, gCallV, gInvoke, gNilM, Array.toList_map, vcells, gField, gIndexV, gPart, reduceIte, Nat.reduceAdd, Nat.reduceSub, Nat.reduceMul, Nat.reduceLT, Nat.reduceLeDiff, Nat.reduceEqDiff, Nat.reduceBEq, Int.reduceLT, Int.reduceLE, Int.reduceGT, Int.reduceGE, Int.reduceEq, Int.reduceNe, Int.reduceAdd, Int.reduceSub, Int.reduceMul, Int.reduceNeg, Int.reduceToNat, Int.reduceBEq, Int.reduceBNe, Int.cast_ofNat_Int, List.getElem?_toArray, stp, Try.underlying100, Try.underlying22, Try.underlying23, Try.underlying3, Try.underlying4, Try.underlying5, Try.underlying50, ty22, ty100, ty23, ty3, ty4, ty5, ty50, rs27, Option.isNone_some, i1, l1, bv, dy]))
  refine (c_ok N h1 r1 (decide (y.toNat ≤ 1)) 5).mono ?_
  rintro _ h2 ⟨rfl, r2, x2⟩
  have q2 := q1.rd r1 x2
  replace x2 := x1.trans x2
  obtain ⟨p2, i2, l2⟩ := q2.idx Try.underlying22 sz5 (i := 0) (by omega) (by simp)
  simp only [Int.toNat_zero, List.getD_cons_zero] at l2
  have dq : ((y.toNat : Int) == 1) = (y == 1) := by
    rw [Bool.eq_iff_iff]
    simp only [beq_iff_eq]
    constructor
    · intro e; exact UInt8.toNat_inj.1 (by show y.toNat = 1; omega)
    · rintro rfl; rfl
  by_cases he2 : (s1.ok (decide (y.toNat ≤ 1)) 5).e = 0
  · have d2 : ((s1.ok (decide (y.toNat ≤ 1)) 5).e == 0) = true := by simpa using he2
    (try simp only [List.map, gop, ev, lk, aenv, gyield, gBin, gInt, gStrOp, gUn, gPick, gNil, gExtract, gIfc, gConvK, gIndexO, gIndexVO, gMakeV, gMinV, gMaxV, isInt, gMin, gMax, gBlt, gCallV, gInvoke, gNilM, Array.toList_map, vcells, gField, gIndexV, gPart, reduceIte, Nat.reduceAdd, Nat.reduceSub, Nat.reduceMul, Nat.reduceLT, Nat.reduceLeDiff, Nat.reduceEqDiff, Nat.reduceBEq, Int.reduceLT, Int.reduceLE, Int.reduceGT, Int.reduceGE, Int.reduceEq, Int.reduceNe, Int.reduceAdd, Int.reduceSub, Int.reduceMul, Int.reduceNeg, Int.reduceToNat, Int.reduceBEq, Int.reduceBNe, Int.cast_ofNat_Int, List.getElem?_toArray, stp, Try.underlying100, Try.underlying22, Try.underlying23, Try.underlying3, Try.underlying4, Try.underlying5, Try.underlying50, ty22, ty100, ty23, ty3, ty4, ty5, ty50, rs27, d2, i2, l2, bv, dq]); repeat' (first | (with_reducible first | refine gw_seq ?_ | refine gw_block ?_) | ((first | (with_reducible first | refine gw_region ?_ | refine gw_if ?_ | refine gw_skip ?_ | refine gw_exit ?_ | refine gw_ret ?_) | ((with_reducible first | refine gif_b (fun hb => ?_) (fun hb => ?_) | refine want_t (fun hb => ?_) (fun hb => ?_) | refine want_f (fun hb => ?_) (fun hb => ?_)) <;> (try simp only [hb]) <;> (try simp only [hpr] at hb))) <;> try simp only [List.map, gop, ev, lk, aenv, gyield, gBin, gInt, gStrOp, gUn, gPick, gNil, gExtract, gIfc, gConvK, gIndexO, gIndexVO, gMakeV, gMinV, gMaxV, isInt, gMin, gMax, gBlt, gCallV, gInvoke, gNilM, Array.toList_map, vcells, gField, gIndexV, gPart, reduceIte, Nat.reduceAdd, Nat.reduceSub, Nat.reduceMul, Nat.reduceLT, Nat.reduceLeDiff, Nat.reduceEqDiff, Nat.reduceBEq, Int.reduceLT, Int.reduceLE, Int.reduceGT, Int.reduceGE, Int.reduceEq, Int.reduceNe, Int.reduceAdd, Int.reduceSub, Int.reduceMul, Int.reduceNeg, Int.reduceToNat, Int.reduceBEq, Int.reduceBNe, Int.cast_ofNat_Int, List.getElem?_toArray, stp, Try.underlying100, Try.underlying22, Try.underlying23, Try.underlying3, Try.underlying4, Try.underlying5, Try.underlying50, ty22, ty100, ty23, ty3, ty4, ty5, ty50, rs27, d2, i2, l2, bv, dq]))
    exact ⟨r2, x2⟩
  · have d2 : ((s1.ok (decide (y.toNat ≤ 1)) 5).e == 0) = false := by simpa using he2
    (try simp only [List.map, gop, ev, lk, aenv, gyield, gBin, gInt, gStrOp, gUn, gPick, gNil, gExtract, gIfc, gConvK, gIndexO, gIndexVO, gMakeV, gMinV, gMaxV, isInt, gMin, gMax, gBlt, gCallV, gInvoke, gNilM, Array.toList_map, vcells, gField, gIndexV, gPart, reduceIte, Nat.reduceAdd, Nat.reduceSub, Nat.reduceMul, Nat.reduceLT, Nat.reduceLeDiff, Nat.reduceEqDiff, Nat.reduceBEq, Int.reduceLT, Int.reduceLE, Int.reduceGT, Int.reduceGE, Int.reduceEq, Int.reduceNe, Int.reduceAdd, Int.reduceSub, Int.reduceMul, Int.reduceNeg, Int.reduceToNat, Int.reduceBEq, Int.reduceBNe, Int.cast_ofNat_Int, List.getElem?_toArray, stp, Try.underlying100, Try.underlying22, Try.underlying23, Try.underlying3, Try.underlying4, Try.underlying5, Try.underlying50, ty22, ty100, ty23, ty3, ty4, ty5, ty50, rs27, d2, i2, l2, bv, dq]); repeat' (first | (with_reducible first | refine gw_seq ?_ | refine gw_block ?_) | ((first | (with_reducible first | refine gw_region ?_ | refine gw_if ?_ | refine gw_skip ?_ | refine gw_exit ?_ | refine gw_ret ?_) | ((with_reducible first | refine gif_b (fun hb => ?_) (fun hb => ?_) | refine want_t (fun hb => ?_) (fun hb => ?_) | refine want_f (fun hb => ?_) (fun hb => ?_)) <;> (try simp only [hb]) <;> (try simp only [hpr] at hb))) <;> try simp only [List.map, gop, ev, lk, aenv, gyield, gBin, gInt, gStrOp, gUn, gPick, gNil, gExtract, gIfc, gConvK, gIndexO, gIndexVO, gMakeV, gMinV, gMaxV, isInt, gMin, gMax, gBlt, gCallV, gInvoke, gNilM, Array.toList_map, vcells, gField, gIndexV, gPart, reduceIte, Nat.reduceAdd, Nat.reduceSub, Nat.reduceMul, Nat.reduceLT, Nat.reduceLeDiff, Nat.reduceEqDiff, Nat.reduceBEq, Int.reduceLT, Int.reduceLE, Int.reduceGT, Int.reduceGE, Int.reduceEq, Int.reduceNe, Int.reduceAdd, Int.reduceSub, Int.reduceMul, Int.reduceNeg, Int.reduceToNat, Int.reduceBEq, Int.reduceBNe, Int.cast_ofNat_Int, List.getElem?_toArray, stp, Try.underlying100, Try.underlying22, Try.underlying23, Try.underlying3, Try.underlying4, Try.underlying5, Try.underlying50, ty22, ty100, ty23, ty3, ty4, ty5, ty50, rs27, d2, i2, l2, bv, dq]))
    refine ⟨?_, r2, x2⟩
    have : y ≠ 1 := by
      rintro rfl
      exact he2 he
    simp [this]
theorem c_Left (N : Nat) (h : GH) {k : Nat} {s : St} (r : RD h k s) : GTri Try.prog N 31 [.pointer (some ⟨k, 0, none⟩)] h fun v h' => v = .int .i64 s.b.length ∧ h' = h := by
  have rn := c_none N h r
  obtain ⟨a, c, m, rb, sl⟩ := r.form
  refine gtri Try.func31 rfl gf31 ok31 (by simp [Try.ntmps31]) ?_
  repeat' (first | (with_reducible first | refine gw_seq ?_ | refine gw_block ?_) | ((first | (with_reducible first | refine gw_region ?_ | refine gw_if ?_ | refine gw_skip ?_ | refine gw_exit ?_ | refine gw_ret ?_) | ((with_reducible first | refine gif_b (fun hb => ?_) (fun hb => ?_) | refine want_t (fun hb => ?_) (fun hb => ?_) | refine want_f (fun hb => ?_) (fun hb => ?_)) <;> (try simp only [hb]) <;> (try simp only [hpr] at hb)) | ((refine GTri.mono rn ?_); rintro _ _ ⟨rfl, hh9⟩; replace hh9 := hh9.symm; subst hh9)) <;> try simp only [List.map, gop, ev, lk, aenv, gyield, gBin, gInt, gStrOp, gUn, gPick, gNil, gExtract, gIfc, gConvK, gIndexO, gIndexVO, gMakeV, gMinV, gMaxV, isInt, gMin, gMax, gBlt, gCallV, gInvoke, gNilM, Array.toList_map, vcells, gField, gIndexV, gPart, reduceIte, Nat.reduceAdd, Nat.reduceSub, Nat.reduceMul, Nat.reduceLT, Nat.reduceLeDiff, Nat.reduceEqDiff, Nat.reduceBEq, Int.reduceLT, Int.reduceLE, Int.reduceGT, Int.reduceGE, Int.reduceEq, Int.reduceNe, Int.reduceAdd, Int.reduceSub, Int.reduceMul, Int.reduceNeg, Int.reduceToNat, Int.reduceBEq, Int.reduceBNe, Int.cast_ofNat_Int, List.getElem?_toArray, stp, Try.underlying100, Try.underlying22, Try.underlying23, Try.underlying4, Try.underlying5, Try.underlying50, ty22, ty100, ty23, ty4, ty5, ty50, rs31, gNil, gload1 m sz22]))
theorem c_Err (N : Nat) (h : GH) {k : Nat} {s : St} (r : RD h k s) : GTri Try.prog N 30 [.pointer (some ⟨k, 0, none⟩)] h fun v h' => v = .int .i64 s.e ∧ h' = h := by
  have rn := c_none N h r
  obtain ⟨a, c, m, rb, sl⟩ := r.form
  refine gtri Try.func30 rfl gf30 ok30 (by simp [Try.ntmps30]) ?_
  repeat' (first | (with_reducible first | refine gw_seq ?_ | refine gw_block ?_) | ((first | (with_reducible first | refine gw_region ?_ | refine gw_if ?_ | refine gw_skip ?_ | refine gw_exit ?_ | refine gw_ret ?_) | ((with_reducible first | refine gif_b (fun hb => ?_) (fun hb => ?_) | refine want_t (fun hb => ?_) (fun hb => ?_) | refine want_f (fun hb => ?_) (fun hb => ?_)) <;> (try simp only [hb]) <;> (try simp only [hpr] at hb)) | ((refine GTri.mono rn ?_); rintro _ _ ⟨rfl, hh9⟩; replace hh9 := hh9.symm; subst hh9)) <;> try simp only [List.map, gop, ev, lk, aenv, gyield, gBin, gInt, gStrOp, gUn, gPick, gNil, gExtract, gIfc, gConvK, gIndexO, gIndexVO, gMakeV, gMinV, gMaxV, isInt, gMin, gMax, gBlt, gCallV, gInvoke, gNilM, Array.toList_map, vcells, gField, gIndexV, gPart, reduceIte, Nat.reduceAdd, Nat.reduceSub, Nat.reduceMul, Nat.reduceLT, Nat.reduceLeDiff, Nat.reduceEqDiff, Nat.reduceBEq, Int.reduceLT, Int.reduceLE, Int.reduceGT, Int.reduceGE, Int.reduceEq, Int.reduceNe, Int.reduceAdd, Int.reduceSub, Int.reduceMul, Int.reduceNeg, Int.reduceToNat, Int.reduceBEq, Int.reduceBNe, Int.cast_ofNat_Int, List.getElem?_toArray, stp, Try.underlying100, Try.underlying22, Try.underlying23, Try.underlying4, Try.underlying50, ty22, ty100, ty23, ty4, ty50, rs30, gNil, gload1 m sz23]))
theorem c_End (N : Nat) (h : GH) {k : Nat} {s : St} (r : RD h k s) : GTri Try.prog N 52 [.pointer (some ⟨k, 0, none⟩)] h fun v h' => v = .int .i64 s.fin ∧ h' = h := by
  have e1 := c_Err N h r
  have e2 := c_Left N h r
  refine gtri Try.func52 rfl gf52 ok52 (by simp [Try.ntmps52]) ?_
  repeat' (first | (with_reducible first | refine gw_seq ?_ | refine gw_block ?_) | ((first | (with_reducible first | refine gw_region ?_ | refine gw_if ?_ | refine gw_skip ?_ | refine gw_exit ?_ | refine gw_ret ?_) | ((with_reducible first | refine gif_b (fun hb => ?_) (fun hb => ?_) | refine want_t (fun hb => ?_) (fun hb => ?_) | refine want_f (fun hb => ?_) (fun hb => ?_)) <;> (try simp only [hb]) <;> (try simp only [hpr] at hb)) | ((refine GTri.mono e1 ?_); rintro _ _ ⟨rfl, hh9⟩; replace hh9 := hh9.symm; subst hh9) | ((refine GTri.mono e2 ?_); rintro _ _ ⟨rfl, hh9⟩; replace hh9 := hh9.symm; subst hh9)) <;> try simp only [List.map, gop, ev, lk, aenv, gyield, gBin, gInt, gStrOp, gUn, gPick, gNil, gExtract, gIfc, gConvK, gIndexO, gIndexVO, gMakeV, gMinV, gMaxV, isInt, gMin, gMax, gBlt, gCallV, gInvoke, gNilM, Array.toList_map, vcells, gField, gIndexV, gPart, reduceIte, Nat.reduceAdd, Nat.reduceSub, Nat.reduceMul, Nat.reduceLT, Nat.reduceLeDiff, Nat.reduceEqDiff, Nat.reduceBEq, Int.reduceLT, Int.reduceLE, Int.reduceGT, Int.reduceGE, Int.reduceEq, Int.reduceNe, Int.reduceAdd, Int.reduceSub, Int.reduceMul, Int.reduceNeg, Int.reduceToNat, Int.reduceBEq, Int.reduceBNe, Int.cast_ofNat_Int, List.getElem?_toArray, stp, Try.underlying100, Try.underlying23, Try.underlying3, Try.underlying50, ty100, ty23, ty3, ty50, rs52]))
  all_goals
    unfold St.fin
  · rw [if_neg (by omega)]
  · rename_i h1
    have : s.b = [] := List.eq_nil_of_length_eq_zero (by omega)
    rw [if_neg (by simp [this])]
  · have : s.b ≠ [] := by rintro e; rw [e] at hb; simp at hb
    rw [if_pos ⟨by omega, this⟩]
theorem c_Open (N : Nat) (h : GH) {a : Option Addr} {n c : Nat} {l : List UInt8} (r : RB h (.slice a n c) l) (hl : l.length ≤ 140737488355328) : GTri Try.prog N 24 [.slice a n c] h fun v h' => ∃ k, v = .pointer (some ⟨k, 0, none⟩) ∧ RD h' k ⟨l, 0⟩ ∧ HS h h' ∧ h k = none := by
  refine gtri Try.func24 rfl gf24 ok24 (by simp [Try.ntmps24]) ?_
  repeat' (first | (with_reducible first | refine gw_seq ?_ | refine gw_block ?_) | ((first | (with_reducible first | refine gw_region ?_ | refine gw_if ?_ | refine gw_skip ?_ | refine gw_exit ?_ | refine gw_ret ?_) | ((with_reducible first | refine gif_b (fun hb => ?_) (fun hb => ?_) | refine want_t (fun hb => ?_) (fun hb => ?_) | refine want_f (fun hb => ?_) (fun hb => ?_)) <;> (try simp only [hb]) <;> (try simp only [hpr] at hb)) | ((refine GTri.mono (c_SClone _ _ r hl) ?_); rintro _ h1 ⟨s1, o1⟩)) <;> try simp only [List.map, gop, ev, lk, aenv, gyield, gBin, gInt, gStrOp, gUn, gPick, gNil, gExtract, gIfc, gConvK, gIndexO, gIndexVO, gMakeV, gMinV, gMaxV, isInt, gMin, gMax, gBlt, gCallV, gInvoke, gNilM, Array.toList_map, vcells, gField, gIndexV, gPart, reduceIte, Nat.reduceAdd, Nat.reduceSub, Nat.reduceMul, Nat.reduceLT, Nat.reduceLeDiff, Nat.reduceEqDiff, Nat.reduceBEq, Int.reduceLT, Int.reduceLE, Int.reduceGT, Int.reduceGE, Int.reduceEq, Int.reduceNe, Int.reduceAdd, Int.reduceSub, Int.reduceMul, Int.reduceNeg, Int.reduceToNat, Int.reduceBEq, Int.reduceBNe, Int.cast_ofNat_Int, List.getElem?_toArray, stp, Try.underlying100, Try.underlying22, Try.underlying23, Try.underlying4, Try.underlying5, ty22, ty100, ty23, ty4, ty5, rs24]))
  obtain ⟨a1, c1, rfl⟩ := o1.form
  (try simp only [List.map, gop, ev, lk, aenv, gyield, gBin, gInt, gStrOp, gUn, gPick, gNil, gExtract, gIfc, gConvK, gIndexO, gIndexVO, gMakeV, gMinV, gMaxV, isInt, gMin, gMax, gBlt, gCallV, gInvoke, gNilM, Array.toList_map, vcells, gField, gIndexV, gPart, reduceIte, Nat.reduceAdd, Nat.reduceSub, Nat.reduceMul, Nat.reduceLT, Nat.reduceLeDiff, Nat.reduceEqDiff, Nat.reduceBEq, Int.reduceLT, Int.reduceLE, Int.reduceGT, Int.reduceGE, Int.reduceEq, Int.reduceNe, Int.reduceAdd, Int.reduceSub, Int.reduceMul, Int.reduceNeg, Int.reduceToNat, Int.reduceBEq, Int.reduceBNe, Int.cast_ofNat_Int, List.getElem?_toArray, stp, Try.underlying100, Try.underlying22, Try.underlying23, Try.underlying4, Try.underlying5, ty22, ty100, ty23, ty4, ty5, rs24, gBuild, lfill, lput, Shape.pl, List.all_cons, List.all_nil, isCell]); repeat' (first | (with_reducible first | refine gw_seq ?_ | refine gw_block ?_) | ((first | (with_reducible first | refine gw_region ?_ | refine gw_if ?_ | refine gw_skip ?_ | refine gw_exit ?_ | refine gw_ret ?_) | ((with_reducible first | refine gif_b (fun hb => ?_) (fun hb => ?_) | refine want_t (fun hb => ?_) (fun hb => ?_) | refine want_f (fun hb => ?_) (fun hb => ?_)) <;> (try simp only [hb]) <;> (try simp only [hpr] at hb))) <;> try simp only [List.map, gop, ev, lk, aenv, gyield, gBin, gInt, gStrOp, gUn, gPick, gNil, gExtract, gIfc, gConvK, gIndexO, gIndexVO, gMakeV, gMinV, gMaxV, isInt, gMin, gMax, gBlt, gCallV, gInvoke, gNilM, Array.toList_map, vcells, gField, gIndexV, gPart, reduceIte, Nat.reduceAdd, Nat.reduceSub, Nat.reduceMul, Nat.reduceLT, Nat.reduceLeDiff, Nat.reduceEqDiff, Nat.reduceBEq, Int.reduceLT, Int.reduceLE, Int.reduceGT, Int.reduceGE, Int.reduceEq, Int.reduceNe, Int.reduceAdd, Int.reduceSub, Int.reduceMul, Int.reduceNeg, Int.reduceToNat, Int.reduceBEq, Int.reduceBNe, Int.cast_ofNat_Int, List.getElem?_toArray, stp, Try.underlying100, Try.underlying22, Try.underlying23, Try.underlying4, Try.underlying5, ty22, ty100, ty23, ty4, ty5, rs24, gBuild, lfill, lput, Shape.pl, List.all_cons, List.all_nil, isCell]))
  refine box_g rfl fun k2 h2 m2 s2 f2 n2 => ?_
  (try simp only [List.map, gop, ev, lk, aenv, gyield, gBin, gInt, gStrOp, gUn, gPick, gNil, gExtract, gIfc, gConvK, gIndexO, gIndexVO, gMakeV, gMinV, gMaxV, isInt, gMin, gMax, gBlt, gCallV, gInvoke, gNilM, Array.toList_map, vcells, gField, gIndexV, gPart, reduceIte, Nat.reduceAdd, Nat.reduceSub, Nat.reduceMul, Nat.reduceLT, Nat.reduceLeDiff, Nat.reduceEqDiff, Nat.reduceBEq, Int.reduceLT, Int.reduceLE, Int.reduceGT, Int.reduceGE, Int.reduceEq, Int.reduceNe, Int.reduceAdd, Int.reduceSub, Int.reduceMul, Int.reduceNeg, Int.reduceToNat, Int.reduceBEq, Int.reduceBNe, Int.cast_ofNat_Int, List.getElem?_toArray, stp, Try.underlying100, Try.underlying22, Try.underlying23, Try.underlying4, Try.underlying5, ty22, ty100, ty23, ty4, ty5, rs24]); repeat' (first | (with_reducible first | refine gw_seq ?_ | refine gw_block ?_) | ((first | (with_reducible first | refine gw_region ?_ | refine gw_if ?_ | refine gw_skip ?_ | refine gw_exit ?_ | refine gw_ret ?_) | ((with_reducible first | refine gif_b (fun hb => ?_) (fun hb => ?_) | refine want_t (fun hb => ?_) (fun hb => ?_) | refine want_f (fun hb => ?_) (fun hb => ?_)) <;> (try simp only [hb]) <;> (try simp only [hpr] at hb))) <;> try simp only [List.map, gop, ev, lk, aenv, gyield, gBin, gInt, gStrOp, gUn, gPick, gNil, gExtract, gIfc, gConvK, gIndexO, gIndexVO, gMakeV, gMinV, gMaxV, isInt, gMin, gMax, gBlt, gCallV, gInvoke, gNilM, Array.toList_map, vcells, gField, gIndexV, gPart, reduceIte, Nat.reduceAdd, Nat.reduceSub, Nat.reduceMul, Nat.reduceLT, Nat.reduceLeDiff, Nat.reduceEqDiff, Nat.reduceBEq, Int.reduceLT, Int.reduceLE, Int.reduceGT, Int.reduceGE, Int.reduceEq, Int.reduceNe, Int.reduceAdd, Int.reduceSub, Int.reduceMul, Int.reduceNeg, Int.reduceToNat, Int.reduceBEq, Int.reduceBNe, Int.cast_ofNat_Int, List.getElem?_toArray, stp, Try.underlying100, Try.underlying22, Try.underlying23, Try.underlying4, Try.underlying5, ty22, ty100, ty23, ty4, ty5, rs24]))
  exact ⟨k2, rfl, ⟨a1, c1, m2, o1.rb.hs s2, o1.sl.hs s2⟩, s1.trans s2, s1.none_of n2⟩
/-- A block that there was is written; what is new since stays. -/
theorem OWN.hxo {h0 h h' : GH} {v : Value} {l : List UInt8} (o : OWN h0 h v l) {g : Nat} {B : GB} (hg : h0 g = some B) (x : HX g h h') : OWN h0 h' v l := by
  rcases o with o | o | ⟨k, c, h1, h2, h3, h4, h5, h6⟩
  · exact .inl o
  · exact .inr (.inl o)
  · exact .inr (.inr ⟨k, c, h1, h2, h3, h4, x _ _ (fun e => by rw [e, hg] at h6; cases h6) h5, h6⟩)
end Go.Gh

/- The reference's reader. -/

namespace Go.Gh
open Go Go.Proofs Go.RowKit
set_option linter.unusedVariables false
set_option linter.unusedSimpArgs false
set_option maxRecDepth 100000

/-- The reference's reader in memory. -/
def RF (h : GH) (k : Nat) (s : St) : Prop := ∃ a c, h k = some ⟨[.slice a s.b.length c, .int .i64 s.e], 0, true, false⟩ ∧ RB h (.slice a s.b.length c) s.b ∧ SL h (.slice a s.b.length c)
theorem RF.hs {h h' : GH} {k : Nat} {s : St} (r : RF h k s) (x : HS h h') : RF h' k s := by
  obtain ⟨a, c, h1, h2, h3⟩ := r
  exact ⟨a, c, x _ _ h1, h2.hs x, h3.hs x⟩
theorem RF.form {h : GH} {k : Nat} {s : St} (r : RF h k s) : ∃ a c, h k = some ⟨[.slice a s.b.length c, .int .i64 s.e], 0, true, false⟩ ∧ RB h (.slice a s.b.length c) s.b ∧ SL h (.slice a s.b.length c) := r
theorem RB.rf {h h' : GH} {k : Nat} {s : St} {v : Value} {l : List UInt8} (q : RB h v l) (r : RF h k s) (x : HX k h h') : RB h' v l := by
  obtain ⟨a, c, m, _, _⟩ := r
  exact q.hx m rfl x
theorem RF.rd {h h' : GH} {k j : Nat} {s t : St} (q : RF h j t) (r : RD h k s) (x : HX k h h') (n : j ≠ k) : RF h' j t := by
  obtain ⟨a, c, m, rb, sl⟩ := q
  obtain ⟨a2, c2, m2, _, _⟩ := r
  exact ⟨a, c, x _ _ n m, rb.hx m2 rfl x, sl.hx m2 rfl x⟩
theorem RD.rf {h h' : GH} {k j : Nat} {s t : St} (q : RD h j t) (r : RF h k s) (x : HX k h h') (n : j ≠ k) : RD h' j t := by
  obtain ⟨a, c, m, rb, sl⟩ := q
  obtain ⟨a2, c2, m2, _, _⟩ := r
  exact ⟨a, c, x _ _ n m, rb.hx m2 rfl x, sl.hx m2 rfl x⟩

end Go.Gh

/- The reference's reader: numbers, texts, yes or no, the end. -/

namespace Go.Gh
open Go Go.Proofs Go.RowKit
set_option linter.unusedVariables false
set_option linter.unusedSimpArgs false
set_option maxRecDepth 100000

end Go.Gh

/- The reference's reader: texts, yes or no, the end. A reader that no call made. The law CodecNobody. -/

namespace Go.Gh
open Go Go.Proofs Go.RowKit
set_option linter.unusedVariables false
set_option linter.unusedSimpArgs false
set_option maxRecDepth 100000

/-! ## A reader that no call made -/
end Go.Gh

/- What was put is read; what was read, put, is what was read: the laws CodecBack and CodecOnce. -/

namespace Go.Gh
open Go Go.Proofs Go.RowKit
set_option linter.unusedVariables false
set_option linter.unusedSimpArgs false
set_option maxRecDepth 100000

theorem St.take_put (l m : List UInt8) {n : Nat} (h : n = l.length) : (St.mk (l ++ m) 0).take n = (l, ⟨m, 0⟩) := by
  subst h
  unfold St.take
  have : decide (l.length ≤ (l ++ m).length) = true := decide_eq_true (by simp)
  simp only [this, St.ok_t, if_true]
  simp
theorem gnum_nat {n : Nat} (hn : n ≤ 4611686018427387904) : gnum (n : Int) = n := by unfold gnum; omega
theorem goodU_ubytes {n : Nat} (hn : n ≤ 4611686018427387904) : goodU (ubytes n) = true := by
  unfold goodU
  rw [uval_ubytes, decide_eq_true (ubytes_head n), decide_eq_true hn]; rfl
theorem St.uint_put {n : Nat} (hn : n ≤ 4611686018427387904) {most : Int} (hm : (n : Int) ≤ most) (rest : List UInt8) : (St.mk (guint n ++ rest) 0).uint most = ((n : Int), ⟨rest, 0⟩) := by
  have hw := gnum_w n
  have e0 : guint n ++ rest = [UInt8.ofNat (ubytes n).length] ++ (ubytes n ++ rest) := by
    rw [guint, gnum_nat hn]; rfl
  rw [gnum_nat hn] at hw
  have ew : (UInt8.ofNat (ubytes n).length).toNat = (ubytes n).length := UInt8.toNat_ofNat_of_lt' (by simpa using (by omega : (ubytes n).length < 256))
  unfold St.uint
  rw [e0, St.take_put _ _ (show 1 = [UInt8.ofNat (ubytes n).length].length from rfl)]
  simp only [if_true, List.getD_cons_zero]
  unfold St.wid
  rw [ew, decide_eq_true hw, St.ok_t]
  simp only [if_true]
  rw [St.take_put _ _ rfl]
  unfold St.num
  rw [goodU_ubytes hn, St.ok_t, uval_ubytes, decide_eq_true hm, St.ok_t]
  simp
theorem St.bytes_put {k : List UInt8} (hn : k.length ≤ 4611686018427387904) {most : Int} (hm : (k.length : Int) ≤ most) (rest : List UInt8) : (St.mk (guint k.length ++ (k ++ rest)) 0).bytes most = (k, ⟨rest, 0⟩) := by
  unfold St.bytes
  rw [St.uint_put hn hm]
  exact St.take_put _ _ (Int.toNat_natCast _)
theorem St.flag_put (b : Bool) (rest : List UInt8) : (St.mk ([gflag b] ++ rest) 0).flag = (b, ⟨rest, 0⟩) := by
  unfold St.flag
  rw [St.take_put _ _ (show 1 = [gflag b].length from rfl)]
  simp only [if_true, List.getD_cons_zero]
  cases b <;> rfl

theorem St.uint_got {s : St} {most : Int} (h : (s.uint most).2.e = 0) : s.e = 0 ∧ ∃ n : Nat, (s.uint most).1 = n ∧ n ≤ 4611686018427387904 ∧ (n : Int) ≤ most ∧ s.b = guint n ++ (s.uint most).2.b := by
  unfold St.uint at h ⊢
  by_cases h1 : (s.take 1).2.e = 0
  case neg => rw [if_neg h1] at h; exact absurd h h1
  rw [if_pos h1] at h ⊢
  obtain ⟨y, hy⟩ := St.take_one h1
  obtain ⟨t1, t2, t3⟩ := St.take_0 h1
  have eb : s.b = [y] ++ (s.take 1).2.b := by
    have : s.b = s.b.take 1 ++ s.b.drop 1 := (List.take_append_drop 1 s.b).symm
    rw [t3] at hy ⊢
    simp only at hy ⊢
    rw [← hy]; exact this
  rw [hy, List.getD_cons_zero] at h ⊢
  generalize (s.take 1).2 = s1 at *
  refine ⟨t1, ?_⟩
  unfold St.wid at h ⊢
  by_cases h2 : (s1.ok (decide (y.toNat ≤ 8)) 5).e = 0
  case neg => rw [if_neg h2] at h; exact absurd h h2
  rw [if_pos h2] at h ⊢
  have y8 := (St.ok_0 (by decide) h2).1
  unfold St.num at h ⊢
  by_cases h3 : ((s1.take y.toNat).2.ok (goodU (s1.take y.toNat).1) 5).e = 0
  case neg => rw [if_neg h3] at h; exact absurd h h3
  rw [if_pos h3] at h ⊢
  obtain ⟨g, h4⟩ := St.ok_0 (by decide) h3
  by_cases h5 : ((s1.take y.toNat).2.ok (decide ((uval (s1.take y.toNat).1 : Int) ≤ most)) 4).e = 0
  case neg => rw [if_neg h5] at h; exact absurd h h5
  rw [if_pos h5]
  have hm := (St.ok_0 (by decide) h5).1
  obtain ⟨t4, t5, t6⟩ := St.take_0 h4
  rw [t6] at g hm ⊢
  simp only at g hm ⊢
  unfold goodU at g
  simp only [Bool.and_eq_true, decide_eq_true_eq] at g hm
  refine ⟨uval (s1.b.take y.toNat), rfl, g.2, hm, ?_⟩
  rw [eb, guint, gnum_nat g.2, ubytes_uval _ g.1]
  have hl : (s1.b.take y.toNat).length = y.toNat := by simp; omega
  rw [hl]
  simp
theorem St.take_got {s : St} {n : Nat} (h : (s.take n).2.e = 0) : s.e = 0 ∧ (s.take n).1.length = n ∧ s.b = (s.take n).1 ++ (s.take n).2.b := by
  obtain ⟨t1, t2, t3⟩ := St.take_0 h
  rw [t3]
  refine ⟨t1, by simp; omega, (List.take_append_drop n s.b).symm⟩
theorem St.bytes_got {s : St} {most : Int} (h : (s.bytes most).2.e = 0) : s.e = 0 ∧ (s.bytes most).1.length ≤ 4611686018427387904 ∧ ((s.bytes most).1.length : Int) ≤ most ∧ s.b = guint (s.bytes most).1.length ++ ((s.bytes most).1 ++ (s.bytes most).2.b) := by
  unfold St.bytes at h ⊢
  obtain ⟨t1, t2, t3⟩ := St.take_got h
  obtain ⟨u1, n, u2, u3, u4, u5⟩ := St.uint_got t1
  rw [u2, Int.toNat_natCast] at t2 t3 ⊢
  rw [t2, ← t3]
  exact ⟨u1, u3, u4, u5⟩
theorem St.flag_got {s : St} (h : s.flag.2.e = 0) : s.e = 0 ∧ s.b = [gflag s.flag.1] ++ s.flag.2.b := by
  unfold St.flag at h ⊢
  by_cases h1 : (s.take 1).2.e = 0
  case neg => rw [if_neg h1] at h; exact absurd h h1
  rw [if_pos h1] at h ⊢
  obtain ⟨y, hy⟩ := St.take_one h1
  obtain ⟨t1, t2, t3⟩ := St.take_got h1
  rw [hy, List.getD_cons_zero] at h ⊢
  have y1 := (St.ok_0 (by decide) h).1
  refine ⟨t1, ?_⟩
  rw [y1, St.ok_t]
  have : gflag (y == 1) = y := by
    simp only [decide_eq_true_eq] at y1
    have : y = 0 ∨ y = 1 := by
      rcases (show y.toNat = 0 ∨ y.toNat = 1 by omega) with h | h
      · exact .inl (UInt8.toNat_inj.1 h)
      · exact .inr (UInt8.toNat_inj.1 h)
    rcases this with rfl | rfl <;> rfl
  rw [this, ← hy]
  exact t3

end Go.Gh

/- A request's writer, as a pen. -/

namespace Go.Gh
open Go Go.Proofs Go.RowKit
set_option linter.unusedVariables false
set_option linter.unusedSimpArgs false
set_option maxRecDepth 100000
set_option maxHeartbeats 1000000

theorem gmw_n : gMeth Try.prog 82 "annals/ask.number" = some 100 := by kernel_rfl
theorem gmw_x : gMeth Try.prog 82 "annals/ask.text" = some 101 := by kernel_rfl
theorem gmw_g : gMeth Try.prog 82 "annals/ask.flag" = some 99 := by kernel_rfl
theorem gmw_b : gMeth Try.prog 82 "annals/ask.batch" = some 98 := by kernel_rfl
/-- A writer's bytes, and the request that it writes. -/
def WI (kw ka : Nat) (h0 : GH) (q : Aq) (id : List UInt8) (bt : List (List UInt8 × List UInt8)) (n : Nat) (out : List UInt8) (h : GH) : Prop :=
  (∃ a c, h kw = some ⟨[.slice a out.length c], 0, true, false⟩ ∧ RB h (.slice a out.length c) out ∧ SL h (.slice a out.length c)) ∧
  (∃ a c b d w, h ka = some ⟨q.cs (.slice a id.length c) (.slice b bt.length d), 0, w, false⟩ ∧ RB h (.slice a id.length c) id ∧ RL 2 Bd h (.slice b bt.length d) bt) ∧
  kw ≠ ka ∧ out.length ≤ 100 + n * 10000 ∧ ∀ j B, j ≠ kw → h0 j = some B → h j = some B
theorem WI.put {kw ka : Nat} {h0 : GH} {q : Aq} {id : List UInt8} {bt : List (List UInt8 × List UInt8)} {n : Nat} {out more : List UInt8} {h h2 h3 : GH} {a : Option Addr} {c : Nat} (i : WI kw ka h0 q id bt n out h) (s : HS h h2) (o : RB h2 (.slice a (out ++ more).length c) (out ++ more)) (so : SL h2 (.slice a (out ++ more).length c)) (hm : more.length ≤ 10000)
    (q3 : h3 kw = some ⟨[.slice a (out ++ more).length c], 0, true, false⟩) (f3 : ∀ j, j ≠ kw → h3 j = h2 j) : WI kw ka h0 q id bt (n + 1) (out ++ more) h3 := by
  obtain ⟨⟨a1, c1, m1, r1, _⟩, ⟨a2, c2, b, d, w, m2, r2, rl⟩, ne, hl, fr⟩ := i
  have x : HX kw h2 h3 := fun j B n e => by rw [f3 j n]; exact e
  have m1' := s _ _ m1
  refine ⟨⟨a, c, q3, o.hx m1' rfl x, so.hx m1' rfl x⟩, ⟨a2, c2, b, d, w, x _ _ ne.symm (s _ _ m2), (r2.hs s).hx m1' rfl x, (rl.bs s).bx m1' ⟨rfl, rfl⟩ rfl x⟩, ne, by rw [List.length_append]; omega, fun j B n e => x _ _ n (s _ _ (fr j B n e))⟩
theorem c_wnum {N kw ka n : Nat} {h0 h : GH} {q : Aq} {id : List UInt8} {bt : List (List UInt8 × List UInt8)} {out : List UInt8} (o : Nat) (m : Int) (hn : n < 8) (i : WI kw ka h0 q id bt n out h) (ho : o = 2 ∨ o = 3 ∨ o = 4 ∨ o = 6 ∨ o = 7 ∨ o = 8) : GTri Try.prog N 100 [.pointer (some ⟨kw, 0, none⟩), .pointer (some ⟨ka, o, none⟩), .int .i64 m] h fun _ h' => WI kw ka h0 q id bt (n + 1) (out ++ guint (q.get o)) h' := by
  have i0 := i
  obtain ⟨⟨a1, c1, m1, r1, _⟩, ⟨a2, c2, b, d, w, m2, r2, rl⟩, ne, hl, fr⟩ := i
  have cg := q.cs_get (.slice a2 id.length c2) (.slice b bt.length d) ho
  have gl := guint_len (q.get o)
  refine gtri Try.func100 rfl gf100 ok100 (by simp [Try.ntmps100]) ?_
  repeat' (first | (with_reducible first | refine gw_seq ?_ | refine gw_block ?_) | ((first | (with_reducible first | refine gw_region ?_ | refine gw_if ?_ | refine gw_skip ?_ | refine gw_exit ?_ | refine gw_ret ?_) | ((with_reducible first | refine gif_b (fun hb => ?_) (fun hb => ?_) | refine want_t (fun hb => ?_) (fun hb => ?_) | refine want_f (fun hb => ?_) (fun hb => ?_) | refine dr_t (fun hb => ?_) (fun hb => ?_) | refine dr_f (fun hb => ?_) (fun hb => ?_)) <;> (try simp only [hb]) <;> (try simp only [hpr] at hb)) | with_reducible refine gw_draw (id := 0) [(0, []), (1, []), (2, []), (3, []), (4, []), (5, []), (6, []), (7, []), (8, []), (9, []), (10, []), (11, [])] [0, 0, 2, 6, 14, 0, 32, 96, 254, 511, 1023, 2047] mixed (by kernel_rfl) ?_) <;> try simp only [List.map, gop, ev, lk, aenv, gyield, gBin, gInt, gStrOp, gUn, gPick, gNil, gExtract, gIfc, gConvK, gIndexO, gIndexVO, gMakeV, gMinV, gMaxV, isInt, gMin, gMax, gBlt, gCallV, gInvoke, gNilM, Array.toList_map, vcells, gField, gIndexV, gPart, reduceIte, Nat.reduceAdd, Nat.reduceSub, Nat.reduceMul, Nat.reduceLT, Nat.reduceLeDiff, Nat.reduceEqDiff, Nat.reduceBEq, Int.reduceLT, Int.reduceLE, Int.reduceGT, Int.reduceGE, Int.reduceEq, Int.reduceNe, Int.reduceAdd, Int.reduceSub, Int.reduceMul, Int.reduceNeg, Int.reduceToNat, Int.reduceBEq, Int.reduceBNe, Int.cast_ofNat_Int, List.getElem?_toArray, stp, rvOf, wlk, rdv, isEff, dsOf, sgl, stq, Try.underlying22, Try.underlying3, Try.underlying5, Try.underlying84, ty22, ty84, ty3, ty5, rs100, gNil, gload1 m1 sz22, gload1 m2 sz3, cg]))
  refine (c_Uint N h r1 (by omega) (q.get o)).mono ?_
  rintro _ h2 ⟨s2, o2⟩
  obtain ⟨a3, c3, rfl⟩ := o2.form
  (try simp only [List.map, gop, ev, lk, aenv, gyield, gBin, gInt, gStrOp, gUn, gPick, gNil, gExtract, gIfc, gConvK, gIndexO, gIndexVO, gMakeV, gMinV, gMaxV, isInt, gMin, gMax, gBlt, gCallV, gInvoke, gNilM, Array.toList_map, vcells, gField, gIndexV, gPart, reduceIte, Nat.reduceAdd, Nat.reduceSub, Nat.reduceMul, Nat.reduceLT, Nat.reduceLeDiff, Nat.reduceEqDiff, Nat.reduceBEq, Int.reduceLT, Int.reduceLE, Int.reduceGT, Int.reduceGE, Int.reduceEq, Int.reduceNe, Int.reduceAdd, Int.reduceSub, Int.reduceMul, Int.reduceNeg, Int.reduceToNat, Int.reduceBEq, Int.reduceBNe, Int.cast_ofNat_Int, List.getElem?_toArray, stp, rvOf, wlk, rdv, isEff, dsOf, sgl, stq, Try.underlying22, Try.underlying3, Try.underlying5, Try.underlying84, ty22, ty84, ty3, ty5, rs100, gNil, gload1 (s2 _ _ m1) sz22, gload1 (s2 _ _ m2) sz3, cg]); repeat' (first | (with_reducible first | refine gw_seq ?_ | refine gw_block ?_) | ((first | (with_reducible first | refine gw_region ?_ | refine gw_if ?_ | refine gw_skip ?_ | refine gw_exit ?_ | refine gw_ret ?_) | ((with_reducible first | refine gif_b (fun hb => ?_) (fun hb => ?_) | refine want_t (fun hb => ?_) (fun hb => ?_) | refine want_f (fun hb => ?_) (fun hb => ?_) | refine dr_t (fun hb => ?_) (fun hb => ?_) | refine dr_f (fun hb => ?_) (fun hb => ?_)) <;> (try simp only [hb]) <;> (try simp only [hpr] at hb)) | with_reducible refine gw_draw (id := 0) [(0, []), (1, []), (2, []), (3, []), (4, []), (5, []), (6, []), (7, []), (8, []), (9, []), (10, []), (11, [])] [0, 0, 2, 6, 14, 0, 32, 96, 254, 511, 1023, 2047] mixed (by kernel_rfl) ?_) <;> try simp only [List.map, gop, ev, lk, aenv, gyield, gBin, gInt, gStrOp, gUn, gPick, gNil, gExtract, gIfc, gConvK, gIndexO, gIndexVO, gMakeV, gMinV, gMaxV, isInt, gMin, gMax, gBlt, gCallV, gInvoke, gNilM, Array.toList_map, vcells, gField, gIndexV, gPart, reduceIte, Nat.reduceAdd, Nat.reduceSub, Nat.reduceMul, Nat.reduceLT, Nat.reduceLeDiff, Nat.reduceEqDiff, Nat.reduceBEq, Int.reduceLT, Int.reduceLE, Int.reduceGT, Int.reduceGE, Int.reduceEq, Int.reduceNe, Int.reduceAdd, Int.reduceSub, Int.reduceMul, Int.reduceNeg, Int.reduceToNat, Int.reduceBEq, Int.reduceBNe, Int.cast_ofNat_Int, List.getElem?_toArray, stp, rvOf, wlk, rdv, isEff, dsOf, sgl, stq, Try.underlying22, Try.underlying3, Try.underlying5, Try.underlying84, ty22, ty84, ty3, ty5, rs100, gNil, gload1 (s2 _ _ m1) sz22, gload1 (s2 _ _ m2) sz3, cg]))
  refine st_one (s2 _ _ m1) sz22 rfl (by simp) rfl rfl fun h3 q3 f3 => ?_
  (try simp only [List.map, gop, ev, lk, aenv, gyield, gBin, gInt, gStrOp, gUn, gPick, gNil, gExtract, gIfc, gConvK, gIndexO, gIndexVO, gMakeV, gMinV, gMaxV, isInt, gMin, gMax, gBlt, gCallV, gInvoke, gNilM, Array.toList_map, vcells, gField, gIndexV, gPart, reduceIte, Nat.reduceAdd, Nat.reduceSub, Nat.reduceMul, Nat.reduceLT, Nat.reduceLeDiff, Nat.reduceEqDiff, Nat.reduceBEq, Int.reduceLT, Int.reduceLE, Int.reduceGT, Int.reduceGE, Int.reduceEq, Int.reduceNe, Int.reduceAdd, Int.reduceSub, Int.reduceMul, Int.reduceNeg, Int.reduceToNat, Int.reduceBEq, Int.reduceBNe, Int.cast_ofNat_Int, List.getElem?_toArray, stp, rvOf, wlk, rdv, isEff, dsOf, sgl, stq, Try.underlying22, Try.underlying3, Try.underlying5, Try.underlying84, ty22, ty84, ty3, ty5, rs100]); repeat' (first | (with_reducible first | refine gw_seq ?_ | refine gw_block ?_) | ((first | (with_reducible first | refine gw_region ?_ | refine gw_if ?_ | refine gw_skip ?_ | refine gw_exit ?_ | refine gw_ret ?_) | ((with_reducible first | refine gif_b (fun hb => ?_) (fun hb => ?_) | refine want_t (fun hb => ?_) (fun hb => ?_) | refine want_f (fun hb => ?_) (fun hb => ?_) | refine dr_t (fun hb => ?_) (fun hb => ?_) | refine dr_f (fun hb => ?_) (fun hb => ?_)) <;> (try simp only [hb]) <;> (try simp only [hpr] at hb)) | with_reducible refine gw_draw (id := 0) [(0, []), (1, []), (2, []), (3, []), (4, []), (5, []), (6, []), (7, []), (8, []), (9, []), (10, []), (11, [])] [0, 0, 2, 6, 14, 0, 32, 96, 254, 511, 1023, 2047] mixed (by kernel_rfl) ?_) <;> try simp only [List.map, gop, ev, lk, aenv, gyield, gBin, gInt, gStrOp, gUn, gPick, gNil, gExtract, gIfc, gConvK, gIndexO, gIndexVO, gMakeV, gMinV, gMaxV, isInt, gMin, gMax, gBlt, gCallV, gInvoke, gNilM, Array.toList_map, vcells, gField, gIndexV, gPart, reduceIte, Nat.reduceAdd, Nat.reduceSub, Nat.reduceMul, Nat.reduceLT, Nat.reduceLeDiff, Nat.reduceEqDiff, Nat.reduceBEq, Int.reduceLT, Int.reduceLE, Int.reduceGT, Int.reduceGE, Int.reduceEq, Int.reduceNe, Int.reduceAdd, Int.reduceSub, Int.reduceMul, Int.reduceNeg, Int.reduceToNat, Int.reduceBEq, Int.reduceBNe, Int.cast_ofNat_Int, List.getElem?_toArray, stp, rvOf, wlk, rdv, isEff, dsOf, sgl, stq, Try.underlying22, Try.underlying3, Try.underlying5, Try.underlying84, ty22, ty84, ty3, ty5, rs100]))
  exact i0.put s2 o2.rb o2.sl (by omega) q3 f3
theorem c_wtxt {N kw ka n : Nat} {h0 h : GH} {q : Aq} {id : List UInt8} {bt : List (List UInt8 × List UInt8)} {out : List UInt8} (hn : n < 8) (hid : id.length ≤ 24) (i : WI kw ka h0 q id bt n out h) : GTri Try.prog N 101 [.pointer (some ⟨kw, 0, none⟩), .pointer (some ⟨ka, 1, none⟩)] h fun _ h' => WI kw ka h0 q id bt (n + 1) (out ++ (guint id.length ++ id)) h' := by
  have i0 := i
  obtain ⟨⟨a1, c1, m1, r1, _⟩, ⟨a2, c2, b, d, w, m2, r2, rl⟩, ne, hl, fr⟩ := i
  have cg : (q.cs (.slice a2 id.length c2) (.slice b bt.length d))[1]? = some (.slice a2 id.length c2) := rfl
  have gl := guint_len id.length
  refine gtri Try.func101 rfl gf101 ok101 (by simp [Try.ntmps101]) ?_
  repeat' (first | (with_reducible first | refine gw_seq ?_ | refine gw_block ?_) | ((first | (with_reducible first | refine gw_region ?_ | refine gw_if ?_ | refine gw_skip ?_ | refine gw_exit ?_ | refine gw_ret ?_) | ((with_reducible first | refine gif_b (fun hb => ?_) (fun hb => ?_) | refine want_t (fun hb => ?_) (fun hb => ?_) | refine want_f (fun hb => ?_) (fun hb => ?_) | refine dr_t (fun hb => ?_) (fun hb => ?_) | refine dr_f (fun hb => ?_) (fun hb => ?_)) <;> (try simp only [hb]) <;> (try simp only [hpr] at hb)) | with_reducible refine gw_draw (id := 0) [(0, []), (1, []), (2, []), (3, []), (4, []), (5, []), (6, []), (7, []), (8, []), (9, []), (10, []), (11, [])] [0, 0, 2, 6, 14, 0, 32, 96, 254, 511, 1023, 2047] mixed (by kernel_rfl) ?_) <;> try simp only [List.map, gop, ev, lk, aenv, gyield, gBin, gInt, gStrOp, gUn, gPick, gNil, gExtract, gIfc, gConvK, gIndexO, gIndexVO, gMakeV, gMinV, gMaxV, isInt, gMin, gMax, gBlt, gCallV, gInvoke, gNilM, Array.toList_map, vcells, gField, gIndexV, gPart, reduceIte, Nat.reduceAdd, Nat.reduceSub, Nat.reduceMul, Nat.reduceLT, Nat.reduceLeDiff, Nat.reduceEqDiff, Nat.reduceBEq, Int.reduceLT, Int.reduceLE, Int.reduceGT, Int.reduceGE, Int.reduceEq, Int.reduceNe, Int.reduceAdd, Int.reduceSub, Int.reduceMul, Int.reduceNeg, Int.reduceToNat, Int.reduceBEq, Int.reduceBNe, Int.cast_ofNat_Int, List.getElem?_toArray, stp, rvOf, wlk, rdv, isEff, dsOf, sgl, stq, Try.underlying22, Try.underlying5, Try.underlying84, ty22, ty84, ty5, rs101, gNil, gload1 m1 sz22, gload1 m2 sz22, cg]))
  refine (c_Bytes N h r1 r2 (by omega)).mono ?_
  rintro _ h2 ⟨s2, o2⟩
  rw [List.append_assoc] at o2
  obtain ⟨a3, c3, rfl⟩ := o2.form
  (try simp only [List.map, gop, ev, lk, aenv, gyield, gBin, gInt, gStrOp, gUn, gPick, gNil, gExtract, gIfc, gConvK, gIndexO, gIndexVO, gMakeV, gMinV, gMaxV, isInt, gMin, gMax, gBlt, gCallV, gInvoke, gNilM, Array.toList_map, vcells, gField, gIndexV, gPart, reduceIte, Nat.reduceAdd, Nat.reduceSub, Nat.reduceMul, Nat.reduceLT, Nat.reduceLeDiff, Nat.reduceEqDiff, Nat.reduceBEq, Int.reduceLT, Int.reduceLE, Int.reduceGT, Int.reduceGE, Int.reduceEq, Int.reduceNe, Int.reduceAdd, Int.reduceSub, Int.reduceMul, Int.reduceNeg, Int.reduceToNat, Int.reduceBEq, Int.reduceBNe, Int.cast_ofNat_Int, List.getElem?_toArray, stp, rvOf, wlk, rdv, isEff, dsOf, sgl, stq, Try.underlying22, Try.underlying5, Try.underlying84, ty22, ty84, ty5, rs101, gNil, gload1 (s2 _ _ m1) sz22, gload1 (s2 _ _ m2) sz22, cg]); repeat' (first | (with_reducible first | refine gw_seq ?_ | refine gw_block ?_) | ((first | (with_reducible first | refine gw_region ?_ | refine gw_if ?_ | refine gw_skip ?_ | refine gw_exit ?_ | refine gw_ret ?_) | ((with_reducible first | refine gif_b (fun hb => ?_) (fun hb => ?_) | refine want_t (fun hb => ?_) (fun hb => ?_) | refine want_f (fun hb => ?_) (fun hb => ?_) | refine dr_t (fun hb => ?_) (fun hb => ?_) | refine dr_f (fun hb => ?_) (fun hb => ?_)) <;> (try simp only [hb]) <;> (try simp only [hpr] at hb)) | with_reducible refine gw_draw (id := 0) [(0, []), (1, []), (2, []), (3, []), (4, []), (5, []), (6, []), (7, []), (8, []), (9, []), (10, []), (11, [])] [0, 0, 2, 6, 14, 0, 32, 96, 254, 511, 1023, 2047] mixed (by kernel_rfl) ?_) <;> try simp only [List.map, gop, ev, lk, aenv, gyield, gBin, gInt, gStrOp, gUn, gPick, gNil, gExtract, gIfc, gConvK, gIndexO, gIndexVO, gMakeV, gMinV, gMaxV, isInt, gMin, gMax, gBlt, gCallV, gInvoke, gNilM, Array.toList_map, vcells, gField, gIndexV, gPart, reduceIte, Nat.reduceAdd, Nat.reduceSub, Nat.reduceMul, Nat.reduceLT, Nat.reduceLeDiff, Nat.reduceEqDiff, Nat.reduceBEq, Int.reduceLT, Int.reduceLE, Int.reduceGT, Int.reduceGE, Int.reduceEq, Int.reduceNe, Int.reduceAdd, Int.reduceSub, Int.reduceMul, Int.reduceNeg, Int.reduceToNat, Int.reduceBEq, Int.reduceBNe, Int.cast_ofNat_Int, List.getElem?_toArray, stp, rvOf, wlk, rdv, isEff, dsOf, sgl, stq, Try.underlying22, Try.underlying5, Try.underlying84, ty22, ty84, ty5, rs101, gNil, gload1 (s2 _ _ m1) sz22, gload1 (s2 _ _ m2) sz22, cg]))
  refine st_one (s2 _ _ m1) sz22 rfl (by simp) rfl rfl fun h3 q3 f3 => ?_
  (try simp only [List.map, gop, ev, lk, aenv, gyield, gBin, gInt, gStrOp, gUn, gPick, gNil, gExtract, gIfc, gConvK, gIndexO, gIndexVO, gMakeV, gMinV, gMaxV, isInt, gMin, gMax, gBlt, gCallV, gInvoke, gNilM, Array.toList_map, vcells, gField, gIndexV, gPart, reduceIte, Nat.reduceAdd, Nat.reduceSub, Nat.reduceMul, Nat.reduceLT, Nat.reduceLeDiff, Nat.reduceEqDiff, Nat.reduceBEq, Int.reduceLT, Int.reduceLE, Int.reduceGT, Int.reduceGE, Int.reduceEq, Int.reduceNe, Int.reduceAdd, Int.reduceSub, Int.reduceMul, Int.reduceNeg, Int.reduceToNat, Int.reduceBEq, Int.reduceBNe, Int.cast_ofNat_Int, List.getElem?_toArray, stp, rvOf, wlk, rdv, isEff, dsOf, sgl, stq, Try.underlying22, Try.underlying5, Try.underlying84, ty22, ty84, ty5, rs101]); repeat' (first | (with_reducible first | refine gw_seq ?_ | refine gw_block ?_) | ((first | (with_reducible first | refine gw_region ?_ | refine gw_if ?_ | refine gw_skip ?_ | refine gw_exit ?_ | refine gw_ret ?_) | ((with_reducible first | refine gif_b (fun hb => ?_) (fun hb => ?_) | refine want_t (fun hb => ?_) (fun hb => ?_) | refine want_f (fun hb => ?_) (fun hb => ?_) | refine dr_t (fun hb => ?_) (fun hb => ?_) | refine dr_f (fun hb => ?_) (fun hb => ?_)) <;> (try simp only [hb]) <;> (try simp only [hpr] at hb)) | with_reducible refine gw_draw (id := 0) [(0, []), (1, []), (2, []), (3, []), (4, []), (5, []), (6, []), (7, []), (8, []), (9, []), (10, []), (11, [])] [0, 0, 2, 6, 14, 0, 32, 96, 254, 511, 1023, 2047] mixed (by kernel_rfl) ?_) <;> try simp only [List.map, gop, ev, lk, aenv, gyield, gBin, gInt, gStrOp, gUn, gPick, gNil, gExtract, gIfc, gConvK, gIndexO, gIndexVO, gMakeV, gMinV, gMaxV, isInt, gMin, gMax, gBlt, gCallV, gInvoke, gNilM, Array.toList_map, vcells, gField, gIndexV, gPart, reduceIte, Nat.reduceAdd, Nat.reduceSub, Nat.reduceMul, Nat.reduceLT, Nat.reduceLeDiff, Nat.reduceEqDiff, Nat.reduceBEq, Int.reduceLT, Int.reduceLE, Int.reduceGT, Int.reduceGE, Int.reduceEq, Int.reduceNe, Int.reduceAdd, Int.reduceSub, Int.reduceMul, Int.reduceNeg, Int.reduceToNat, Int.reduceBEq, Int.reduceBNe, Int.cast_ofNat_Int, List.getElem?_toArray, stp, rvOf, wlk, rdv, isEff, dsOf, sgl, stq, Try.underlying22, Try.underlying5, Try.underlying84, ty22, ty84, ty5, rs101]))
  exact i0.put s2 o2.rb o2.sl (by rw [List.length_append]; omega) q3 f3
theorem c_wflg {N kw ka n : Nat} {h0 h : GH} {q : Aq} {id : List UInt8} {bt : List (List UInt8 × List UInt8)} {out : List UInt8} (hn : n < 8) (i : WI kw ka h0 q id bt n out h) : GTri Try.prog N 99 [.pointer (some ⟨kw, 0, none⟩), .pointer (some ⟨ka, 5, none⟩)] h fun _ h' => WI kw ka h0 q id bt (n + 1) (out ++ [gflag q.so]) h' := by
  have i0 := i
  obtain ⟨⟨a1, c1, m1, r1, _⟩, ⟨a2, c2, b, d, w, m2, r2, rl⟩, ne, hl, fr⟩ := i
  have cg : (q.cs (.slice a2 id.length c2) (.slice b bt.length d))[5]? = some (.bool q.so) := rfl
  refine gtri Try.func99 rfl gf99 ok99 (by simp [Try.ntmps99]) ?_
  repeat' (first | (with_reducible first | refine gw_seq ?_ | refine gw_block ?_) | ((first | (with_reducible first | refine gw_region ?_ | refine gw_if ?_ | refine gw_skip ?_ | refine gw_exit ?_ | refine gw_ret ?_) | ((with_reducible first | refine gif_b (fun hb => ?_) (fun hb => ?_) | refine want_t (fun hb => ?_) (fun hb => ?_) | refine want_f (fun hb => ?_) (fun hb => ?_) | refine dr_t (fun hb => ?_) (fun hb => ?_) | refine dr_f (fun hb => ?_) (fun hb => ?_)) <;> (try simp only [hb]) <;> (try simp only [hpr] at hb)) | with_reducible refine gw_draw (id := 0) [(0, []), (1, []), (2, []), (3, []), (4, []), (5, []), (6, []), (7, []), (8, []), (9, []), (10, []), (11, [])] [0, 0, 2, 6, 14, 0, 32, 96, 254, 511, 1023, 2047] mixed (by kernel_rfl) ?_) <;> try simp only [List.map, gop, ev, lk, aenv, gyield, gBin, gInt, gStrOp, gUn, gPick, gNil, gExtract, gIfc, gConvK, gIndexO, gIndexVO, gMakeV, gMinV, gMaxV, isInt, gMin, gMax, gBlt, gCallV, gInvoke, gNilM, Array.toList_map, vcells, gField, gIndexV, gPart, reduceIte, Nat.reduceAdd, Nat.reduceSub, Nat.reduceMul, Nat.reduceLT, Nat.reduceLeDiff, Nat.reduceEqDiff, Nat.reduceBEq, Int.reduceLT, Int.reduceLE, Int.reduceGT, Int.reduceGE, Int.reduceEq, Int.reduceNe, Int.reduceAdd, Int.reduceSub, Int.reduceMul, Int.reduceNeg, Int.reduceToNat, Int.reduceBEq, Int.reduceBNe, Int.cast_ofNat_Int, List.getElem?_toArray, stp, rvOf, wlk, rdv, isEff, dsOf, sgl, stq, Try.underlying22, Try.underlying4, Try.underlying5, Try.underlying84, ty22, ty84, ty4, ty5, rs99, gNil, gload1 m1 sz22, gload1 m2 sz4, cg]))
  refine (c_Flag N h r1 (by omega) q.so).mono ?_
  rintro _ h2 ⟨s2, o2⟩
  obtain ⟨a3, c3, rfl⟩ := o2.form
  (try simp only [List.map, gop, ev, lk, aenv, gyield, gBin, gInt, gStrOp, gUn, gPick, gNil, gExtract, gIfc, gConvK, gIndexO, gIndexVO, gMakeV, gMinV, gMaxV, isInt, gMin, gMax, gBlt, gCallV, gInvoke, gNilM, Array.toList_map, vcells, gField, gIndexV, gPart, reduceIte, Nat.reduceAdd, Nat.reduceSub, Nat.reduceMul, Nat.reduceLT, Nat.reduceLeDiff, Nat.reduceEqDiff, Nat.reduceBEq, Int.reduceLT, Int.reduceLE, Int.reduceGT, Int.reduceGE, Int.reduceEq, Int.reduceNe, Int.reduceAdd, Int.reduceSub, Int.reduceMul, Int.reduceNeg, Int.reduceToNat, Int.reduceBEq, Int.reduceBNe, Int.cast_ofNat_Int, List.getElem?_toArray, stp, rvOf, wlk, rdv, isEff, dsOf, sgl, stq, Try.underlying22, Try.underlying4, Try.underlying5, Try.underlying84, ty22, ty84, ty4, ty5, rs99, gNil, gload1 (s2 _ _ m1) sz22, gload1 (s2 _ _ m2) sz4, cg]); repeat' (first | (with_reducible first | refine gw_seq ?_ | refine gw_block ?_) | ((first | (with_reducible first | refine gw_region ?_ | refine gw_if ?_ | refine gw_skip ?_ | refine gw_exit ?_ | refine gw_ret ?_) | ((with_reducible first | refine gif_b (fun hb => ?_) (fun hb => ?_) | refine want_t (fun hb => ?_) (fun hb => ?_) | refine want_f (fun hb => ?_) (fun hb => ?_) | refine dr_t (fun hb => ?_) (fun hb => ?_) | refine dr_f (fun hb => ?_) (fun hb => ?_)) <;> (try simp only [hb]) <;> (try simp only [hpr] at hb)) | with_reducible refine gw_draw (id := 0) [(0, []), (1, []), (2, []), (3, []), (4, []), (5, []), (6, []), (7, []), (8, []), (9, []), (10, []), (11, [])] [0, 0, 2, 6, 14, 0, 32, 96, 254, 511, 1023, 2047] mixed (by kernel_rfl) ?_) <;> try simp only [List.map, gop, ev, lk, aenv, gyield, gBin, gInt, gStrOp, gUn, gPick, gNil, gExtract, gIfc, gConvK, gIndexO, gIndexVO, gMakeV, gMinV, gMaxV, isInt, gMin, gMax, gBlt, gCallV, gInvoke, gNilM, Array.toList_map, vcells, gField, gIndexV, gPart, reduceIte, Nat.reduceAdd, Nat.reduceSub, Nat.reduceMul, Nat.reduceLT, Nat.reduceLeDiff, Nat.reduceEqDiff, Nat.reduceBEq, Int.reduceLT, Int.reduceLE, Int.reduceGT, Int.reduceGE, Int.reduceEq, Int.reduceNe, Int.reduceAdd, Int.reduceSub, Int.reduceMul, Int.reduceNeg, Int.reduceToNat, Int.reduceBEq, Int.reduceBNe, Int.cast_ofNat_Int, List.getElem?_toArray, stp, rvOf, wlk, rdv, isEff, dsOf, sgl, stq, Try.underlying22, Try.underlying4, Try.underlying5, Try.underlying84, ty22, ty84, ty4, ty5, rs99, gNil, gload1 (s2 _ _ m1) sz22, gload1 (s2 _ _ m2) sz4, cg]))
  refine st_one (s2 _ _ m1) sz22 rfl (by simp) rfl rfl fun h3 q3 f3 => ?_
  (try simp only [List.map, gop, ev, lk, aenv, gyield, gBin, gInt, gStrOp, gUn, gPick, gNil, gExtract, gIfc, gConvK, gIndexO, gIndexVO, gMakeV, gMinV, gMaxV, isInt, gMin, gMax, gBlt, gCallV, gInvoke, gNilM, Array.toList_map, vcells, gField, gIndexV, gPart, reduceIte, Nat.reduceAdd, Nat.reduceSub, Nat.reduceMul, Nat.reduceLT, Nat.reduceLeDiff, Nat.reduceEqDiff, Nat.reduceBEq, Int.reduceLT, Int.reduceLE, Int.reduceGT, Int.reduceGE, Int.reduceEq, Int.reduceNe, Int.reduceAdd, Int.reduceSub, Int.reduceMul, Int.reduceNeg, Int.reduceToNat, Int.reduceBEq, Int.reduceBNe, Int.cast_ofNat_Int, List.getElem?_toArray, stp, rvOf, wlk, rdv, isEff, dsOf, sgl, stq, Try.underlying22, Try.underlying4, Try.underlying5, Try.underlying84, ty22, ty84, ty4, ty5, rs99]); repeat' (first | (with_reducible first | refine gw_seq ?_ | refine gw_block ?_) | ((first | (with_reducible first | refine gw_region ?_ | refine gw_if ?_ | refine gw_skip ?_ | refine gw_exit ?_ | refine gw_ret ?_) | ((with_reducible first | refine gif_b (fun hb => ?_) (fun hb => ?_) | refine want_t (fun hb => ?_) (fun hb => ?_) | refine want_f (fun hb => ?_) (fun hb => ?_) | refine dr_t (fun hb => ?_) (fun hb => ?_) | refine dr_f (fun hb => ?_) (fun hb => ?_)) <;> (try simp only [hb]) <;> (try simp only [hpr] at hb)) | with_reducible refine gw_draw (id := 0) [(0, []), (1, []), (2, []), (3, []), (4, []), (5, []), (6, []), (7, []), (8, []), (9, []), (10, []), (11, [])] [0, 0, 2, 6, 14, 0, 32, 96, 254, 511, 1023, 2047] mixed (by kernel_rfl) ?_) <;> try simp only [List.map, gop, ev, lk, aenv, gyield, gBin, gInt, gStrOp, gUn, gPick, gNil, gExtract, gIfc, gConvK, gIndexO, gIndexVO, gMakeV, gMinV, gMaxV, isInt, gMin, gMax, gBlt, gCallV, gInvoke, gNilM, Array.toList_map, vcells, gField, gIndexV, gPart, reduceIte, Nat.reduceAdd, Nat.reduceSub, Nat.reduceMul, Nat.reduceLT, Nat.reduceLeDiff, Nat.reduceEqDiff, Nat.reduceBEq, Int.reduceLT, Int.reduceLE, Int.reduceGT, Int.reduceGE, Int.reduceEq, Int.reduceNe, Int.reduceAdd, Int.reduceSub, Int.reduceMul, Int.reduceNeg, Int.reduceToNat, Int.reduceBEq, Int.reduceBNe, Int.cast_ofNat_Int, List.getElem?_toArray, stp, rvOf, wlk, rdv, isEff, dsOf, sgl, stq, Try.underlying22, Try.underlying4, Try.underlying5, Try.underlying84, ty22, ty84, ty4, ty5, rs99]))
  exact i0.put s2 o2.rb o2.sl (by simp) q3 f3
theorem c_wbat {N kw ka n : Nat} {h0 h : GH} {q : Aq} {id : List UInt8} {bt : List (List UInt8 × List UInt8)} {out : List UInt8} (hn : n < 8) (hbt : bt.length ≤ 32) (hbp : (bputs bt).length ≤ 9000) (i : WI kw ka h0 q id bt n out h) : GTri Try.prog N 98 [.pointer (some ⟨kw, 0, none⟩), .pointer (some ⟨ka, 9, none⟩)] h fun _ h' => WI kw ka h0 q id bt (n + 1) (out ++ (guint bt.length ++ bputs bt)) h' := by
  have i0 := i
  obtain ⟨⟨a1, c1, m1, r1, _⟩, ⟨a2, c2, b, d, w, m2, r2, rl⟩, ne, hl, fr⟩ := i
  have cg : (q.cs (.slice a2 id.length c2) (.slice b bt.length d))[9]? = some (.slice b bt.length d) := rfl
  have gl := guint_len bt.length
  refine gtri Try.func98 rfl gf98 ok98 (by simp [Try.ntmps98]) ?_
  repeat' (first | (with_reducible first | refine gw_seq ?_ | refine gw_block ?_) | ((first | (with_reducible first | refine gw_region ?_ | refine gw_if ?_ | refine gw_skip ?_ | refine gw_exit ?_ | refine gw_ret ?_) | ((with_reducible first | refine gif_b (fun hb => ?_) (fun hb => ?_) | refine want_t (fun hb => ?_) (fun hb => ?_) | refine want_f (fun hb => ?_) (fun hb => ?_) | refine dr_t (fun hb => ?_) (fun hb => ?_) | refine dr_f (fun hb => ?_) (fun hb => ?_)) <;> (try simp only [hb]) <;> (try simp only [hpr] at hb)) | with_reducible refine gw_draw (id := 0) [(0, []), (1, []), (2, []), (3, []), (4, []), (5, []), (6, []), (7, []), (8, []), (9, []), (10, []), (11, [])] [0, 0, 2, 6, 14, 0, 32, 96, 254, 511, 1023, 2047] mixed (by kernel_rfl) ?_) <;> try simp only [List.map, gop, ev, lk, aenv, gyield, gBin, gInt, gStrOp, gUn, gPick, gNil, gExtract, gIfc, gConvK, gIndexO, gIndexVO, gMakeV, gMinV, gMaxV, isInt, gMin, gMax, gBlt, gCallV, gInvoke, gNilM, Array.toList_map, vcells, gField, gIndexV, gPart, reduceIte, Nat.reduceAdd, Nat.reduceSub, Nat.reduceMul, Nat.reduceLT, Nat.reduceLeDiff, Nat.reduceEqDiff, Nat.reduceBEq, Int.reduceLT, Int.reduceLE, Int.reduceGT, Int.reduceGE, Int.reduceEq, Int.reduceNe, Int.reduceAdd, Int.reduceSub, Int.reduceMul, Int.reduceNeg, Int.reduceToNat, Int.reduceBEq, Int.reduceBNe, Int.cast_ofNat_Int, List.getElem?_toArray, stp, rvOf, wlk, rdv, isEff, dsOf, sgl, stq, Try.underlying120, Try.underlying22, Try.underlying36, Try.underlying5, Try.underlying84, ty22, ty36, ty120, ty84, ty5, rs98, gNil, gload1 m1 sz22, gload1 m2 sz36, cg]))
  refine (c_Write N h r1 rl (by omega) (by omega)).mono ?_
  rintro _ h2 ⟨s2, o2⟩
  rw [List.append_assoc] at o2
  obtain ⟨a3, c3, rfl⟩ := o2.form
  (try simp only [List.map, gop, ev, lk, aenv, gyield, gBin, gInt, gStrOp, gUn, gPick, gNil, gExtract, gIfc, gConvK, gIndexO, gIndexVO, gMakeV, gMinV, gMaxV, isInt, gMin, gMax, gBlt, gCallV, gInvoke, gNilM, Array.toList_map, vcells, gField, gIndexV, gPart, reduceIte, Nat.reduceAdd, Nat.reduceSub, Nat.reduceMul, Nat.reduceLT, Nat.reduceLeDiff, Nat.reduceEqDiff, Nat.reduceBEq, Int.reduceLT, Int.reduceLE, Int.reduceGT, Int.reduceGE, Int.reduceEq, Int.reduceNe, Int.reduceAdd, Int.reduceSub, Int.reduceMul, Int.reduceNeg, Int.reduceToNat, Int.reduceBEq, Int.reduceBNe, Int.cast_ofNat_Int, List.getElem?_toArray, stp, rvOf, wlk, rdv, isEff, dsOf, sgl, stq, Try.underlying120, Try.underlying22, Try.underlying36, Try.underlying5, Try.underlying84, ty22, ty36, ty120, ty84, ty5, rs98, gNil, gload1 (s2 _ _ m1) sz22, gload1 (s2 _ _ m2) sz36, cg]); repeat' (first | (with_reducible first | refine gw_seq ?_ | refine gw_block ?_) | ((first | (with_reducible first | refine gw_region ?_ | refine gw_if ?_ | refine gw_skip ?_ | refine gw_exit ?_ | refine gw_ret ?_) | ((with_reducible first | refine gif_b (fun hb => ?_) (fun hb => ?_) | refine want_t (fun hb => ?_) (fun hb => ?_) | refine want_f (fun hb => ?_) (fun hb => ?_) | refine dr_t (fun hb => ?_) (fun hb => ?_) | refine dr_f (fun hb => ?_) (fun hb => ?_)) <;> (try simp only [hb]) <;> (try simp only [hpr] at hb)) | with_reducible refine gw_draw (id := 0) [(0, []), (1, []), (2, []), (3, []), (4, []), (5, []), (6, []), (7, []), (8, []), (9, []), (10, []), (11, [])] [0, 0, 2, 6, 14, 0, 32, 96, 254, 511, 1023, 2047] mixed (by kernel_rfl) ?_) <;> try simp only [List.map, gop, ev, lk, aenv, gyield, gBin, gInt, gStrOp, gUn, gPick, gNil, gExtract, gIfc, gConvK, gIndexO, gIndexVO, gMakeV, gMinV, gMaxV, isInt, gMin, gMax, gBlt, gCallV, gInvoke, gNilM, Array.toList_map, vcells, gField, gIndexV, gPart, reduceIte, Nat.reduceAdd, Nat.reduceSub, Nat.reduceMul, Nat.reduceLT, Nat.reduceLeDiff, Nat.reduceEqDiff, Nat.reduceBEq, Int.reduceLT, Int.reduceLE, Int.reduceGT, Int.reduceGE, Int.reduceEq, Int.reduceNe, Int.reduceAdd, Int.reduceSub, Int.reduceMul, Int.reduceNeg, Int.reduceToNat, Int.reduceBEq, Int.reduceBNe, Int.cast_ofNat_Int, List.getElem?_toArray, stp, rvOf, wlk, rdv, isEff, dsOf, sgl, stq, Try.underlying120, Try.underlying22, Try.underlying36, Try.underlying5, Try.underlying84, ty22, ty36, ty120, ty84, ty5, rs98, gNil, gload1 (s2 _ _ m1) sz22, gload1 (s2 _ _ m2) sz36, cg]))
  refine st_one (s2 _ _ m1) sz22 rfl (by simp) rfl rfl fun h3 q3 f3 => ?_
  (try simp only [List.map, gop, ev, lk, aenv, gyield, gBin, gInt, gStrOp, gUn, gPick, gNil, gExtract, gIfc, gConvK, gIndexO, gIndexVO, gMakeV, gMinV, gMaxV, isInt, gMin, gMax, gBlt, gCallV, gInvoke, gNilM, Array.toList_map, vcells, gField, gIndexV, gPart, reduceIte, Nat.reduceAdd, Nat.reduceSub, Nat.reduceMul, Nat.reduceLT, Nat.reduceLeDiff, Nat.reduceEqDiff, Nat.reduceBEq, Int.reduceLT, Int.reduceLE, Int.reduceGT, Int.reduceGE, Int.reduceEq, Int.reduceNe, Int.reduceAdd, Int.reduceSub, Int.reduceMul, Int.reduceNeg, Int.reduceToNat, Int.reduceBEq, Int.reduceBNe, Int.cast_ofNat_Int, List.getElem?_toArray, stp, rvOf, wlk, rdv, isEff, dsOf, sgl, stq, Try.underlying120, Try.underlying22, Try.underlying36, Try.underlying5, Try.underlying84, ty22, ty36, ty120, ty84, ty5, rs98]); repeat' (first | (with_reducible first | refine gw_seq ?_ | refine gw_block ?_) | ((first | (with_reducible first | refine gw_region ?_ | refine gw_if ?_ | refine gw_skip ?_ | refine gw_exit ?_ | refine gw_ret ?_) | ((with_reducible first | refine gif_b (fun hb => ?_) (fun hb => ?_) | refine want_t (fun hb => ?_) (fun hb => ?_) | refine want_f (fun hb => ?_) (fun hb => ?_) | refine dr_t (fun hb => ?_) (fun hb => ?_) | refine dr_f (fun hb => ?_) (fun hb => ?_)) <;> (try simp only [hb]) <;> (try simp only [hpr] at hb)) | with_reducible refine gw_draw (id := 0) [(0, []), (1, []), (2, []), (3, []), (4, []), (5, []), (6, []), (7, []), (8, []), (9, []), (10, []), (11, [])] [0, 0, 2, 6, 14, 0, 32, 96, 254, 511, 1023, 2047] mixed (by kernel_rfl) ?_) <;> try simp only [List.map, gop, ev, lk, aenv, gyield, gBin, gInt, gStrOp, gUn, gPick, gNil, gExtract, gIfc, gConvK, gIndexO, gIndexVO, gMakeV, gMinV, gMaxV, isInt, gMin, gMax, gBlt, gCallV, gInvoke, gNilM, Array.toList_map, vcells, gField, gIndexV, gPart, reduceIte, Nat.reduceAdd, Nat.reduceSub, Nat.reduceMul, Nat.reduceLT, Nat.reduceLeDiff, Nat.reduceEqDiff, Nat.reduceBEq, Int.reduceLT, Int.reduceLE, Int.reduceGT, Int.reduceGE, Int.reduceEq, Int.reduceNe, Int.reduceAdd, Int.reduceSub, Int.reduceMul, Int.reduceNeg, Int.reduceToNat, Int.reduceBEq, Int.reduceBNe, Int.cast_ofNat_Int, List.getElem?_toArray, stp, rvOf, wlk, rdv, isEff, dsOf, sgl, stq, Try.underlying120, Try.underlying22, Try.underlying36, Try.underlying5, Try.underlying84, ty22, ty36, ty120, ty84, ty5, rs98]))
  exact i0.put s2 o2.rb o2.sl (by rw [List.length_append]; omega) q3 f3
def writerPen (N kw ka : Nat) (h0 : GH) (q : Aq) (id : List UInt8) (bt : List (List UInt8 × List UInt8)) (hid : id.length ≤ 24) (hbt : bt.length ≤ 32) (hbp : (bputs bt).length ≤ 9000) : Pen N where
  T := 82
  fn := 100
  fx := 101
  fg := 99
  fb := 98
  gn := gmw_n
  gx := gmw_x
  gg := gmw_g
  gb := gmw_b
  x := .pointer (some ⟨kw, 0, none⟩)
  ka := ka
  S := List UInt8
  I := WI kw ka h0 q id bt
  kd := fun _ => q.kd
  so := fun _ => q.so
  num := fun s o _ => s ++ guint (q.get o)
  txt := fun s => s ++ (guint id.length ++ id)
  flg := fun s => s ++ [gflag q.so]
  bat := fun s => s ++ (guint bt.length ++ bputs bt)
  hI := fun n s h i => by
    obtain ⟨_, ⟨a, c, b, d, w, m2, _⟩, _⟩ := i
    exact ⟨_, w, m2, rfl, rfl⟩
  cn := fun n s h o m hn i ho _ => c_wnum o m hn i ho
  cx := fun n s h hn i => c_wtxt hn hid i
  cg := fun n s h hn i => c_wflg hn i
  cb := fun n s h hn i => c_wbat hn hbt hbp i
end Go.Gh

/- What a judge leaves. -/

namespace Go.Gh
open Go Go.Proofs Go.RowKit
set_option linter.unusedVariables false
set_option linter.unusedSimpArgs false
set_option maxRecDepth 100000
set_option maxHeartbeats 1000000

def Aq.left (q : Aq) (n m : Nat) : Bool := (((((((decide (q.fr = 0) && decide (q.tu = 0)) && decide (q.tm = 0)) && decide (q.ep = 0)) && decide (q.ix = 0)) && decide (q.lm = 0)) && decide (n = 0)) && decide (m = 0)) && (!q.so || decide (q.kd = 6))
theorem c_left (N : Nat) (h : GH) (q : Aq) {a b : Option Addr} {n m c d : Nat} : GTri Try.prog N 48 [q.v (.slice a n c) (.slice b m d)] h fun v h' => v = .bool (q.left n m) ∧ HS h h' := by
  generalize hr : q.left n m = r
  obtain ⟨kd, fr, tu, tm, ep, ix, lm, so⟩ := q
  have en : ((n : Int) == 0) = decide (n = 0) := by rw [Bool.eq_iff_iff]; simp
  have em : ((m : Int) == 0) = decide (m = 0) := by rw [Bool.eq_iff_iff]; simp
  have eq0 : ∀ (x y : Int), (x == y) = decide (x = y) := fun x y => rfl
  refine gtri Try.func48 rfl gf48 ok48 (by simp [Try.ntmps48]) ?_
  repeat' (first | (with_reducible first | refine gw_seq ?_ | refine gw_block ?_) | ((first | (with_reducible first | refine gw_region ?_ | refine gw_if ?_ | refine gw_skip ?_ | refine gw_exit ?_ | refine gw_ret ?_) | ((with_reducible first | refine gif_b (fun hb => ?_) (fun hb => ?_) | refine want_t (fun hb => ?_) (fun hb => ?_) | refine want_f (fun hb => ?_) (fun hb => ?_)) <;> (try simp only [hb]) <;> (try simp only [hpr] at hb))) <;> try simp only [List.map, gop, ev, lk, aenv, gyield, gBin, gInt, gStrOp, gUn, gPick, gNil, gExtract, gIfc, gConvK, gIndexO, gIndexVO, gMakeV, gMinV, gMaxV, isInt, gMin, gMax, gBlt, gCallV, gInvoke, gNilM, Array.toList_map, vcells, gField, gIndexV, gPart, reduceIte, Nat.reduceAdd, Nat.reduceSub, Nat.reduceMul, Nat.reduceLT, Nat.reduceLeDiff, Nat.reduceEqDiff, Nat.reduceBEq, Int.reduceLT, Int.reduceLE, Int.reduceGT, Int.reduceGE, Int.reduceEq, Int.reduceNe, Int.reduceAdd, Int.reduceSub, Int.reduceMul, Int.reduceNeg, Int.reduceToNat, Int.reduceBEq, Int.reduceBNe, Int.cast_ofNat_Int, List.getElem?_toArray, stp, Try.underlying120, Try.underlying22, Try.underlying3, Try.underlying36, Try.underlying38, Try.underlying4, Try.underlying5, ty22, ty36, ty120, ty38, ty3, ty4, ty5, rs48, Aq.v, Aq.cs]))
  refine box_g rfl fun k1 h1 m1 s1 f1 n1 => ?_
  have fin : ∀ x, x = r → (Value.bool x = .bool r ∧ HS h h1) := by rintro _ rfl; exact ⟨rfl, s1⟩
  clear f1 n1
  (try simp only [List.map, gop, ev, lk, aenv, gyield, gBin, gInt, gStrOp, gUn, gPick, gNil, gExtract, gIfc, gConvK, gIndexO, gIndexVO, gMakeV, gMinV, gMaxV, isInt, gMin, gMax, gBlt, gCallV, gInvoke, gNilM, Array.toList_map, vcells, gField, gIndexV, gPart, reduceIte, Nat.reduceAdd, Nat.reduceSub, Nat.reduceMul, Nat.reduceLT, Nat.reduceLeDiff, Nat.reduceEqDiff, Nat.reduceBEq, Int.reduceLT, Int.reduceLE, Int.reduceGT, Int.reduceGE, Int.reduceEq, Int.reduceNe, Int.reduceAdd, Int.reduceSub, Int.reduceMul, Int.reduceNeg, Int.reduceToNat, Int.reduceBEq, Int.reduceBNe, Int.cast_ofNat_Int, List.getElem?_toArray, stp, Try.underlying120, Try.underlying22, Try.underlying3, Try.underlying36, Try.underlying38, Try.underlying4, Try.underlying5, ty22, ty36, ty120, ty38, ty3, ty4, ty5, rs48, gload1 m1 sz3, gload1 m1 sz4, gload1 m1 sz22, gload1 m1 sz36, gLen, gPick, en, em]); repeat' (first | (with_reducible first | refine gw_seq ?_ | refine gw_block ?_) | ((first | (with_reducible first | refine gw_region ?_ | refine gw_if ?_ | refine gw_skip ?_ | refine gw_exit ?_ | refine gw_ret ?_) | ((with_reducible first | refine gif_b (fun hb => ?_) (fun hb => ?_) | refine want_t (fun hb => ?_) (fun hb => ?_) | refine want_f (fun hb => ?_) (fun hb => ?_)) <;> (try simp only [hb]) <;> (try simp only [hpr] at hb))) <;> try simp only [List.map, gop, ev, lk, aenv, gyield, gBin, gInt, gStrOp, gUn, gPick, gNil, gExtract, gIfc, gConvK, gIndexO, gIndexVO, gMakeV, gMinV, gMaxV, isInt, gMin, gMax, gBlt, gCallV, gInvoke, gNilM, Array.toList_map, vcells, gField, gIndexV, gPart, reduceIte, Nat.reduceAdd, Nat.reduceSub, Nat.reduceMul, Nat.reduceLT, Nat.reduceLeDiff, Nat.reduceEqDiff, Nat.reduceBEq, Int.reduceLT, Int.reduceLE, Int.reduceGT, Int.reduceGE, Int.reduceEq, Int.reduceNe, Int.reduceAdd, Int.reduceSub, Int.reduceMul, Int.reduceNeg, Int.reduceToNat, Int.reduceBEq, Int.reduceBNe, Int.cast_ofNat_Int, List.getElem?_toArray, stp, Try.underlying120, Try.underlying22, Try.underlying3, Try.underlying36, Try.underlying38, Try.underlying4, Try.underlying5, ty22, ty36, ty120, ty38, ty3, ty4, ty5, rs48, gload1 m1 sz3, gload1 m1 sz4, gload1 m1 sz22, gload1 m1 sz36, gLen, gPick, en, em]))
  all_goals
    refine fin _ ?_
    rw [← hr]
    simp_all [Aq.left]
end Go.Gh

/- What a request's bytes are. -/

namespace Go.Gh
open Go Go.Proofs Go.RowKit
set_option linter.unusedVariables false
set_option linter.unusedSimpArgs false
set_option maxRecDepth 100000
set_option maxHeartbeats 1000000

def jrun (k : Int) (s : Js) : Option Js := (judgePen 0 0 0 (fun _ => none)).run k s
def Ws (q : Aq) (id : List UInt8) (bt : List (List UInt8 × List UInt8)) (k : Int) (s : List UInt8) : List UInt8 :=
  let n := fun (o : Nat) (s : List UInt8) => s ++ guint (q.get o)
  let t := fun (s : List UInt8) => s ++ (guint id.length ++ id)
  if k = 1 then s ++ (guint bt.length ++ bputs bt)
  else if k = 2 then n 4 s
  else if k = 3 then n 3 (t s)
  else if k = 4 then n 3 (n 4 (t s))
  else if k = 5 then n 3 (n 2 (t s))
  else if k = 10 then n 8 (n 3 (n 2 (t s)))
  else if k = 6 then n 8 (if q.so = true then t (n 3 (n 2 s) ++ [gflag q.so]) else n 3 (n 2 s) ++ [gflag q.so])
  else if k = 7 then n 8 (n 7 (n 6 (n 3 (n 2 s))))
  else s
theorem wrun_eq (N kw ka : Nat) (h0 : GH) (q : Aq) (id : List UInt8) (bt : List (List UInt8 × List UInt8)) (h1 : id.length ≤ 24) (h2 : bt.length ≤ 32) (h3 : (bputs bt).length ≤ 9000) (k : Int) (s s' : List UInt8) (e : (writerPen N kw ka h0 q id bt h1 h2 h3).run k s = some s') : s' = Ws q id bt k s := by
  unfold Pen.run at e
  unfold Ws
  repeat' (split at e)
  all_goals
    first
    | (cases e; simp_all [writerPen, Pen.n]; done)
    | simp_all [writerPen, Pen.n]
theorem left_len {q : Aq} {n m : Nat} (h : q.left n m = true) : n = 0 ∧ m = 0 := by
  simp only [Aq.left, Bool.and_eq_true, decide_eq_true_eq] at h
  exact ⟨h.1.1.2, h.1.2⟩
theorem wide_nil {L : List (List UInt8 × List UInt8)} (h : L.length = 0) : wide L = false := by
  rw [List.eq_nil_of_length_eq_zero h]; rfl
theorem jrun_ok {q : Aq} {id : List UInt8} {bt : List (List UInt8 × List UInt8)} {s : Js} (e : jrun q.kd ⟨false, q, id, bt⟩ = some s) (hb : s.bad = false) (hl : s.q.left s.id.length s.bt.length = true) : id.length ≤ 24 ∧ bt.length ≤ 32 ∧ wide bt = false := by
  have hz := left_len hl
  unfold jrun Pen.run at e
  repeat' (split at e)
  all_goals
    cases e
  all_goals
    simp only [judgePen, Pen.n, Bool.or_eq_false_iff, decide_eq_false_iff_not, Bool.false_eq_true, not_false_eq_true, true_and] at hb hz
  all_goals
    first
    | (refine ⟨by omega, by omega, ?_⟩; first | exact wide_nil hz.2 | exact hb.2)
    | skip
theorem bputs_bound : ∀ (L : List (List UInt8 × List UInt8)), wide L = false → (bputs L).length ≤ 90 * L.length
  | [], _ => by simp [bputs]
  | x :: L, h => by
    simp only [wide, List.any_cons, Bool.or_eq_false_iff, decide_eq_false_iff_not] at h
    have ih := bputs_bound L h.2
    have g1 := guint_len x.1.length
    have g2 := guint_len x.2.length
    simp only [bputs, List.flatMap_cons, List.length_append, bput1, List.length_cons] at ih ⊢
    omega
/-- A request's bytes, or what is wrong. -/
def enc (q : Aq) (id : List UInt8) (bt : List (List UInt8 × List UInt8)) : List UInt8 × Int :=
  match jrun q.kd ⟨false, q, id, bt⟩ with
  | none => ([], 87)
  | some s => if s.bad = true ∨ s.q.left s.id.length s.bt.length = false then ([], 1) else (Ws q id bt q.kd (guint q.kd), 0)
end Go.Gh

/- A request, written. -/

namespace Go.Gh
open Go Go.Proofs Go.RowKit
set_option linter.unusedVariables false
set_option linter.unusedSimpArgs false
set_option maxRecDepth 100000
set_option maxHeartbeats 1000000

theorem run_both {N M : Nat} (p : Pen N) (q : Pen M) (k : Int) (s : p.S) (t : q.S) {s' : p.S} (e : p.run k s = some s') : ¬ q.run k t = none := by
  unfold Pen.run at e ⊢
  repeat' (split at e)
  all_goals first | (cases e; done) | simp_all
theorem c_Encode (N : Nat) (h : GH) (q : Aq) {a b : Option Addr} {c d : Nat} {id : List UInt8} {bt : List (List UInt8 × List UInt8)} (ri : RB h (.slice a id.length c) id) (rl : RL 2 Bd h (.slice b bt.length d) bt) (hL : bt.length ≤ 140737488351232) : GTri Try.prog N 19 [q.v (.slice a id.length c) (.slice b bt.length d)] h fun v h' => HS h h' ∧ ∃ a' c', v = .tuple #[.slice a' (enc q id bt).1.length c', .int .i64 (enc q id bt).2] ∧ RB h' (.slice a' (enc q id bt).1.length c') (enc q id bt).1 ∧ SL h' (.slice a' (enc q id bt).1.length c') := by
  generalize he : enc q id bt = E
  refine gtri Try.func19 rfl gf19 ok19 (by simp [Try.ntmps19]) ?_
  repeat' (first | (with_reducible first | refine gw_seq ?_ | refine gw_block ?_) | ((first | (with_reducible first | refine gw_region ?_ | refine gw_if ?_ | refine gw_skip ?_ | refine gw_exit ?_ | refine gw_ret ?_) | ((with_reducible first | refine gif_b (fun hb => ?_) (fun hb => ?_) | refine want_t (fun hb => ?_) (fun hb => ?_) | refine want_f (fun hb => ?_) (fun hb => ?_)) <;> (try simp only [hb]) <;> (try simp only [hpr] at hb))) <;> try simp only [List.map, gop, ev, lk, aenv, gyield, gBin, gInt, gStrOp, gUn, gPick, gNil, gExtract, gIfc, gConvK, gIndexO, gIndexVO, gMakeV, gMinV, gMaxV, isInt, gMin, gMax, gBlt, gCallV, gInvoke, gNilM, Array.toList_map, vcells, gField, gIndexV, gPart, reduceIte, Nat.reduceAdd, Nat.reduceSub, Nat.reduceMul, Nat.reduceLT, Nat.reduceLeDiff, Nat.reduceEqDiff, Nat.reduceBEq, Int.reduceLT, Int.reduceLE, Int.reduceGT, Int.reduceGE, Int.reduceEq, Int.reduceNe, Int.reduceAdd, Int.reduceSub, Int.reduceMul, Int.reduceNeg, Int.reduceToNat, Int.reduceBEq, Int.reduceBNe, Int.cast_ofNat_Int, List.getElem?_toArray, stp, Try.underlying108, Try.underlying22, Try.underlying3, Try.underlying36, Try.underlying38, Try.underlying4, Try.underlying5, Try.underlying78, Try.underlying80, Try.underlying81, Try.underlying82, Try.underlying84, ty22, ty36, ty38, ty78, ty84, ty3, ty4, ty5, ty80, ty81, ty82, ty108, rs19, Aq.v]))
  refine box_g rfl fun k1 h1 m1 s1 f1 n1 => ?_
  (try simp only [List.map, gop, ev, lk, aenv, gyield, gBin, gInt, gStrOp, gUn, gPick, gNil, gExtract, gIfc, gConvK, gIndexO, gIndexVO, gMakeV, gMinV, gMaxV, isInt, gMin, gMax, gBlt, gCallV, gInvoke, gNilM, Array.toList_map, vcells, gField, gIndexV, gPart, reduceIte, Nat.reduceAdd, Nat.reduceSub, Nat.reduceMul, Nat.reduceLT, Nat.reduceLeDiff, Nat.reduceEqDiff, Nat.reduceBEq, Int.reduceLT, Int.reduceLE, Int.reduceGT, Int.reduceGE, Int.reduceEq, Int.reduceNe, Int.reduceAdd, Int.reduceSub, Int.reduceMul, Int.reduceNeg, Int.reduceToNat, Int.reduceBEq, Int.reduceBNe, Int.cast_ofNat_Int, List.getElem?_toArray, stp, Try.underlying108, Try.underlying22, Try.underlying3, Try.underlying36, Try.underlying38, Try.underlying4, Try.underlying5, Try.underlying78, Try.underlying80, Try.underlying81, Try.underlying82, Try.underlying84, ty22, ty36, ty38, ty78, ty84, ty3, ty4, ty5, ty80, ty81, ty82, ty108, rs19]); repeat' (first | (with_reducible first | refine gw_seq ?_ | refine gw_block ?_) | ((first | (with_reducible first | refine gw_region ?_ | refine gw_if ?_ | refine gw_skip ?_ | refine gw_exit ?_ | refine gw_ret ?_) | ((with_reducible first | refine gif_b (fun hb => ?_) (fun hb => ?_) | refine want_t (fun hb => ?_) (fun hb => ?_) | refine want_f (fun hb => ?_) (fun hb => ?_)) <;> (try simp only [hb]) <;> (try simp only [hpr] at hb))) <;> try simp only [List.map, gop, ev, lk, aenv, gyield, gBin, gInt, gStrOp, gUn, gPick, gNil, gExtract, gIfc, gConvK, gIndexO, gIndexVO, gMakeV, gMinV, gMaxV, isInt, gMin, gMax, gBlt, gCallV, gInvoke, gNilM, Array.toList_map, vcells, gField, gIndexV, gPart, reduceIte, Nat.reduceAdd, Nat.reduceSub, Nat.reduceMul, Nat.reduceLT, Nat.reduceLeDiff, Nat.reduceEqDiff, Nat.reduceBEq, Int.reduceLT, Int.reduceLE, Int.reduceGT, Int.reduceGE, Int.reduceEq, Int.reduceNe, Int.reduceAdd, Int.reduceSub, Int.reduceMul, Int.reduceNeg, Int.reduceToNat, Int.reduceBEq, Int.reduceBNe, Int.cast_ofNat_Int, List.getElem?_toArray, stp, Try.underlying108, Try.underlying22, Try.underlying3, Try.underlying36, Try.underlying38, Try.underlying4, Try.underlying5, Try.underlying78, Try.underlying80, Try.underlying81, Try.underlying82, Try.underlying84, ty22, ty36, ty38, ty78, ty84, ty3, ty4, ty5, ty80, ty81, ty82, ty108, rs19]))
  refine new_g fun k2 h2 m2 s2 f2 n2 => ?_
  have k12 := ne_of m1 n2
  have m1 := s2 _ _ m1
  (try simp only [List.map, gop, ev, lk, aenv, gyield, gBin, gInt, gStrOp, gUn, gPick, gNil, gExtract, gIfc, gConvK, gIndexO, gIndexVO, gMakeV, gMinV, gMaxV, isInt, gMin, gMax, gBlt, gCallV, gInvoke, gNilM, Array.toList_map, vcells, gField, gIndexV, gPart, reduceIte, Nat.reduceAdd, Nat.reduceSub, Nat.reduceMul, Nat.reduceLT, Nat.reduceLeDiff, Nat.reduceEqDiff, Nat.reduceBEq, Int.reduceLT, Int.reduceLE, Int.reduceGT, Int.reduceGE, Int.reduceEq, Int.reduceNe, Int.reduceAdd, Int.reduceSub, Int.reduceMul, Int.reduceNeg, Int.reduceToNat, Int.reduceBEq, Int.reduceBNe, Int.cast_ofNat_Int, List.getElem?_toArray, stp, Try.underlying108, Try.underlying22, Try.underlying3, Try.underlying36, Try.underlying38, Try.underlying4, Try.underlying5, Try.underlying78, Try.underlying80, Try.underlying81, Try.underlying82, Try.underlying84, ty22, ty36, ty38, ty78, ty84, ty3, ty4, ty5, ty80, ty81, ty82, ty108, rs19, gloadA m1 sz38 rfl]); repeat' (first | (with_reducible first | refine gw_seq ?_ | refine gw_block ?_) | ((first | (with_reducible first | refine gw_region ?_ | refine gw_if ?_ | refine gw_skip ?_ | refine gw_exit ?_ | refine gw_ret ?_) | ((with_reducible first | refine gif_b (fun hb => ?_) (fun hb => ?_) | refine want_t (fun hb => ?_) (fun hb => ?_) | refine want_f (fun hb => ?_) (fun hb => ?_)) <;> (try simp only [hb]) <;> (try simp only [hpr] at hb))) <;> try simp only [List.map, gop, ev, lk, aenv, gyield, gBin, gInt, gStrOp, gUn, gPick, gNil, gExtract, gIfc, gConvK, gIndexO, gIndexVO, gMakeV, gMinV, gMaxV, isInt, gMin, gMax, gBlt, gCallV, gInvoke, gNilM, Array.toList_map, vcells, gField, gIndexV, gPart, reduceIte, Nat.reduceAdd, Nat.reduceSub, Nat.reduceMul, Nat.reduceLT, Nat.reduceLeDiff, Nat.reduceEqDiff, Nat.reduceBEq, Int.reduceLT, Int.reduceLE, Int.reduceGT, Int.reduceGE, Int.reduceEq, Int.reduceNe, Int.reduceAdd, Int.reduceSub, Int.reduceMul, Int.reduceNeg, Int.reduceToNat, Int.reduceBEq, Int.reduceBNe, Int.cast_ofNat_Int, List.getElem?_toArray, stp, Try.underlying108, Try.underlying22, Try.underlying3, Try.underlying36, Try.underlying38, Try.underlying4, Try.underlying5, Try.underlying78, Try.underlying80, Try.underlying81, Try.underlying82, Try.underlying84, ty22, ty36, ty38, ty78, ty84, ty3, ty4, ty5, ty80, ty81, ty82, ty108, rs19, gloadA m1 sz38 rfl]))
  refine new_g fun k3 h3 m3 s3 f3 n3 => ?_
  have k23 := ne_of m2 n3
  have k13 := ne_of m1 n3
  (try simp only [List.map, gop, ev, lk, aenv, gyield, gBin, gInt, gStrOp, gUn, gPick, gNil, gExtract, gIfc, gConvK, gIndexO, gIndexVO, gMakeV, gMinV, gMaxV, isInt, gMin, gMax, gBlt, gCallV, gInvoke, gNilM, Array.toList_map, vcells, gField, gIndexV, gPart, reduceIte, Nat.reduceAdd, Nat.reduceSub, Nat.reduceMul, Nat.reduceLT, Nat.reduceLeDiff, Nat.reduceEqDiff, Nat.reduceBEq, Int.reduceLT, Int.reduceLE, Int.reduceGT, Int.reduceGE, Int.reduceEq, Int.reduceNe, Int.reduceAdd, Int.reduceSub, Int.reduceMul, Int.reduceNeg, Int.reduceToNat, Int.reduceBEq, Int.reduceBNe, Int.cast_ofNat_Int, List.getElem?_toArray, stp, Try.underlying108, Try.underlying22, Try.underlying3, Try.underlying36, Try.underlying38, Try.underlying4, Try.underlying5, Try.underlying78, Try.underlying80, Try.underlying81, Try.underlying82, Try.underlying84, ty22, ty36, ty38, ty78, ty84, ty3, ty4, ty5, ty80, ty81, ty82, ty108, rs19]); repeat' (first | (with_reducible first | refine gw_seq ?_ | refine gw_block ?_) | ((first | (with_reducible first | refine gw_region ?_ | refine gw_if ?_ | refine gw_skip ?_ | refine gw_exit ?_ | refine gw_ret ?_) | ((with_reducible first | refine gif_b (fun hb => ?_) (fun hb => ?_) | refine want_t (fun hb => ?_) (fun hb => ?_) | refine want_f (fun hb => ?_) (fun hb => ?_)) <;> (try simp only [hb]) <;> (try simp only [hpr] at hb))) <;> try simp only [List.map, gop, ev, lk, aenv, gyield, gBin, gInt, gStrOp, gUn, gPick, gNil, gExtract, gIfc, gConvK, gIndexO, gIndexVO, gMakeV, gMinV, gMaxV, isInt, gMin, gMax, gBlt, gCallV, gInvoke, gNilM, Array.toList_map, vcells, gField, gIndexV, gPart, reduceIte, Nat.reduceAdd, Nat.reduceSub, Nat.reduceMul, Nat.reduceLT, Nat.reduceLeDiff, Nat.reduceEqDiff, Nat.reduceBEq, Int.reduceLT, Int.reduceLE, Int.reduceGT, Int.reduceGE, Int.reduceEq, Int.reduceNe, Int.reduceAdd, Int.reduceSub, Int.reduceMul, Int.reduceNeg, Int.reduceToNat, Int.reduceBEq, Int.reduceBNe, Int.cast_ofNat_Int, List.getElem?_toArray, stp, Try.underlying108, Try.underlying22, Try.underlying3, Try.underlying36, Try.underlying38, Try.underlying4, Try.underlying5, Try.underlying78, Try.underlying80, Try.underlying81, Try.underlying82, Try.underlying84, ty22, ty36, ty38, ty78, ty84, ty3, ty4, ty5, ty80, ty81, ty82, ty108, rs19]))
  refine st_agg m3 sz38 rfl (by decide) rfl rfl rfl fun h4 m4 f4 => ?_
  have s4 : HS h2 h4 := (HS.refl _).upd n3 fun j hj => (f4 j hj).trans (f3 j hj)
  have m1 := s4 _ _ m1
  have m2 := s4 _ _ m2
  have hs4 := (s1.trans s2).trans s4
  have ji : (judgePen N k2 k3 h4).I 0 ⟨false, q, id, bt⟩ h4 := ⟨⟨m2, ⟨a, c, b, d, m4, rl.bs hs4⟩, k23, fun j B _ _ e => e⟩, hL⟩
  (try simp only [List.map, gop, ev, lk, aenv, gyield, gBin, gInt, gStrOp, gUn, gPick, gNil, gExtract, gIfc, gConvK, gIndexO, gIndexVO, gMakeV, gMinV, gMaxV, isInt, gMin, gMax, gBlt, gCallV, gInvoke, gNilM, Array.toList_map, vcells, gField, gIndexV, gPart, reduceIte, Nat.reduceAdd, Nat.reduceSub, Nat.reduceMul, Nat.reduceLT, Nat.reduceLeDiff, Nat.reduceEqDiff, Nat.reduceBEq, Int.reduceLT, Int.reduceLE, Int.reduceGT, Int.reduceGE, Int.reduceEq, Int.reduceNe, Int.reduceAdd, Int.reduceSub, Int.reduceMul, Int.reduceNeg, Int.reduceToNat, Int.reduceBEq, Int.reduceBNe, Int.cast_ofNat_Int, List.getElem?_toArray, stp, Try.underlying108, Try.underlying22, Try.underlying3, Try.underlying36, Try.underlying38, Try.underlying4, Try.underlying5, Try.underlying78, Try.underlying80, Try.underlying81, Try.underlying82, Try.underlying84, ty22, ty36, ty38, ty78, ty84, ty3, ty4, ty5, ty80, ty81, ty82, ty108, rs19]); repeat' (first | (with_reducible first | refine gw_seq ?_ | refine gw_block ?_) | ((first | (with_reducible first | refine gw_region ?_ | refine gw_if ?_ | refine gw_skip ?_ | refine gw_exit ?_ | refine gw_ret ?_) | ((with_reducible first | refine gif_b (fun hb => ?_) (fun hb => ?_) | refine want_t (fun hb => ?_) (fun hb => ?_) | refine want_f (fun hb => ?_) (fun hb => ?_)) <;> (try simp only [hb]) <;> (try simp only [hpr] at hb))) <;> try simp only [List.map, gop, ev, lk, aenv, gyield, gBin, gInt, gStrOp, gUn, gPick, gNil, gExtract, gIfc, gConvK, gIndexO, gIndexVO, gMakeV, gMinV, gMaxV, isInt, gMin, gMax, gBlt, gCallV, gInvoke, gNilM, Array.toList_map, vcells, gField, gIndexV, gPart, reduceIte, Nat.reduceAdd, Nat.reduceSub, Nat.reduceMul, Nat.reduceLT, Nat.reduceLeDiff, Nat.reduceEqDiff, Nat.reduceBEq, Int.reduceLT, Int.reduceLE, Int.reduceGT, Int.reduceGE, Int.reduceEq, Int.reduceNe, Int.reduceAdd, Int.reduceSub, Int.reduceMul, Int.reduceNeg, Int.reduceToNat, Int.reduceBEq, Int.reduceBNe, Int.cast_ofNat_Int, List.getElem?_toArray, stp, Try.underlying108, Try.underlying22, Try.underlying3, Try.underlying36, Try.underlying38, Try.underlying4, Try.underlying5, Try.underlying78, Try.underlying80, Try.underlying81, Try.underlying82, Try.underlying84, ty22, ty36, ty38, ty78, ty84, ty3, ty4, ty5, ty80, ty81, ty82, ty108, rs19]))
  refine (c_fields (judgePen N k2 k3 h4) _ h4 ji).mono ?_
  rintro _ h5 (⟨n5, s5, e5, rfl, i5⟩ | ⟨e5, rfl, rfl⟩)
  case inr =>
    have e6 : jrun q.kd ⟨false, q, id, bt⟩ = none := e5
    have : enc q id bt = ([], 87) := by unfold enc; rw [e6]
    (try simp only [List.map, gop, ev, lk, aenv, gyield, gBin, gInt, gStrOp, gUn, gPick, gNil, gExtract, gIfc, gConvK, gIndexO, gIndexVO, gMakeV, gMinV, gMaxV, isInt, gMin, gMax, gBlt, gCallV, gInvoke, gNilM, Array.toList_map, vcells, gField, gIndexV, gPart, reduceIte, Nat.reduceAdd, Nat.reduceSub, Nat.reduceMul, Nat.reduceLT, Nat.reduceLeDiff, Nat.reduceEqDiff, Nat.reduceBEq, Int.reduceLT, Int.reduceLE, Int.reduceGT, Int.reduceGE, Int.reduceEq, Int.reduceNe, Int.reduceAdd, Int.reduceSub, Int.reduceMul, Int.reduceNeg, Int.reduceToNat, Int.reduceBEq, Int.reduceBNe, Int.cast_ofNat_Int, List.getElem?_toArray, stp, Try.underlying108, Try.underlying22, Try.underlying3, Try.underlying36, Try.underlying38, Try.underlying4, Try.underlying5, Try.underlying78, Try.underlying80, Try.underlying81, Try.underlying82, Try.underlying84, ty22, ty36, ty38, ty78, ty84, ty3, ty4, ty5, ty80, ty81, ty82, ty108, rs19, gUn]); repeat' (first | (with_reducible first | refine gw_seq ?_ | refine gw_block ?_) | ((first | (with_reducible first | refine gw_region ?_ | refine gw_if ?_ | refine gw_skip ?_ | refine gw_exit ?_ | refine gw_ret ?_) | ((with_reducible first | refine gif_b (fun hb => ?_) (fun hb => ?_) | refine want_t (fun hb => ?_) (fun hb => ?_) | refine want_f (fun hb => ?_) (fun hb => ?_)) <;> (try simp only [hb]) <;> (try simp only [hpr] at hb))) <;> try simp only [List.map, gop, ev, lk, aenv, gyield, gBin, gInt, gStrOp, gUn, gPick, gNil, gExtract, gIfc, gConvK, gIndexO, gIndexVO, gMakeV, gMinV, gMaxV, isInt, gMin, gMax, gBlt, gCallV, gInvoke, gNilM, Array.toList_map, vcells, gField, gIndexV, gPart, reduceIte, Nat.reduceAdd, Nat.reduceSub, Nat.reduceMul, Nat.reduceLT, Nat.reduceLeDiff, Nat.reduceEqDiff, Nat.reduceBEq, Int.reduceLT, Int.reduceLE, Int.reduceGT, Int.reduceGE, Int.reduceEq, Int.reduceNe, Int.reduceAdd, Int.reduceSub, Int.reduceMul, Int.reduceNeg, Int.reduceToNat, Int.reduceBEq, Int.reduceBNe, Int.cast_ofNat_Int, List.getElem?_toArray, stp, Try.underlying108, Try.underlying22, Try.underlying3, Try.underlying36, Try.underlying38, Try.underlying4, Try.underlying5, Try.underlying78, Try.underlying80, Try.underlying81, Try.underlying82, Try.underlying84, ty22, ty36, ty38, ty78, ty84, ty3, ty4, ty5, ty80, ty81, ty82, ty108, rs19, gUn]))
    rw [← he, this]
    exact ⟨hs4, none, 0, rfl, RB.nil _, SL.nil _ _ _⟩
  replace e5 : jrun q.kd ⟨false, q, id, bt⟩ = some s5 := e5
  obtain ⟨⟨q2, ⟨a5, c5, b5, d5, q3, rl5⟩, _, fr5⟩, _⟩ := i5
  have m1 := fr5 _ _ k12 k13 m1
  have hs5 : HS h h5 := fun j B e => fr5 j B (ne_of (s1 _ _ e) n2) (ne_of (s2 _ _ (s1 _ _ e)) n3) (hs4 _ _ e)
  by_cases hb : s5.bad = true
  · have : enc q id bt = ([], 1) := by unfold enc; rw [e5]; simp [hb]
    rw [hb] at q2
    (try simp only [List.map, gop, ev, lk, aenv, gyield, gBin, gInt, gStrOp, gUn, gPick, gNil, gExtract, gIfc, gConvK, gIndexO, gIndexVO, gMakeV, gMinV, gMaxV, isInt, gMin, gMax, gBlt, gCallV, gInvoke, gNilM, Array.toList_map, vcells, gField, gIndexV, gPart, reduceIte, Nat.reduceAdd, Nat.reduceSub, Nat.reduceMul, Nat.reduceLT, Nat.reduceLeDiff, Nat.reduceEqDiff, Nat.reduceBEq, Int.reduceLT, Int.reduceLE, Int.reduceGT, Int.reduceGE, Int.reduceEq, Int.reduceNe, Int.reduceAdd, Int.reduceSub, Int.reduceMul, Int.reduceNeg, Int.reduceToNat, Int.reduceBEq, Int.reduceBNe, Int.cast_ofNat_Int, List.getElem?_toArray, stp, Try.underlying108, Try.underlying22, Try.underlying3, Try.underlying36, Try.underlying38, Try.underlying4, Try.underlying5, Try.underlying78, Try.underlying80, Try.underlying81, Try.underlying82, Try.underlying84, ty22, ty36, ty38, ty78, ty84, ty3, ty4, ty5, ty80, ty81, ty82, ty108, rs19, gUn, gload1 q2 sz4]); repeat' (first | (with_reducible first | refine gw_seq ?_ | refine gw_block ?_) | ((first | (with_reducible first | refine gw_region ?_ | refine gw_if ?_ | refine gw_skip ?_ | refine gw_exit ?_ | refine gw_ret ?_) | ((with_reducible first | refine gif_b (fun hb => ?_) (fun hb => ?_) | refine want_t (fun hb => ?_) (fun hb => ?_) | refine want_f (fun hb => ?_) (fun hb => ?_)) <;> (try simp only [hb]) <;> (try simp only [hpr] at hb))) <;> try simp only [List.map, gop, ev, lk, aenv, gyield, gBin, gInt, gStrOp, gUn, gPick, gNil, gExtract, gIfc, gConvK, gIndexO, gIndexVO, gMakeV, gMinV, gMaxV, isInt, gMin, gMax, gBlt, gCallV, gInvoke, gNilM, Array.toList_map, vcells, gField, gIndexV, gPart, reduceIte, Nat.reduceAdd, Nat.reduceSub, Nat.reduceMul, Nat.reduceLT, Nat.reduceLeDiff, Nat.reduceEqDiff, Nat.reduceBEq, Int.reduceLT, Int.reduceLE, Int.reduceGT, Int.reduceGE, Int.reduceEq, Int.reduceNe, Int.reduceAdd, Int.reduceSub, Int.reduceMul, Int.reduceNeg, Int.reduceToNat, Int.reduceBEq, Int.reduceBNe, Int.cast_ofNat_Int, List.getElem?_toArray, stp, Try.underlying108, Try.underlying22, Try.underlying3, Try.underlying36, Try.underlying38, Try.underlying4, Try.underlying5, Try.underlying78, Try.underlying80, Try.underlying81, Try.underlying82, Try.underlying84, ty22, ty36, ty38, ty78, ty84, ty3, ty4, ty5, ty80, ty81, ty82, ty108, rs19, gUn, gload1 q2 sz4]))
    rw [← he, this]
    exact ⟨hs5, none, 0, rfl, RB.nil _, SL.nil _ _ _⟩
  replace hb : s5.bad = false := by simpa using hb
  rw [hb] at q2
  (try simp only [List.map, gop, ev, lk, aenv, gyield, gBin, gInt, gStrOp, gUn, gPick, gNil, gExtract, gIfc, gConvK, gIndexO, gIndexVO, gMakeV, gMinV, gMaxV, isInt, gMin, gMax, gBlt, gCallV, gInvoke, gNilM, Array.toList_map, vcells, gField, gIndexV, gPart, reduceIte, Nat.reduceAdd, Nat.reduceSub, Nat.reduceMul, Nat.reduceLT, Nat.reduceLeDiff, Nat.reduceEqDiff, Nat.reduceBEq, Int.reduceLT, Int.reduceLE, Int.reduceGT, Int.reduceGE, Int.reduceEq, Int.reduceNe, Int.reduceAdd, Int.reduceSub, Int.reduceMul, Int.reduceNeg, Int.reduceToNat, Int.reduceBEq, Int.reduceBNe, Int.cast_ofNat_Int, List.getElem?_toArray, stp, Try.underlying108, Try.underlying22, Try.underlying3, Try.underlying36, Try.underlying38, Try.underlying4, Try.underlying5, Try.underlying78, Try.underlying80, Try.underlying81, Try.underlying82, Try.underlying84, ty22, ty36, ty38, ty78, ty84, ty3, ty4, ty5, ty80, ty81, ty82, ty108, rs19, gUn, gload1 q2 sz4, gloadA q3 sz38 (Aq.cs_len _ _ _)]); repeat' (first | (with_reducible first | refine gw_seq ?_ | refine gw_block ?_) | ((first | (with_reducible first | refine gw_region ?_ | refine gw_if ?_ | refine gw_skip ?_ | refine gw_exit ?_ | refine gw_ret ?_) | ((with_reducible first | refine gif_b (fun hb => ?_) (fun hb => ?_) | refine want_t (fun hb => ?_) (fun hb => ?_) | refine want_f (fun hb => ?_) (fun hb => ?_)) <;> (try simp only [hb]) <;> (try simp only [hpr] at hb))) <;> try simp only [List.map, gop, ev, lk, aenv, gyield, gBin, gInt, gStrOp, gUn, gPick, gNil, gExtract, gIfc, gConvK, gIndexO, gIndexVO, gMakeV, gMinV, gMaxV, isInt, gMin, gMax, gBlt, gCallV, gInvoke, gNilM, Array.toList_map, vcells, gField, gIndexV, gPart, reduceIte, Nat.reduceAdd, Nat.reduceSub, Nat.reduceMul, Nat.reduceLT, Nat.reduceLeDiff, Nat.reduceEqDiff, Nat.reduceBEq, Int.reduceLT, Int.reduceLE, Int.reduceGT, Int.reduceGE, Int.reduceEq, Int.reduceNe, Int.reduceAdd, Int.reduceSub, Int.reduceMul, Int.reduceNeg, Int.reduceToNat, Int.reduceBEq, Int.reduceBNe, Int.cast_ofNat_Int, List.getElem?_toArray, stp, Try.underlying108, Try.underlying22, Try.underlying3, Try.underlying36, Try.underlying38, Try.underlying4, Try.underlying5, Try.underlying78, Try.underlying80, Try.underlying81, Try.underlying82, Try.underlying84, ty22, ty36, ty38, ty78, ty84, ty3, ty4, ty5, ty80, ty81, ty82, ty108, rs19, gUn, gload1 q2 sz4, gloadA q3 sz38 (Aq.cs_len _ _ _)]))
  refine (c_left N h5 s5.q).mono ?_
  rintro _ h6 ⟨rfl, s6⟩
  cases hl : s5.q.left s5.id.length s5.bt.length
  · have : enc q id bt = ([], 1) := by unfold enc; rw [e5]; simp [hl]
    (try simp only [List.map, gop, ev, lk, aenv, gyield, gBin, gInt, gStrOp, gUn, gPick, gNil, gExtract, gIfc, gConvK, gIndexO, gIndexVO, gMakeV, gMinV, gMaxV, isInt, gMin, gMax, gBlt, gCallV, gInvoke, gNilM, Array.toList_map, vcells, gField, gIndexV, gPart, reduceIte, Nat.reduceAdd, Nat.reduceSub, Nat.reduceMul, Nat.reduceLT, Nat.reduceLeDiff, Nat.reduceEqDiff, Nat.reduceBEq, Int.reduceLT, Int.reduceLE, Int.reduceGT, Int.reduceGE, Int.reduceEq, Int.reduceNe, Int.reduceAdd, Int.reduceSub, Int.reduceMul, Int.reduceNeg, Int.reduceToNat, Int.reduceBEq, Int.reduceBNe, Int.cast_ofNat_Int, List.getElem?_toArray, stp, Try.underlying108, Try.underlying22, Try.underlying3, Try.underlying36, Try.underlying38, Try.underlying4, Try.underlying5, Try.underlying78, Try.underlying80, Try.underlying81, Try.underlying82, Try.underlying84, ty22, ty36, ty38, ty78, ty84, ty3, ty4, ty5, ty80, ty81, ty82, ty108, rs19, gUn]); repeat' (first | (with_reducible first | refine gw_seq ?_ | refine gw_block ?_) | ((first | (with_reducible first | refine gw_region ?_ | refine gw_if ?_ | refine gw_skip ?_ | refine gw_exit ?_ | refine gw_ret ?_) | ((with_reducible first | refine gif_b (fun hb => ?_) (fun hb => ?_) | refine want_t (fun hb => ?_) (fun hb => ?_) | refine want_f (fun hb => ?_) (fun hb => ?_)) <;> (try simp only [hb]) <;> (try simp only [hpr] at hb))) <;> try simp only [List.map, gop, ev, lk, aenv, gyield, gBin, gInt, gStrOp, gUn, gPick, gNil, gExtract, gIfc, gConvK, gIndexO, gIndexVO, gMakeV, gMinV, gMaxV, isInt, gMin, gMax, gBlt, gCallV, gInvoke, gNilM, Array.toList_map, vcells, gField, gIndexV, gPart, reduceIte, Nat.reduceAdd, Nat.reduceSub, Nat.reduceMul, Nat.reduceLT, Nat.reduceLeDiff, Nat.reduceEqDiff, Nat.reduceBEq, Int.reduceLT, Int.reduceLE, Int.reduceGT, Int.reduceGE, Int.reduceEq, Int.reduceNe, Int.reduceAdd, Int.reduceSub, Int.reduceMul, Int.reduceNeg, Int.reduceToNat, Int.reduceBEq, Int.reduceBNe, Int.cast_ofNat_Int, List.getElem?_toArray, stp, Try.underlying108, Try.underlying22, Try.underlying3, Try.underlying36, Try.underlying38, Try.underlying4, Try.underlying5, Try.underlying78, Try.underlying80, Try.underlying81, Try.underlying82, Try.underlying84, ty22, ty36, ty38, ty78, ty84, ty3, ty4, ty5, ty80, ty81, ty82, ty108, rs19, gUn]))
    rw [← he, this]
    exact ⟨hs5.trans s6, none, 0, rfl, RB.nil _, SL.nil _ _ _⟩
  have ee : enc q id bt = (Ws q id bt q.kd (guint q.kd), 0) := by unfold enc; rw [e5]; simp [hl, hb]
  have m1 := s6 _ _ m1
  have cg : (q.cs (.slice a id.length c) (.slice b bt.length d))[0]? = some (.int .i64 q.kd) := rfl
  (try simp only [List.map, gop, ev, lk, aenv, gyield, gBin, gInt, gStrOp, gUn, gPick, gNil, gExtract, gIfc, gConvK, gIndexO, gIndexVO, gMakeV, gMinV, gMaxV, isInt, gMin, gMax, gBlt, gCallV, gInvoke, gNilM, Array.toList_map, vcells, gField, gIndexV, gPart, reduceIte, Nat.reduceAdd, Nat.reduceSub, Nat.reduceMul, Nat.reduceLT, Nat.reduceLeDiff, Nat.reduceEqDiff, Nat.reduceBEq, Int.reduceLT, Int.reduceLE, Int.reduceGT, Int.reduceGE, Int.reduceEq, Int.reduceNe, Int.reduceAdd, Int.reduceSub, Int.reduceMul, Int.reduceNeg, Int.reduceToNat, Int.reduceBEq, Int.reduceBNe, Int.cast_ofNat_Int, List.getElem?_toArray, stp, Try.underlying108, Try.underlying22, Try.underlying3, Try.underlying36, Try.underlying38, Try.underlying4, Try.underlying5, Try.underlying78, Try.underlying80, Try.underlying81, Try.underlying82, Try.underlying84, ty22, ty36, ty38, ty78, ty84, ty3, ty4, ty5, ty80, ty81, ty82, ty108, rs19, gUn, gload1 m1 sz3, cg]); repeat' (first | (with_reducible first | refine gw_seq ?_ | refine gw_block ?_) | ((first | (with_reducible first | refine gw_region ?_ | refine gw_if ?_ | refine gw_skip ?_ | refine gw_exit ?_ | refine gw_ret ?_) | ((with_reducible first | refine gif_b (fun hb => ?_) (fun hb => ?_) | refine want_t (fun hb => ?_) (fun hb => ?_) | refine want_f (fun hb => ?_) (fun hb => ?_)) <;> (try simp only [hb]) <;> (try simp only [hpr] at hb))) <;> try simp only [List.map, gop, ev, lk, aenv, gyield, gBin, gInt, gStrOp, gUn, gPick, gNil, gExtract, gIfc, gConvK, gIndexO, gIndexVO, gMakeV, gMinV, gMaxV, isInt, gMin, gMax, gBlt, gCallV, gInvoke, gNilM, Array.toList_map, vcells, gField, gIndexV, gPart, reduceIte, Nat.reduceAdd, Nat.reduceSub, Nat.reduceMul, Nat.reduceLT, Nat.reduceLeDiff, Nat.reduceEqDiff, Nat.reduceBEq, Int.reduceLT, Int.reduceLE, Int.reduceGT, Int.reduceGE, Int.reduceEq, Int.reduceNe, Int.reduceAdd, Int.reduceSub, Int.reduceMul, Int.reduceNeg, Int.reduceToNat, Int.reduceBEq, Int.reduceBNe, Int.cast_ofNat_Int, List.getElem?_toArray, stp, Try.underlying108, Try.underlying22, Try.underlying3, Try.underlying36, Try.underlying38, Try.underlying4, Try.underlying5, Try.underlying78, Try.underlying80, Try.underlying81, Try.underlying82, Try.underlying84, ty22, ty36, ty38, ty78, ty84, ty3, ty4, ty5, ty80, ty81, ty82, ty108, rs19, gUn, gload1 m1 sz3, cg]))
  refine (c_Uint N h6 (RB.nil _) (by simp) q.kd).mono ?_
  rintro _ h7 ⟨s7, o7⟩
  rw [List.nil_append] at o7
  obtain ⟨a7, c7, rfl⟩ := o7.form
  have m1 := s7 _ _ m1
  (try simp only [List.map, gop, ev, lk, aenv, gyield, gBin, gInt, gStrOp, gUn, gPick, gNil, gExtract, gIfc, gConvK, gIndexO, gIndexVO, gMakeV, gMinV, gMaxV, isInt, gMin, gMax, gBlt, gCallV, gInvoke, gNilM, Array.toList_map, vcells, gField, gIndexV, gPart, reduceIte, Nat.reduceAdd, Nat.reduceSub, Nat.reduceMul, Nat.reduceLT, Nat.reduceLeDiff, Nat.reduceEqDiff, Nat.reduceBEq, Int.reduceLT, Int.reduceLE, Int.reduceGT, Int.reduceGE, Int.reduceEq, Int.reduceNe, Int.reduceAdd, Int.reduceSub, Int.reduceMul, Int.reduceNeg, Int.reduceToNat, Int.reduceBEq, Int.reduceBNe, Int.cast_ofNat_Int, List.getElem?_toArray, stp, Try.underlying108, Try.underlying22, Try.underlying3, Try.underlying36, Try.underlying38, Try.underlying4, Try.underlying5, Try.underlying78, Try.underlying80, Try.underlying81, Try.underlying82, Try.underlying84, ty22, ty36, ty38, ty78, ty84, ty3, ty4, ty5, ty80, ty81, ty82, ty108, rs19, gBuild, lfill, lput, Shape.pl, List.all_cons, List.all_nil, isCell]); repeat' (first | (with_reducible first | refine gw_seq ?_ | refine gw_block ?_) | ((first | (with_reducible first | refine gw_region ?_ | refine gw_if ?_ | refine gw_skip ?_ | refine gw_exit ?_ | refine gw_ret ?_) | ((with_reducible first | refine gif_b (fun hb => ?_) (fun hb => ?_) | refine want_t (fun hb => ?_) (fun hb => ?_) | refine want_f (fun hb => ?_) (fun hb => ?_)) <;> (try simp only [hb]) <;> (try simp only [hpr] at hb))) <;> try simp only [List.map, gop, ev, lk, aenv, gyield, gBin, gInt, gStrOp, gUn, gPick, gNil, gExtract, gIfc, gConvK, gIndexO, gIndexVO, gMakeV, gMinV, gMaxV, isInt, gMin, gMax, gBlt, gCallV, gInvoke, gNilM, Array.toList_map, vcells, gField, gIndexV, gPart, reduceIte, Nat.reduceAdd, Nat.reduceSub, Nat.reduceMul, Nat.reduceLT, Nat.reduceLeDiff, Nat.reduceEqDiff, Nat.reduceBEq, Int.reduceLT, Int.reduceLE, Int.reduceGT, Int.reduceGE, Int.reduceEq, Int.reduceNe, Int.reduceAdd, Int.reduceSub, Int.reduceMul, Int.reduceNeg, Int.reduceToNat, Int.reduceBEq, Int.reduceBNe, Int.cast_ofNat_Int, List.getElem?_toArray, stp, Try.underlying108, Try.underlying22, Try.underlying3, Try.underlying36, Try.underlying38, Try.underlying4, Try.underlying5, Try.underlying78, Try.underlying80, Try.underlying81, Try.underlying82, Try.underlying84, ty22, ty36, ty38, ty78, ty84, ty3, ty4, ty5, ty80, ty81, ty82, ty108, rs19, gBuild, lfill, lput, Shape.pl, List.all_cons, List.all_nil, isCell]))
  refine box_g rfl fun k8 h8 m8 s8 f8 n8 => ?_
  have k18 := ne_of m1 n8
  have m1 := s8 _ _ m1
  have hs8 : HS h h8 := ((hs5.trans s6).trans s7).trans s8
  obtain ⟨j1, j2, j3⟩ := jrun_ok e5 hb hl
  have j4 : (bputs bt).length ≤ 9000 := by have := bputs_bound bt j3; omega
  have gl := guint_len q.kd
  have wi : (writerPen N k8 k1 h8 q id bt j1 j2 j4).I 0 (guint q.kd) h8 := ⟨⟨a7, c7, m8, o7.rb.hs s8, o7.sl.hs s8⟩, ⟨a, c, b, d, true, m1, ri.hs hs8, rl.bs hs8⟩, k18.symm, by omega, fun j B _ e => e⟩
  (try simp only [List.map, gop, ev, lk, aenv, gyield, gBin, gInt, gStrOp, gUn, gPick, gNil, gExtract, gIfc, gConvK, gIndexO, gIndexVO, gMakeV, gMinV, gMaxV, isInt, gMin, gMax, gBlt, gCallV, gInvoke, gNilM, Array.toList_map, vcells, gField, gIndexV, gPart, reduceIte, Nat.reduceAdd, Nat.reduceSub, Nat.reduceMul, Nat.reduceLT, Nat.reduceLeDiff, Nat.reduceEqDiff, Nat.reduceBEq, Int.reduceLT, Int.reduceLE, Int.reduceGT, Int.reduceGE, Int.reduceEq, Int.reduceNe, Int.reduceAdd, Int.reduceSub, Int.reduceMul, Int.reduceNeg, Int.reduceToNat, Int.reduceBEq, Int.reduceBNe, Int.cast_ofNat_Int, List.getElem?_toArray, stp, Try.underlying108, Try.underlying22, Try.underlying3, Try.underlying36, Try.underlying38, Try.underlying4, Try.underlying5, Try.underlying78, Try.underlying80, Try.underlying81, Try.underlying82, Try.underlying84, ty22, ty36, ty38, ty78, ty84, ty3, ty4, ty5, ty80, ty81, ty82, ty108, rs19]); repeat' (first | (with_reducible first | refine gw_seq ?_ | refine gw_block ?_) | ((first | (with_reducible first | refine gw_region ?_ | refine gw_if ?_ | refine gw_skip ?_ | refine gw_exit ?_ | refine gw_ret ?_) | ((with_reducible first | refine gif_b (fun hb => ?_) (fun hb => ?_) | refine want_t (fun hb => ?_) (fun hb => ?_) | refine want_f (fun hb => ?_) (fun hb => ?_)) <;> (try simp only [hb]) <;> (try simp only [hpr] at hb))) <;> try simp only [List.map, gop, ev, lk, aenv, gyield, gBin, gInt, gStrOp, gUn, gPick, gNil, gExtract, gIfc, gConvK, gIndexO, gIndexVO, gMakeV, gMinV, gMaxV, isInt, gMin, gMax, gBlt, gCallV, gInvoke, gNilM, Array.toList_map, vcells, gField, gIndexV, gPart, reduceIte, Nat.reduceAdd, Nat.reduceSub, Nat.reduceMul, Nat.reduceLT, Nat.reduceLeDiff, Nat.reduceEqDiff, Nat.reduceBEq, Int.reduceLT, Int.reduceLE, Int.reduceGT, Int.reduceGE, Int.reduceEq, Int.reduceNe, Int.reduceAdd, Int.reduceSub, Int.reduceMul, Int.reduceNeg, Int.reduceToNat, Int.reduceBEq, Int.reduceBNe, Int.cast_ofNat_Int, List.getElem?_toArray, stp, Try.underlying108, Try.underlying22, Try.underlying3, Try.underlying36, Try.underlying38, Try.underlying4, Try.underlying5, Try.underlying78, Try.underlying80, Try.underlying81, Try.underlying82, Try.underlying84, ty22, ty36, ty38, ty78, ty84, ty3, ty4, ty5, ty80, ty81, ty82, ty108, rs19]))
  refine (c_fields (writerPen N k8 k1 h8 q id bt j1 j2 j4) _ h8 wi).mono ?_
  rintro _ h9 (⟨n9, s9, e9, rfl, i9⟩ | ⟨e9, _, _⟩)
  case inr => exact absurd e9 (run_both _ _ _ _ _ e5)
  have e10 := wrun_eq _ _ _ _ _ _ _ _ _ _ _ _ _ e9
  subst e10
  obtain ⟨⟨a9, c9, q9, r9, sl9⟩, _, _, _, fr9⟩ := i9
  (try simp only [List.map, gop, ev, lk, aenv, gyield, gBin, gInt, gStrOp, gUn, gPick, gNil, gExtract, gIfc, gConvK, gIndexO, gIndexVO, gMakeV, gMinV, gMaxV, isInt, gMin, gMax, gBlt, gCallV, gInvoke, gNilM, Array.toList_map, vcells, gField, gIndexV, gPart, reduceIte, Nat.reduceAdd, Nat.reduceSub, Nat.reduceMul, Nat.reduceLT, Nat.reduceLeDiff, Nat.reduceEqDiff, Nat.reduceBEq, Int.reduceLT, Int.reduceLE, Int.reduceGT, Int.reduceGE, Int.reduceEq, Int.reduceNe, Int.reduceAdd, Int.reduceSub, Int.reduceMul, Int.reduceNeg, Int.reduceToNat, Int.reduceBEq, Int.reduceBNe, Int.cast_ofNat_Int, List.getElem?_toArray, stp, Try.underlying108, Try.underlying22, Try.underlying3, Try.underlying36, Try.underlying38, Try.underlying4, Try.underlying5, Try.underlying78, Try.underlying80, Try.underlying81, Try.underlying82, Try.underlying84, ty22, ty36, ty38, ty78, ty84, ty3, ty4, ty5, ty80, ty81, ty82, ty108, rs19, gNil, gload1 q9 sz22]); repeat' (first | (with_reducible first | refine gw_seq ?_ | refine gw_block ?_) | ((first | (with_reducible first | refine gw_region ?_ | refine gw_if ?_ | refine gw_skip ?_ | refine gw_exit ?_ | refine gw_ret ?_) | ((with_reducible first | refine gif_b (fun hb => ?_) (fun hb => ?_) | refine want_t (fun hb => ?_) (fun hb => ?_) | refine want_f (fun hb => ?_) (fun hb => ?_)) <;> (try simp only [hb]) <;> (try simp only [hpr] at hb))) <;> try simp only [List.map, gop, ev, lk, aenv, gyield, gBin, gInt, gStrOp, gUn, gPick, gNil, gExtract, gIfc, gConvK, gIndexO, gIndexVO, gMakeV, gMinV, gMaxV, isInt, gMin, gMax, gBlt, gCallV, gInvoke, gNilM, Array.toList_map, vcells, gField, gIndexV, gPart, reduceIte, Nat.reduceAdd, Nat.reduceSub, Nat.reduceMul, Nat.reduceLT, Nat.reduceLeDiff, Nat.reduceEqDiff, Nat.reduceBEq, Int.reduceLT, Int.reduceLE, Int.reduceGT, Int.reduceGE, Int.reduceEq, Int.reduceNe, Int.reduceAdd, Int.reduceSub, Int.reduceMul, Int.reduceNeg, Int.reduceToNat, Int.reduceBEq, Int.reduceBNe, Int.cast_ofNat_Int, List.getElem?_toArray, stp, Try.underlying108, Try.underlying22, Try.underlying3, Try.underlying36, Try.underlying38, Try.underlying4, Try.underlying5, Try.underlying78, Try.underlying80, Try.underlying81, Try.underlying82, Try.underlying84, ty22, ty36, ty38, ty78, ty84, ty3, ty4, ty5, ty80, ty81, ty82, ty108, rs19, gNil, gload1 q9 sz22]))
  rw [← he, ee]
  exact ⟨fun j B e => fr9 j B (ne_of (s7 _ _ (s6 _ _ (hs5 _ _ e))) n8) (hs8 _ _ e), a9, c9, rfl, r9, sl9⟩
end Go.Gh

/- Batches, compared. -/

namespace Go.Gh
open Go Go.Proofs Go.RowKit
set_option linter.unusedVariables false
set_option linter.unusedSimpArgs false
set_option maxRecDepth 100000
set_option maxHeartbeats 1000000

theorem gload_at {P : Program} {h : GH} {ad : Addr} {t n o : Nat} {cs : List Value} (hz : gsz P t = some (false, 1)) (hr : gread h ad n = some cs) {v : Value} (hv : cs[o]? = some v) : gLoad P t h (.pointer (some ⟨ad.block, ad.off + o, none⟩)) = some v := by
  simp [gLoad, hz, gread_get hr hv]
theorem c_Same12 (N : Nat) (h : GH) {a b : Option Addr} {c d : Nat} {L M : List (List UInt8 × List UInt8)} (r1 : RL 2 Bd h (.slice a L.length c) L) (r2 : RL 2 Bd h (.slice b M.length d) M) (hL : L.length ≤ 140737488351232) : GTri Try.prog N 53 [.slice a L.length c, .slice b M.length d] h fun v h' => v = .bool (decide (L = M)) ∧ h' = h := by
  refine gtri Try.func53 rfl gf53 ok53 (by simp [Try.ntmps53]) ?_
  repeat' (first | (with_reducible first | refine gw_seq ?_ | refine gw_block ?_) | ((first | (with_reducible first | refine gw_region ?_ | refine gw_if ?_ | refine gw_skip ?_ | refine gw_exit ?_ | refine gw_ret ?_) | ((with_reducible first | refine gif_b (fun hb => ?_) (fun hb => ?_) | refine want_t (fun hb => ?_) (fun hb => ?_) | refine want_f (fun hb => ?_) (fun hb => ?_) | refine dr_t (fun hb => ?_) (fun hb => ?_) | refine dr_f (fun hb => ?_) (fun hb => ?_)) <;> (try simp only [hb]) <;> (try simp only [hpr] at hb)) | with_reducible refine gw_draw (id := 6) [(0, []), (1, []), (2, []), (3, []), (4, []), (5, []), (6, []), (7, []), (8, []), (9, []), (10, []), (11, []), (12, []), (13, []), (14, []), (15, []), (16, []), (17, []), (18, []), (19, []), (20, []), (21, []), (22, []), (23, []), (24, []), (25, []), (26, []), (27, [])] [0, 0, 3, 7, 15, 31, 0, 0, 192, 448, 960, 1984, 4095, 8191, 16383, 16383, 65535, 131071, 262143, 524287, 16383, 16383, 3162111, 7356415, 15745023, 32522239, 67108863, 134217727] mixed (by kernel_rfl) ?_) <;> try simp only [List.map, gop, ev, lk, aenv, gyield, gBin, gInt, gStrOp, gUn, gPick, gNil, gExtract, gIfc, gConvK, gIndexO, gIndexVO, gMakeV, gMinV, gMaxV, isInt, gMin, gMax, gBlt, gCallV, gInvoke, gNilM, Array.toList_map, vcells, gField, gIndexV, gPart, reduceIte, Nat.reduceAdd, Nat.reduceSub, Nat.reduceMul, Nat.reduceLT, Nat.reduceLeDiff, Nat.reduceEqDiff, Nat.reduceBEq, Int.reduceLT, Int.reduceLE, Int.reduceGT, Int.reduceGE, Int.reduceEq, Int.reduceNe, Int.reduceAdd, Int.reduceSub, Int.reduceMul, Int.reduceNeg, Int.reduceToNat, Int.reduceBEq, Int.reduceBNe, Int.cast_ofNat_Int, List.getElem?_toArray, stp, rvOf, wlk, rdv, isEff, dsOf, sgl, stq, Try.underlying120, Try.underlying22, Try.underlying3, Try.underlying36, Try.underlying5, Try.underlying9, ty22, ty36, ty120, ty3, ty5, ty9, rs53]))
  · have : L ≠ M := fun e => hb (by rw [e])
    simp [this]
  have hb' : M.length = L.length := by omega
  refine gw_loop2 [0, 1, 12] (fun (i : Nat) => [(13, .int .i64 (i : Int))]) (fun q i h' => L.length - i = q ∧ i ≤ L.length ∧ L.take i = M.take i ∧ h = h') L.length 0 (by simp [lk]) ⟨rfl, by omega, rfl, rfl⟩ ?_
  rintro _ i _ ⟨rfl, hi, te, rfl⟩
  by_cases hil : i < L.length
  case neg =>
    have d3 : decide ((i : Int) < (L.length : Int)) = false := decide_eq_false (by omega)
    obtain rfl : i = L.length := by omega
    rw [List.take_length, ← hb', List.take_length] at te
    (try simp only [List.map, gop, ev, lk, aenv, gyield, gBin, gInt, gStrOp, gUn, gPick, gNil, gExtract, gIfc, gConvK, gIndexO, gIndexVO, gMakeV, gMinV, gMaxV, isInt, gMin, gMax, gBlt, gCallV, gInvoke, gNilM, Array.toList_map, vcells, gField, gIndexV, gPart, reduceIte, Nat.reduceAdd, Nat.reduceSub, Nat.reduceMul, Nat.reduceLT, Nat.reduceLeDiff, Nat.reduceEqDiff, Nat.reduceBEq, Int.reduceLT, Int.reduceLE, Int.reduceGT, Int.reduceGE, Int.reduceEq, Int.reduceNe, Int.reduceAdd, Int.reduceSub, Int.reduceMul, Int.reduceNeg, Int.reduceToNat, Int.reduceBEq, Int.reduceBNe, Int.cast_ofNat_Int, List.getElem?_toArray, stp, rvOf, wlk, rdv, isEff, dsOf, sgl, stq, Try.underlying120, Try.underlying22, Try.underlying3, Try.underlying36, Try.underlying5, Try.underlying9, ty22, ty36, ty120, ty3, ty5, ty9, rs53, d3]); repeat' (first | (with_reducible first | refine gw_seq ?_ | refine gw_block ?_) | ((first | (with_reducible first | refine gw_region ?_ | refine gw_if ?_ | refine gw_skip ?_ | refine gw_exit ?_ | refine gw_ret ?_) | ((with_reducible first | refine gif_b (fun hb => ?_) (fun hb => ?_) | refine want_t (fun hb => ?_) (fun hb => ?_) | refine want_f (fun hb => ?_) (fun hb => ?_) | refine dr_t (fun hb => ?_) (fun hb => ?_) | refine dr_f (fun hb => ?_) (fun hb => ?_)) <;> (try simp only [hb]) <;> (try simp only [hpr] at hb)) | with_reducible refine gw_draw (id := 6) [(0, []), (1, []), (2, []), (3, []), (4, []), (5, []), (6, []), (7, []), (8, []), (9, []), (10, []), (11, []), (12, []), (13, []), (14, []), (15, []), (16, []), (17, []), (18, []), (19, []), (20, []), (21, []), (22, []), (23, []), (24, []), (25, []), (26, []), (27, [])] [0, 0, 3, 7, 15, 31, 0, 0, 192, 448, 960, 1984, 4095, 8191, 16383, 16383, 65535, 131071, 262143, 524287, 16383, 16383, 3162111, 7356415, 15745023, 32522239, 67108863, 134217727] mixed (by kernel_rfl) ?_) <;> try simp only [List.map, gop, ev, lk, aenv, gyield, gBin, gInt, gStrOp, gUn, gPick, gNil, gExtract, gIfc, gConvK, gIndexO, gIndexVO, gMakeV, gMinV, gMaxV, isInt, gMin, gMax, gBlt, gCallV, gInvoke, gNilM, Array.toList_map, vcells, gField, gIndexV, gPart, reduceIte, Nat.reduceAdd, Nat.reduceSub, Nat.reduceMul, Nat.reduceLT, Nat.reduceLeDiff, Nat.reduceEqDiff, Nat.reduceBEq, Int.reduceLT, Int.reduceLE, Int.reduceGT, Int.reduceGE, Int.reduceEq, Int.reduceNe, Int.reduceAdd, Int.reduceSub, Int.reduceMul, Int.reduceNeg, Int.reduceToNat, Int.reduceBEq, Int.reduceBNe, Int.cast_ofNat_Int, List.getElem?_toArray, stp, rvOf, wlk, rdv, isEff, dsOf, sgl, stq, Try.underlying120, Try.underlying22, Try.underlying3, Try.underlying36, Try.underlying5, Try.underlying9, ty22, ty36, ty120, ty3, ty5, ty9, rs53, d3]))
    simp [te]
  have d3 : decide ((i : Int) < (L.length : Int)) = true := decide_eq_true (by omega)
  have wi : IntKind.i64.wrap ((i : Int) + 1) = ((i + 1 : Nat) : Int) := by rw [wrap64 (by omega) (by omega)]; omega
  obtain ⟨x, hx⟩ : ∃ x, L[i]? = some x := ⟨_, List.getElem?_eq_getElem hil⟩
  obtain ⟨y, hy⟩ : ∃ y, M[i]? = some y := ⟨_, List.getElem?_eq_getElem (by omega)⟩
  obtain ⟨ad, cs2, g1, g2, a', n', c', b', m', d', rfl, p1, p2⟩ := r1.at (P := Try.prog) Try.underlying36 sz120 hx
  obtain ⟨ae, cs3, g3, g4, a'', n'', c'', b'', m'', d'', rfl, p3, p4⟩ := r2.at (P := Try.prog) Try.underlying36 sz120 hy
  have e1 := gload_at (P := Try.prog) (o := 0) sz22 g2 rfl
  have e2 := gload_at (P := Try.prog) (o := 1) sz22 g2 rfl
  have e3 := gload_at (P := Try.prog) (o := 0) sz22 g4 rfl
  have e4 := gload_at (P := Try.prog) (o := 1) sz22 g4 rfl
  (try simp only [List.map, gop, ev, lk, aenv, gyield, gBin, gInt, gStrOp, gUn, gPick, gNil, gExtract, gIfc, gConvK, gIndexO, gIndexVO, gMakeV, gMinV, gMaxV, isInt, gMin, gMax, gBlt, gCallV, gInvoke, gNilM, Array.toList_map, vcells, gField, gIndexV, gPart, reduceIte, Nat.reduceAdd, Nat.reduceSub, Nat.reduceMul, Nat.reduceLT, Nat.reduceLeDiff, Nat.reduceEqDiff, Nat.reduceBEq, Int.reduceLT, Int.reduceLE, Int.reduceGT, Int.reduceGE, Int.reduceEq, Int.reduceNe, Int.reduceAdd, Int.reduceSub, Int.reduceMul, Int.reduceNeg, Int.reduceToNat, Int.reduceBEq, Int.reduceBNe, Int.cast_ofNat_Int, List.getElem?_toArray, stp, rvOf, wlk, rdv, isEff, dsOf, sgl, stq, Try.underlying120, Try.underlying22, Try.underlying3, Try.underlying36, Try.underlying5, Try.underlying9, ty22, ty36, ty120, ty3, ty5, ty9, rs53, d3, g1, g3, e1, e2, e3, e4, p1.conv Try.underlying22 Try.underlying5 Try.underlying9, p2.conv Try.underlying22 Try.underlying5 Try.underlying9, p3.conv Try.underlying22 Try.underlying5 Try.underlying9, p4.conv Try.underlying22 Try.underlying5 Try.underlying9, bstr_eq, wi, gPick]); repeat' (first | (with_reducible first | refine gw_seq ?_ | refine gw_block ?_) | ((first | (with_reducible first | refine gw_region ?_ | refine gw_if ?_ | refine gw_skip ?_ | refine gw_exit ?_ | refine gw_ret ?_) | ((with_reducible first | refine gif_b (fun hb => ?_) (fun hb => ?_) | refine want_t (fun hb => ?_) (fun hb => ?_) | refine want_f (fun hb => ?_) (fun hb => ?_) | refine dr_t (fun hb => ?_) (fun hb => ?_) | refine dr_f (fun hb => ?_) (fun hb => ?_)) <;> (try simp only [hb]) <;> (try simp only [hpr] at hb)) | with_reducible refine gw_draw (id := 6) [(0, []), (1, []), (2, []), (3, []), (4, []), (5, []), (6, []), (7, []), (8, []), (9, []), (10, []), (11, []), (12, []), (13, []), (14, []), (15, []), (16, []), (17, []), (18, []), (19, []), (20, []), (21, []), (22, []), (23, []), (24, []), (25, []), (26, []), (27, [])] [0, 0, 3, 7, 15, 31, 0, 0, 192, 448, 960, 1984, 4095, 8191, 16383, 16383, 65535, 131071, 262143, 524287, 16383, 16383, 3162111, 7356415, 15745023, 32522239, 67108863, 134217727] mixed (by kernel_rfl) ?_) <;> try simp only [List.map, gop, ev, lk, aenv, gyield, gBin, gInt, gStrOp, gUn, gPick, gNil, gExtract, gIfc, gConvK, gIndexO, gIndexVO, gMakeV, gMinV, gMaxV, isInt, gMin, gMax, gBlt, gCallV, gInvoke, gNilM, Array.toList_map, vcells, gField, gIndexV, gPart, reduceIte, Nat.reduceAdd, Nat.reduceSub, Nat.reduceMul, Nat.reduceLT, Nat.reduceLeDiff, Nat.reduceEqDiff, Nat.reduceBEq, Int.reduceLT, Int.reduceLE, Int.reduceGT, Int.reduceGE, Int.reduceEq, Int.reduceNe, Int.reduceAdd, Int.reduceSub, Int.reduceMul, Int.reduceNeg, Int.reduceToNat, Int.reduceBEq, Int.reduceBNe, Int.cast_ofNat_Int, List.getElem?_toArray, stp, rvOf, wlk, rdv, isEff, dsOf, sgl, stq, Try.underlying120, Try.underlying22, Try.underlying3, Try.underlying36, Try.underlying5, Try.underlying9, ty22, ty36, ty120, ty3, ty5, ty9, rs53, d3, g1, g3, e1, e2, e3, e4, p1.conv Try.underlying22 Try.underlying5 Try.underlying9, p2.conv Try.underlying22 Try.underlying5 Try.underlying9, p3.conv Try.underlying22 Try.underlying5 Try.underlying9, p4.conv Try.underlying22 Try.underlying5 Try.underlying9, bstr_eq, wi, gPick]))
  rotate_left 2
  · rename_i e5 e6
    refine ⟨_, i + 1, ?_, (by simp only [List.forall_mem_cons, List.not_mem_nil, false_implies, implies_true, List.map, List.cons_append, List.nil_append, lk, Nat.reduceEqDiff, reduceIte, and_true, true_and]), rfl, by omega, ?_⟩
    · omega
    · have exy : x = y := Prod.ext e6 hb
      rw [List.take_add_one, List.take_add_one, te, hx, hy, exy]
  all_goals
    have : L ≠ M := fun e => by
      rw [e, hy] at hx
      cases hx
      contradiction
    simp [this]
end Go.Gh

/- Requests, compared. -/

namespace Go.Gh
open Go Go.Proofs Go.RowKit
set_option linter.unusedVariables false
set_option linter.unusedSimpArgs false
set_option maxRecDepth 100000
set_option maxHeartbeats 1000000

theorem c_Same25 (N : Nat) (h : GH) (q p : Aq) {a b a' b' : Option Addr} {c d c' d' : Nat} {i j : List UInt8} {L M : List (List UInt8 × List UInt8)} (ri : RB h (.slice a i.length c) i) (rj : RB h (.slice a' j.length c') j) (rl : RL 2 Bd h (.slice b L.length d) L) (rm : RL 2 Bd h (.slice b' M.length d') M) (hL : L.length ≤ 140737488351232) :
    GTri Try.prog N 21 [q.v (.slice a i.length c) (.slice b L.length d), p.v (.slice a' j.length c') (.slice b' M.length d')] h fun v h' => (∃ r : Bool, v = .bool r ∧ (r = true ↔ q = p ∧ i = j ∧ L = M)) ∧ HS h h' := by
  obtain ⟨x0, x1, x2, x3, x4, x5, x6, x7⟩ := q
  obtain ⟨y0, y1, y2, y3, y4, y5, y6, y7⟩ := p
  refine gtri Try.func21 rfl gf21 ok21 (by simp [Try.ntmps21]) ?_
  repeat' (first | (with_reducible first | refine gw_seq ?_ | refine gw_block ?_) | ((first | (with_reducible first | refine gw_region ?_ | refine gw_if ?_ | refine gw_skip ?_ | refine gw_exit ?_ | refine gw_ret ?_) | ((with_reducible first | refine gif_b (fun hb => ?_) (fun hb => ?_) | refine want_t (fun hb => ?_) (fun hb => ?_) | refine want_f (fun hb => ?_) (fun hb => ?_)) <;> (try simp only [hb]) <;> (try simp only [hpr] at hb))) <;> try simp only [List.map, gop, ev, lk, aenv, gyield, gBin, gInt, gStrOp, gUn, gPick, gNil, gExtract, gIfc, gConvK, gIndexO, gIndexVO, gMakeV, gMinV, gMaxV, isInt, gMin, gMax, gBlt, gCallV, gInvoke, gNilM, Array.toList_map, vcells, gField, gIndexV, gPart, reduceIte, Nat.reduceAdd, Nat.reduceSub, Nat.reduceMul, Nat.reduceLT, Nat.reduceLeDiff, Nat.reduceEqDiff, Nat.reduceBEq, Int.reduceLT, Int.reduceLE, Int.reduceGT, Int.reduceGE, Int.reduceEq, Int.reduceNe, Int.reduceAdd, Int.reduceSub, Int.reduceMul, Int.reduceNeg, Int.reduceToNat, Int.reduceBEq, Int.reduceBNe, Int.cast_ofNat_Int, List.getElem?_toArray, stp, Try.underlying120, Try.underlying22, Try.underlying3, Try.underlying36, Try.underlying38, Try.underlying4, Try.underlying5, Try.underlying9, ty22, ty36, ty120, ty38, ty3, ty4, ty5, ty9, rs21, Aq.v, Aq.cs]))
  refine box_g rfl fun k1 h1 m1 s1 f1 n1 => ?_
  (try simp only [List.map, gop, ev, lk, aenv, gyield, gBin, gInt, gStrOp, gUn, gPick, gNil, gExtract, gIfc, gConvK, gIndexO, gIndexVO, gMakeV, gMinV, gMaxV, isInt, gMin, gMax, gBlt, gCallV, gInvoke, gNilM, Array.toList_map, vcells, gField, gIndexV, gPart, reduceIte, Nat.reduceAdd, Nat.reduceSub, Nat.reduceMul, Nat.reduceLT, Nat.reduceLeDiff, Nat.reduceEqDiff, Nat.reduceBEq, Int.reduceLT, Int.reduceLE, Int.reduceGT, Int.reduceGE, Int.reduceEq, Int.reduceNe, Int.reduceAdd, Int.reduceSub, Int.reduceMul, Int.reduceNeg, Int.reduceToNat, Int.reduceBEq, Int.reduceBNe, Int.cast_ofNat_Int, List.getElem?_toArray, stp, Try.underlying120, Try.underlying22, Try.underlying3, Try.underlying36, Try.underlying38, Try.underlying4, Try.underlying5, Try.underlying9, ty22, ty36, ty120, ty38, ty3, ty4, ty5, ty9, rs21]); repeat' (first | (with_reducible first | refine gw_seq ?_ | refine gw_block ?_) | ((first | (with_reducible first | refine gw_region ?_ | refine gw_if ?_ | refine gw_skip ?_ | refine gw_exit ?_ | refine gw_ret ?_) | ((with_reducible first | refine gif_b (fun hb => ?_) (fun hb => ?_) | refine want_t (fun hb => ?_) (fun hb => ?_) | refine want_f (fun hb => ?_) (fun hb => ?_)) <;> (try simp only [hb]) <;> (try simp only [hpr] at hb))) <;> try simp only [List.map, gop, ev, lk, aenv, gyield, gBin, gInt, gStrOp, gUn, gPick, gNil, gExtract, gIfc, gConvK, gIndexO, gIndexVO, gMakeV, gMinV, gMaxV, isInt, gMin, gMax, gBlt, gCallV, gInvoke, gNilM, Array.toList_map, vcells, gField, gIndexV, gPart, reduceIte, Nat.reduceAdd, Nat.reduceSub, Nat.reduceMul, Nat.reduceLT, Nat.reduceLeDiff, Nat.reduceEqDiff, Nat.reduceBEq, Int.reduceLT, Int.reduceLE, Int.reduceGT, Int.reduceGE, Int.reduceEq, Int.reduceNe, Int.reduceAdd, Int.reduceSub, Int.reduceMul, Int.reduceNeg, Int.reduceToNat, Int.reduceBEq, Int.reduceBNe, Int.cast_ofNat_Int, List.getElem?_toArray, stp, Try.underlying120, Try.underlying22, Try.underlying3, Try.underlying36, Try.underlying38, Try.underlying4, Try.underlying5, Try.underlying9, ty22, ty36, ty120, ty38, ty3, ty4, ty5, ty9, rs21]))
  refine box_g rfl fun k2 h2 m2 s2 f2 n2 => ?_
  replace m1 := s2 _ _ m1
  have s3 := s1.trans s2
  simp only [List.map, gop, ev, lk, aenv, gyield, gBin, gInt, gStrOp, gUn, gPick, gNil, gExtract, gIfc, gConvK, gIndexO, gIndexVO, gMakeV, gMinV, gMaxV, isInt, gMin, gMax, gBlt, gCallV, gInvoke, gNilM, Array.toList_map, vcells, gField, gIndexV, gPart, reduceIte, Nat.reduceAdd, Nat.reduceSub, Nat.reduceMul, Nat.reduceLT, Nat.reduceLeDiff, Nat.reduceEqDiff, Nat.reduceBEq, Int.reduceLT, Int.reduceLE, Int.reduceGT, Int.reduceGE, Int.reduceEq, Int.reduceNe, Int.reduceAdd, Int.reduceSub, Int.reduceMul, Int.reduceNeg, Int.reduceToNat, Int.reduceBEq, Int.reduceBNe, Int.cast_ofNat_Int, List.getElem?_toArray, stp, Try.underlying120, Try.underlying22, Try.underlying3, Try.underlying36, Try.underlying38, Try.underlying4, Try.underlying5, Try.underlying9, ty22, ty36, ty120, ty38, ty3, ty4, ty5, ty9, rs21]
  refine gw_seq ?_
  refine gr_of ?_
  have ci := (ri.hs s3).conv Try.underlying22 Try.underlying5 Try.underlying9
  have cj := (rj.hs s3).conv Try.underlying22 Try.underlying5 Try.underlying9
  simp only [List.append_eq, List.cons_append, List.nil_append]
  refine gr_join 6 (x0 == y0) 10 [0, 1, 2, 3] ?_ ?_
  · (try simp only [List.map, gop, ev, lk, aenv, gyield, gBin, gInt, gStrOp, gUn, gPick, gNil, gExtract, gIfc, gConvK, gIndexO, gIndexVO, gMakeV, gMinV, gMaxV, isInt, gMin, gMax, gBlt, gCallV, gInvoke, gNilM, Array.toList_map, vcells, gField, gIndexV, gPart, reduceIte, Nat.reduceAdd, Nat.reduceSub, Nat.reduceMul, Nat.reduceLT, Nat.reduceLeDiff, Nat.reduceEqDiff, Nat.reduceBEq, Int.reduceLT, Int.reduceLE, Int.reduceGT, Int.reduceGE, Int.reduceEq, Int.reduceNe, Int.reduceAdd, Int.reduceSub, Int.reduceMul, Int.reduceNeg, Int.reduceToNat, Int.reduceBEq, Int.reduceBNe, Int.cast_ofNat_Int, List.getElem?_toArray, stp, Try.underlying120, Try.underlying22, Try.underlying3, Try.underlying36, Try.underlying38, Try.underlying4, Try.underlying5, Try.underlying9, ty22, ty36, ty120, ty38, ty3, ty4, ty5, ty9, rs21, gload1 m1 sz3, gload1 m1 sz4, gload1 m1 sz22, gload1 m2 sz3, gload1 m2 sz4, gload1 m2 sz22, ci, cj, bstr_eq, gPick, Bool.false_and, Bool.true_and]); repeat' (first | (with_reducible first | refine gw_seq ?_ | refine gw_block ?_) | ((first | (with_reducible first | refine gw_region ?_ | refine gw_if ?_ | refine gw_skip ?_ | refine gw_exit ?_ | refine gw_ret ?_) | ((with_reducible first | refine gif_b (fun hb => ?_) (fun hb => ?_) | refine want_t (fun hb => ?_) (fun hb => ?_) | refine want_f (fun hb => ?_) (fun hb => ?_)) <;> (try simp only [hb]) <;> (try simp only [hpr] at hb))) <;> try simp only [List.map, gop, ev, lk, aenv, gyield, gBin, gInt, gStrOp, gUn, gPick, gNil, gExtract, gIfc, gConvK, gIndexO, gIndexVO, gMakeV, gMinV, gMaxV, isInt, gMin, gMax, gBlt, gCallV, gInvoke, gNilM, Array.toList_map, vcells, gField, gIndexV, gPart, reduceIte, Nat.reduceAdd, Nat.reduceSub, Nat.reduceMul, Nat.reduceLT, Nat.reduceLeDiff, Nat.reduceEqDiff, Nat.reduceBEq, Int.reduceLT, Int.reduceLE, Int.reduceGT, Int.reduceGE, Int.reduceEq, Int.reduceNe, Int.reduceAdd, Int.reduceSub, Int.reduceMul, Int.reduceNeg, Int.reduceToNat, Int.reduceBEq, Int.reduceBNe, Int.cast_ofNat_Int, List.getElem?_toArray, stp, Try.underlying120, Try.underlying22, Try.underlying3, Try.underlying36, Try.underlying38, Try.underlying4, Try.underlying5, Try.underlying9, ty22, ty36, ty120, ty38, ty3, ty4, ty5, ty9, rs21, gload1 m1 sz3, gload1 m1 sz4, gload1 m1 sz22, gload1 m2 sz3, gload1 m2 sz4, gload1 m2 sz22, ci, cj, bstr_eq, gPick, Bool.false_and, Bool.true_and]))
    all_goals (first | exact ⟨rfl, rfl, (by simp only [List.forall_mem_cons, List.not_mem_nil, false_implies, implies_true, List.map, List.cons_append, List.nil_append, lk, Nat.reduceEqDiff, reduceIte, and_true, true_and])⟩ | (simp [lk]; done) | skip)
  simp only [List.drop_succ_cons, List.drop_zero, List.map, lk, Nat.reduceEqDiff, reduceIte]
  refine gr_join 9 ((x0 == y0) && (i == j)) 19 [0, 1, 2, 3] ?_ ?_
  · generalize (x0 == y0) = cc
    cases cc
    all_goals
      (try simp only [List.map, gop, ev, lk, aenv, gyield, gBin, gInt, gStrOp, gUn, gPick, gNil, gExtract, gIfc, gConvK, gIndexO, gIndexVO, gMakeV, gMinV, gMaxV, isInt, gMin, gMax, gBlt, gCallV, gInvoke, gNilM, Array.toList_map, vcells, gField, gIndexV, gPart, reduceIte, Nat.reduceAdd, Nat.reduceSub, Nat.reduceMul, Nat.reduceLT, Nat.reduceLeDiff, Nat.reduceEqDiff, Nat.reduceBEq, Int.reduceLT, Int.reduceLE, Int.reduceGT, Int.reduceGE, Int.reduceEq, Int.reduceNe, Int.reduceAdd, Int.reduceSub, Int.reduceMul, Int.reduceNeg, Int.reduceToNat, Int.reduceBEq, Int.reduceBNe, Int.cast_ofNat_Int, List.getElem?_toArray, stp, Try.underlying120, Try.underlying22, Try.underlying3, Try.underlying36, Try.underlying38, Try.underlying4, Try.underlying5, Try.underlying9, ty22, ty36, ty120, ty38, ty3, ty4, ty5, ty9, rs21, gload1 m1 sz3, gload1 m1 sz4, gload1 m1 sz22, gload1 m2 sz3, gload1 m2 sz4, gload1 m2 sz22, ci, cj, bstr_eq, gPick, Bool.false_and, Bool.true_and]); repeat' (first | (with_reducible first | refine gw_seq ?_ | refine gw_block ?_) | ((first | (with_reducible first | refine gw_region ?_ | refine gw_if ?_ | refine gw_skip ?_ | refine gw_exit ?_ | refine gw_ret ?_) | ((with_reducible first | refine gif_b (fun hb => ?_) (fun hb => ?_) | refine want_t (fun hb => ?_) (fun hb => ?_) | refine want_f (fun hb => ?_) (fun hb => ?_)) <;> (try simp only [hb]) <;> (try simp only [hpr] at hb))) <;> try simp only [List.map, gop, ev, lk, aenv, gyield, gBin, gInt, gStrOp, gUn, gPick, gNil, gExtract, gIfc, gConvK, gIndexO, gIndexVO, gMakeV, gMinV, gMaxV, isInt, gMin, gMax, gBlt, gCallV, gInvoke, gNilM, Array.toList_map, vcells, gField, gIndexV, gPart, reduceIte, Nat.reduceAdd, Nat.reduceSub, Nat.reduceMul, Nat.reduceLT, Nat.reduceLeDiff, Nat.reduceEqDiff, Nat.reduceBEq, Int.reduceLT, Int.reduceLE, Int.reduceGT, Int.reduceGE, Int.reduceEq, Int.reduceNe, Int.reduceAdd, Int.reduceSub, Int.reduceMul, Int.reduceNeg, Int.reduceToNat, Int.reduceBEq, Int.reduceBNe, Int.cast_ofNat_Int, List.getElem?_toArray, stp, Try.underlying120, Try.underlying22, Try.underlying3, Try.underlying36, Try.underlying38, Try.underlying4, Try.underlying5, Try.underlying9, ty22, ty36, ty120, ty38, ty3, ty4, ty5, ty9, rs21, gload1 m1 sz3, gload1 m1 sz4, gload1 m1 sz22, gload1 m2 sz3, gload1 m2 sz4, gload1 m2 sz22, ci, cj, bstr_eq, gPick, Bool.false_and, Bool.true_and]))
    all_goals (first | exact ⟨rfl, rfl, (by simp only [List.forall_mem_cons, List.not_mem_nil, false_implies, implies_true, List.map, List.cons_append, List.nil_append, lk, Nat.reduceEqDiff, reduceIte, and_true, true_and])⟩ | (simp [lk]; done) | skip)
  simp only [List.drop_succ_cons, List.drop_zero, List.map, lk, Nat.reduceEqDiff, reduceIte]
  refine gr_join 7 (((x0 == y0) && (i == j)) && (x1 == y1)) 26 [0, 1, 2, 3] ?_ ?_
  · generalize ((x0 == y0) && (i == j)) = cc
    cases cc
    all_goals
      (try simp only [List.map, gop, ev, lk, aenv, gyield, gBin, gInt, gStrOp, gUn, gPick, gNil, gExtract, gIfc, gConvK, gIndexO, gIndexVO, gMakeV, gMinV, gMaxV, isInt, gMin, gMax, gBlt, gCallV, gInvoke, gNilM, Array.toList_map, vcells, gField, gIndexV, gPart, reduceIte, Nat.reduceAdd, Nat.reduceSub, Nat.reduceMul, Nat.reduceLT, Nat.reduceLeDiff, Nat.reduceEqDiff, Nat.reduceBEq, Int.reduceLT, Int.reduceLE, Int.reduceGT, Int.reduceGE, Int.reduceEq, Int.reduceNe, Int.reduceAdd, Int.reduceSub, Int.reduceMul, Int.reduceNeg, Int.reduceToNat, Int.reduceBEq, Int.reduceBNe, Int.cast_ofNat_Int, List.getElem?_toArray, stp, Try.underlying120, Try.underlying22, Try.underlying3, Try.underlying36, Try.underlying38, Try.underlying4, Try.underlying5, Try.underlying9, ty22, ty36, ty120, ty38, ty3, ty4, ty5, ty9, rs21, gload1 m1 sz3, gload1 m1 sz4, gload1 m1 sz22, gload1 m2 sz3, gload1 m2 sz4, gload1 m2 sz22, ci, cj, bstr_eq, gPick, Bool.false_and, Bool.true_and]); repeat' (first | (with_reducible first | refine gw_seq ?_ | refine gw_block ?_) | ((first | (with_reducible first | refine gw_region ?_ | refine gw_if ?_ | refine gw_skip ?_ | refine gw_exit ?_ | refine gw_ret ?_) | ((with_reducible first | refine gif_b (fun hb => ?_) (fun hb => ?_) | refine want_t (fun hb => ?_) (fun hb => ?_) | refine want_f (fun hb => ?_) (fun hb => ?_)) <;> (try simp only [hb]) <;> (try simp only [hpr] at hb))) <;> try simp only [List.map, gop, ev, lk, aenv, gyield, gBin, gInt, gStrOp, gUn, gPick, gNil, gExtract, gIfc, gConvK, gIndexO, gIndexVO, gMakeV, gMinV, gMaxV, isInt, gMin, gMax, gBlt, gCallV, gInvoke, gNilM, Array.toList_map, vcells, gField, gIndexV, gPart, reduceIte, Nat.reduceAdd, Nat.reduceSub, Nat.reduceMul, Nat.reduceLT, Nat.reduceLeDiff, Nat.reduceEqDiff, Nat.reduceBEq, Int.reduceLT, Int.reduceLE, Int.reduceGT, Int.reduceGE, Int.reduceEq, Int.reduceNe, Int.reduceAdd, Int.reduceSub, Int.reduceMul, Int.reduceNeg, Int.reduceToNat, Int.reduceBEq, Int.reduceBNe, Int.cast_ofNat_Int, List.getElem?_toArray, stp, Try.underlying120, Try.underlying22, Try.underlying3, Try.underlying36, Try.underlying38, Try.underlying4, Try.underlying5, Try.underlying9, ty22, ty36, ty120, ty38, ty3, ty4, ty5, ty9, rs21, gload1 m1 sz3, gload1 m1 sz4, gload1 m1 sz22, gload1 m2 sz3, gload1 m2 sz4, gload1 m2 sz22, ci, cj, bstr_eq, gPick, Bool.false_and, Bool.true_and]))
    all_goals (first | exact ⟨rfl, rfl, (by simp only [List.forall_mem_cons, List.not_mem_nil, false_implies, implies_true, List.map, List.cons_append, List.nil_append, lk, Nat.reduceEqDiff, reduceIte, and_true, true_and])⟩ | (simp [lk]; done) | skip)
  simp only [List.drop_succ_cons, List.drop_zero, List.map, lk, Nat.reduceEqDiff, reduceIte]
  refine gr_join 7 ((((x0 == y0) && (i == j)) && (x1 == y1)) && (x2 == y2)) 33 [0, 1, 2, 3] ?_ ?_
  · generalize (((x0 == y0) && (i == j)) && (x1 == y1)) = cc
    cases cc
    all_goals
      (try simp only [List.map, gop, ev, lk, aenv, gyield, gBin, gInt, gStrOp, gUn, gPick, gNil, gExtract, gIfc, gConvK, gIndexO, gIndexVO, gMakeV, gMinV, gMaxV, isInt, gMin, gMax, gBlt, gCallV, gInvoke, gNilM, Array.toList_map, vcells, gField, gIndexV, gPart, reduceIte, Nat.reduceAdd, Nat.reduceSub, Nat.reduceMul, Nat.reduceLT, Nat.reduceLeDiff, Nat.reduceEqDiff, Nat.reduceBEq, Int.reduceLT, Int.reduceLE, Int.reduceGT, Int.reduceGE, Int.reduceEq, Int.reduceNe, Int.reduceAdd, Int.reduceSub, Int.reduceMul, Int.reduceNeg, Int.reduceToNat, Int.reduceBEq, Int.reduceBNe, Int.cast_ofNat_Int, List.getElem?_toArray, stp, Try.underlying120, Try.underlying22, Try.underlying3, Try.underlying36, Try.underlying38, Try.underlying4, Try.underlying5, Try.underlying9, ty22, ty36, ty120, ty38, ty3, ty4, ty5, ty9, rs21, gload1 m1 sz3, gload1 m1 sz4, gload1 m1 sz22, gload1 m2 sz3, gload1 m2 sz4, gload1 m2 sz22, ci, cj, bstr_eq, gPick, Bool.false_and, Bool.true_and]); repeat' (first | (with_reducible first | refine gw_seq ?_ | refine gw_block ?_) | ((first | (with_reducible first | refine gw_region ?_ | refine gw_if ?_ | refine gw_skip ?_ | refine gw_exit ?_ | refine gw_ret ?_) | ((with_reducible first | refine gif_b (fun hb => ?_) (fun hb => ?_) | refine want_t (fun hb => ?_) (fun hb => ?_) | refine want_f (fun hb => ?_) (fun hb => ?_)) <;> (try simp only [hb]) <;> (try simp only [hpr] at hb))) <;> try simp only [List.map, gop, ev, lk, aenv, gyield, gBin, gInt, gStrOp, gUn, gPick, gNil, gExtract, gIfc, gConvK, gIndexO, gIndexVO, gMakeV, gMinV, gMaxV, isInt, gMin, gMax, gBlt, gCallV, gInvoke, gNilM, Array.toList_map, vcells, gField, gIndexV, gPart, reduceIte, Nat.reduceAdd, Nat.reduceSub, Nat.reduceMul, Nat.reduceLT, Nat.reduceLeDiff, Nat.reduceEqDiff, Nat.reduceBEq, Int.reduceLT, Int.reduceLE, Int.reduceGT, Int.reduceGE, Int.reduceEq, Int.reduceNe, Int.reduceAdd, Int.reduceSub, Int.reduceMul, Int.reduceNeg, Int.reduceToNat, Int.reduceBEq, Int.reduceBNe, Int.cast_ofNat_Int, List.getElem?_toArray, stp, Try.underlying120, Try.underlying22, Try.underlying3, Try.underlying36, Try.underlying38, Try.underlying4, Try.underlying5, Try.underlying9, ty22, ty36, ty120, ty38, ty3, ty4, ty5, ty9, rs21, gload1 m1 sz3, gload1 m1 sz4, gload1 m1 sz22, gload1 m2 sz3, gload1 m2 sz4, gload1 m2 sz22, ci, cj, bstr_eq, gPick, Bool.false_and, Bool.true_and]))
    all_goals (first | exact ⟨rfl, rfl, (by simp only [List.forall_mem_cons, List.not_mem_nil, false_implies, implies_true, List.map, List.cons_append, List.nil_append, lk, Nat.reduceEqDiff, reduceIte, and_true, true_and])⟩ | (simp [lk]; done) | skip)
  simp only [List.drop_succ_cons, List.drop_zero, List.map, lk, Nat.reduceEqDiff, reduceIte]
  refine gr_join 7 (((((x0 == y0) && (i == j)) && (x1 == y1)) && (x2 == y2)) && (x3 == y3)) 40 [0, 1, 2, 3] ?_ ?_
  · generalize ((((x0 == y0) && (i == j)) && (x1 == y1)) && (x2 == y2)) = cc
    cases cc
    all_goals
      (try simp only [List.map, gop, ev, lk, aenv, gyield, gBin, gInt, gStrOp, gUn, gPick, gNil, gExtract, gIfc, gConvK, gIndexO, gIndexVO, gMakeV, gMinV, gMaxV, isInt, gMin, gMax, gBlt, gCallV, gInvoke, gNilM, Array.toList_map, vcells, gField, gIndexV, gPart, reduceIte, Nat.reduceAdd, Nat.reduceSub, Nat.reduceMul, Nat.reduceLT, Nat.reduceLeDiff, Nat.reduceEqDiff, Nat.reduceBEq, Int.reduceLT, Int.reduceLE, Int.reduceGT, Int.reduceGE, Int.reduceEq, Int.reduceNe, Int.reduceAdd, Int.reduceSub, Int.reduceMul, Int.reduceNeg, Int.reduceToNat, Int.reduceBEq, Int.reduceBNe, Int.cast_ofNat_Int, List.getElem?_toArray, stp, Try.underlying120, Try.underlying22, Try.underlying3, Try.underlying36, Try.underlying38, Try.underlying4, Try.underlying5, Try.underlying9, ty22, ty36, ty120, ty38, ty3, ty4, ty5, ty9, rs21, gload1 m1 sz3, gload1 m1 sz4, gload1 m1 sz22, gload1 m2 sz3, gload1 m2 sz4, gload1 m2 sz22, ci, cj, bstr_eq, gPick, Bool.false_and, Bool.true_and]); repeat' (first | (with_reducible first | refine gw_seq ?_ | refine gw_block ?_) | ((first | (with_reducible first | refine gw_region ?_ | refine gw_if ?_ | refine gw_skip ?_ | refine gw_exit ?_ | refine gw_ret ?_) | ((with_reducible first | refine gif_b (fun hb => ?_) (fun hb => ?_) | refine want_t (fun hb => ?_) (fun hb => ?_) | refine want_f (fun hb => ?_) (fun hb => ?_)) <;> (try simp only [hb]) <;> (try simp only [hpr] at hb))) <;> try simp only [List.map, gop, ev, lk, aenv, gyield, gBin, gInt, gStrOp, gUn, gPick, gNil, gExtract, gIfc, gConvK, gIndexO, gIndexVO, gMakeV, gMinV, gMaxV, isInt, gMin, gMax, gBlt, gCallV, gInvoke, gNilM, Array.toList_map, vcells, gField, gIndexV, gPart, reduceIte, Nat.reduceAdd, Nat.reduceSub, Nat.reduceMul, Nat.reduceLT, Nat.reduceLeDiff, Nat.reduceEqDiff, Nat.reduceBEq, Int.reduceLT, Int.reduceLE, Int.reduceGT, Int.reduceGE, Int.reduceEq, Int.reduceNe, Int.reduceAdd, Int.reduceSub, Int.reduceMul, Int.reduceNeg, Int.reduceToNat, Int.reduceBEq, Int.reduceBNe, Int.cast_ofNat_Int, List.getElem?_toArray, stp, Try.underlying120, Try.underlying22, Try.underlying3, Try.underlying36, Try.underlying38, Try.underlying4, Try.underlying5, Try.underlying9, ty22, ty36, ty120, ty38, ty3, ty4, ty5, ty9, rs21, gload1 m1 sz3, gload1 m1 sz4, gload1 m1 sz22, gload1 m2 sz3, gload1 m2 sz4, gload1 m2 sz22, ci, cj, bstr_eq, gPick, Bool.false_and, Bool.true_and]))
    all_goals (first | exact ⟨rfl, rfl, (by simp only [List.forall_mem_cons, List.not_mem_nil, false_implies, implies_true, List.map, List.cons_append, List.nil_append, lk, Nat.reduceEqDiff, reduceIte, and_true, true_and])⟩ | (simp [lk]; done) | skip)
  simp only [List.drop_succ_cons, List.drop_zero, List.map, lk, Nat.reduceEqDiff, reduceIte]
  refine gr_join 7 ((((((x0 == y0) && (i == j)) && (x1 == y1)) && (x2 == y2)) && (x3 == y3)) && (x7 == y7)) 47 [0, 1, 2, 3] ?_ ?_
  · generalize (((((x0 == y0) && (i == j)) && (x1 == y1)) && (x2 == y2)) && (x3 == y3)) = cc
    cases cc
    all_goals
      (try simp only [List.map, gop, ev, lk, aenv, gyield, gBin, gInt, gStrOp, gUn, gPick, gNil, gExtract, gIfc, gConvK, gIndexO, gIndexVO, gMakeV, gMinV, gMaxV, isInt, gMin, gMax, gBlt, gCallV, gInvoke, gNilM, Array.toList_map, vcells, gField, gIndexV, gPart, reduceIte, Nat.reduceAdd, Nat.reduceSub, Nat.reduceMul, Nat.reduceLT, Nat.reduceLeDiff, Nat.reduceEqDiff, Nat.reduceBEq, Int.reduceLT, Int.reduceLE, Int.reduceGT, Int.reduceGE, Int.reduceEq, Int.reduceNe, Int.reduceAdd, Int.reduceSub, Int.reduceMul, Int.reduceNeg, Int.reduceToNat, Int.reduceBEq, Int.reduceBNe, Int.cast_ofNat_Int, List.getElem?_toArray, stp, Try.underlying120, Try.underlying22, Try.underlying3, Try.underlying36, Try.underlying38, Try.underlying4, Try.underlying5, Try.underlying9, ty22, ty36, ty120, ty38, ty3, ty4, ty5, ty9, rs21, gload1 m1 sz3, gload1 m1 sz4, gload1 m1 sz22, gload1 m2 sz3, gload1 m2 sz4, gload1 m2 sz22, ci, cj, bstr_eq, gPick, Bool.false_and, Bool.true_and]); repeat' (first | (with_reducible first | refine gw_seq ?_ | refine gw_block ?_) | ((first | (with_reducible first | refine gw_region ?_ | refine gw_if ?_ | refine gw_skip ?_ | refine gw_exit ?_ | refine gw_ret ?_) | ((with_reducible first | refine gif_b (fun hb => ?_) (fun hb => ?_) | refine want_t (fun hb => ?_) (fun hb => ?_) | refine want_f (fun hb => ?_) (fun hb => ?_)) <;> (try simp only [hb]) <;> (try simp only [hpr] at hb))) <;> try simp only [List.map, gop, ev, lk, aenv, gyield, gBin, gInt, gStrOp, gUn, gPick, gNil, gExtract, gIfc, gConvK, gIndexO, gIndexVO, gMakeV, gMinV, gMaxV, isInt, gMin, gMax, gBlt, gCallV, gInvoke, gNilM, Array.toList_map, vcells, gField, gIndexV, gPart, reduceIte, Nat.reduceAdd, Nat.reduceSub, Nat.reduceMul, Nat.reduceLT, Nat.reduceLeDiff, Nat.reduceEqDiff, Nat.reduceBEq, Int.reduceLT, Int.reduceLE, Int.reduceGT, Int.reduceGE, Int.reduceEq, Int.reduceNe, Int.reduceAdd, Int.reduceSub, Int.reduceMul, Int.reduceNeg, Int.reduceToNat, Int.reduceBEq, Int.reduceBNe, Int.cast_ofNat_Int, List.getElem?_toArray, stp, Try.underlying120, Try.underlying22, Try.underlying3, Try.underlying36, Try.underlying38, Try.underlying4, Try.underlying5, Try.underlying9, ty22, ty36, ty120, ty38, ty3, ty4, ty5, ty9, rs21, gload1 m1 sz3, gload1 m1 sz4, gload1 m1 sz22, gload1 m2 sz3, gload1 m2 sz4, gload1 m2 sz22, ci, cj, bstr_eq, gPick, Bool.false_and, Bool.true_and]))
    all_goals (first | exact ⟨rfl, rfl, (by simp only [List.forall_mem_cons, List.not_mem_nil, false_implies, implies_true, List.map, List.cons_append, List.nil_append, lk, Nat.reduceEqDiff, reduceIte, and_true, true_and])⟩ | (simp [lk]; done) | skip)
  simp only [List.drop_succ_cons, List.drop_zero, List.map, lk, Nat.reduceEqDiff, reduceIte]
  refine gr_join 7 (((((((x0 == y0) && (i == j)) && (x1 == y1)) && (x2 == y2)) && (x3 == y3)) && (x7 == y7)) && (x4 == y4)) 54 [0, 1, 2, 3] ?_ ?_
  · generalize ((((((x0 == y0) && (i == j)) && (x1 == y1)) && (x2 == y2)) && (x3 == y3)) && (x7 == y7)) = cc
    cases cc
    all_goals
      (try simp only [List.map, gop, ev, lk, aenv, gyield, gBin, gInt, gStrOp, gUn, gPick, gNil, gExtract, gIfc, gConvK, gIndexO, gIndexVO, gMakeV, gMinV, gMaxV, isInt, gMin, gMax, gBlt, gCallV, gInvoke, gNilM, Array.toList_map, vcells, gField, gIndexV, gPart, reduceIte, Nat.reduceAdd, Nat.reduceSub, Nat.reduceMul, Nat.reduceLT, Nat.reduceLeDiff, Nat.reduceEqDiff, Nat.reduceBEq, Int.reduceLT, Int.reduceLE, Int.reduceGT, Int.reduceGE, Int.reduceEq, Int.reduceNe, Int.reduceAdd, Int.reduceSub, Int.reduceMul, Int.reduceNeg, Int.reduceToNat, Int.reduceBEq, Int.reduceBNe, Int.cast_ofNat_Int, List.getElem?_toArray, stp, Try.underlying120, Try.underlying22, Try.underlying3, Try.underlying36, Try.underlying38, Try.underlying4, Try.underlying5, Try.underlying9, ty22, ty36, ty120, ty38, ty3, ty4, ty5, ty9, rs21, gload1 m1 sz3, gload1 m1 sz4, gload1 m1 sz22, gload1 m2 sz3, gload1 m2 sz4, gload1 m2 sz22, ci, cj, bstr_eq, gPick, Bool.false_and, Bool.true_and]); repeat' (first | (with_reducible first | refine gw_seq ?_ | refine gw_block ?_) | ((first | (with_reducible first | refine gw_region ?_ | refine gw_if ?_ | refine gw_skip ?_ | refine gw_exit ?_ | refine gw_ret ?_) | ((with_reducible first | refine gif_b (fun hb => ?_) (fun hb => ?_) | refine want_t (fun hb => ?_) (fun hb => ?_) | refine want_f (fun hb => ?_) (fun hb => ?_)) <;> (try simp only [hb]) <;> (try simp only [hpr] at hb))) <;> try simp only [List.map, gop, ev, lk, aenv, gyield, gBin, gInt, gStrOp, gUn, gPick, gNil, gExtract, gIfc, gConvK, gIndexO, gIndexVO, gMakeV, gMinV, gMaxV, isInt, gMin, gMax, gBlt, gCallV, gInvoke, gNilM, Array.toList_map, vcells, gField, gIndexV, gPart, reduceIte, Nat.reduceAdd, Nat.reduceSub, Nat.reduceMul, Nat.reduceLT, Nat.reduceLeDiff, Nat.reduceEqDiff, Nat.reduceBEq, Int.reduceLT, Int.reduceLE, Int.reduceGT, Int.reduceGE, Int.reduceEq, Int.reduceNe, Int.reduceAdd, Int.reduceSub, Int.reduceMul, Int.reduceNeg, Int.reduceToNat, Int.reduceBEq, Int.reduceBNe, Int.cast_ofNat_Int, List.getElem?_toArray, stp, Try.underlying120, Try.underlying22, Try.underlying3, Try.underlying36, Try.underlying38, Try.underlying4, Try.underlying5, Try.underlying9, ty22, ty36, ty120, ty38, ty3, ty4, ty5, ty9, rs21, gload1 m1 sz3, gload1 m1 sz4, gload1 m1 sz22, gload1 m2 sz3, gload1 m2 sz4, gload1 m2 sz22, ci, cj, bstr_eq, gPick, Bool.false_and, Bool.true_and]))
    all_goals (first | exact ⟨rfl, rfl, (by simp only [List.forall_mem_cons, List.not_mem_nil, false_implies, implies_true, List.map, List.cons_append, List.nil_append, lk, Nat.reduceEqDiff, reduceIte, and_true, true_and])⟩ | (simp [lk]; done) | skip)
  simp only [List.drop_succ_cons, List.drop_zero, List.map, lk, Nat.reduceEqDiff, reduceIte]
  refine gr_join 7 ((((((((x0 == y0) && (i == j)) && (x1 == y1)) && (x2 == y2)) && (x3 == y3)) && (x7 == y7)) && (x4 == y4)) && (x5 == y5)) 61 [0, 1, 2, 3] ?_ ?_
  · generalize (((((((x0 == y0) && (i == j)) && (x1 == y1)) && (x2 == y2)) && (x3 == y3)) && (x7 == y7)) && (x4 == y4)) = cc
    cases cc
    all_goals
      (try simp only [List.map, gop, ev, lk, aenv, gyield, gBin, gInt, gStrOp, gUn, gPick, gNil, gExtract, gIfc, gConvK, gIndexO, gIndexVO, gMakeV, gMinV, gMaxV, isInt, gMin, gMax, gBlt, gCallV, gInvoke, gNilM, Array.toList_map, vcells, gField, gIndexV, gPart, reduceIte, Nat.reduceAdd, Nat.reduceSub, Nat.reduceMul, Nat.reduceLT, Nat.reduceLeDiff, Nat.reduceEqDiff, Nat.reduceBEq, Int.reduceLT, Int.reduceLE, Int.reduceGT, Int.reduceGE, Int.reduceEq, Int.reduceNe, Int.reduceAdd, Int.reduceSub, Int.reduceMul, Int.reduceNeg, Int.reduceToNat, Int.reduceBEq, Int.reduceBNe, Int.cast_ofNat_Int, List.getElem?_toArray, stp, Try.underlying120, Try.underlying22, Try.underlying3, Try.underlying36, Try.underlying38, Try.underlying4, Try.underlying5, Try.underlying9, ty22, ty36, ty120, ty38, ty3, ty4, ty5, ty9, rs21, gload1 m1 sz3, gload1 m1 sz4, gload1 m1 sz22, gload1 m2 sz3, gload1 m2 sz4, gload1 m2 sz22, ci, cj, bstr_eq, gPick, Bool.false_and, Bool.true_and]); repeat' (first | (with_reducible first | refine gw_seq ?_ | refine gw_block ?_) | ((first | (with_reducible first | refine gw_region ?_ | refine gw_if ?_ | refine gw_skip ?_ | refine gw_exit ?_ | refine gw_ret ?_) | ((with_reducible first | refine gif_b (fun hb => ?_) (fun hb => ?_) | refine want_t (fun hb => ?_) (fun hb => ?_) | refine want_f (fun hb => ?_) (fun hb => ?_)) <;> (try simp only [hb]) <;> (try simp only [hpr] at hb))) <;> try simp only [List.map, gop, ev, lk, aenv, gyield, gBin, gInt, gStrOp, gUn, gPick, gNil, gExtract, gIfc, gConvK, gIndexO, gIndexVO, gMakeV, gMinV, gMaxV, isInt, gMin, gMax, gBlt, gCallV, gInvoke, gNilM, Array.toList_map, vcells, gField, gIndexV, gPart, reduceIte, Nat.reduceAdd, Nat.reduceSub, Nat.reduceMul, Nat.reduceLT, Nat.reduceLeDiff, Nat.reduceEqDiff, Nat.reduceBEq, Int.reduceLT, Int.reduceLE, Int.reduceGT, Int.reduceGE, Int.reduceEq, Int.reduceNe, Int.reduceAdd, Int.reduceSub, Int.reduceMul, Int.reduceNeg, Int.reduceToNat, Int.reduceBEq, Int.reduceBNe, Int.cast_ofNat_Int, List.getElem?_toArray, stp, Try.underlying120, Try.underlying22, Try.underlying3, Try.underlying36, Try.underlying38, Try.underlying4, Try.underlying5, Try.underlying9, ty22, ty36, ty120, ty38, ty3, ty4, ty5, ty9, rs21, gload1 m1 sz3, gload1 m1 sz4, gload1 m1 sz22, gload1 m2 sz3, gload1 m2 sz4, gload1 m2 sz22, ci, cj, bstr_eq, gPick, Bool.false_and, Bool.true_and]))
    all_goals (first | exact ⟨rfl, rfl, (by simp only [List.forall_mem_cons, List.not_mem_nil, false_implies, implies_true, List.map, List.cons_append, List.nil_append, lk, Nat.reduceEqDiff, reduceIte, and_true, true_and])⟩ | (simp [lk]; done) | skip)
  simp only [List.drop_succ_cons, List.drop_zero, List.map, lk, Nat.reduceEqDiff, reduceIte]
  refine gr_join 7 (((((((((x0 == y0) && (i == j)) && (x1 == y1)) && (x2 == y2)) && (x3 == y3)) && (x7 == y7)) && (x4 == y4)) && (x5 == y5)) && (x6 == y6)) 68 [0, 1, 2, 3] ?_ ?_
  · generalize ((((((((x0 == y0) && (i == j)) && (x1 == y1)) && (x2 == y2)) && (x3 == y3)) && (x7 == y7)) && (x4 == y4)) && (x5 == y5)) = cc
    cases cc
    all_goals
      (try simp only [List.map, gop, ev, lk, aenv, gyield, gBin, gInt, gStrOp, gUn, gPick, gNil, gExtract, gIfc, gConvK, gIndexO, gIndexVO, gMakeV, gMinV, gMaxV, isInt, gMin, gMax, gBlt, gCallV, gInvoke, gNilM, Array.toList_map, vcells, gField, gIndexV, gPart, reduceIte, Nat.reduceAdd, Nat.reduceSub, Nat.reduceMul, Nat.reduceLT, Nat.reduceLeDiff, Nat.reduceEqDiff, Nat.reduceBEq, Int.reduceLT, Int.reduceLE, Int.reduceGT, Int.reduceGE, Int.reduceEq, Int.reduceNe, Int.reduceAdd, Int.reduceSub, Int.reduceMul, Int.reduceNeg, Int.reduceToNat, Int.reduceBEq, Int.reduceBNe, Int.cast_ofNat_Int, List.getElem?_toArray, stp, Try.underlying120, Try.underlying22, Try.underlying3, Try.underlying36, Try.underlying38, Try.underlying4, Try.underlying5, Try.underlying9, ty22, ty36, ty120, ty38, ty3, ty4, ty5, ty9, rs21, gload1 m1 sz3, gload1 m1 sz4, gload1 m1 sz22, gload1 m2 sz3, gload1 m2 sz4, gload1 m2 sz22, ci, cj, bstr_eq, gPick, Bool.false_and, Bool.true_and]); repeat' (first | (with_reducible first | refine gw_seq ?_ | refine gw_block ?_) | ((first | (with_reducible first | refine gw_region ?_ | refine gw_if ?_ | refine gw_skip ?_ | refine gw_exit ?_ | refine gw_ret ?_) | ((with_reducible first | refine gif_b (fun hb => ?_) (fun hb => ?_) | refine want_t (fun hb => ?_) (fun hb => ?_) | refine want_f (fun hb => ?_) (fun hb => ?_)) <;> (try simp only [hb]) <;> (try simp only [hpr] at hb))) <;> try simp only [List.map, gop, ev, lk, aenv, gyield, gBin, gInt, gStrOp, gUn, gPick, gNil, gExtract, gIfc, gConvK, gIndexO, gIndexVO, gMakeV, gMinV, gMaxV, isInt, gMin, gMax, gBlt, gCallV, gInvoke, gNilM, Array.toList_map, vcells, gField, gIndexV, gPart, reduceIte, Nat.reduceAdd, Nat.reduceSub, Nat.reduceMul, Nat.reduceLT, Nat.reduceLeDiff, Nat.reduceEqDiff, Nat.reduceBEq, Int.reduceLT, Int.reduceLE, Int.reduceGT, Int.reduceGE, Int.reduceEq, Int.reduceNe, Int.reduceAdd, Int.reduceSub, Int.reduceMul, Int.reduceNeg, Int.reduceToNat, Int.reduceBEq, Int.reduceBNe, Int.cast_ofNat_Int, List.getElem?_toArray, stp, Try.underlying120, Try.underlying22, Try.underlying3, Try.underlying36, Try.underlying38, Try.underlying4, Try.underlying5, Try.underlying9, ty22, ty36, ty120, ty38, ty3, ty4, ty5, ty9, rs21, gload1 m1 sz3, gload1 m1 sz4, gload1 m1 sz22, gload1 m2 sz3, gload1 m2 sz4, gload1 m2 sz22, ci, cj, bstr_eq, gPick, Bool.false_and, Bool.true_and]))
    all_goals (first | exact ⟨rfl, rfl, (by simp only [List.forall_mem_cons, List.not_mem_nil, false_implies, implies_true, List.map, List.cons_append, List.nil_append, lk, Nat.reduceEqDiff, reduceIte, and_true, true_and])⟩ | (simp [lk]; done) | skip)
  simp only [List.drop_succ_cons, List.drop_zero, List.map, lk, Nat.reduceEqDiff, reduceIte]
  generalize hcc : (((((((((x0 == y0) && (i == j)) && (x1 == y1)) && (x2 == y2)) && (x3 == y3)) && (x7 == y7)) && (x4 == y4)) && (x5 == y5)) && (x6 == y6)) = cc
  have fin : ∀ r : Bool, r = (cc && decide (L = M)) → (r = true ↔ (⟨x0, x1, x2, x3, x4, x5, x6, x7⟩ : Aq) = ⟨y0, y1, y2, y3, y4, y5, y6, y7⟩ ∧ i = j ∧ L = M) := by
    rintro _ rfl
    rw [← hcc]
    simp only [Bool.and_eq_true, beq_iff_eq, decide_eq_true_eq, Aq.mk.injEq]
    constructor
    · rintro ⟨⟨⟨⟨⟨⟨⟨⟨⟨e0, ei⟩, e1⟩, e2⟩, e3⟩, e7⟩, e4⟩, e5⟩, e6⟩, el⟩
      exact ⟨⟨e0, e1, e2, e3, e4, e5, e6, e7⟩, ei, el⟩
    · rintro ⟨⟨e0, e1, e2, e3, e4, e5, e6, e7⟩, ei, el⟩
      exact ⟨⟨⟨⟨⟨⟨⟨⟨⟨e0, ei⟩, e1⟩, e2⟩, e3⟩, e7⟩, e4⟩, e5⟩, e6⟩, el⟩
  clear hcc
  cases cc
  all_goals
    refine gr_end ?_
    (try simp only [List.map, gop, ev, lk, aenv, gyield, gBin, gInt, gStrOp, gUn, gPick, gNil, gExtract, gIfc, gConvK, gIndexO, gIndexVO, gMakeV, gMinV, gMaxV, isInt, gMin, gMax, gBlt, gCallV, gInvoke, gNilM, Array.toList_map, vcells, gField, gIndexV, gPart, reduceIte, Nat.reduceAdd, Nat.reduceSub, Nat.reduceMul, Nat.reduceLT, Nat.reduceLeDiff, Nat.reduceEqDiff, Nat.reduceBEq, Int.reduceLT, Int.reduceLE, Int.reduceGT, Int.reduceGE, Int.reduceEq, Int.reduceNe, Int.reduceAdd, Int.reduceSub, Int.reduceMul, Int.reduceNeg, Int.reduceToNat, Int.reduceBEq, Int.reduceBNe, Int.cast_ofNat_Int, List.getElem?_toArray, stp, Try.underlying120, Try.underlying22, Try.underlying3, Try.underlying36, Try.underlying38, Try.underlying4, Try.underlying5, Try.underlying9, ty22, ty36, ty120, ty38, ty3, ty4, ty5, ty9, rs21, gload1 m1 sz36, gload1 m2 sz36, gPick]); repeat' (first | (with_reducible first | refine gw_seq ?_ | refine gw_block ?_) | ((first | (with_reducible first | refine gw_region ?_ | refine gw_if ?_ | refine gw_skip ?_ | refine gw_exit ?_ | refine gw_ret ?_) | ((with_reducible first | refine gif_b (fun hb => ?_) (fun hb => ?_) | refine want_t (fun hb => ?_) (fun hb => ?_) | refine want_f (fun hb => ?_) (fun hb => ?_)) <;> (try simp only [hb]) <;> (try simp only [hpr] at hb)) | ((refine GTri.mono (c_Same12 _ _ (rl.bs s3) (rm.bs s3) hL) ?_); rintro _ _ ⟨rfl, hh9⟩; replace hh9 := hh9.symm; subst hh9)) <;> try simp only [List.map, gop, ev, lk, aenv, gyield, gBin, gInt, gStrOp, gUn, gPick, gNil, gExtract, gIfc, gConvK, gIndexO, gIndexVO, gMakeV, gMinV, gMaxV, isInt, gMin, gMax, gBlt, gCallV, gInvoke, gNilM, Array.toList_map, vcells, gField, gIndexV, gPart, reduceIte, Nat.reduceAdd, Nat.reduceSub, Nat.reduceMul, Nat.reduceLT, Nat.reduceLeDiff, Nat.reduceEqDiff, Nat.reduceBEq, Int.reduceLT, Int.reduceLE, Int.reduceGT, Int.reduceGE, Int.reduceEq, Int.reduceNe, Int.reduceAdd, Int.reduceSub, Int.reduceMul, Int.reduceNeg, Int.reduceToNat, Int.reduceBEq, Int.reduceBNe, Int.cast_ofNat_Int, List.getElem?_toArray, stp, Try.underlying120, Try.underlying22, Try.underlying3, Try.underlying36, Try.underlying38, Try.underlying4, Try.underlying5, Try.underlying9, ty22, ty36, ty120, ty38, ty3, ty4, ty5, ty9, rs21, gload1 m1 sz36, gload1 m2 sz36, gPick]))
    exact ⟨⟨_, rfl, fin _ rfl⟩, s3⟩
end Go.Gh

/- Batches, read: what is read of any bytes. -/

namespace Go.Gh
open Go Go.Proofs Go.RowKit
set_option linter.unusedVariables false
set_option linter.unusedSimpArgs false
set_option maxRecDepth 100000
set_option maxHeartbeats 1000000

def St.bds (s : St) (mi mk : Int) : Nat → List (List UInt8 × List UInt8) × St
  | 0 => ([], s)
  | n + 1 => ((s.bds mi mk n).1 ++ [(((s.bds mi mk n).2.bytes mi).1, (((s.bds mi mk n).2.bytes mi).2.bytes mk).1)], (((s.bds mi mk n).2.bytes mi).2.bytes mk).2)
theorem St.bds_len (s : St) (mi mk : Int) : ∀ n, (s.bds mi mk n).1.length = n ∧ (s.bds mi mk n).2.b.length ≤ s.b.length
  | 0 => ⟨rfl, Nat.le_refl _⟩
  | n + 1 => by
    obtain ⟨h1, h2⟩ := St.bds_len s mi mk n
    have h3 := St.bytes_len (s.bds mi mk n).2 mi
    have h4 := St.bytes_len ((s.bds mi mk n).2.bytes mi).2 mk
    refine ⟨by simp [St.bds, h1], ?_⟩
    show (((s.bds mi mk n).2.bytes mi).2.bytes mk).2.b.length ≤ s.b.length
    omega
/-- A batch, what is left, what is wrong. -/
def rbat (l : List UInt8) : List (List UInt8 × List UInt8) × List UInt8 × Int :=
  if (((St.mk l 0).uint 32).2.bds 24 48 ((St.mk l 0).uint 32).1.toNat).2.e = 0 then
    ((((St.mk l 0).uint 32).2.bds 24 48 ((St.mk l 0).uint 32).1.toNat).1, (((St.mk l 0).uint 32).2.bds 24 48 ((St.mk l 0).uint 32).1.toNat).2.b, 0)
  else ([], [], (((St.mk l 0).uint 32).2.bds 24 48 ((St.mk l 0).uint 32).1.toNat).2.e)
theorem bputs_cons (x : List UInt8 × List UInt8) (L : List (List UInt8 × List UInt8)) : bputs (x :: L) = bput1 x ++ bputs L := by simp [bputs]
theorem bputs_append (L M : List (List UInt8 × List UInt8)) : bputs (L ++ M) = bputs L ++ bputs M := by simp [bputs]
theorem St.bds_put {mi mk : Int} (h1 : mi ≤ 4611686018427387904) (h2 : mk ≤ 4611686018427387904) (L : List (List UInt8 × List UInt8)) (hw : ∀ x ∈ L, (x.1.length : Int) ≤ mi ∧ (x.2.length : Int) ≤ mk) (rest : List UInt8) :
    ∀ i, i ≤ L.length → (St.mk (bputs L ++ rest) 0).bds mi mk i = (L.take i, ⟨bputs (L.drop i) ++ rest, 0⟩)
  | 0, _ => by simp [St.bds]
  | i + 1, hi => by
    have ih := St.bds_put h1 h2 L hw rest i (by omega)
    have hx : L[i]? = some L[i] := List.getElem?_eq_getElem (by omega)
    obtain ⟨w1, w2⟩ := hw L[i] (List.getElem_mem (by omega))
    have e : bputs (L.drop i) ++ rest = guint L[i].1.length ++ (L[i].1 ++ (guint L[i].2.length ++ (L[i].2 ++ (bputs (L.drop (i + 1)) ++ rest)))) := by
      rw [List.drop_eq_getElem_cons (by omega), bputs_cons, bput1]; simp only [List.append_assoc]
    unfold St.bds
    rw [ih]
    simp only [e]
    rw [St.bytes_put (by omega) w1, St.bytes_put (by omega) w2]
    rw [List.take_add_one, hx]; rfl
theorem St.bds_got {s : St} {mi mk : Int} : ∀ {n : Nat}, (s.bds mi mk n).2.e = 0 → s.e = 0 ∧ s.b = bputs (s.bds mi mk n).1 ++ (s.bds mi mk n).2.b ∧ ∀ x ∈ (s.bds mi mk n).1, (x.1.length : Int) ≤ mi ∧ (x.2.length : Int) ≤ mk
  | 0, h => ⟨h, by simp [St.bds, bputs], by simp [St.bds]⟩
  | n + 1, h => by
    obtain ⟨g1, g2, g3, g4⟩ := St.bytes_got (s := ((s.bds mi mk n).2.bytes mi).2) (most := mk) h
    obtain ⟨k1, k2, k3, k4⟩ := St.bytes_got g1
    obtain ⟨i1, i2, i3⟩ := St.bds_got (n := n) k1
    refine ⟨i1, ?_, ?_⟩
    · rw [i2]
      show bputs (s.bds mi mk n).1 ++ (s.bds mi mk n).2.b = bputs ((s.bds mi mk n).1 ++ [(((s.bds mi mk n).2.bytes mi).1, (((s.bds mi mk n).2.bytes mi).2.bytes mk).1)]) ++ (((s.bds mi mk n).2.bytes mi).2.bytes mk).2.b
      rw [bputs_append, List.append_assoc]
      congr 1
      rw [k4, g4]
      simp only [bputs, bput1, List.flatMap_cons, List.flatMap_nil, List.append_nil, List.append_assoc]
    · intro x hx
      rcases List.mem_append.1 hx with hx | hx
      · exact i3 x hx
      · obtain rfl := List.mem_singleton.1 hx
        exact ⟨k3, g3⟩
theorem rbat_put {L : List (List UInt8 × List UInt8)} (hL : L.length ≤ 32) (hw : wide L = false) (rest : List UInt8) : rbat (guint L.length ++ (bputs L ++ rest)) = (L, rest, 0) := by
  have hw' : ∀ x ∈ L, (x.1.length : Int) ≤ 24 ∧ (x.2.length : Int) ≤ 48 := by
    intro x hx
    simp only [wide, List.any_eq_false, Bool.or_eq_true, decide_eq_true_eq, not_or] at hw
    have := hw x hx; omega
  unfold rbat
  rw [St.uint_put (by omega) (by omega)]
  simp only [Int.toNat_natCast]
  rw [St.bds_put (by decide) (by decide) L hw' rest L.length (Nat.le_refl _)]
  simp [bputs]
theorem rbat_got {l : List UInt8} (h : (rbat l).2.2 = 0) : (rbat l).1.length ≤ 32 ∧ wide (rbat l).1 = false ∧ l = guint (rbat l).1.length ++ (bputs (rbat l).1 ++ (rbat l).2.1) := by
  unfold rbat at h ⊢
  split at h
  case isFalse hn => exact absurd h hn
  rename_i h0
  rw [if_pos h0]
  obtain ⟨g1, g2, g3⟩ := St.bds_got h0
  obtain ⟨u1, n, u2, u3, u4, u5⟩ := St.uint_got g1
  have hl := (St.bds_len ((St.mk l 0).uint 32).2 24 48 ((St.mk l 0).uint 32).1.toNat).1
  have e : ((((St.mk l 0).uint 32).2.bds 24 48 ((St.mk l 0).uint 32).1.toNat).1.length : Int) = n := by rw [hl, u2]; simp
  refine ⟨?_, ?_, ?_⟩
  · show (((St.mk l 0).uint 32).2.bds 24 48 ((St.mk l 0).uint 32).1.toNat).1.length ≤ 32
    omega
  · show wide (((St.mk l 0).uint 32).2.bds 24 48 ((St.mk l 0).uint 32).1.toNat).1 = false
    simp only [wide, List.any_eq_false, Bool.or_eq_true, decide_eq_true_eq, not_or]
    intro x hx
    have := g3 x hx; omega
  · show l = guint ((((St.mk l 0).uint 32).2.bds 24 48 ((St.mk l 0).uint 32).1.toNat).1.length : Nat) ++ _
    rw [e]
    refine Eq.trans (show l = (St.mk l 0).b from rfl) (u5.trans ?_)
    rw [g2]
end Go.Gh

/- Batches, read by the program. -/

namespace Go.Gh
open Go Go.Proofs Go.RowKit
set_option linter.unusedVariables false
set_option linter.unusedSimpArgs false
set_option maxRecDepth 100000
set_option maxHeartbeats 1000000

theorem SL.hx2 {k : Nat} {h h' : GH} {v : Value} (s : SL h v) {B : GB} (m : h k = some B) (hB : B.es ≠ 1) (x : HX k h h') : SL h' v := fun ad n c e => by
  rcases s ad n c e with h1 | h1 | h1
  · exact .inl h1
  · exact .inr (.inl h1)
  · right; right
    unfold esOk at h1 ⊢
    split at h1
    · rename_i B' hB'
      have hne : ad.block ≠ k := fun e => by
        rw [e, m] at hB'; cases hB'
        simp at h1; exact hB h1
      rw [x _ _ hne hB']; exact h1
    · cases h1
theorem RD.hl {k j : Nat} {h h' : GH} {s : St} (r : RD h k s) {B : GB} (m : h j = some B) (hB : B.es ≠ 1) (hc : B.cells.all notU8 = true) (x : HX j h h') (ne : k ≠ j) : RD h' k s := by
  obtain ⟨a, c, h1, h2, h3⟩ := r
  exact ⟨a, c, x _ _ ne h1, h2.hx m hc x, h3.hx2 m hB x⟩
theorem Bd.hy {k : Nat} {h h' : GH} {B : GB} (m : h k = some B) (hc : B.cells.all notU8 = true) (x : HX k h h') {cs : List Value} {y : List UInt8 × List UInt8} (r : Bd h cs y) : Bd h' cs y := by
  obtain ⟨a, n, c, b, m', d, rfl, r1, r2⟩ := r
  exact ⟨a, n, c, b, m', d, rfl, r1.hx m hc x, r2.hx m hc x⟩
theorem all_set {p : Value → Bool} {l : List Value} (h : l.all p = true) {v : Value} (hv : p v = true) (i : Nat) : (l.set i v).all p = true := by
  rw [List.all_eq_true] at h ⊢
  intro x hx
  rcases List.mem_or_eq_of_mem_set hx with h1 | rfl
  · exact h x h1
  · exact hv
theorem two_set {cs : List Value} {n i : Nat} (hl : cs.length = n * 2) (hi : i < n) (v w : Value) (j : Nat) : ((((cs.set (i * 2) v).set (i * 2 + 1) w).drop (j * 2)).take 2) = if j = i then [v, w] else (cs.drop (j * 2)).take 2 := by
  apply List.ext_getElem?
  intro m
  by_cases hm : m < 2
  · rw [List.getElem?_take_of_lt hm, List.getElem?_drop]
    split
    · rename_i e; subst e
      obtain rfl | rfl : m = 0 ∨ m = 1 := by omega
      · simp [List.getElem?_set]; omega
      · simp [List.getElem?_set]; omega
    · rw [List.getElem?_take_of_lt hm, List.getElem?_drop, List.getElem?_set_ne (by omega), List.getElem?_set_ne (by omega)]
  · rw [List.getElem?_eq_none (by simp; omega), List.getElem?_eq_none]
    split
    · simp; omega
    · simp; omega
theorem St.uint_max (s : St) {most : Int} (hm : 0 ≤ most) : (s.uint most).1 ≤ most := by
  unfold St.uint
  split
  · unfold St.wid
    split
    · unfold St.num
      split
      · split
        · rename_i h1 h2
          have := (St.ok_0 (by decide) h2).1
          simpa using this
        · exact hm
      · exact hm
    · exact hm
  · exact hm
theorem drop_suf {p r : List UInt8} {n : Nat} (h : n = (p ++ r).length - r.length) : (p ++ r).drop n = r := by
  have : n = p.length := by rw [h, List.length_append]; omega
  rw [this]; simp
theorem gIndex_nat {P : Program} {t e es : Nat} {b : Bool} {k n c i : Nat} (ht : P.underlying t = some (.slice e)) (he : gsz P e = some (b, es)) (hi : i < n) : gIndex P t (.slice (some ⟨k, 0, none⟩) n c) (i : Int) = some (.pointer (some ⟨k, i * es, none⟩)) := gIndex_own ht he hi

theorem zeros_all {p : Value → Bool} {z : Value} (h : z.cells.toList.all p = true) (hz : 0 < z.cells.size) (n : Nat) : (zeros z n).all p = true := by
  rw [List.all_eq_true]
  intro v hv
  simp only [zeros, madeCells, Array.toList_map, List.mem_map] at hv
  obtain ⟨i, _, rfl⟩ := hv
  have hlt : i % z.cells.size < z.cells.size := Nat.mod_lt _ hz
  rw [getElem!_pos z.cells _ hlt]
  rw [List.all_eq_true] at h
  exact h _ (by simp)

abbrev wideCs : List Value := [.int .i64 0, .int .i64 0, .int .i64 24, .int .i64 48, .int .i64 0, .int .i64 0, .int .i64 0, .int .i64 0]
theorem c_CRead (N : Nat) (h : GH) {b : Option Addr} {n c : Nat} {l : List UInt8} (r : RB h (.slice b n c) l) (sl : SL h (.slice b n c)) (hl : l.length ≤ 140737488351232) : GTri Try.prog N 107 [.agg wideCs.toArray, .slice b n c] h fun v h' => HS h h' ∧ ∃ a d a' d', v = .tuple #[.slice a (rbat l).1.length d, .slice a' (rbat l).2.1.length d', .int .i64 (rbat l).2.2] ∧ RL 2 Bd h' (.slice a (rbat l).1.length d) (rbat l).1 ∧ OWN h h' (.slice a' (rbat l).2.1.length d') (rbat l).2.1 := by
  obtain rfl := r.len_eq
  generalize hR : rbat l = R
  refine gtri Try.func107 rfl gf107 ok107 (by simp [Try.ntmps107]) ?_
  repeat' (first | (with_reducible first | refine gw_seq ?_ | refine gw_block ?_) | ((first | (with_reducible first | refine gw_region ?_ | refine gw_if ?_ | refine gw_skip ?_ | refine gw_exit ?_ | refine gw_ret ?_) | ((with_reducible first | refine gif_b (fun hb => ?_) (fun hb => ?_) | refine want_t (fun hb => ?_) (fun hb => ?_) | refine want_f (fun hb => ?_) (fun hb => ?_)) <;> (try simp only [hb]) <;> (try simp only [hpr] at hb))) <;> try simp only [List.map, gop, ev, lk, aenv, gyield, gBin, gInt, gStrOp, gUn, gPick, gNil, gExtract, gIfc, gConvK, gIndexO, gIndexVO, gMakeV, gMinV, gMaxV, isInt, gMin, gMax, gBlt, gCallV, gInvoke, gNilM, Array.toList_map, vcells, gField, gIndexV, gPart, reduceIte, Nat.reduceAdd, Nat.reduceSub, Nat.reduceMul, Nat.reduceLT, Nat.reduceLeDiff, Nat.reduceEqDiff, Nat.reduceBEq, Int.reduceLT, Int.reduceLE, Int.reduceGT, Int.reduceGE, Int.reduceEq, Int.reduceNe, Int.reduceAdd, Int.reduceSub, Int.reduceMul, Int.reduceNeg, Int.reduceToNat, Int.reduceBEq, Int.reduceBNe, Int.cast_ofNat_Int, List.getElem?_toArray, stp, Try.underlying100, Try.underlying120, Try.underlying22, Try.underlying23, Try.underlying3, Try.underlying36, Try.underlying5, Try.underlying50, Try.underlying96, ty22, ty36, ty100, ty120, ty96, ty23, ty3, ty5, ty50, rs107, wideCs]))
  refine box_g rfl fun k1 h1 m1 s1 f1 n1 => ?_
  (try simp only [List.map, gop, ev, lk, aenv, gyield, gBin, gInt, gStrOp, gUn, gPick, gNil, gExtract, gIfc, gConvK, gIndexO, gIndexVO, gMakeV, gMinV, gMaxV, isInt, gMin, gMax, gBlt, gCallV, gInvoke, gNilM, Array.toList_map, vcells, gField, gIndexV, gPart, reduceIte, Nat.reduceAdd, Nat.reduceSub, Nat.reduceMul, Nat.reduceLT, Nat.reduceLeDiff, Nat.reduceEqDiff, Nat.reduceBEq, Int.reduceLT, Int.reduceLE, Int.reduceGT, Int.reduceGE, Int.reduceEq, Int.reduceNe, Int.reduceAdd, Int.reduceSub, Int.reduceMul, Int.reduceNeg, Int.reduceToNat, Int.reduceBEq, Int.reduceBNe, Int.cast_ofNat_Int, List.getElem?_toArray, stp, Try.underlying100, Try.underlying120, Try.underlying22, Try.underlying23, Try.underlying3, Try.underlying36, Try.underlying5, Try.underlying50, Try.underlying96, ty22, ty36, ty100, ty120, ty96, ty23, ty3, ty5, ty50, rs107]); repeat' (first | (with_reducible first | refine gw_seq ?_ | refine gw_block ?_) | ((first | (with_reducible first | refine gw_region ?_ | refine gw_if ?_ | refine gw_skip ?_ | refine gw_exit ?_ | refine gw_ret ?_) | ((with_reducible first | refine gif_b (fun hb => ?_) (fun hb => ?_) | refine want_t (fun hb => ?_) (fun hb => ?_) | refine want_f (fun hb => ?_) (fun hb => ?_)) <;> (try simp only [hb]) <;> (try simp only [hpr] at hb))) <;> try simp only [List.map, gop, ev, lk, aenv, gyield, gBin, gInt, gStrOp, gUn, gPick, gNil, gExtract, gIfc, gConvK, gIndexO, gIndexVO, gMakeV, gMinV, gMaxV, isInt, gMin, gMax, gBlt, gCallV, gInvoke, gNilM, Array.toList_map, vcells, gField, gIndexV, gPart, reduceIte, Nat.reduceAdd, Nat.reduceSub, Nat.reduceMul, Nat.reduceLT, Nat.reduceLeDiff, Nat.reduceEqDiff, Nat.reduceBEq, Int.reduceLT, Int.reduceLE, Int.reduceGT, Int.reduceGE, Int.reduceEq, Int.reduceNe, Int.reduceAdd, Int.reduceSub, Int.reduceMul, Int.reduceNeg, Int.reduceToNat, Int.reduceBEq, Int.reduceBNe, Int.cast_ofNat_Int, List.getElem?_toArray, stp, Try.underlying100, Try.underlying120, Try.underlying22, Try.underlying23, Try.underlying3, Try.underlying36, Try.underlying5, Try.underlying50, Try.underlying96, ty22, ty36, ty100, ty120, ty96, ty23, ty3, ty5, ty50, rs107]))
  refine (c_Open N h1 (r.hs s1) (by omega)).mono ?_
  rintro _ h2 ⟨kr, rfl, rd2, s2, n2⟩
  (try simp only [List.map, gop, ev, lk, aenv, gyield, gBin, gInt, gStrOp, gUn, gPick, gNil, gExtract, gIfc, gConvK, gIndexO, gIndexVO, gMakeV, gMinV, gMaxV, isInt, gMin, gMax, gBlt, gCallV, gInvoke, gNilM, Array.toList_map, vcells, gField, gIndexV, gPart, reduceIte, Nat.reduceAdd, Nat.reduceSub, Nat.reduceMul, Nat.reduceLT, Nat.reduceLeDiff, Nat.reduceEqDiff, Nat.reduceBEq, Int.reduceLT, Int.reduceLE, Int.reduceGT, Int.reduceGE, Int.reduceEq, Int.reduceNe, Int.reduceAdd, Int.reduceSub, Int.reduceMul, Int.reduceNeg, Int.reduceToNat, Int.reduceBEq, Int.reduceBNe, Int.cast_ofNat_Int, List.getElem?_toArray, stp, Try.underlying100, Try.underlying120, Try.underlying22, Try.underlying23, Try.underlying3, Try.underlying36, Try.underlying5, Try.underlying50, Try.underlying96, ty22, ty36, ty100, ty120, ty96, ty23, ty3, ty5, ty50, rs107]); repeat' (first | (with_reducible first | refine gw_seq ?_ | refine gw_block ?_) | ((first | (with_reducible first | refine gw_region ?_ | refine gw_if ?_ | refine gw_skip ?_ | refine gw_exit ?_ | refine gw_ret ?_) | ((with_reducible first | refine gif_b (fun hb => ?_) (fun hb => ?_) | refine want_t (fun hb => ?_) (fun hb => ?_) | refine want_f (fun hb => ?_) (fun hb => ?_)) <;> (try simp only [hb]) <;> (try simp only [hpr] at hb))) <;> try simp only [List.map, gop, ev, lk, aenv, gyield, gBin, gInt, gStrOp, gUn, gPick, gNil, gExtract, gIfc, gConvK, gIndexO, gIndexVO, gMakeV, gMinV, gMaxV, isInt, gMin, gMax, gBlt, gCallV, gInvoke, gNilM, Array.toList_map, vcells, gField, gIndexV, gPart, reduceIte, Nat.reduceAdd, Nat.reduceSub, Nat.reduceMul, Nat.reduceLT, Nat.reduceLeDiff, Nat.reduceEqDiff, Nat.reduceBEq, Int.reduceLT, Int.reduceLE, Int.reduceGT, Int.reduceGE, Int.reduceEq, Int.reduceNe, Int.reduceAdd, Int.reduceSub, Int.reduceMul, Int.reduceNeg, Int.reduceToNat, Int.reduceBEq, Int.reduceBNe, Int.cast_ofNat_Int, List.getElem?_toArray, stp, Try.underlying100, Try.underlying120, Try.underlying22, Try.underlying23, Try.underlying3, Try.underlying36, Try.underlying5, Try.underlying50, Try.underlying96, ty22, ty36, ty100, ty120, ty96, ty23, ty3, ty5, ty50, rs107]))
  refine (c_RUint N h2 rd2 32 (by simp only; omega)).mono ?_
  rintro _ h3 ⟨rfl, rd3, x3⟩
  have s3 : HS h1 h3 := x3.new s2 n2
  generalize hU : (St.mk l 0).uint 32 = u at *
  have u1 : u.1 ≤ 32 := by rw [← hU]; exact St.uint_max _ (by decide)
  have u2 := (St.mk l 0).uint_len 32
  rw [hU] at u2
  simp only at u2
  obtain ⟨m, hm⟩ : ∃ m : Nat, u.1 = m := ⟨u.1.toNat, by omega⟩
  rw [hm]
  (try simp only [List.map, gop, ev, lk, aenv, gyield, gBin, gInt, gStrOp, gUn, gPick, gNil, gExtract, gIfc, gConvK, gIndexO, gIndexVO, gMakeV, gMinV, gMaxV, isInt, gMin, gMax, gBlt, gCallV, gInvoke, gNilM, Array.toList_map, vcells, gField, gIndexV, gPart, reduceIte, Nat.reduceAdd, Nat.reduceSub, Nat.reduceMul, Nat.reduceLT, Nat.reduceLeDiff, Nat.reduceEqDiff, Nat.reduceBEq, Int.reduceLT, Int.reduceLE, Int.reduceGT, Int.reduceGE, Int.reduceEq, Int.reduceNe, Int.reduceAdd, Int.reduceSub, Int.reduceMul, Int.reduceNeg, Int.reduceToNat, Int.reduceBEq, Int.reduceBNe, Int.cast_ofNat_Int, List.getElem?_toArray, stp, Try.underlying100, Try.underlying120, Try.underlying22, Try.underlying23, Try.underlying3, Try.underlying36, Try.underlying5, Try.underlying50, Try.underlying96, ty22, ty36, ty100, ty120, ty96, ty23, ty3, ty5, ty50, rs107]); repeat' (first | (with_reducible first | refine gw_seq ?_ | refine gw_block ?_) | ((first | (with_reducible first | refine gw_region ?_ | refine gw_if ?_ | refine gw_skip ?_ | refine gw_exit ?_ | refine gw_ret ?_) | ((with_reducible first | refine gif_b (fun hb => ?_) (fun hb => ?_) | refine want_t (fun hb => ?_) (fun hb => ?_) | refine want_f (fun hb => ?_) (fun hb => ?_)) <;> (try simp only [hb]) <;> (try simp only [hpr] at hb))) <;> try simp only [List.map, gop, ev, lk, aenv, gyield, gBin, gInt, gStrOp, gUn, gPick, gNil, gExtract, gIfc, gConvK, gIndexO, gIndexVO, gMakeV, gMinV, gMaxV, isInt, gMin, gMax, gBlt, gCallV, gInvoke, gNilM, Array.toList_map, vcells, gField, gIndexV, gPart, reduceIte, Nat.reduceAdd, Nat.reduceSub, Nat.reduceMul, Nat.reduceLT, Nat.reduceLeDiff, Nat.reduceEqDiff, Nat.reduceBEq, Int.reduceLT, Int.reduceLE, Int.reduceGT, Int.reduceGE, Int.reduceEq, Int.reduceNe, Int.reduceAdd, Int.reduceSub, Int.reduceMul, Int.reduceNeg, Int.reduceToNat, Int.reduceBEq, Int.reduceBNe, Int.cast_ofNat_Int, List.getElem?_toArray, stp, Try.underlying100, Try.underlying120, Try.underlying22, Try.underlying23, Try.underlying3, Try.underlying36, Try.underlying5, Try.underlying50, Try.underlying96, ty22, ty36, ty100, ty120, ty96, ty23, ty3, ty5, ty50, rs107]))
  refine mk_g el36 rfl (by omega) (by omega) fun kl h4 m4 s4 f4 n4 => ?_
  have zl := zeros_length (Value.agg #[.slice none 0 0, .slice none 0 0]) (m * 2)
  have zu : (zeros (Value.agg #[.slice none 0 0, .slice none 0 0]) (m * 2)).all notU8 = true := zeros_all rfl (by decide) _
  generalize zeros (Value.agg #[.slice none 0 0, .slice none 0 0]) (m * 2) = zs at m4 zl zu
  have rd4 := rd3.hs s4
  have hs4 : HS h1 h4 := s3.trans s4
  have n5 : h1 kl = none := s3.none_of n4
  have nkl : kr ≠ kl := by
    obtain ⟨_, _, e, _⟩ := rd3
    exact ne_of e n4
  (try simp only [List.map, gop, ev, lk, aenv, gyield, gBin, gInt, gStrOp, gUn, gPick, gNil, gExtract, gIfc, gConvK, gIndexO, gIndexVO, gMakeV, gMinV, gMaxV, isInt, gMin, gMax, gBlt, gCallV, gInvoke, gNilM, Array.toList_map, vcells, gField, gIndexV, gPart, reduceIte, Nat.reduceAdd, Nat.reduceSub, Nat.reduceMul, Nat.reduceLT, Nat.reduceLeDiff, Nat.reduceEqDiff, Nat.reduceBEq, Int.reduceLT, Int.reduceLE, Int.reduceGT, Int.reduceGE, Int.reduceEq, Int.reduceNe, Int.reduceAdd, Int.reduceSub, Int.reduceMul, Int.reduceNeg, Int.reduceToNat, Int.reduceBEq, Int.reduceBNe, Int.cast_ofNat_Int, List.getElem?_toArray, stp, Try.underlying100, Try.underlying120, Try.underlying22, Try.underlying23, Try.underlying3, Try.underlying36, Try.underlying5, Try.underlying50, Try.underlying96, ty22, ty36, ty100, ty120, ty96, ty23, ty3, ty5, ty50, rs107, gLen_s Try.underlying36]); repeat' (first | (with_reducible first | refine gw_seq ?_ | refine gw_block ?_) | ((first | (with_reducible first | refine gw_region ?_ | refine gw_if ?_ | refine gw_skip ?_ | refine gw_exit ?_ | refine gw_ret ?_) | ((with_reducible first | refine gif_b (fun hb => ?_) (fun hb => ?_) | refine want_t (fun hb => ?_) (fun hb => ?_) | refine want_f (fun hb => ?_) (fun hb => ?_)) <;> (try simp only [hb]) <;> (try simp only [hpr] at hb))) <;> try simp only [List.map, gop, ev, lk, aenv, gyield, gBin, gInt, gStrOp, gUn, gPick, gNil, gExtract, gIfc, gConvK, gIndexO, gIndexVO, gMakeV, gMinV, gMaxV, isInt, gMin, gMax, gBlt, gCallV, gInvoke, gNilM, Array.toList_map, vcells, gField, gIndexV, gPart, reduceIte, Nat.reduceAdd, Nat.reduceSub, Nat.reduceMul, Nat.reduceLT, Nat.reduceLeDiff, Nat.reduceEqDiff, Nat.reduceBEq, Int.reduceLT, Int.reduceLE, Int.reduceGT, Int.reduceGE, Int.reduceEq, Int.reduceNe, Int.reduceAdd, Int.reduceSub, Int.reduceMul, Int.reduceNeg, Int.reduceToNat, Int.reduceBEq, Int.reduceBNe, Int.cast_ofNat_Int, List.getElem?_toArray, stp, Try.underlying100, Try.underlying120, Try.underlying22, Try.underlying23, Try.underlying3, Try.underlying36, Try.underlying5, Try.underlying50, Try.underlying96, ty22, ty36, ty100, ty120, ty96, ty23, ty3, ty5, ty50, rs107, gLen_s Try.underlying36]))
  refine gw_loop2 [1, 2, 4, 5, 6, 7, 8, 17] (fun (i : Nat) => [(18, .int .i64 (i : Int))]) (fun q i h' => m - i = q ∧ i ≤ m ∧ HS h1 h' ∧ RD h' kr (u.2.bds 24 48 i).2 ∧ ∃ cs, h' kl = some ⟨cs, 2, true, false⟩ ∧ cs.length = m * 2 ∧ cs.all notU8 = true ∧ ∀ j x, (u.2.bds 24 48 i).1[j]? = some x → Bd h' ((cs.drop (j * 2)).take 2) x) m 0 (by simp [lk]) ⟨rfl, by omega, hs4, rd4, zs, m4, zl, zu, by simp [St.bds]⟩ ?_
  clear rd4 hs4 m4
  rintro _ i h5 ⟨rfl, hi, s5, rd5, cs, m5, cl, cu, bd5⟩
  have sl5 := (u.2.bds_len 24 48 i)
  have m1' := s5 _ _ m1
  by_cases him : i < m
  case neg =>
    have d3 : decide ((i : Int) < (m : Int)) = false := decide_eq_false (by omega)
    obtain rfl : i = m := by omega
    have hRu : R = if (u.2.bds 24 48 i).2.e = 0 then ((u.2.bds 24 48 i).1, (u.2.bds 24 48 i).2.b, 0) else ([], [], (u.2.bds 24 48 i).2.e) := by
      rw [← hR, rbat, hU, hm]; rfl
    by_cases he : (u.2.bds 24 48 i).2.e = 0
    case neg =>
      have d4 : ((u.2.bds 24 48 i).2.e != 0) = true := by simpa using he
      (try simp only [List.map, gop, ev, lk, aenv, gyield, gBin, gInt, gStrOp, gUn, gPick, gNil, gExtract, gIfc, gConvK, gIndexO, gIndexVO, gMakeV, gMinV, gMaxV, isInt, gMin, gMax, gBlt, gCallV, gInvoke, gNilM, Array.toList_map, vcells, gField, gIndexV, gPart, reduceIte, Nat.reduceAdd, Nat.reduceSub, Nat.reduceMul, Nat.reduceLT, Nat.reduceLeDiff, Nat.reduceEqDiff, Nat.reduceBEq, Int.reduceLT, Int.reduceLE, Int.reduceGT, Int.reduceGE, Int.reduceEq, Int.reduceNe, Int.reduceAdd, Int.reduceSub, Int.reduceMul, Int.reduceNeg, Int.reduceToNat, Int.reduceBEq, Int.reduceBNe, Int.cast_ofNat_Int, List.getElem?_toArray, stp, Try.underlying100, Try.underlying120, Try.underlying22, Try.underlying23, Try.underlying3, Try.underlying36, Try.underlying5, Try.underlying50, Try.underlying96, ty22, ty36, ty100, ty120, ty96, ty23, ty3, ty5, ty50, rs107, d3, d4]); repeat' (first | (with_reducible first | refine gw_seq ?_ | refine gw_block ?_) | ((first | (with_reducible first | refine gw_region ?_ | refine gw_if ?_ | refine gw_skip ?_ | refine gw_exit ?_ | refine gw_ret ?_) | ((with_reducible first | refine gif_b (fun hb => ?_) (fun hb => ?_) | refine want_t (fun hb => ?_) (fun hb => ?_) | refine want_f (fun hb => ?_) (fun hb => ?_)) <;> (try simp only [hb]) <;> (try simp only [hpr] at hb)) | ((refine GTri.mono (c_Err _ _ rd5) ?_); rintro _ _ ⟨rfl, hh9⟩; replace hh9 := hh9.symm; subst hh9)) <;> try simp only [List.map, gop, ev, lk, aenv, gyield, gBin, gInt, gStrOp, gUn, gPick, gNil, gExtract, gIfc, gConvK, gIndexO, gIndexVO, gMakeV, gMinV, gMaxV, isInt, gMin, gMax, gBlt, gCallV, gInvoke, gNilM, Array.toList_map, vcells, gField, gIndexV, gPart, reduceIte, Nat.reduceAdd, Nat.reduceSub, Nat.reduceMul, Nat.reduceLT, Nat.reduceLeDiff, Nat.reduceEqDiff, Nat.reduceBEq, Int.reduceLT, Int.reduceLE, Int.reduceGT, Int.reduceGE, Int.reduceEq, Int.reduceNe, Int.reduceAdd, Int.reduceSub, Int.reduceMul, Int.reduceNeg, Int.reduceToNat, Int.reduceBEq, Int.reduceBNe, Int.cast_ofNat_Int, List.getElem?_toArray, stp, Try.underlying100, Try.underlying120, Try.underlying22, Try.underlying23, Try.underlying3, Try.underlying36, Try.underlying5, Try.underlying50, Try.underlying96, ty22, ty36, ty100, ty120, ty96, ty23, ty3, ty5, ty50, rs107, d3, d4]))
      rw [if_neg he] at hRu
      rw [hRu]
      exact ⟨s1.trans s5, none, 0, none, 0, rfl, RL.nil _, OWN.nil _ _⟩
    have d4 : ((u.2.bds 24 48 i).2.e != 0) = false := by simpa using he
    rw [if_pos he] at hRu
    obtain ⟨g1, g2, _⟩ := St.bds_got he
    have g3 : (St.mk l 0).e = 0 ∧ ∃ n : Nat, u.1 = n ∧ n ≤ 4611686018427387904 ∧ (n : Int) ≤ 32 ∧ l = guint n ++ u.2.b := by
      have := St.uint_got (s := St.mk l 0) (most := 32) (by rw [hU]; exact g1)
      rw [hU] at this; exact this
    obtain ⟨_, n0, _, _, _, g4⟩ := g3
    rw [g2, ← List.append_assoc] at g4
    have wsub : IntKind.i64.wrap ((l.length : Int) - (((u.2.bds 24 48 i).2.b.length : Nat) : Int)) = ((l.length - (u.2.bds 24 48 i).2.b.length : Nat) : Int) := wrap_sub (by omega) (by omega)
    obtain ⟨a6, c6, q6, r6, sl6⟩ := (r.hs (s1.trans s5)).behind (sl.hs (s1.trans s5)) Try.underlying22 sz29 (lo := l.length - (u.2.bds 24 48 i).2.b.length) (by omega) .i64
    have dl : l.drop (l.length - (u.2.bds 24 48 i).2.b.length) = (u.2.bds 24 48 i).2.b := by
      generalize (u.2.bds 24 48 i).2.b = rest at g4 ⊢
      rw [g4]; exact drop_suf rfl
    rw [dl] at q6 r6 sl6
    (try simp only [List.map, gop, ev, lk, aenv, gyield, gBin, gInt, gStrOp, gUn, gPick, gNil, gExtract, gIfc, gConvK, gIndexO, gIndexVO, gMakeV, gMinV, gMaxV, isInt, gMin, gMax, gBlt, gCallV, gInvoke, gNilM, Array.toList_map, vcells, gField, gIndexV, gPart, reduceIte, Nat.reduceAdd, Nat.reduceSub, Nat.reduceMul, Nat.reduceLT, Nat.reduceLeDiff, Nat.reduceEqDiff, Nat.reduceBEq, Int.reduceLT, Int.reduceLE, Int.reduceGT, Int.reduceGE, Int.reduceEq, Int.reduceNe, Int.reduceAdd, Int.reduceSub, Int.reduceMul, Int.reduceNeg, Int.reduceToNat, Int.reduceBEq, Int.reduceBNe, Int.cast_ofNat_Int, List.getElem?_toArray, stp, Try.underlying100, Try.underlying120, Try.underlying22, Try.underlying23, Try.underlying3, Try.underlying36, Try.underlying5, Try.underlying50, Try.underlying96, ty22, ty36, ty100, ty120, ty96, ty23, ty3, ty5, ty50, rs107, d3, d4]); repeat' (first | (with_reducible first | refine gw_seq ?_ | refine gw_block ?_) | ((first | (with_reducible first | refine gw_region ?_ | refine gw_if ?_ | refine gw_skip ?_ | refine gw_exit ?_ | refine gw_ret ?_) | ((with_reducible first | refine gif_b (fun hb => ?_) (fun hb => ?_) | refine want_t (fun hb => ?_) (fun hb => ?_) | refine want_f (fun hb => ?_) (fun hb => ?_)) <;> (try simp only [hb]) <;> (try simp only [hpr] at hb)) | ((refine GTri.mono (c_Err _ _ rd5) ?_); rintro _ _ ⟨rfl, hh9⟩; replace hh9 := hh9.symm; subst hh9) | ((refine GTri.mono (c_Left _ _ rd5) ?_); rintro _ _ ⟨rfl, hh9⟩; replace hh9 := hh9.symm; subst hh9)) <;> try simp only [List.map, gop, ev, lk, aenv, gyield, gBin, gInt, gStrOp, gUn, gPick, gNil, gExtract, gIfc, gConvK, gIndexO, gIndexVO, gMakeV, gMinV, gMaxV, isInt, gMin, gMax, gBlt, gCallV, gInvoke, gNilM, Array.toList_map, vcells, gField, gIndexV, gPart, reduceIte, Nat.reduceAdd, Nat.reduceSub, Nat.reduceMul, Nat.reduceLT, Nat.reduceLeDiff, Nat.reduceEqDiff, Nat.reduceBEq, Int.reduceLT, Int.reduceLE, Int.reduceGT, Int.reduceGE, Int.reduceEq, Int.reduceNe, Int.reduceAdd, Int.reduceSub, Int.reduceMul, Int.reduceNeg, Int.reduceToNat, Int.reduceBEq, Int.reduceBNe, Int.cast_ofNat_Int, List.getElem?_toArray, stp, Try.underlying100, Try.underlying120, Try.underlying22, Try.underlying23, Try.underlying3, Try.underlying36, Try.underlying5, Try.underlying50, Try.underlying96, ty22, ty36, ty100, ty120, ty96, ty23, ty3, ty5, ty50, rs107, d3, d4]))
    refine bs0_g el22 rfl ?_
    (try simp only [List.map, gop, ev, lk, aenv, gyield, gBin, gInt, gStrOp, gUn, gPick, gNil, gExtract, gIfc, gConvK, gIndexO, gIndexVO, gMakeV, gMinV, gMaxV, isInt, gMin, gMax, gBlt, gCallV, gInvoke, gNilM, Array.toList_map, vcells, gField, gIndexV, gPart, reduceIte, Nat.reduceAdd, Nat.reduceSub, Nat.reduceMul, Nat.reduceLT, Nat.reduceLeDiff, Nat.reduceEqDiff, Nat.reduceBEq, Int.reduceLT, Int.reduceLE, Int.reduceGT, Int.reduceGE, Int.reduceEq, Int.reduceNe, Int.reduceAdd, Int.reduceSub, Int.reduceMul, Int.reduceNeg, Int.reduceToNat, Int.reduceBEq, Int.reduceBNe, Int.cast_ofNat_Int, List.getElem?_toArray, stp, Try.underlying100, Try.underlying120, Try.underlying22, Try.underlying23, Try.underlying3, Try.underlying36, Try.underlying5, Try.underlying50, Try.underlying96, ty22, ty36, ty100, ty120, ty96, ty23, ty3, ty5, ty50, rs107, d3, d4, gLen_s Try.underlying22, wsub, q6]); repeat' (first | (with_reducible first | refine gw_seq ?_ | refine gw_block ?_) | ((first | (with_reducible first | refine gw_region ?_ | refine gw_if ?_ | refine gw_skip ?_ | refine gw_exit ?_ | refine gw_ret ?_) | ((with_reducible first | refine gif_b (fun hb => ?_) (fun hb => ?_) | refine want_t (fun hb => ?_) (fun hb => ?_) | refine want_f (fun hb => ?_) (fun hb => ?_)) <;> (try simp only [hb]) <;> (try simp only [hpr] at hb)) | ((refine GTri.mono (c_Err _ _ rd5) ?_); rintro _ _ ⟨rfl, hh9⟩; replace hh9 := hh9.symm; subst hh9) | ((refine GTri.mono (c_Left _ _ rd5) ?_); rintro _ _ ⟨rfl, hh9⟩; replace hh9 := hh9.symm; subst hh9)) <;> try simp only [List.map, gop, ev, lk, aenv, gyield, gBin, gInt, gStrOp, gUn, gPick, gNil, gExtract, gIfc, gConvK, gIndexO, gIndexVO, gMakeV, gMinV, gMaxV, isInt, gMin, gMax, gBlt, gCallV, gInvoke, gNilM, Array.toList_map, vcells, gField, gIndexV, gPart, reduceIte, Nat.reduceAdd, Nat.reduceSub, Nat.reduceMul, Nat.reduceLT, Nat.reduceLeDiff, Nat.reduceEqDiff, Nat.reduceBEq, Int.reduceLT, Int.reduceLE, Int.reduceGT, Int.reduceGE, Int.reduceEq, Int.reduceNe, Int.reduceAdd, Int.reduceSub, Int.reduceMul, Int.reduceNeg, Int.reduceToNat, Int.reduceBEq, Int.reduceBNe, Int.cast_ofNat_Int, List.getElem?_toArray, stp, Try.underlying100, Try.underlying120, Try.underlying22, Try.underlying23, Try.underlying3, Try.underlying36, Try.underlying5, Try.underlying50, Try.underlying96, ty22, ty36, ty100, ty120, ty96, ty23, ty3, ty5, ty50, rs107, d3, d4, gLen_s Try.underlying22, wsub, q6]))
    refine append_own el22 Try.underlying22 rfl (HS.refl h5) (OWN.zero _ _ _) r6.src (by simp; omega) fun v7 h7 s7 _ o7 => ?_
    obtain ⟨a8, c8, rfl⟩ := o7.form
    rw [List.nil_append] at o7
    (try simp only [List.map, gop, ev, lk, aenv, gyield, gBin, gInt, gStrOp, gUn, gPick, gNil, gExtract, gIfc, gConvK, gIndexO, gIndexVO, gMakeV, gMinV, gMaxV, isInt, gMin, gMax, gBlt, gCallV, gInvoke, gNilM, Array.toList_map, vcells, gField, gIndexV, gPart, reduceIte, Nat.reduceAdd, Nat.reduceSub, Nat.reduceMul, Nat.reduceLT, Nat.reduceLeDiff, Nat.reduceEqDiff, Nat.reduceBEq, Int.reduceLT, Int.reduceLE, Int.reduceGT, Int.reduceGE, Int.reduceEq, Int.reduceNe, Int.reduceAdd, Int.reduceSub, Int.reduceMul, Int.reduceNeg, Int.reduceToNat, Int.reduceBEq, Int.reduceBNe, Int.cast_ofNat_Int, List.getElem?_toArray, stp, Try.underlying100, Try.underlying120, Try.underlying22, Try.underlying23, Try.underlying3, Try.underlying36, Try.underlying5, Try.underlying50, Try.underlying96, ty22, ty36, ty100, ty120, ty96, ty23, ty3, ty5, ty50, rs107]); repeat' (first | (with_reducible first | refine gw_seq ?_ | refine gw_block ?_) | ((first | (with_reducible first | refine gw_region ?_ | refine gw_if ?_ | refine gw_skip ?_ | refine gw_exit ?_ | refine gw_ret ?_) | ((with_reducible first | refine gif_b (fun hb => ?_) (fun hb => ?_) | refine want_t (fun hb => ?_) (fun hb => ?_) | refine want_f (fun hb => ?_) (fun hb => ?_)) <;> (try simp only [hb]) <;> (try simp only [hpr] at hb))) <;> try simp only [List.map, gop, ev, lk, aenv, gyield, gBin, gInt, gStrOp, gUn, gPick, gNil, gExtract, gIfc, gConvK, gIndexO, gIndexVO, gMakeV, gMinV, gMaxV, isInt, gMin, gMax, gBlt, gCallV, gInvoke, gNilM, Array.toList_map, vcells, gField, gIndexV, gPart, reduceIte, Nat.reduceAdd, Nat.reduceSub, Nat.reduceMul, Nat.reduceLT, Nat.reduceLeDiff, Nat.reduceEqDiff, Nat.reduceBEq, Int.reduceLT, Int.reduceLE, Int.reduceGT, Int.reduceGE, Int.reduceEq, Int.reduceNe, Int.reduceAdd, Int.reduceSub, Int.reduceMul, Int.reduceNeg, Int.reduceToNat, Int.reduceBEq, Int.reduceBNe, Int.cast_ofNat_Int, List.getElem?_toArray, stp, Try.underlying100, Try.underlying120, Try.underlying22, Try.underlying23, Try.underlying3, Try.underlying36, Try.underlying5, Try.underlying50, Try.underlying96, ty22, ty36, ty100, ty120, ty96, ty23, ty3, ty5, ty50, rs107]))
    rw [hRu]
    refine ⟨(s1.trans s5).trans s7, _, _, a8, c8, by simp only [sl5.1]; rfl, ?_, o7.weak (s1.trans s5)⟩
    refine .inr ⟨⟨kl, 0, none⟩, 2 * i + 1, cs, by rw [sl5.1], ?_, by rw [sl5.1]; omega, fun j x hx => (bd5 j x hx).hs s7, .inr ⟨_, s7 _ _ m5, .inl (by simp)⟩⟩
    rw [sl5.1]
    exact gread_lit (s7 _ _ m5) (by simp [← cl]) cl
  have d3 : decide ((i : Int) < (m : Int)) = true := decide_eq_true (by omega)
  have wi : IntKind.i64.wrap ((i : Int) + 1) = ((i + 1 : Nat) : Int) := by rw [wrap64 (by omega) (by omega)]; omega
  (try simp only [List.map, gop, ev, lk, aenv, gyield, gBin, gInt, gStrOp, gUn, gPick, gNil, gExtract, gIfc, gConvK, gIndexO, gIndexVO, gMakeV, gMinV, gMaxV, isInt, gMin, gMax, gBlt, gCallV, gInvoke, gNilM, Array.toList_map, vcells, gField, gIndexV, gPart, reduceIte, Nat.reduceAdd, Nat.reduceSub, Nat.reduceMul, Nat.reduceLT, Nat.reduceLeDiff, Nat.reduceEqDiff, Nat.reduceBEq, Int.reduceLT, Int.reduceLE, Int.reduceGT, Int.reduceGE, Int.reduceEq, Int.reduceNe, Int.reduceAdd, Int.reduceSub, Int.reduceMul, Int.reduceNeg, Int.reduceToNat, Int.reduceBEq, Int.reduceBNe, Int.cast_ofNat_Int, List.getElem?_toArray, stp, Try.underlying100, Try.underlying120, Try.underlying22, Try.underlying23, Try.underlying3, Try.underlying36, Try.underlying5, Try.underlying50, Try.underlying96, ty22, ty36, ty100, ty120, ty96, ty23, ty3, ty5, ty50, rs107, d3, gload1 m1' sz3]); repeat' (first | (with_reducible first | refine gw_seq ?_ | refine gw_block ?_) | ((first | (with_reducible first | refine gw_region ?_ | refine gw_if ?_ | refine gw_skip ?_ | refine gw_exit ?_ | refine gw_ret ?_) | ((with_reducible first | refine gif_b (fun hb => ?_) (fun hb => ?_) | refine want_t (fun hb => ?_) (fun hb => ?_) | refine want_f (fun hb => ?_) (fun hb => ?_)) <;> (try simp only [hb]) <;> (try simp only [hpr] at hb))) <;> try simp only [List.map, gop, ev, lk, aenv, gyield, gBin, gInt, gStrOp, gUn, gPick, gNil, gExtract, gIfc, gConvK, gIndexO, gIndexVO, gMakeV, gMinV, gMaxV, isInt, gMin, gMax, gBlt, gCallV, gInvoke, gNilM, Array.toList_map, vcells, gField, gIndexV, gPart, reduceIte, Nat.reduceAdd, Nat.reduceSub, Nat.reduceMul, Nat.reduceLT, Nat.reduceLeDiff, Nat.reduceEqDiff, Nat.reduceBEq, Int.reduceLT, Int.reduceLE, Int.reduceGT, Int.reduceGE, Int.reduceEq, Int.reduceNe, Int.reduceAdd, Int.reduceSub, Int.reduceMul, Int.reduceNeg, Int.reduceToNat, Int.reduceBEq, Int.reduceBNe, Int.cast_ofNat_Int, List.getElem?_toArray, stp, Try.underlying100, Try.underlying120, Try.underlying22, Try.underlying23, Try.underlying3, Try.underlying36, Try.underlying5, Try.underlying50, Try.underlying96, ty22, ty36, ty100, ty120, ty96, ty23, ty3, ty5, ty50, rs107, d3, gload1 m1' sz3]))
  refine (c_RBytes N h5 rd5 24 (by omega)).mono ?_
  rintro _ h6 ⟨rd6, x6, a6, c6, rfl, r6⟩
  have s6 : HS h1 h6 := x6.new s5 n2
  have m6 := x6 _ _ nkl.symm m5
  have m1' := s6 _ _ m1
  have cl1 : i * 2 < cs.length := by omega
  have cl2 : i * 2 + 1 < (cs.set (i * 2) (.slice a6 (((u.2.bds 24 48 i).2.bytes 24).1.length) c6)).length := by rw [List.length_set]; omega
  have k1l : k1 ≠ kl := ne_of m1 n5
  (try simp only [List.map, gop, ev, lk, aenv, gyield, gBin, gInt, gStrOp, gUn, gPick, gNil, gExtract, gIfc, gConvK, gIndexO, gIndexVO, gMakeV, gMinV, gMaxV, isInt, gMin, gMax, gBlt, gCallV, gInvoke, gNilM, Array.toList_map, vcells, gField, gIndexV, gPart, reduceIte, Nat.reduceAdd, Nat.reduceSub, Nat.reduceMul, Nat.reduceLT, Nat.reduceLeDiff, Nat.reduceEqDiff, Nat.reduceBEq, Int.reduceLT, Int.reduceLE, Int.reduceGT, Int.reduceGE, Int.reduceEq, Int.reduceNe, Int.reduceAdd, Int.reduceSub, Int.reduceMul, Int.reduceNeg, Int.reduceToNat, Int.reduceBEq, Int.reduceBNe, Int.cast_ofNat_Int, List.getElem?_toArray, stp, Try.underlying100, Try.underlying120, Try.underlying22, Try.underlying23, Try.underlying3, Try.underlying36, Try.underlying5, Try.underlying50, Try.underlying96, ty22, ty36, ty100, ty120, ty96, ty23, ty3, ty5, ty50, rs107, gIndex_nat Try.underlying36 sz120 him, Nat.add_zero]); repeat' (first | (with_reducible first | refine gw_seq ?_ | refine gw_block ?_) | ((first | (with_reducible first | refine gw_region ?_ | refine gw_if ?_ | refine gw_skip ?_ | refine gw_exit ?_ | refine gw_ret ?_) | ((with_reducible first | refine gif_b (fun hb => ?_) (fun hb => ?_) | refine want_t (fun hb => ?_) (fun hb => ?_) | refine want_f (fun hb => ?_) (fun hb => ?_)) <;> (try simp only [hb]) <;> (try simp only [hpr] at hb))) <;> try simp only [List.map, gop, ev, lk, aenv, gyield, gBin, gInt, gStrOp, gUn, gPick, gNil, gExtract, gIfc, gConvK, gIndexO, gIndexVO, gMakeV, gMinV, gMaxV, isInt, gMin, gMax, gBlt, gCallV, gInvoke, gNilM, Array.toList_map, vcells, gField, gIndexV, gPart, reduceIte, Nat.reduceAdd, Nat.reduceSub, Nat.reduceMul, Nat.reduceLT, Nat.reduceLeDiff, Nat.reduceEqDiff, Nat.reduceBEq, Int.reduceLT, Int.reduceLE, Int.reduceGT, Int.reduceGE, Int.reduceEq, Int.reduceNe, Int.reduceAdd, Int.reduceSub, Int.reduceMul, Int.reduceNeg, Int.reduceToNat, Int.reduceBEq, Int.reduceBNe, Int.cast_ofNat_Int, List.getElem?_toArray, stp, Try.underlying100, Try.underlying120, Try.underlying22, Try.underlying23, Try.underlying3, Try.underlying36, Try.underlying5, Try.underlying50, Try.underlying96, ty22, ty36, ty100, ty120, ty96, ty23, ty3, ty5, ty50, rs107, gIndex_nat Try.underlying36 sz120 him, Nat.add_zero]))
  refine st_one m6 sz22 rfl cl1 rfl rfl fun h7 m7 f7 => ?_
  have x7 : HX kl h6 h7 := fun j B n e => by rw [f7 j n]; exact e
  have s7 : HS h1 h7 := x7.new s6 n5
  have rd7 := rd6.hl m6 (by simp) cu x7 nkl
  have r7 := r6.hx m6 cu x7
  have cu7 := all_set cu (v := .slice a6 (((u.2.bds 24 48 i).2.bytes 24).1.length) c6) rfl (i * 2)
  have m1' := s7 _ _ m1
  have b1 := St.bytes_len (u.2.bds 24 48 i).2 24
  (try simp only [List.map, gop, ev, lk, aenv, gyield, gBin, gInt, gStrOp, gUn, gPick, gNil, gExtract, gIfc, gConvK, gIndexO, gIndexVO, gMakeV, gMinV, gMaxV, isInt, gMin, gMax, gBlt, gCallV, gInvoke, gNilM, Array.toList_map, vcells, gField, gIndexV, gPart, reduceIte, Nat.reduceAdd, Nat.reduceSub, Nat.reduceMul, Nat.reduceLT, Nat.reduceLeDiff, Nat.reduceEqDiff, Nat.reduceBEq, Int.reduceLT, Int.reduceLE, Int.reduceGT, Int.reduceGE, Int.reduceEq, Int.reduceNe, Int.reduceAdd, Int.reduceSub, Int.reduceMul, Int.reduceNeg, Int.reduceToNat, Int.reduceBEq, Int.reduceBNe, Int.cast_ofNat_Int, List.getElem?_toArray, stp, Try.underlying100, Try.underlying120, Try.underlying22, Try.underlying23, Try.underlying3, Try.underlying36, Try.underlying5, Try.underlying50, Try.underlying96, ty22, ty36, ty100, ty120, ty96, ty23, ty3, ty5, ty50, rs107, gload1 m1' sz3]); repeat' (first | (with_reducible first | refine gw_seq ?_ | refine gw_block ?_) | ((first | (with_reducible first | refine gw_region ?_ | refine gw_if ?_ | refine gw_skip ?_ | refine gw_exit ?_ | refine gw_ret ?_) | ((with_reducible first | refine gif_b (fun hb => ?_) (fun hb => ?_) | refine want_t (fun hb => ?_) (fun hb => ?_) | refine want_f (fun hb => ?_) (fun hb => ?_)) <;> (try simp only [hb]) <;> (try simp only [hpr] at hb))) <;> try simp only [List.map, gop, ev, lk, aenv, gyield, gBin, gInt, gStrOp, gUn, gPick, gNil, gExtract, gIfc, gConvK, gIndexO, gIndexVO, gMakeV, gMinV, gMaxV, isInt, gMin, gMax, gBlt, gCallV, gInvoke, gNilM, Array.toList_map, vcells, gField, gIndexV, gPart, reduceIte, Nat.reduceAdd, Nat.reduceSub, Nat.reduceMul, Nat.reduceLT, Nat.reduceLeDiff, Nat.reduceEqDiff, Nat.reduceBEq, Int.reduceLT, Int.reduceLE, Int.reduceGT, Int.reduceGE, Int.reduceEq, Int.reduceNe, Int.reduceAdd, Int.reduceSub, Int.reduceMul, Int.reduceNeg, Int.reduceToNat, Int.reduceBEq, Int.reduceBNe, Int.cast_ofNat_Int, List.getElem?_toArray, stp, Try.underlying100, Try.underlying120, Try.underlying22, Try.underlying23, Try.underlying3, Try.underlying36, Try.underlying5, Try.underlying50, Try.underlying96, ty22, ty36, ty100, ty120, ty96, ty23, ty3, ty5, ty50, rs107, gload1 m1' sz3]))
  refine (c_RBytes N h7 rd7 48 (by omega)).mono ?_
  rintro _ h8 ⟨rd8, x8, a8, c8, rfl, r8⟩
  have s8 : HS h1 h8 := x8.new s7 n2
  have m8 := x8 _ _ nkl.symm m7
  have r7 := r7.rd rd7 x8
  (try simp only [List.map, gop, ev, lk, aenv, gyield, gBin, gInt, gStrOp, gUn, gPick, gNil, gExtract, gIfc, gConvK, gIndexO, gIndexVO, gMakeV, gMinV, gMaxV, isInt, gMin, gMax, gBlt, gCallV, gInvoke, gNilM, Array.toList_map, vcells, gField, gIndexV, gPart, reduceIte, Nat.reduceAdd, Nat.reduceSub, Nat.reduceMul, Nat.reduceLT, Nat.reduceLeDiff, Nat.reduceEqDiff, Nat.reduceBEq, Int.reduceLT, Int.reduceLE, Int.reduceGT, Int.reduceGE, Int.reduceEq, Int.reduceNe, Int.reduceAdd, Int.reduceSub, Int.reduceMul, Int.reduceNeg, Int.reduceToNat, Int.reduceBEq, Int.reduceBNe, Int.cast_ofNat_Int, List.getElem?_toArray, stp, Try.underlying100, Try.underlying120, Try.underlying22, Try.underlying23, Try.underlying3, Try.underlying36, Try.underlying5, Try.underlying50, Try.underlying96, ty22, ty36, ty100, ty120, ty96, ty23, ty3, ty5, ty50, rs107, gIndex_nat Try.underlying36 sz120 him, Nat.add_zero]); repeat' (first | (with_reducible first | refine gw_seq ?_ | refine gw_block ?_) | ((first | (with_reducible first | refine gw_region ?_ | refine gw_if ?_ | refine gw_skip ?_ | refine gw_exit ?_ | refine gw_ret ?_) | ((with_reducible first | refine gif_b (fun hb => ?_) (fun hb => ?_) | refine want_t (fun hb => ?_) (fun hb => ?_) | refine want_f (fun hb => ?_) (fun hb => ?_)) <;> (try simp only [hb]) <;> (try simp only [hpr] at hb))) <;> try simp only [List.map, gop, ev, lk, aenv, gyield, gBin, gInt, gStrOp, gUn, gPick, gNil, gExtract, gIfc, gConvK, gIndexO, gIndexVO, gMakeV, gMinV, gMaxV, isInt, gMin, gMax, gBlt, gCallV, gInvoke, gNilM, Array.toList_map, vcells, gField, gIndexV, gPart, reduceIte, Nat.reduceAdd, Nat.reduceSub, Nat.reduceMul, Nat.reduceLT, Nat.reduceLeDiff, Nat.reduceEqDiff, Nat.reduceBEq, Int.reduceLT, Int.reduceLE, Int.reduceGT, Int.reduceGE, Int.reduceEq, Int.reduceNe, Int.reduceAdd, Int.reduceSub, Int.reduceMul, Int.reduceNeg, Int.reduceToNat, Int.reduceBEq, Int.reduceBNe, Int.cast_ofNat_Int, List.getElem?_toArray, stp, Try.underlying100, Try.underlying120, Try.underlying22, Try.underlying23, Try.underlying3, Try.underlying36, Try.underlying5, Try.underlying50, Try.underlying96, ty22, ty36, ty100, ty120, ty96, ty23, ty3, ty5, ty50, rs107, gIndex_nat Try.underlying36 sz120 him, Nat.add_zero]))
  refine st_one m8 sz22 rfl cl2 rfl rfl fun h9 m9 f9 => ?_
  have x9 : HX kl h8 h9 := fun j B n e => by rw [f9 j n]; exact e
  (try simp only [List.map, gop, ev, lk, aenv, gyield, gBin, gInt, gStrOp, gUn, gPick, gNil, gExtract, gIfc, gConvK, gIndexO, gIndexVO, gMakeV, gMinV, gMaxV, isInt, gMin, gMax, gBlt, gCallV, gInvoke, gNilM, Array.toList_map, vcells, gField, gIndexV, gPart, reduceIte, Nat.reduceAdd, Nat.reduceSub, Nat.reduceMul, Nat.reduceLT, Nat.reduceLeDiff, Nat.reduceEqDiff, Nat.reduceBEq, Int.reduceLT, Int.reduceLE, Int.reduceGT, Int.reduceGE, Int.reduceEq, Int.reduceNe, Int.reduceAdd, Int.reduceSub, Int.reduceMul, Int.reduceNeg, Int.reduceToNat, Int.reduceBEq, Int.reduceBNe, Int.cast_ofNat_Int, List.getElem?_toArray, stp, Try.underlying100, Try.underlying120, Try.underlying22, Try.underlying23, Try.underlying3, Try.underlying36, Try.underlying5, Try.underlying50, Try.underlying96, ty22, ty36, ty100, ty120, ty96, ty23, ty3, ty5, ty50, rs107, wi]); repeat' (first | (with_reducible first | refine gw_seq ?_ | refine gw_block ?_) | ((first | (with_reducible first | refine gw_region ?_ | refine gw_if ?_ | refine gw_skip ?_ | refine gw_exit ?_ | refine gw_ret ?_) | ((with_reducible first | refine gif_b (fun hb => ?_) (fun hb => ?_) | refine want_t (fun hb => ?_) (fun hb => ?_) | refine want_f (fun hb => ?_) (fun hb => ?_)) <;> (try simp only [hb]) <;> (try simp only [hpr] at hb))) <;> try simp only [List.map, gop, ev, lk, aenv, gyield, gBin, gInt, gStrOp, gUn, gPick, gNil, gExtract, gIfc, gConvK, gIndexO, gIndexVO, gMakeV, gMinV, gMaxV, isInt, gMin, gMax, gBlt, gCallV, gInvoke, gNilM, Array.toList_map, vcells, gField, gIndexV, gPart, reduceIte, Nat.reduceAdd, Nat.reduceSub, Nat.reduceMul, Nat.reduceLT, Nat.reduceLeDiff, Nat.reduceEqDiff, Nat.reduceBEq, Int.reduceLT, Int.reduceLE, Int.reduceGT, Int.reduceGE, Int.reduceEq, Int.reduceNe, Int.reduceAdd, Int.reduceSub, Int.reduceMul, Int.reduceNeg, Int.reduceToNat, Int.reduceBEq, Int.reduceBNe, Int.cast_ofNat_Int, List.getElem?_toArray, stp, Try.underlying100, Try.underlying120, Try.underlying22, Try.underlying23, Try.underlying3, Try.underlying36, Try.underlying5, Try.underlying50, Try.underlying96, ty22, ty36, ty100, ty120, ty96, ty23, ty3, ty5, ty50, rs107, wi]))
  refine ⟨_, i + 1, ?_, (by simp only [List.forall_mem_cons, List.not_mem_nil, false_implies, implies_true, List.map, List.cons_append, List.nil_append, lk, Nat.reduceEqDiff, reduceIte, and_true, true_and]), rfl, by omega, x9.new s8 n5, rd8.hl m8 (by simp) cu7 x9 nkl, _, m9, by simp [cl], all_set cu7 rfl _, fun j x hx => ?_⟩
  · omega
  rw [two_set cl him]
  have e1 : (u.2.bds 24 48 (i + 1)).1 = (u.2.bds 24 48 i).1 ++ [(((u.2.bds 24 48 i).2.bytes 24).1, (((u.2.bds 24 48 i).2.bytes 24).2.bytes 48).1)] := rfl
  rw [e1] at hx
  by_cases hji : j = i
  · subst hji
    rw [if_pos rfl]
    rw [List.getElem?_append_right (by omega), sl5.1, Nat.sub_self] at hx
    obtain rfl : _ = x := by simpa using hx
    exact ⟨a6, _, c6, a8, _, c8, rfl, r7.hx m8 cu7 x9, r8.hx m8 cu7 x9⟩
  · rw [if_neg hji]
    have hj : j < (u.2.bds 24 48 i).1.length := by
      have := (List.getElem?_eq_some_iff.1 hx).1
      rw [List.length_append, List.length_singleton] at this
      omega
    rw [List.getElem?_append_left hj] at hx
    have r5 := bd5 j x hx
    have q6 : Bd h6 ((cs.drop (j * 2)).take 2) x := by
      obtain ⟨_, _, e, _⟩ := rd5
      exact r5.hy e rfl x6
    have q8 : Bd h8 ((cs.drop (j * 2)).take 2) x := by
      obtain ⟨_, _, e, _⟩ := rd7
      exact (q6.hy m6 cu x7).hy e rfl x8
    exact q8.hy m8 cu7 x9
end Go.Gh

/- Batches, read by the reference. -/

namespace Go.Gh
open Go Go.Proofs Go.RowKit
set_option linter.unusedVariables false
set_option linter.unusedSimpArgs false
set_option maxRecDepth 100000
set_option maxHeartbeats 1000000

theorem fr_sl {h h' : GH} {s : Value} {n es : Nat} {cs : List Value} (fr : ∀ j B, h j = some B → (j = j → ∀ kb c, s = .slice (some ⟨kb, 0, none⟩) n c → n ≠ 0 → h kb = some ⟨cs, es, true, true⟩ → j ≠ kb) → h' j = some B) (he : es ≠ 1) {v : Value} (r : SL h v) : SL h' v := fun ad m c e => by
  rcases r ad m c e with h1 | h1 | h1
  · exact .inl h1
  · exact .inr (.inl h1)
  · right; right
    unfold esOk at h1 ⊢
    split at h1
    · rename_i B hB
      have hb : B.es = 1 := by simpa using h1
      rw [fr_es fr hB (by rw [hb]; exact he.symm)]; exact h1
    · cases h1
theorem RF.fr {h h' : GH} {s : Value} {n es : Nat} {cs : List Value} {k : Nat} {st : St} (r : RF h k st) (fr : ∀ j B, h j = some B → (j = j → ∀ kb c, s = .slice (some ⟨kb, 0, none⟩) n c → n ≠ 0 → h kb = some ⟨cs, es, true, true⟩ → j ≠ kb) → h' j = some B) (he : es ≠ 1) (h0 : es ≠ 0) (hc : cs.all notU8 = true) : RF h' k st := by
  obtain ⟨a, c, m, rb, sl⟩ := r.form
  exact ⟨a, c, fr_es fr m h0.symm, fr_rb fr hc rb, fr_sl fr he sl⟩
theorem Bd.fr {h h' : GH} {s : Value} {n es : Nat} {cs : List Value} (fr : ∀ j B, h j = some B → (j = j → ∀ kb c, s = .slice (some ⟨kb, 0, none⟩) n c → n ≠ 0 → h kb = some ⟨cs, es, true, true⟩ → j ≠ kb) → h' j = some B) (hc : cs.all notU8 = true) {ds : List Value} {y : List UInt8 × List UInt8} (r : Bd h ds y) : Bd h' ds y := by
  obtain ⟨a, n, c, b, m', d, rfl, r1, r2⟩ := r
  exact ⟨a, n, c, b, m', d, rfl, fr_rb fr hc r1, fr_rb fr hc r2⟩
end Go.Gh

/- A request's reader, as a pen. -/

namespace Go.Gh
open Go Go.Proofs Go.RowKit
set_option linter.unusedVariables false
set_option linter.unusedSimpArgs false
set_option maxRecDepth 100000
set_option maxHeartbeats 1000000

theorem gmr_n : gMeth Try.prog 85 "annals/ask.number" = some 105 := by kernel_rfl
theorem gmr_x : gMeth Try.prog 85 "annals/ask.text" = some 106 := by kernel_rfl
theorem gmr_g : gMeth Try.prog 85 "annals/ask.flag" = some 104 := by kernel_rfl
theorem gmr_b : gMeth Try.prog 85 "annals/ask.batch" = some 103 := by kernel_rfl

theorem suf_len {a b : List UInt8} (h : a <:+ b) : a.length ≤ b.length := h.length_le
theorem St.ok_suf (s : St) (so : Bool) (e : Int) : (s.ok so e).b <:+ s.b := by
  unfold St.ok St.fail
  split
  · exact List.suffix_refl _
  · split
    · exact List.nil_suffix
    · exact List.suffix_refl _
theorem St.take_suf (s : St) (n : Nat) : (s.take n).2.b <:+ s.b := by
  unfold St.take
  split
  · rename_i h
    have := (St.ok_0 (by decide) h).1
    exact List.drop_suffix _ _
  · exact St.ok_suf _ _ _
theorem St.num_suf (s : St) (l : List UInt8) (most : Int) : (s.num l most).2.b <:+ s.b := by
  unfold St.num
  split
  · split
    · exact List.suffix_refl _
    · exact St.ok_suf _ _ _
  · exact St.ok_suf _ _ _
theorem St.uint_suf (s : St) (most : Int) : (s.uint most).2.b <:+ s.b := by
  unfold St.uint
  split
  · unfold St.wid
    split
    · exact ((St.num_suf _ _ _).trans (St.take_suf _ _)).trans (St.take_suf _ _)
    · exact (St.ok_suf _ _ _).trans (St.take_suf _ _)
  · exact St.take_suf _ _
theorem St.bytes_suf (s : St) (most : Int) : (s.bytes most).2.b <:+ s.b := (St.take_suf _ _).trans (St.uint_suf _ _)
theorem St.flag_suf (s : St) : s.flag.2.b <:+ s.b := by
  unfold St.flag
  repeat' split
  all_goals first | exact St.take_suf _ _ | exact (St.ok_suf _ _ _).trans (St.take_suf _ _)
theorem suf_drop {a b : List UInt8} (h : a <:+ b) : b.drop (b.length - a.length) = a := by
  obtain ⟨p, rfl⟩ := h
  exact drop_suf rfl
theorem ne_cells {h : GH} {k j : Nat} {B C : GB} (a : h k = some B) (b : h j = some C) (n : B.cells ≠ C.cells) : k ≠ j := fun e => by
  subst e; rw [a] at b; cases b; exact n rfl

structure Rs where
  q : Aq
  id : List UInt8
  bt : List (List UInt8 × List UInt8)
  st : St
  err : Int
abbrev restF (kb kt : Nat) : Value := .func (.func 50) #[] #[.pointer (some ⟨kb, 0, none⟩), .pointer (some ⟨kt, 0, none⟩)]
def RPI (kb kt kr ka : Nat) (B : List UInt8) (h0 : GH) (s : Rs) (h : GH) : Prop :=
  ∃ krd a c b d,
    h kr = some ⟨[.pointer (some ⟨krd, 0, none⟩), restF kb kt, .int .i64 s.err], 0, true, false⟩ ∧
    h kt = some ⟨[.pointer (some ⟨kr, 0, none⟩)], 0, true, false⟩ ∧
    (∃ a c, h kb = some ⟨[.slice a B.length c], 0, true, false⟩ ∧ RB h (.slice a B.length c) B ∧ SL h (.slice a B.length c)) ∧
    RD h krd s.st ∧
    h ka = some ⟨s.q.cs (.slice a s.id.length c) (.slice b s.bt.length d), 0, true, false⟩ ∧ RB h (.slice a s.id.length c) s.id ∧ RL 2 Bd h (.slice b s.bt.length d) s.bt ∧
    HS h0 h ∧ h0 kr = none ∧ h0 ka = none ∧ h0 krd = none ∧ s.st.b <:+ B ∧ B.length ≤ 140737488351232
theorem RPI.step {kb kt kr ka : Nat} {B : List UInt8} {h0 h h1 h2 : GH} {s : Rs} (i : RPI kb kt kr ka B h0 s h) {krd : Nat} {f : Value} {e : Int} (mr : h kr = some ⟨[.pointer (some ⟨krd, 0, none⟩), f, .int .i64 e], 0, true, false⟩) (x1 : HX krd h h1) {st' : St} (rd1 : RD h1 krd st') (sf : st'.b <:+ s.st.b)
    {q' : Aq} {id' : List UInt8} {bt' : List (List UInt8 × List UInt8)} {a' b' : Option Addr} {c' d' : Nat} (m2 : h2 ka = some ⟨q'.cs (.slice a' id'.length c') (.slice b' bt'.length d'), 0, true, false⟩) (f2 : ∀ j, j ≠ ka → h2 j = h1 j) (rb : RB h1 (.slice a' id'.length c') id') (rl : RL 2 Bd h1 (.slice b' bt'.length d') bt') :
    RPI kb kt kr ka B h0 ⟨q', id', bt', st', s.err⟩ h2 := by
  obtain ⟨krd', a, c, b, d, mr', mt, ⟨ab, cb, mb, rbb, slb⟩, rd, ma, ri, rlb, hs, n1, n2, n3, suf, hl⟩ := i
  rw [mr] at mr'
  obtain ⟨rfl, rfl, rfl⟩ : krd = krd' ∧ f = restF kb kt ∧ e = s.err := by simpa using mr'
  obtain ⟨_, _, md, _⟩ := rd.form
  have k1 : kr ≠ krd := ne_cells mr md (by simp)
  have k2 : kt ≠ krd := ne_cells mt md (by simp)
  have k3 : kb ≠ krd := ne_cells mb md (by simp)
  have k4 : ka ≠ krd := ne_cells ma md (by simp [Aq.cs])
  have j1 : kr ≠ ka := ne_cells mr ma (by simp [Aq.cs])
  have j2 : kt ≠ ka := ne_cells mt ma (by simp [Aq.cs])
  have j3 : kb ≠ ka := ne_cells mb ma (by simp [Aq.cs])
  have ma1 := x1 _ _ k4 ma
  have x2 : HX ka h1 h2 := fun j B n e => by rw [f2 j n]; exact e
  have hs1 : HS h0 h1 := x1.new hs n3
  exact ⟨krd, a', c', b', d', x2 _ _ j1 (x1 _ _ k1 mr), x2 _ _ j2 (x1 _ _ k2 mt), ⟨ab, cb, x2 _ _ j3 (x1 _ _ k3 mb), (rbb.hx md rfl x1).hx ma1 rfl x2, (slb.hx md rfl x1).hx ma1 rfl x2⟩, rd1.hl ma1 (by simp) rfl x2 k4.symm, m2, rb.hx ma1 rfl x2, rl.bx ma1 ⟨rfl, rfl⟩ rfl x2, x2.new hs1 n2, n1, n2, n3, sf.trans suf, hl⟩

theorem c_rdnum {N kb kt kr ka : Nat} {B : List UInt8} {h0 h : GH} {s : Rs} (o : Nat) (m : Int) (i : RPI kb kt kr ka B h0 s h) (ho : o = 2 ∨ o = 3 ∨ o = 4 ∨ o = 6 ∨ o = 7 ∨ o = 8) : GTri Try.prog N 105 [.pointer (some ⟨kr, 0, none⟩), .pointer (some ⟨ka, o, none⟩), .int .i64 m] h fun _ h' => RPI kb kt kr ka B h0 ⟨s.q.put (s.st.uint m).1 o, s.id, s.bt, (s.st.uint m).2, s.err⟩ h' := by
  have i0 := i
  obtain ⟨krd, a, c, b, d, mr, mt, ⟨ab, cb, mb, rbb, slb⟩, rd, ma, ri, rlb, hs, n1, n2, n3, suf, hl⟩ := i
  obtain ⟨_, _, md, _⟩ := rd.form
  have k4 : ka ≠ krd := ne_cells ma md (by simp [Aq.cs])
  have sl := suf_len suf
  refine gtri Try.func105 rfl gf105 ok105 (by simp [Try.ntmps105]) ?_
  repeat' (first | (with_reducible first | refine gw_seq ?_ | refine gw_block ?_) | ((first | (with_reducible first | refine gw_region ?_ | refine gw_if ?_ | refine gw_skip ?_ | refine gw_exit ?_ | refine gw_ret ?_) | ((with_reducible first | refine gif_b (fun hb => ?_) (fun hb => ?_) | refine want_t (fun hb => ?_) (fun hb => ?_) | refine want_f (fun hb => ?_) (fun hb => ?_)) <;> (try simp only [hb]) <;> (try simp only [hpr] at hb))) <;> try simp only [List.map, gop, ev, lk, aenv, gyield, gBin, gInt, gStrOp, gUn, gPick, gNil, gExtract, gIfc, gConvK, gIndexO, gIndexVO, gMakeV, gMinV, gMaxV, isInt, gMin, gMax, gBlt, gCallV, gInvoke, gNilM, Array.toList_map, vcells, gField, gIndexV, gPart, reduceIte, Nat.reduceAdd, Nat.reduceSub, Nat.reduceMul, Nat.reduceLT, Nat.reduceLeDiff, Nat.reduceEqDiff, Nat.reduceBEq, Int.reduceLT, Int.reduceLE, Int.reduceGT, Int.reduceGE, Int.reduceEq, Int.reduceNe, Int.reduceAdd, Int.reduceSub, Int.reduceMul, Int.reduceNeg, Int.reduceToNat, Int.reduceBEq, Int.reduceBNe, Int.cast_ofNat_Int, List.getElem?_toArray, stp, Try.underlying100, Try.underlying23, Try.underlying3, Try.underlying50, Try.underlying86, Try.underlying88, ty100, ty88, ty23, ty3, ty50, ty86, rs105, gNil, gload1 mr sz50]))
  refine (c_RUint N h rd m (by omega)).mono ?_
  rintro _ h1 ⟨rfl, rd1, x1⟩
  have ma1 := x1 _ _ k4 ma
  (try simp only [List.map, gop, ev, lk, aenv, gyield, gBin, gInt, gStrOp, gUn, gPick, gNil, gExtract, gIfc, gConvK, gIndexO, gIndexVO, gMakeV, gMinV, gMaxV, isInt, gMin, gMax, gBlt, gCallV, gInvoke, gNilM, Array.toList_map, vcells, gField, gIndexV, gPart, reduceIte, Nat.reduceAdd, Nat.reduceSub, Nat.reduceMul, Nat.reduceLT, Nat.reduceLeDiff, Nat.reduceEqDiff, Nat.reduceBEq, Int.reduceLT, Int.reduceLE, Int.reduceGT, Int.reduceGE, Int.reduceEq, Int.reduceNe, Int.reduceAdd, Int.reduceSub, Int.reduceMul, Int.reduceNeg, Int.reduceToNat, Int.reduceBEq, Int.reduceBNe, Int.cast_ofNat_Int, List.getElem?_toArray, stp, Try.underlying100, Try.underlying23, Try.underlying3, Try.underlying50, Try.underlying86, Try.underlying88, ty100, ty88, ty23, ty3, ty50, ty86, rs105, gNil]); repeat' (first | (with_reducible first | refine gw_seq ?_ | refine gw_block ?_) | ((first | (with_reducible first | refine gw_region ?_ | refine gw_if ?_ | refine gw_skip ?_ | refine gw_exit ?_ | refine gw_ret ?_) | ((with_reducible first | refine gif_b (fun hb => ?_) (fun hb => ?_) | refine want_t (fun hb => ?_) (fun hb => ?_) | refine want_f (fun hb => ?_) (fun hb => ?_)) <;> (try simp only [hb]) <;> (try simp only [hpr] at hb))) <;> try simp only [List.map, gop, ev, lk, aenv, gyield, gBin, gInt, gStrOp, gUn, gPick, gNil, gExtract, gIfc, gConvK, gIndexO, gIndexVO, gMakeV, gMinV, gMaxV, isInt, gMin, gMax, gBlt, gCallV, gInvoke, gNilM, Array.toList_map, vcells, gField, gIndexV, gPart, reduceIte, Nat.reduceAdd, Nat.reduceSub, Nat.reduceMul, Nat.reduceLT, Nat.reduceLeDiff, Nat.reduceEqDiff, Nat.reduceBEq, Int.reduceLT, Int.reduceLE, Int.reduceGT, Int.reduceGE, Int.reduceEq, Int.reduceNe, Int.reduceAdd, Int.reduceSub, Int.reduceMul, Int.reduceNeg, Int.reduceToNat, Int.reduceBEq, Int.reduceBNe, Int.cast_ofNat_Int, List.getElem?_toArray, stp, Try.underlying100, Try.underlying23, Try.underlying3, Try.underlying50, Try.underlying86, Try.underlying88, ty100, ty88, ty23, ty3, ty50, ty86, rs105, gNil]))
  refine st_one ma1 sz3 rfl (by rw [Aq.cs_len]; exact ok_off ho) rfl rfl fun h2 m2 f2 => ?_
  (try simp only [List.map, gop, ev, lk, aenv, gyield, gBin, gInt, gStrOp, gUn, gPick, gNil, gExtract, gIfc, gConvK, gIndexO, gIndexVO, gMakeV, gMinV, gMaxV, isInt, gMin, gMax, gBlt, gCallV, gInvoke, gNilM, Array.toList_map, vcells, gField, gIndexV, gPart, reduceIte, Nat.reduceAdd, Nat.reduceSub, Nat.reduceMul, Nat.reduceLT, Nat.reduceLeDiff, Nat.reduceEqDiff, Nat.reduceBEq, Int.reduceLT, Int.reduceLE, Int.reduceGT, Int.reduceGE, Int.reduceEq, Int.reduceNe, Int.reduceAdd, Int.reduceSub, Int.reduceMul, Int.reduceNeg, Int.reduceToNat, Int.reduceBEq, Int.reduceBNe, Int.cast_ofNat_Int, List.getElem?_toArray, stp, Try.underlying100, Try.underlying23, Try.underlying3, Try.underlying50, Try.underlying86, Try.underlying88, ty100, ty88, ty23, ty3, ty50, ty86, rs105]); repeat' (first | (with_reducible first | refine gw_seq ?_ | refine gw_block ?_) | ((first | (with_reducible first | refine gw_region ?_ | refine gw_if ?_ | refine gw_skip ?_ | refine gw_exit ?_ | refine gw_ret ?_) | ((with_reducible first | refine gif_b (fun hb => ?_) (fun hb => ?_) | refine want_t (fun hb => ?_) (fun hb => ?_) | refine want_f (fun hb => ?_) (fun hb => ?_)) <;> (try simp only [hb]) <;> (try simp only [hpr] at hb))) <;> try simp only [List.map, gop, ev, lk, aenv, gyield, gBin, gInt, gStrOp, gUn, gPick, gNil, gExtract, gIfc, gConvK, gIndexO, gIndexVO, gMakeV, gMinV, gMaxV, isInt, gMin, gMax, gBlt, gCallV, gInvoke, gNilM, Array.toList_map, vcells, gField, gIndexV, gPart, reduceIte, Nat.reduceAdd, Nat.reduceSub, Nat.reduceMul, Nat.reduceLT, Nat.reduceLeDiff, Nat.reduceEqDiff, Nat.reduceBEq, Int.reduceLT, Int.reduceLE, Int.reduceGT, Int.reduceGE, Int.reduceEq, Int.reduceNe, Int.reduceAdd, Int.reduceSub, Int.reduceMul, Int.reduceNeg, Int.reduceToNat, Int.reduceBEq, Int.reduceBNe, Int.cast_ofNat_Int, List.getElem?_toArray, stp, Try.underlying100, Try.underlying23, Try.underlying3, Try.underlying50, Try.underlying86, Try.underlying88, ty100, ty88, ty23, ty3, ty50, ty86, rs105]))
  rw [Aq.cs_put _ _ _ ho] at m2
  exact i0.step mr x1 rd1 (St.uint_suf _ _) m2 f2 (ri.hx md rfl x1) (rlb.bx md ⟨rfl, rfl⟩ rfl x1)
theorem Aq.cs_id (q : Aq) (i b v : Value) : (q.cs i b).set 1 v = q.cs v b := rfl
theorem Aq.cs_so (q : Aq) (i b : Value) (y : Bool) : (q.cs i b).set 5 (.bool y) = ({ q with so := y } : Aq).cs i b := rfl
theorem c_rdtxt {N kb kt kr ka : Nat} {B : List UInt8} {h0 h : GH} {s : Rs} (i : RPI kb kt kr ka B h0 s h) : GTri Try.prog N 106 [.pointer (some ⟨kr, 0, none⟩), .pointer (some ⟨ka, 1, none⟩)] h fun _ h' => RPI kb kt kr ka B h0 ⟨s.q, (s.st.bytes 24).1, s.bt, (s.st.bytes 24).2, s.err⟩ h' := by
  have i0 := i
  obtain ⟨krd, a, c, b, d, mr, mt, ⟨ab, cb, mb, rbb, slb⟩, rd, ma, ri, rlb, hs, n1, n2, n3, suf, hl⟩ := i
  obtain ⟨_, _, md, _⟩ := rd.form
  have k4 : ka ≠ krd := ne_cells ma md (by simp [Aq.cs])
  have sl := suf_len suf
  refine gtri Try.func106 rfl gf106 ok106 (by simp [Try.ntmps106]) ?_
  repeat' (first | (with_reducible first | refine gw_seq ?_ | refine gw_block ?_) | ((first | (with_reducible first | refine gw_region ?_ | refine gw_if ?_ | refine gw_skip ?_ | refine gw_exit ?_ | refine gw_ret ?_) | ((with_reducible first | refine gif_b (fun hb => ?_) (fun hb => ?_) | refine want_t (fun hb => ?_) (fun hb => ?_) | refine want_f (fun hb => ?_) (fun hb => ?_)) <;> (try simp only [hb]) <;> (try simp only [hpr] at hb))) <;> try simp only [List.map, gop, ev, lk, aenv, gyield, gBin, gInt, gStrOp, gUn, gPick, gNil, gExtract, gIfc, gConvK, gIndexO, gIndexVO, gMakeV, gMinV, gMaxV, isInt, gMin, gMax, gBlt, gCallV, gInvoke, gNilM, Array.toList_map, vcells, gField, gIndexV, gPart, reduceIte, Nat.reduceAdd, Nat.reduceSub, Nat.reduceMul, Nat.reduceLT, Nat.reduceLeDiff, Nat.reduceEqDiff, Nat.reduceBEq, Int.reduceLT, Int.reduceLE, Int.reduceGT, Int.reduceGE, Int.reduceEq, Int.reduceNe, Int.reduceAdd, Int.reduceSub, Int.reduceMul, Int.reduceNeg, Int.reduceToNat, Int.reduceBEq, Int.reduceBNe, Int.cast_ofNat_Int, List.getElem?_toArray, stp, Try.underlying100, Try.underlying22, Try.underlying23, Try.underlying3, Try.underlying5, Try.underlying50, Try.underlying86, Try.underlying88, ty22, ty100, ty88, ty23, ty3, ty5, ty50, ty86, rs106, gNil, gload1 mr sz50]))
  refine (c_RBytes N h rd 24 (by omega)).mono ?_
  rintro _ h1 ⟨rd1, x1, a1, c1, rfl, r1⟩
  have ma1 := x1 _ _ k4 ma
  (try simp only [List.map, gop, ev, lk, aenv, gyield, gBin, gInt, gStrOp, gUn, gPick, gNil, gExtract, gIfc, gConvK, gIndexO, gIndexVO, gMakeV, gMinV, gMaxV, isInt, gMin, gMax, gBlt, gCallV, gInvoke, gNilM, Array.toList_map, vcells, gField, gIndexV, gPart, reduceIte, Nat.reduceAdd, Nat.reduceSub, Nat.reduceMul, Nat.reduceLT, Nat.reduceLeDiff, Nat.reduceEqDiff, Nat.reduceBEq, Int.reduceLT, Int.reduceLE, Int.reduceGT, Int.reduceGE, Int.reduceEq, Int.reduceNe, Int.reduceAdd, Int.reduceSub, Int.reduceMul, Int.reduceNeg, Int.reduceToNat, Int.reduceBEq, Int.reduceBNe, Int.cast_ofNat_Int, List.getElem?_toArray, stp, Try.underlying100, Try.underlying22, Try.underlying23, Try.underlying3, Try.underlying5, Try.underlying50, Try.underlying86, Try.underlying88, ty22, ty100, ty88, ty23, ty3, ty5, ty50, ty86, rs106, gNil]); repeat' (first | (with_reducible first | refine gw_seq ?_ | refine gw_block ?_) | ((first | (with_reducible first | refine gw_region ?_ | refine gw_if ?_ | refine gw_skip ?_ | refine gw_exit ?_ | refine gw_ret ?_) | ((with_reducible first | refine gif_b (fun hb => ?_) (fun hb => ?_) | refine want_t (fun hb => ?_) (fun hb => ?_) | refine want_f (fun hb => ?_) (fun hb => ?_)) <;> (try simp only [hb]) <;> (try simp only [hpr] at hb))) <;> try simp only [List.map, gop, ev, lk, aenv, gyield, gBin, gInt, gStrOp, gUn, gPick, gNil, gExtract, gIfc, gConvK, gIndexO, gIndexVO, gMakeV, gMinV, gMaxV, isInt, gMin, gMax, gBlt, gCallV, gInvoke, gNilM, Array.toList_map, vcells, gField, gIndexV, gPart, reduceIte, Nat.reduceAdd, Nat.reduceSub, Nat.reduceMul, Nat.reduceLT, Nat.reduceLeDiff, Nat.reduceEqDiff, Nat.reduceBEq, Int.reduceLT, Int.reduceLE, Int.reduceGT, Int.reduceGE, Int.reduceEq, Int.reduceNe, Int.reduceAdd, Int.reduceSub, Int.reduceMul, Int.reduceNeg, Int.reduceToNat, Int.reduceBEq, Int.reduceBNe, Int.cast_ofNat_Int, List.getElem?_toArray, stp, Try.underlying100, Try.underlying22, Try.underlying23, Try.underlying3, Try.underlying5, Try.underlying50, Try.underlying86, Try.underlying88, ty22, ty100, ty88, ty23, ty3, ty5, ty50, ty86, rs106, gNil]))
  refine st_one ma1 sz22 rfl (by rw [Aq.cs_len]; omega) rfl rfl fun h2 m2 f2 => ?_
  (try simp only [List.map, gop, ev, lk, aenv, gyield, gBin, gInt, gStrOp, gUn, gPick, gNil, gExtract, gIfc, gConvK, gIndexO, gIndexVO, gMakeV, gMinV, gMaxV, isInt, gMin, gMax, gBlt, gCallV, gInvoke, gNilM, Array.toList_map, vcells, gField, gIndexV, gPart, reduceIte, Nat.reduceAdd, Nat.reduceSub, Nat.reduceMul, Nat.reduceLT, Nat.reduceLeDiff, Nat.reduceEqDiff, Nat.reduceBEq, Int.reduceLT, Int.reduceLE, Int.reduceGT, Int.reduceGE, Int.reduceEq, Int.reduceNe, Int.reduceAdd, Int.reduceSub, Int.reduceMul, Int.reduceNeg, Int.reduceToNat, Int.reduceBEq, Int.reduceBNe, Int.cast_ofNat_Int, List.getElem?_toArray, stp, Try.underlying100, Try.underlying22, Try.underlying23, Try.underlying3, Try.underlying5, Try.underlying50, Try.underlying86, Try.underlying88, ty22, ty100, ty88, ty23, ty3, ty5, ty50, ty86, rs106]); repeat' (first | (with_reducible first | refine gw_seq ?_ | refine gw_block ?_) | ((first | (with_reducible first | refine gw_region ?_ | refine gw_if ?_ | refine gw_skip ?_ | refine gw_exit ?_ | refine gw_ret ?_) | ((with_reducible first | refine gif_b (fun hb => ?_) (fun hb => ?_) | refine want_t (fun hb => ?_) (fun hb => ?_) | refine want_f (fun hb => ?_) (fun hb => ?_)) <;> (try simp only [hb]) <;> (try simp only [hpr] at hb))) <;> try simp only [List.map, gop, ev, lk, aenv, gyield, gBin, gInt, gStrOp, gUn, gPick, gNil, gExtract, gIfc, gConvK, gIndexO, gIndexVO, gMakeV, gMinV, gMaxV, isInt, gMin, gMax, gBlt, gCallV, gInvoke, gNilM, Array.toList_map, vcells, gField, gIndexV, gPart, reduceIte, Nat.reduceAdd, Nat.reduceSub, Nat.reduceMul, Nat.reduceLT, Nat.reduceLeDiff, Nat.reduceEqDiff, Nat.reduceBEq, Int.reduceLT, Int.reduceLE, Int.reduceGT, Int.reduceGE, Int.reduceEq, Int.reduceNe, Int.reduceAdd, Int.reduceSub, Int.reduceMul, Int.reduceNeg, Int.reduceToNat, Int.reduceBEq, Int.reduceBNe, Int.cast_ofNat_Int, List.getElem?_toArray, stp, Try.underlying100, Try.underlying22, Try.underlying23, Try.underlying3, Try.underlying5, Try.underlying50, Try.underlying86, Try.underlying88, ty22, ty100, ty88, ty23, ty3, ty5, ty50, ty86, rs106]))
  rw [Aq.cs_id] at m2
  exact i0.step mr x1 rd1 (St.bytes_suf _ _) m2 f2 r1 (rlb.bx md ⟨rfl, rfl⟩ rfl x1)
theorem c_rdflg {N kb kt kr ka : Nat} {B : List UInt8} {h0 h : GH} {s : Rs} (i : RPI kb kt kr ka B h0 s h) : GTri Try.prog N 104 [.pointer (some ⟨kr, 0, none⟩), .pointer (some ⟨ka, 5, none⟩)] h fun _ h' => RPI kb kt kr ka B h0 ⟨{ s.q with so := s.st.flag.1 }, s.id, s.bt, s.st.flag.2, s.err⟩ h' := by
  have i0 := i
  obtain ⟨krd, a, c, b, d, mr, mt, ⟨ab, cb, mb, rbb, slb⟩, rd, ma, ri, rlb, hs, n1, n2, n3, suf, hl⟩ := i
  obtain ⟨_, _, md, _⟩ := rd.form
  have k4 : ka ≠ krd := ne_cells ma md (by simp [Aq.cs])
  have sl := suf_len suf
  refine gtri Try.func104 rfl gf104 ok104 (by simp [Try.ntmps104]) ?_
  repeat' (first | (with_reducible first | refine gw_seq ?_ | refine gw_block ?_) | ((first | (with_reducible first | refine gw_region ?_ | refine gw_if ?_ | refine gw_skip ?_ | refine gw_exit ?_ | refine gw_ret ?_) | ((with_reducible first | refine gif_b (fun hb => ?_) (fun hb => ?_) | refine want_t (fun hb => ?_) (fun hb => ?_) | refine want_f (fun hb => ?_) (fun hb => ?_)) <;> (try simp only [hb]) <;> (try simp only [hpr] at hb))) <;> try simp only [List.map, gop, ev, lk, aenv, gyield, gBin, gInt, gStrOp, gUn, gPick, gNil, gExtract, gIfc, gConvK, gIndexO, gIndexVO, gMakeV, gMinV, gMaxV, isInt, gMin, gMax, gBlt, gCallV, gInvoke, gNilM, Array.toList_map, vcells, gField, gIndexV, gPart, reduceIte, Nat.reduceAdd, Nat.reduceSub, Nat.reduceMul, Nat.reduceLT, Nat.reduceLeDiff, Nat.reduceEqDiff, Nat.reduceBEq, Int.reduceLT, Int.reduceLE, Int.reduceGT, Int.reduceGE, Int.reduceEq, Int.reduceNe, Int.reduceAdd, Int.reduceSub, Int.reduceMul, Int.reduceNeg, Int.reduceToNat, Int.reduceBEq, Int.reduceBNe, Int.cast_ofNat_Int, List.getElem?_toArray, stp, Try.underlying100, Try.underlying23, Try.underlying4, Try.underlying50, Try.underlying86, Try.underlying88, ty100, ty88, ty23, ty4, ty50, ty86, rs104, gNil, gload1 mr sz50]))
  refine (c_RFlag N h rd (by omega)).mono ?_
  rintro _ h1 ⟨rfl, rd1, x1⟩
  have ma1 := x1 _ _ k4 ma
  (try simp only [List.map, gop, ev, lk, aenv, gyield, gBin, gInt, gStrOp, gUn, gPick, gNil, gExtract, gIfc, gConvK, gIndexO, gIndexVO, gMakeV, gMinV, gMaxV, isInt, gMin, gMax, gBlt, gCallV, gInvoke, gNilM, Array.toList_map, vcells, gField, gIndexV, gPart, reduceIte, Nat.reduceAdd, Nat.reduceSub, Nat.reduceMul, Nat.reduceLT, Nat.reduceLeDiff, Nat.reduceEqDiff, Nat.reduceBEq, Int.reduceLT, Int.reduceLE, Int.reduceGT, Int.reduceGE, Int.reduceEq, Int.reduceNe, Int.reduceAdd, Int.reduceSub, Int.reduceMul, Int.reduceNeg, Int.reduceToNat, Int.reduceBEq, Int.reduceBNe, Int.cast_ofNat_Int, List.getElem?_toArray, stp, Try.underlying100, Try.underlying23, Try.underlying4, Try.underlying50, Try.underlying86, Try.underlying88, ty100, ty88, ty23, ty4, ty50, ty86, rs104, gNil]); repeat' (first | (with_reducible first | refine gw_seq ?_ | refine gw_block ?_) | ((first | (with_reducible first | refine gw_region ?_ | refine gw_if ?_ | refine gw_skip ?_ | refine gw_exit ?_ | refine gw_ret ?_) | ((with_reducible first | refine gif_b (fun hb => ?_) (fun hb => ?_) | refine want_t (fun hb => ?_) (fun hb => ?_) | refine want_f (fun hb => ?_) (fun hb => ?_)) <;> (try simp only [hb]) <;> (try simp only [hpr] at hb))) <;> try simp only [List.map, gop, ev, lk, aenv, gyield, gBin, gInt, gStrOp, gUn, gPick, gNil, gExtract, gIfc, gConvK, gIndexO, gIndexVO, gMakeV, gMinV, gMaxV, isInt, gMin, gMax, gBlt, gCallV, gInvoke, gNilM, Array.toList_map, vcells, gField, gIndexV, gPart, reduceIte, Nat.reduceAdd, Nat.reduceSub, Nat.reduceMul, Nat.reduceLT, Nat.reduceLeDiff, Nat.reduceEqDiff, Nat.reduceBEq, Int.reduceLT, Int.reduceLE, Int.reduceGT, Int.reduceGE, Int.reduceEq, Int.reduceNe, Int.reduceAdd, Int.reduceSub, Int.reduceMul, Int.reduceNeg, Int.reduceToNat, Int.reduceBEq, Int.reduceBNe, Int.cast_ofNat_Int, List.getElem?_toArray, stp, Try.underlying100, Try.underlying23, Try.underlying4, Try.underlying50, Try.underlying86, Try.underlying88, ty100, ty88, ty23, ty4, ty50, ty86, rs104, gNil]))
  refine st_one ma1 sz4 rfl (by rw [Aq.cs_len]; omega) rfl rfl fun h2 m2 f2 => ?_
  (try simp only [List.map, gop, ev, lk, aenv, gyield, gBin, gInt, gStrOp, gUn, gPick, gNil, gExtract, gIfc, gConvK, gIndexO, gIndexVO, gMakeV, gMinV, gMaxV, isInt, gMin, gMax, gBlt, gCallV, gInvoke, gNilM, Array.toList_map, vcells, gField, gIndexV, gPart, reduceIte, Nat.reduceAdd, Nat.reduceSub, Nat.reduceMul, Nat.reduceLT, Nat.reduceLeDiff, Nat.reduceEqDiff, Nat.reduceBEq, Int.reduceLT, Int.reduceLE, Int.reduceGT, Int.reduceGE, Int.reduceEq, Int.reduceNe, Int.reduceAdd, Int.reduceSub, Int.reduceMul, Int.reduceNeg, Int.reduceToNat, Int.reduceBEq, Int.reduceBNe, Int.cast_ofNat_Int, List.getElem?_toArray, stp, Try.underlying100, Try.underlying23, Try.underlying4, Try.underlying50, Try.underlying86, Try.underlying88, ty100, ty88, ty23, ty4, ty50, ty86, rs104]); repeat' (first | (with_reducible first | refine gw_seq ?_ | refine gw_block ?_) | ((first | (with_reducible first | refine gw_region ?_ | refine gw_if ?_ | refine gw_skip ?_ | refine gw_exit ?_ | refine gw_ret ?_) | ((with_reducible first | refine gif_b (fun hb => ?_) (fun hb => ?_) | refine want_t (fun hb => ?_) (fun hb => ?_) | refine want_f (fun hb => ?_) (fun hb => ?_)) <;> (try simp only [hb]) <;> (try simp only [hpr] at hb))) <;> try simp only [List.map, gop, ev, lk, aenv, gyield, gBin, gInt, gStrOp, gUn, gPick, gNil, gExtract, gIfc, gConvK, gIndexO, gIndexVO, gMakeV, gMinV, gMaxV, isInt, gMin, gMax, gBlt, gCallV, gInvoke, gNilM, Array.toList_map, vcells, gField, gIndexV, gPart, reduceIte, Nat.reduceAdd, Nat.reduceSub, Nat.reduceMul, Nat.reduceLT, Nat.reduceLeDiff, Nat.reduceEqDiff, Nat.reduceBEq, Int.reduceLT, Int.reduceLE, Int.reduceGT, Int.reduceGE, Int.reduceEq, Int.reduceNe, Int.reduceAdd, Int.reduceSub, Int.reduceMul, Int.reduceNeg, Int.reduceToNat, Int.reduceBEq, Int.reduceBNe, Int.cast_ofNat_Int, List.getElem?_toArray, stp, Try.underlying100, Try.underlying23, Try.underlying4, Try.underlying50, Try.underlying86, Try.underlying88, ty100, ty88, ty23, ty4, ty50, ty86, rs104]))
  rw [Aq.cs_so] at m2
  exact i0.step mr x1 rd1 (St.flag_suf _) m2 f2 (ri.hx md rfl x1) (rlb.bx md ⟨rfl, rfl⟩ rfl x1)
theorem c_rest {N kb kt kr ka : Nat} {B : List UInt8} {h0 h : GH} {s : Rs} (i : RPI kb kt kr ka B h0 s h) : GTri Try.prog N 50 [.pointer (some ⟨kb, 0, none⟩), .pointer (some ⟨kt, 0, none⟩)] h fun v h' => h' = h ∧ ∃ a c, v = .slice a s.st.b.length c ∧ RB h (.slice a s.st.b.length c) s.st.b ∧ SL h (.slice a s.st.b.length c) := by
  obtain ⟨krd, a, c, b, d, mr, mt, ⟨ab, cb, mb, rbb, slb⟩, rd, ma, ri, rlb, hs, n1, n2, n3, suf, hl⟩ := i
  have sl := suf_len suf
  have wsub : IntKind.i64.wrap ((B.length : Int) - ((s.st.b.length : Nat) : Int)) = ((B.length - s.st.b.length : Nat) : Int) := wrap_sub (by omega) (by omega)
  obtain ⟨a6, c6, q6, r6, sl6⟩ := rbb.behind slb Try.underlying22 sz29 (lo := B.length - s.st.b.length) (by omega) .i64
  rw [suf_drop suf] at q6 r6 sl6
  refine gtri Try.func50 rfl gf50 ok50 (by simp [Try.ntmps50]) ?_
  repeat' (first | (with_reducible first | refine gw_seq ?_ | refine gw_block ?_) | ((first | (with_reducible first | refine gw_region ?_ | refine gw_if ?_ | refine gw_skip ?_ | refine gw_exit ?_ | refine gw_ret ?_) | ((with_reducible first | refine gif_b (fun hb => ?_) (fun hb => ?_) | refine want_t (fun hb => ?_) (fun hb => ?_) | refine want_f (fun hb => ?_) (fun hb => ?_) | refine dr_t (fun hb => ?_) (fun hb => ?_) | refine dr_f (fun hb => ?_) (fun hb => ?_)) <;> (try simp only [hb]) <;> (try simp only [hpr] at hb)) | with_reducible refine gw_draw (id := 1) [(0, []), (1, []), (2, []), (3, []), (4, []), (5, []), (6, []), (7, [0, 1]), (8, []), (9, []), (10, [])] [0, 0, 2, 0, 8, 24, 56, 120, 254, 511, 1023] mixed (by kernel_rfl) ?_ | ((refine GTri.mono (c_Left _ _ rd) ?_); rintro _ _ ⟨rfl, hh9⟩; replace hh9 := hh9.symm; subst hh9)) <;> try simp only [List.map, gop, ev, lk, aenv, gyield, gBin, gInt, gStrOp, gUn, gPick, gNil, gExtract, gIfc, gConvK, gIndexO, gIndexVO, gMakeV, gMinV, gMaxV, isInt, gMin, gMax, gBlt, gCallV, gInvoke, gNilM, Array.toList_map, vcells, gField, gIndexV, gPart, reduceIte, Nat.reduceAdd, Nat.reduceSub, Nat.reduceMul, Nat.reduceLT, Nat.reduceLeDiff, Nat.reduceEqDiff, Nat.reduceBEq, Int.reduceLT, Int.reduceLE, Int.reduceGT, Int.reduceGE, Int.reduceEq, Int.reduceNe, Int.reduceAdd, Int.reduceSub, Int.reduceMul, Int.reduceNeg, Int.reduceToNat, Int.reduceBEq, Int.reduceBNe, Int.cast_ofNat_Int, List.getElem?_toArray, stp, rvOf, wlk, rdv, isEff, dsOf, sgl, stq, Try.underlying100, Try.underlying22, Try.underlying23, Try.underlying3, Try.underlying5, Try.underlying50, Try.underlying85, Try.underlying86, Try.underlying88, ty22, ty100, ty88, ty23, ty3, ty5, ty50, ty85, ty86, rs50, gNil, gload1 mr sz50, gload1 mt sz85, gload1 mb sz22, wsub, q6]))
  exact ⟨a6, c6, rfl, r6, sl6⟩
end Go.Gh

