/- Parts of this claim's proof, 7. No statement of the claim stands here. -/
import Derived.Test.YtlobmpkfdnifpaaP6
/- The reference's reader: numbers, texts, yes or no, the end. -/

namespace Go.Gh
open Go Go.Proofs Go.RowKit
set_option linter.unusedVariables false
set_option linter.unusedSimpArgs false
set_option maxRecDepth 100000

theorem St.ok_ok (s : St) (a b : Bool) {e : Int} (he : e ≠ 0) : (s.ok a e).ok b e = s.ok (a && b) e := by
  cases a
  · simp only [St.ok_f, Bool.false_and]
    cases b
    · simp only [St.ok_f, St.fail]
      split
      · simp [he]
      · simp [*]
    · rfl
  · simp only [St.ok_t, Bool.true_and]
theorem St.ok_no {s : St} (h : ¬ s.e = 0) (b : Bool) (e : Int) : s.ok b e = s := by
  cases b
  · simp only [St.ok_f, St.fail, if_neg h]
  · rfl
theorem add_byte {n : Nat} {x : UInt8} (h : n < 72057594037927936) : IntKind.u64.wrap (IntKind.u64.wrap ((n : Int) * 2 ^ min 8 IntKind.u64.bits) + (x.toNat : Int)) = ((n * 256 + x.toNat : Nat) : Int) := by
  have hx := x.toNat_lt
  have e : IntKind.u64.wrap ((n : Int) * 2 ^ min 8 IntKind.u64.bits) = ((n * 256 : Nat) : Int) := by
    have : ((n : Int) * 2 ^ min 8 IntKind.u64.bits) = ((n * 256 : Nat) : Int) := by rw [Int.natCast_mul]; rfl
    rw [this]
    exact wrapu64 (by omega) (by omega)
  rw [e, wrapu64 (by omega) (by omega)]
  omega
theorem c_rRUint (N : Nat) (h : GH) {k : Nat} {s : St} (r : RF h k s) (most : Int) (hb : s.b.length ≤ 140737488355328) : GTri Try.prog N 32 [.pointer (some ⟨k, 0, none⟩), .int .i64 most] h fun v h' => v = .int .i64 (s.uint most).1 ∧ RF h' k (s.uint most).2 ∧ HX k h h' := by
  refine gtri Try.func32 rfl gf32 ok32 (by simp [Try.ntmps32]) ?_
  repeat' (first | (with_reducible first | refine gw_seq ?_ | refine gw_block ?_) | ((first | (with_reducible first | refine gw_region ?_ | refine gw_if ?_ | refine gw_skip ?_ | refine gw_exit ?_ | refine gw_ret ?_) | ((with_reducible first | refine gif_b (fun hb => ?_) (fun hb => ?_) | refine want_t (fun hb => ?_) (fun hb => ?_) | refine want_f (fun hb => ?_) (fun hb => ?_)) <;> (try simp only [hb]) <;> (try simp only [hpr] at hb))) <;> try simp only [List.map, gop, ev, lk, aenv, gyield, gBin, gInt, gStrOp, gUn, gPick, gNil, gExtract, gIfc, gConvK, gIndexO, gIndexVO, gMakeV, gMinV, gMaxV, isInt, gMin, gMax, gBlt, gCallV, gInvoke, gNilM, Array.toList_map, vcells, gField, gIndexV, gPart, reduceIte, Nat.reduceAdd, Nat.reduceSub, Nat.reduceMul, Nat.reduceLT, Nat.reduceLeDiff, Nat.reduceEqDiff, Nat.reduceBEq, Int.reduceLT, Int.reduceLE, Int.reduceGT, Int.reduceGE, Int.reduceEq, Int.reduceNe, Int.reduceAdd, Int.reduceSub, Int.reduceMul, Int.reduceNeg, Int.reduceToNat, Int.reduceBEq, Int.reduceBNe, Int.cast_ofNat_Int, List.getElem?_toArray, stp, Try.underlying104, Try.underlying22, Try.underlying23, Try.underlying3, Try.underlying5, Try.underlying58, Try.underlying60, cv104_3, cv5_104, cv5_3, ty22, ty60, ty104, ty23, ty3, ty5, ty58, rs32]))
  refine (c_rTake N h r 1 hb).mono ?_
  rintro _ h1 ⟨r1, x1, a1, c1, rfl, q1⟩
  have tl1 := s.take_len 1
  by_cases he : (s.take 1).2.e = 0
  case neg =>
    have hn := St.take_no he
    have de : (((s.take 1).1.length : Int) == 0) = true := by rw [hn]; rfl
    refine mk_of ?_; repeat' (first | (with_reducible first | refine gw_seq ?_ | refine gw_block ?_) | ((first | (with_reducible refine mk_to ?_) | (with_reducible first | refine gw_region ?_ | refine gw_if ?_ | refine gw_skip ?_ | refine gw_exit ?_ | refine gw_ret ?_) | ((with_reducible first | refine gif_b (fun hb => ?_) (fun hb => ?_) | refine want_t (fun hb => ?_) (fun hb => ?_) | refine want_f (fun hb => ?_) (fun hb => ?_)) <;> (try simp only [hb]) <;> (try simp only [hpr] at hb))) <;> try simp only [List.map, gop, ev, lk, aenv, gyield, gBin, gInt, gStrOp, gUn, gPick, gNil, gExtract, gIfc, gConvK, gIndexO, gIndexVO, gMakeV, gMinV, gMaxV, isInt, gMin, gMax, gBlt, gCallV, gInvoke, gNilM, Array.toList_map, vcells, gField, gIndexV, gPart, reduceIte, Nat.reduceAdd, Nat.reduceSub, Nat.reduceMul, Nat.reduceLT, Nat.reduceLeDiff, Nat.reduceEqDiff, Nat.reduceBEq, Int.reduceLT, Int.reduceLE, Int.reduceGT, Int.reduceGE, Int.reduceEq, Int.reduceNe, Int.reduceAdd, Int.reduceSub, Int.reduceMul, Int.reduceNeg, Int.reduceToNat, Int.reduceBEq, Int.reduceBNe, Int.cast_ofNat_Int, List.getElem?_toArray, stp, Try.underlying104, Try.underlying22, Try.underlying23, Try.underlying3, Try.underlying5, Try.underlying58, Try.underlying60, cv104_3, cv5_104, cv5_3, ty22, ty60, ty104, ty23, ty3, ty5, ty58, rs32, de]))
    unfold St.uint
    rw [if_neg he]
    exact ⟨rfl, r1, x1⟩
  obtain ⟨y, hy⟩ := St.take_one he
  have un : s.uint most = (s.take 1).2.wid y most := by unfold St.uint; rw [if_pos he, hy]; rfl
  rw [un]
  rw [hy] at q1
  replace q1 : RB h1 (.slice a1 1 c1) [y] := q1
  simp only [hy]
  generalize (s.take 1).2 = s1 at *
  have hy1 := y.toNat_lt
  obtain ⟨p, i1, l1⟩ := q1.idx Try.underlying22 sz5 (i := 0) (by omega) (by simp)
  simp only [Int.toNat_zero, List.getD_cons_zero] at l1
  have wy : IntKind.i64.wrap (y.toNat : Int) = y.toNat := wrap64 (by omega) (by omega)
  have my : Int.tmod (y.toNat : Int) 9 = ((y.toNat % 9 : Nat) : Int) := tmod_nat y.toNat 9
  -- from there on
  have wid : s1.wid y most = ((s1.ok (decide (y.toNat ≤ 8)) 5).take (y.toNat % 9)).2.num ((s1.ok (decide (y.toNat ≤ 8)) 5).take (y.toNat % 9)).1 most := by
    unfold St.wid
    by_cases hle : y.toNat ≤ 8
    · rw [decide_eq_true hle, St.ok_t, if_pos he, Nat.mod_eq_of_lt (by omega)]
    · rw [decide_eq_false hle]
      have e2 : ¬ (s1.ok false 5).e = 0 := by simp only [St.ok_f, St.fail]; split <;> simp_all
      rw [if_neg e2]
      have e3 : (s1.ok false 5).take (y.toNat % 9) = ([], s1.ok false 5) := by
        unfold St.take; rw [St.ok_no e2, if_neg e2]
      rw [e3]
      unfold St.num
      rw [St.ok_no e2, if_neg e2]
  rw [wid]
  clear wid un
  have okl := St.ok_len s1 (decide (y.toNat ≤ 8)) 5
  have hm9 : y.toNat % 9 ≤ 8 := by omega
  have hle : y.toNat ≤ 8 ∨ ¬ y.toNat ≤ 8 := by omega
  rcases hle with hle | hle
  have d9 : decide ((y.toNat : Int) > 8) = false := decide_eq_false (by omega)
  have r2 : RF h1 k (s1.ok (decide (y.toNat ≤ 8)) 5) := by rw [decide_eq_true hle, St.ok_t]; exact r1
  generalize s1.ok (decide (y.toNat ≤ 8)) 5 = s2 at *
  refine mk_of ?_; repeat' (first | (with_reducible first | refine gw_seq ?_ | refine gw_block ?_) | ((first | (with_reducible refine mk_to ?_) | (with_reducible first | refine gw_region ?_ | refine gw_if ?_ | refine gw_skip ?_ | refine gw_exit ?_ | refine gw_ret ?_) | ((with_reducible first | refine gif_b (fun hb => ?_) (fun hb => ?_) | refine want_t (fun hb => ?_) (fun hb => ?_) | refine want_f (fun hb => ?_) (fun hb => ?_)) <;> (try simp only [hb]) <;> (try simp only [hpr] at hb))) <;> try simp only [List.map, gop, ev, lk, aenv, gyield, gBin, gInt, gStrOp, gUn, gPick, gNil, gExtract, gIfc, gConvK, gIndexO, gIndexVO, gMakeV, gMinV, gMaxV, isInt, gMin, gMax, gBlt, gCallV, gInvoke, gNilM, Array.toList_map, vcells, gField, gIndexV, gPart, reduceIte, Nat.reduceAdd, Nat.reduceSub, Nat.reduceMul, Nat.reduceLT, Nat.reduceLeDiff, Nat.reduceEqDiff, Nat.reduceBEq, Int.reduceLT, Int.reduceLE, Int.reduceGT, Int.reduceGE, Int.reduceEq, Int.reduceNe, Int.reduceAdd, Int.reduceSub, Int.reduceMul, Int.reduceNeg, Int.reduceToNat, Int.reduceBEq, Int.reduceBNe, Int.cast_ofNat_Int, List.getElem?_toArray, stp, Try.underlying104, Try.underlying22, Try.underlying23, Try.underlying3, Try.underlying5, Try.underlying58, Try.underlying60, cv104_3, cv5_104, cv5_3, ty22, ty60, ty104, ty23, ty3, ty5, ty58, rs32, show (((1 : Nat) : Int) == 0) = false from rfl, i1, l1, bv, d9, wy, my]))
  have q2 := q1
  clear r1
  rotate_left
  have d9 : decide ((y.toNat : Int) > 8) = true := decide_eq_true (by omega)
  refine mk_of ?_; repeat' (first | (with_reducible first | refine gw_seq ?_ | refine gw_block ?_) | ((first | (with_reducible refine mk_to ?_) | (with_reducible first | refine gw_region ?_ | refine gw_if ?_ | refine gw_skip ?_ | refine gw_exit ?_ | refine gw_ret ?_) | ((with_reducible first | refine gif_b (fun hb => ?_) (fun hb => ?_) | refine want_t (fun hb => ?_) (fun hb => ?_) | refine want_f (fun hb => ?_) (fun hb => ?_)) <;> (try simp only [hb]) <;> (try simp only [hpr] at hb))) <;> try simp only [List.map, gop, ev, lk, aenv, gyield, gBin, gInt, gStrOp, gUn, gPick, gNil, gExtract, gIfc, gConvK, gIndexO, gIndexVO, gMakeV, gMinV, gMaxV, isInt, gMin, gMax, gBlt, gCallV, gInvoke, gNilM, Array.toList_map, vcells, gField, gIndexV, gPart, reduceIte, Nat.reduceAdd, Nat.reduceSub, Nat.reduceMul, Nat.reduceLT, Nat.reduceLeDiff, Nat.reduceEqDiff, Nat.reduceBEq, Int.reduceLT, Int.reduceLE, Int.reduceGT, Int.reduceGE, Int.reduceEq, Int.reduceNe, Int.reduceAdd, Int.reduceSub, Int.reduceMul, Int.reduceNeg, Int.reduceToNat, Int.reduceBEq, Int.reduceBNe, Int.cast_ofNat_Int, List.getElem?_toArray, stp, Try.underlying104, Try.underlying22, Try.underlying23, Try.underlying3, Try.underlying5, Try.underlying58, Try.underlying60, cv104_3, cv5_104, cv5_3, ty22, ty60, ty104, ty23, ty3, ty5, ty58, rs32, show (((1 : Nat) : Int) == 0) = false from rfl, i1, l1, bv, d9, wy, my]))
  refine (c_rFail N h1 r1 5).mono ?_
  rintro _ h2 ⟨r2, x2⟩
  have q2 := q1.rf r1 x2
  replace x1 := x1.trans x2
  have r2 : RF h2 k (s1.ok (decide (y.toNat ≤ 8)) 5) := by rw [decide_eq_false hle, St.ok_f]; exact r2
  clear r1 x2
  generalize s1.ok (decide (y.toNat ≤ 8)) 5 = s2 at *
  obtain ⟨p2, i2, l2⟩ := q2.idx Try.underlying22 sz5 (i := 0) (by omega) (by simp)
  simp only [Int.toNat_zero, List.getD_cons_zero] at l2
  refine mk_of ?_; repeat' (first | (with_reducible first | refine gw_seq ?_ | refine gw_block ?_) | ((first | (with_reducible refine mk_to ?_) | (with_reducible first | refine gw_region ?_ | refine gw_if ?_ | refine gw_skip ?_ | refine gw_exit ?_ | refine gw_ret ?_) | ((with_reducible first | refine gif_b (fun hb => ?_) (fun hb => ?_) | refine want_t (fun hb => ?_) (fun hb => ?_) | refine want_f (fun hb => ?_) (fun hb => ?_)) <;> (try simp only [hb]) <;> (try simp only [hpr] at hb))) <;> try simp only [List.map, gop, ev, lk, aenv, gyield, gBin, gInt, gStrOp, gUn, gPick, gNil, gExtract, gIfc, gConvK, gIndexO, gIndexVO, gMakeV, gMinV, gMaxV, isInt, gMin, gMax, gBlt, gCallV, gInvoke, gNilM, Array.toList_map, vcells, gField, gIndexV, gPart, reduceIte, Nat.reduceAdd, Nat.reduceSub, Nat.reduceMul, Nat.reduceLT, Nat.reduceLeDiff, Nat.reduceEqDiff, Nat.reduceBEq, Int.reduceLT, Int.reduceLE, Int.reduceGT, Int.reduceGE, Int.reduceEq, Int.reduceNe, Int.reduceAdd, Int.reduceSub, Int.reduceMul, Int.reduceNeg, Int.reduceToNat, Int.reduceBEq, Int.reduceBNe, Int.cast_ofNat_Int, List.getElem?_toArray, stp, Try.underlying104, Try.underlying22, Try.underlying23, Try.underlying3, Try.underlying5, Try.underlying58, Try.underlying60, cv104_3, cv5_104, cv5_3, ty22, ty60, ty104, ty23, ty3, ty5, ty58, rs32, i2, l2, bv, wy, my]))
  rotate_left
  all_goals
    refine (c_rTake N _ r2 (y.toNat % 9) (by omega)).mono ?_
    rintro _ h3 ⟨r3, x3, a3, c3, rfl, q3⟩
    have tl2 := s2.take_len (y.toNat % 9)
    generalize (s2.take (y.toNat % 9)).2 = s3 at *
    generalize (s2.take (y.toNat % 9)).1 = l at *
    replace x3 := x1.trans x3
    have hl8 : l.length ≤ 8 := by omega
    clear d9
    refine mk_of ?_; repeat' (first | (with_reducible first | refine gw_seq ?_ | refine gw_block ?_) | ((first | (with_reducible refine mk_to ?_) | (with_reducible first | refine gw_region ?_ | refine gw_if ?_ | refine gw_skip ?_ | refine gw_exit ?_ | refine gw_ret ?_) | ((with_reducible first | refine gif_b (fun hb => ?_) (fun hb => ?_) | refine want_t (fun hb => ?_) (fun hb => ?_) | refine want_f (fun hb => ?_) (fun hb => ?_)) <;> (try simp only [hb]) <;> (try simp only [hpr] at hb))) <;> try simp only [List.map, gop, ev, lk, aenv, gyield, gBin, gInt, gStrOp, gUn, gPick, gNil, gExtract, gIfc, gConvK, gIndexO, gIndexVO, gMakeV, gMinV, gMaxV, isInt, gMin, gMax, gBlt, gCallV, gInvoke, gNilM, Array.toList_map, vcells, gField, gIndexV, gPart, reduceIte, Nat.reduceAdd, Nat.reduceSub, Nat.reduceMul, Nat.reduceLT, Nat.reduceLeDiff, Nat.reduceEqDiff, Nat.reduceBEq, Int.reduceLT, Int.reduceLE, Int.reduceGT, Int.reduceGE, Int.reduceEq, Int.reduceNe, Int.reduceAdd, Int.reduceSub, Int.reduceMul, Int.reduceNeg, Int.reduceToNat, Int.reduceBEq, Int.reduceBNe, Int.cast_ofNat_Int, List.getElem?_toArray, stp, Try.underlying104, Try.underlying22, Try.underlying23, Try.underlying3, Try.underlying5, Try.underlying58, Try.underlying60, cv104_3, cv5_104, cv5_3, ty22, ty60, ty104, ty23, ty3, ty5, ty58, rs32]))
    refine gw_loop2 [0, 1, 4, 28, 29] (fun (i : Nat) => [(7, .int .u64 ((uval (l.take i) : Nat) : Int)), (30, .int .i64 (i : Int))])
      (fun q i h' => l.length - i = q ∧ i ≤ l.length ∧ RF h' k (s3.ok (i == 0 || decide (l[0]? ≠ some 0)) 5) ∧ RB h' (.slice a3 l.length c3) l ∧ HX k h h') l.length 0 (by simp [lk, uval]) ⟨rfl, by omega, by simpa [St.ok_t] using r3, q3, x3⟩ ?_
    rintro _ i h4 ⟨rfl, hi, r4, q4, x4⟩
    by_cases hil : i < l.length
    · have d3 : decide ((i : Int) < (l.length : Int)) = true := decide_eq_true (by omega)
      obtain ⟨p4, i4, l4⟩ := q4.idx Try.underlying22 sz5 (i := (i : Int)) (by omega) (by omega)
      rw [Int.toNat_natCast] at l4
      have ov := uval_small (l := l.take i) (n := 7) (by simp; omega)
      have wb : IntKind.u64.wrap ((l.getD i 0).toNat : Int) = (l.getD i 0).toNat := wrapu64 (by omega) (by have := (l.getD i 0).toNat_lt; omega)
      have ob := add_byte (n := uval (l.take i)) (x := l.getD i 0) (by simpa using ov)
      have wi : IntKind.i64.wrap ((i : Int) + 1) = ((i + 1 : Nat) : Int) := by rw [wrap64 (by omega) (by omega)]; omega
      have us : uval (l.take i) * 256 + (l.getD i 0).toNat = uval (l.take (i + 1)) := by
        rw [List.take_add_one, List.getElem?_eq_getElem hil, Option.toList_some, uval_snoc, List.getD, List.getElem?_eq_getElem hil, Option.getD_some]
      rw [us] at ob
      by_cases hz : i = 0 ∧ l[0]? = some 0
      · obtain ⟨h0, hz⟩ := hz
        have g0 : l.getD i 0 = 0 := by rw [h0, List.getD, hz]; rfl
        have gz : (((0 : UInt8).toNat : Int) == 0) = true := rfl
        have gi : ((i : Int) == 0) = true := by rw [h0]; rfl
        rw [g0] at l4 ob wb
        refine mk_of ?_; repeat' (first | (with_reducible first | refine gw_seq ?_ | refine gw_block ?_) | ((first | (with_reducible refine mk_to ?_) | (with_reducible first | refine gw_region ?_ | refine gw_if ?_ | refine gw_skip ?_ | refine gw_exit ?_ | refine gw_ret ?_) | ((with_reducible first | refine gif_b (fun hb => ?_) (fun hb => ?_) | refine want_t (fun hb => ?_) (fun hb => ?_) | refine want_f (fun hb => ?_) (fun hb => ?_)) <;> (try simp only [hb]) <;> (try simp only [hpr] at hb))) <;> try simp only [List.map, gop, ev, lk, aenv, gyield, gBin, gInt, gStrOp, gUn, gPick, gNil, gExtract, gIfc, gConvK, gIndexO, gIndexVO, gMakeV, gMinV, gMaxV, isInt, gMin, gMax, gBlt, gCallV, gInvoke, gNilM, Array.toList_map, vcells, gField, gIndexV, gPart, reduceIte, Nat.reduceAdd, Nat.reduceSub, Nat.reduceMul, Nat.reduceLT, Nat.reduceLeDiff, Nat.reduceEqDiff, Nat.reduceBEq, Int.reduceLT, Int.reduceLE, Int.reduceGT, Int.reduceGE, Int.reduceEq, Int.reduceNe, Int.reduceAdd, Int.reduceSub, Int.reduceMul, Int.reduceNeg, Int.reduceToNat, Int.reduceBEq, Int.reduceBNe, Int.cast_ofNat_Int, List.getElem?_toArray, stp, Try.underlying104, Try.underlying22, Try.underlying23, Try.underlying3, Try.underlying5, Try.underlying58, Try.underlying60, cv104_3, cv5_104, cv5_3, ty22, ty60, ty104, ty23, ty3, ty5, ty58, rs32, d3, i4, l4, bv, gi, gz]))
        have e3 : s3.ok (i == 0 || decide (l[0]? ≠ some 0)) 5 = s3 := by rw [h0]; rfl
        rw [e3] at r4
        refine (c_rFail N h4 r4 5).mono ?_
        rintro _ h5 ⟨r5, x5⟩
        refine mk_of ?_; repeat' (first | (with_reducible first | refine gw_seq ?_ | refine gw_block ?_) | ((first | (with_reducible refine mk_to ?_) | (with_reducible first | refine gw_region ?_ | refine gw_if ?_ | refine gw_skip ?_ | refine gw_exit ?_ | refine gw_ret ?_) | ((with_reducible first | refine gif_b (fun hb => ?_) (fun hb => ?_) | refine want_t (fun hb => ?_) (fun hb => ?_) | refine want_f (fun hb => ?_) (fun hb => ?_)) <;> (try simp only [hb]) <;> (try simp only [hpr] at hb))) <;> try simp only [List.map, gop, ev, lk, aenv, gyield, gBin, gInt, gStrOp, gUn, gPick, gNil, gExtract, gIfc, gConvK, gIndexO, gIndexVO, gMakeV, gMinV, gMaxV, isInt, gMin, gMax, gBlt, gCallV, gInvoke, gNilM, Array.toList_map, vcells, gField, gIndexV, gPart, reduceIte, Nat.reduceAdd, Nat.reduceSub, Nat.reduceMul, Nat.reduceLT, Nat.reduceLeDiff, Nat.reduceEqDiff, Nat.reduceBEq, Int.reduceLT, Int.reduceLE, Int.reduceGT, Int.reduceGE, Int.reduceEq, Int.reduceNe, Int.reduceAdd, Int.reduceSub, Int.reduceMul, Int.reduceNeg, Int.reduceToNat, Int.reduceBEq, Int.reduceBNe, Int.cast_ofNat_Int, List.getElem?_toArray, stp, Try.underlying104, Try.underlying22, Try.underlying23, Try.underlying3, Try.underlying5, Try.underlying58, Try.underlying60, cv104_3, cv5_104, cv5_3, ty22, ty60, ty104, ty23, ty3, ty5, ty58, rs32, wb, ob, wi]))
        refine ⟨_, i + 1, ?_, (by simp only [List.forall_mem_cons, List.not_mem_nil, false_implies, implies_true, List.map, List.cons_append, List.nil_append, lk, Nat.reduceEqDiff, reduceIte, and_true, true_and]), rfl, by omega, ?_, q4.rf r4 x5, x4.trans x5⟩
        · omega
        · rw [show ((i + 1 : Nat) == 0 || decide (l[0]? ≠ some 0)) = false by simp [hz], St.ok_f]; exact r5
      · have e3 : s3.ok (i == 0 || decide (l[0]? ≠ some 0)) 5 = s3.ok (i + 1 == 0 || decide (l[0]? ≠ some 0)) 5 := by
          have h2 : (i + 1 == 0) = false := by simp
          by_cases h0 : i = 0
          · have : ¬ l[0]? = some 0 := fun e => hz ⟨h0, e⟩
            simp [this]
          · have h1 : (i == 0) = false := by simpa using h0
            rw [h1, h2]
        rw [e3] at r4
        by_cases h0 : i = 0
        · have gi : ((i : Int) == 0) = true := by rw [h0]; rfl
          have gz : (((l.getD i 0).toNat : Int) == 0) = false := by
            have : ¬ l[0]? = some 0 := fun e => hz ⟨h0, e⟩
            simp only [beq_eq_false_iff_ne, ne_eq]
            intro e
            apply this
            have e2 : (l.getD i 0) = 0 := UInt8.toNat_inj.1 (by simpa using e)
            rw [h0] at e2 hil
            rw [List.getElem?_eq_getElem hil]
            rw [List.getD, List.getElem?_eq_getElem hil, Option.getD_some] at e2
            rw [e2]
          refine mk_of ?_; repeat' (first | (with_reducible first | refine gw_seq ?_ | refine gw_block ?_) | ((first | (with_reducible refine mk_to ?_) | (with_reducible first | refine gw_region ?_ | refine gw_if ?_ | refine gw_skip ?_ | refine gw_exit ?_ | refine gw_ret ?_) | ((with_reducible first | refine gif_b (fun hb => ?_) (fun hb => ?_) | refine want_t (fun hb => ?_) (fun hb => ?_) | refine want_f (fun hb => ?_) (fun hb => ?_)) <;> (try simp only [hb]) <;> (try simp only [hpr] at hb))) <;> try simp only [List.map, gop, ev, lk, aenv, gyield, gBin, gInt, gStrOp, gUn, gPick, gNil, gExtract, gIfc, gConvK, gIndexO, gIndexVO, gMakeV, gMinV, gMaxV, isInt, gMin, gMax, gBlt, gCallV, gInvoke, gNilM, Array.toList_map, vcells, gField, gIndexV, gPart, reduceIte, Nat.reduceAdd, Nat.reduceSub, Nat.reduceMul, Nat.reduceLT, Nat.reduceLeDiff, Nat.reduceEqDiff, Nat.reduceBEq, Int.reduceLT, Int.reduceLE, Int.reduceGT, Int.reduceGE, Int.reduceEq, Int.reduceNe, Int.reduceAdd, Int.reduceSub, Int.reduceMul, Int.reduceNeg, Int.reduceToNat, Int.reduceBEq, Int.reduceBNe, Int.cast_ofNat_Int, List.getElem?_toArray, stp, Try.underlying104, Try.underlying22, Try.underlying23, Try.underlying3, Try.underlying5, Try.underlying58, Try.underlying60, cv104_3, cv5_104, cv5_3, ty22, ty60, ty104, ty23, ty3, ty5, ty58, rs32, d3, i4, l4, bv, gi, gz, wb, ob, wi]))
          refine ⟨_, i + 1, ?_, (by simp only [List.forall_mem_cons, List.not_mem_nil, false_implies, implies_true, List.map, List.cons_append, List.nil_append, lk, Nat.reduceEqDiff, reduceIte, and_true, true_and]), rfl, by omega, r4, q4, x4⟩
          omega
        · have gi : ((i : Int) == 0) = false := by simp; omega
          refine mk_of ?_; repeat' (first | (with_reducible first | refine gw_seq ?_ | refine gw_block ?_) | ((first | (with_reducible refine mk_to ?_) | (with_reducible first | refine gw_region ?_ | refine gw_if ?_ | refine gw_skip ?_ | refine gw_exit ?_ | refine gw_ret ?_) | ((with_reducible first | refine gif_b (fun hb => ?_) (fun hb => ?_) | refine want_t (fun hb => ?_) (fun hb => ?_) | refine want_f (fun hb => ?_) (fun hb => ?_)) <;> (try simp only [hb]) <;> (try simp only [hpr] at hb))) <;> try simp only [List.map, gop, ev, lk, aenv, gyield, gBin, gInt, gStrOp, gUn, gPick, gNil, gExtract, gIfc, gConvK, gIndexO, gIndexVO, gMakeV, gMinV, gMaxV, isInt, gMin, gMax, gBlt, gCallV, gInvoke, gNilM, Array.toList_map, vcells, gField, gIndexV, gPart, reduceIte, Nat.reduceAdd, Nat.reduceSub, Nat.reduceMul, Nat.reduceLT, Nat.reduceLeDiff, Nat.reduceEqDiff, Nat.reduceBEq, Int.reduceLT, Int.reduceLE, Int.reduceGT, Int.reduceGE, Int.reduceEq, Int.reduceNe, Int.reduceAdd, Int.reduceSub, Int.reduceMul, Int.reduceNeg, Int.reduceToNat, Int.reduceBEq, Int.reduceBNe, Int.cast_ofNat_Int, List.getElem?_toArray, stp, Try.underlying104, Try.underlying22, Try.underlying23, Try.underlying3, Try.underlying5, Try.underlying58, Try.underlying60, cv104_3, cv5_104, cv5_3, ty22, ty60, ty104, ty23, ty3, ty5, ty58, rs32, d3, i4, l4, bv, gi, wb, ob, wi]))
          refine ⟨_, i + 1, ?_, (by simp only [List.forall_mem_cons, List.not_mem_nil, false_implies, implies_true, List.map, List.cons_append, List.nil_append, lk, Nat.reduceEqDiff, reduceIte, and_true, true_and]), rfl, by omega, r4, q4, x4⟩
          omega
    · have d3 : decide ((i : Int) < (l.length : Int)) = false := decide_eq_false (by omega)
      obtain rfl : i = l.length := by omega
      rw [List.take_length]
      have e3 : s3.ok (l.length == 0 || decide (l[0]? ≠ some 0)) 5 = s3.ok (decide (l[0]? ≠ some 0)) 5 := by
        by_cases h0 : l = []
        · subst h0; rfl
        · have : l.length ≠ 0 := fun e => h0 (List.eq_nil_of_length_eq_zero e)
          have h1 : (l.length == 0) = false := by simpa using this
          rw [h1, Bool.false_or]
      rw [e3] at r4
      have gd : goodU l = (decide (l[0]? ≠ some 0) && decide (uval l ≤ 4611686018427387904)) := rfl
      have uv := uval_small (l := l) (n := 8) hl8
      simp only [Nat.reducePow] at uv
      have fin : ∀ (c : Bool), (goodU l = true → c = decide ((uval l : Int) ≤ most)) → s3.num l most = (if ((s3.ok (goodU l) 5).ok c 4).e = 0 then (uval l : Int) else 0, (s3.ok (goodU l) 5).ok c 4) := by
        intro c hc
        unfold St.num
        by_cases ht : (s3.ok (goodU l) 5).e = 0
        · obtain ⟨g4, _⟩ := St.ok_0 (by decide) ht
          rw [if_pos ht, g4, St.ok_t, hc g4]
          split
          · rename_i h5
            obtain ⟨g6, _⟩ := St.ok_0 (by decide) h5
            rw [g6]; rfl
          · rfl
        · rw [if_neg ht, St.ok_no ht, if_neg ht]
      have wg : goodU l = true → IntKind.i64.wrap (uval l : Int) = uval l := fun g => by
        rw [gd, Bool.and_eq_true, decide_eq_true_eq, decide_eq_true_eq] at g
        exact wrap64 (by omega) (by omega)
      obtain ⟨c, hc⟩ : ∃ c, decide (IntKind.i64.wrap (uval l : Int) > most) = c := ⟨_, rfl⟩
      by_cases hC : uval l ≤ 4611686018427387904
      · have dC : decide ((uval l : Int) > 4611686018427387904) = false := decide_eq_false (by omega)
        have r5 : RF h4 k (s3.ok (goodU l) 5) := by rw [gd, decide_eq_true hC, Bool.and_true]; exact r4
        cases c
        · have r6 : RF h4 k ((s3.ok (goodU l) 5).ok true 4) := r5
          refine mk_of ?_; repeat' (first | (with_reducible first | refine gw_seq ?_ | refine gw_block ?_) | ((first | (with_reducible refine mk_to ?_) | (with_reducible first | refine gw_region ?_ | refine gw_if ?_ | refine gw_skip ?_ | refine gw_exit ?_ | refine gw_ret ?_) | ((with_reducible first | refine gif_b (fun hb => ?_) (fun hb => ?_) | refine want_t (fun hb => ?_) (fun hb => ?_) | refine want_f (fun hb => ?_) (fun hb => ?_)) <;> (try simp only [hb]) <;> (try simp only [hpr] at hb))) <;> try simp only [List.map, gop, ev, lk, aenv, gyield, gBin, gInt, gStrOp, gUn, gPick, gNil, gExtract, gIfc, gConvK, gIndexO, gIndexVO, gMakeV, gMinV, gMaxV, isInt, gMin, gMax, gBlt, gCallV, gInvoke, gNilM, Array.toList_map, vcells, gField, gIndexV, gPart, reduceIte, Nat.reduceAdd, Nat.reduceSub, Nat.reduceMul, Nat.reduceLT, Nat.reduceLeDiff, Nat.reduceEqDiff, Nat.reduceBEq, Int.reduceLT, Int.reduceLE, Int.reduceGT, Int.reduceGE, Int.reduceEq, Int.reduceNe, Int.reduceAdd, Int.reduceSub, Int.reduceMul, Int.reduceNeg, Int.reduceToNat, Int.reduceBEq, Int.reduceBNe, Int.cast_ofNat_Int, List.getElem?_toArray, stp, Try.underlying104, Try.underlying22, Try.underlying23, Try.underlying3, Try.underlying5, Try.underlying58, Try.underlying60, cv104_3, cv5_104, cv5_3, ty22, ty60, ty104, ty23, ty3, ty5, ty58, rs32, d3, dC, hc]))
          have ff := fin true (fun g => by rw [wg g] at hc; rw [eq_comm, decide_eq_true_eq]; have := of_decide_eq_false hc; omega)
          obtain ⟨a6, c6, m6, _, _⟩ := r6.form
          by_cases ht : ((s3.ok (goodU l) 5).ok true 4).e = 0
          · have d : (((s3.ok (goodU l) 5).ok true 4).e != 0) = false := by simpa using ht
            have wu := wg (by
              by_cases h0 : (s3.ok (goodU l) 5).e = 0
              · exact (St.ok_0 (by decide) h0).1
              · rw [St.ok_no h0] at ht; exact absurd ht h0)
            refine mk_of ?_; repeat' (first | (with_reducible first | refine gw_seq ?_ | refine gw_block ?_) | ((first | (with_reducible refine mk_to ?_) | (with_reducible first | refine gw_region ?_ | refine gw_if ?_ | refine gw_skip ?_ | refine gw_exit ?_ | refine gw_ret ?_) | ((with_reducible first | refine gif_b (fun hb => ?_) (fun hb => ?_) | refine want_t (fun hb => ?_) (fun hb => ?_) | refine want_f (fun hb => ?_) (fun hb => ?_)) <;> (try simp only [hb]) <;> (try simp only [hpr] at hb))) <;> try simp only [List.map, gop, ev, lk, aenv, gyield, gBin, gInt, gStrOp, gUn, gPick, gNil, gExtract, gIfc, gConvK, gIndexO, gIndexVO, gMakeV, gMinV, gMaxV, isInt, gMin, gMax, gBlt, gCallV, gInvoke, gNilM, Array.toList_map, vcells, gField, gIndexV, gPart, reduceIte, Nat.reduceAdd, Nat.reduceSub, Nat.reduceMul, Nat.reduceLT, Nat.reduceLeDiff, Nat.reduceEqDiff, Nat.reduceBEq, Int.reduceLT, Int.reduceLE, Int.reduceGT, Int.reduceGE, Int.reduceEq, Int.reduceNe, Int.reduceAdd, Int.reduceSub, Int.reduceMul, Int.reduceNeg, Int.reduceToNat, Int.reduceBEq, Int.reduceBNe, Int.cast_ofNat_Int, List.getElem?_toArray, stp, Try.underlying104, Try.underlying22, Try.underlying23, Try.underlying3, Try.underlying5, Try.underlying58, Try.underlying60, cv104_3, cv5_104, cv5_3, ty22, ty60, ty104, ty23, ty3, ty5, ty58, rs32, gNil, gload1 m6 sz23, d, wu]))
            rw [ff, if_pos ht]
            exact ⟨rfl, r6, x4⟩
          · have d : (((s3.ok (goodU l) 5).ok true 4).e != 0) = true := by simpa using ht
            refine mk_of ?_; repeat' (first | (with_reducible first | refine gw_seq ?_ | refine gw_block ?_) | ((first | (with_reducible refine mk_to ?_) | (with_reducible first | refine gw_region ?_ | refine gw_if ?_ | refine gw_skip ?_ | refine gw_exit ?_ | refine gw_ret ?_) | ((with_reducible first | refine gif_b (fun hb => ?_) (fun hb => ?_) | refine want_t (fun hb => ?_) (fun hb => ?_) | refine want_f (fun hb => ?_) (fun hb => ?_)) <;> (try simp only [hb]) <;> (try simp only [hpr] at hb))) <;> try simp only [List.map, gop, ev, lk, aenv, gyield, gBin, gInt, gStrOp, gUn, gPick, gNil, gExtract, gIfc, gConvK, gIndexO, gIndexVO, gMakeV, gMinV, gMaxV, isInt, gMin, gMax, gBlt, gCallV, gInvoke, gNilM, Array.toList_map, vcells, gField, gIndexV, gPart, reduceIte, Nat.reduceAdd, Nat.reduceSub, Nat.reduceMul, Nat.reduceLT, Nat.reduceLeDiff, Nat.reduceEqDiff, Nat.reduceBEq, Int.reduceLT, Int.reduceLE, Int.reduceGT, Int.reduceGE, Int.reduceEq, Int.reduceNe, Int.reduceAdd, Int.reduceSub, Int.reduceMul, Int.reduceNeg, Int.reduceToNat, Int.reduceBEq, Int.reduceBNe, Int.cast_ofNat_Int, List.getElem?_toArray, stp, Try.underlying104, Try.underlying22, Try.underlying23, Try.underlying3, Try.underlying5, Try.underlying58, Try.underlying60, cv104_3, cv5_104, cv5_3, ty22, ty60, ty104, ty23, ty3, ty5, ty58, rs32, gNil, gload1 m6 sz23, d]))
            rw [ff, if_neg ht]
            exact ⟨rfl, r6, x4⟩
        · refine mk_of ?_; repeat' (first | (with_reducible first | refine gw_seq ?_ | refine gw_block ?_) | ((first | (with_reducible refine mk_to ?_) | (with_reducible first | refine gw_region ?_ | refine gw_if ?_ | refine gw_skip ?_ | refine gw_exit ?_ | refine gw_ret ?_) | ((with_reducible first | refine gif_b (fun hb => ?_) (fun hb => ?_) | refine want_t (fun hb => ?_) (fun hb => ?_) | refine want_f (fun hb => ?_) (fun hb => ?_)) <;> (try simp only [hb]) <;> (try simp only [hpr] at hb))) <;> try simp only [List.map, gop, ev, lk, aenv, gyield, gBin, gInt, gStrOp, gUn, gPick, gNil, gExtract, gIfc, gConvK, gIndexO, gIndexVO, gMakeV, gMinV, gMaxV, isInt, gMin, gMax, gBlt, gCallV, gInvoke, gNilM, Array.toList_map, vcells, gField, gIndexV, gPart, reduceIte, Nat.reduceAdd, Nat.reduceSub, Nat.reduceMul, Nat.reduceLT, Nat.reduceLeDiff, Nat.reduceEqDiff, Nat.reduceBEq, Int.reduceLT, Int.reduceLE, Int.reduceGT, Int.reduceGE, Int.reduceEq, Int.reduceNe, Int.reduceAdd, Int.reduceSub, Int.reduceMul, Int.reduceNeg, Int.reduceToNat, Int.reduceBEq, Int.reduceBNe, Int.cast_ofNat_Int, List.getElem?_toArray, stp, Try.underlying104, Try.underlying22, Try.underlying23, Try.underlying3, Try.underlying5, Try.underlying58, Try.underlying60, cv104_3, cv5_104, cv5_3, ty22, ty60, ty104, ty23, ty3, ty5, ty58, rs32, d3, dC, hc]))
          refine (c_rFail N h4 r5 4).mono ?_
          rintro _ h6 ⟨r6, x6⟩
          replace x6 := x4.trans x6
          replace r6 : RF h6 k ((s3.ok (goodU l) 5).ok false 4) := r6
          refine mk_of ?_; repeat' (first | (with_reducible first | refine gw_seq ?_ | refine gw_block ?_) | ((first | (with_reducible refine mk_to ?_) | (with_reducible first | refine gw_region ?_ | refine gw_if ?_ | refine gw_skip ?_ | refine gw_exit ?_ | refine gw_ret ?_) | ((with_reducible first | refine gif_b (fun hb => ?_) (fun hb => ?_) | refine want_t (fun hb => ?_) (fun hb => ?_) | refine want_f (fun hb => ?_) (fun hb => ?_)) <;> (try simp only [hb]) <;> (try simp only [hpr] at hb))) <;> try simp only [List.map, gop, ev, lk, aenv, gyield, gBin, gInt, gStrOp, gUn, gPick, gNil, gExtract, gIfc, gConvK, gIndexO, gIndexVO, gMakeV, gMinV, gMaxV, isInt, gMin, gMax, gBlt, gCallV, gInvoke, gNilM, Array.toList_map, vcells, gField, gIndexV, gPart, reduceIte, Nat.reduceAdd, Nat.reduceSub, Nat.reduceMul, Nat.reduceLT, Nat.reduceLeDiff, Nat.reduceEqDiff, Nat.reduceBEq, Int.reduceLT, Int.reduceLE, Int.reduceGT, Int.reduceGE, Int.reduceEq, Int.reduceNe, Int.reduceAdd, Int.reduceSub, Int.reduceMul, Int.reduceNeg, Int.reduceToNat, Int.reduceBEq, Int.reduceBNe, Int.cast_ofNat_Int, List.getElem?_toArray, stp, Try.underlying104, Try.underlying22, Try.underlying23, Try.underlying3, Try.underlying5, Try.underlying58, Try.underlying60, cv104_3, cv5_104, cv5_3, ty22, ty60, ty104, ty23, ty3, ty5, ty58, rs32]))
          have ff := fin false (fun g => by rw [wg g] at hc; rw [eq_comm, decide_eq_false_iff_not]; have := of_decide_eq_true hc; omega)
          obtain ⟨a6, c6, m6, _, _⟩ := r6.form
          by_cases ht : ((s3.ok (goodU l) 5).ok false 4).e = 0
          · have d : (((s3.ok (goodU l) 5).ok false 4).e != 0) = false := by simpa using ht
            have wu := wg (by
              by_cases h0 : (s3.ok (goodU l) 5).e = 0
              · exact (St.ok_0 (by decide) h0).1
              · rw [St.ok_no h0] at ht; exact absurd ht h0)
            refine mk_of ?_; repeat' (first | (with_reducible first | refine gw_seq ?_ | refine gw_block ?_) | ((first | (with_reducible refine mk_to ?_) | (with_reducible first | refine gw_region ?_ | refine gw_if ?_ | refine gw_skip ?_ | refine gw_exit ?_ | refine gw_ret ?_) | ((with_reducible first | refine gif_b (fun hb => ?_) (fun hb => ?_) | refine want_t (fun hb => ?_) (fun hb => ?_) | refine want_f (fun hb => ?_) (fun hb => ?_)) <;> (try simp only [hb]) <;> (try simp only [hpr] at hb))) <;> try simp only [List.map, gop, ev, lk, aenv, gyield, gBin, gInt, gStrOp, gUn, gPick, gNil, gExtract, gIfc, gConvK, gIndexO, gIndexVO, gMakeV, gMinV, gMaxV, isInt, gMin, gMax, gBlt, gCallV, gInvoke, gNilM, Array.toList_map, vcells, gField, gIndexV, gPart, reduceIte, Nat.reduceAdd, Nat.reduceSub, Nat.reduceMul, Nat.reduceLT, Nat.reduceLeDiff, Nat.reduceEqDiff, Nat.reduceBEq, Int.reduceLT, Int.reduceLE, Int.reduceGT, Int.reduceGE, Int.reduceEq, Int.reduceNe, Int.reduceAdd, Int.reduceSub, Int.reduceMul, Int.reduceNeg, Int.reduceToNat, Int.reduceBEq, Int.reduceBNe, Int.cast_ofNat_Int, List.getElem?_toArray, stp, Try.underlying104, Try.underlying22, Try.underlying23, Try.underlying3, Try.underlying5, Try.underlying58, Try.underlying60, cv104_3, cv5_104, cv5_3, ty22, ty60, ty104, ty23, ty3, ty5, ty58, rs32, gNil, gload1 m6 sz23, d, wu]))
            rw [ff, if_pos ht]
            exact ⟨rfl, r6, x6⟩
          · have d : (((s3.ok (goodU l) 5).ok false 4).e != 0) = true := by simpa using ht
            refine mk_of ?_; repeat' (first | (with_reducible first | refine gw_seq ?_ | refine gw_block ?_) | ((first | (with_reducible refine mk_to ?_) | (with_reducible first | refine gw_region ?_ | refine gw_if ?_ | refine gw_skip ?_ | refine gw_exit ?_ | refine gw_ret ?_) | ((with_reducible first | refine gif_b (fun hb => ?_) (fun hb => ?_) | refine want_t (fun hb => ?_) (fun hb => ?_) | refine want_f (fun hb => ?_) (fun hb => ?_)) <;> (try simp only [hb]) <;> (try simp only [hpr] at hb))) <;> try simp only [List.map, gop, ev, lk, aenv, gyield, gBin, gInt, gStrOp, gUn, gPick, gNil, gExtract, gIfc, gConvK, gIndexO, gIndexVO, gMakeV, gMinV, gMaxV, isInt, gMin, gMax, gBlt, gCallV, gInvoke, gNilM, Array.toList_map, vcells, gField, gIndexV, gPart, reduceIte, Nat.reduceAdd, Nat.reduceSub, Nat.reduceMul, Nat.reduceLT, Nat.reduceLeDiff, Nat.reduceEqDiff, Nat.reduceBEq, Int.reduceLT, Int.reduceLE, Int.reduceGT, Int.reduceGE, Int.reduceEq, Int.reduceNe, Int.reduceAdd, Int.reduceSub, Int.reduceMul, Int.reduceNeg, Int.reduceToNat, Int.reduceBEq, Int.reduceBNe, Int.cast_ofNat_Int, List.getElem?_toArray, stp, Try.underlying104, Try.underlying22, Try.underlying23, Try.underlying3, Try.underlying5, Try.underlying58, Try.underlying60, cv104_3, cv5_104, cv5_3, ty22, ty60, ty104, ty23, ty3, ty5, ty58, rs32, gNil, gload1 m6 sz23, d]))
            rw [ff, if_neg ht]
            exact ⟨rfl, r6, x6⟩
      · have dC : decide ((uval l : Int) > 4611686018427387904) = true := decide_eq_true (by omega)
        refine mk_of ?_; repeat' (first | (with_reducible first | refine gw_seq ?_ | refine gw_block ?_) | ((first | (with_reducible refine mk_to ?_) | (with_reducible first | refine gw_region ?_ | refine gw_if ?_ | refine gw_skip ?_ | refine gw_exit ?_ | refine gw_ret ?_) | ((with_reducible first | refine gif_b (fun hb => ?_) (fun hb => ?_) | refine want_t (fun hb => ?_) (fun hb => ?_) | refine want_f (fun hb => ?_) (fun hb => ?_)) <;> (try simp only [hb]) <;> (try simp only [hpr] at hb))) <;> try simp only [List.map, gop, ev, lk, aenv, gyield, gBin, gInt, gStrOp, gUn, gPick, gNil, gExtract, gIfc, gConvK, gIndexO, gIndexVO, gMakeV, gMinV, gMaxV, isInt, gMin, gMax, gBlt, gCallV, gInvoke, gNilM, Array.toList_map, vcells, gField, gIndexV, gPart, reduceIte, Nat.reduceAdd, Nat.reduceSub, Nat.reduceMul, Nat.reduceLT, Nat.reduceLeDiff, Nat.reduceEqDiff, Nat.reduceBEq, Int.reduceLT, Int.reduceLE, Int.reduceGT, Int.reduceGE, Int.reduceEq, Int.reduceNe, Int.reduceAdd, Int.reduceSub, Int.reduceMul, Int.reduceNeg, Int.reduceToNat, Int.reduceBEq, Int.reduceBNe, Int.cast_ofNat_Int, List.getElem?_toArray, stp, Try.underlying104, Try.underlying22, Try.underlying23, Try.underlying3, Try.underlying5, Try.underlying58, Try.underlying60, cv104_3, cv5_104, cv5_3, ty22, ty60, ty104, ty23, ty3, ty5, ty58, rs32, d3, dC]))
        refine (c_rFail N h4 r4 5).mono ?_
        rintro _ h5 ⟨r5, x5⟩
        replace r5 : RF h5 k (s3.ok (goodU l) 5) := by
          rw [gd, decide_eq_false hC, ← St.ok_ok _ _ _ (by decide), St.ok_f]; exact r5
        replace x5 := x4.trans x5
        cases c
        · have r6 : RF h5 k ((s3.ok (goodU l) 5).ok true 4) := r5
          refine mk_of ?_; repeat' (first | (with_reducible first | refine gw_seq ?_ | refine gw_block ?_) | ((first | (with_reducible refine mk_to ?_) | (with_reducible first | refine gw_region ?_ | refine gw_if ?_ | refine gw_skip ?_ | refine gw_exit ?_ | refine gw_ret ?_) | ((with_reducible first | refine gif_b (fun hb => ?_) (fun hb => ?_) | refine want_t (fun hb => ?_) (fun hb => ?_) | refine want_f (fun hb => ?_) (fun hb => ?_)) <;> (try simp only [hb]) <;> (try simp only [hpr] at hb))) <;> try simp only [List.map, gop, ev, lk, aenv, gyield, gBin, gInt, gStrOp, gUn, gPick, gNil, gExtract, gIfc, gConvK, gIndexO, gIndexVO, gMakeV, gMinV, gMaxV, isInt, gMin, gMax, gBlt, gCallV, gInvoke, gNilM, Array.toList_map, vcells, gField, gIndexV, gPart, reduceIte, Nat.reduceAdd, Nat.reduceSub, Nat.reduceMul, Nat.reduceLT, Nat.reduceLeDiff, Nat.reduceEqDiff, Nat.reduceBEq, Int.reduceLT, Int.reduceLE, Int.reduceGT, Int.reduceGE, Int.reduceEq, Int.reduceNe, Int.reduceAdd, Int.reduceSub, Int.reduceMul, Int.reduceNeg, Int.reduceToNat, Int.reduceBEq, Int.reduceBNe, Int.cast_ofNat_Int, List.getElem?_toArray, stp, Try.underlying104, Try.underlying22, Try.underlying23, Try.underlying3, Try.underlying5, Try.underlying58, Try.underlying60, cv104_3, cv5_104, cv5_3, ty22, ty60, ty104, ty23, ty3, ty5, ty58, rs32, d3, dC, hc]))
          have ff := fin true (fun g => by rw [wg g] at hc; rw [eq_comm, decide_eq_true_eq]; have := of_decide_eq_false hc; omega)
          obtain ⟨a6, c6, m6, _, _⟩ := r6.form
          by_cases ht : ((s3.ok (goodU l) 5).ok true 4).e = 0
          · have d : (((s3.ok (goodU l) 5).ok true 4).e != 0) = false := by simpa using ht
            have wu := wg (by
              by_cases h0 : (s3.ok (goodU l) 5).e = 0
              · exact (St.ok_0 (by decide) h0).1
              · rw [St.ok_no h0] at ht; exact absurd ht h0)
            refine mk_of ?_; repeat' (first | (with_reducible first | refine gw_seq ?_ | refine gw_block ?_) | ((first | (with_reducible refine mk_to ?_) | (with_reducible first | refine gw_region ?_ | refine gw_if ?_ | refine gw_skip ?_ | refine gw_exit ?_ | refine gw_ret ?_) | ((with_reducible first | refine gif_b (fun hb => ?_) (fun hb => ?_) | refine want_t (fun hb => ?_) (fun hb => ?_) | refine want_f (fun hb => ?_) (fun hb => ?_)) <;> (try simp only [hb]) <;> (try simp only [hpr] at hb))) <;> try simp only [List.map, gop, ev, lk, aenv, gyield, gBin, gInt, gStrOp, gUn, gPick, gNil, gExtract, gIfc, gConvK, gIndexO, gIndexVO, gMakeV, gMinV, gMaxV, isInt, gMin, gMax, gBlt, gCallV, gInvoke, gNilM, Array.toList_map, vcells, gField, gIndexV, gPart, reduceIte, Nat.reduceAdd, Nat.reduceSub, Nat.reduceMul, Nat.reduceLT, Nat.reduceLeDiff, Nat.reduceEqDiff, Nat.reduceBEq, Int.reduceLT, Int.reduceLE, Int.reduceGT, Int.reduceGE, Int.reduceEq, Int.reduceNe, Int.reduceAdd, Int.reduceSub, Int.reduceMul, Int.reduceNeg, Int.reduceToNat, Int.reduceBEq, Int.reduceBNe, Int.cast_ofNat_Int, List.getElem?_toArray, stp, Try.underlying104, Try.underlying22, Try.underlying23, Try.underlying3, Try.underlying5, Try.underlying58, Try.underlying60, cv104_3, cv5_104, cv5_3, ty22, ty60, ty104, ty23, ty3, ty5, ty58, rs32, gNil, gload1 m6 sz23, d, wu]))
            rw [ff, if_pos ht]
            exact ⟨rfl, r6, x5⟩
          · have d : (((s3.ok (goodU l) 5).ok true 4).e != 0) = true := by simpa using ht
            refine mk_of ?_; repeat' (first | (with_reducible first | refine gw_seq ?_ | refine gw_block ?_) | ((first | (with_reducible refine mk_to ?_) | (with_reducible first | refine gw_region ?_ | refine gw_if ?_ | refine gw_skip ?_ | refine gw_exit ?_ | refine gw_ret ?_) | ((with_reducible first | refine gif_b (fun hb => ?_) (fun hb => ?_) | refine want_t (fun hb => ?_) (fun hb => ?_) | refine want_f (fun hb => ?_) (fun hb => ?_)) <;> (try simp only [hb]) <;> (try simp only [hpr] at hb))) <;> try simp only [List.map, gop, ev, lk, aenv, gyield, gBin, gInt, gStrOp, gUn, gPick, gNil, gExtract, gIfc, gConvK, gIndexO, gIndexVO, gMakeV, gMinV, gMaxV, isInt, gMin, gMax, gBlt, gCallV, gInvoke, gNilM, Array.toList_map, vcells, gField, gIndexV, gPart, reduceIte, Nat.reduceAdd, Nat.reduceSub, Nat.reduceMul, Nat.reduceLT, Nat.reduceLeDiff, Nat.reduceEqDiff, Nat.reduceBEq, Int.reduceLT, Int.reduceLE, Int.reduceGT, Int.reduceGE, Int.reduceEq, Int.reduceNe, Int.reduceAdd, Int.reduceSub, Int.reduceMul, Int.reduceNeg, Int.reduceToNat, Int.reduceBEq, Int.reduceBNe, Int.cast_ofNat_Int, List.getElem?_toArray, stp, Try.underlying104, Try.underlying22, Try.underlying23, Try.underlying3, Try.underlying5, Try.underlying58, Try.underlying60, cv104_3, cv5_104, cv5_3, ty22, ty60, ty104, ty23, ty3, ty5, ty58, rs32, gNil, gload1 m6 sz23, d]))
            rw [ff, if_neg ht]
            exact ⟨rfl, r6, x5⟩
        · refine mk_of ?_; repeat' (first | (with_reducible first | refine gw_seq ?_ | refine gw_block ?_) | ((first | (with_reducible refine mk_to ?_) | (with_reducible first | refine gw_region ?_ | refine gw_if ?_ | refine gw_skip ?_ | refine gw_exit ?_ | refine gw_ret ?_) | ((with_reducible first | refine gif_b (fun hb => ?_) (fun hb => ?_) | refine want_t (fun hb => ?_) (fun hb => ?_) | refine want_f (fun hb => ?_) (fun hb => ?_)) <;> (try simp only [hb]) <;> (try simp only [hpr] at hb))) <;> try simp only [List.map, gop, ev, lk, aenv, gyield, gBin, gInt, gStrOp, gUn, gPick, gNil, gExtract, gIfc, gConvK, gIndexO, gIndexVO, gMakeV, gMinV, gMaxV, isInt, gMin, gMax, gBlt, gCallV, gInvoke, gNilM, Array.toList_map, vcells, gField, gIndexV, gPart, reduceIte, Nat.reduceAdd, Nat.reduceSub, Nat.reduceMul, Nat.reduceLT, Nat.reduceLeDiff, Nat.reduceEqDiff, Nat.reduceBEq, Int.reduceLT, Int.reduceLE, Int.reduceGT, Int.reduceGE, Int.reduceEq, Int.reduceNe, Int.reduceAdd, Int.reduceSub, Int.reduceMul, Int.reduceNeg, Int.reduceToNat, Int.reduceBEq, Int.reduceBNe, Int.cast_ofNat_Int, List.getElem?_toArray, stp, Try.underlying104, Try.underlying22, Try.underlying23, Try.underlying3, Try.underlying5, Try.underlying58, Try.underlying60, cv104_3, cv5_104, cv5_3, ty22, ty60, ty104, ty23, ty3, ty5, ty58, rs32, d3, dC, hc]))
          refine (c_rFail N h5 r5 4).mono ?_
          rintro _ h6 ⟨r6, x6⟩
          replace x6 := x5.trans x6
          replace r6 : RF h6 k ((s3.ok (goodU l) 5).ok false 4) := r6
          refine mk_of ?_; repeat' (first | (with_reducible first | refine gw_seq ?_ | refine gw_block ?_) | ((first | (with_reducible refine mk_to ?_) | (with_reducible first | refine gw_region ?_ | refine gw_if ?_ | refine gw_skip ?_ | refine gw_exit ?_ | refine gw_ret ?_) | ((with_reducible first | refine gif_b (fun hb => ?_) (fun hb => ?_) | refine want_t (fun hb => ?_) (fun hb => ?_) | refine want_f (fun hb => ?_) (fun hb => ?_)) <;> (try simp only [hb]) <;> (try simp only [hpr] at hb))) <;> try simp only [List.map, gop, ev, lk, aenv, gyield, gBin, gInt, gStrOp, gUn, gPick, gNil, gExtract, gIfc, gConvK, gIndexO, gIndexVO, gMakeV, gMinV, gMaxV, isInt, gMin, gMax, gBlt, gCallV, gInvoke, gNilM, Array.toList_map, vcells, gField, gIndexV, gPart, reduceIte, Nat.reduceAdd, Nat.reduceSub, Nat.reduceMul, Nat.reduceLT, Nat.reduceLeDiff, Nat.reduceEqDiff, Nat.reduceBEq, Int.reduceLT, Int.reduceLE, Int.reduceGT, Int.reduceGE, Int.reduceEq, Int.reduceNe, Int.reduceAdd, Int.reduceSub, Int.reduceMul, Int.reduceNeg, Int.reduceToNat, Int.reduceBEq, Int.reduceBNe, Int.cast_ofNat_Int, List.getElem?_toArray, stp, Try.underlying104, Try.underlying22, Try.underlying23, Try.underlying3, Try.underlying5, Try.underlying58, Try.underlying60, cv104_3, cv5_104, cv5_3, ty22, ty60, ty104, ty23, ty3, ty5, ty58, rs32]))
          have ff := fin false (fun g => by rw [wg g] at hc; rw [eq_comm, decide_eq_false_iff_not]; have := of_decide_eq_true hc; omega)
          obtain ⟨a6, c6, m6, _, _⟩ := r6.form
          by_cases ht : ((s3.ok (goodU l) 5).ok false 4).e = 0
          · have d : (((s3.ok (goodU l) 5).ok false 4).e != 0) = false := by simpa using ht
            have wu := wg (by
              by_cases h0 : (s3.ok (goodU l) 5).e = 0
              · exact (St.ok_0 (by decide) h0).1
              · rw [St.ok_no h0] at ht; exact absurd ht h0)
            refine mk_of ?_; repeat' (first | (with_reducible first | refine gw_seq ?_ | refine gw_block ?_) | ((first | (with_reducible refine mk_to ?_) | (with_reducible first | refine gw_region ?_ | refine gw_if ?_ | refine gw_skip ?_ | refine gw_exit ?_ | refine gw_ret ?_) | ((with_reducible first | refine gif_b (fun hb => ?_) (fun hb => ?_) | refine want_t (fun hb => ?_) (fun hb => ?_) | refine want_f (fun hb => ?_) (fun hb => ?_)) <;> (try simp only [hb]) <;> (try simp only [hpr] at hb))) <;> try simp only [List.map, gop, ev, lk, aenv, gyield, gBin, gInt, gStrOp, gUn, gPick, gNil, gExtract, gIfc, gConvK, gIndexO, gIndexVO, gMakeV, gMinV, gMaxV, isInt, gMin, gMax, gBlt, gCallV, gInvoke, gNilM, Array.toList_map, vcells, gField, gIndexV, gPart, reduceIte, Nat.reduceAdd, Nat.reduceSub, Nat.reduceMul, Nat.reduceLT, Nat.reduceLeDiff, Nat.reduceEqDiff, Nat.reduceBEq, Int.reduceLT, Int.reduceLE, Int.reduceGT, Int.reduceGE, Int.reduceEq, Int.reduceNe, Int.reduceAdd, Int.reduceSub, Int.reduceMul, Int.reduceNeg, Int.reduceToNat, Int.reduceBEq, Int.reduceBNe, Int.cast_ofNat_Int, List.getElem?_toArray, stp, Try.underlying104, Try.underlying22, Try.underlying23, Try.underlying3, Try.underlying5, Try.underlying58, Try.underlying60, cv104_3, cv5_104, cv5_3, ty22, ty60, ty104, ty23, ty3, ty5, ty58, rs32, gNil, gload1 m6 sz23, d, wu]))
            rw [ff, if_pos ht]
            exact ⟨rfl, r6, x6⟩
          · have d : (((s3.ok (goodU l) 5).ok false 4).e != 0) = true := by simpa using ht
            refine mk_of ?_; repeat' (first | (with_reducible first | refine gw_seq ?_ | refine gw_block ?_) | ((first | (with_reducible refine mk_to ?_) | (with_reducible first | refine gw_region ?_ | refine gw_if ?_ | refine gw_skip ?_ | refine gw_exit ?_ | refine gw_ret ?_) | ((with_reducible first | refine gif_b (fun hb => ?_) (fun hb => ?_) | refine want_t (fun hb => ?_) (fun hb => ?_) | refine want_f (fun hb => ?_) (fun hb => ?_)) <;> (try simp only [hb]) <;> (try simp only [hpr] at hb))) <;> try simp only [List.map, gop, ev, lk, aenv, gyield, gBin, gInt, gStrOp, gUn, gPick, gNil, gExtract, gIfc, gConvK, gIndexO, gIndexVO, gMakeV, gMinV, gMaxV, isInt, gMin, gMax, gBlt, gCallV, gInvoke, gNilM, Array.toList_map, vcells, gField, gIndexV, gPart, reduceIte, Nat.reduceAdd, Nat.reduceSub, Nat.reduceMul, Nat.reduceLT, Nat.reduceLeDiff, Nat.reduceEqDiff, Nat.reduceBEq, Int.reduceLT, Int.reduceLE, Int.reduceGT, Int.reduceGE, Int.reduceEq, Int.reduceNe, Int.reduceAdd, Int.reduceSub, Int.reduceMul, Int.reduceNeg, Int.reduceToNat, Int.reduceBEq, Int.reduceBNe, Int.cast_ofNat_Int, List.getElem?_toArray, stp, Try.underlying104, Try.underlying22, Try.underlying23, Try.underlying3, Try.underlying5, Try.underlying58, Try.underlying60, cv104_3, cv5_104, cv5_3, ty22, ty60, ty104, ty23, ty3, ty5, ty58, rs32, gNil, gload1 m6 sz23, d]))
            rw [ff, if_neg ht]
            exact ⟨rfl, r6, x6⟩
end Go.Gh

/- The reference's reader: texts, yes or no, the end. A reader that no call made. The law CodecNobody. -/

namespace Go.Gh
open Go Go.Proofs Go.RowKit
set_option linter.unusedVariables false
set_option linter.unusedSimpArgs false
set_option maxRecDepth 100000

theorem c_rRBytes (N : Nat) (h : GH) {k : Nat} {s : St} (r : RF h k s) (most : Int) (hb : s.b.length ≤ 140737488355328) : GTri Try.prog N 69 [.pointer (some ⟨k, 0, none⟩), .int .i64 most] h fun v h' => RF h' k (s.bytes most).2 ∧ HX k h h' ∧ ∃ a c, v = .slice a (s.bytes most).1.length c ∧ RB h' (.slice a (s.bytes most).1.length c) (s.bytes most).1 := by
  have hu := s.uint_len most
  have hn : ((s.uint most).1.toNat : Int) = (s.uint most).1 := by omega
  refine gtri Try.func69 rfl gf69 ok69 (by simp [Try.ntmps69]) ?_
  repeat' (first | (with_reducible first | refine gw_seq ?_ | refine gw_block ?_) | ((first | (with_reducible first | refine gw_region ?_ | refine gw_if ?_ | refine gw_skip ?_ | refine gw_exit ?_ | refine gw_ret ?_) | ((with_reducible first | refine gif_b (fun hb => ?_) (fun hb => ?_) | refine want_t (fun hb => ?_) (fun hb => ?_) | refine want_f (fun hb => ?_) (fun hb => ?_)) <;> (try simp only [hb]) <;> (try simp only [hpr] at hb))) <;> try simp only [List.map, gop, ev, lk, aenv, gyield, gBin, gInt, gStrOp, gUn, gPick, gNil, gExtract, gIfc, gConvK, gIndexO, gIndexVO, gMakeV, gMinV, gMaxV, isInt, gMin, gMax, gBlt, gCallV, gInvoke, gNilM, Array.toList_map, vcells, gField, gIndexV, gPart, reduceIte, Nat.reduceAdd, Nat.reduceSub, Nat.reduceMul, Nat.reduceLT, Nat.reduceLeDiff, Nat.reduceEqDiff, Nat.reduceBEq, Int.reduceLT, Int.reduceLE, Int.reduceGT, Int.reduceGE, Int.reduceEq, Int.reduceNe, Int.reduceAdd, Int.reduceSub, Int.reduceMul, Int.reduceNeg, Int.reduceToNat, Int.reduceBEq, Int.reduceBNe, Int.cast_ofNat_Int, List.getElem?_toArray, stp, Try.underlying3, Try.underlying58, Try.underlying60, ty60, ty3, ty58, rs69]))
  refine (c_rRUint N h r most hb).mono ?_
  rintro _ h1 ⟨rfl, r1, x1⟩
  have ct := c_rTake N h1 r1 (s.uint most).1.toNat (by omega)
  rw [hn] at ct
  refine mk_of ?_; repeat' (first | (with_reducible first | refine gw_seq ?_ | refine gw_block ?_) | ((first | (with_reducible refine mk_to ?_) | (with_reducible first | refine gw_region ?_ | refine gw_if ?_ | refine gw_skip ?_ | refine gw_exit ?_ | refine gw_ret ?_) | ((with_reducible first | refine gif_b (fun hb => ?_) (fun hb => ?_) | refine want_t (fun hb => ?_) (fun hb => ?_) | refine want_f (fun hb => ?_) (fun hb => ?_)) <;> (try simp only [hb]) <;> (try simp only [hpr] at hb))) <;> try simp only [List.map, gop, ev, lk, aenv, gyield, gBin, gInt, gStrOp, gUn, gPick, gNil, gExtract, gIfc, gConvK, gIndexO, gIndexVO, gMakeV, gMinV, gMaxV, isInt, gMin, gMax, gBlt, gCallV, gInvoke, gNilM, Array.toList_map, vcells, gField, gIndexV, gPart, reduceIte, Nat.reduceAdd, Nat.reduceSub, Nat.reduceMul, Nat.reduceLT, Nat.reduceLeDiff, Nat.reduceEqDiff, Nat.reduceBEq, Int.reduceLT, Int.reduceLE, Int.reduceGT, Int.reduceGE, Int.reduceEq, Int.reduceNe, Int.reduceAdd, Int.reduceSub, Int.reduceMul, Int.reduceNeg, Int.reduceToNat, Int.reduceBEq, Int.reduceBNe, Int.cast_ofNat_Int, List.getElem?_toArray, stp, Try.underlying3, Try.underlying58, Try.underlying60, ty60, ty3, ty58, rs69]))
  refine ct.mono ?_
  rintro _ h2 ⟨r2, x2, a2, c2, rfl, q2⟩
  refine mk_of ?_; repeat' (first | (with_reducible first | refine gw_seq ?_ | refine gw_block ?_) | ((first | (with_reducible refine mk_to ?_) | (with_reducible first | refine gw_region ?_ | refine gw_if ?_ | refine gw_skip ?_ | refine gw_exit ?_ | refine gw_ret ?_) | ((with_reducible first | refine gif_b (fun hb => ?_) (fun hb => ?_) | refine want_t (fun hb => ?_) (fun hb => ?_) | refine want_f (fun hb => ?_) (fun hb => ?_)) <;> (try simp only [hb]) <;> (try simp only [hpr] at hb))) <;> try simp only [List.map, gop, ev, lk, aenv, gyield, gBin, gInt, gStrOp, gUn, gPick, gNil, gExtract, gIfc, gConvK, gIndexO, gIndexVO, gMakeV, gMinV, gMaxV, isInt, gMin, gMax, gBlt, gCallV, gInvoke, gNilM, Array.toList_map, vcells, gField, gIndexV, gPart, reduceIte, Nat.reduceAdd, Nat.reduceSub, Nat.reduceMul, Nat.reduceLT, Nat.reduceLeDiff, Nat.reduceEqDiff, Nat.reduceBEq, Int.reduceLT, Int.reduceLE, Int.reduceGT, Int.reduceGE, Int.reduceEq, Int.reduceNe, Int.reduceAdd, Int.reduceSub, Int.reduceMul, Int.reduceNeg, Int.reduceToNat, Int.reduceBEq, Int.reduceBNe, Int.cast_ofNat_Int, List.getElem?_toArray, stp, Try.underlying3, Try.underlying58, Try.underlying60, ty60, ty3, ty58, rs69]))
  exact ⟨r2, x1.trans x2, a2, c2, rfl, q2⟩
theorem c_rRFlag (N : Nat) (h : GH) {k : Nat} {s : St} (r : RF h k s) (hb : s.b.length ≤ 140737488355328) : GTri Try.prog N 34 [.pointer (some ⟨k, 0, none⟩)] h fun v h' => v = .bool s.flag.1 ∧ RF h' k s.flag.2 ∧ HX k h h' := by
  refine gtri Try.func34 rfl gf34 ok34 (by simp [Try.ntmps34]) ?_
  repeat' (first | (with_reducible first | refine gw_seq ?_ | refine gw_block ?_) | ((first | (with_reducible first | refine gw_region ?_ | refine gw_if ?_ | refine gw_skip ?_ | refine gw_exit ?_ | refine gw_ret ?_) | ((with_reducible first | refine gif_b (fun hb => ?_) (fun hb => ?_) | refine want_t (fun hb => ?_) (fun hb => ?_) | refine want_f (fun hb => ?_) (fun hb => ?_)) <;> (try simp only [hb]) <;> (try simp only [hpr] at hb))) <;> try simp only [List.map, gop, ev, lk, aenv, gyield, gBin, gInt, gStrOp, gUn, gPick, gNil, gExtract, gIfc, gConvK, gIndexO, gIndexVO, gMakeV, gMinV, gMaxV, isInt, gMin, gMax, gBlt, gCallV, gInvoke, gNilM, Array.toList_map, vcells, gField, gIndexV, gPart, reduceIte, Nat.reduceAdd, Nat.reduceSub, Nat.reduceMul, Nat.reduceLT, Nat.reduceLeDiff, Nat.reduceEqDiff, Nat.reduceBEq, Int.reduceLT, Int.reduceLE, Int.reduceGT, Int.reduceGE, Int.reduceEq, Int.reduceNe, Int.reduceAdd, Int.reduceSub, Int.reduceMul, Int.reduceNeg, Int.reduceToNat, Int.reduceBEq, Int.reduceBNe, Int.cast_ofNat_Int, List.getElem?_toArray, stp, Try.underlying22, Try.underlying23, Try.underlying3, Try.underlying5, Try.underlying58, Try.underlying60, ty22, ty60, ty23, ty3, ty5, ty58, rs34]))
  refine (c_rTake N h r 1 hb).mono ?_
  rintro _ h1 ⟨r1, x1, a1, c1, rfl, q1⟩
  by_cases he : (s.take 1).2.e = 0
  case neg =>
    have hn := St.take_no he
    have de : (((s.take 1).1.length : Int) == 0) = true := by rw [hn]; rfl
    refine mk_of ?_; repeat' (first | (with_reducible first | refine gw_seq ?_ | refine gw_block ?_) | ((first | (with_reducible refine mk_to ?_) | (with_reducible first | refine gw_region ?_ | refine gw_if ?_ | refine gw_skip ?_ | refine gw_exit ?_ | refine gw_ret ?_) | ((with_reducible first | refine gif_b (fun hb => ?_) (fun hb => ?_) | refine want_t (fun hb => ?_) (fun hb => ?_) | refine want_f (fun hb => ?_) (fun hb => ?_)) <;> (try simp only [hb]) <;> (try simp only [hpr] at hb))) <;> try simp only [List.map, gop, ev, lk, aenv, gyield, gBin, gInt, gStrOp, gUn, gPick, gNil, gExtract, gIfc, gConvK, gIndexO, gIndexVO, gMakeV, gMinV, gMaxV, isInt, gMin, gMax, gBlt, gCallV, gInvoke, gNilM, Array.toList_map, vcells, gField, gIndexV, gPart, reduceIte, Nat.reduceAdd, Nat.reduceSub, Nat.reduceMul, Nat.reduceLT, Nat.reduceLeDiff, Nat.reduceEqDiff, Nat.reduceBEq, Int.reduceLT, Int.reduceLE, Int.reduceGT, Int.reduceGE, Int.reduceEq, Int.reduceNe, Int.reduceAdd, Int.reduceSub, Int.reduceMul, Int.reduceNeg, Int.reduceToNat, Int.reduceBEq, Int.reduceBNe, Int.cast_ofNat_Int, List.getElem?_toArray, stp, Try.underlying22, Try.underlying23, Try.underlying3, Try.underlying5, Try.underlying58, Try.underlying60, ty22, ty60, ty23, ty3, ty5, ty58, rs34, de]))
    unfold St.flag
    rw [if_neg he]
    exact ⟨rfl, r1, x1⟩
  obtain ⟨y, hy⟩ := St.take_one he
  have un : s.flag = (y == 1, (s.take 1).2.ok (decide (y.toNat ≤ 1)) 5) := by unfold St.flag; rw [if_pos he, hy]; rfl
  rw [un]
  rw [hy] at q1
  replace q1 : RB h1 (.slice a1 1 c1) [y] := q1
  simp only [hy]
  generalize (s.take 1).2 = s1 at *
  obtain ⟨p, i1, l1⟩ := q1.idx Try.underlying22 sz5 (i := 0) (by omega) (by simp)
  simp only [Int.toNat_zero, List.getD_cons_zero] at l1
  have dq : ((y.toNat : Int) == 1) = (y == 1) := by
    rw [Bool.eq_iff_iff]
    simp only [beq_iff_eq]
    constructor
    · intro e; exact UInt8.toNat_inj.1 (by show y.toNat = 1; omega)
    · rintro rfl; rfl
  have d1 : (((1 : Nat) : Int) == 0) = false := rfl
  by_cases hle : y.toNat ≤ 1
  · have d9 : decide ((y.toNat : Int) > 1) = false := decide_eq_false (by omega)
    refine mk_of ?_; repeat' (first | (with_reducible first | refine gw_seq ?_ | refine gw_block ?_) | ((first | (with_reducible refine mk_to ?_) | (with_reducible first | refine gw_region ?_ | refine gw_if ?_ | refine gw_skip ?_ | refine gw_exit ?_ | refine gw_ret ?_) | ((with_reducible first | refine gif_b (fun hb => ?_) (fun hb => ?_) | refine want_t (fun hb => ?_) (fun hb => ?_) | refine want_f (fun hb => ?_) (fun hb => ?_)) <;> (try simp only [hb]) <;> (try simp only [hpr] at hb))) <;> try simp only [List.map, gop, ev, lk, aenv, gyield, gBin, gInt, gStrOp, gUn, gPick, gNil, gExtract, gIfc, gConvK, gIndexO, gIndexVO, gMakeV, gMinV, gMaxV, isInt, gMin, gMax, gBlt, gCallV, gInvoke, gNilM, Array.toList_map, vcells, gField, gIndexV, gPart, reduceIte, Nat.reduceAdd, Nat.reduceSub, Nat.reduceMul, Nat.reduceLT, Nat.reduceLeDiff, Nat.reduceEqDiff, Nat.reduceBEq, Int.reduceLT, Int.reduceLE, Int.reduceGT, Int.reduceGE, Int.reduceEq, Int.reduceNe, Int.reduceAdd, Int.reduceSub, Int.reduceMul, Int.reduceNeg, Int.reduceToNat, Int.reduceBEq, Int.reduceBNe, Int.cast_ofNat_Int, List.getElem?_toArray, stp, Try.underlying22, Try.underlying23, Try.underlying3, Try.underlying5, Try.underlying58, Try.underlying60, ty22, ty60, ty23, ty3, ty5, ty58, rs34, d1, i1, l1, bv, d9, dq]))
    rw [decide_eq_true hle, St.ok_t]
    exact ⟨r1, x1⟩
  · have d9 : decide ((y.toNat : Int) > 1) = true := decide_eq_true (by omega)
    refine mk_of ?_; repeat' (first | (with_reducible first | refine gw_seq ?_ | refine gw_block ?_) | ((first | (with_reducible refine mk_to ?_) | (with_reducible first | refine gw_region ?_ | refine gw_if ?_ | refine gw_skip ?_ | refine gw_exit ?_ | refine gw_ret ?_) | ((with_reducible first | refine gif_b (fun hb => ?_) (fun hb => ?_) | refine want_t (fun hb => ?_) (fun hb => ?_) | refine want_f (fun hb => ?_) (fun hb => ?_)) <;> (try simp only [hb]) <;> (try simp only [hpr] at hb))) <;> try simp only [List.map, gop, ev, lk, aenv, gyield, gBin, gInt, gStrOp, gUn, gPick, gNil, gExtract, gIfc, gConvK, gIndexO, gIndexVO, gMakeV, gMinV, gMaxV, isInt, gMin, gMax, gBlt, gCallV, gInvoke, gNilM, Array.toList_map, vcells, gField, gIndexV, gPart, reduceIte, Nat.reduceAdd, Nat.reduceSub, Nat.reduceMul, Nat.reduceLT, Nat.reduceLeDiff, Nat.reduceEqDiff, Nat.reduceBEq, Int.reduceLT, Int.reduceLE, Int.reduceGT, Int.reduceGE, Int.reduceEq, Int.reduceNe, Int.reduceAdd, Int.reduceSub, Int.reduceMul, Int.reduceNeg, Int.reduceToNat, Int.reduceBEq, Int.reduceBNe, Int.cast_ofNat_Int, List.getElem?_toArray, stp, Try.underlying22, Try.underlying23, Try.underlying3, Try.underlying5, Try.underlying58, Try.underlying60, ty22, ty60, ty23, ty3, ty5, ty58, rs34, d1, i1, l1, bv, d9, dq]))
    refine (c_rFail N h1 r1 5).mono ?_
    rintro _ h2 ⟨r2, x2⟩
    have q2 := q1.rf r1 x2
    obtain ⟨p2, i2, l2⟩ := q2.idx Try.underlying22 sz5 (i := 0) (by omega) (by simp)
    simp only [Int.toNat_zero, List.getD_cons_zero] at l2
    refine mk_of ?_; repeat' (first | (with_reducible first | refine gw_seq ?_ | refine gw_block ?_) | ((first | (with_reducible refine mk_to ?_) | (with_reducible first | refine gw_region ?_ | refine gw_if ?_ | refine gw_skip ?_ | refine gw_exit ?_ | refine gw_ret ?_) | ((with_reducible first | refine gif_b (fun hb => ?_) (fun hb => ?_) | refine want_t (fun hb => ?_) (fun hb => ?_) | refine want_f (fun hb => ?_) (fun hb => ?_)) <;> (try simp only [hb]) <;> (try simp only [hpr] at hb))) <;> try simp only [List.map, gop, ev, lk, aenv, gyield, gBin, gInt, gStrOp, gUn, gPick, gNil, gExtract, gIfc, gConvK, gIndexO, gIndexVO, gMakeV, gMinV, gMaxV, isInt, gMin, gMax, gBlt, gCallV, gInvoke, gNilM, Array.toList_map, vcells, gField, gIndexV, gPart, reduceIte, Nat.reduceAdd, Nat.reduceSub, Nat.reduceMul, Nat.reduceLT, Nat.reduceLeDiff, Nat.reduceEqDiff, Nat.reduceBEq, Int.reduceLT, Int.reduceLE, Int.reduceGT, Int.reduceGE, Int.reduceEq, Int.reduceNe, Int.reduceAdd, Int.reduceSub, Int.reduceMul, Int.reduceNeg, Int.reduceToNat, Int.reduceBEq, Int.reduceBNe, Int.cast_ofNat_Int, List.getElem?_toArray, stp, Try.underlying22, Try.underlying23, Try.underlying3, Try.underlying5, Try.underlying58, Try.underlying60, ty22, ty60, ty23, ty3, ty5, ty58, rs34, i2, l2, bv, dq]))
    rw [decide_eq_false hle, St.ok_f]
    exact ⟨r2, x1.trans x2⟩
/-! ## A reader that no call made -/
end Go.Gh

/- What was put is read; what was read, put, is what was read: the laws CodecBack and CodecOnce. -/

namespace Go.Gh
open Go Go.Proofs Go.RowKit
set_option linter.unusedVariables false
set_option linter.unusedSimpArgs false
set_option maxRecDepth 100000

end Go.Gh

/- A request's writer, as a pen. -/

namespace Go.Gh
open Go Go.Proofs Go.RowKit
set_option linter.unusedVariables false
set_option linter.unusedSimpArgs false
set_option maxRecDepth 100000
set_option maxHeartbeats 1000000

/-- A writer's bytes, and the request that it writes. -/
def WI (kw ka : Nat) (h0 : GH) (q : Aq) (id : List UInt8) (bt : List (List UInt8 × List UInt8)) (n : Nat) (out : List UInt8) (h : GH) : Prop :=
  (∃ a c, h kw = some ⟨[.slice a out.length c], 0, true, false⟩ ∧ RB h (.slice a out.length c) out ∧ SL h (.slice a out.length c)) ∧
  (∃ a c b d w, h ka = some ⟨q.cs (.slice a id.length c) (.slice b bt.length d), 0, w, false⟩ ∧ RB h (.slice a id.length c) id ∧ RL 2 Bd h (.slice b bt.length d) bt) ∧
  kw ≠ ka ∧ out.length ≤ 100 + n * 10000 ∧ ∀ j B, j ≠ kw → h0 j = some B → h j = some B
theorem WI.put {kw ka : Nat} {h0 : GH} {q : Aq} {id : List UInt8} {bt : List (List UInt8 × List UInt8)} {n : Nat} {out more : List UInt8} {h h2 h3 : GH} {a : Option Addr} {c : Nat} (i : WI kw ka h0 q id bt n out h) (s : HS h h2) (o : RB h2 (.slice a (out ++ more).length c) (out ++ more)) (so : SL h2 (.slice a (out ++ more).length c)) (hm : more.length ≤ 10000)
    (q3 : h3 kw = some ⟨[.slice a (out ++ more).length c], 0, true, false⟩) (f3 : ∀ j, j ≠ kw → h3 j = h2 j) : WI kw ka h0 q id bt (n + 1) (out ++ more) h3 := by
  obtain ⟨⟨a1, c1, m1, r1, _⟩, ⟨a2, c2, b, d, w, m2, r2, rl⟩, ne, hl, fr⟩ := i
  have x : HX kw h2 h3 := fun j B n e => by rw [f3 j n]; exact e
  have m1' := s _ _ m1
  refine ⟨⟨a, c, q3, o.hx m1' rfl x, so.hx m1' rfl x⟩, ⟨a2, c2, b, d, w, x _ _ ne.symm (s _ _ m2), (r2.hs s).hx m1' rfl x, (rl.bs s).bx m1' ⟨rfl, rfl⟩ rfl x⟩, ne, by rw [List.length_append]; omega, fun j B n e => x _ _ n (s _ _ (fr j B n e))⟩
end Go.Gh

/- What a judge leaves. -/

namespace Go.Gh
open Go Go.Proofs Go.RowKit
set_option linter.unusedVariables false
set_option linter.unusedSimpArgs false
set_option maxRecDepth 100000
set_option maxHeartbeats 1000000

def Aq.left (q : Aq) (n m : Nat) : Bool := (((((((decide (q.fr = 0) && decide (q.tu = 0)) && decide (q.tm = 0)) && decide (q.ep = 0)) && decide (q.ix = 0)) && decide (q.lm = 0)) && decide (n = 0)) && decide (m = 0)) && (!q.so || decide (q.kd = 6))
end Go.Gh

/- What a request's bytes are. -/

namespace Go.Gh
open Go Go.Proofs Go.RowKit
set_option linter.unusedVariables false
set_option linter.unusedSimpArgs false
set_option maxRecDepth 100000
set_option maxHeartbeats 1000000

def jrun (k : Int) (s : Js) : Option Js := (judgePen 0 0 0 (fun _ => none)).run k s
def Ws (q : Aq) (id : List UInt8) (bt : List (List UInt8 × List UInt8)) (k : Int) (s : List UInt8) : List UInt8 :=
  let n := fun (o : Nat) (s : List UInt8) => s ++ guint (q.get o)
  let t := fun (s : List UInt8) => s ++ (guint id.length ++ id)
  if k = 1 then s ++ (guint bt.length ++ bputs bt)
  else if k = 2 then n 4 s
  else if k = 3 then n 3 (t s)
  else if k = 4 then n 3 (n 4 (t s))
  else if k = 5 then n 3 (n 2 (t s))
  else if k = 10 then n 8 (n 3 (n 2 (t s)))
  else if k = 6 then n 8 (if q.so = true then t (n 3 (n 2 s) ++ [gflag q.so]) else n 3 (n 2 s) ++ [gflag q.so])
  else if k = 7 then n 8 (n 7 (n 6 (n 3 (n 2 s))))
  else s
/-- A request's bytes, or what is wrong. -/
def enc (q : Aq) (id : List UInt8) (bt : List (List UInt8 × List UInt8)) : List UInt8 × Int :=
  match jrun q.kd ⟨false, q, id, bt⟩ with
  | none => ([], 87)
  | some s => if s.bad = true ∨ s.q.left s.id.length s.bt.length = false then ([], 1) else (Ws q id bt q.kd (guint q.kd), 0)
end Go.Gh

/- A request, written. -/

namespace Go.Gh
open Go Go.Proofs Go.RowKit
set_option linter.unusedVariables false
set_option linter.unusedSimpArgs false
set_option maxRecDepth 100000
set_option maxHeartbeats 1000000

end Go.Gh

/- Batches, compared. -/

namespace Go.Gh
open Go Go.Proofs Go.RowKit
set_option linter.unusedVariables false
set_option linter.unusedSimpArgs false
set_option maxRecDepth 100000
set_option maxHeartbeats 1000000

end Go.Gh

/- Requests, compared. -/

namespace Go.Gh
open Go Go.Proofs Go.RowKit
set_option linter.unusedVariables false
set_option linter.unusedSimpArgs false
set_option maxRecDepth 100000
set_option maxHeartbeats 1000000

end Go.Gh

/- Batches, read: what is read of any bytes. -/

namespace Go.Gh
open Go Go.Proofs Go.RowKit
set_option linter.unusedVariables false
set_option linter.unusedSimpArgs false
set_option maxRecDepth 100000
set_option maxHeartbeats 1000000

end Go.Gh

/- Batches, read by the program. -/

namespace Go.Gh
open Go Go.Proofs Go.RowKit
set_option linter.unusedVariables false
set_option linter.unusedSimpArgs false
set_option maxRecDepth 100000
set_option maxHeartbeats 1000000

theorem SL.hx2 {k : Nat} {h h' : GH} {v : Value} (s : SL h v) {B : GB} (m : h k = some B) (hB : B.es ≠ 1) (x : HX k h h') : SL h' v := fun ad n c e => by
  rcases s ad n c e with h1 | h1 | h1
  · exact .inl h1
  · exact .inr (.inl h1)
  · right; right
    unfold esOk at h1 ⊢
    split at h1
    · rename_i B' hB'
      have hne : ad.block ≠ k := fun e => by
        rw [e, m] at hB'; cases hB'
        simp at h1; exact hB h1
      rw [x _ _ hne hB']; exact h1
    · cases h1
theorem RD.hl {k j : Nat} {h h' : GH} {s : St} (r : RD h k s) {B : GB} (m : h j = some B) (hB : B.es ≠ 1) (hc : B.cells.all notU8 = true) (x : HX j h h') (ne : k ≠ j) : RD h' k s := by
  obtain ⟨a, c, h1, h2, h3⟩ := r
  exact ⟨a, c, x _ _ ne h1, h2.hx m hc x, h3.hx2 m hB x⟩
theorem Bd.hy {k : Nat} {h h' : GH} {B : GB} (m : h k = some B) (hc : B.cells.all notU8 = true) (x : HX k h h') {cs : List Value} {y : List UInt8 × List UInt8} (r : Bd h cs y) : Bd h' cs y := by
  obtain ⟨a, n, c, b, m', d, rfl, r1, r2⟩ := r
  exact ⟨a, n, c, b, m', d, rfl, r1.hx m hc x, r2.hx m hc x⟩
theorem St.uint_max (s : St) {most : Int} (hm : 0 ≤ most) : (s.uint most).1 ≤ most := by
  unfold St.uint
  split
  · unfold St.wid
    split
    · unfold St.num
      split
      · split
        · rename_i h1 h2
          have := (St.ok_0 (by decide) h2).1
          simpa using this
        · exact hm
      · exact hm
    · exact hm
  · exact hm
theorem drop_suf {p r : List UInt8} {n : Nat} (h : n = (p ++ r).length - r.length) : (p ++ r).drop n = r := by
  have : n = p.length := by rw [h, List.length_append]; omega
  rw [this]; simp
end Go.Gh

/- Batches, read by the reference. -/

namespace Go.Gh
open Go Go.Proofs Go.RowKit
set_option linter.unusedVariables false
set_option linter.unusedSimpArgs false
set_option maxRecDepth 100000
set_option maxHeartbeats 1000000

theorem fr_sl {h h' : GH} {s : Value} {n es : Nat} {cs : List Value} (fr : ∀ j B, h j = some B → (j = j → ∀ kb c, s = .slice (some ⟨kb, 0, none⟩) n c → n ≠ 0 → h kb = some ⟨cs, es, true, true⟩ → j ≠ kb) → h' j = some B) (he : es ≠ 1) {v : Value} (r : SL h v) : SL h' v := fun ad m c e => by
  rcases r ad m c e with h1 | h1 | h1
  · exact .inl h1
  · exact .inr (.inl h1)
  · right; right
    unfold esOk at h1 ⊢
    split at h1
    · rename_i B hB
      have hb : B.es = 1 := by simpa using h1
      rw [fr_es fr hB (by rw [hb]; exact he.symm)]; exact h1
    · cases h1
theorem RF.fr {h h' : GH} {s : Value} {n es : Nat} {cs : List Value} {k : Nat} {st : St} (r : RF h k st) (fr : ∀ j B, h j = some B → (j = j → ∀ kb c, s = .slice (some ⟨kb, 0, none⟩) n c → n ≠ 0 → h kb = some ⟨cs, es, true, true⟩ → j ≠ kb) → h' j = some B) (he : es ≠ 1) (h0 : es ≠ 0) (hc : cs.all notU8 = true) : RF h' k st := by
  obtain ⟨a, c, m, rb, sl⟩ := r.form
  exact ⟨a, c, fr_es fr m h0.symm, fr_rb fr hc rb, fr_sl fr he sl⟩
theorem Bd.fr {h h' : GH} {s : Value} {n es : Nat} {cs : List Value} (fr : ∀ j B, h j = some B → (j = j → ∀ kb c, s = .slice (some ⟨kb, 0, none⟩) n c → n ≠ 0 → h kb = some ⟨cs, es, true, true⟩ → j ≠ kb) → h' j = some B) (hc : cs.all notU8 = true) {ds : List Value} {y : List UInt8 × List UInt8} (r : Bd h ds y) : Bd h' ds y := by
  obtain ⟨a, n, c, b, m', d, rfl, r1, r2⟩ := r
  exact ⟨a, n, c, b, m', d, rfl, fr_rb fr hc r1, fr_rb fr hc r2⟩
theorem RF.open_g {h h2 : GH} {k : Nat} {a : Option Addr} {c : Nat} {l : List UInt8} (o : OWN h h2 (.slice a l.length c) l) {h3 : GH} (s : HS h2 h3) (m : h3 k = some ⟨[.slice a l.length c, .int .i64 0], 0, true, false⟩) : RF h3 k ⟨l, 0⟩ := ⟨a, c, m, o.rb.hs s, o.sl.hs s⟩
theorem dt_left {cs xs : List Value} {e j : Nat} (h : (j + 1) * e ≤ cs.length) : ((cs ++ xs).drop (j * e)).take e = (cs.drop (j * e)).take e := by
  rw [Nat.add_mul, Nat.one_mul] at h
  rw [List.drop_append_of_le_length (by omega), List.take_append_of_le_length (by rw [List.length_drop]; omega)]
theorem dt_last {cs xs : List Value} {e j : Nat} (h : cs.length = j * e) (hx : xs.length = e) : ((cs ++ xs).drop (j * e)).take e = xs := by
  rw [← h, List.drop_left, ← hx, List.take_length]

end Go.Gh

/- A request's reader, as a pen. -/

namespace Go.Gh
open Go Go.Proofs Go.RowKit
set_option linter.unusedVariables false
set_option linter.unusedSimpArgs false
set_option maxRecDepth 100000
set_option maxHeartbeats 1000000

theorem suf_len {a b : List UInt8} (h : a <:+ b) : a.length ≤ b.length := h.length_le
theorem St.ok_suf (s : St) (so : Bool) (e : Int) : (s.ok so e).b <:+ s.b := by
  unfold St.ok St.fail
  split
  · exact List.suffix_refl _
  · split
    · exact List.nil_suffix
    · exact List.suffix_refl _
theorem St.take_suf (s : St) (n : Nat) : (s.take n).2.b <:+ s.b := by
  unfold St.take
  split
  · rename_i h
    have := (St.ok_0 (by decide) h).1
    exact List.drop_suffix _ _
  · exact St.ok_suf _ _ _
theorem St.num_suf (s : St) (l : List UInt8) (most : Int) : (s.num l most).2.b <:+ s.b := by
  unfold St.num
  split
  · split
    · exact List.suffix_refl _
    · exact St.ok_suf _ _ _
  · exact St.ok_suf _ _ _
theorem St.uint_suf (s : St) (most : Int) : (s.uint most).2.b <:+ s.b := by
  unfold St.uint
  split
  · unfold St.wid
    split
    · exact ((St.num_suf _ _ _).trans (St.take_suf _ _)).trans (St.take_suf _ _)
    · exact (St.ok_suf _ _ _).trans (St.take_suf _ _)
  · exact St.take_suf _ _
theorem St.bytes_suf (s : St) (most : Int) : (s.bytes most).2.b <:+ s.b := (St.take_suf _ _).trans (St.uint_suf _ _)
theorem St.flag_suf (s : St) : s.flag.2.b <:+ s.b := by
  unfold St.flag
  repeat' split
  all_goals first | exact St.take_suf _ _ | exact (St.ok_suf _ _ _).trans (St.take_suf _ _)
theorem suf_drop {a b : List UInt8} (h : a <:+ b) : b.drop (b.length - a.length) = a := by
  obtain ⟨p, rfl⟩ := h
  exact drop_suf rfl
theorem ne_cells {h : GH} {k j : Nat} {B C : GB} (a : h k = some B) (b : h j = some C) (n : B.cells ≠ C.cells) : k ≠ j := fun e => by
  subst e; rw [a] at b; cases b; exact n rfl

structure Rs where
  q : Aq
  id : List UInt8
  bt : List (List UInt8 × List UInt8)
  st : St
  err : Int
abbrev restF (kb kt : Nat) : Value := .func (.func 50) #[] #[.pointer (some ⟨kb, 0, none⟩), .pointer (some ⟨kt, 0, none⟩)]
def RPI (kb kt kr ka : Nat) (B : List UInt8) (h0 : GH) (s : Rs) (h : GH) : Prop :=
  ∃ krd a c b d,
    h kr = some ⟨[.pointer (some ⟨krd, 0, none⟩), restF kb kt, .int .i64 s.err], 0, true, false⟩ ∧
    h kt = some ⟨[.pointer (some ⟨kr, 0, none⟩)], 0, true, false⟩ ∧
    (∃ a c, h kb = some ⟨[.slice a B.length c], 0, true, false⟩ ∧ RB h (.slice a B.length c) B ∧ SL h (.slice a B.length c)) ∧
    RD h krd s.st ∧
    h ka = some ⟨s.q.cs (.slice a s.id.length c) (.slice b s.bt.length d), 0, true, false⟩ ∧ RB h (.slice a s.id.length c) s.id ∧ RL 2 Bd h (.slice b s.bt.length d) s.bt ∧
    HS h0 h ∧ h0 kr = none ∧ h0 ka = none ∧ h0 krd = none ∧ s.st.b <:+ B ∧ B.length ≤ 140737488351232
theorem RPI.step {kb kt kr ka : Nat} {B : List UInt8} {h0 h h1 h2 : GH} {s : Rs} (i : RPI kb kt kr ka B h0 s h) {krd : Nat} {f : Value} {e : Int} (mr : h kr = some ⟨[.pointer (some ⟨krd, 0, none⟩), f, .int .i64 e], 0, true, false⟩) (x1 : HX krd h h1) {st' : St} (rd1 : RD h1 krd st') (sf : st'.b <:+ s.st.b)
    {q' : Aq} {id' : List UInt8} {bt' : List (List UInt8 × List UInt8)} {a' b' : Option Addr} {c' d' : Nat} (m2 : h2 ka = some ⟨q'.cs (.slice a' id'.length c') (.slice b' bt'.length d'), 0, true, false⟩) (f2 : ∀ j, j ≠ ka → h2 j = h1 j) (rb : RB h1 (.slice a' id'.length c') id') (rl : RL 2 Bd h1 (.slice b' bt'.length d') bt') :
    RPI kb kt kr ka B h0 ⟨q', id', bt', st', s.err⟩ h2 := by
  obtain ⟨krd', a, c, b, d, mr', mt, ⟨ab, cb, mb, rbb, slb⟩, rd, ma, ri, rlb, hs, n1, n2, n3, suf, hl⟩ := i
  rw [mr] at mr'
  obtain ⟨rfl, rfl, rfl⟩ : krd = krd' ∧ f = restF kb kt ∧ e = s.err := by simpa using mr'
  obtain ⟨_, _, md, _⟩ := rd.form
  have k1 : kr ≠ krd := ne_cells mr md (by simp)
  have k2 : kt ≠ krd := ne_cells mt md (by simp)
  have k3 : kb ≠ krd := ne_cells mb md (by simp)
  have k4 : ka ≠ krd := ne_cells ma md (by simp [Aq.cs])
  have j1 : kr ≠ ka := ne_cells mr ma (by simp [Aq.cs])
  have j2 : kt ≠ ka := ne_cells mt ma (by simp [Aq.cs])
  have j3 : kb ≠ ka := ne_cells mb ma (by simp [Aq.cs])
  have ma1 := x1 _ _ k4 ma
  have x2 : HX ka h1 h2 := fun j B n e => by rw [f2 j n]; exact e
  have hs1 : HS h0 h1 := x1.new hs n3
  exact ⟨krd, a', c', b', d', x2 _ _ j1 (x1 _ _ k1 mr), x2 _ _ j2 (x1 _ _ k2 mt), ⟨ab, cb, x2 _ _ j3 (x1 _ _ k3 mb), (rbb.hx md rfl x1).hx ma1 rfl x2, (slb.hx md rfl x1).hx ma1 rfl x2⟩, rd1.hl ma1 (by simp) rfl x2 k4.symm, m2, rb.hx ma1 rfl x2, rl.bx ma1 ⟨rfl, rfl⟩ rfl x2, x2.new hs1 n2, n1, n2, n3, sf.trans suf, hl⟩

end Go.Gh

/- A request's reader: batches. -/

namespace Go.Gh
open Go Go.Proofs Go.RowKit
set_option linter.unusedVariables false
set_option linter.unusedSimpArgs false
set_option maxRecDepth 100000
set_option maxHeartbeats 2000000

end Go.Gh

/- Answers: what they are, in memory and as bytes. -/

namespace Go.Gh
open Go Go.Proofs Go.RowKit Go.ChangeShapes Go.WideShapes Go.ChangeAt
set_option linter.unusedVariables false
set_option linter.unusedSimpArgs false
set_option maxRecDepth 100000
set_option maxHeartbeats 1000000

abbrev It : Type := List UInt8 × List UInt8 × Int
abbrev Ev : Type := Int × Int × List UInt8 × List UInt8
structure An where
  (cd ep si : Int)
  (pr sm mo : Bool)
  (ky : List UInt8)
  (its : List It)
  (evs : List Ev)
def An.cs (q : An) (k i e : Value) : List Value := [.int .i64 q.cd, .int .i64 q.ep, .bool q.pr, .bool q.sm, k, .int .i64 q.si, i, e, .bool q.mo]
theorem An.cs_len (q : An) (k i e : Value) : (q.cs k i e).length = 9 := rfl
def RIt (h : GH) (cs : List Value) (x : It) : Prop := ∃ a n c b m d, cs = [.slice a n c, .slice b m d, .int .i64 x.2.2] ∧ RB h (.slice a n c) x.1 ∧ RB h (.slice b m d) x.2.1
def REv (h : GH) (cs : List Value) (x : Ev) : Prop := ∃ a n c b m d, cs = [.int .i64 x.1, .int .i64 x.2.1, .slice a n c, .slice b m d] ∧ RB h (.slice a n c) x.2.2.1 ∧ RB h (.slice b m d) x.2.2.2
theorem RIt.hs {h h' : GH} (x : HS h h') {cs : List Value} {y : It} (r : RIt h cs y) : RIt h' cs y := by
  obtain ⟨a, n, c, b, m, d, rfl, r1, r2⟩ := r
  exact ⟨a, n, c, b, m, d, rfl, r1.hs x, r2.hs x⟩
theorem REv.hs {h h' : GH} (x : HS h h') {cs : List Value} {y : Ev} (r : REv h cs y) : REv h' cs y := by
  obtain ⟨a, n, c, b, m, d, rfl, r1, r2⟩ := r
  exact ⟨a, n, c, b, m, d, rfl, r1.hs x, r2.hs x⟩
theorem RIt.hy {k : Nat} {h h' : GH} {B : GB} (m : h k = some B) (hc : B.cells.all notU8 = true) (x : HX k h h') {cs : List Value} {y : It} (r : RIt h cs y) : RIt h' cs y := by
  obtain ⟨a, n, c, b, m', d, rfl, r1, r2⟩ := r
  exact ⟨a, n, c, b, m', d, rfl, r1.hx m hc x, r2.hx m hc x⟩
theorem REv.hy {k : Nat} {h h' : GH} {B : GB} (m : h k = some B) (hc : B.cells.all notU8 = true) (x : HX k h h') {cs : List Value} {y : Ev} (r : REv h cs y) : REv h' cs y := by
  obtain ⟨a, n, c, b, m', d, rfl, r1, r2⟩ := r
  exact ⟨a, n, c, b, m', d, rfl, r1.hx m hc x, r2.hx m hc x⟩
abbrev LI (h : GH) (v : Value) (l : List It) : Prop := RL 3 RIt h v l
abbrev LE (h : GH) (v : Value) (l : List Ev) : Prop := RL 4 REv h v l
theorem LI.hs {h h' : GH} {v : Value} {l : List It} (r : LI h v l) (x : HS h h') : LI h' v l := r.hcR x.hc fun _ _ q => q.hs x
theorem LE.hs {h h' : GH} {v : Value} {l : List Ev} (r : LE h v l) (x : HS h h') : LE h' v l := r.hcR x.hc fun _ _ q => q.hs x
theorem LI.hy {k : Nat} {h h' : GH} {B : GB} {v : Value} {l : List It} (r : LI h v l) (m : h k = some B) (hB : B.es = 0 ∧ B.wr = true) (hc : B.cells.all notU8 = true) (x : HX k h h') : LI h' v l := r.hxR m hB x fun _ _ q => q.hy m hc x
theorem LE.hy {k : Nat} {h h' : GH} {B : GB} {v : Value} {l : List Ev} (r : LE h v l) (m : h k = some B) (hB : B.es = 0 ∧ B.wr = true) (hc : B.cells.all notU8 = true) (x : HX k h h') : LE h' v l := r.hxR m hB x fun _ _ q => q.hy m hc x
/-- An answer in memory. -/
def RA (h : GH) (q : An) (v : Value) : Prop := ∃ a c b d b' d', v = .agg (q.cs (.slice a q.ky.length c) (.slice b q.its.length d) (.slice b' q.evs.length d')).toArray ∧ RB h (.slice a q.ky.length c) q.ky ∧ LI h (.slice b q.its.length d) q.its ∧ LE h (.slice b' q.evs.length d') q.evs
theorem RA.hs {h h' : GH} {q : An} {v : Value} (r : RA h q v) (x : HS h h') : RA h' q v := by
  obtain ⟨a, c, b, d, b', d', rfl, r1, r2, r3⟩ := r
  exact ⟨a, c, b, d, b', d', rfl, r1.hs x, r2.hs x, r3.hs x⟩
theorem RA.hy {k : Nat} {h h' : GH} {B : GB} {q : An} {v : Value} (r : RA h q v) (m : h k = some B) (hB : B.es = 0 ∧ B.wr = true) (hc : B.cells.all notU8 = true) (x : HX k h h') : RA h' q v := by
  obtain ⟨a, c, b, d, b', d', rfl, r1, r2, r3⟩ := r
  exact ⟨a, c, b, d, b', d', rfl, r1.hx m hc x, r2.hy m hB hc x, r3.hy m hB hc x⟩

def iput (x : It) : List UInt8 := guint x.1.length ++ x.1 ++ (guint x.2.1.length ++ x.2.1) ++ guint x.2.2
def eput1 (x : Ev) : List UInt8 := guint x.1 ++ guint x.2.1 ++ (guint x.2.2.1.length ++ x.2.2.1) ++ (guint x.2.2.2.length ++ x.2.2.2)
def wone (q : An) : List UInt8 := [gflag q.pr] ++ (if q.pr = true then guint q.ky.length ++ q.ky ++ guint q.si else [])
def wits (q : An) : List UInt8 := guint q.its.length ++ q.its.flatMap iput ++ [gflag q.mo]
def wevs (q : An) : List UInt8 := guint q.evs.length ++ q.evs.flatMap eput1 ++ [gflag q.mo] ++ (if q.mo = true then guint q.ep ++ guint q.si else [])
def wbody (kind : Int) (q : An) : List UInt8 :=
  if kind = 1 then guint q.ep
  else if kind = 3 then wone q
  else if kind = 4 then guint q.ep ++ wone q
  else if kind = 5 then [gflag q.sm] ++ wone q
  else if kind = 6 ∨ kind = 10 then wits q
  else if kind = 7 then wevs q
  else []
/-- An answer's bytes. -/
def wans (kind : Int) (q : An) : List UInt8 := guint q.cd ++ (if q.cd ≠ 0 then [] else wbody kind q)
def An.bulk (q : An) : Nat := q.ky.length + (q.its.map fun x => x.1.length + x.2.1.length + 3).sum + (q.evs.map fun x => x.2.2.1.length + x.2.2.2.length + 4).sum
theorem iputs_len : ∀ l : List It, (l.flatMap iput).length ≤ 9 * (l.map fun x => x.1.length + x.2.1.length + 3).sum ∧ l.length ≤ (l.map fun x => x.1.length + x.2.1.length + 3).sum
  | [] => by simp
  | x :: l => by
    have ih := iputs_len l
    have g1 := guint_len x.1.length
    have g2 := guint_len x.2.1.length
    have g3 := guint_len x.2.2
    simp only [List.flatMap_cons, List.length_append, iput, List.map_cons, List.sum_cons, List.length_cons]
    omega
theorem eputs_len : ∀ l : List Ev, (l.flatMap eput1).length ≤ 9 * (l.map fun x => x.2.2.1.length + x.2.2.2.length + 4).sum ∧ l.length ≤ (l.map fun x => x.2.2.1.length + x.2.2.2.length + 4).sum
  | [] => by simp
  | x :: l => by
    have ih := eputs_len l
    have g1 := guint_len x.1
    have g2 := guint_len x.2.1
    have g3 := guint_len x.2.2.1.length
    have g4 := guint_len x.2.2.2.length
    simp only [List.flatMap_cons, List.length_append, eput1, List.map_cons, List.sum_cons, List.length_cons]
    omega
theorem fm_take {α : Type} (f : α → List UInt8) (L : List α) {i : Nat} {x : α} (h : L[i]? = some x) : (L.take (i + 1)).flatMap f = (L.take i).flatMap f ++ f x := by
  simp [List.take_add_one, h]
theorem fm_le {α : Type} (f : α → List UInt8) (L : List α) (i : Nat) : ((L.take i).flatMap f).length ≤ (L.flatMap f).length := by
  have : L.flatMap f = (L.take i).flatMap f ++ (L.drop i).flatMap f := by rw [← List.flatMap_append, List.take_append_drop]
  rw [this, List.length_append]; omega

abbrev itTy : Ty := .fcons .bs (.fcons .bs (.fcons (.i .i64) .fnil))
abbrev evTy : Ty := .fcons (.i .i64) (.fcons (.i .i64) (.fcons .bs (.fcons .bs .fnil)))
abbrev anTy : Ty := .fcons (.i .i64) (.fcons (.i .i64) (.fcons .b (.fcons .b (.fcons .bs (.fcons (.i .i64) (.fcons (.sl itTy) (.fcons (.sl evTy) (.fcons .b .fnil))))))))
theorem an_ok : Ty.ok Try.prog anTy 27 = true := by kernel_rfl
theorem an_un : ∃ fs, (Try.prog).underlying 27 = some (.struct fs) := ⟨_, Try.underlying27⟩
theorem it_R {h : GH} {cs : List Value} {x : itTy.den} (r : itTy.R h cs x) : RIt h cs (x.1, x.2.1, x.2.2.1) := by
  obtain ⟨y1, y2, y3, y4⟩ := x
  obtain ⟨c1, c2, rfl, _, ⟨v, rfl, r1, _⟩, c3, c4, rfl, _, ⟨w, rfl, r2, _⟩, c5, c6, rfl, _, ⟨rfl, _⟩, rfl⟩ := r
  obtain ⟨a, c, rfl, _⟩ := r1.form
  obtain ⟨b, d, rfl, _⟩ := r2.form
  exact ⟨_, _, _, _, _, _, rfl, r1, r2⟩
theorem ev_R {h : GH} {cs : List Value} {x : evTy.den} (r : evTy.R h cs x) : REv h cs (x.1, x.2.1, x.2.2.1, x.2.2.2.1) := by
  obtain ⟨y1, y2, y3, y4, y5⟩ := x
  obtain ⟨c1, c2, rfl, _, ⟨rfl, _⟩, c3, c4, rfl, _, ⟨rfl, _⟩, c5, c6, rfl, _, ⟨v, rfl, r1, _⟩, c7, c8, rfl, _, ⟨w, rfl, r2, _⟩, rfl⟩ := r
  obtain ⟨a, c, rfl, _⟩ := r1.form
  obtain ⟨b, d, rfl, _⟩ := r2.form
  exact ⟨_, _, _, _, _, _, rfl, r1, r2⟩
end Go.Gh

/- Answers, read: what is read of any bytes; the program's reader. -/

namespace Go.Gh
open Go Go.Proofs Go.RowKit
set_option linter.unusedVariables false
set_option linter.unusedSimpArgs false
set_option maxRecDepth 100000
set_option maxHeartbeats 2000000

def St.itl (s : St) : Nat → List It × St
  | 0 => ([], s)
  | n + 1 => ((s.itl n).1 ++ [(((s.itl n).2.bytes 300).1, (((s.itl n).2.bytes 300).2.bytes 300).1, ((((s.itl n).2.bytes 300).2.bytes 300).2.uint 2147483648).1)], ((((s.itl n).2.bytes 300).2.bytes 300).2.uint 2147483648).2)
def St.evl (s : St) : Nat → List Ev × St
  | 0 => ([], s)
  | n + 1 => ((s.evl n).1 ++ [(((s.evl n).2.uint 2147483648).1, (((s.evl n).2.uint 2147483648).2.uint 2147483648).1, ((((s.evl n).2.uint 2147483648).2.uint 2147483648).2.bytes 300).1, (((((s.evl n).2.uint 2147483648).2.uint 2147483648).2.bytes 300).2.bytes 300).1)], (((((s.evl n).2.uint 2147483648).2.uint 2147483648).2.bytes 300).2.bytes 300).2)
theorem St.itl_len (s : St) : ∀ n, (s.itl n).1.length = n ∧ (s.itl n).2.b.length ≤ s.b.length
  | 0 => ⟨rfl, Nat.le_refl _⟩
  | n + 1 => by
    obtain ⟨h1, h2⟩ := St.itl_len s n
    have h3 := St.bytes_len (s.itl n).2 300
    have h4 := St.bytes_len ((s.itl n).2.bytes 300).2 300
    have h5 := (St.uint_len (((s.itl n).2.bytes 300).2.bytes 300).2 2147483648).1
    refine ⟨by simp [St.itl, h1], ?_⟩
    show ((((s.itl n).2.bytes 300).2.bytes 300).2.uint 2147483648).2.b.length ≤ s.b.length
    omega
theorem St.evl_len (s : St) : ∀ n, (s.evl n).1.length = n ∧ (s.evl n).2.b.length ≤ s.b.length
  | 0 => ⟨rfl, Nat.le_refl _⟩
  | n + 1 => by
    obtain ⟨h1, h2⟩ := St.evl_len s n
    have h3 := (St.uint_len (s.evl n).2 2147483648).1
    have h4 := (St.uint_len ((s.evl n).2.uint 2147483648).2 2147483648).1
    have h5 := St.bytes_len (((s.evl n).2.uint 2147483648).2.uint 2147483648).2 300
    have h6 := St.bytes_len ((((s.evl n).2.uint 2147483648).2.uint 2147483648).2.bytes 300).2 300
    refine ⟨by simp [St.evl, h1], ?_⟩
    show (((((s.evl n).2.uint 2147483648).2.uint 2147483648).2.bytes 300).2.bytes 300).2.b.length ≤ s.b.length
    omega
/-- What each part of an answer reads. -/
def rone (q : An) (s : St) : An × St :=
  if s.flag.1 = true then ({ q with pr := true, ky := (s.flag.2.bytes 300).1, si := ((s.flag.2.bytes 300).2.uint 2147483648).1 }, ((s.flag.2.bytes 300).2.uint 2147483648).2)
  else ({ q with pr := false }, s.flag.2)
def ritems (q : An) (s : St) : An × St :=
  ({ q with its := ((s.uint 32).2.itl (s.uint 32).1.toNat).1, mo := ((s.uint 32).2.itl (s.uint 32).1.toNat).2.flag.1 }, ((s.uint 32).2.itl (s.uint 32).1.toNat).2.flag.2)
def revs0 (q : An) (l : List Ev) (t : St) : An × St :=
  if t.flag.1 = true then ({ q with evs := l, mo := true, ep := (t.flag.2.uint 2147483648).1, si := ((t.flag.2.uint 2147483648).2.uint 2147483648).1 }, ((t.flag.2.uint 2147483648).2.uint 2147483648).2)
  else ({ q with evs := l, mo := false }, t.flag.2)
def revs (q : An) (s : St) : An × St := revs0 q ((s.uint 32).2.evl (s.uint 32).1.toNat).1 ((s.uint 32).2.evl (s.uint 32).1.toNat).2
def An.z (k : Int) : An := ⟨k, 0, 0, false, false, false, [], [], []⟩
def rbody (kind : Int) (q : An) (s : St) : An × St :=
  if kind = 1 then ({ q with ep := (s.uint 2147483648).1 }, (s.uint 2147483648).2)
  else if kind = 3 then rone q s
  else if kind = 4 then rone { q with ep := (s.uint 2147483648).1 } (s.uint 2147483648).2
  else if kind = 5 then rone { q with sm := s.flag.1 } s.flag.2
  else if kind = 6 ∨ kind = 10 then ritems q s
  else if kind = 7 then revs q s
  else (q, s)
def rfin (p : An × St) : An × List UInt8 × Int := if p.2.e = 0 then (p.1, p.2.b, 0) else (An.z 0, [], p.2.e)
/-- What bytes are as an answer of a kind. -/
def rans (kind : Int) (l : List UInt8) : An × List UInt8 × Int :=
  rfin (rbody (if ((St.mk l 0).uint 2147483648).1 = 0 then kind else 0) (An.z ((St.mk l 0).uint 2147483648).1) ((St.mk l 0).uint 2147483648).2)

/-- All but two blocks. -/
def H2 (a b : Nat) (h h' : GH) : Prop := ∀ j B, j ≠ a → j ≠ b → h j = some B → h' j = some B
theorem H2.refl (a b : Nat) (h : GH) : H2 a b h h := fun _ _ _ _ e => e
theorem H2.trans {a b : Nat} {h h' h'' : GH} (x : H2 a b h h') (y : H2 a b h' h'') : H2 a b h h'' := fun j B n m e => y j B n m (x j B n m e)
theorem HS.h2 {a b : Nat} {h h' : GH} (x : HS h h') : H2 a b h h' := fun j B _ _ e => x j B e
theorem HX.h2a {a b : Nat} {h h' : GH} (x : HX a h h') : H2 a b h h' := fun j B n _ e => x j B n e
theorem HX.h2b {a b : Nat} {h h' : GH} (x : HX b h h') : H2 a b h h' := fun j B _ n e => x j B n e
def hcut (h : GH) (a b : Nat) : GH := fun j => if j = a ∨ j = b then none else h j
theorem H2.hs {a b : Nat} {h h' : GH} (x : H2 a b h h') : HS (hcut h a b) h' := fun j B e => by
  unfold hcut at e
  split at e
  · cases e
  · rename_i n
    simp only [not_or] at n
    exact x j B n.1 n.2 e
abbrev inV (kr : Nat) : Value := .agg #[.pointer (some ⟨kr, 0, none⟩)]
theorem i_num {N kr : Nat} {h : GH} {s : St} (r : RD h kr s) (hb : s.b.length ≤ 140737488355328) : GTri Try.prog N 25 [inV kr] h fun v h' => v = .int .i64 (s.uint 2147483648).1 ∧ RD h' kr (s.uint 2147483648).2 ∧ HX kr h h' := by
  refine gtri Try.func25 rfl gf25 ok25 (by simp [Try.ntmps25]) ?_
  repeat' (first | (with_reducible first | refine gw_seq ?_ | refine gw_block ?_) | ((first | (with_reducible first | refine gw_region ?_ | refine gw_if ?_ | refine gw_skip ?_ | refine gw_exit ?_ | refine gw_ret ?_) | ((with_reducible first | refine gif_b (fun hb => ?_) (fun hb => ?_) | refine want_t (fun hb => ?_) (fun hb => ?_) | refine want_f (fun hb => ?_) (fun hb => ?_)) <;> (try simp only [hb]) <;> (try simp only [hpr] at hb))) <;> try simp only [List.map, gop, ev, lk, aenv, gyield, gBin, gInt, gStrOp, gUn, gPick, gNil, gExtract, gIfc, gConvK, gIndexO, gIndexVO, gMakeV, gMinV, gMaxV, isInt, gMin, gMax, gBlt, gCallV, gInvoke, gNilM, Array.toList_map, vcells, gField, gIndexV, gPart, reduceIte, Nat.reduceAdd, Nat.reduceSub, Nat.reduceMul, Nat.reduceLT, Nat.reduceLeDiff, Nat.reduceEqDiff, Nat.reduceBEq, Int.reduceLT, Int.reduceLE, Int.reduceGT, Int.reduceGE, Int.reduceEq, Int.reduceNe, Int.reduceAdd, Int.reduceSub, Int.reduceMul, Int.reduceNeg, Int.reduceToNat, Int.reduceBEq, Int.reduceBNe, Int.cast_ofNat_Int, List.getElem?_toArray, stp, Try.underlying100, Try.underlying3, Try.underlying50, Try.underlying53, ty100, ty53, ty3, ty50, rs25]))
  refine box_g rfl fun k1 h1 m1 s1 f1 n1 => ?_
  refine mk_of ?_; repeat' (first | (with_reducible first | refine gw_seq ?_ | refine gw_block ?_) | ((first | (with_reducible refine mk_to ?_) | (with_reducible first | refine gw_region ?_ | refine gw_if ?_ | refine gw_skip ?_ | refine gw_exit ?_ | refine gw_ret ?_) | ((with_reducible first | refine gif_b (fun hb => ?_) (fun hb => ?_) | refine want_t (fun hb => ?_) (fun hb => ?_) | refine want_f (fun hb => ?_) (fun hb => ?_)) <;> (try simp only [hb]) <;> (try simp only [hpr] at hb))) <;> try simp only [List.map, gop, ev, lk, aenv, gyield, gBin, gInt, gStrOp, gUn, gPick, gNil, gExtract, gIfc, gConvK, gIndexO, gIndexVO, gMakeV, gMinV, gMaxV, isInt, gMin, gMax, gBlt, gCallV, gInvoke, gNilM, Array.toList_map, vcells, gField, gIndexV, gPart, reduceIte, Nat.reduceAdd, Nat.reduceSub, Nat.reduceMul, Nat.reduceLT, Nat.reduceLeDiff, Nat.reduceEqDiff, Nat.reduceBEq, Int.reduceLT, Int.reduceLE, Int.reduceGT, Int.reduceGE, Int.reduceEq, Int.reduceNe, Int.reduceAdd, Int.reduceSub, Int.reduceMul, Int.reduceNeg, Int.reduceToNat, Int.reduceBEq, Int.reduceBNe, Int.cast_ofNat_Int, List.getElem?_toArray, stp, Try.underlying100, Try.underlying3, Try.underlying50, Try.underlying53, ty100, ty53, ty3, ty50, rs25, gload1 m1 sz50]))
  refine (c_RUint N h1 (r.hs s1) 2147483648 hb).mono ?_
  rintro _ h2 ⟨rfl, r2, x2⟩
  refine mk_of ?_; repeat' (first | (with_reducible first | refine gw_seq ?_ | refine gw_block ?_) | ((first | (with_reducible refine mk_to ?_) | (with_reducible first | refine gw_region ?_ | refine gw_if ?_ | refine gw_skip ?_ | refine gw_exit ?_ | refine gw_ret ?_) | ((with_reducible first | refine gif_b (fun hb => ?_) (fun hb => ?_) | refine want_t (fun hb => ?_) (fun hb => ?_) | refine want_f (fun hb => ?_) (fun hb => ?_)) <;> (try simp only [hb]) <;> (try simp only [hpr] at hb))) <;> try simp only [List.map, gop, ev, lk, aenv, gyield, gBin, gInt, gStrOp, gUn, gPick, gNil, gExtract, gIfc, gConvK, gIndexO, gIndexVO, gMakeV, gMinV, gMaxV, isInt, gMin, gMax, gBlt, gCallV, gInvoke, gNilM, Array.toList_map, vcells, gField, gIndexV, gPart, reduceIte, Nat.reduceAdd, Nat.reduceSub, Nat.reduceMul, Nat.reduceLT, Nat.reduceLeDiff, Nat.reduceEqDiff, Nat.reduceBEq, Int.reduceLT, Int.reduceLE, Int.reduceGT, Int.reduceGE, Int.reduceEq, Int.reduceNe, Int.reduceAdd, Int.reduceSub, Int.reduceMul, Int.reduceNeg, Int.reduceToNat, Int.reduceBEq, Int.reduceBNe, Int.cast_ofNat_Int, List.getElem?_toArray, stp, Try.underlying100, Try.underlying3, Try.underlying50, Try.underlying53, ty100, ty53, ty3, ty50, rs25]))
  exact ⟨r2, (s1.hx kr).trans x2⟩
theorem i_word {N kr : Nat} {h : GH} {s : St} (r : RD h kr s) (hb : s.b.length ≤ 140737488355328) : GTri Try.prog N 63 [inV kr] h fun v h' => RD h' kr (s.bytes 300).2 ∧ HX kr h h' ∧ ∃ a c, v = .slice a (s.bytes 300).1.length c ∧ RB h' (.slice a (s.bytes 300).1.length c) (s.bytes 300).1 := by
  refine gtri Try.func63 rfl gf63 ok63 (by simp [Try.ntmps63]) ?_
  repeat' (first | (with_reducible first | refine gw_seq ?_ | refine gw_block ?_) | ((first | (with_reducible first | refine gw_region ?_ | refine gw_if ?_ | refine gw_skip ?_ | refine gw_exit ?_ | refine gw_ret ?_) | ((with_reducible first | refine gif_b (fun hb => ?_) (fun hb => ?_) | refine want_t (fun hb => ?_) (fun hb => ?_) | refine want_f (fun hb => ?_) (fun hb => ?_)) <;> (try simp only [hb]) <;> (try simp only [hpr] at hb))) <;> try simp only [List.map, gop, ev, lk, aenv, gyield, gBin, gInt, gStrOp, gUn, gPick, gNil, gExtract, gIfc, gConvK, gIndexO, gIndexVO, gMakeV, gMinV, gMaxV, isInt, gMin, gMax, gBlt, gCallV, gInvoke, gNilM, Array.toList_map, vcells, gField, gIndexV, gPart, reduceIte, Nat.reduceAdd, Nat.reduceSub, Nat.reduceMul, Nat.reduceLT, Nat.reduceLeDiff, Nat.reduceEqDiff, Nat.reduceBEq, Int.reduceLT, Int.reduceLE, Int.reduceGT, Int.reduceGE, Int.reduceEq, Int.reduceNe, Int.reduceAdd, Int.reduceSub, Int.reduceMul, Int.reduceNeg, Int.reduceToNat, Int.reduceBEq, Int.reduceBNe, Int.cast_ofNat_Int, List.getElem?_toArray, stp, Try.underlying100, Try.underlying3, Try.underlying50, Try.underlying53, ty100, ty53, ty3, ty50, rs63]))
  refine box_g rfl fun k1 h1 m1 s1 f1 n1 => ?_
  refine mk_of ?_; repeat' (first | (with_reducible first | refine gw_seq ?_ | refine gw_block ?_) | ((first | (with_reducible refine mk_to ?_) | (with_reducible first | refine gw_region ?_ | refine gw_if ?_ | refine gw_skip ?_ | refine gw_exit ?_ | refine gw_ret ?_) | ((with_reducible first | refine gif_b (fun hb => ?_) (fun hb => ?_) | refine want_t (fun hb => ?_) (fun hb => ?_) | refine want_f (fun hb => ?_) (fun hb => ?_)) <;> (try simp only [hb]) <;> (try simp only [hpr] at hb))) <;> try simp only [List.map, gop, ev, lk, aenv, gyield, gBin, gInt, gStrOp, gUn, gPick, gNil, gExtract, gIfc, gConvK, gIndexO, gIndexVO, gMakeV, gMinV, gMaxV, isInt, gMin, gMax, gBlt, gCallV, gInvoke, gNilM, Array.toList_map, vcells, gField, gIndexV, gPart, reduceIte, Nat.reduceAdd, Nat.reduceSub, Nat.reduceMul, Nat.reduceLT, Nat.reduceLeDiff, Nat.reduceEqDiff, Nat.reduceBEq, Int.reduceLT, Int.reduceLE, Int.reduceGT, Int.reduceGE, Int.reduceEq, Int.reduceNe, Int.reduceAdd, Int.reduceSub, Int.reduceMul, Int.reduceNeg, Int.reduceToNat, Int.reduceBEq, Int.reduceBNe, Int.cast_ofNat_Int, List.getElem?_toArray, stp, Try.underlying100, Try.underlying3, Try.underlying50, Try.underlying53, ty100, ty53, ty3, ty50, rs63, gload1 m1 sz50]))
  refine (c_RBytes N h1 (r.hs s1) 300 hb).mono ?_
  rintro _ h2 ⟨r2, x2, a, c, rfl, q2⟩
  refine mk_of ?_; repeat' (first | (with_reducible first | refine gw_seq ?_ | refine gw_block ?_) | ((first | (with_reducible refine mk_to ?_) | (with_reducible first | refine gw_region ?_ | refine gw_if ?_ | refine gw_skip ?_ | refine gw_exit ?_ | refine gw_ret ?_) | ((with_reducible first | refine gif_b (fun hb => ?_) (fun hb => ?_) | refine want_t (fun hb => ?_) (fun hb => ?_) | refine want_f (fun hb => ?_) (fun hb => ?_)) <;> (try simp only [hb]) <;> (try simp only [hpr] at hb))) <;> try simp only [List.map, gop, ev, lk, aenv, gyield, gBin, gInt, gStrOp, gUn, gPick, gNil, gExtract, gIfc, gConvK, gIndexO, gIndexVO, gMakeV, gMinV, gMaxV, isInt, gMin, gMax, gBlt, gCallV, gInvoke, gNilM, Array.toList_map, vcells, gField, gIndexV, gPart, reduceIte, Nat.reduceAdd, Nat.reduceSub, Nat.reduceMul, Nat.reduceLT, Nat.reduceLeDiff, Nat.reduceEqDiff, Nat.reduceBEq, Int.reduceLT, Int.reduceLE, Int.reduceGT, Int.reduceGE, Int.reduceEq, Int.reduceNe, Int.reduceAdd, Int.reduceSub, Int.reduceMul, Int.reduceNeg, Int.reduceToNat, Int.reduceBEq, Int.reduceBNe, Int.cast_ofNat_Int, List.getElem?_toArray, stp, Try.underlying100, Try.underlying3, Try.underlying50, Try.underlying53, ty100, ty53, ty3, ty50, rs63]))
  exact ⟨r2, (s1.hx kr).trans x2, a, c, rfl, q2⟩
/-- An answer that is read: as yet without texts, or whole. -/
def T0 (h : GH) (kr ka : Nat) (q : An) (s : St) : Prop := RD h kr s ∧ h ka = some ⟨q.cs (.slice none 0 0) (.slice none 0 0) (.slice none 0 0), 0, true, false⟩ ∧ q.ky = [] ∧ q.its = [] ∧ q.evs = [] ∧ s.b.length ≤ 140737488355328
def T1 (h : GH) (kr ka : Nat) (q : An) (s : St) : Prop := RD h kr s ∧ ∃ a c b d b' d', h ka = some ⟨q.cs (.slice a q.ky.length c) (.slice b q.its.length d) (.slice b' q.evs.length d'), 0, true, false⟩ ∧ RB h (.slice a q.ky.length c) q.ky ∧ LI h (.slice b q.its.length d) q.its ∧ LE h (.slice b' q.evs.length d') q.evs
theorem T0.one {h : GH} {kr ka : Nat} {q : An} {s : St} (t : T0 h kr ka q s) : T1 h kr ka q s := by
  obtain ⟨r, m, e1, e2, e3, _⟩ := t
  exact ⟨r, none, 0, none, 0, none, 0, by rw [e1, e2, e3]; exact m, by rw [e1]; exact RB.nil _, by rw [e2]; exact RL.nil _, by rw [e3]; exact RL.nil _⟩
theorem T0.ne {h : GH} {kr ka : Nat} {q : An} {s : St} (t : T0 h kr ka q s) : kr ≠ ka := by
  obtain ⟨r, m, _⟩ := t
  obtain ⟨_, _, e, _⟩ := r
  exact ne_cells e m (by simp [An.cs])

theorem i_one {N kr ka : Nat} {h : GH} {q : An} {s : St} (t : T0 h kr ka q s) : GTri Try.prog N 26 [inV kr, .pointer (some ⟨ka, 0, none⟩)] h fun _ h' => T1 h' kr ka (rone q s).1 (rone q s).2 ∧ H2 kr ka h h' := by
  have ne := t.ne
  obtain ⟨r, m, e1, e2, e3, hb⟩ := t
  have fl := s.flag_len
  have bl := St.bytes_len s.flag.2 300
  generalize hR : rone q s = R
  obtain ⟨cd, ep, si, pr, sm, mo, ky, its, evs⟩ := q
  simp only at e1 e2 e3
  subst e1 e2 e3
  refine gtri Try.func26 rfl gf26 ok26 (by simp [Try.ntmps26]) ?_
  repeat' (first | (with_reducible first | refine gw_seq ?_ | refine gw_block ?_) | ((first | (with_reducible first | refine gw_region ?_ | refine gw_if ?_ | refine gw_skip ?_ | refine gw_exit ?_ | refine gw_ret ?_) | ((with_reducible first | refine gif_b (fun hb => ?_) (fun hb => ?_) | refine want_t (fun hb => ?_) (fun hb => ?_) | refine want_f (fun hb => ?_) (fun hb => ?_) | refine dr_t (fun hb => ?_) (fun hb => ?_) | refine dr_f (fun hb => ?_) (fun hb => ?_)) <;> (try simp only [hb]) <;> (try simp only [hpr] at hb)) | with_reducible refine gw_draw (id := 3) [(0, []), (1, []), (2, []), (4, []), (3, [4]), (5, []), (6, []), (7, []), (8, []), (9, []), (10, []), (11, [])] [0, 0, 0, 4, 0, 28, 61, 125, 253, 511, 1023, 2047] mixed (by kernel_rfl) ?_) <;> try simp only [List.map, gop, ev, lk, aenv, gyield, gBin, gInt, gStrOp, gUn, gPick, gNil, gExtract, gIfc, gConvK, gIndexO, gIndexVO, gMakeV, gMinV, gMaxV, isInt, gMin, gMax, gBlt, gCallV, gInvoke, gNilM, Array.toList_map, vcells, gField, gIndexV, gPart, reduceIte, Nat.reduceAdd, Nat.reduceSub, Nat.reduceMul, Nat.reduceLT, Nat.reduceLeDiff, Nat.reduceEqDiff, Nat.reduceBEq, Int.reduceLT, Int.reduceLE, Int.reduceGT, Int.reduceGE, Int.reduceEq, Int.reduceNe, Int.reduceAdd, Int.reduceSub, Int.reduceMul, Int.reduceNeg, Int.reduceToNat, Int.reduceBEq, Int.reduceBNe, Int.cast_ofNat_Int, List.getElem?_toArray, stp, rvOf, wlk, rdv, isEff, dsOf, sgl, stq, Try.underlying100, Try.underlying22, Try.underlying23, Try.underlying24, Try.underlying25, Try.underlying27, Try.underlying3, Try.underlying4, Try.underlying5, Try.underlying50, Try.underlying53, ty22, ty24, ty25, ty100, ty27, ty53, ty23, ty3, ty4, ty5, ty50, rs26]))
  refine box_g rfl fun k1 h1 m1 s1 f1 n1 => ?_
  obtain ⟨_, _, md, _⟩ := r.form
  have k1r : k1 ≠ kr := (ne_of md n1).symm
  have k1a : k1 ≠ ka := (ne_of m n1).symm
  refine mk_of ?_; repeat' (first | (with_reducible first | refine gw_seq ?_ | refine gw_block ?_) | ((first | (with_reducible refine mk_to ?_) | (with_reducible first | refine gw_region ?_ | refine gw_if ?_ | refine gw_skip ?_ | refine gw_exit ?_ | refine gw_ret ?_) | ((with_reducible first | refine gif_b (fun hb => ?_) (fun hb => ?_) | refine want_t (fun hb => ?_) (fun hb => ?_) | refine want_f (fun hb => ?_) (fun hb => ?_) | refine dr_t (fun hb => ?_) (fun hb => ?_) | refine dr_f (fun hb => ?_) (fun hb => ?_)) <;> (try simp only [hb]) <;> (try simp only [hpr] at hb)) | with_reducible refine gw_draw (id := 3) [(0, []), (1, []), (2, []), (4, []), (3, [4]), (5, []), (6, []), (7, []), (8, []), (9, []), (10, []), (11, [])] [0, 0, 0, 4, 0, 28, 61, 125, 253, 511, 1023, 2047] mixed (by kernel_rfl) ?_) <;> try simp only [List.map, gop, ev, lk, aenv, gyield, gBin, gInt, gStrOp, gUn, gPick, gNil, gExtract, gIfc, gConvK, gIndexO, gIndexVO, gMakeV, gMinV, gMaxV, isInt, gMin, gMax, gBlt, gCallV, gInvoke, gNilM, Array.toList_map, vcells, gField, gIndexV, gPart, reduceIte, Nat.reduceAdd, Nat.reduceSub, Nat.reduceMul, Nat.reduceLT, Nat.reduceLeDiff, Nat.reduceEqDiff, Nat.reduceBEq, Int.reduceLT, Int.reduceLE, Int.reduceGT, Int.reduceGE, Int.reduceEq, Int.reduceNe, Int.reduceAdd, Int.reduceSub, Int.reduceMul, Int.reduceNeg, Int.reduceToNat, Int.reduceBEq, Int.reduceBNe, Int.cast_ofNat_Int, List.getElem?_toArray, stp, rvOf, wlk, rdv, isEff, dsOf, sgl, stq, Try.underlying100, Try.underlying22, Try.underlying23, Try.underlying24, Try.underlying25, Try.underlying27, Try.underlying3, Try.underlying4, Try.underlying5, Try.underlying50, Try.underlying53, ty22, ty24, ty25, ty100, ty27, ty53, ty23, ty3, ty4, ty5, ty50, rs26, gload1 m1 sz50]))
  refine (c_RFlag N h1 (r.hs s1) hb).mono ?_
  rintro _ h2 ⟨rfl, r2, x2⟩
  have m2 := x2 _ _ ne.symm (s1 _ _ m)
  simp only [An.cs] at m2
  refine mk_of ?_; repeat' (first | (with_reducible first | refine gw_seq ?_ | refine gw_block ?_) | ((first | (with_reducible refine mk_to ?_) | (with_reducible first | refine gw_region ?_ | refine gw_if ?_ | refine gw_skip ?_ | refine gw_exit ?_ | refine gw_ret ?_) | ((with_reducible first | refine gif_b (fun hb => ?_) (fun hb => ?_) | refine want_t (fun hb => ?_) (fun hb => ?_) | refine want_f (fun hb => ?_) (fun hb => ?_) | refine dr_t (fun hb => ?_) (fun hb => ?_) | refine dr_f (fun hb => ?_) (fun hb => ?_)) <;> (try simp only [hb]) <;> (try simp only [hpr] at hb)) | with_reducible refine gw_draw (id := 3) [(0, []), (1, []), (2, []), (4, []), (3, [4]), (5, []), (6, []), (7, []), (8, []), (9, []), (10, []), (11, [])] [0, 0, 0, 4, 0, 28, 61, 125, 253, 511, 1023, 2047] mixed (by kernel_rfl) ?_) <;> try simp only [List.map, gop, ev, lk, aenv, gyield, gBin, gInt, gStrOp, gUn, gPick, gNil, gExtract, gIfc, gConvK, gIndexO, gIndexVO, gMakeV, gMinV, gMaxV, isInt, gMin, gMax, gBlt, gCallV, gInvoke, gNilM, Array.toList_map, vcells, gField, gIndexV, gPart, reduceIte, Nat.reduceAdd, Nat.reduceSub, Nat.reduceMul, Nat.reduceLT, Nat.reduceLeDiff, Nat.reduceEqDiff, Nat.reduceBEq, Int.reduceLT, Int.reduceLE, Int.reduceGT, Int.reduceGE, Int.reduceEq, Int.reduceNe, Int.reduceAdd, Int.reduceSub, Int.reduceMul, Int.reduceNeg, Int.reduceToNat, Int.reduceBEq, Int.reduceBNe, Int.cast_ofNat_Int, List.getElem?_toArray, stp, rvOf, wlk, rdv, isEff, dsOf, sgl, stq, Try.underlying100, Try.underlying22, Try.underlying23, Try.underlying24, Try.underlying25, Try.underlying27, Try.underlying3, Try.underlying4, Try.underlying5, Try.underlying50, Try.underlying53, ty22, ty24, ty25, ty100, ty27, ty53, ty23, ty3, ty4, ty5, ty50, rs26, gNil]))
  refine st_one m2 sz4 rfl (by simp) rfl rfl fun h3 m3 f3 => ?_
  have x3 : HX ka h2 h3 := fun j B n e => by rw [f3 j n]; exact e
  have r3 := r2.hl m2 (by simp) rfl x3 ne
  have m13 := x3 _ _ k1a (x2 _ _ k1r m1)
  have y3 : H2 kr ka h h3 := (s1.h2.trans x2.h2a).trans x3.h2b
  cases hf : s.flag.1
  · rw [hf] at m3
    refine mk_of ?_; repeat' (first | (with_reducible first | refine gw_seq ?_ | refine gw_block ?_) | ((first | (with_reducible refine mk_to ?_) | (with_reducible first | refine gw_region ?_ | refine gw_if ?_ | refine gw_skip ?_ | refine gw_exit ?_ | refine gw_ret ?_) | ((with_reducible first | refine gif_b (fun hb => ?_) (fun hb => ?_) | refine want_t (fun hb => ?_) (fun hb => ?_) | refine want_f (fun hb => ?_) (fun hb => ?_) | refine dr_t (fun hb => ?_) (fun hb => ?_) | refine dr_f (fun hb => ?_) (fun hb => ?_)) <;> (try simp only [hb]) <;> (try simp only [hpr] at hb)) | with_reducible refine gw_draw (id := 3) [(0, []), (1, []), (2, []), (4, []), (3, [4]), (5, []), (6, []), (7, []), (8, []), (9, []), (10, []), (11, [])] [0, 0, 0, 4, 0, 28, 61, 125, 253, 511, 1023, 2047] mixed (by kernel_rfl) ?_) <;> try simp only [List.map, gop, ev, lk, aenv, gyield, gBin, gInt, gStrOp, gUn, gPick, gNil, gExtract, gIfc, gConvK, gIndexO, gIndexVO, gMakeV, gMinV, gMaxV, isInt, gMin, gMax, gBlt, gCallV, gInvoke, gNilM, Array.toList_map, vcells, gField, gIndexV, gPart, reduceIte, Nat.reduceAdd, Nat.reduceSub, Nat.reduceMul, Nat.reduceLT, Nat.reduceLeDiff, Nat.reduceEqDiff, Nat.reduceBEq, Int.reduceLT, Int.reduceLE, Int.reduceGT, Int.reduceGE, Int.reduceEq, Int.reduceNe, Int.reduceAdd, Int.reduceSub, Int.reduceMul, Int.reduceNeg, Int.reduceToNat, Int.reduceBEq, Int.reduceBNe, Int.cast_ofNat_Int, List.getElem?_toArray, stp, rvOf, wlk, rdv, isEff, dsOf, sgl, stq, Try.underlying100, Try.underlying22, Try.underlying23, Try.underlying24, Try.underlying25, Try.underlying27, Try.underlying3, Try.underlying4, Try.underlying5, Try.underlying50, Try.underlying53, ty22, ty24, ty25, ty100, ty27, ty53, ty23, ty3, ty4, ty5, ty50, rs26, gNil, gload1 m3 sz4]))
    rw [← hR, rone, if_neg (by rw [hf]; simp)]
    exact ⟨⟨r3, none, 0, none, 0, none, 0, m3, RB.nil _, RL.nil _, RL.nil _⟩, y3⟩
  rw [hf] at m3
  refine mk_of ?_; repeat' (first | (with_reducible first | refine gw_seq ?_ | refine gw_block ?_) | ((first | (with_reducible refine mk_to ?_) | (with_reducible first | refine gw_region ?_ | refine gw_if ?_ | refine gw_skip ?_ | refine gw_exit ?_ | refine gw_ret ?_) | ((with_reducible first | refine gif_b (fun hb => ?_) (fun hb => ?_) | refine want_t (fun hb => ?_) (fun hb => ?_) | refine want_f (fun hb => ?_) (fun hb => ?_) | refine dr_t (fun hb => ?_) (fun hb => ?_) | refine dr_f (fun hb => ?_) (fun hb => ?_)) <;> (try simp only [hb]) <;> (try simp only [hpr] at hb)) | with_reducible refine gw_draw (id := 3) [(0, []), (1, []), (2, []), (4, []), (3, [4]), (5, []), (6, []), (7, []), (8, []), (9, []), (10, []), (11, [])] [0, 0, 0, 4, 0, 28, 61, 125, 253, 511, 1023, 2047] mixed (by kernel_rfl) ?_) <;> try simp only [List.map, gop, ev, lk, aenv, gyield, gBin, gInt, gStrOp, gUn, gPick, gNil, gExtract, gIfc, gConvK, gIndexO, gIndexVO, gMakeV, gMinV, gMaxV, isInt, gMin, gMax, gBlt, gCallV, gInvoke, gNilM, Array.toList_map, vcells, gField, gIndexV, gPart, reduceIte, Nat.reduceAdd, Nat.reduceSub, Nat.reduceMul, Nat.reduceLT, Nat.reduceLeDiff, Nat.reduceEqDiff, Nat.reduceBEq, Int.reduceLT, Int.reduceLE, Int.reduceGT, Int.reduceGE, Int.reduceEq, Int.reduceNe, Int.reduceAdd, Int.reduceSub, Int.reduceMul, Int.reduceNeg, Int.reduceToNat, Int.reduceBEq, Int.reduceBNe, Int.cast_ofNat_Int, List.getElem?_toArray, stp, rvOf, wlk, rdv, isEff, dsOf, sgl, stq, Try.underlying100, Try.underlying22, Try.underlying23, Try.underlying24, Try.underlying25, Try.underlying27, Try.underlying3, Try.underlying4, Try.underlying5, Try.underlying50, Try.underlying53, ty22, ty24, ty25, ty100, ty27, ty53, ty23, ty3, ty4, ty5, ty50, rs26, gNil, gload1 m3 sz4, gloadA m13 sz53 rfl]))
  refine (i_word r3 (by omega)).mono ?_
  rintro _ h4 ⟨r4, x4, a4, c4, rfl, q4⟩
  have m4 := x4 _ _ ne.symm m3
  have m14 := x4 _ _ k1r m13
  refine mk_of ?_; repeat' (first | (with_reducible first | refine gw_seq ?_ | refine gw_block ?_) | ((first | (with_reducible refine mk_to ?_) | (with_reducible first | refine gw_region ?_ | refine gw_if ?_ | refine gw_skip ?_ | refine gw_exit ?_ | refine gw_ret ?_) | ((with_reducible first | refine gif_b (fun hb => ?_) (fun hb => ?_) | refine want_t (fun hb => ?_) (fun hb => ?_) | refine want_f (fun hb => ?_) (fun hb => ?_) | refine dr_t (fun hb => ?_) (fun hb => ?_) | refine dr_f (fun hb => ?_) (fun hb => ?_)) <;> (try simp only [hb]) <;> (try simp only [hpr] at hb)) | with_reducible refine gw_draw (id := 3) [(0, []), (1, []), (2, []), (4, []), (3, [4]), (5, []), (6, []), (7, []), (8, []), (9, []), (10, []), (11, [])] [0, 0, 0, 4, 0, 28, 61, 125, 253, 511, 1023, 2047] mixed (by kernel_rfl) ?_) <;> try simp only [List.map, gop, ev, lk, aenv, gyield, gBin, gInt, gStrOp, gUn, gPick, gNil, gExtract, gIfc, gConvK, gIndexO, gIndexVO, gMakeV, gMinV, gMaxV, isInt, gMin, gMax, gBlt, gCallV, gInvoke, gNilM, Array.toList_map, vcells, gField, gIndexV, gPart, reduceIte, Nat.reduceAdd, Nat.reduceSub, Nat.reduceMul, Nat.reduceLT, Nat.reduceLeDiff, Nat.reduceEqDiff, Nat.reduceBEq, Int.reduceLT, Int.reduceLE, Int.reduceGT, Int.reduceGE, Int.reduceEq, Int.reduceNe, Int.reduceAdd, Int.reduceSub, Int.reduceMul, Int.reduceNeg, Int.reduceToNat, Int.reduceBEq, Int.reduceBNe, Int.cast_ofNat_Int, List.getElem?_toArray, stp, rvOf, wlk, rdv, isEff, dsOf, sgl, stq, Try.underlying100, Try.underlying22, Try.underlying23, Try.underlying24, Try.underlying25, Try.underlying27, Try.underlying3, Try.underlying4, Try.underlying5, Try.underlying50, Try.underlying53, ty22, ty24, ty25, ty100, ty27, ty53, ty23, ty3, ty4, ty5, ty50, rs26, gNil, gloadA m14 sz53 rfl]))
  refine (i_num r4 (by omega)).mono ?_
  rintro _ h5 ⟨rfl, r5, x5⟩
  have m5 := x5 _ _ ne.symm m4
  have m15 := x5 _ _ k1r m14
  have q5 := q4.rd r4 x5
  refine mk_of ?_; repeat' (first | (with_reducible first | refine gw_seq ?_ | refine gw_block ?_) | ((first | (with_reducible refine mk_to ?_) | (with_reducible first | refine gw_region ?_ | refine gw_if ?_ | refine gw_skip ?_ | refine gw_exit ?_ | refine gw_ret ?_) | ((with_reducible first | refine gif_b (fun hb => ?_) (fun hb => ?_) | refine want_t (fun hb => ?_) (fun hb => ?_) | refine want_f (fun hb => ?_) (fun hb => ?_) | refine dr_t (fun hb => ?_) (fun hb => ?_) | refine dr_f (fun hb => ?_) (fun hb => ?_)) <;> (try simp only [hb]) <;> (try simp only [hpr] at hb)) | with_reducible refine gw_draw (id := 3) [(0, []), (1, []), (2, []), (4, []), (3, [4]), (5, []), (6, []), (7, []), (8, []), (9, []), (10, []), (11, [])] [0, 0, 0, 4, 0, 28, 61, 125, 253, 511, 1023, 2047] mixed (by kernel_rfl) ?_) <;> try simp only [List.map, gop, ev, lk, aenv, gyield, gBin, gInt, gStrOp, gUn, gPick, gNil, gExtract, gIfc, gConvK, gIndexO, gIndexVO, gMakeV, gMinV, gMaxV, isInt, gMin, gMax, gBlt, gCallV, gInvoke, gNilM, Array.toList_map, vcells, gField, gIndexV, gPart, reduceIte, Nat.reduceAdd, Nat.reduceSub, Nat.reduceMul, Nat.reduceLT, Nat.reduceLeDiff, Nat.reduceEqDiff, Nat.reduceBEq, Int.reduceLT, Int.reduceLE, Int.reduceGT, Int.reduceGE, Int.reduceEq, Int.reduceNe, Int.reduceAdd, Int.reduceSub, Int.reduceMul, Int.reduceNeg, Int.reduceToNat, Int.reduceBEq, Int.reduceBNe, Int.cast_ofNat_Int, List.getElem?_toArray, stp, rvOf, wlk, rdv, isEff, dsOf, sgl, stq, Try.underlying100, Try.underlying22, Try.underlying23, Try.underlying24, Try.underlying25, Try.underlying27, Try.underlying3, Try.underlying4, Try.underlying5, Try.underlying50, Try.underlying53, ty22, ty24, ty25, ty100, ty27, ty53, ty23, ty3, ty4, ty5, ty50, rs26, gNil, gloadA m15 sz53 rfl]))
  refine st_one m5 sz22 rfl (by simp) rfl rfl fun h6 m6 f6 => ?_
  have x6 : HX ka h5 h6 := fun j B n e => by rw [f6 j n]; exact e
  refine mk_of ?_; repeat' (first | (with_reducible first | refine gw_seq ?_ | refine gw_block ?_) | ((first | (with_reducible refine mk_to ?_) | (with_reducible first | refine gw_region ?_ | refine gw_if ?_ | refine gw_skip ?_ | refine gw_exit ?_ | refine gw_ret ?_) | ((with_reducible first | refine gif_b (fun hb => ?_) (fun hb => ?_) | refine want_t (fun hb => ?_) (fun hb => ?_) | refine want_f (fun hb => ?_) (fun hb => ?_) | refine dr_t (fun hb => ?_) (fun hb => ?_) | refine dr_f (fun hb => ?_) (fun hb => ?_)) <;> (try simp only [hb]) <;> (try simp only [hpr] at hb)) | with_reducible refine gw_draw (id := 3) [(0, []), (1, []), (2, []), (4, []), (3, [4]), (5, []), (6, []), (7, []), (8, []), (9, []), (10, []), (11, [])] [0, 0, 0, 4, 0, 28, 61, 125, 253, 511, 1023, 2047] mixed (by kernel_rfl) ?_) <;> try simp only [List.map, gop, ev, lk, aenv, gyield, gBin, gInt, gStrOp, gUn, gPick, gNil, gExtract, gIfc, gConvK, gIndexO, gIndexVO, gMakeV, gMinV, gMaxV, isInt, gMin, gMax, gBlt, gCallV, gInvoke, gNilM, Array.toList_map, vcells, gField, gIndexV, gPart, reduceIte, Nat.reduceAdd, Nat.reduceSub, Nat.reduceMul, Nat.reduceLT, Nat.reduceLeDiff, Nat.reduceEqDiff, Nat.reduceBEq, Int.reduceLT, Int.reduceLE, Int.reduceGT, Int.reduceGE, Int.reduceEq, Int.reduceNe, Int.reduceAdd, Int.reduceSub, Int.reduceMul, Int.reduceNeg, Int.reduceToNat, Int.reduceBEq, Int.reduceBNe, Int.cast_ofNat_Int, List.getElem?_toArray, stp, rvOf, wlk, rdv, isEff, dsOf, sgl, stq, Try.underlying100, Try.underlying22, Try.underlying23, Try.underlying24, Try.underlying25, Try.underlying27, Try.underlying3, Try.underlying4, Try.underlying5, Try.underlying50, Try.underlying53, ty22, ty24, ty25, ty100, ty27, ty53, ty23, ty3, ty4, ty5, ty50, rs26, gNil]))
  refine st_one m6 sz3 rfl (by simp) rfl rfl fun h7 m7 f7 => ?_
  have x7 : HX ka h6 h7 := fun j B n e => by rw [f7 j n]; exact e
  refine mk_of ?_; repeat' (first | (with_reducible first | refine gw_seq ?_ | refine gw_block ?_) | ((first | (with_reducible refine mk_to ?_) | (with_reducible first | refine gw_region ?_ | refine gw_if ?_ | refine gw_skip ?_ | refine gw_exit ?_ | refine gw_ret ?_) | ((with_reducible first | refine gif_b (fun hb => ?_) (fun hb => ?_) | refine want_t (fun hb => ?_) (fun hb => ?_) | refine want_f (fun hb => ?_) (fun hb => ?_) | refine dr_t (fun hb => ?_) (fun hb => ?_) | refine dr_f (fun hb => ?_) (fun hb => ?_)) <;> (try simp only [hb]) <;> (try simp only [hpr] at hb)) | with_reducible refine gw_draw (id := 3) [(0, []), (1, []), (2, []), (4, []), (3, [4]), (5, []), (6, []), (7, []), (8, []), (9, []), (10, []), (11, [])] [0, 0, 0, 4, 0, 28, 61, 125, 253, 511, 1023, 2047] mixed (by kernel_rfl) ?_) <;> try simp only [List.map, gop, ev, lk, aenv, gyield, gBin, gInt, gStrOp, gUn, gPick, gNil, gExtract, gIfc, gConvK, gIndexO, gIndexVO, gMakeV, gMinV, gMaxV, isInt, gMin, gMax, gBlt, gCallV, gInvoke, gNilM, Array.toList_map, vcells, gField, gIndexV, gPart, reduceIte, Nat.reduceAdd, Nat.reduceSub, Nat.reduceMul, Nat.reduceLT, Nat.reduceLeDiff, Nat.reduceEqDiff, Nat.reduceBEq, Int.reduceLT, Int.reduceLE, Int.reduceGT, Int.reduceGE, Int.reduceEq, Int.reduceNe, Int.reduceAdd, Int.reduceSub, Int.reduceMul, Int.reduceNeg, Int.reduceToNat, Int.reduceBEq, Int.reduceBNe, Int.cast_ofNat_Int, List.getElem?_toArray, stp, rvOf, wlk, rdv, isEff, dsOf, sgl, stq, Try.underlying100, Try.underlying22, Try.underlying23, Try.underlying24, Try.underlying25, Try.underlying27, Try.underlying3, Try.underlying4, Try.underlying5, Try.underlying50, Try.underlying53, ty22, ty24, ty25, ty100, ty27, ty53, ty23, ty3, ty4, ty5, ty50, rs26]))
  rw [← hR, rone, if_pos hf]
  refine ⟨⟨(r5.hl m5 (by simp) rfl x6 ne).hl m6 (by simp) rfl x7 ne, a4, c4, none, 0, none, 0, m7, (q5.hx m5 rfl x6).hx m6 rfl x7, RL.nil _, RL.nil _⟩, ?_⟩
  exact (((y3.trans x4.h2a).trans x5.h2a).trans x6.h2b).trans x7.h2b
end Go.Gh

/- Answers, read by the program: pages. -/

namespace Go.Gh
open Go Go.Proofs Go.RowKit
set_option linter.unusedVariables false
set_option linter.unusedSimpArgs false
set_option maxRecDepth 100000
set_option maxHeartbeats 4000000

theorem RD.fr {h h' : GH} {s : Value} {n es : Nat} {cs : List Value} {k : Nat} {st : St} (r : RD h k st) (fr : ∀ j B, h j = some B → (j = j → ∀ kb c, s = .slice (some ⟨kb, 0, none⟩) n c → n ≠ 0 → h kb = some ⟨cs, es, true, true⟩ → j ≠ kb) → h' j = some B) (he : es ≠ 1) (h0 : es ≠ 0) (hc : cs.all notU8 = true) : RD h' k st := by
  obtain ⟨a, c, m, rb, sl⟩ := r.form
  exact ⟨a, c, fr_es fr m h0.symm, fr_rb fr hc rb, fr_sl fr he sl⟩
theorem RIt.fr {h h' : GH} {s : Value} {n es : Nat} {cs : List Value} (fr : ∀ j B, h j = some B → (j = j → ∀ kb c, s = .slice (some ⟨kb, 0, none⟩) n c → n ≠ 0 → h kb = some ⟨cs, es, true, true⟩ → j ≠ kb) → h' j = some B) (hc : cs.all notU8 = true) {ds : List Value} {y : It} (r : RIt h ds y) : RIt h' ds y := by
  obtain ⟨a, n, c, b, m', d, rfl, r1, r2⟩ := r
  exact ⟨a, n, c, b, m', d, rfl, fr_rb fr hc r1, fr_rb fr hc r2⟩
theorem REv.fr {h h' : GH} {s : Value} {n es : Nat} {cs : List Value} (fr : ∀ j B, h j = some B → (j = j → ∀ kb c, s = .slice (some ⟨kb, 0, none⟩) n c → n ≠ 0 → h kb = some ⟨cs, es, true, true⟩ → j ≠ kb) → h' j = some B) (hc : cs.all notU8 = true) {ds : List Value} {y : Ev} (r : REv h ds y) : REv h' ds y := by
  obtain ⟨a, n, c, b, m', d, rfl, r1, r2⟩ := r
  exact ⟨a, n, c, b, m', d, rfl, fr_rb fr hc r1, fr_rb fr hc r2⟩

theorem i_items {N kr ka : Nat} {h : GH} {q : An} {s : St} (t : T0 h kr ka q s) : GTri Try.prog N 28 [inV kr, .pointer (some ⟨ka, 0, none⟩)] h fun _ h' => T1 h' kr ka (ritems q s).1 (ritems q s).2 ∧ H2 kr ka h h' := by
  have ne := t.ne
  obtain ⟨r, m, e1, e2, e3, hb⟩ := t
  have ul := s.uint_len 32
  have um := St.uint_max s (most := 32) (by decide)
  generalize hR : ritems q s = R
  obtain ⟨cd, ep, si, pr, sm, mo, ky, its, evs⟩ := q
  simp only at e1 e2 e3
  subst e1 e2 e3
  refine gtri Try.func28 rfl gf28 ok28 (by simp [Try.ntmps28]) ?_
  repeat' (first | (with_reducible first | refine gw_seq ?_ | refine gw_block ?_) | ((first | (with_reducible first | refine gw_region ?_ | refine gw_if ?_ | refine gw_skip ?_ | refine gw_exit ?_ | refine gw_ret ?_) | ((with_reducible first | refine gif_b (fun hb => ?_) (fun hb => ?_) | refine want_t (fun hb => ?_) (fun hb => ?_) | refine want_f (fun hb => ?_) (fun hb => ?_) | refine dr_t (fun hb => ?_) (fun hb => ?_) | refine dr_f (fun hb => ?_) (fun hb => ?_)) <;> (try simp only [hb]) <;> (try simp only [hpr] at hb)) | with_reducible refine gw_draw (id := 3) [(0, []), (1, []), (2, []), (3, []), (4, []), (5, []), (7, []), (9, []), (6, [4, 7, 9]), (8, [4, 9]), (10, [4]), (11, []), (12, [4]), (13, []), (14, []), (15, []), (16, [])] [0, 0, 2, 6, 14, 0, 32, 0, 224, 0, 992, 2016, 4064, 8190, 16383, 32767, 65535] mixed (by kernel_rfl) ?_) <;> try simp only [List.map, gop, ev, lk, aenv, gyield, gBin, gInt, gStrOp, gUn, gPick, gNil, gExtract, gIfc, gConvK, gIndexO, gIndexVO, gMakeV, gMinV, gMaxV, isInt, gMin, gMax, gBlt, gCallV, gInvoke, gNilM, Array.toList_map, vcells, gField, gIndexV, gPart, reduceIte, Nat.reduceAdd, Nat.reduceSub, Nat.reduceMul, Nat.reduceLT, Nat.reduceLeDiff, Nat.reduceEqDiff, Nat.reduceBEq, Int.reduceLT, Int.reduceLE, Int.reduceGT, Int.reduceGE, Int.reduceEq, Int.reduceNe, Int.reduceAdd, Int.reduceSub, Int.reduceMul, Int.reduceNeg, Int.reduceToNat, Int.reduceBEq, Int.reduceBNe, Int.cast_ofNat_Int, List.getElem?_toArray, stp, rvOf, wlk, rdv, isEff, dsOf, sgl, stq, Try.underlying100, Try.underlying22, Try.underlying23, Try.underlying24, Try.underlying25, Try.underlying27, Try.underlying3, Try.underlying4, Try.underlying50, Try.underlying53, Try.underlying73, ty22, ty24, ty25, ty100, ty27, ty53, ty73, ty23, ty3, ty4, ty50, rs28]))
  refine box_g rfl fun k1 h1 m1 s1 f1 n1 => ?_
  obtain ⟨_, _, md, _⟩ := r.form
  have k1r : k1 ≠ kr := (ne_of md n1).symm
  have k1a : k1 ≠ ka := (ne_of m n1).symm
  refine mk_of ?_; repeat' (first | (with_reducible first | refine gw_seq ?_ | refine gw_block ?_) | ((first | (with_reducible refine mk_to ?_) | (with_reducible first | refine gw_region ?_ | refine gw_if ?_ | refine gw_skip ?_ | refine gw_exit ?_ | refine gw_ret ?_) | ((with_reducible first | refine gif_b (fun hb => ?_) (fun hb => ?_) | refine want_t (fun hb => ?_) (fun hb => ?_) | refine want_f (fun hb => ?_) (fun hb => ?_) | refine dr_t (fun hb => ?_) (fun hb => ?_) | refine dr_f (fun hb => ?_) (fun hb => ?_)) <;> (try simp only [hb]) <;> (try simp only [hpr] at hb)) | with_reducible refine gw_draw (id := 3) [(0, []), (1, []), (2, []), (3, []), (4, []), (5, []), (7, []), (9, []), (6, [4, 7, 9]), (8, [4, 9]), (10, [4]), (11, []), (12, [4]), (13, []), (14, []), (15, []), (16, [])] [0, 0, 2, 6, 14, 0, 32, 0, 224, 0, 992, 2016, 4064, 8190, 16383, 32767, 65535] mixed (by kernel_rfl) ?_) <;> try simp only [List.map, gop, ev, lk, aenv, gyield, gBin, gInt, gStrOp, gUn, gPick, gNil, gExtract, gIfc, gConvK, gIndexO, gIndexVO, gMakeV, gMinV, gMaxV, isInt, gMin, gMax, gBlt, gCallV, gInvoke, gNilM, Array.toList_map, vcells, gField, gIndexV, gPart, reduceIte, Nat.reduceAdd, Nat.reduceSub, Nat.reduceMul, Nat.reduceLT, Nat.reduceLeDiff, Nat.reduceEqDiff, Nat.reduceBEq, Int.reduceLT, Int.reduceLE, Int.reduceGT, Int.reduceGE, Int.reduceEq, Int.reduceNe, Int.reduceAdd, Int.reduceSub, Int.reduceMul, Int.reduceNeg, Int.reduceToNat, Int.reduceBEq, Int.reduceBNe, Int.cast_ofNat_Int, List.getElem?_toArray, stp, rvOf, wlk, rdv, isEff, dsOf, sgl, stq, Try.underlying100, Try.underlying22, Try.underlying23, Try.underlying24, Try.underlying25, Try.underlying27, Try.underlying3, Try.underlying4, Try.underlying50, Try.underlying53, Try.underlying73, ty22, ty24, ty25, ty100, ty27, ty53, ty73, ty23, ty3, ty4, ty50, rs28, gload1 m1 sz50]))
  refine (c_RUint N h1 (r.hs s1) 32 hb).mono ?_
  rintro _ h2 ⟨rfl, r2, x2⟩
  have m2 := x2 _ _ ne.symm (s1 _ _ m)
  simp only [An.cs] at m2
  have m12 := x2 _ _ k1r m1
  have y2 : H2 kr ka h h2 := s1.h2.trans x2.h2a
  generalize hU : s.uint 32 = u at *
  obtain ⟨n, hn⟩ : ∃ n : Nat, u.1 = n := ⟨u.1.toNat, by omega⟩
  have hRu : R = ({ cd := cd, ep := ep, si := si, pr := pr, sm := sm, mo := (u.2.itl n).2.flag.1, ky := [], its := (u.2.itl n).1, evs := [] }, (u.2.itl n).2.flag.2) := by
    rw [← hR, ritems, hU, hn]; rfl
  rw [hn]
  refine mk_of ?_; repeat' (first | (with_reducible first | refine gw_seq ?_ | refine gw_block ?_) | ((first | (with_reducible refine mk_to ?_) | (with_reducible first | refine gw_region ?_ | refine gw_if ?_ | refine gw_skip ?_ | refine gw_exit ?_ | refine gw_ret ?_) | ((with_reducible first | refine gif_b (fun hb => ?_) (fun hb => ?_) | refine want_t (fun hb => ?_) (fun hb => ?_) | refine want_f (fun hb => ?_) (fun hb => ?_) | refine dr_t (fun hb => ?_) (fun hb => ?_) | refine dr_f (fun hb => ?_) (fun hb => ?_)) <;> (try simp only [hb]) <;> (try simp only [hpr] at hb)) | with_reducible refine gw_draw (id := 3) [(0, []), (1, []), (2, []), (3, []), (4, []), (5, []), (7, []), (9, []), (6, [4, 7, 9]), (8, [4, 9]), (10, [4]), (11, []), (12, [4]), (13, []), (14, []), (15, []), (16, [])] [0, 0, 2, 6, 14, 0, 32, 0, 224, 0, 992, 2016, 4064, 8190, 16383, 32767, 65535] mixed (by kernel_rfl) ?_) <;> try simp only [List.map, gop, ev, lk, aenv, gyield, gBin, gInt, gStrOp, gUn, gPick, gNil, gExtract, gIfc, gConvK, gIndexO, gIndexVO, gMakeV, gMinV, gMaxV, isInt, gMin, gMax, gBlt, gCallV, gInvoke, gNilM, Array.toList_map, vcells, gField, gIndexV, gPart, reduceIte, Nat.reduceAdd, Nat.reduceSub, Nat.reduceMul, Nat.reduceLT, Nat.reduceLeDiff, Nat.reduceEqDiff, Nat.reduceBEq, Int.reduceLT, Int.reduceLE, Int.reduceGT, Int.reduceGE, Int.reduceEq, Int.reduceNe, Int.reduceAdd, Int.reduceSub, Int.reduceMul, Int.reduceNeg, Int.reduceToNat, Int.reduceBEq, Int.reduceBNe, Int.cast_ofNat_Int, List.getElem?_toArray, stp, rvOf, wlk, rdv, isEff, dsOf, sgl, stq, Try.underlying100, Try.underlying22, Try.underlying23, Try.underlying24, Try.underlying25, Try.underlying27, Try.underlying3, Try.underlying4, Try.underlying50, Try.underlying53, Try.underlying73, ty22, ty24, ty25, ty100, ty27, ty53, ty73, ty23, ty3, ty4, ty50, rs28]))
  refine gw_loop2 [1, 2, 6] (fun (i : Nat) => [(7, .int .i64 (i : Int))]) (fun q i h' => n - i = q ∧ i ≤ n ∧ H2 kr ka h2 h' ∧ RD h' kr (u.2.itl i).2 ∧ ∃ v cs, h' ka = some ⟨[.int .i64 cd, .int .i64 ep, .bool pr, .bool sm, .slice none 0 0, .int .i64 si, v, .slice none 0 0, .bool mo], 0, true, false⟩ ∧ OWNC 3 (hcut h2 kr ka) h' v i cs ∧ cs.all notU8 = true ∧ ∀ j y, (u.2.itl i).1[j]? = some y → RIt h' ((cs.drop (j * 3)).take 3) y) n 0 (by simp [lk]) ⟨rfl, by omega, H2.refl _ _ _, r2, .slice none 0 0, [], m2, OWNC.nil _ _ _, rfl, by simp [St.itl]⟩ ?_
  clear r2 m2
  rintro _ i h3 ⟨rfl, hi, y3, r3, v, cs, m3, o3, cu, bd3⟩
  have sl3 := u.2.itl_len i
  have m13 := y3 _ _ k1r k1a m12
  obtain ⟨a3, c3, rfl⟩ := o3.form
  by_cases hin : i < n
  case neg =>
    have d3 : decide ((i : Int) < (n : Int)) = false := decide_eq_false (by omega)
    obtain rfl : i = n := by omega
    refine mk_of ?_; repeat' (first | (with_reducible first | refine gw_seq ?_ | refine gw_block ?_) | ((first | (with_reducible refine mk_to ?_) | (with_reducible first | refine gw_region ?_ | refine gw_if ?_ | refine gw_skip ?_ | refine gw_exit ?_ | refine gw_ret ?_) | ((with_reducible first | refine gif_b (fun hb => ?_) (fun hb => ?_) | refine want_t (fun hb => ?_) (fun hb => ?_) | refine want_f (fun hb => ?_) (fun hb => ?_) | refine dr_t (fun hb => ?_) (fun hb => ?_) | refine dr_f (fun hb => ?_) (fun hb => ?_)) <;> (try simp only [hb]) <;> (try simp only [hpr] at hb)) | with_reducible refine gw_draw (id := 3) [(0, []), (1, []), (2, []), (3, []), (4, []), (5, []), (7, []), (9, []), (6, [4, 7, 9]), (8, [4, 9]), (10, [4]), (11, []), (12, [4]), (13, []), (14, []), (15, []), (16, [])] [0, 0, 2, 6, 14, 0, 32, 0, 224, 0, 992, 2016, 4064, 8190, 16383, 32767, 65535] mixed (by kernel_rfl) ?_) <;> try simp only [List.map, gop, ev, lk, aenv, gyield, gBin, gInt, gStrOp, gUn, gPick, gNil, gExtract, gIfc, gConvK, gIndexO, gIndexVO, gMakeV, gMinV, gMaxV, isInt, gMin, gMax, gBlt, gCallV, gInvoke, gNilM, Array.toList_map, vcells, gField, gIndexV, gPart, reduceIte, Nat.reduceAdd, Nat.reduceSub, Nat.reduceMul, Nat.reduceLT, Nat.reduceLeDiff, Nat.reduceEqDiff, Nat.reduceBEq, Int.reduceLT, Int.reduceLE, Int.reduceGT, Int.reduceGE, Int.reduceEq, Int.reduceNe, Int.reduceAdd, Int.reduceSub, Int.reduceMul, Int.reduceNeg, Int.reduceToNat, Int.reduceBEq, Int.reduceBNe, Int.cast_ofNat_Int, List.getElem?_toArray, stp, rvOf, wlk, rdv, isEff, dsOf, sgl, stq, Try.underlying100, Try.underlying22, Try.underlying23, Try.underlying24, Try.underlying25, Try.underlying27, Try.underlying3, Try.underlying4, Try.underlying50, Try.underlying53, Try.underlying73, ty22, ty24, ty25, ty100, ty27, ty53, ty73, ty23, ty3, ty4, ty50, rs28, d3, gload1 m13 sz50]))
    refine (c_RFlag N h3 r3 (by omega)).mono ?_
    rintro _ h4 ⟨rfl, r4, x4⟩
    have m4 := x4 _ _ ne.symm m3
    obtain ⟨_, _, md3, _⟩ := r3.form
    have o4 := o3.hx md3 (by simp) x4
    have bd4 : ∀ j y, (u.2.itl i).1[j]? = some y → RIt h4 ((cs.drop (j * 3)).take 3) y := fun j y hy => (bd3 j y hy).hy md3 rfl x4
    refine mk_of ?_; repeat' (first | (with_reducible first | refine gw_seq ?_ | refine gw_block ?_) | ((first | (with_reducible refine mk_to ?_) | (with_reducible first | refine gw_region ?_ | refine gw_if ?_ | refine gw_skip ?_ | refine gw_exit ?_ | refine gw_ret ?_) | ((with_reducible first | refine gif_b (fun hb => ?_) (fun hb => ?_) | refine want_t (fun hb => ?_) (fun hb => ?_) | refine want_f (fun hb => ?_) (fun hb => ?_) | refine dr_t (fun hb => ?_) (fun hb => ?_) | refine dr_f (fun hb => ?_) (fun hb => ?_)) <;> (try simp only [hb]) <;> (try simp only [hpr] at hb)) | with_reducible refine gw_draw (id := 3) [(0, []), (1, []), (2, []), (3, []), (4, []), (5, []), (7, []), (9, []), (6, [4, 7, 9]), (8, [4, 9]), (10, [4]), (11, []), (12, [4]), (13, []), (14, []), (15, []), (16, [])] [0, 0, 2, 6, 14, 0, 32, 0, 224, 0, 992, 2016, 4064, 8190, 16383, 32767, 65535] mixed (by kernel_rfl) ?_) <;> try simp only [List.map, gop, ev, lk, aenv, gyield, gBin, gInt, gStrOp, gUn, gPick, gNil, gExtract, gIfc, gConvK, gIndexO, gIndexVO, gMakeV, gMinV, gMaxV, isInt, gMin, gMax, gBlt, gCallV, gInvoke, gNilM, Array.toList_map, vcells, gField, gIndexV, gPart, reduceIte, Nat.reduceAdd, Nat.reduceSub, Nat.reduceMul, Nat.reduceLT, Nat.reduceLeDiff, Nat.reduceEqDiff, Nat.reduceBEq, Int.reduceLT, Int.reduceLE, Int.reduceGT, Int.reduceGE, Int.reduceEq, Int.reduceNe, Int.reduceAdd, Int.reduceSub, Int.reduceMul, Int.reduceNeg, Int.reduceToNat, Int.reduceBEq, Int.reduceBNe, Int.cast_ofNat_Int, List.getElem?_toArray, stp, rvOf, wlk, rdv, isEff, dsOf, sgl, stq, Try.underlying100, Try.underlying22, Try.underlying23, Try.underlying24, Try.underlying25, Try.underlying27, Try.underlying3, Try.underlying4, Try.underlying50, Try.underlying53, Try.underlying73, ty22, ty24, ty25, ty100, ty27, ty53, ty73, ty23, ty3, ty4, ty50, rs28, gNil]))
    refine st_one m4 sz4 rfl (by simp) rfl rfl fun h5 m5 f5 => ?_
    have x5 : HX ka h4 h5 := fun j B n e => by rw [f5 j n]; exact e
    have o5 := o4.hx m4 (by simp) x5
    refine mk_of ?_; repeat' (first | (with_reducible first | refine gw_seq ?_ | refine gw_block ?_) | ((first | (with_reducible refine mk_to ?_) | (with_reducible first | refine gw_region ?_ | refine gw_if ?_ | refine gw_skip ?_ | refine gw_exit ?_ | refine gw_ret ?_) | ((with_reducible first | refine gif_b (fun hb => ?_) (fun hb => ?_) | refine want_t (fun hb => ?_) (fun hb => ?_) | refine want_f (fun hb => ?_) (fun hb => ?_) | refine dr_t (fun hb => ?_) (fun hb => ?_) | refine dr_f (fun hb => ?_) (fun hb => ?_)) <;> (try simp only [hb]) <;> (try simp only [hpr] at hb)) | with_reducible refine gw_draw (id := 3) [(0, []), (1, []), (2, []), (3, []), (4, []), (5, []), (7, []), (9, []), (6, [4, 7, 9]), (8, [4, 9]), (10, [4]), (11, []), (12, [4]), (13, []), (14, []), (15, []), (16, [])] [0, 0, 2, 6, 14, 0, 32, 0, 224, 0, 992, 2016, 4064, 8190, 16383, 32767, 65535] mixed (by kernel_rfl) ?_) <;> try simp only [List.map, gop, ev, lk, aenv, gyield, gBin, gInt, gStrOp, gUn, gPick, gNil, gExtract, gIfc, gConvK, gIndexO, gIndexVO, gMakeV, gMinV, gMaxV, isInt, gMin, gMax, gBlt, gCallV, gInvoke, gNilM, Array.toList_map, vcells, gField, gIndexV, gPart, reduceIte, Nat.reduceAdd, Nat.reduceSub, Nat.reduceMul, Nat.reduceLT, Nat.reduceLeDiff, Nat.reduceEqDiff, Nat.reduceBEq, Int.reduceLT, Int.reduceLE, Int.reduceGT, Int.reduceGE, Int.reduceEq, Int.reduceNe, Int.reduceAdd, Int.reduceSub, Int.reduceMul, Int.reduceNeg, Int.reduceToNat, Int.reduceBEq, Int.reduceBNe, Int.cast_ofNat_Int, List.getElem?_toArray, stp, rvOf, wlk, rdv, isEff, dsOf, sgl, stq, Try.underlying100, Try.underlying22, Try.underlying23, Try.underlying24, Try.underlying25, Try.underlying27, Try.underlying3, Try.underlying4, Try.underlying50, Try.underlying53, Try.underlying73, ty22, ty24, ty25, ty100, ty27, ty53, ty73, ty23, ty3, ty4, ty50, rs28]))
    rw [hRu]
    have o5' : OWNC 3 (hcut h2 kr ka) h5 (.slice a3 (u.2.itl i).1.length c3) (u.2.itl i).1.length cs := by rw [sl3.1]; exact o5
    have li : LI h5 (.slice a3 (u.2.itl i).1.length c3) (u.2.itl i).1 := o5'.rl fun j y hy => (bd4 j y hy).hy m4 rfl x5
    refine ⟨⟨r4.hl m4 (by simp) rfl x5 ne, none, 0, a3, c3, none, 0, ?_, RB.nil _, li, RL.nil _⟩, ((y2.trans y3).trans x4.h2a).trans x5.h2b⟩
    show h5 ka = some ⟨[.int .i64 cd, .int .i64 ep, .bool pr, .bool sm, .slice none 0 0, .int .i64 si, .slice a3 (u.2.itl i).1.length c3, .slice none 0 0, .bool (u.2.itl i).2.flag.1], 0, true, false⟩
    rw [sl3.1]
    exact m5
  have d3 : decide ((i : Int) < (n : Int)) = true := decide_eq_true (by omega)
  have wi : IntKind.i64.wrap ((i : Int) + 1) = ((i + 1 : Nat) : Int) := by rw [wrap64 (by omega) (by omega)]; omega
  have b1 := St.bytes_len (u.2.itl i).2 300
  have b2 := St.bytes_len ((u.2.itl i).2.bytes 300).2 300
  have lA := fun (h' : GH) (m : h' ka = some ⟨[.int .i64 cd, .int .i64 ep, .bool pr, .bool sm, .slice none 0 0, .int .i64 si, .slice a3 i c3, .slice none 0 0, .bool mo], 0, true, false⟩) => gload1 (P := Try.prog) (o := 6) m sz24
  refine mk_of ?_; repeat' (first | (with_reducible first | refine gw_seq ?_ | refine gw_block ?_) | ((first | (with_reducible refine mk_to ?_) | (with_reducible first | refine gw_region ?_ | refine gw_if ?_ | refine gw_skip ?_ | refine gw_exit ?_ | refine gw_ret ?_) | ((with_reducible first | refine gif_b (fun hb => ?_) (fun hb => ?_) | refine want_t (fun hb => ?_) (fun hb => ?_) | refine want_f (fun hb => ?_) (fun hb => ?_) | refine dr_t (fun hb => ?_) (fun hb => ?_) | refine dr_f (fun hb => ?_) (fun hb => ?_)) <;> (try simp only [hb]) <;> (try simp only [hpr] at hb)) | with_reducible refine gw_draw (id := 3) [(0, []), (1, []), (2, []), (3, []), (4, []), (5, []), (7, []), (9, []), (6, [4, 7, 9]), (8, [4, 9]), (10, [4]), (11, []), (12, [4]), (13, []), (14, []), (15, []), (16, [])] [0, 0, 2, 6, 14, 0, 32, 0, 224, 0, 992, 2016, 4064, 8190, 16383, 32767, 65535] mixed (by kernel_rfl) ?_) <;> try simp only [List.map, gop, ev, lk, aenv, gyield, gBin, gInt, gStrOp, gUn, gPick, gNil, gExtract, gIfc, gConvK, gIndexO, gIndexVO, gMakeV, gMinV, gMaxV, isInt, gMin, gMax, gBlt, gCallV, gInvoke, gNilM, Array.toList_map, vcells, gField, gIndexV, gPart, reduceIte, Nat.reduceAdd, Nat.reduceSub, Nat.reduceMul, Nat.reduceLT, Nat.reduceLeDiff, Nat.reduceEqDiff, Nat.reduceBEq, Int.reduceLT, Int.reduceLE, Int.reduceGT, Int.reduceGE, Int.reduceEq, Int.reduceNe, Int.reduceAdd, Int.reduceSub, Int.reduceMul, Int.reduceNeg, Int.reduceToNat, Int.reduceBEq, Int.reduceBNe, Int.cast_ofNat_Int, List.getElem?_toArray, stp, rvOf, wlk, rdv, isEff, dsOf, sgl, stq, Try.underlying100, Try.underlying22, Try.underlying23, Try.underlying24, Try.underlying25, Try.underlying27, Try.underlying3, Try.underlying4, Try.underlying50, Try.underlying53, Try.underlying73, ty22, ty24, ty25, ty100, ty27, ty53, ty73, ty23, ty3, ty4, ty50, rs28, d3, gNil, gload1 m3 sz24, gloadA m13 sz53 rfl]))
  refine (i_word r3 (by omega)).mono ?_
  rintro _ h4 ⟨r4, x4, a4, c4, rfl, q4⟩
  have m4 := x4 _ _ ne.symm m3
  have m14 := x4 _ _ k1r m13
  refine mk_of ?_; repeat' (first | (with_reducible first | refine gw_seq ?_ | refine gw_block ?_) | ((first | (with_reducible refine mk_to ?_) | (with_reducible first | refine gw_region ?_ | refine gw_if ?_ | refine gw_skip ?_ | refine gw_exit ?_ | refine gw_ret ?_) | ((with_reducible first | refine gif_b (fun hb => ?_) (fun hb => ?_) | refine want_t (fun hb => ?_) (fun hb => ?_) | refine want_f (fun hb => ?_) (fun hb => ?_) | refine dr_t (fun hb => ?_) (fun hb => ?_) | refine dr_f (fun hb => ?_) (fun hb => ?_)) <;> (try simp only [hb]) <;> (try simp only [hpr] at hb)) | with_reducible refine gw_draw (id := 3) [(0, []), (1, []), (2, []), (3, []), (4, []), (5, []), (7, []), (9, []), (6, [4, 7, 9]), (8, [4, 9]), (10, [4]), (11, []), (12, [4]), (13, []), (14, []), (15, []), (16, [])] [0, 0, 2, 6, 14, 0, 32, 0, 224, 0, 992, 2016, 4064, 8190, 16383, 32767, 65535] mixed (by kernel_rfl) ?_) <;> try simp only [List.map, gop, ev, lk, aenv, gyield, gBin, gInt, gStrOp, gUn, gPick, gNil, gExtract, gIfc, gConvK, gIndexO, gIndexVO, gMakeV, gMinV, gMaxV, isInt, gMin, gMax, gBlt, gCallV, gInvoke, gNilM, Array.toList_map, vcells, gField, gIndexV, gPart, reduceIte, Nat.reduceAdd, Nat.reduceSub, Nat.reduceMul, Nat.reduceLT, Nat.reduceLeDiff, Nat.reduceEqDiff, Nat.reduceBEq, Int.reduceLT, Int.reduceLE, Int.reduceGT, Int.reduceGE, Int.reduceEq, Int.reduceNe, Int.reduceAdd, Int.reduceSub, Int.reduceMul, Int.reduceNeg, Int.reduceToNat, Int.reduceBEq, Int.reduceBNe, Int.cast_ofNat_Int, List.getElem?_toArray, stp, rvOf, wlk, rdv, isEff, dsOf, sgl, stq, Try.underlying100, Try.underlying22, Try.underlying23, Try.underlying24, Try.underlying25, Try.underlying27, Try.underlying3, Try.underlying4, Try.underlying50, Try.underlying53, Try.underlying73, ty22, ty24, ty25, ty100, ty27, ty53, ty73, ty23, ty3, ty4, ty50, rs28, gNil, gload1 m4 sz24, gloadA m14 sz53 rfl]))
  refine (i_word r4 (by omega)).mono ?_
  rintro _ h5 ⟨r5, x5, a5, c5, rfl, q5⟩
  have m5 := x5 _ _ ne.symm m4
  have m15 := x5 _ _ k1r m14
  have q45 := q4.rd r4 x5
  refine mk_of ?_; repeat' (first | (with_reducible first | refine gw_seq ?_ | refine gw_block ?_) | ((first | (with_reducible refine mk_to ?_) | (with_reducible first | refine gw_region ?_ | refine gw_if ?_ | refine gw_skip ?_ | refine gw_exit ?_ | refine gw_ret ?_) | ((with_reducible first | refine gif_b (fun hb => ?_) (fun hb => ?_) | refine want_t (fun hb => ?_) (fun hb => ?_) | refine want_f (fun hb => ?_) (fun hb => ?_) | refine dr_t (fun hb => ?_) (fun hb => ?_) | refine dr_f (fun hb => ?_) (fun hb => ?_)) <;> (try simp only [hb]) <;> (try simp only [hpr] at hb)) | with_reducible refine gw_draw (id := 3) [(0, []), (1, []), (2, []), (3, []), (4, []), (5, []), (7, []), (9, []), (6, [4, 7, 9]), (8, [4, 9]), (10, [4]), (11, []), (12, [4]), (13, []), (14, []), (15, []), (16, [])] [0, 0, 2, 6, 14, 0, 32, 0, 224, 0, 992, 2016, 4064, 8190, 16383, 32767, 65535] mixed (by kernel_rfl) ?_) <;> try simp only [List.map, gop, ev, lk, aenv, gyield, gBin, gInt, gStrOp, gUn, gPick, gNil, gExtract, gIfc, gConvK, gIndexO, gIndexVO, gMakeV, gMinV, gMaxV, isInt, gMin, gMax, gBlt, gCallV, gInvoke, gNilM, Array.toList_map, vcells, gField, gIndexV, gPart, reduceIte, Nat.reduceAdd, Nat.reduceSub, Nat.reduceMul, Nat.reduceLT, Nat.reduceLeDiff, Nat.reduceEqDiff, Nat.reduceBEq, Int.reduceLT, Int.reduceLE, Int.reduceGT, Int.reduceGE, Int.reduceEq, Int.reduceNe, Int.reduceAdd, Int.reduceSub, Int.reduceMul, Int.reduceNeg, Int.reduceToNat, Int.reduceBEq, Int.reduceBNe, Int.cast_ofNat_Int, List.getElem?_toArray, stp, rvOf, wlk, rdv, isEff, dsOf, sgl, stq, Try.underlying100, Try.underlying22, Try.underlying23, Try.underlying24, Try.underlying25, Try.underlying27, Try.underlying3, Try.underlying4, Try.underlying50, Try.underlying53, Try.underlying73, ty22, ty24, ty25, ty100, ty27, ty53, ty73, ty23, ty3, ty4, ty50, rs28, gNil, gload1 m5 sz24, gloadA m15 sz53 rfl]))
  refine (i_num r5 (by omega)).mono ?_
  rintro _ h6 ⟨rfl, r6, x6⟩
  have m6 := x6 _ _ ne.symm m5
  have m16 := x6 _ _ k1r m15
  have q46 := q45.rd r5 x6
  have q56 := q5.rd r5 x6
  refine mk_of ?_; repeat' (first | (with_reducible first | refine gw_seq ?_ | refine gw_block ?_) | ((first | (with_reducible refine mk_to ?_) | (with_reducible first | refine gw_region ?_ | refine gw_if ?_ | refine gw_skip ?_ | refine gw_exit ?_ | refine gw_ret ?_) | ((with_reducible first | refine gif_b (fun hb => ?_) (fun hb => ?_) | refine want_t (fun hb => ?_) (fun hb => ?_) | refine want_f (fun hb => ?_) (fun hb => ?_) | refine dr_t (fun hb => ?_) (fun hb => ?_) | refine dr_f (fun hb => ?_) (fun hb => ?_)) <;> (try simp only [hb]) <;> (try simp only [hpr] at hb)) | with_reducible refine gw_draw (id := 3) [(0, []), (1, []), (2, []), (3, []), (4, []), (5, []), (7, []), (9, []), (6, [4, 7, 9]), (8, [4, 9]), (10, [4]), (11, []), (12, [4]), (13, []), (14, []), (15, []), (16, [])] [0, 0, 2, 6, 14, 0, 32, 0, 224, 0, 992, 2016, 4064, 8190, 16383, 32767, 65535] mixed (by kernel_rfl) ?_) <;> try simp only [List.map, gop, ev, lk, aenv, gyield, gBin, gInt, gStrOp, gUn, gPick, gNil, gExtract, gIfc, gConvK, gIndexO, gIndexVO, gMakeV, gMinV, gMaxV, isInt, gMin, gMax, gBlt, gCallV, gInvoke, gNilM, Array.toList_map, vcells, gField, gIndexV, gPart, reduceIte, Nat.reduceAdd, Nat.reduceSub, Nat.reduceMul, Nat.reduceLT, Nat.reduceLeDiff, Nat.reduceEqDiff, Nat.reduceBEq, Int.reduceLT, Int.reduceLE, Int.reduceGT, Int.reduceGE, Int.reduceEq, Int.reduceNe, Int.reduceAdd, Int.reduceSub, Int.reduceMul, Int.reduceNeg, Int.reduceToNat, Int.reduceBEq, Int.reduceBNe, Int.cast_ofNat_Int, List.getElem?_toArray, stp, rvOf, wlk, rdv, isEff, dsOf, sgl, stq, Try.underlying100, Try.underlying22, Try.underlying23, Try.underlying24, Try.underlying25, Try.underlying27, Try.underlying3, Try.underlying4, Try.underlying50, Try.underlying53, Try.underlying73, ty22, ty24, ty25, ty100, ty27, ty53, ty73, ty23, ty3, ty4, ty50, rs28, gNil, gload1 m6 sz24, gloadA m16 sz53 rfl, gBuild, lfill, lput, Shape.pl, List.all_cons, List.all_nil, isCell]))
  refine bsn1_g el24 rfl rfl (by decide) (by decide) rfl fun k7 h7 b7 s7 f7 n7 => ?_
  have m7 := s7 _ _ m6
  refine mk_of ?_; repeat' (first | (with_reducible first | refine gw_seq ?_ | refine gw_block ?_) | ((first | (with_reducible refine mk_to ?_) | (with_reducible first | refine gw_region ?_ | refine gw_if ?_ | refine gw_skip ?_ | refine gw_exit ?_ | refine gw_ret ?_) | ((with_reducible first | refine gif_b (fun hb => ?_) (fun hb => ?_) | refine want_t (fun hb => ?_) (fun hb => ?_) | refine want_f (fun hb => ?_) (fun hb => ?_) | refine dr_t (fun hb => ?_) (fun hb => ?_) | refine dr_f (fun hb => ?_) (fun hb => ?_)) <;> (try simp only [hb]) <;> (try simp only [hpr] at hb)) | with_reducible refine gw_draw (id := 3) [(0, []), (1, []), (2, []), (3, []), (4, []), (5, []), (7, []), (9, []), (6, [4, 7, 9]), (8, [4, 9]), (10, [4]), (11, []), (12, [4]), (13, []), (14, []), (15, []), (16, [])] [0, 0, 2, 6, 14, 0, 32, 0, 224, 0, 992, 2016, 4064, 8190, 16383, 32767, 65535] mixed (by kernel_rfl) ?_) <;> try simp only [List.map, gop, ev, lk, aenv, gyield, gBin, gInt, gStrOp, gUn, gPick, gNil, gExtract, gIfc, gConvK, gIndexO, gIndexVO, gMakeV, gMinV, gMaxV, isInt, gMin, gMax, gBlt, gCallV, gInvoke, gNilM, Array.toList_map, vcells, gField, gIndexV, gPart, reduceIte, Nat.reduceAdd, Nat.reduceSub, Nat.reduceMul, Nat.reduceLT, Nat.reduceLeDiff, Nat.reduceEqDiff, Nat.reduceBEq, Int.reduceLT, Int.reduceLE, Int.reduceGT, Int.reduceGE, Int.reduceEq, Int.reduceNe, Int.reduceAdd, Int.reduceSub, Int.reduceMul, Int.reduceNeg, Int.reduceToNat, Int.reduceBEq, Int.reduceBNe, Int.cast_ofNat_Int, List.getElem?_toArray, stp, rvOf, wlk, rdv, isEff, dsOf, sgl, stq, Try.underlying100, Try.underlying22, Try.underlying23, Try.underlying24, Try.underlying25, Try.underlying27, Try.underlying3, Try.underlying4, Try.underlying50, Try.underlying53, Try.underlying73, ty22, ty24, ty25, ty100, ty27, ty53, ty73, ty23, ty3, ty4, ty50, rs28, gNil, gload1 m7 sz24]))
  obtain ⟨_, _, md3, _⟩ := r3.form
  obtain ⟨_, _, md4, _⟩ := r4.form
  obtain ⟨_, _, md5, _⟩ := r5.form
  have o6 := ((o3.hx md3 (by simp) x4).hx md4 (by simp) x5).hx md5 (by simp) x6
  have bd6 : ∀ j y, (u.2.itl i).1[j]? = some y → RIt h6 ((cs.drop (j * 3)).take 3) y := fun j y hy => (((bd3 j y hy).hy md3 rfl x4).hy md4 rfl x5).hy md5 rfl x6
  have y7 : H2 kr ka h2 h7 := (((y3.trans x4.h2a).trans x5.h2a).trans x6.h2a).trans s7.h2
  refine append_ownc el24 Try.underlying24 rfl y7.hs (o6.hs s7) b7 rfl rfl (by omega) (by simp only [maxLen]; omega) fun v8 h8 s8 fr8 o8 => ?_
  obtain ⟨a8, c8, rfl⟩ := o8.form
  have m8 := fr_es fr8 m7 (by simp)
  have r8 := (r6.hs s7).fr fr8 (by decide) (by decide) cu
  have y8 : H2 kr ka h2 h8 := fun j B n1 n2 e => s8 j B (by unfold hcut; rw [if_neg (by simp [n1, n2])]; exact e)
  refine mk_of ?_; repeat' (first | (with_reducible first | refine gw_seq ?_ | refine gw_block ?_) | ((first | (with_reducible refine mk_to ?_) | (with_reducible first | refine gw_region ?_ | refine gw_if ?_ | refine gw_skip ?_ | refine gw_exit ?_ | refine gw_ret ?_) | ((with_reducible first | refine gif_b (fun hb => ?_) (fun hb => ?_) | refine want_t (fun hb => ?_) (fun hb => ?_) | refine want_f (fun hb => ?_) (fun hb => ?_) | refine dr_t (fun hb => ?_) (fun hb => ?_) | refine dr_f (fun hb => ?_) (fun hb => ?_)) <;> (try simp only [hb]) <;> (try simp only [hpr] at hb)) | with_reducible refine gw_draw (id := 3) [(0, []), (1, []), (2, []), (3, []), (4, []), (5, []), (7, []), (9, []), (6, [4, 7, 9]), (8, [4, 9]), (10, [4]), (11, []), (12, [4]), (13, []), (14, []), (15, []), (16, [])] [0, 0, 2, 6, 14, 0, 32, 0, 224, 0, 992, 2016, 4064, 8190, 16383, 32767, 65535] mixed (by kernel_rfl) ?_) <;> try simp only [List.map, gop, ev, lk, aenv, gyield, gBin, gInt, gStrOp, gUn, gPick, gNil, gExtract, gIfc, gConvK, gIndexO, gIndexVO, gMakeV, gMinV, gMaxV, isInt, gMin, gMax, gBlt, gCallV, gInvoke, gNilM, Array.toList_map, vcells, gField, gIndexV, gPart, reduceIte, Nat.reduceAdd, Nat.reduceSub, Nat.reduceMul, Nat.reduceLT, Nat.reduceLeDiff, Nat.reduceEqDiff, Nat.reduceBEq, Int.reduceLT, Int.reduceLE, Int.reduceGT, Int.reduceGE, Int.reduceEq, Int.reduceNe, Int.reduceAdd, Int.reduceSub, Int.reduceMul, Int.reduceNeg, Int.reduceToNat, Int.reduceBEq, Int.reduceBNe, Int.cast_ofNat_Int, List.getElem?_toArray, stp, rvOf, wlk, rdv, isEff, dsOf, sgl, stq, Try.underlying100, Try.underlying22, Try.underlying23, Try.underlying24, Try.underlying25, Try.underlying27, Try.underlying3, Try.underlying4, Try.underlying50, Try.underlying53, Try.underlying73, ty22, ty24, ty25, ty100, ty27, ty53, ty73, ty23, ty3, ty4, ty50, rs28, gNil, gload1 m8 sz24]))
  refine st_one m8 sz24 rfl (by simp) rfl rfl fun h9 m9 f9 => ?_
  have x9 : HX ka h8 h9 := fun j B n e => by rw [f9 j n]; exact e
  refine mk_of ?_; repeat' (first | (with_reducible first | refine gw_seq ?_ | refine gw_block ?_) | ((first | (with_reducible refine mk_to ?_) | (with_reducible first | refine gw_region ?_ | refine gw_if ?_ | refine gw_skip ?_ | refine gw_exit ?_ | refine gw_ret ?_) | ((with_reducible first | refine gif_b (fun hb => ?_) (fun hb => ?_) | refine want_t (fun hb => ?_) (fun hb => ?_) | refine want_f (fun hb => ?_) (fun hb => ?_) | refine dr_t (fun hb => ?_) (fun hb => ?_) | refine dr_f (fun hb => ?_) (fun hb => ?_)) <;> (try simp only [hb]) <;> (try simp only [hpr] at hb)) | with_reducible refine gw_draw (id := 3) [(0, []), (1, []), (2, []), (3, []), (4, []), (5, []), (7, []), (9, []), (6, [4, 7, 9]), (8, [4, 9]), (10, [4]), (11, []), (12, [4]), (13, []), (14, []), (15, []), (16, [])] [0, 0, 2, 6, 14, 0, 32, 0, 224, 0, 992, 2016, 4064, 8190, 16383, 32767, 65535] mixed (by kernel_rfl) ?_) <;> try simp only [List.map, gop, ev, lk, aenv, gyield, gBin, gInt, gStrOp, gUn, gPick, gNil, gExtract, gIfc, gConvK, gIndexO, gIndexVO, gMakeV, gMinV, gMaxV, isInt, gMin, gMax, gBlt, gCallV, gInvoke, gNilM, Array.toList_map, vcells, gField, gIndexV, gPart, reduceIte, Nat.reduceAdd, Nat.reduceSub, Nat.reduceMul, Nat.reduceLT, Nat.reduceLeDiff, Nat.reduceEqDiff, Nat.reduceBEq, Int.reduceLT, Int.reduceLE, Int.reduceGT, Int.reduceGE, Int.reduceEq, Int.reduceNe, Int.reduceAdd, Int.reduceSub, Int.reduceMul, Int.reduceNeg, Int.reduceToNat, Int.reduceBEq, Int.reduceBNe, Int.cast_ofNat_Int, List.getElem?_toArray, stp, rvOf, wlk, rdv, isEff, dsOf, sgl, stq, Try.underlying100, Try.underlying22, Try.underlying23, Try.underlying24, Try.underlying25, Try.underlying27, Try.underlying3, Try.underlying4, Try.underlying50, Try.underlying53, Try.underlying73, ty22, ty24, ty25, ty100, ty27, ty53, ty73, ty23, ty3, ty4, ty50, rs28, wi]))
  have hcl := o6.len
  refine ⟨_, i + 1, ?_, (by simp only [List.forall_mem_cons, List.not_mem_nil, false_implies, implies_true, List.map, List.cons_append, List.nil_append, lk, Nat.reduceEqDiff, reduceIte, and_true, true_and]), rfl, by omega, y8.trans x9.h2b, r8.hl m8 (by simp) rfl x9 ne, _, _, m9, o8.hx m8 (by simp) x9, by rw [List.all_append, cu]; rfl, fun j y hy => ?_⟩
  · omega
  have e1 : (u.2.itl (i + 1)).1 = (u.2.itl i).1 ++ [(((u.2.itl i).2.bytes 300).1, (((u.2.itl i).2.bytes 300).2.bytes 300).1, ((((u.2.itl i).2.bytes 300).2.bytes 300).2.uint 2147483648).1)] := rfl
  rw [e1] at hy
  by_cases hji : j = i
  · subst hji
    rw [dt_last hcl rfl]
    rw [List.getElem?_append_right (by omega), sl3.1, Nat.sub_self] at hy
    obtain rfl : _ = y := by simpa using hy
    exact ⟨a4, _, c4, a5, _, c5, rfl, (fr_rb fr8 cu (q46.hs s7)).hx m8 rfl x9, (fr_rb fr8 cu (q56.hs s7)).hx m8 rfl x9⟩
  · have hj : j < (u.2.itl i).1.length := by
      have := (List.getElem?_eq_some_iff.1 hy).1
      rw [List.length_append, List.length_singleton] at this
      omega
    rw [dt_left (by omega)]
    rw [List.getElem?_append_left hj] at hy
    exact (((bd6 j y hy).hs s7).fr fr8 cu).hy m8 rfl x9
end Go.Gh

/- Answers, read by the program: events, and all. -/

namespace Go.Gh
open Go Go.Proofs Go.RowKit
set_option linter.unusedVariables false
set_option linter.unusedSimpArgs false
set_option maxRecDepth 100000
set_option maxHeartbeats 4000000

theorem i_events {N kr ka : Nat} {h : GH} {q : An} {s : St} (t : T0 h kr ka q s) : GTri Try.prog N 29 [inV kr, .pointer (some ⟨ka, 0, none⟩)] h fun _ h' => T1 h' kr ka (revs q s).1 (revs q s).2 ∧ H2 kr ka h h' := by
  have ne := t.ne
  obtain ⟨r, m, e1, e2, e3, hb⟩ := t
  have ul := s.uint_len 32
  have um := St.uint_max s (most := 32) (by decide)
  generalize hR : revs q s = R
  obtain ⟨cd, ep, si, pr, sm, mo, ky, its, evs⟩ := q
  simp only at e1 e2 e3
  subst e1 e2 e3
  refine gtri Try.func29 rfl gf29 ok29 (by simp [Try.ntmps29]) ?_
  repeat' (first | (with_reducible first | refine gw_seq ?_ | refine gw_block ?_) | ((first | (with_reducible first | refine gw_region ?_ | refine gw_if ?_ | refine gw_skip ?_ | refine gw_exit ?_ | refine gw_ret ?_) | ((with_reducible first | refine gif_b (fun hb => ?_) (fun hb => ?_) | refine want_t (fun hb => ?_) (fun hb => ?_) | refine want_f (fun hb => ?_) (fun hb => ?_) | refine dr_t (fun hb => ?_) (fun hb => ?_) | refine dr_f (fun hb => ?_) (fun hb => ?_)) <;> (try simp only [hb]) <;> (try simp only [hpr] at hb)) | with_reducible refine gw_draw (id := 3) [(0, []), (1, []), (2, []), (3, []), (4, []), (5, []), (7, []), (9, []), (11, []), (6, [4, 7, 9, 11]), (8, [4, 9, 11]), (10, [4, 11]), (12, [4]), (13, []), (14, [4]), (15, []), (16, []), (17, []), (18, [])] [0, 0, 2, 6, 14, 0, 32, 0, 224, 0, 992, 0, 4064, 8160, 16352, 32766, 65535, 131071, 262143] mixed (by kernel_rfl) ?_ | with_reducible refine gw_draw (id := 7) [(0, []), (1, []), (2, []), (4, []), (3, [4]), (5, []), (6, []), (7, []), (8, []), (9, []), (10, []), (11, [])] [0, 0, 0, 4, 0, 28, 61, 125, 253, 511, 1023, 2047] mixed (by kernel_rfl) ?_) <;> try simp only [List.map, gop, ev, lk, aenv, gyield, gBin, gInt, gStrOp, gUn, gPick, gNil, gExtract, gIfc, gConvK, gIndexO, gIndexVO, gMakeV, gMinV, gMaxV, isInt, gMin, gMax, gBlt, gCallV, gInvoke, gNilM, Array.toList_map, vcells, gField, gIndexV, gPart, reduceIte, Nat.reduceAdd, Nat.reduceSub, Nat.reduceMul, Nat.reduceLT, Nat.reduceLeDiff, Nat.reduceEqDiff, Nat.reduceBEq, Int.reduceLT, Int.reduceLE, Int.reduceGT, Int.reduceGE, Int.reduceEq, Int.reduceNe, Int.reduceAdd, Int.reduceSub, Int.reduceMul, Int.reduceNeg, Int.reduceToNat, Int.reduceBEq, Int.reduceBNe, Int.cast_ofNat_Int, List.getElem?_toArray, stp, rvOf, wlk, rdv, isEff, dsOf, sgl, stq, Try.underlying100, Try.underlying22, Try.underlying23, Try.underlying24, Try.underlying25, Try.underlying27, Try.underlying3, Try.underlying4, Try.underlying50, Try.underlying53, Try.underlying76, ty22, ty24, ty25, ty100, ty27, ty53, ty76, ty23, ty3, ty4, ty50, rs29]))
  refine box_g rfl fun k1 h1 m1 s1 f1 n1 => ?_
  obtain ⟨_, _, md, _⟩ := r.form
  have k1r : k1 ≠ kr := (ne_of md n1).symm
  have k1a : k1 ≠ ka := (ne_of m n1).symm
  refine mk_of ?_; repeat' (first | (with_reducible first | refine gw_seq ?_ | refine gw_block ?_) | ((first | (with_reducible refine mk_to ?_) | (with_reducible first | refine gw_region ?_ | refine gw_if ?_ | refine gw_skip ?_ | refine gw_exit ?_ | refine gw_ret ?_) | ((with_reducible first | refine gif_b (fun hb => ?_) (fun hb => ?_) | refine want_t (fun hb => ?_) (fun hb => ?_) | refine want_f (fun hb => ?_) (fun hb => ?_) | refine dr_t (fun hb => ?_) (fun hb => ?_) | refine dr_f (fun hb => ?_) (fun hb => ?_)) <;> (try simp only [hb]) <;> (try simp only [hpr] at hb)) | with_reducible refine gw_draw (id := 3) [(0, []), (1, []), (2, []), (3, []), (4, []), (5, []), (7, []), (9, []), (11, []), (6, [4, 7, 9, 11]), (8, [4, 9, 11]), (10, [4, 11]), (12, [4]), (13, []), (14, [4]), (15, []), (16, []), (17, []), (18, [])] [0, 0, 2, 6, 14, 0, 32, 0, 224, 0, 992, 0, 4064, 8160, 16352, 32766, 65535, 131071, 262143] mixed (by kernel_rfl) ?_ | with_reducible refine gw_draw (id := 7) [(0, []), (1, []), (2, []), (4, []), (3, [4]), (5, []), (6, []), (7, []), (8, []), (9, []), (10, []), (11, [])] [0, 0, 0, 4, 0, 28, 61, 125, 253, 511, 1023, 2047] mixed (by kernel_rfl) ?_) <;> try simp only [List.map, gop, ev, lk, aenv, gyield, gBin, gInt, gStrOp, gUn, gPick, gNil, gExtract, gIfc, gConvK, gIndexO, gIndexVO, gMakeV, gMinV, gMaxV, isInt, gMin, gMax, gBlt, gCallV, gInvoke, gNilM, Array.toList_map, vcells, gField, gIndexV, gPart, reduceIte, Nat.reduceAdd, Nat.reduceSub, Nat.reduceMul, Nat.reduceLT, Nat.reduceLeDiff, Nat.reduceEqDiff, Nat.reduceBEq, Int.reduceLT, Int.reduceLE, Int.reduceGT, Int.reduceGE, Int.reduceEq, Int.reduceNe, Int.reduceAdd, Int.reduceSub, Int.reduceMul, Int.reduceNeg, Int.reduceToNat, Int.reduceBEq, Int.reduceBNe, Int.cast_ofNat_Int, List.getElem?_toArray, stp, rvOf, wlk, rdv, isEff, dsOf, sgl, stq, Try.underlying100, Try.underlying22, Try.underlying23, Try.underlying24, Try.underlying25, Try.underlying27, Try.underlying3, Try.underlying4, Try.underlying50, Try.underlying53, Try.underlying76, ty22, ty24, ty25, ty100, ty27, ty53, ty76, ty23, ty3, ty4, ty50, rs29, gload1 m1 sz50]))
  refine (c_RUint N h1 (r.hs s1) 32 hb).mono ?_
  rintro _ h2 ⟨rfl, r2, x2⟩
  have m2 := x2 _ _ ne.symm (s1 _ _ m)
  simp only [An.cs] at m2
  have m12 := x2 _ _ k1r m1
  have y2 : H2 kr ka h h2 := s1.h2.trans x2.h2a
  generalize hU : s.uint 32 = u at *
  obtain ⟨n, hn⟩ : ∃ n : Nat, u.1 = n := ⟨u.1.toNat, by omega⟩
  have hRu : R = revs0 ⟨cd, ep, si, pr, sm, mo, [], [], []⟩ (u.2.evl n).1 (u.2.evl n).2 := by
    rw [← hR, revs, hU, hn]; rfl
  rw [hn]
  refine mk_of ?_; repeat' (first | (with_reducible first | refine gw_seq ?_ | refine gw_block ?_) | ((first | (with_reducible refine mk_to ?_) | (with_reducible first | refine gw_region ?_ | refine gw_if ?_ | refine gw_skip ?_ | refine gw_exit ?_ | refine gw_ret ?_) | ((with_reducible first | refine gif_b (fun hb => ?_) (fun hb => ?_) | refine want_t (fun hb => ?_) (fun hb => ?_) | refine want_f (fun hb => ?_) (fun hb => ?_) | refine dr_t (fun hb => ?_) (fun hb => ?_) | refine dr_f (fun hb => ?_) (fun hb => ?_)) <;> (try simp only [hb]) <;> (try simp only [hpr] at hb)) | with_reducible refine gw_draw (id := 3) [(0, []), (1, []), (2, []), (3, []), (4, []), (5, []), (7, []), (9, []), (11, []), (6, [4, 7, 9, 11]), (8, [4, 9, 11]), (10, [4, 11]), (12, [4]), (13, []), (14, [4]), (15, []), (16, []), (17, []), (18, [])] [0, 0, 2, 6, 14, 0, 32, 0, 224, 0, 992, 0, 4064, 8160, 16352, 32766, 65535, 131071, 262143] mixed (by kernel_rfl) ?_ | with_reducible refine gw_draw (id := 7) [(0, []), (1, []), (2, []), (4, []), (3, [4]), (5, []), (6, []), (7, []), (8, []), (9, []), (10, []), (11, [])] [0, 0, 0, 4, 0, 28, 61, 125, 253, 511, 1023, 2047] mixed (by kernel_rfl) ?_) <;> try simp only [List.map, gop, ev, lk, aenv, gyield, gBin, gInt, gStrOp, gUn, gPick, gNil, gExtract, gIfc, gConvK, gIndexO, gIndexVO, gMakeV, gMinV, gMaxV, isInt, gMin, gMax, gBlt, gCallV, gInvoke, gNilM, Array.toList_map, vcells, gField, gIndexV, gPart, reduceIte, Nat.reduceAdd, Nat.reduceSub, Nat.reduceMul, Nat.reduceLT, Nat.reduceLeDiff, Nat.reduceEqDiff, Nat.reduceBEq, Int.reduceLT, Int.reduceLE, Int.reduceGT, Int.reduceGE, Int.reduceEq, Int.reduceNe, Int.reduceAdd, Int.reduceSub, Int.reduceMul, Int.reduceNeg, Int.reduceToNat, Int.reduceBEq, Int.reduceBNe, Int.cast_ofNat_Int, List.getElem?_toArray, stp, rvOf, wlk, rdv, isEff, dsOf, sgl, stq, Try.underlying100, Try.underlying22, Try.underlying23, Try.underlying24, Try.underlying25, Try.underlying27, Try.underlying3, Try.underlying4, Try.underlying50, Try.underlying53, Try.underlying76, ty22, ty24, ty25, ty100, ty27, ty53, ty76, ty23, ty3, ty4, ty50, rs29]))
  refine gw_loop2 [1, 2, 6] (fun (i : Nat) => [(7, .int .i64 (i : Int))]) (fun q i h' => n - i = q ∧ i ≤ n ∧ H2 kr ka h2 h' ∧ RD h' kr (u.2.evl i).2 ∧ ∃ v cs, h' ka = some ⟨[.int .i64 cd, .int .i64 ep, .bool pr, .bool sm, .slice none 0 0, .int .i64 si, .slice none 0 0, v, .bool mo], 0, true, false⟩ ∧ OWNC 4 (hcut h2 kr ka) h' v i cs ∧ cs.all notU8 = true ∧ ∀ j y, (u.2.evl i).1[j]? = some y → REv h' ((cs.drop (j * 4)).take 4) y) n 0 (by simp [lk]) ⟨rfl, by omega, H2.refl _ _ _, r2, .slice none 0 0, [], m2, OWNC.nil _ _ _, rfl, by simp [St.evl]⟩ ?_
  clear r2 m2
  rintro _ i h3 ⟨rfl, hi, y3, r3, v, cs, m3, o3, cu, bd3⟩
  have sl3 := u.2.evl_len i
  have m13 := y3 _ _ k1r k1a m12
  obtain ⟨a3, c3, rfl⟩ := o3.form
  by_cases hin : i < n
  case neg =>
    have d3 : decide ((i : Int) < (n : Int)) = false := decide_eq_false (by omega)
    obtain rfl : i = n := by omega
    generalize hT : (u.2.evl i).2 = t at *
    have fl := t.flag_len
    have ul1 := (t.flag.2.uint_len 2147483648).1
    refine mk_of ?_; repeat' (first | (with_reducible first | refine gw_seq ?_ | refine gw_block ?_) | ((first | (with_reducible refine mk_to ?_) | (with_reducible first | refine gw_region ?_ | refine gw_if ?_ | refine gw_skip ?_ | refine gw_exit ?_ | refine gw_ret ?_) | ((with_reducible first | refine gif_b (fun hb => ?_) (fun hb => ?_) | refine want_t (fun hb => ?_) (fun hb => ?_) | refine want_f (fun hb => ?_) (fun hb => ?_) | refine dr_t (fun hb => ?_) (fun hb => ?_) | refine dr_f (fun hb => ?_) (fun hb => ?_)) <;> (try simp only [hb]) <;> (try simp only [hpr] at hb)) | with_reducible refine gw_draw (id := 3) [(0, []), (1, []), (2, []), (3, []), (4, []), (5, []), (7, []), (9, []), (11, []), (6, [4, 7, 9, 11]), (8, [4, 9, 11]), (10, [4, 11]), (12, [4]), (13, []), (14, [4]), (15, []), (16, []), (17, []), (18, [])] [0, 0, 2, 6, 14, 0, 32, 0, 224, 0, 992, 0, 4064, 8160, 16352, 32766, 65535, 131071, 262143] mixed (by kernel_rfl) ?_ | with_reducible refine gw_draw (id := 7) [(0, []), (1, []), (2, []), (4, []), (3, [4]), (5, []), (6, []), (7, []), (8, []), (9, []), (10, []), (11, [])] [0, 0, 0, 4, 0, 28, 61, 125, 253, 511, 1023, 2047] mixed (by kernel_rfl) ?_) <;> try simp only [List.map, gop, ev, lk, aenv, gyield, gBin, gInt, gStrOp, gUn, gPick, gNil, gExtract, gIfc, gConvK, gIndexO, gIndexVO, gMakeV, gMinV, gMaxV, isInt, gMin, gMax, gBlt, gCallV, gInvoke, gNilM, Array.toList_map, vcells, gField, gIndexV, gPart, reduceIte, Nat.reduceAdd, Nat.reduceSub, Nat.reduceMul, Nat.reduceLT, Nat.reduceLeDiff, Nat.reduceEqDiff, Nat.reduceBEq, Int.reduceLT, Int.reduceLE, Int.reduceGT, Int.reduceGE, Int.reduceEq, Int.reduceNe, Int.reduceAdd, Int.reduceSub, Int.reduceMul, Int.reduceNeg, Int.reduceToNat, Int.reduceBEq, Int.reduceBNe, Int.cast_ofNat_Int, List.getElem?_toArray, stp, rvOf, wlk, rdv, isEff, dsOf, sgl, stq, Try.underlying100, Try.underlying22, Try.underlying23, Try.underlying24, Try.underlying25, Try.underlying27, Try.underlying3, Try.underlying4, Try.underlying50, Try.underlying53, Try.underlying76, ty22, ty24, ty25, ty100, ty27, ty53, ty76, ty23, ty3, ty4, ty50, rs29, d3, gload1 m13 sz50]))
    refine (c_RFlag N h3 r3 (by omega)).mono ?_
    rintro _ h4 ⟨rfl, r4, x4⟩
    have m4 := x4 _ _ ne.symm m3
    have m14 := x4 _ _ k1r m13
    obtain ⟨_, _, md3, _⟩ := r3.form
    have o4 := o3.hx md3 (by simp) x4
    have bd4 : ∀ j y, (u.2.evl i).1[j]? = some y → REv h4 ((cs.drop (j * 4)).take 4) y := fun j y hy => (bd3 j y hy).hy md3 rfl x4
    refine mk_of ?_; repeat' (first | (with_reducible first | refine gw_seq ?_ | refine gw_block ?_) | ((first | (with_reducible refine mk_to ?_) | (with_reducible first | refine gw_region ?_ | refine gw_if ?_ | refine gw_skip ?_ | refine gw_exit ?_ | refine gw_ret ?_) | ((with_reducible first | refine gif_b (fun hb => ?_) (fun hb => ?_) | refine want_t (fun hb => ?_) (fun hb => ?_) | refine want_f (fun hb => ?_) (fun hb => ?_) | refine dr_t (fun hb => ?_) (fun hb => ?_) | refine dr_f (fun hb => ?_) (fun hb => ?_)) <;> (try simp only [hb]) <;> (try simp only [hpr] at hb)) | with_reducible refine gw_draw (id := 3) [(0, []), (1, []), (2, []), (3, []), (4, []), (5, []), (7, []), (9, []), (11, []), (6, [4, 7, 9, 11]), (8, [4, 9, 11]), (10, [4, 11]), (12, [4]), (13, []), (14, [4]), (15, []), (16, []), (17, []), (18, [])] [0, 0, 2, 6, 14, 0, 32, 0, 224, 0, 992, 0, 4064, 8160, 16352, 32766, 65535, 131071, 262143] mixed (by kernel_rfl) ?_ | with_reducible refine gw_draw (id := 7) [(0, []), (1, []), (2, []), (4, []), (3, [4]), (5, []), (6, []), (7, []), (8, []), (9, []), (10, []), (11, [])] [0, 0, 0, 4, 0, 28, 61, 125, 253, 511, 1023, 2047] mixed (by kernel_rfl) ?_) <;> try simp only [List.map, gop, ev, lk, aenv, gyield, gBin, gInt, gStrOp, gUn, gPick, gNil, gExtract, gIfc, gConvK, gIndexO, gIndexVO, gMakeV, gMinV, gMaxV, isInt, gMin, gMax, gBlt, gCallV, gInvoke, gNilM, Array.toList_map, vcells, gField, gIndexV, gPart, reduceIte, Nat.reduceAdd, Nat.reduceSub, Nat.reduceMul, Nat.reduceLT, Nat.reduceLeDiff, Nat.reduceEqDiff, Nat.reduceBEq, Int.reduceLT, Int.reduceLE, Int.reduceGT, Int.reduceGE, Int.reduceEq, Int.reduceNe, Int.reduceAdd, Int.reduceSub, Int.reduceMul, Int.reduceNeg, Int.reduceToNat, Int.reduceBEq, Int.reduceBNe, Int.cast_ofNat_Int, List.getElem?_toArray, stp, rvOf, wlk, rdv, isEff, dsOf, sgl, stq, Try.underlying100, Try.underlying22, Try.underlying23, Try.underlying24, Try.underlying25, Try.underlying27, Try.underlying3, Try.underlying4, Try.underlying50, Try.underlying53, Try.underlying76, ty22, ty24, ty25, ty100, ty27, ty53, ty76, ty23, ty3, ty4, ty50, rs29, gNil]))
    refine st_one m4 sz4 rfl (by simp) rfl rfl fun h5 m5 f5 => ?_
    have x5 : HX ka h4 h5 := fun j B n e => by rw [f5 j n]; exact e
    have o5 := o4.hx m4 (by simp) x5
    have m15 := x5 _ _ k1a m14
    have r5 := r4.hl m4 (by simp) rfl x5 ne
    have o5' : OWNC 4 (hcut h2 kr ka) h5 (.slice a3 (u.2.evl i).1.length c3) (u.2.evl i).1.length cs := by rw [sl3.1]; exact o5
    have le : LE h5 (.slice a3 (u.2.evl i).1.length c3) (u.2.evl i).1 := o5'.rl fun j y hy => (bd4 j y hy).hy m4 rfl x5
    have y5 := ((y2.trans y3).trans x4.h2a).trans x5.h2b
    rw [← sl3.1] at m5
    generalize (u.2.evl i).1 = L at *
    rw [hRu, revs0]
    cases hf : t.flag.1
    · rw [hf] at m5
      refine mk_of ?_; repeat' (first | (with_reducible first | refine gw_seq ?_ | refine gw_block ?_) | ((first | (with_reducible refine mk_to ?_) | (with_reducible first | refine gw_region ?_ | refine gw_if ?_ | refine gw_skip ?_ | refine gw_exit ?_ | refine gw_ret ?_) | ((with_reducible first | refine gif_b (fun hb => ?_) (fun hb => ?_) | refine want_t (fun hb => ?_) (fun hb => ?_) | refine want_f (fun hb => ?_) (fun hb => ?_) | refine dr_t (fun hb => ?_) (fun hb => ?_) | refine dr_f (fun hb => ?_) (fun hb => ?_)) <;> (try simp only [hb]) <;> (try simp only [hpr] at hb)) | with_reducible refine gw_draw (id := 3) [(0, []), (1, []), (2, []), (3, []), (4, []), (5, []), (7, []), (9, []), (11, []), (6, [4, 7, 9, 11]), (8, [4, 9, 11]), (10, [4, 11]), (12, [4]), (13, []), (14, [4]), (15, []), (16, []), (17, []), (18, [])] [0, 0, 2, 6, 14, 0, 32, 0, 224, 0, 992, 0, 4064, 8160, 16352, 32766, 65535, 131071, 262143] mixed (by kernel_rfl) ?_ | with_reducible refine gw_draw (id := 7) [(0, []), (1, []), (2, []), (4, []), (3, [4]), (5, []), (6, []), (7, []), (8, []), (9, []), (10, []), (11, [])] [0, 0, 0, 4, 0, 28, 61, 125, 253, 511, 1023, 2047] mixed (by kernel_rfl) ?_) <;> try simp only [List.map, gop, ev, lk, aenv, gyield, gBin, gInt, gStrOp, gUn, gPick, gNil, gExtract, gIfc, gConvK, gIndexO, gIndexVO, gMakeV, gMinV, gMaxV, isInt, gMin, gMax, gBlt, gCallV, gInvoke, gNilM, Array.toList_map, vcells, gField, gIndexV, gPart, reduceIte, Nat.reduceAdd, Nat.reduceSub, Nat.reduceMul, Nat.reduceLT, Nat.reduceLeDiff, Nat.reduceEqDiff, Nat.reduceBEq, Int.reduceLT, Int.reduceLE, Int.reduceGT, Int.reduceGE, Int.reduceEq, Int.reduceNe, Int.reduceAdd, Int.reduceSub, Int.reduceMul, Int.reduceNeg, Int.reduceToNat, Int.reduceBEq, Int.reduceBNe, Int.cast_ofNat_Int, List.getElem?_toArray, stp, rvOf, wlk, rdv, isEff, dsOf, sgl, stq, Try.underlying100, Try.underlying22, Try.underlying23, Try.underlying24, Try.underlying25, Try.underlying27, Try.underlying3, Try.underlying4, Try.underlying50, Try.underlying53, Try.underlying76, ty22, ty24, ty25, ty100, ty27, ty53, ty76, ty23, ty3, ty4, ty50, rs29, gNil, gload1 m5 sz4]))
      exact ⟨⟨r5, none, 0, none, 0, a3, c3, m5, RB.nil _, RL.nil _, le⟩, y5⟩
    rw [hf] at m5
    rw [if_pos rfl]
    refine mk_of ?_; repeat' (first | (with_reducible first | refine gw_seq ?_ | refine gw_block ?_) | ((first | (with_reducible refine mk_to ?_) | (with_reducible first | refine gw_region ?_ | refine gw_if ?_ | refine gw_skip ?_ | refine gw_exit ?_ | refine gw_ret ?_) | ((with_reducible first | refine gif_b (fun hb => ?_) (fun hb => ?_) | refine want_t (fun hb => ?_) (fun hb => ?_) | refine want_f (fun hb => ?_) (fun hb => ?_) | refine dr_t (fun hb => ?_) (fun hb => ?_) | refine dr_f (fun hb => ?_) (fun hb => ?_)) <;> (try simp only [hb]) <;> (try simp only [hpr] at hb)) | with_reducible refine gw_draw (id := 3) [(0, []), (1, []), (2, []), (3, []), (4, []), (5, []), (7, []), (9, []), (11, []), (6, [4, 7, 9, 11]), (8, [4, 9, 11]), (10, [4, 11]), (12, [4]), (13, []), (14, [4]), (15, []), (16, []), (17, []), (18, [])] [0, 0, 2, 6, 14, 0, 32, 0, 224, 0, 992, 0, 4064, 8160, 16352, 32766, 65535, 131071, 262143] mixed (by kernel_rfl) ?_ | with_reducible refine gw_draw (id := 7) [(0, []), (1, []), (2, []), (4, []), (3, [4]), (5, []), (6, []), (7, []), (8, []), (9, []), (10, []), (11, [])] [0, 0, 0, 4, 0, 28, 61, 125, 253, 511, 1023, 2047] mixed (by kernel_rfl) ?_) <;> try simp only [List.map, gop, ev, lk, aenv, gyield, gBin, gInt, gStrOp, gUn, gPick, gNil, gExtract, gIfc, gConvK, gIndexO, gIndexVO, gMakeV, gMinV, gMaxV, isInt, gMin, gMax, gBlt, gCallV, gInvoke, gNilM, Array.toList_map, vcells, gField, gIndexV, gPart, reduceIte, Nat.reduceAdd, Nat.reduceSub, Nat.reduceMul, Nat.reduceLT, Nat.reduceLeDiff, Nat.reduceEqDiff, Nat.reduceBEq, Int.reduceLT, Int.reduceLE, Int.reduceGT, Int.reduceGE, Int.reduceEq, Int.reduceNe, Int.reduceAdd, Int.reduceSub, Int.reduceMul, Int.reduceNeg, Int.reduceToNat, Int.reduceBEq, Int.reduceBNe, Int.cast_ofNat_Int, List.getElem?_toArray, stp, rvOf, wlk, rdv, isEff, dsOf, sgl, stq, Try.underlying100, Try.underlying22, Try.underlying23, Try.underlying24, Try.underlying25, Try.underlying27, Try.underlying3, Try.underlying4, Try.underlying50, Try.underlying53, Try.underlying76, ty22, ty24, ty25, ty100, ty27, ty53, ty76, ty23, ty3, ty4, ty50, rs29, gNil, gload1 m5 sz4, gloadA m15 sz53 rfl]))
    refine (i_num r5 (by omega)).mono ?_
    rintro _ h6 ⟨rfl, r6, x6⟩
    have m6 := x6 _ _ ne.symm m5
    have m16 := x6 _ _ k1r m15
    refine mk_of ?_; repeat' (first | (with_reducible first | refine gw_seq ?_ | refine gw_block ?_) | ((first | (with_reducible refine mk_to ?_) | (with_reducible first | refine gw_region ?_ | refine gw_if ?_ | refine gw_skip ?_ | refine gw_exit ?_ | refine gw_ret ?_) | ((with_reducible first | refine gif_b (fun hb => ?_) (fun hb => ?_) | refine want_t (fun hb => ?_) (fun hb => ?_) | refine want_f (fun hb => ?_) (fun hb => ?_) | refine dr_t (fun hb => ?_) (fun hb => ?_) | refine dr_f (fun hb => ?_) (fun hb => ?_)) <;> (try simp only [hb]) <;> (try simp only [hpr] at hb)) | with_reducible refine gw_draw (id := 3) [(0, []), (1, []), (2, []), (3, []), (4, []), (5, []), (7, []), (9, []), (11, []), (6, [4, 7, 9, 11]), (8, [4, 9, 11]), (10, [4, 11]), (12, [4]), (13, []), (14, [4]), (15, []), (16, []), (17, []), (18, [])] [0, 0, 2, 6, 14, 0, 32, 0, 224, 0, 992, 0, 4064, 8160, 16352, 32766, 65535, 131071, 262143] mixed (by kernel_rfl) ?_ | with_reducible refine gw_draw (id := 7) [(0, []), (1, []), (2, []), (4, []), (3, [4]), (5, []), (6, []), (7, []), (8, []), (9, []), (10, []), (11, [])] [0, 0, 0, 4, 0, 28, 61, 125, 253, 511, 1023, 2047] mixed (by kernel_rfl) ?_) <;> try simp only [List.map, gop, ev, lk, aenv, gyield, gBin, gInt, gStrOp, gUn, gPick, gNil, gExtract, gIfc, gConvK, gIndexO, gIndexVO, gMakeV, gMinV, gMaxV, isInt, gMin, gMax, gBlt, gCallV, gInvoke, gNilM, Array.toList_map, vcells, gField, gIndexV, gPart, reduceIte, Nat.reduceAdd, Nat.reduceSub, Nat.reduceMul, Nat.reduceLT, Nat.reduceLeDiff, Nat.reduceEqDiff, Nat.reduceBEq, Int.reduceLT, Int.reduceLE, Int.reduceGT, Int.reduceGE, Int.reduceEq, Int.reduceNe, Int.reduceAdd, Int.reduceSub, Int.reduceMul, Int.reduceNeg, Int.reduceToNat, Int.reduceBEq, Int.reduceBNe, Int.cast_ofNat_Int, List.getElem?_toArray, stp, rvOf, wlk, rdv, isEff, dsOf, sgl, stq, Try.underlying100, Try.underlying22, Try.underlying23, Try.underlying24, Try.underlying25, Try.underlying27, Try.underlying3, Try.underlying4, Try.underlying50, Try.underlying53, Try.underlying76, ty22, ty24, ty25, ty100, ty27, ty53, ty76, ty23, ty3, ty4, ty50, rs29, gNil, gloadA m16 sz53 rfl]))
    refine (i_num r6 (by omega)).mono ?_
    rintro _ h7 ⟨rfl, r7, x7⟩
    have m7 := x7 _ _ ne.symm m6
    have m17 := x7 _ _ k1r m16
    obtain ⟨_, _, md5, _⟩ := r5.form
    obtain ⟨_, _, md6, _⟩ := r6.form
    have le7 := (le.hy md5 ⟨rfl, rfl⟩ rfl x6).hy md6 ⟨rfl, rfl⟩ rfl x7
    refine mk_of ?_; repeat' (first | (with_reducible first | refine gw_seq ?_ | refine gw_block ?_) | ((first | (with_reducible refine mk_to ?_) | (with_reducible first | refine gw_region ?_ | refine gw_if ?_ | refine gw_skip ?_ | refine gw_exit ?_ | refine gw_ret ?_) | ((with_reducible first | refine gif_b (fun hb => ?_) (fun hb => ?_) | refine want_t (fun hb => ?_) (fun hb => ?_) | refine want_f (fun hb => ?_) (fun hb => ?_) | refine dr_t (fun hb => ?_) (fun hb => ?_) | refine dr_f (fun hb => ?_) (fun hb => ?_)) <;> (try simp only [hb]) <;> (try simp only [hpr] at hb)) | with_reducible refine gw_draw (id := 3) [(0, []), (1, []), (2, []), (3, []), (4, []), (5, []), (7, []), (9, []), (11, []), (6, [4, 7, 9, 11]), (8, [4, 9, 11]), (10, [4, 11]), (12, [4]), (13, []), (14, [4]), (15, []), (16, []), (17, []), (18, [])] [0, 0, 2, 6, 14, 0, 32, 0, 224, 0, 992, 0, 4064, 8160, 16352, 32766, 65535, 131071, 262143] mixed (by kernel_rfl) ?_ | with_reducible refine gw_draw (id := 7) [(0, []), (1, []), (2, []), (4, []), (3, [4]), (5, []), (6, []), (7, []), (8, []), (9, []), (10, []), (11, [])] [0, 0, 0, 4, 0, 28, 61, 125, 253, 511, 1023, 2047] mixed (by kernel_rfl) ?_) <;> try simp only [List.map, gop, ev, lk, aenv, gyield, gBin, gInt, gStrOp, gUn, gPick, gNil, gExtract, gIfc, gConvK, gIndexO, gIndexVO, gMakeV, gMinV, gMaxV, isInt, gMin, gMax, gBlt, gCallV, gInvoke, gNilM, Array.toList_map, vcells, gField, gIndexV, gPart, reduceIte, Nat.reduceAdd, Nat.reduceSub, Nat.reduceMul, Nat.reduceLT, Nat.reduceLeDiff, Nat.reduceEqDiff, Nat.reduceBEq, Int.reduceLT, Int.reduceLE, Int.reduceGT, Int.reduceGE, Int.reduceEq, Int.reduceNe, Int.reduceAdd, Int.reduceSub, Int.reduceMul, Int.reduceNeg, Int.reduceToNat, Int.reduceBEq, Int.reduceBNe, Int.cast_ofNat_Int, List.getElem?_toArray, stp, rvOf, wlk, rdv, isEff, dsOf, sgl, stq, Try.underlying100, Try.underlying22, Try.underlying23, Try.underlying24, Try.underlying25, Try.underlying27, Try.underlying3, Try.underlying4, Try.underlying50, Try.underlying53, Try.underlying76, ty22, ty24, ty25, ty100, ty27, ty53, ty76, ty23, ty3, ty4, ty50, rs29, gNil, gloadA m17 sz53 rfl]))
    refine st_one m7 sz3 rfl (by simp) rfl rfl fun h8 m8 f8 => ?_
    have x8 : HX ka h7 h8 := fun j B n e => by rw [f8 j n]; exact e
    refine mk_of ?_; repeat' (first | (with_reducible first | refine gw_seq ?_ | refine gw_block ?_) | ((first | (with_reducible refine mk_to ?_) | (with_reducible first | refine gw_region ?_ | refine gw_if ?_ | refine gw_skip ?_ | refine gw_exit ?_ | refine gw_ret ?_) | ((with_reducible first | refine gif_b (fun hb => ?_) (fun hb => ?_) | refine want_t (fun hb => ?_) (fun hb => ?_) | refine want_f (fun hb => ?_) (fun hb => ?_) | refine dr_t (fun hb => ?_) (fun hb => ?_) | refine dr_f (fun hb => ?_) (fun hb => ?_)) <;> (try simp only [hb]) <;> (try simp only [hpr] at hb)) | with_reducible refine gw_draw (id := 3) [(0, []), (1, []), (2, []), (3, []), (4, []), (5, []), (7, []), (9, []), (11, []), (6, [4, 7, 9, 11]), (8, [4, 9, 11]), (10, [4, 11]), (12, [4]), (13, []), (14, [4]), (15, []), (16, []), (17, []), (18, [])] [0, 0, 2, 6, 14, 0, 32, 0, 224, 0, 992, 0, 4064, 8160, 16352, 32766, 65535, 131071, 262143] mixed (by kernel_rfl) ?_ | with_reducible refine gw_draw (id := 7) [(0, []), (1, []), (2, []), (4, []), (3, [4]), (5, []), (6, []), (7, []), (8, []), (9, []), (10, []), (11, [])] [0, 0, 0, 4, 0, 28, 61, 125, 253, 511, 1023, 2047] mixed (by kernel_rfl) ?_) <;> try simp only [List.map, gop, ev, lk, aenv, gyield, gBin, gInt, gStrOp, gUn, gPick, gNil, gExtract, gIfc, gConvK, gIndexO, gIndexVO, gMakeV, gMinV, gMaxV, isInt, gMin, gMax, gBlt, gCallV, gInvoke, gNilM, Array.toList_map, vcells, gField, gIndexV, gPart, reduceIte, Nat.reduceAdd, Nat.reduceSub, Nat.reduceMul, Nat.reduceLT, Nat.reduceLeDiff, Nat.reduceEqDiff, Nat.reduceBEq, Int.reduceLT, Int.reduceLE, Int.reduceGT, Int.reduceGE, Int.reduceEq, Int.reduceNe, Int.reduceAdd, Int.reduceSub, Int.reduceMul, Int.reduceNeg, Int.reduceToNat, Int.reduceBEq, Int.reduceBNe, Int.cast_ofNat_Int, List.getElem?_toArray, stp, rvOf, wlk, rdv, isEff, dsOf, sgl, stq, Try.underlying100, Try.underlying22, Try.underlying23, Try.underlying24, Try.underlying25, Try.underlying27, Try.underlying3, Try.underlying4, Try.underlying50, Try.underlying53, Try.underlying76, ty22, ty24, ty25, ty100, ty27, ty53, ty76, ty23, ty3, ty4, ty50, rs29, gNil]))
    refine st_one m8 sz3 rfl (by simp) rfl rfl fun h9 m9 f9 => ?_
    have x9 : HX ka h8 h9 := fun j B n e => by rw [f9 j n]; exact e
    refine mk_of ?_; repeat' (first | (with_reducible first | refine gw_seq ?_ | refine gw_block ?_) | ((first | (with_reducible refine mk_to ?_) | (with_reducible first | refine gw_region ?_ | refine gw_if ?_ | refine gw_skip ?_ | refine gw_exit ?_ | refine gw_ret ?_) | ((with_reducible first | refine gif_b (fun hb => ?_) (fun hb => ?_) | refine want_t (fun hb => ?_) (fun hb => ?_) | refine want_f (fun hb => ?_) (fun hb => ?_) | refine dr_t (fun hb => ?_) (fun hb => ?_) | refine dr_f (fun hb => ?_) (fun hb => ?_)) <;> (try simp only [hb]) <;> (try simp only [hpr] at hb)) | with_reducible refine gw_draw (id := 3) [(0, []), (1, []), (2, []), (3, []), (4, []), (5, []), (7, []), (9, []), (11, []), (6, [4, 7, 9, 11]), (8, [4, 9, 11]), (10, [4, 11]), (12, [4]), (13, []), (14, [4]), (15, []), (16, []), (17, []), (18, [])] [0, 0, 2, 6, 14, 0, 32, 0, 224, 0, 992, 0, 4064, 8160, 16352, 32766, 65535, 131071, 262143] mixed (by kernel_rfl) ?_ | with_reducible refine gw_draw (id := 7) [(0, []), (1, []), (2, []), (4, []), (3, [4]), (5, []), (6, []), (7, []), (8, []), (9, []), (10, []), (11, [])] [0, 0, 0, 4, 0, 28, 61, 125, 253, 511, 1023, 2047] mixed (by kernel_rfl) ?_) <;> try simp only [List.map, gop, ev, lk, aenv, gyield, gBin, gInt, gStrOp, gUn, gPick, gNil, gExtract, gIfc, gConvK, gIndexO, gIndexVO, gMakeV, gMinV, gMaxV, isInt, gMin, gMax, gBlt, gCallV, gInvoke, gNilM, Array.toList_map, vcells, gField, gIndexV, gPart, reduceIte, Nat.reduceAdd, Nat.reduceSub, Nat.reduceMul, Nat.reduceLT, Nat.reduceLeDiff, Nat.reduceEqDiff, Nat.reduceBEq, Int.reduceLT, Int.reduceLE, Int.reduceGT, Int.reduceGE, Int.reduceEq, Int.reduceNe, Int.reduceAdd, Int.reduceSub, Int.reduceMul, Int.reduceNeg, Int.reduceToNat, Int.reduceBEq, Int.reduceBNe, Int.cast_ofNat_Int, List.getElem?_toArray, stp, rvOf, wlk, rdv, isEff, dsOf, sgl, stq, Try.underlying100, Try.underlying22, Try.underlying23, Try.underlying24, Try.underlying25, Try.underlying27, Try.underlying3, Try.underlying4, Try.underlying50, Try.underlying53, Try.underlying76, ty22, ty24, ty25, ty100, ty27, ty53, ty76, ty23, ty3, ty4, ty50, rs29]))
    exact ⟨⟨(r7.hl m7 (by simp) rfl x8 ne).hl m8 (by simp) rfl x9 ne, none, 0, none, 0, a3, c3, m9, RB.nil _, RL.nil _, (le7.hy m7 ⟨rfl, rfl⟩ rfl x8).hy m8 ⟨rfl, rfl⟩ rfl x9⟩, (((y5.trans x6.h2a).trans x7.h2a).trans x8.h2b).trans x9.h2b⟩
  have d3 : decide ((i : Int) < (n : Int)) = true := decide_eq_true (by omega)
  have wi : IntKind.i64.wrap ((i : Int) + 1) = ((i + 1 : Nat) : Int) := by rw [wrap64 (by omega) (by omega)]; omega
  have b1 := (St.uint_len (u.2.evl i).2 2147483648).1
  have b2 := (St.uint_len ((u.2.evl i).2.uint 2147483648).2 2147483648).1
  have b3 := St.bytes_len (((u.2.evl i).2.uint 2147483648).2.uint 2147483648).2 300
  refine mk_of ?_; repeat' (first | (with_reducible first | refine gw_seq ?_ | refine gw_block ?_) | ((first | (with_reducible refine mk_to ?_) | (with_reducible first | refine gw_region ?_ | refine gw_if ?_ | refine gw_skip ?_ | refine gw_exit ?_ | refine gw_ret ?_) | ((with_reducible first | refine gif_b (fun hb => ?_) (fun hb => ?_) | refine want_t (fun hb => ?_) (fun hb => ?_) | refine want_f (fun hb => ?_) (fun hb => ?_) | refine dr_t (fun hb => ?_) (fun hb => ?_) | refine dr_f (fun hb => ?_) (fun hb => ?_)) <;> (try simp only [hb]) <;> (try simp only [hpr] at hb)) | with_reducible refine gw_draw (id := 3) [(0, []), (1, []), (2, []), (3, []), (4, []), (5, []), (7, []), (9, []), (11, []), (6, [4, 7, 9, 11]), (8, [4, 9, 11]), (10, [4, 11]), (12, [4]), (13, []), (14, [4]), (15, []), (16, []), (17, []), (18, [])] [0, 0, 2, 6, 14, 0, 32, 0, 224, 0, 992, 0, 4064, 8160, 16352, 32766, 65535, 131071, 262143] mixed (by kernel_rfl) ?_ | with_reducible refine gw_draw (id := 7) [(0, []), (1, []), (2, []), (4, []), (3, [4]), (5, []), (6, []), (7, []), (8, []), (9, []), (10, []), (11, [])] [0, 0, 0, 4, 0, 28, 61, 125, 253, 511, 1023, 2047] mixed (by kernel_rfl) ?_) <;> try simp only [List.map, gop, ev, lk, aenv, gyield, gBin, gInt, gStrOp, gUn, gPick, gNil, gExtract, gIfc, gConvK, gIndexO, gIndexVO, gMakeV, gMinV, gMaxV, isInt, gMin, gMax, gBlt, gCallV, gInvoke, gNilM, Array.toList_map, vcells, gField, gIndexV, gPart, reduceIte, Nat.reduceAdd, Nat.reduceSub, Nat.reduceMul, Nat.reduceLT, Nat.reduceLeDiff, Nat.reduceEqDiff, Nat.reduceBEq, Int.reduceLT, Int.reduceLE, Int.reduceGT, Int.reduceGE, Int.reduceEq, Int.reduceNe, Int.reduceAdd, Int.reduceSub, Int.reduceMul, Int.reduceNeg, Int.reduceToNat, Int.reduceBEq, Int.reduceBNe, Int.cast_ofNat_Int, List.getElem?_toArray, stp, rvOf, wlk, rdv, isEff, dsOf, sgl, stq, Try.underlying100, Try.underlying22, Try.underlying23, Try.underlying24, Try.underlying25, Try.underlying27, Try.underlying3, Try.underlying4, Try.underlying50, Try.underlying53, Try.underlying76, ty22, ty24, ty25, ty100, ty27, ty53, ty76, ty23, ty3, ty4, ty50, rs29, d3, gNil, gload1 m3 sz25, gloadA m13 sz53 rfl]))
  refine (i_num r3 (by omega)).mono ?_
  rintro _ h4 ⟨rfl, r4, x4⟩
  have m4 := x4 _ _ ne.symm m3
  have m14 := x4 _ _ k1r m13
  refine mk_of ?_; repeat' (first | (with_reducible first | refine gw_seq ?_ | refine gw_block ?_) | ((first | (with_reducible refine mk_to ?_) | (with_reducible first | refine gw_region ?_ | refine gw_if ?_ | refine gw_skip ?_ | refine gw_exit ?_ | refine gw_ret ?_) | ((with_reducible first | refine gif_b (fun hb => ?_) (fun hb => ?_) | refine want_t (fun hb => ?_) (fun hb => ?_) | refine want_f (fun hb => ?_) (fun hb => ?_) | refine dr_t (fun hb => ?_) (fun hb => ?_) | refine dr_f (fun hb => ?_) (fun hb => ?_)) <;> (try simp only [hb]) <;> (try simp only [hpr] at hb)) | with_reducible refine gw_draw (id := 3) [(0, []), (1, []), (2, []), (3, []), (4, []), (5, []), (7, []), (9, []), (11, []), (6, [4, 7, 9, 11]), (8, [4, 9, 11]), (10, [4, 11]), (12, [4]), (13, []), (14, [4]), (15, []), (16, []), (17, []), (18, [])] [0, 0, 2, 6, 14, 0, 32, 0, 224, 0, 992, 0, 4064, 8160, 16352, 32766, 65535, 131071, 262143] mixed (by kernel_rfl) ?_ | with_reducible refine gw_draw (id := 7) [(0, []), (1, []), (2, []), (4, []), (3, [4]), (5, []), (6, []), (7, []), (8, []), (9, []), (10, []), (11, [])] [0, 0, 0, 4, 0, 28, 61, 125, 253, 511, 1023, 2047] mixed (by kernel_rfl) ?_) <;> try simp only [List.map, gop, ev, lk, aenv, gyield, gBin, gInt, gStrOp, gUn, gPick, gNil, gExtract, gIfc, gConvK, gIndexO, gIndexVO, gMakeV, gMinV, gMaxV, isInt, gMin, gMax, gBlt, gCallV, gInvoke, gNilM, Array.toList_map, vcells, gField, gIndexV, gPart, reduceIte, Nat.reduceAdd, Nat.reduceSub, Nat.reduceMul, Nat.reduceLT, Nat.reduceLeDiff, Nat.reduceEqDiff, Nat.reduceBEq, Int.reduceLT, Int.reduceLE, Int.reduceGT, Int.reduceGE, Int.reduceEq, Int.reduceNe, Int.reduceAdd, Int.reduceSub, Int.reduceMul, Int.reduceNeg, Int.reduceToNat, Int.reduceBEq, Int.reduceBNe, Int.cast_ofNat_Int, List.getElem?_toArray, stp, rvOf, wlk, rdv, isEff, dsOf, sgl, stq, Try.underlying100, Try.underlying22, Try.underlying23, Try.underlying24, Try.underlying25, Try.underlying27, Try.underlying3, Try.underlying4, Try.underlying50, Try.underlying53, Try.underlying76, ty22, ty24, ty25, ty100, ty27, ty53, ty76, ty23, ty3, ty4, ty50, rs29, gNil, gload1 m4 sz25, gloadA m14 sz53 rfl]))
  refine (i_num r4 (by omega)).mono ?_
  rintro _ h5 ⟨rfl, r5, x5⟩
  have m5 := x5 _ _ ne.symm m4
  have m15 := x5 _ _ k1r m14
  refine mk_of ?_; repeat' (first | (with_reducible first | refine gw_seq ?_ | refine gw_block ?_) | ((first | (with_reducible refine mk_to ?_) | (with_reducible first | refine gw_region ?_ | refine gw_if ?_ | refine gw_skip ?_ | refine gw_exit ?_ | refine gw_ret ?_) | ((with_reducible first | refine gif_b (fun hb => ?_) (fun hb => ?_) | refine want_t (fun hb => ?_) (fun hb => ?_) | refine want_f (fun hb => ?_) (fun hb => ?_) | refine dr_t (fun hb => ?_) (fun hb => ?_) | refine dr_f (fun hb => ?_) (fun hb => ?_)) <;> (try simp only [hb]) <;> (try simp only [hpr] at hb)) | with_reducible refine gw_draw (id := 3) [(0, []), (1, []), (2, []), (3, []), (4, []), (5, []), (7, []), (9, []), (11, []), (6, [4, 7, 9, 11]), (8, [4, 9, 11]), (10, [4, 11]), (12, [4]), (13, []), (14, [4]), (15, []), (16, []), (17, []), (18, [])] [0, 0, 2, 6, 14, 0, 32, 0, 224, 0, 992, 0, 4064, 8160, 16352, 32766, 65535, 131071, 262143] mixed (by kernel_rfl) ?_ | with_reducible refine gw_draw (id := 7) [(0, []), (1, []), (2, []), (4, []), (3, [4]), (5, []), (6, []), (7, []), (8, []), (9, []), (10, []), (11, [])] [0, 0, 0, 4, 0, 28, 61, 125, 253, 511, 1023, 2047] mixed (by kernel_rfl) ?_) <;> try simp only [List.map, gop, ev, lk, aenv, gyield, gBin, gInt, gStrOp, gUn, gPick, gNil, gExtract, gIfc, gConvK, gIndexO, gIndexVO, gMakeV, gMinV, gMaxV, isInt, gMin, gMax, gBlt, gCallV, gInvoke, gNilM, Array.toList_map, vcells, gField, gIndexV, gPart, reduceIte, Nat.reduceAdd, Nat.reduceSub, Nat.reduceMul, Nat.reduceLT, Nat.reduceLeDiff, Nat.reduceEqDiff, Nat.reduceBEq, Int.reduceLT, Int.reduceLE, Int.reduceGT, Int.reduceGE, Int.reduceEq, Int.reduceNe, Int.reduceAdd, Int.reduceSub, Int.reduceMul, Int.reduceNeg, Int.reduceToNat, Int.reduceBEq, Int.reduceBNe, Int.cast_ofNat_Int, List.getElem?_toArray, stp, rvOf, wlk, rdv, isEff, dsOf, sgl, stq, Try.underlying100, Try.underlying22, Try.underlying23, Try.underlying24, Try.underlying25, Try.underlying27, Try.underlying3, Try.underlying4, Try.underlying50, Try.underlying53, Try.underlying76, ty22, ty24, ty25, ty100, ty27, ty53, ty76, ty23, ty3, ty4, ty50, rs29, gNil, gload1 m5 sz25, gloadA m15 sz53 rfl]))
  refine (i_word r5 (by omega)).mono ?_
  rintro _ h6 ⟨r6, x6, a6, c6, rfl, q6⟩
  have m6 := x6 _ _ ne.symm m5
  have m16 := x6 _ _ k1r m15
  refine mk_of ?_; repeat' (first | (with_reducible first | refine gw_seq ?_ | refine gw_block ?_) | ((first | (with_reducible refine mk_to ?_) | (with_reducible first | refine gw_region ?_ | refine gw_if ?_ | refine gw_skip ?_ | refine gw_exit ?_ | refine gw_ret ?_) | ((with_reducible first | refine gif_b (fun hb => ?_) (fun hb => ?_) | refine want_t (fun hb => ?_) (fun hb => ?_) | refine want_f (fun hb => ?_) (fun hb => ?_) | refine dr_t (fun hb => ?_) (fun hb => ?_) | refine dr_f (fun hb => ?_) (fun hb => ?_)) <;> (try simp only [hb]) <;> (try simp only [hpr] at hb)) | with_reducible refine gw_draw (id := 3) [(0, []), (1, []), (2, []), (3, []), (4, []), (5, []), (7, []), (9, []), (11, []), (6, [4, 7, 9, 11]), (8, [4, 9, 11]), (10, [4, 11]), (12, [4]), (13, []), (14, [4]), (15, []), (16, []), (17, []), (18, [])] [0, 0, 2, 6, 14, 0, 32, 0, 224, 0, 992, 0, 4064, 8160, 16352, 32766, 65535, 131071, 262143] mixed (by kernel_rfl) ?_ | with_reducible refine gw_draw (id := 7) [(0, []), (1, []), (2, []), (4, []), (3, [4]), (5, []), (6, []), (7, []), (8, []), (9, []), (10, []), (11, [])] [0, 0, 0, 4, 0, 28, 61, 125, 253, 511, 1023, 2047] mixed (by kernel_rfl) ?_) <;> try simp only [List.map, gop, ev, lk, aenv, gyield, gBin, gInt, gStrOp, gUn, gPick, gNil, gExtract, gIfc, gConvK, gIndexO, gIndexVO, gMakeV, gMinV, gMaxV, isInt, gMin, gMax, gBlt, gCallV, gInvoke, gNilM, Array.toList_map, vcells, gField, gIndexV, gPart, reduceIte, Nat.reduceAdd, Nat.reduceSub, Nat.reduceMul, Nat.reduceLT, Nat.reduceLeDiff, Nat.reduceEqDiff, Nat.reduceBEq, Int.reduceLT, Int.reduceLE, Int.reduceGT, Int.reduceGE, Int.reduceEq, Int.reduceNe, Int.reduceAdd, Int.reduceSub, Int.reduceMul, Int.reduceNeg, Int.reduceToNat, Int.reduceBEq, Int.reduceBNe, Int.cast_ofNat_Int, List.getElem?_toArray, stp, rvOf, wlk, rdv, isEff, dsOf, sgl, stq, Try.underlying100, Try.underlying22, Try.underlying23, Try.underlying24, Try.underlying25, Try.underlying27, Try.underlying3, Try.underlying4, Try.underlying50, Try.underlying53, Try.underlying76, ty22, ty24, ty25, ty100, ty27, ty53, ty76, ty23, ty3, ty4, ty50, rs29, gNil, gload1 m6 sz25, gloadA m16 sz53 rfl]))
  refine (i_word r6 (by omega)).mono ?_
  rintro _ h6' ⟨r6', x6', a6', c6', rfl, q6'⟩
  have m6' := x6' _ _ ne.symm m6
  have m16' := x6' _ _ k1r m16
  have q66 := q6.rd r6 x6'
  refine mk_of ?_; repeat' (first | (with_reducible first | refine gw_seq ?_ | refine gw_block ?_) | ((first | (with_reducible refine mk_to ?_) | (with_reducible first | refine gw_region ?_ | refine gw_if ?_ | refine gw_skip ?_ | refine gw_exit ?_ | refine gw_ret ?_) | ((with_reducible first | refine gif_b (fun hb => ?_) (fun hb => ?_) | refine want_t (fun hb => ?_) (fun hb => ?_) | refine want_f (fun hb => ?_) (fun hb => ?_) | refine dr_t (fun hb => ?_) (fun hb => ?_) | refine dr_f (fun hb => ?_) (fun hb => ?_)) <;> (try simp only [hb]) <;> (try simp only [hpr] at hb)) | with_reducible refine gw_draw (id := 3) [(0, []), (1, []), (2, []), (3, []), (4, []), (5, []), (7, []), (9, []), (11, []), (6, [4, 7, 9, 11]), (8, [4, 9, 11]), (10, [4, 11]), (12, [4]), (13, []), (14, [4]), (15, []), (16, []), (17, []), (18, [])] [0, 0, 2, 6, 14, 0, 32, 0, 224, 0, 992, 0, 4064, 8160, 16352, 32766, 65535, 131071, 262143] mixed (by kernel_rfl) ?_ | with_reducible refine gw_draw (id := 7) [(0, []), (1, []), (2, []), (4, []), (3, [4]), (5, []), (6, []), (7, []), (8, []), (9, []), (10, []), (11, [])] [0, 0, 0, 4, 0, 28, 61, 125, 253, 511, 1023, 2047] mixed (by kernel_rfl) ?_) <;> try simp only [List.map, gop, ev, lk, aenv, gyield, gBin, gInt, gStrOp, gUn, gPick, gNil, gExtract, gIfc, gConvK, gIndexO, gIndexVO, gMakeV, gMinV, gMaxV, isInt, gMin, gMax, gBlt, gCallV, gInvoke, gNilM, Array.toList_map, vcells, gField, gIndexV, gPart, reduceIte, Nat.reduceAdd, Nat.reduceSub, Nat.reduceMul, Nat.reduceLT, Nat.reduceLeDiff, Nat.reduceEqDiff, Nat.reduceBEq, Int.reduceLT, Int.reduceLE, Int.reduceGT, Int.reduceGE, Int.reduceEq, Int.reduceNe, Int.reduceAdd, Int.reduceSub, Int.reduceMul, Int.reduceNeg, Int.reduceToNat, Int.reduceBEq, Int.reduceBNe, Int.cast_ofNat_Int, List.getElem?_toArray, stp, rvOf, wlk, rdv, isEff, dsOf, sgl, stq, Try.underlying100, Try.underlying22, Try.underlying23, Try.underlying24, Try.underlying25, Try.underlying27, Try.underlying3, Try.underlying4, Try.underlying50, Try.underlying53, Try.underlying76, ty22, ty24, ty25, ty100, ty27, ty53, ty76, ty23, ty3, ty4, ty50, rs29, gNil, gload1 m6' sz25, gloadA m16' sz53 rfl, gBuild, lfill, lput, Shape.pl, List.all_cons, List.all_nil, isCell]))
  refine bsn1_g el25 rfl rfl (by decide) (by decide) rfl fun k7 h7 b7 s7 f7 n7 => ?_
  have m7 := s7 _ _ m6'
  refine mk_of ?_; repeat' (first | (with_reducible first | refine gw_seq ?_ | refine gw_block ?_) | ((first | (with_reducible refine mk_to ?_) | (with_reducible first | refine gw_region ?_ | refine gw_if ?_ | refine gw_skip ?_ | refine gw_exit ?_ | refine gw_ret ?_) | ((with_reducible first | refine gif_b (fun hb => ?_) (fun hb => ?_) | refine want_t (fun hb => ?_) (fun hb => ?_) | refine want_f (fun hb => ?_) (fun hb => ?_) | refine dr_t (fun hb => ?_) (fun hb => ?_) | refine dr_f (fun hb => ?_) (fun hb => ?_)) <;> (try simp only [hb]) <;> (try simp only [hpr] at hb)) | with_reducible refine gw_draw (id := 3) [(0, []), (1, []), (2, []), (3, []), (4, []), (5, []), (7, []), (9, []), (11, []), (6, [4, 7, 9, 11]), (8, [4, 9, 11]), (10, [4, 11]), (12, [4]), (13, []), (14, [4]), (15, []), (16, []), (17, []), (18, [])] [0, 0, 2, 6, 14, 0, 32, 0, 224, 0, 992, 0, 4064, 8160, 16352, 32766, 65535, 131071, 262143] mixed (by kernel_rfl) ?_ | with_reducible refine gw_draw (id := 7) [(0, []), (1, []), (2, []), (4, []), (3, [4]), (5, []), (6, []), (7, []), (8, []), (9, []), (10, []), (11, [])] [0, 0, 0, 4, 0, 28, 61, 125, 253, 511, 1023, 2047] mixed (by kernel_rfl) ?_) <;> try simp only [List.map, gop, ev, lk, aenv, gyield, gBin, gInt, gStrOp, gUn, gPick, gNil, gExtract, gIfc, gConvK, gIndexO, gIndexVO, gMakeV, gMinV, gMaxV, isInt, gMin, gMax, gBlt, gCallV, gInvoke, gNilM, Array.toList_map, vcells, gField, gIndexV, gPart, reduceIte, Nat.reduceAdd, Nat.reduceSub, Nat.reduceMul, Nat.reduceLT, Nat.reduceLeDiff, Nat.reduceEqDiff, Nat.reduceBEq, Int.reduceLT, Int.reduceLE, Int.reduceGT, Int.reduceGE, Int.reduceEq, Int.reduceNe, Int.reduceAdd, Int.reduceSub, Int.reduceMul, Int.reduceNeg, Int.reduceToNat, Int.reduceBEq, Int.reduceBNe, Int.cast_ofNat_Int, List.getElem?_toArray, stp, rvOf, wlk, rdv, isEff, dsOf, sgl, stq, Try.underlying100, Try.underlying22, Try.underlying23, Try.underlying24, Try.underlying25, Try.underlying27, Try.underlying3, Try.underlying4, Try.underlying50, Try.underlying53, Try.underlying76, ty22, ty24, ty25, ty100, ty27, ty53, ty76, ty23, ty3, ty4, ty50, rs29, gNil, gload1 m7 sz25]))
  obtain ⟨_, _, md3, _⟩ := r3.form
  obtain ⟨_, _, md4, _⟩ := r4.form
  obtain ⟨_, _, md5, _⟩ := r5.form
  obtain ⟨_, _, md6, _⟩ := r6.form
  have o6 := (((o3.hx md3 (by simp) x4).hx md4 (by simp) x5).hx md5 (by simp) x6).hx md6 (by simp) x6'
  have bd6 : ∀ j y, (u.2.evl i).1[j]? = some y → REv h6' ((cs.drop (j * 4)).take 4) y := fun j y hy => ((((bd3 j y hy).hy md3 rfl x4).hy md4 rfl x5).hy md5 rfl x6).hy md6 rfl x6'
  have y7 : H2 kr ka h2 h7 := ((((y3.trans x4.h2a).trans x5.h2a).trans x6.h2a).trans x6'.h2a).trans s7.h2
  refine append_ownc el25 Try.underlying25 rfl y7.hs (o6.hs s7) b7 rfl rfl (by omega) (by simp only [maxLen]; omega) fun v8 h8 s8 fr8 o8 => ?_
  obtain ⟨a8, c8, rfl⟩ := o8.form
  have m8 := fr_es fr8 m7 (by simp)
  have r8 := (r6'.hs s7).fr fr8 (by decide) (by decide) cu
  have y8 : H2 kr ka h2 h8 := fun j B n1 n2 e => s8 j B (by unfold hcut; rw [if_neg (by simp [n1, n2])]; exact e)
  refine mk_of ?_; repeat' (first | (with_reducible first | refine gw_seq ?_ | refine gw_block ?_) | ((first | (with_reducible refine mk_to ?_) | (with_reducible first | refine gw_region ?_ | refine gw_if ?_ | refine gw_skip ?_ | refine gw_exit ?_ | refine gw_ret ?_) | ((with_reducible first | refine gif_b (fun hb => ?_) (fun hb => ?_) | refine want_t (fun hb => ?_) (fun hb => ?_) | refine want_f (fun hb => ?_) (fun hb => ?_) | refine dr_t (fun hb => ?_) (fun hb => ?_) | refine dr_f (fun hb => ?_) (fun hb => ?_)) <;> (try simp only [hb]) <;> (try simp only [hpr] at hb)) | with_reducible refine gw_draw (id := 3) [(0, []), (1, []), (2, []), (3, []), (4, []), (5, []), (7, []), (9, []), (11, []), (6, [4, 7, 9, 11]), (8, [4, 9, 11]), (10, [4, 11]), (12, [4]), (13, []), (14, [4]), (15, []), (16, []), (17, []), (18, [])] [0, 0, 2, 6, 14, 0, 32, 0, 224, 0, 992, 0, 4064, 8160, 16352, 32766, 65535, 131071, 262143] mixed (by kernel_rfl) ?_ | with_reducible refine gw_draw (id := 7) [(0, []), (1, []), (2, []), (4, []), (3, [4]), (5, []), (6, []), (7, []), (8, []), (9, []), (10, []), (11, [])] [0, 0, 0, 4, 0, 28, 61, 125, 253, 511, 1023, 2047] mixed (by kernel_rfl) ?_) <;> try simp only [List.map, gop, ev, lk, aenv, gyield, gBin, gInt, gStrOp, gUn, gPick, gNil, gExtract, gIfc, gConvK, gIndexO, gIndexVO, gMakeV, gMinV, gMaxV, isInt, gMin, gMax, gBlt, gCallV, gInvoke, gNilM, Array.toList_map, vcells, gField, gIndexV, gPart, reduceIte, Nat.reduceAdd, Nat.reduceSub, Nat.reduceMul, Nat.reduceLT, Nat.reduceLeDiff, Nat.reduceEqDiff, Nat.reduceBEq, Int.reduceLT, Int.reduceLE, Int.reduceGT, Int.reduceGE, Int.reduceEq, Int.reduceNe, Int.reduceAdd, Int.reduceSub, Int.reduceMul, Int.reduceNeg, Int.reduceToNat, Int.reduceBEq, Int.reduceBNe, Int.cast_ofNat_Int, List.getElem?_toArray, stp, rvOf, wlk, rdv, isEff, dsOf, sgl, stq, Try.underlying100, Try.underlying22, Try.underlying23, Try.underlying24, Try.underlying25, Try.underlying27, Try.underlying3, Try.underlying4, Try.underlying50, Try.underlying53, Try.underlying76, ty22, ty24, ty25, ty100, ty27, ty53, ty76, ty23, ty3, ty4, ty50, rs29, gNil, gload1 m8 sz25]))
  refine st_one m8 sz25 rfl (by simp) rfl rfl fun h9 m9 f9 => ?_
  have x9 : HX ka h8 h9 := fun j B n e => by rw [f9 j n]; exact e
  refine mk_of ?_; repeat' (first | (with_reducible first | refine gw_seq ?_ | refine gw_block ?_) | ((first | (with_reducible refine mk_to ?_) | (with_reducible first | refine gw_region ?_ | refine gw_if ?_ | refine gw_skip ?_ | refine gw_exit ?_ | refine gw_ret ?_) | ((with_reducible first | refine gif_b (fun hb => ?_) (fun hb => ?_) | refine want_t (fun hb => ?_) (fun hb => ?_) | refine want_f (fun hb => ?_) (fun hb => ?_) | refine dr_t (fun hb => ?_) (fun hb => ?_) | refine dr_f (fun hb => ?_) (fun hb => ?_)) <;> (try simp only [hb]) <;> (try simp only [hpr] at hb)) | with_reducible refine gw_draw (id := 3) [(0, []), (1, []), (2, []), (3, []), (4, []), (5, []), (7, []), (9, []), (11, []), (6, [4, 7, 9, 11]), (8, [4, 9, 11]), (10, [4, 11]), (12, [4]), (13, []), (14, [4]), (15, []), (16, []), (17, []), (18, [])] [0, 0, 2, 6, 14, 0, 32, 0, 224, 0, 992, 0, 4064, 8160, 16352, 32766, 65535, 131071, 262143] mixed (by kernel_rfl) ?_ | with_reducible refine gw_draw (id := 7) [(0, []), (1, []), (2, []), (4, []), (3, [4]), (5, []), (6, []), (7, []), (8, []), (9, []), (10, []), (11, [])] [0, 0, 0, 4, 0, 28, 61, 125, 253, 511, 1023, 2047] mixed (by kernel_rfl) ?_) <;> try simp only [List.map, gop, ev, lk, aenv, gyield, gBin, gInt, gStrOp, gUn, gPick, gNil, gExtract, gIfc, gConvK, gIndexO, gIndexVO, gMakeV, gMinV, gMaxV, isInt, gMin, gMax, gBlt, gCallV, gInvoke, gNilM, Array.toList_map, vcells, gField, gIndexV, gPart, reduceIte, Nat.reduceAdd, Nat.reduceSub, Nat.reduceMul, Nat.reduceLT, Nat.reduceLeDiff, Nat.reduceEqDiff, Nat.reduceBEq, Int.reduceLT, Int.reduceLE, Int.reduceGT, Int.reduceGE, Int.reduceEq, Int.reduceNe, Int.reduceAdd, Int.reduceSub, Int.reduceMul, Int.reduceNeg, Int.reduceToNat, Int.reduceBEq, Int.reduceBNe, Int.cast_ofNat_Int, List.getElem?_toArray, stp, rvOf, wlk, rdv, isEff, dsOf, sgl, stq, Try.underlying100, Try.underlying22, Try.underlying23, Try.underlying24, Try.underlying25, Try.underlying27, Try.underlying3, Try.underlying4, Try.underlying50, Try.underlying53, Try.underlying76, ty22, ty24, ty25, ty100, ty27, ty53, ty76, ty23, ty3, ty4, ty50, rs29, wi]))
  have hcl := o6.len
  refine ⟨_, i + 1, ?_, (by simp only [List.forall_mem_cons, List.not_mem_nil, false_implies, implies_true, List.map, List.cons_append, List.nil_append, lk, Nat.reduceEqDiff, reduceIte, and_true, true_and]), rfl, by omega, y8.trans x9.h2b, r8.hl m8 (by simp) rfl x9 ne, _, _, m9, o8.hx m8 (by simp) x9, by rw [List.all_append, cu]; rfl, fun j y hy => ?_⟩
  · omega
  have e1 : (u.2.evl (i + 1)).1 = (u.2.evl i).1 ++ [(((u.2.evl i).2.uint 2147483648).1, (((u.2.evl i).2.uint 2147483648).2.uint 2147483648).1, ((((u.2.evl i).2.uint 2147483648).2.uint 2147483648).2.bytes 300).1, (((((u.2.evl i).2.uint 2147483648).2.uint 2147483648).2.bytes 300).2.bytes 300).1)] := rfl
  rw [e1] at hy
  by_cases hji : j = i
  · subst hji
    rw [dt_last hcl rfl]
    rw [List.getElem?_append_right (by omega), sl3.1, Nat.sub_self] at hy
    obtain rfl : _ = y := by simpa using hy
    exact ⟨a6, _, c6, a6', _, c6', rfl, (fr_rb fr8 cu (q66.hs s7)).hx m8 rfl x9, (fr_rb fr8 cu (q6'.hs s7)).hx m8 rfl x9⟩
  · have hj : j < (u.2.evl i).1.length := by
      have := (List.getElem?_eq_some_iff.1 hy).1
      rw [List.length_append, List.length_singleton] at this
      omega
    rw [dt_left (by omega)]
    rw [List.getElem?_append_left hj] at hy
    exact (((bd6 j y hy).hs s7).fr fr8 cu).hy m8 rfl x9
end Go.Gh

/- Answers, read by the program: all. -/

namespace Go.Gh
open Go Go.Proofs Go.RowKit
set_option linter.unusedVariables false
set_option linter.unusedSimpArgs false
set_option maxRecDepth 100000
set_option maxHeartbeats 4000000

theorem RD.ht {k j : Nat} {h h' : GH} {s : St} (r : RD h k s) {B : GB} (m : h j = some B) (hB : B.es ≠ 1) (hc : B.cells.all notU8 = true) (x : HX j h h') (ne : k ≠ j) : RD h' k s := r.hl m hB hc x ne
theorem rone_suf (q : An) (s : St) : (rone q s).2.b <:+ s.b := by
  unfold rone
  split
  · exact ((St.uint_suf _ _).trans (St.bytes_suf _ _)).trans (St.flag_suf _)
  · exact St.flag_suf _
theorem St.itl_suf (s : St) : ∀ n, (s.itl n).2.b <:+ s.b
  | 0 => List.suffix_refl _
  | n + 1 => (((St.uint_suf _ _).trans (St.bytes_suf _ _)).trans (St.bytes_suf _ _)).trans (St.itl_suf s n)
theorem St.evl_suf (s : St) : ∀ n, (s.evl n).2.b <:+ s.b
  | 0 => List.suffix_refl _
  | n + 1 => ((((St.bytes_suf _ _).trans (St.bytes_suf _ _)).trans (St.uint_suf _ _)).trans (St.uint_suf _ _)).trans (St.evl_suf s n)
theorem revs_suf (q : An) (s : St) : (revs q s).2.b <:+ s.b := by
  unfold revs revs0
  split
  · exact ((((St.uint_suf _ _).trans (St.uint_suf _ _)).trans (St.flag_suf _)).trans (St.evl_suf _ _)).trans (St.uint_suf _ _)
  · exact ((St.flag_suf _).trans (St.evl_suf _ _)).trans (St.uint_suf _ _)
theorem rbody_suf (kind : Int) (q : An) (s : St) : (rbody kind q s).2.b <:+ s.b := by
  unfold rbody
  repeat' split
  · exact St.uint_suf _ _
  · exact rone_suf _ _
  · exact (rone_suf _ _).trans (St.uint_suf _ _)
  · exact (rone_suf _ _).trans (St.flag_suf _)
  · exact ((St.flag_suf _).trans (St.itl_suf _ _)).trans (St.uint_suf _ _)
  · exact revs_suf _ _
  · exact List.suffix_refl _
theorem RA.zero (h : GH) : RA h (An.z 0) (.agg ((An.z 0).cs (.slice none 0 0) (.slice none 0 0) (.slice none 0 0)).toArray) := ⟨none, 0, none, 0, none, 0, rfl, RB.nil _, RL.nil _, RL.nil _⟩

theorem c_TReadAnswer (N : Nat) (h : GH) (kind : Int) {b : Option Addr} {n c : Nat} {l : List UInt8} (r : RB h (.slice b n c) l) (sl : SL h (.slice b n c)) (hl : l.length ≤ 140737488351232) : GTri Try.prog N 9 [.int .i64 kind, .slice b n c] h fun v h' => HS h h' ∧ ∃ x a c, v = .tuple #[x, .slice a (rans kind l).2.1.length c, .int .i64 (rans kind l).2.2] ∧ RA h' (rans kind l).1 x ∧ RB h' (.slice a (rans kind l).2.1.length c) (rans kind l).2.1 := by
  obtain rfl := r.len_eq
  generalize hD : rans kind l = D
  refine gtri Try.func9 rfl gf9 ok9 (by simp [Try.ntmps9]) ?_
  repeat' (first | (with_reducible first | refine gw_seq ?_ | refine gw_block ?_) | ((first | (with_reducible first | refine gw_region ?_ | refine gw_if ?_ | refine gw_skip ?_ | refine gw_exit ?_ | refine gw_ret ?_) | ((with_reducible first | refine gif_b (fun hb => ?_) (fun hb => ?_) | refine want_t (fun hb => ?_) (fun hb => ?_) | refine want_f (fun hb => ?_) (fun hb => ?_) | refine dr_t (fun hb => ?_) (fun hb => ?_) | refine dr_f (fun hb => ?_) (fun hb => ?_)) <;> (try simp only [hb]) <;> (try simp only [hpr] at hb)) | with_reducible refine gw_draw (id := 24) [(0, []), (1, []), (2, []), (3, []), (4, []), (5, []), (6, []), (7, [0]), (8, []), (9, []), (10, [0]), (11, []), (12, []), (13, [])] [0, 0, 0, 0, 8, 0, 32, 96, 248, 508, 1022, 2047, 4095, 8191] mixed (by kernel_rfl) ?_) <;> try simp only [List.map, gop, ev, lk, aenv, gyield, gBin, gInt, gStrOp, gUn, gPick, gNil, gExtract, gIfc, gConvK, gIndexO, gIndexVO, gMakeV, gMinV, gMaxV, isInt, gMin, gMax, gBlt, gCallV, gInvoke, gNilM, Array.toList_map, vcells, gField, gIndexV, gPart, reduceIte, Nat.reduceAdd, Nat.reduceSub, Nat.reduceMul, Nat.reduceLT, Nat.reduceLeDiff, Nat.reduceEqDiff, Nat.reduceBEq, Int.reduceLT, Int.reduceLE, Int.reduceGT, Int.reduceGE, Int.reduceEq, Int.reduceNe, Int.reduceAdd, Int.reduceSub, Int.reduceMul, Int.reduceNeg, Int.reduceToNat, Int.reduceBEq, Int.reduceBNe, Int.cast_ofNat_Int, List.getElem?_toArray, stp, rvOf, wlk, rdv, isEff, dsOf, sgl, stq, Try.underlying100, Try.underlying22, Try.underlying23, Try.underlying24, Try.underlying25, Try.underlying27, Try.underlying3, Try.underlying4, Try.underlying5, Try.underlying50, Try.underlying53, Try.underlying56, ty22, ty24, ty25, ty100, ty27, ty53, ty23, ty3, ty4, ty5, ty50, ty56, rs9]))
  refine new_g fun k4 h1 m1 s1 f1 n1 => ?_
  refine mk_of ?_; repeat' (first | (with_reducible first | refine gw_seq ?_ | refine gw_block ?_) | ((first | (with_reducible refine mk_to ?_) | (with_reducible first | refine gw_region ?_ | refine gw_if ?_ | refine gw_skip ?_ | refine gw_exit ?_ | refine gw_ret ?_) | ((with_reducible first | refine gif_b (fun hb => ?_) (fun hb => ?_) | refine want_t (fun hb => ?_) (fun hb => ?_) | refine want_f (fun hb => ?_) (fun hb => ?_) | refine dr_t (fun hb => ?_) (fun hb => ?_) | refine dr_f (fun hb => ?_) (fun hb => ?_)) <;> (try simp only [hb]) <;> (try simp only [hpr] at hb)) | with_reducible refine gw_draw (id := 24) [(0, []), (1, []), (2, []), (3, []), (4, []), (5, []), (6, []), (7, [0]), (8, []), (9, []), (10, [0]), (11, []), (12, []), (13, [])] [0, 0, 0, 0, 8, 0, 32, 96, 248, 508, 1022, 2047, 4095, 8191] mixed (by kernel_rfl) ?_) <;> try simp only [List.map, gop, ev, lk, aenv, gyield, gBin, gInt, gStrOp, gUn, gPick, gNil, gExtract, gIfc, gConvK, gIndexO, gIndexVO, gMakeV, gMinV, gMaxV, isInt, gMin, gMax, gBlt, gCallV, gInvoke, gNilM, Array.toList_map, vcells, gField, gIndexV, gPart, reduceIte, Nat.reduceAdd, Nat.reduceSub, Nat.reduceMul, Nat.reduceLT, Nat.reduceLeDiff, Nat.reduceEqDiff, Nat.reduceBEq, Int.reduceLT, Int.reduceLE, Int.reduceGT, Int.reduceGE, Int.reduceEq, Int.reduceNe, Int.reduceAdd, Int.reduceSub, Int.reduceMul, Int.reduceNeg, Int.reduceToNat, Int.reduceBEq, Int.reduceBNe, Int.cast_ofNat_Int, List.getElem?_toArray, stp, rvOf, wlk, rdv, isEff, dsOf, sgl, stq, Try.underlying100, Try.underlying22, Try.underlying23, Try.underlying24, Try.underlying25, Try.underlying27, Try.underlying3, Try.underlying4, Try.underlying5, Try.underlying50, Try.underlying53, Try.underlying56, ty22, ty24, ty25, ty100, ty27, ty53, ty23, ty3, ty4, ty5, ty50, ty56, rs9]))
  refine (c_Open N h1 (r.hs s1) (by omega)).mono ?_
  rintro _ h2 ⟨kr, rfl, rd2, s2, n2⟩
  refine mk_of ?_; repeat' (first | (with_reducible first | refine gw_seq ?_ | refine gw_block ?_) | ((first | (with_reducible refine mk_to ?_) | (with_reducible first | refine gw_region ?_ | refine gw_if ?_ | refine gw_skip ?_ | refine gw_exit ?_ | refine gw_ret ?_) | ((with_reducible first | refine gif_b (fun hb => ?_) (fun hb => ?_) | refine want_t (fun hb => ?_) (fun hb => ?_) | refine want_f (fun hb => ?_) (fun hb => ?_) | refine dr_t (fun hb => ?_) (fun hb => ?_) | refine dr_f (fun hb => ?_) (fun hb => ?_)) <;> (try simp only [hb]) <;> (try simp only [hpr] at hb)) | with_reducible refine gw_draw (id := 24) [(0, []), (1, []), (2, []), (3, []), (4, []), (5, []), (6, []), (7, [0]), (8, []), (9, []), (10, [0]), (11, []), (12, []), (13, [])] [0, 0, 0, 0, 8, 0, 32, 96, 248, 508, 1022, 2047, 4095, 8191] mixed (by kernel_rfl) ?_) <;> try simp only [List.map, gop, ev, lk, aenv, gyield, gBin, gInt, gStrOp, gUn, gPick, gNil, gExtract, gIfc, gConvK, gIndexO, gIndexVO, gMakeV, gMinV, gMaxV, isInt, gMin, gMax, gBlt, gCallV, gInvoke, gNilM, Array.toList_map, vcells, gField, gIndexV, gPart, reduceIte, Nat.reduceAdd, Nat.reduceSub, Nat.reduceMul, Nat.reduceLT, Nat.reduceLeDiff, Nat.reduceEqDiff, Nat.reduceBEq, Int.reduceLT, Int.reduceLE, Int.reduceGT, Int.reduceGE, Int.reduceEq, Int.reduceNe, Int.reduceAdd, Int.reduceSub, Int.reduceMul, Int.reduceNeg, Int.reduceToNat, Int.reduceBEq, Int.reduceBNe, Int.cast_ofNat_Int, List.getElem?_toArray, stp, rvOf, wlk, rdv, isEff, dsOf, sgl, stq, Try.underlying100, Try.underlying22, Try.underlying23, Try.underlying24, Try.underlying25, Try.underlying27, Try.underlying3, Try.underlying4, Try.underlying5, Try.underlying50, Try.underlying53, Try.underlying56, ty22, ty24, ty25, ty100, ty27, ty53, ty23, ty3, ty4, ty5, ty50, ty56, rs9, gBuild, lfill, lput, Shape.pl, List.all_cons, List.all_nil, isCell]))
  refine new_g fun k7 h3 m3 s3 f3 n3 => ?_
  refine mk_of ?_; repeat' (first | (with_reducible first | refine gw_seq ?_ | refine gw_block ?_) | ((first | (with_reducible refine mk_to ?_) | (with_reducible first | refine gw_region ?_ | refine gw_if ?_ | refine gw_skip ?_ | refine gw_exit ?_ | refine gw_ret ?_) | ((with_reducible first | refine gif_b (fun hb => ?_) (fun hb => ?_) | refine want_t (fun hb => ?_) (fun hb => ?_) | refine want_f (fun hb => ?_) (fun hb => ?_) | refine dr_t (fun hb => ?_) (fun hb => ?_) | refine dr_f (fun hb => ?_) (fun hb => ?_)) <;> (try simp only [hb]) <;> (try simp only [hpr] at hb)) | with_reducible refine gw_draw (id := 24) [(0, []), (1, []), (2, []), (3, []), (4, []), (5, []), (6, []), (7, [0]), (8, []), (9, []), (10, [0]), (11, []), (12, []), (13, [])] [0, 0, 0, 0, 8, 0, 32, 96, 248, 508, 1022, 2047, 4095, 8191] mixed (by kernel_rfl) ?_) <;> try simp only [List.map, gop, ev, lk, aenv, gyield, gBin, gInt, gStrOp, gUn, gPick, gNil, gExtract, gIfc, gConvK, gIndexO, gIndexVO, gMakeV, gMinV, gMaxV, isInt, gMin, gMax, gBlt, gCallV, gInvoke, gNilM, Array.toList_map, vcells, gField, gIndexV, gPart, reduceIte, Nat.reduceAdd, Nat.reduceSub, Nat.reduceMul, Nat.reduceLT, Nat.reduceLeDiff, Nat.reduceEqDiff, Nat.reduceBEq, Int.reduceLT, Int.reduceLE, Int.reduceGT, Int.reduceGE, Int.reduceEq, Int.reduceNe, Int.reduceAdd, Int.reduceSub, Int.reduceMul, Int.reduceNeg, Int.reduceToNat, Int.reduceBEq, Int.reduceBNe, Int.cast_ofNat_Int, List.getElem?_toArray, stp, rvOf, wlk, rdv, isEff, dsOf, sgl, stq, Try.underlying100, Try.underlying22, Try.underlying23, Try.underlying24, Try.underlying25, Try.underlying27, Try.underlying3, Try.underlying4, Try.underlying5, Try.underlying50, Try.underlying53, Try.underlying56, ty22, ty24, ty25, ty100, ty27, ty53, ty23, ty3, ty4, ty5, ty50, ty56, rs9]))
  refine st_agg m3 sz53 rfl (by decide) rfl rfl rfl fun h4 m4 f4 => ?_
  have s4 : HS h2 h4 := (HS.refl _).upd n3 fun j hj => (f4 j hj).trans (f3 j hj)
  have rd4 := rd2.hs s4
  have k7r : k7 ≠ kr := by
    obtain ⟨_, _, e, _⟩ := rd2
    exact (ne_of e n3).symm
  refine mk_of ?_; repeat' (first | (with_reducible first | refine gw_seq ?_ | refine gw_block ?_) | ((first | (with_reducible refine mk_to ?_) | (with_reducible first | refine gw_region ?_ | refine gw_if ?_ | refine gw_skip ?_ | refine gw_exit ?_ | refine gw_ret ?_) | ((with_reducible first | refine gif_b (fun hb => ?_) (fun hb => ?_) | refine want_t (fun hb => ?_) (fun hb => ?_) | refine want_f (fun hb => ?_) (fun hb => ?_) | refine dr_t (fun hb => ?_) (fun hb => ?_) | refine dr_f (fun hb => ?_) (fun hb => ?_)) <;> (try simp only [hb]) <;> (try simp only [hpr] at hb)) | with_reducible refine gw_draw (id := 24) [(0, []), (1, []), (2, []), (3, []), (4, []), (5, []), (6, []), (7, [0]), (8, []), (9, []), (10, [0]), (11, []), (12, []), (13, [])] [0, 0, 0, 0, 8, 0, 32, 96, 248, 508, 1022, 2047, 4095, 8191] mixed (by kernel_rfl) ?_) <;> try simp only [List.map, gop, ev, lk, aenv, gyield, gBin, gInt, gStrOp, gUn, gPick, gNil, gExtract, gIfc, gConvK, gIndexO, gIndexVO, gMakeV, gMinV, gMaxV, isInt, gMin, gMax, gBlt, gCallV, gInvoke, gNilM, Array.toList_map, vcells, gField, gIndexV, gPart, reduceIte, Nat.reduceAdd, Nat.reduceSub, Nat.reduceMul, Nat.reduceLT, Nat.reduceLeDiff, Nat.reduceEqDiff, Nat.reduceBEq, Int.reduceLT, Int.reduceLE, Int.reduceGT, Int.reduceGE, Int.reduceEq, Int.reduceNe, Int.reduceAdd, Int.reduceSub, Int.reduceMul, Int.reduceNeg, Int.reduceToNat, Int.reduceBEq, Int.reduceBNe, Int.cast_ofNat_Int, List.getElem?_toArray, stp, rvOf, wlk, rdv, isEff, dsOf, sgl, stq, Try.underlying100, Try.underlying22, Try.underlying23, Try.underlying24, Try.underlying25, Try.underlying27, Try.underlying3, Try.underlying4, Try.underlying5, Try.underlying50, Try.underlying53, Try.underlying56, ty22, ty24, ty25, ty100, ty27, ty53, ty23, ty3, ty4, ty5, ty50, ty56, rs9, gloadA m4 sz53 rfl]))
  refine (i_num rd4 (by simp only; omega)).mono ?_
  rintro _ h5 ⟨rfl, rd5, x5⟩
  have hsuf : ((St.mk l 0).uint 2147483648).2.b <:+ l := St.uint_suf _ _
  have hs5 : HS h1 h5 := x5.new (s2.trans s4) n2
  have m5 := x5 _ _ k7r m4
  have hDu : D = rfin (rbody (if ((St.mk l 0).uint 2147483648).1 = 0 then kind else 0) (An.z ((St.mk l 0).uint 2147483648).1) ((St.mk l 0).uint 2147483648).2) := hD.symm
  generalize (St.mk l 0).uint 2147483648 = u at *
  have sl5 := suf_len hsuf
  refine mk_of ?_; repeat' (first | (with_reducible first | refine gw_seq ?_ | refine gw_block ?_) | ((first | (with_reducible refine mk_to ?_) | (with_reducible first | refine gw_region ?_ | refine gw_if ?_ | refine gw_skip ?_ | refine gw_exit ?_ | refine gw_ret ?_) | ((with_reducible first | refine gif_b (fun hb => ?_) (fun hb => ?_) | refine want_t (fun hb => ?_) (fun hb => ?_) | refine want_f (fun hb => ?_) (fun hb => ?_) | refine dr_t (fun hb => ?_) (fun hb => ?_) | refine dr_f (fun hb => ?_) (fun hb => ?_)) <;> (try simp only [hb]) <;> (try simp only [hpr] at hb)) | with_reducible refine gw_draw (id := 24) [(0, []), (1, []), (2, []), (3, []), (4, []), (5, []), (6, []), (7, [0]), (8, []), (9, []), (10, [0]), (11, []), (12, []), (13, [])] [0, 0, 0, 0, 8, 0, 32, 96, 248, 508, 1022, 2047, 4095, 8191] mixed (by kernel_rfl) ?_) <;> try simp only [List.map, gop, ev, lk, aenv, gyield, gBin, gInt, gStrOp, gUn, gPick, gNil, gExtract, gIfc, gConvK, gIndexO, gIndexVO, gMakeV, gMinV, gMaxV, isInt, gMin, gMax, gBlt, gCallV, gInvoke, gNilM, Array.toList_map, vcells, gField, gIndexV, gPart, reduceIte, Nat.reduceAdd, Nat.reduceSub, Nat.reduceMul, Nat.reduceLT, Nat.reduceLeDiff, Nat.reduceEqDiff, Nat.reduceBEq, Int.reduceLT, Int.reduceLE, Int.reduceGT, Int.reduceGE, Int.reduceEq, Int.reduceNe, Int.reduceAdd, Int.reduceSub, Int.reduceMul, Int.reduceNeg, Int.reduceToNat, Int.reduceBEq, Int.reduceBNe, Int.cast_ofNat_Int, List.getElem?_toArray, stp, rvOf, wlk, rdv, isEff, dsOf, sgl, stq, Try.underlying100, Try.underlying22, Try.underlying23, Try.underlying24, Try.underlying25, Try.underlying27, Try.underlying3, Try.underlying4, Try.underlying5, Try.underlying50, Try.underlying53, Try.underlying56, ty22, ty24, ty25, ty100, ty27, ty53, ty23, ty3, ty4, ty5, ty50, ty56, rs9, gBuild, lfill, lput, Shape.pl, List.all_cons, List.all_nil, isCell]))
  refine new_g fun ka h6 m6 s6 f6 n6 => ?_
  refine mk_of ?_; repeat' (first | (with_reducible first | refine gw_seq ?_ | refine gw_block ?_) | ((first | (with_reducible refine mk_to ?_) | (with_reducible first | refine gw_region ?_ | refine gw_if ?_ | refine gw_skip ?_ | refine gw_exit ?_ | refine gw_ret ?_) | ((with_reducible first | refine gif_b (fun hb => ?_) (fun hb => ?_) | refine want_t (fun hb => ?_) (fun hb => ?_) | refine want_f (fun hb => ?_) (fun hb => ?_) | refine dr_t (fun hb => ?_) (fun hb => ?_) | refine dr_f (fun hb => ?_) (fun hb => ?_)) <;> (try simp only [hb]) <;> (try simp only [hpr] at hb)) | with_reducible refine gw_draw (id := 24) [(0, []), (1, []), (2, []), (3, []), (4, []), (5, []), (6, []), (7, [0]), (8, []), (9, []), (10, [0]), (11, []), (12, []), (13, [])] [0, 0, 0, 0, 8, 0, 32, 96, 248, 508, 1022, 2047, 4095, 8191] mixed (by kernel_rfl) ?_) <;> try simp only [List.map, gop, ev, lk, aenv, gyield, gBin, gInt, gStrOp, gUn, gPick, gNil, gExtract, gIfc, gConvK, gIndexO, gIndexVO, gMakeV, gMinV, gMaxV, isInt, gMin, gMax, gBlt, gCallV, gInvoke, gNilM, Array.toList_map, vcells, gField, gIndexV, gPart, reduceIte, Nat.reduceAdd, Nat.reduceSub, Nat.reduceMul, Nat.reduceLT, Nat.reduceLeDiff, Nat.reduceEqDiff, Nat.reduceBEq, Int.reduceLT, Int.reduceLE, Int.reduceGT, Int.reduceGE, Int.reduceEq, Int.reduceNe, Int.reduceAdd, Int.reduceSub, Int.reduceMul, Int.reduceNeg, Int.reduceToNat, Int.reduceBEq, Int.reduceBNe, Int.cast_ofNat_Int, List.getElem?_toArray, stp, rvOf, wlk, rdv, isEff, dsOf, sgl, stq, Try.underlying100, Try.underlying22, Try.underlying23, Try.underlying24, Try.underlying25, Try.underlying27, Try.underlying3, Try.underlying4, Try.underlying5, Try.underlying50, Try.underlying53, Try.underlying56, ty22, ty24, ty25, ty100, ty27, ty53, ty23, ty3, ty4, ty5, ty50, ty56, rs9]))
  refine st_agg m6 sz27 rfl (by decide) rfl rfl rfl fun h7 m7 f7 => ?_
  have s7 : HS h5 h7 := (HS.refl _).upd n6 fun j hj => (f7 j hj).trans (f6 j hj)
  have rd7 := rd5.hs s7
  have m57 := s7 _ _ m5
  have hs7 := hs5.trans s7
  have na1 : h1 ka = none := hs5.none_of n6
  have k7a : k7 ≠ ka := ne_of m5 n6
  have t0 : T0 h7 kr ka (An.z u.1) u.2 := ⟨rd7, m7, rfl, rfl, rfl, by omega⟩
  have ne := t0.ne
  have c0 : ((An.z u.1).cs (.slice none 0 0) (.slice none 0 0) (.slice none 0 0))[0]? = some (.int .i64 u.1) := rfl
  refine mk_of ?_; repeat' (first | (with_reducible first | refine gw_seq ?_ | refine gw_block ?_) | ((first | (with_reducible refine mk_to ?_) | (with_reducible first | refine gw_region ?_ | refine gw_if ?_ | refine gw_skip ?_ | refine gw_exit ?_ | refine gw_ret ?_) | ((with_reducible first | refine gif_b (fun hb => ?_) (fun hb => ?_) | refine want_t (fun hb => ?_) (fun hb => ?_) | refine want_f (fun hb => ?_) (fun hb => ?_) | refine dr_t (fun hb => ?_) (fun hb => ?_) | refine dr_f (fun hb => ?_) (fun hb => ?_)) <;> (try simp only [hb]) <;> (try simp only [hpr] at hb)) | with_reducible refine gw_draw (id := 24) [(0, []), (1, []), (2, []), (3, []), (4, []), (5, []), (6, []), (7, [0]), (8, []), (9, []), (10, [0]), (11, []), (12, []), (13, [])] [0, 0, 0, 0, 8, 0, 32, 96, 248, 508, 1022, 2047, 4095, 8191] mixed (by kernel_rfl) ?_) <;> try simp only [List.map, gop, ev, lk, aenv, gyield, gBin, gInt, gStrOp, gUn, gPick, gNil, gExtract, gIfc, gConvK, gIndexO, gIndexVO, gMakeV, gMinV, gMaxV, isInt, gMin, gMax, gBlt, gCallV, gInvoke, gNilM, Array.toList_map, vcells, gField, gIndexV, gPart, reduceIte, Nat.reduceAdd, Nat.reduceSub, Nat.reduceMul, Nat.reduceLT, Nat.reduceLeDiff, Nat.reduceEqDiff, Nat.reduceBEq, Int.reduceLT, Int.reduceLE, Int.reduceGT, Int.reduceGE, Int.reduceEq, Int.reduceNe, Int.reduceAdd, Int.reduceSub, Int.reduceMul, Int.reduceNeg, Int.reduceToNat, Int.reduceBEq, Int.reduceBNe, Int.cast_ofNat_Int, List.getElem?_toArray, stp, rvOf, wlk, rdv, isEff, dsOf, sgl, stq, Try.underlying100, Try.underlying22, Try.underlying23, Try.underlying24, Try.underlying25, Try.underlying27, Try.underlying3, Try.underlying4, Try.underlying5, Try.underlying50, Try.underlying53, Try.underlying56, ty22, ty24, ty25, ty100, ty27, ty53, ty23, ty3, ty4, ty5, ty50, ty56, rs9]))
  simp only [List.map, gop, ev, lk, aenv, gyield, gBin, gInt, gStrOp, gUn, gPick, gNil, gExtract, gIfc, gConvK, gIndexO, gIndexVO, gMakeV, gMinV, gMaxV, isInt, gMin, gMax, gBlt, gCallV, gInvoke, gNilM, Array.toList_map, vcells, gField, gIndexV, gPart, reduceIte, Nat.reduceAdd, Nat.reduceSub, Nat.reduceMul, Nat.reduceLT, Nat.reduceLeDiff, Nat.reduceEqDiff, Nat.reduceBEq, Int.reduceLT, Int.reduceLE, Int.reduceGT, Int.reduceGE, Int.reduceEq, Int.reduceNe, Int.reduceAdd, Int.reduceSub, Int.reduceMul, Int.reduceNeg, Int.reduceToNat, Int.reduceBEq, Int.reduceBNe, Int.cast_ofNat_Int, List.getElem?_toArray, stp, Try.underlying100, Try.underlying22, Try.underlying23, Try.underlying24, Try.underlying25, Try.underlying27, Try.underlying3, Try.underlying4, Try.underlying5, Try.underlying50, Try.underlying53, Try.underlying56, ty22, ty24, ty25, ty100, ty27, ty53, ty23, ty3, ty4, ty5, ty50, ty56, rs9, gload1 m7 sz23]
  have ga7 : gLoad Try.prog 53 h7 (.pointer (some ⟨k7, 0, none⟩)) = some (inV kr) := gloadA m57 sz53 rfl
  generalize hk : (if u.1 = 0 then kind else 0) = kd at hDu
  -- the kind that counts
  refine GW.mono (Q := fun x e' h' => x = .normal ∧ h7 = h' ∧ lk e' 0 = .int .i64 kd ∧ lk e' 1 = .slice b l.length c ∧ lk e' 4 = .pointer (some ⟨k4, 0, none⟩) ∧ lk e' 7 = .pointer (some ⟨k7, 0, none⟩) ∧ lk e' 8 = .pointer (some ⟨ka, 0, none⟩)) ?_ ?_
  · by_cases hcd : u.1 = 0
    · have d3 : (u.1 != 0) = false := by simpa using hcd
      rw [if_pos hcd] at hk
      subst hk
      refine mk_of ?_; repeat' (first | (with_reducible first | refine gw_seq ?_ | refine gw_block ?_) | ((first | (with_reducible refine mk_to ?_) | (with_reducible first | refine gw_region ?_ | refine gw_if ?_ | refine gw_skip ?_ | refine gw_exit ?_ | refine gw_ret ?_) | ((with_reducible first | refine gif_b (fun hb => ?_) (fun hb => ?_) | refine want_t (fun hb => ?_) (fun hb => ?_) | refine want_f (fun hb => ?_) (fun hb => ?_) | refine dr_t (fun hb => ?_) (fun hb => ?_) | refine dr_f (fun hb => ?_) (fun hb => ?_)) <;> (try simp only [hb]) <;> (try simp only [hpr] at hb)) | with_reducible refine gw_draw (id := 24) [(0, []), (1, []), (2, []), (3, []), (4, []), (5, []), (6, []), (7, [0]), (8, []), (9, []), (10, [0]), (11, []), (12, []), (13, [])] [0, 0, 0, 0, 8, 0, 32, 96, 248, 508, 1022, 2047, 4095, 8191] mixed (by kernel_rfl) ?_) <;> try simp only [List.map, gop, ev, lk, aenv, gyield, gBin, gInt, gStrOp, gUn, gPick, gNil, gExtract, gIfc, gConvK, gIndexO, gIndexVO, gMakeV, gMinV, gMaxV, isInt, gMin, gMax, gBlt, gCallV, gInvoke, gNilM, Array.toList_map, vcells, gField, gIndexV, gPart, reduceIte, Nat.reduceAdd, Nat.reduceSub, Nat.reduceMul, Nat.reduceLT, Nat.reduceLeDiff, Nat.reduceEqDiff, Nat.reduceBEq, Int.reduceLT, Int.reduceLE, Int.reduceGT, Int.reduceGE, Int.reduceEq, Int.reduceNe, Int.reduceAdd, Int.reduceSub, Int.reduceMul, Int.reduceNeg, Int.reduceToNat, Int.reduceBEq, Int.reduceBNe, Int.cast_ofNat_Int, List.getElem?_toArray, stp, rvOf, wlk, rdv, isEff, dsOf, sgl, stq, Try.underlying100, Try.underlying22, Try.underlying23, Try.underlying24, Try.underlying25, Try.underlying27, Try.underlying3, Try.underlying4, Try.underlying5, Try.underlying50, Try.underlying53, Try.underlying56, ty22, ty24, ty25, ty100, ty27, ty53, ty23, ty3, ty4, ty5, ty50, ty56, rs9, d3]))
    · have d3 : (u.1 != 0) = true := by simpa using hcd
      rw [if_neg hcd] at hk
      subst hk
      refine mk_of ?_; repeat' (first | (with_reducible first | refine gw_seq ?_ | refine gw_block ?_) | ((first | (with_reducible refine mk_to ?_) | (with_reducible first | refine gw_region ?_ | refine gw_if ?_ | refine gw_skip ?_ | refine gw_exit ?_ | refine gw_ret ?_) | ((with_reducible first | refine gif_b (fun hb => ?_) (fun hb => ?_) | refine want_t (fun hb => ?_) (fun hb => ?_) | refine want_f (fun hb => ?_) (fun hb => ?_) | refine dr_t (fun hb => ?_) (fun hb => ?_) | refine dr_f (fun hb => ?_) (fun hb => ?_)) <;> (try simp only [hb]) <;> (try simp only [hpr] at hb)) | with_reducible refine gw_draw (id := 24) [(0, []), (1, []), (2, []), (3, []), (4, []), (5, []), (6, []), (7, [0]), (8, []), (9, []), (10, [0]), (11, []), (12, []), (13, [])] [0, 0, 0, 0, 8, 0, 32, 96, 248, 508, 1022, 2047, 4095, 8191] mixed (by kernel_rfl) ?_) <;> try simp only [List.map, gop, ev, lk, aenv, gyield, gBin, gInt, gStrOp, gUn, gPick, gNil, gExtract, gIfc, gConvK, gIndexO, gIndexVO, gMakeV, gMinV, gMaxV, isInt, gMin, gMax, gBlt, gCallV, gInvoke, gNilM, Array.toList_map, vcells, gField, gIndexV, gPart, reduceIte, Nat.reduceAdd, Nat.reduceSub, Nat.reduceMul, Nat.reduceLT, Nat.reduceLeDiff, Nat.reduceEqDiff, Nat.reduceBEq, Int.reduceLT, Int.reduceLE, Int.reduceGT, Int.reduceGE, Int.reduceEq, Int.reduceNe, Int.reduceAdd, Int.reduceSub, Int.reduceMul, Int.reduceNeg, Int.reduceToNat, Int.reduceBEq, Int.reduceBNe, Int.cast_ofNat_Int, List.getElem?_toArray, stp, rvOf, wlk, rdv, isEff, dsOf, sgl, stq, Try.underlying100, Try.underlying22, Try.underlying23, Try.underlying24, Try.underlying25, Try.underlying27, Try.underlying3, Try.underlying4, Try.underlying5, Try.underlying50, Try.underlying53, Try.underlying56, ty22, ty24, ty25, ty100, ty27, ty53, ty23, ty3, ty4, ty5, ty50, ty56, rs9, d3]))
  rintro _ e' _ ⟨rfl, rfl, q0, q1, q4, q7, q8⟩
  rw [thenQ_n]
  refine gw_env [(0, .int .i64 kd), (1, .slice b l.length c), (4, .pointer (some ⟨k4, 0, none⟩)), (7, .pointer (some ⟨k7, 0, none⟩)), (8, .pointer (some ⟨ka, 0, none⟩))] (by simp [q0, q1, q4, q7, q8]) ?_
  clear q0 q1 q4 q7 q8 hk
  refine gw_seq ?_
  -- what the kind has
  refine GW.mono (Q := fun x e' h' => x = .normal ∧ (lk e' 1 = .slice b l.length c ∧ lk e' 4 = .pointer (some ⟨k4, 0, none⟩) ∧ lk e' 7 = .pointer (some ⟨k7, 0, none⟩) ∧ lk e' 8 = .pointer (some ⟨ka, 0, none⟩)) ∧ ∃ p, rbody kd (An.z u.1) u.2 = p ∧ T1 h' kr ka p.1 p.2 ∧ H2 kr ka h7 h') ?_ ?_
  · have two : kd = 1 ∨ kd = 3 ∨ kd = 4 ∨ kd = 5 ∨ kd = 6 ∨ kd = 10 ∨ kd = 7 ∨ (kd ≠ 1 ∧ kd ≠ 3 ∧ kd ≠ 4 ∧ kd ≠ 5 ∧ kd ≠ 6 ∧ kd ≠ 10 ∧ kd ≠ 7) := by omega
    rcases two with rfl | rfl | rfl | rfl | rfl | rfl | rfl | ⟨e1, e3, e4, e5, e6, e10, e7⟩
    · refine mk_of ?_; repeat' (first | (with_reducible first | refine gw_seq ?_ | refine gw_block ?_) | ((first | (with_reducible refine mk_to ?_) | (with_reducible first | refine gw_region ?_ | refine gw_if ?_ | refine gw_skip ?_ | refine gw_exit ?_ | refine gw_ret ?_) | ((with_reducible first | refine gif_b (fun hb => ?_) (fun hb => ?_) | refine want_t (fun hb => ?_) (fun hb => ?_) | refine want_f (fun hb => ?_) (fun hb => ?_) | refine dr_t (fun hb => ?_) (fun hb => ?_) | refine dr_f (fun hb => ?_) (fun hb => ?_)) <;> (try simp only [hb]) <;> (try simp only [hpr] at hb)) | with_reducible refine gw_draw (id := 24) [(0, []), (1, []), (2, []), (3, []), (4, []), (5, []), (6, []), (7, [0]), (8, []), (9, []), (10, [0]), (11, []), (12, []), (13, [])] [0, 0, 0, 0, 8, 0, 32, 96, 248, 508, 1022, 2047, 4095, 8191] mixed (by kernel_rfl) ?_) <;> try simp only [List.map, gop, ev, lk, aenv, gyield, gBin, gInt, gStrOp, gUn, gPick, gNil, gExtract, gIfc, gConvK, gIndexO, gIndexVO, gMakeV, gMinV, gMaxV, isInt, gMin, gMax, gBlt, gCallV, gInvoke, gNilM, Array.toList_map, vcells, gField, gIndexV, gPart, reduceIte, Nat.reduceAdd, Nat.reduceSub, Nat.reduceMul, Nat.reduceLT, Nat.reduceLeDiff, Nat.reduceEqDiff, Nat.reduceBEq, Int.reduceLT, Int.reduceLE, Int.reduceGT, Int.reduceGE, Int.reduceEq, Int.reduceNe, Int.reduceAdd, Int.reduceSub, Int.reduceMul, Int.reduceNeg, Int.reduceToNat, Int.reduceBEq, Int.reduceBNe, Int.cast_ofNat_Int, List.getElem?_toArray, stp, rvOf, wlk, rdv, isEff, dsOf, sgl, stq, Try.underlying100, Try.underlying22, Try.underlying23, Try.underlying24, Try.underlying25, Try.underlying27, Try.underlying3, Try.underlying4, Try.underlying5, Try.underlying50, Try.underlying53, Try.underlying56, ty22, ty24, ty25, ty100, ty27, ty53, ty23, ty3, ty4, ty5, ty50, ty56, rs9, ga7]))
      refine (i_num rd7 (by omega)).mono ?_
      rintro _ h8 ⟨rfl, rd8, x8⟩
      have m8 := x8 _ _ ne.symm m7
      refine mk_of ?_; repeat' (first | (with_reducible first | refine gw_seq ?_ | refine gw_block ?_) | ((first | (with_reducible refine mk_to ?_) | (with_reducible first | refine gw_region ?_ | refine gw_if ?_ | refine gw_skip ?_ | refine gw_exit ?_ | refine gw_ret ?_) | ((with_reducible first | refine gif_b (fun hb => ?_) (fun hb => ?_) | refine want_t (fun hb => ?_) (fun hb => ?_) | refine want_f (fun hb => ?_) (fun hb => ?_) | refine dr_t (fun hb => ?_) (fun hb => ?_) | refine dr_f (fun hb => ?_) (fun hb => ?_)) <;> (try simp only [hb]) <;> (try simp only [hpr] at hb)) | with_reducible refine gw_draw (id := 24) [(0, []), (1, []), (2, []), (3, []), (4, []), (5, []), (6, []), (7, [0]), (8, []), (9, []), (10, [0]), (11, []), (12, []), (13, [])] [0, 0, 0, 0, 8, 0, 32, 96, 248, 508, 1022, 2047, 4095, 8191] mixed (by kernel_rfl) ?_) <;> try simp only [List.map, gop, ev, lk, aenv, gyield, gBin, gInt, gStrOp, gUn, gPick, gNil, gExtract, gIfc, gConvK, gIndexO, gIndexVO, gMakeV, gMinV, gMaxV, isInt, gMin, gMax, gBlt, gCallV, gInvoke, gNilM, Array.toList_map, vcells, gField, gIndexV, gPart, reduceIte, Nat.reduceAdd, Nat.reduceSub, Nat.reduceMul, Nat.reduceLT, Nat.reduceLeDiff, Nat.reduceEqDiff, Nat.reduceBEq, Int.reduceLT, Int.reduceLE, Int.reduceGT, Int.reduceGE, Int.reduceEq, Int.reduceNe, Int.reduceAdd, Int.reduceSub, Int.reduceMul, Int.reduceNeg, Int.reduceToNat, Int.reduceBEq, Int.reduceBNe, Int.cast_ofNat_Int, List.getElem?_toArray, stp, rvOf, wlk, rdv, isEff, dsOf, sgl, stq, Try.underlying100, Try.underlying22, Try.underlying23, Try.underlying24, Try.underlying25, Try.underlying27, Try.underlying3, Try.underlying4, Try.underlying5, Try.underlying50, Try.underlying53, Try.underlying56, ty22, ty24, ty25, ty100, ty27, ty53, ty23, ty3, ty4, ty5, ty50, ty56, rs9]))
      refine st_one m8 sz3 rfl (by simp) rfl rfl fun h9 m9 f9 => ?_
      have x9 : HX ka h8 h9 := fun j B n e => by rw [f9 j n]; exact e
      refine mk_of ?_; repeat' (first | (with_reducible first | refine gw_seq ?_ | refine gw_block ?_) | ((first | (with_reducible refine mk_to ?_) | (with_reducible first | refine gw_region ?_ | refine gw_if ?_ | refine gw_skip ?_ | refine gw_exit ?_ | refine gw_ret ?_) | ((with_reducible first | refine gif_b (fun hb => ?_) (fun hb => ?_) | refine want_t (fun hb => ?_) (fun hb => ?_) | refine want_f (fun hb => ?_) (fun hb => ?_) | refine dr_t (fun hb => ?_) (fun hb => ?_) | refine dr_f (fun hb => ?_) (fun hb => ?_)) <;> (try simp only [hb]) <;> (try simp only [hpr] at hb)) | with_reducible refine gw_draw (id := 24) [(0, []), (1, []), (2, []), (3, []), (4, []), (5, []), (6, []), (7, [0]), (8, []), (9, []), (10, [0]), (11, []), (12, []), (13, [])] [0, 0, 0, 0, 8, 0, 32, 96, 248, 508, 1022, 2047, 4095, 8191] mixed (by kernel_rfl) ?_) <;> try simp only [List.map, gop, ev, lk, aenv, gyield, gBin, gInt, gStrOp, gUn, gPick, gNil, gExtract, gIfc, gConvK, gIndexO, gIndexVO, gMakeV, gMinV, gMaxV, isInt, gMin, gMax, gBlt, gCallV, gInvoke, gNilM, Array.toList_map, vcells, gField, gIndexV, gPart, reduceIte, Nat.reduceAdd, Nat.reduceSub, Nat.reduceMul, Nat.reduceLT, Nat.reduceLeDiff, Nat.reduceEqDiff, Nat.reduceBEq, Int.reduceLT, Int.reduceLE, Int.reduceGT, Int.reduceGE, Int.reduceEq, Int.reduceNe, Int.reduceAdd, Int.reduceSub, Int.reduceMul, Int.reduceNeg, Int.reduceToNat, Int.reduceBEq, Int.reduceBNe, Int.cast_ofNat_Int, List.getElem?_toArray, stp, rvOf, wlk, rdv, isEff, dsOf, sgl, stq, Try.underlying100, Try.underlying22, Try.underlying23, Try.underlying24, Try.underlying25, Try.underlying27, Try.underlying3, Try.underlying4, Try.underlying5, Try.underlying50, Try.underlying53, Try.underlying56, ty22, ty24, ty25, ty100, ty27, ty53, ty23, ty3, ty4, ty5, ty50, ty56, rs9]))
      exact ⟨_, rfl, ⟨rd8.hl m8 (by simp) rfl x9 ne, none, 0, none, 0, none, 0, m9, RB.nil _, RL.nil _, RL.nil _⟩, x8.h2a.trans x9.h2b⟩
    · refine mk_of ?_; repeat' (first | (with_reducible first | refine gw_seq ?_ | refine gw_block ?_) | ((first | (with_reducible refine mk_to ?_) | (with_reducible first | refine gw_region ?_ | refine gw_if ?_ | refine gw_skip ?_ | refine gw_exit ?_ | refine gw_ret ?_) | ((with_reducible first | refine gif_b (fun hb => ?_) (fun hb => ?_) | refine want_t (fun hb => ?_) (fun hb => ?_) | refine want_f (fun hb => ?_) (fun hb => ?_) | refine dr_t (fun hb => ?_) (fun hb => ?_) | refine dr_f (fun hb => ?_) (fun hb => ?_)) <;> (try simp only [hb]) <;> (try simp only [hpr] at hb)) | with_reducible refine gw_draw (id := 24) [(0, []), (1, []), (2, []), (3, []), (4, []), (5, []), (6, []), (7, [0]), (8, []), (9, []), (10, [0]), (11, []), (12, []), (13, [])] [0, 0, 0, 0, 8, 0, 32, 96, 248, 508, 1022, 2047, 4095, 8191] mixed (by kernel_rfl) ?_) <;> try simp only [List.map, gop, ev, lk, aenv, gyield, gBin, gInt, gStrOp, gUn, gPick, gNil, gExtract, gIfc, gConvK, gIndexO, gIndexVO, gMakeV, gMinV, gMaxV, isInt, gMin, gMax, gBlt, gCallV, gInvoke, gNilM, Array.toList_map, vcells, gField, gIndexV, gPart, reduceIte, Nat.reduceAdd, Nat.reduceSub, Nat.reduceMul, Nat.reduceLT, Nat.reduceLeDiff, Nat.reduceEqDiff, Nat.reduceBEq, Int.reduceLT, Int.reduceLE, Int.reduceGT, Int.reduceGE, Int.reduceEq, Int.reduceNe, Int.reduceAdd, Int.reduceSub, Int.reduceMul, Int.reduceNeg, Int.reduceToNat, Int.reduceBEq, Int.reduceBNe, Int.cast_ofNat_Int, List.getElem?_toArray, stp, rvOf, wlk, rdv, isEff, dsOf, sgl, stq, Try.underlying100, Try.underlying22, Try.underlying23, Try.underlying24, Try.underlying25, Try.underlying27, Try.underlying3, Try.underlying4, Try.underlying5, Try.underlying50, Try.underlying53, Try.underlying56, ty22, ty24, ty25, ty100, ty27, ty53, ty23, ty3, ty4, ty5, ty50, ty56, rs9, ga7]))
      refine (i_one t0).mono ?_
      rintro _ h8 ⟨t8, y8⟩
      refine mk_of ?_; repeat' (first | (with_reducible first | refine gw_seq ?_ | refine gw_block ?_) | ((first | (with_reducible refine mk_to ?_) | (with_reducible first | refine gw_region ?_ | refine gw_if ?_ | refine gw_skip ?_ | refine gw_exit ?_ | refine gw_ret ?_) | ((with_reducible first | refine gif_b (fun hb => ?_) (fun hb => ?_) | refine want_t (fun hb => ?_) (fun hb => ?_) | refine want_f (fun hb => ?_) (fun hb => ?_) | refine dr_t (fun hb => ?_) (fun hb => ?_) | refine dr_f (fun hb => ?_) (fun hb => ?_)) <;> (try simp only [hb]) <;> (try simp only [hpr] at hb)) | with_reducible refine gw_draw (id := 24) [(0, []), (1, []), (2, []), (3, []), (4, []), (5, []), (6, []), (7, [0]), (8, []), (9, []), (10, [0]), (11, []), (12, []), (13, [])] [0, 0, 0, 0, 8, 0, 32, 96, 248, 508, 1022, 2047, 4095, 8191] mixed (by kernel_rfl) ?_) <;> try simp only [List.map, gop, ev, lk, aenv, gyield, gBin, gInt, gStrOp, gUn, gPick, gNil, gExtract, gIfc, gConvK, gIndexO, gIndexVO, gMakeV, gMinV, gMaxV, isInt, gMin, gMax, gBlt, gCallV, gInvoke, gNilM, Array.toList_map, vcells, gField, gIndexV, gPart, reduceIte, Nat.reduceAdd, Nat.reduceSub, Nat.reduceMul, Nat.reduceLT, Nat.reduceLeDiff, Nat.reduceEqDiff, Nat.reduceBEq, Int.reduceLT, Int.reduceLE, Int.reduceGT, Int.reduceGE, Int.reduceEq, Int.reduceNe, Int.reduceAdd, Int.reduceSub, Int.reduceMul, Int.reduceNeg, Int.reduceToNat, Int.reduceBEq, Int.reduceBNe, Int.cast_ofNat_Int, List.getElem?_toArray, stp, rvOf, wlk, rdv, isEff, dsOf, sgl, stq, Try.underlying100, Try.underlying22, Try.underlying23, Try.underlying24, Try.underlying25, Try.underlying27, Try.underlying3, Try.underlying4, Try.underlying5, Try.underlying50, Try.underlying53, Try.underlying56, ty22, ty24, ty25, ty100, ty27, ty53, ty23, ty3, ty4, ty5, ty50, ty56, rs9]))
      exact ⟨_, rfl, t8, y8⟩
    · refine mk_of ?_; repeat' (first | (with_reducible first | refine gw_seq ?_ | refine gw_block ?_) | ((first | (with_reducible refine mk_to ?_) | (with_reducible first | refine gw_region ?_ | refine gw_if ?_ | refine gw_skip ?_ | refine gw_exit ?_ | refine gw_ret ?_) | ((with_reducible first | refine gif_b (fun hb => ?_) (fun hb => ?_) | refine want_t (fun hb => ?_) (fun hb => ?_) | refine want_f (fun hb => ?_) (fun hb => ?_) | refine dr_t (fun hb => ?_) (fun hb => ?_) | refine dr_f (fun hb => ?_) (fun hb => ?_)) <;> (try simp only [hb]) <;> (try simp only [hpr] at hb)) | with_reducible refine gw_draw (id := 24) [(0, []), (1, []), (2, []), (3, []), (4, []), (5, []), (6, []), (7, [0]), (8, []), (9, []), (10, [0]), (11, []), (12, []), (13, [])] [0, 0, 0, 0, 8, 0, 32, 96, 248, 508, 1022, 2047, 4095, 8191] mixed (by kernel_rfl) ?_) <;> try simp only [List.map, gop, ev, lk, aenv, gyield, gBin, gInt, gStrOp, gUn, gPick, gNil, gExtract, gIfc, gConvK, gIndexO, gIndexVO, gMakeV, gMinV, gMaxV, isInt, gMin, gMax, gBlt, gCallV, gInvoke, gNilM, Array.toList_map, vcells, gField, gIndexV, gPart, reduceIte, Nat.reduceAdd, Nat.reduceSub, Nat.reduceMul, Nat.reduceLT, Nat.reduceLeDiff, Nat.reduceEqDiff, Nat.reduceBEq, Int.reduceLT, Int.reduceLE, Int.reduceGT, Int.reduceGE, Int.reduceEq, Int.reduceNe, Int.reduceAdd, Int.reduceSub, Int.reduceMul, Int.reduceNeg, Int.reduceToNat, Int.reduceBEq, Int.reduceBNe, Int.cast_ofNat_Int, List.getElem?_toArray, stp, rvOf, wlk, rdv, isEff, dsOf, sgl, stq, Try.underlying100, Try.underlying22, Try.underlying23, Try.underlying24, Try.underlying25, Try.underlying27, Try.underlying3, Try.underlying4, Try.underlying5, Try.underlying50, Try.underlying53, Try.underlying56, ty22, ty24, ty25, ty100, ty27, ty53, ty23, ty3, ty4, ty5, ty50, ty56, rs9, ga7]))
      refine (i_num rd7 (by omega)).mono ?_
      rintro _ h8 ⟨rfl, rd8, x8⟩
      have m8 := x8 _ _ ne.symm m7
      have m58 := x8 _ _ k7r m57
      refine mk_of ?_; repeat' (first | (with_reducible first | refine gw_seq ?_ | refine gw_block ?_) | ((first | (with_reducible refine mk_to ?_) | (with_reducible first | refine gw_region ?_ | refine gw_if ?_ | refine gw_skip ?_ | refine gw_exit ?_ | refine gw_ret ?_) | ((with_reducible first | refine gif_b (fun hb => ?_) (fun hb => ?_) | refine want_t (fun hb => ?_) (fun hb => ?_) | refine want_f (fun hb => ?_) (fun hb => ?_) | refine dr_t (fun hb => ?_) (fun hb => ?_) | refine dr_f (fun hb => ?_) (fun hb => ?_)) <;> (try simp only [hb]) <;> (try simp only [hpr] at hb)) | with_reducible refine gw_draw (id := 24) [(0, []), (1, []), (2, []), (3, []), (4, []), (5, []), (6, []), (7, [0]), (8, []), (9, []), (10, [0]), (11, []), (12, []), (13, [])] [0, 0, 0, 0, 8, 0, 32, 96, 248, 508, 1022, 2047, 4095, 8191] mixed (by kernel_rfl) ?_) <;> try simp only [List.map, gop, ev, lk, aenv, gyield, gBin, gInt, gStrOp, gUn, gPick, gNil, gExtract, gIfc, gConvK, gIndexO, gIndexVO, gMakeV, gMinV, gMaxV, isInt, gMin, gMax, gBlt, gCallV, gInvoke, gNilM, Array.toList_map, vcells, gField, gIndexV, gPart, reduceIte, Nat.reduceAdd, Nat.reduceSub, Nat.reduceMul, Nat.reduceLT, Nat.reduceLeDiff, Nat.reduceEqDiff, Nat.reduceBEq, Int.reduceLT, Int.reduceLE, Int.reduceGT, Int.reduceGE, Int.reduceEq, Int.reduceNe, Int.reduceAdd, Int.reduceSub, Int.reduceMul, Int.reduceNeg, Int.reduceToNat, Int.reduceBEq, Int.reduceBNe, Int.cast_ofNat_Int, List.getElem?_toArray, stp, rvOf, wlk, rdv, isEff, dsOf, sgl, stq, Try.underlying100, Try.underlying22, Try.underlying23, Try.underlying24, Try.underlying25, Try.underlying27, Try.underlying3, Try.underlying4, Try.underlying5, Try.underlying50, Try.underlying53, Try.underlying56, ty22, ty24, ty25, ty100, ty27, ty53, ty23, ty3, ty4, ty5, ty50, ty56, rs9]))
      refine st_one m8 sz3 rfl (by simp) rfl rfl fun h9 m9 f9 => ?_
      have x9 : HX ka h8 h9 := fun j B n e => by rw [f9 j n]; exact e
      have ga9 : gLoad Try.prog 53 h9 (.pointer (some ⟨k7, 0, none⟩)) = some (inV kr) := gloadA (x9 _ _ k7a m58) sz53 rfl
      have ul := (u.2.uint_len 2147483648).1
      have t9 : T0 h9 kr ka { An.z u.1 with ep := (u.2.uint 2147483648).1 } (u.2.uint 2147483648).2 := ⟨rd8.hl m8 (by simp) rfl x9 ne, m9, rfl, rfl, rfl, by omega⟩
      refine mk_of ?_; repeat' (first | (with_reducible first | refine gw_seq ?_ | refine gw_block ?_) | ((first | (with_reducible refine mk_to ?_) | (with_reducible first | refine gw_region ?_ | refine gw_if ?_ | refine gw_skip ?_ | refine gw_exit ?_ | refine gw_ret ?_) | ((with_reducible first | refine gif_b (fun hb => ?_) (fun hb => ?_) | refine want_t (fun hb => ?_) (fun hb => ?_) | refine want_f (fun hb => ?_) (fun hb => ?_) | refine dr_t (fun hb => ?_) (fun hb => ?_) | refine dr_f (fun hb => ?_) (fun hb => ?_)) <;> (try simp only [hb]) <;> (try simp only [hpr] at hb)) | with_reducible refine gw_draw (id := 24) [(0, []), (1, []), (2, []), (3, []), (4, []), (5, []), (6, []), (7, [0]), (8, []), (9, []), (10, [0]), (11, []), (12, []), (13, [])] [0, 0, 0, 0, 8, 0, 32, 96, 248, 508, 1022, 2047, 4095, 8191] mixed (by kernel_rfl) ?_) <;> try simp only [List.map, gop, ev, lk, aenv, gyield, gBin, gInt, gStrOp, gUn, gPick, gNil, gExtract, gIfc, gConvK, gIndexO, gIndexVO, gMakeV, gMinV, gMaxV, isInt, gMin, gMax, gBlt, gCallV, gInvoke, gNilM, Array.toList_map, vcells, gField, gIndexV, gPart, reduceIte, Nat.reduceAdd, Nat.reduceSub, Nat.reduceMul, Nat.reduceLT, Nat.reduceLeDiff, Nat.reduceEqDiff, Nat.reduceBEq, Int.reduceLT, Int.reduceLE, Int.reduceGT, Int.reduceGE, Int.reduceEq, Int.reduceNe, Int.reduceAdd, Int.reduceSub, Int.reduceMul, Int.reduceNeg, Int.reduceToNat, Int.reduceBEq, Int.reduceBNe, Int.cast_ofNat_Int, List.getElem?_toArray, stp, rvOf, wlk, rdv, isEff, dsOf, sgl, stq, Try.underlying100, Try.underlying22, Try.underlying23, Try.underlying24, Try.underlying25, Try.underlying27, Try.underlying3, Try.underlying4, Try.underlying5, Try.underlying50, Try.underlying53, Try.underlying56, ty22, ty24, ty25, ty100, ty27, ty53, ty23, ty3, ty4, ty5, ty50, ty56, rs9, ga9]))
      refine (i_one t9).mono ?_
      rintro _ h10 ⟨t10, y10⟩
      refine mk_of ?_; repeat' (first | (with_reducible first | refine gw_seq ?_ | refine gw_block ?_) | ((first | (with_reducible refine mk_to ?_) | (with_reducible first | refine gw_region ?_ | refine gw_if ?_ | refine gw_skip ?_ | refine gw_exit ?_ | refine gw_ret ?_) | ((with_reducible first | refine gif_b (fun hb => ?_) (fun hb => ?_) | refine want_t (fun hb => ?_) (fun hb => ?_) | refine want_f (fun hb => ?_) (fun hb => ?_) | refine dr_t (fun hb => ?_) (fun hb => ?_) | refine dr_f (fun hb => ?_) (fun hb => ?_)) <;> (try simp only [hb]) <;> (try simp only [hpr] at hb)) | with_reducible refine gw_draw (id := 24) [(0, []), (1, []), (2, []), (3, []), (4, []), (5, []), (6, []), (7, [0]), (8, []), (9, []), (10, [0]), (11, []), (12, []), (13, [])] [0, 0, 0, 0, 8, 0, 32, 96, 248, 508, 1022, 2047, 4095, 8191] mixed (by kernel_rfl) ?_) <;> try simp only [List.map, gop, ev, lk, aenv, gyield, gBin, gInt, gStrOp, gUn, gPick, gNil, gExtract, gIfc, gConvK, gIndexO, gIndexVO, gMakeV, gMinV, gMaxV, isInt, gMin, gMax, gBlt, gCallV, gInvoke, gNilM, Array.toList_map, vcells, gField, gIndexV, gPart, reduceIte, Nat.reduceAdd, Nat.reduceSub, Nat.reduceMul, Nat.reduceLT, Nat.reduceLeDiff, Nat.reduceEqDiff, Nat.reduceBEq, Int.reduceLT, Int.reduceLE, Int.reduceGT, Int.reduceGE, Int.reduceEq, Int.reduceNe, Int.reduceAdd, Int.reduceSub, Int.reduceMul, Int.reduceNeg, Int.reduceToNat, Int.reduceBEq, Int.reduceBNe, Int.cast_ofNat_Int, List.getElem?_toArray, stp, rvOf, wlk, rdv, isEff, dsOf, sgl, stq, Try.underlying100, Try.underlying22, Try.underlying23, Try.underlying24, Try.underlying25, Try.underlying27, Try.underlying3, Try.underlying4, Try.underlying5, Try.underlying50, Try.underlying53, Try.underlying56, ty22, ty24, ty25, ty100, ty27, ty53, ty23, ty3, ty4, ty5, ty50, ty56, rs9]))
      exact ⟨_, rfl, t10, (x8.h2a.trans x9.h2b).trans y10⟩
    · refine mk_of ?_; repeat' (first | (with_reducible first | refine gw_seq ?_ | refine gw_block ?_) | ((first | (with_reducible refine mk_to ?_) | (with_reducible first | refine gw_region ?_ | refine gw_if ?_ | refine gw_skip ?_ | refine gw_exit ?_ | refine gw_ret ?_) | ((with_reducible first | refine gif_b (fun hb => ?_) (fun hb => ?_) | refine want_t (fun hb => ?_) (fun hb => ?_) | refine want_f (fun hb => ?_) (fun hb => ?_) | refine dr_t (fun hb => ?_) (fun hb => ?_) | refine dr_f (fun hb => ?_) (fun hb => ?_)) <;> (try simp only [hb]) <;> (try simp only [hpr] at hb)) | with_reducible refine gw_draw (id := 24) [(0, []), (1, []), (2, []), (3, []), (4, []), (5, []), (6, []), (7, [0]), (8, []), (9, []), (10, [0]), (11, []), (12, []), (13, [])] [0, 0, 0, 0, 8, 0, 32, 96, 248, 508, 1022, 2047, 4095, 8191] mixed (by kernel_rfl) ?_) <;> try simp only [List.map, gop, ev, lk, aenv, gyield, gBin, gInt, gStrOp, gUn, gPick, gNil, gExtract, gIfc, gConvK, gIndexO, gIndexVO, gMakeV, gMinV, gMaxV, isInt, gMin, gMax, gBlt, gCallV, gInvoke, gNilM, Array.toList_map, vcells, gField, gIndexV, gPart, reduceIte, Nat.reduceAdd, Nat.reduceSub, Nat.reduceMul, Nat.reduceLT, Nat.reduceLeDiff, Nat.reduceEqDiff, Nat.reduceBEq, Int.reduceLT, Int.reduceLE, Int.reduceGT, Int.reduceGE, Int.reduceEq, Int.reduceNe, Int.reduceAdd, Int.reduceSub, Int.reduceMul, Int.reduceNeg, Int.reduceToNat, Int.reduceBEq, Int.reduceBNe, Int.cast_ofNat_Int, List.getElem?_toArray, stp, rvOf, wlk, rdv, isEff, dsOf, sgl, stq, Try.underlying100, Try.underlying22, Try.underlying23, Try.underlying24, Try.underlying25, Try.underlying27, Try.underlying3, Try.underlying4, Try.underlying5, Try.underlying50, Try.underlying53, Try.underlying56, ty22, ty24, ty25, ty100, ty27, ty53, ty23, ty3, ty4, ty5, ty50, ty56, rs9, gload1 m57 sz50]))
      refine (c_RFlag N h7 rd7 (by omega)).mono ?_
      rintro _ h8 ⟨rfl, rd8, x8⟩
      have m8 := x8 _ _ ne.symm m7
      have m58 := x8 _ _ k7r m57
      refine mk_of ?_; repeat' (first | (with_reducible first | refine gw_seq ?_ | refine gw_block ?_) | ((first | (with_reducible refine mk_to ?_) | (with_reducible first | refine gw_region ?_ | refine gw_if ?_ | refine gw_skip ?_ | refine gw_exit ?_ | refine gw_ret ?_) | ((with_reducible first | refine gif_b (fun hb => ?_) (fun hb => ?_) | refine want_t (fun hb => ?_) (fun hb => ?_) | refine want_f (fun hb => ?_) (fun hb => ?_) | refine dr_t (fun hb => ?_) (fun hb => ?_) | refine dr_f (fun hb => ?_) (fun hb => ?_)) <;> (try simp only [hb]) <;> (try simp only [hpr] at hb)) | with_reducible refine gw_draw (id := 24) [(0, []), (1, []), (2, []), (3, []), (4, []), (5, []), (6, []), (7, [0]), (8, []), (9, []), (10, [0]), (11, []), (12, []), (13, [])] [0, 0, 0, 0, 8, 0, 32, 96, 248, 508, 1022, 2047, 4095, 8191] mixed (by kernel_rfl) ?_) <;> try simp only [List.map, gop, ev, lk, aenv, gyield, gBin, gInt, gStrOp, gUn, gPick, gNil, gExtract, gIfc, gConvK, gIndexO, gIndexVO, gMakeV, gMinV, gMaxV, isInt, gMin, gMax, gBlt, gCallV, gInvoke, gNilM, Array.toList_map, vcells, gField, gIndexV, gPart, reduceIte, Nat.reduceAdd, Nat.reduceSub, Nat.reduceMul, Nat.reduceLT, Nat.reduceLeDiff, Nat.reduceEqDiff, Nat.reduceBEq, Int.reduceLT, Int.reduceLE, Int.reduceGT, Int.reduceGE, Int.reduceEq, Int.reduceNe, Int.reduceAdd, Int.reduceSub, Int.reduceMul, Int.reduceNeg, Int.reduceToNat, Int.reduceBEq, Int.reduceBNe, Int.cast_ofNat_Int, List.getElem?_toArray, stp, rvOf, wlk, rdv, isEff, dsOf, sgl, stq, Try.underlying100, Try.underlying22, Try.underlying23, Try.underlying24, Try.underlying25, Try.underlying27, Try.underlying3, Try.underlying4, Try.underlying5, Try.underlying50, Try.underlying53, Try.underlying56, ty22, ty24, ty25, ty100, ty27, ty53, ty23, ty3, ty4, ty5, ty50, ty56, rs9]))
      refine st_one m8 sz4 rfl (by simp) rfl rfl fun h9 m9 f9 => ?_
      have x9 : HX ka h8 h9 := fun j B n e => by rw [f9 j n]; exact e
      have ga9 : gLoad Try.prog 53 h9 (.pointer (some ⟨k7, 0, none⟩)) = some (inV kr) := gloadA (x9 _ _ k7a m58) sz53 rfl
      have ul := u.2.flag_len
      have t9 : T0 h9 kr ka { An.z u.1 with sm := u.2.flag.1 } u.2.flag.2 := ⟨rd8.hl m8 (by simp) rfl x9 ne, m9, rfl, rfl, rfl, by omega⟩
      refine mk_of ?_; repeat' (first | (with_reducible first | refine gw_seq ?_ | refine gw_block ?_) | ((first | (with_reducible refine mk_to ?_) | (with_reducible first | refine gw_region ?_ | refine gw_if ?_ | refine gw_skip ?_ | refine gw_exit ?_ | refine gw_ret ?_) | ((with_reducible first | refine gif_b (fun hb => ?_) (fun hb => ?_) | refine want_t (fun hb => ?_) (fun hb => ?_) | refine want_f (fun hb => ?_) (fun hb => ?_) | refine dr_t (fun hb => ?_) (fun hb => ?_) | refine dr_f (fun hb => ?_) (fun hb => ?_)) <;> (try simp only [hb]) <;> (try simp only [hpr] at hb)) | with_reducible refine gw_draw (id := 24) [(0, []), (1, []), (2, []), (3, []), (4, []), (5, []), (6, []), (7, [0]), (8, []), (9, []), (10, [0]), (11, []), (12, []), (13, [])] [0, 0, 0, 0, 8, 0, 32, 96, 248, 508, 1022, 2047, 4095, 8191] mixed (by kernel_rfl) ?_) <;> try simp only [List.map, gop, ev, lk, aenv, gyield, gBin, gInt, gStrOp, gUn, gPick, gNil, gExtract, gIfc, gConvK, gIndexO, gIndexVO, gMakeV, gMinV, gMaxV, isInt, gMin, gMax, gBlt, gCallV, gInvoke, gNilM, Array.toList_map, vcells, gField, gIndexV, gPart, reduceIte, Nat.reduceAdd, Nat.reduceSub, Nat.reduceMul, Nat.reduceLT, Nat.reduceLeDiff, Nat.reduceEqDiff, Nat.reduceBEq, Int.reduceLT, Int.reduceLE, Int.reduceGT, Int.reduceGE, Int.reduceEq, Int.reduceNe, Int.reduceAdd, Int.reduceSub, Int.reduceMul, Int.reduceNeg, Int.reduceToNat, Int.reduceBEq, Int.reduceBNe, Int.cast_ofNat_Int, List.getElem?_toArray, stp, rvOf, wlk, rdv, isEff, dsOf, sgl, stq, Try.underlying100, Try.underlying22, Try.underlying23, Try.underlying24, Try.underlying25, Try.underlying27, Try.underlying3, Try.underlying4, Try.underlying5, Try.underlying50, Try.underlying53, Try.underlying56, ty22, ty24, ty25, ty100, ty27, ty53, ty23, ty3, ty4, ty5, ty50, ty56, rs9, ga9]))
      refine (i_one t9).mono ?_
      rintro _ h10 ⟨t10, y10⟩
      refine mk_of ?_; repeat' (first | (with_reducible first | refine gw_seq ?_ | refine gw_block ?_) | ((first | (with_reducible refine mk_to ?_) | (with_reducible first | refine gw_region ?_ | refine gw_if ?_ | refine gw_skip ?_ | refine gw_exit ?_ | refine gw_ret ?_) | ((with_reducible first | refine gif_b (fun hb => ?_) (fun hb => ?_) | refine want_t (fun hb => ?_) (fun hb => ?_) | refine want_f (fun hb => ?_) (fun hb => ?_) | refine dr_t (fun hb => ?_) (fun hb => ?_) | refine dr_f (fun hb => ?_) (fun hb => ?_)) <;> (try simp only [hb]) <;> (try simp only [hpr] at hb)) | with_reducible refine gw_draw (id := 24) [(0, []), (1, []), (2, []), (3, []), (4, []), (5, []), (6, []), (7, [0]), (8, []), (9, []), (10, [0]), (11, []), (12, []), (13, [])] [0, 0, 0, 0, 8, 0, 32, 96, 248, 508, 1022, 2047, 4095, 8191] mixed (by kernel_rfl) ?_) <;> try simp only [List.map, gop, ev, lk, aenv, gyield, gBin, gInt, gStrOp, gUn, gPick, gNil, gExtract, gIfc, gConvK, gIndexO, gIndexVO, gMakeV, gMinV, gMaxV, isInt, gMin, gMax, gBlt, gCallV, gInvoke, gNilM, Array.toList_map, vcells, gField, gIndexV, gPart, reduceIte, Nat.reduceAdd, Nat.reduceSub, Nat.reduceMul, Nat.reduceLT, Nat.reduceLeDiff, Nat.reduceEqDiff, Nat.reduceBEq, Int.reduceLT, Int.reduceLE, Int.reduceGT, Int.reduceGE, Int.reduceEq, Int.reduceNe, Int.reduceAdd, Int.reduceSub, Int.reduceMul, Int.reduceNeg, Int.reduceToNat, Int.reduceBEq, Int.reduceBNe, Int.cast_ofNat_Int, List.getElem?_toArray, stp, rvOf, wlk, rdv, isEff, dsOf, sgl, stq, Try.underlying100, Try.underlying22, Try.underlying23, Try.underlying24, Try.underlying25, Try.underlying27, Try.underlying3, Try.underlying4, Try.underlying5, Try.underlying50, Try.underlying53, Try.underlying56, ty22, ty24, ty25, ty100, ty27, ty53, ty23, ty3, ty4, ty5, ty50, ty56, rs9]))
      exact ⟨_, rfl, t10, (x8.h2a.trans x9.h2b).trans y10⟩
    · refine mk_of ?_; repeat' (first | (with_reducible first | refine gw_seq ?_ | refine gw_block ?_) | ((first | (with_reducible refine mk_to ?_) | (with_reducible first | refine gw_region ?_ | refine gw_if ?_ | refine gw_skip ?_ | refine gw_exit ?_ | refine gw_ret ?_) | ((with_reducible first | refine gif_b (fun hb => ?_) (fun hb => ?_) | refine want_t (fun hb => ?_) (fun hb => ?_) | refine want_f (fun hb => ?_) (fun hb => ?_) | refine dr_t (fun hb => ?_) (fun hb => ?_) | refine dr_f (fun hb => ?_) (fun hb => ?_)) <;> (try simp only [hb]) <;> (try simp only [hpr] at hb)) | with_reducible refine gw_draw (id := 24) [(0, []), (1, []), (2, []), (3, []), (4, []), (5, []), (6, []), (7, [0]), (8, []), (9, []), (10, [0]), (11, []), (12, []), (13, [])] [0, 0, 0, 0, 8, 0, 32, 96, 248, 508, 1022, 2047, 4095, 8191] mixed (by kernel_rfl) ?_) <;> try simp only [List.map, gop, ev, lk, aenv, gyield, gBin, gInt, gStrOp, gUn, gPick, gNil, gExtract, gIfc, gConvK, gIndexO, gIndexVO, gMakeV, gMinV, gMaxV, isInt, gMin, gMax, gBlt, gCallV, gInvoke, gNilM, Array.toList_map, vcells, gField, gIndexV, gPart, reduceIte, Nat.reduceAdd, Nat.reduceSub, Nat.reduceMul, Nat.reduceLT, Nat.reduceLeDiff, Nat.reduceEqDiff, Nat.reduceBEq, Int.reduceLT, Int.reduceLE, Int.reduceGT, Int.reduceGE, Int.reduceEq, Int.reduceNe, Int.reduceAdd, Int.reduceSub, Int.reduceMul, Int.reduceNeg, Int.reduceToNat, Int.reduceBEq, Int.reduceBNe, Int.cast_ofNat_Int, List.getElem?_toArray, stp, rvOf, wlk, rdv, isEff, dsOf, sgl, stq, Try.underlying100, Try.underlying22, Try.underlying23, Try.underlying24, Try.underlying25, Try.underlying27, Try.underlying3, Try.underlying4, Try.underlying5, Try.underlying50, Try.underlying53, Try.underlying56, ty22, ty24, ty25, ty100, ty27, ty53, ty23, ty3, ty4, ty5, ty50, ty56, rs9, ga7]))
      refine (i_items t0).mono ?_
      rintro _ h8 ⟨t8, y8⟩
      refine mk_of ?_; repeat' (first | (with_reducible first | refine gw_seq ?_ | refine gw_block ?_) | ((first | (with_reducible refine mk_to ?_) | (with_reducible first | refine gw_region ?_ | refine gw_if ?_ | refine gw_skip ?_ | refine gw_exit ?_ | refine gw_ret ?_) | ((with_reducible first | refine gif_b (fun hb => ?_) (fun hb => ?_) | refine want_t (fun hb => ?_) (fun hb => ?_) | refine want_f (fun hb => ?_) (fun hb => ?_) | refine dr_t (fun hb => ?_) (fun hb => ?_) | refine dr_f (fun hb => ?_) (fun hb => ?_)) <;> (try simp only [hb]) <;> (try simp only [hpr] at hb)) | with_reducible refine gw_draw (id := 24) [(0, []), (1, []), (2, []), (3, []), (4, []), (5, []), (6, []), (7, [0]), (8, []), (9, []), (10, [0]), (11, []), (12, []), (13, [])] [0, 0, 0, 0, 8, 0, 32, 96, 248, 508, 1022, 2047, 4095, 8191] mixed (by kernel_rfl) ?_) <;> try simp only [List.map, gop, ev, lk, aenv, gyield, gBin, gInt, gStrOp, gUn, gPick, gNil, gExtract, gIfc, gConvK, gIndexO, gIndexVO, gMakeV, gMinV, gMaxV, isInt, gMin, gMax, gBlt, gCallV, gInvoke, gNilM, Array.toList_map, vcells, gField, gIndexV, gPart, reduceIte, Nat.reduceAdd, Nat.reduceSub, Nat.reduceMul, Nat.reduceLT, Nat.reduceLeDiff, Nat.reduceEqDiff, Nat.reduceBEq, Int.reduceLT, Int.reduceLE, Int.reduceGT, Int.reduceGE, Int.reduceEq, Int.reduceNe, Int.reduceAdd, Int.reduceSub, Int.reduceMul, Int.reduceNeg, Int.reduceToNat, Int.reduceBEq, Int.reduceBNe, Int.cast_ofNat_Int, List.getElem?_toArray, stp, rvOf, wlk, rdv, isEff, dsOf, sgl, stq, Try.underlying100, Try.underlying22, Try.underlying23, Try.underlying24, Try.underlying25, Try.underlying27, Try.underlying3, Try.underlying4, Try.underlying5, Try.underlying50, Try.underlying53, Try.underlying56, ty22, ty24, ty25, ty100, ty27, ty53, ty23, ty3, ty4, ty5, ty50, ty56, rs9]))
      exact ⟨_, rfl, t8, y8⟩
    · refine mk_of ?_; repeat' (first | (with_reducible first | refine gw_seq ?_ | refine gw_block ?_) | ((first | (with_reducible refine mk_to ?_) | (with_reducible first | refine gw_region ?_ | refine gw_if ?_ | refine gw_skip ?_ | refine gw_exit ?_ | refine gw_ret ?_) | ((with_reducible first | refine gif_b (fun hb => ?_) (fun hb => ?_) | refine want_t (fun hb => ?_) (fun hb => ?_) | refine want_f (fun hb => ?_) (fun hb => ?_) | refine dr_t (fun hb => ?_) (fun hb => ?_) | refine dr_f (fun hb => ?_) (fun hb => ?_)) <;> (try simp only [hb]) <;> (try simp only [hpr] at hb)) | with_reducible refine gw_draw (id := 24) [(0, []), (1, []), (2, []), (3, []), (4, []), (5, []), (6, []), (7, [0]), (8, []), (9, []), (10, [0]), (11, []), (12, []), (13, [])] [0, 0, 0, 0, 8, 0, 32, 96, 248, 508, 1022, 2047, 4095, 8191] mixed (by kernel_rfl) ?_) <;> try simp only [List.map, gop, ev, lk, aenv, gyield, gBin, gInt, gStrOp, gUn, gPick, gNil, gExtract, gIfc, gConvK, gIndexO, gIndexVO, gMakeV, gMinV, gMaxV, isInt, gMin, gMax, gBlt, gCallV, gInvoke, gNilM, Array.toList_map, vcells, gField, gIndexV, gPart, reduceIte, Nat.reduceAdd, Nat.reduceSub, Nat.reduceMul, Nat.reduceLT, Nat.reduceLeDiff, Nat.reduceEqDiff, Nat.reduceBEq, Int.reduceLT, Int.reduceLE, Int.reduceGT, Int.reduceGE, Int.reduceEq, Int.reduceNe, Int.reduceAdd, Int.reduceSub, Int.reduceMul, Int.reduceNeg, Int.reduceToNat, Int.reduceBEq, Int.reduceBNe, Int.cast_ofNat_Int, List.getElem?_toArray, stp, rvOf, wlk, rdv, isEff, dsOf, sgl, stq, Try.underlying100, Try.underlying22, Try.underlying23, Try.underlying24, Try.underlying25, Try.underlying27, Try.underlying3, Try.underlying4, Try.underlying5, Try.underlying50, Try.underlying53, Try.underlying56, ty22, ty24, ty25, ty100, ty27, ty53, ty23, ty3, ty4, ty5, ty50, ty56, rs9, ga7]))
      refine (i_items t0).mono ?_
      rintro _ h8 ⟨t8, y8⟩
      refine mk_of ?_; repeat' (first | (with_reducible first | refine gw_seq ?_ | refine gw_block ?_) | ((first | (with_reducible refine mk_to ?_) | (with_reducible first | refine gw_region ?_ | refine gw_if ?_ | refine gw_skip ?_ | refine gw_exit ?_ | refine gw_ret ?_) | ((with_reducible first | refine gif_b (fun hb => ?_) (fun hb => ?_) | refine want_t (fun hb => ?_) (fun hb => ?_) | refine want_f (fun hb => ?_) (fun hb => ?_) | refine dr_t (fun hb => ?_) (fun hb => ?_) | refine dr_f (fun hb => ?_) (fun hb => ?_)) <;> (try simp only [hb]) <;> (try simp only [hpr] at hb)) | with_reducible refine gw_draw (id := 24) [(0, []), (1, []), (2, []), (3, []), (4, []), (5, []), (6, []), (7, [0]), (8, []), (9, []), (10, [0]), (11, []), (12, []), (13, [])] [0, 0, 0, 0, 8, 0, 32, 96, 248, 508, 1022, 2047, 4095, 8191] mixed (by kernel_rfl) ?_) <;> try simp only [List.map, gop, ev, lk, aenv, gyield, gBin, gInt, gStrOp, gUn, gPick, gNil, gExtract, gIfc, gConvK, gIndexO, gIndexVO, gMakeV, gMinV, gMaxV, isInt, gMin, gMax, gBlt, gCallV, gInvoke, gNilM, Array.toList_map, vcells, gField, gIndexV, gPart, reduceIte, Nat.reduceAdd, Nat.reduceSub, Nat.reduceMul, Nat.reduceLT, Nat.reduceLeDiff, Nat.reduceEqDiff, Nat.reduceBEq, Int.reduceLT, Int.reduceLE, Int.reduceGT, Int.reduceGE, Int.reduceEq, Int.reduceNe, Int.reduceAdd, Int.reduceSub, Int.reduceMul, Int.reduceNeg, Int.reduceToNat, Int.reduceBEq, Int.reduceBNe, Int.cast_ofNat_Int, List.getElem?_toArray, stp, rvOf, wlk, rdv, isEff, dsOf, sgl, stq, Try.underlying100, Try.underlying22, Try.underlying23, Try.underlying24, Try.underlying25, Try.underlying27, Try.underlying3, Try.underlying4, Try.underlying5, Try.underlying50, Try.underlying53, Try.underlying56, ty22, ty24, ty25, ty100, ty27, ty53, ty23, ty3, ty4, ty5, ty50, ty56, rs9]))
      exact ⟨_, rfl, t8, y8⟩
    · refine mk_of ?_; repeat' (first | (with_reducible first | refine gw_seq ?_ | refine gw_block ?_) | ((first | (with_reducible refine mk_to ?_) | (with_reducible first | refine gw_region ?_ | refine gw_if ?_ | refine gw_skip ?_ | refine gw_exit ?_ | refine gw_ret ?_) | ((with_reducible first | refine gif_b (fun hb => ?_) (fun hb => ?_) | refine want_t (fun hb => ?_) (fun hb => ?_) | refine want_f (fun hb => ?_) (fun hb => ?_) | refine dr_t (fun hb => ?_) (fun hb => ?_) | refine dr_f (fun hb => ?_) (fun hb => ?_)) <;> (try simp only [hb]) <;> (try simp only [hpr] at hb)) | with_reducible refine gw_draw (id := 24) [(0, []), (1, []), (2, []), (3, []), (4, []), (5, []), (6, []), (7, [0]), (8, []), (9, []), (10, [0]), (11, []), (12, []), (13, [])] [0, 0, 0, 0, 8, 0, 32, 96, 248, 508, 1022, 2047, 4095, 8191] mixed (by kernel_rfl) ?_) <;> try simp only [List.map, gop, ev, lk, aenv, gyield, gBin, gInt, gStrOp, gUn, gPick, gNil, gExtract, gIfc, gConvK, gIndexO, gIndexVO, gMakeV, gMinV, gMaxV, isInt, gMin, gMax, gBlt, gCallV, gInvoke, gNilM, Array.toList_map, vcells, gField, gIndexV, gPart, reduceIte, Nat.reduceAdd, Nat.reduceSub, Nat.reduceMul, Nat.reduceLT, Nat.reduceLeDiff, Nat.reduceEqDiff, Nat.reduceBEq, Int.reduceLT, Int.reduceLE, Int.reduceGT, Int.reduceGE, Int.reduceEq, Int.reduceNe, Int.reduceAdd, Int.reduceSub, Int.reduceMul, Int.reduceNeg, Int.reduceToNat, Int.reduceBEq, Int.reduceBNe, Int.cast_ofNat_Int, List.getElem?_toArray, stp, rvOf, wlk, rdv, isEff, dsOf, sgl, stq, Try.underlying100, Try.underlying22, Try.underlying23, Try.underlying24, Try.underlying25, Try.underlying27, Try.underlying3, Try.underlying4, Try.underlying5, Try.underlying50, Try.underlying53, Try.underlying56, ty22, ty24, ty25, ty100, ty27, ty53, ty23, ty3, ty4, ty5, ty50, ty56, rs9, ga7]))
      refine (i_events t0).mono ?_
      rintro _ h8 ⟨t8, y8⟩
      refine mk_of ?_; repeat' (first | (with_reducible first | refine gw_seq ?_ | refine gw_block ?_) | ((first | (with_reducible refine mk_to ?_) | (with_reducible first | refine gw_region ?_ | refine gw_if ?_ | refine gw_skip ?_ | refine gw_exit ?_ | refine gw_ret ?_) | ((with_reducible first | refine gif_b (fun hb => ?_) (fun hb => ?_) | refine want_t (fun hb => ?_) (fun hb => ?_) | refine want_f (fun hb => ?_) (fun hb => ?_) | refine dr_t (fun hb => ?_) (fun hb => ?_) | refine dr_f (fun hb => ?_) (fun hb => ?_)) <;> (try simp only [hb]) <;> (try simp only [hpr] at hb)) | with_reducible refine gw_draw (id := 24) [(0, []), (1, []), (2, []), (3, []), (4, []), (5, []), (6, []), (7, [0]), (8, []), (9, []), (10, [0]), (11, []), (12, []), (13, [])] [0, 0, 0, 0, 8, 0, 32, 96, 248, 508, 1022, 2047, 4095, 8191] mixed (by kernel_rfl) ?_) <;> try simp only [List.map, gop, ev, lk, aenv, gyield, gBin, gInt, gStrOp, gUn, gPick, gNil, gExtract, gIfc, gConvK, gIndexO, gIndexVO, gMakeV, gMinV, gMaxV, isInt, gMin, gMax, gBlt, gCallV, gInvoke, gNilM, Array.toList_map, vcells, gField, gIndexV, gPart, reduceIte, Nat.reduceAdd, Nat.reduceSub, Nat.reduceMul, Nat.reduceLT, Nat.reduceLeDiff, Nat.reduceEqDiff, Nat.reduceBEq, Int.reduceLT, Int.reduceLE, Int.reduceGT, Int.reduceGE, Int.reduceEq, Int.reduceNe, Int.reduceAdd, Int.reduceSub, Int.reduceMul, Int.reduceNeg, Int.reduceToNat, Int.reduceBEq, Int.reduceBNe, Int.cast_ofNat_Int, List.getElem?_toArray, stp, rvOf, wlk, rdv, isEff, dsOf, sgl, stq, Try.underlying100, Try.underlying22, Try.underlying23, Try.underlying24, Try.underlying25, Try.underlying27, Try.underlying3, Try.underlying4, Try.underlying5, Try.underlying50, Try.underlying53, Try.underlying56, ty22, ty24, ty25, ty100, ty27, ty53, ty23, ty3, ty4, ty5, ty50, ty56, rs9]))
      exact ⟨_, rfl, t8, y8⟩
    · have eb : rbody kd (An.z u.1) u.2 = (An.z u.1, u.2) := by simp only [rbody, e1, e3, e4, e5, e6, e10, e7, if_false, or_self]
      replace e1 : (kd == 1) = false := by simpa using e1
      replace e3 : (kd == 3) = false := by simpa using e3
      replace e4 : (kd == 4) = false := by simpa using e4
      replace e5 : (kd == 5) = false := by simpa using e5
      replace e6 : (kd == 6) = false := by simpa using e6
      replace e10 : (kd == 10) = false := by simpa using e10
      replace e7 : (kd == 7) = false := by simpa using e7
      refine mk_of ?_; repeat' (first | (with_reducible first | refine gw_seq ?_ | refine gw_block ?_) | ((first | (with_reducible refine mk_to ?_) | (with_reducible first | refine gw_region ?_ | refine gw_if ?_ | refine gw_skip ?_ | refine gw_exit ?_ | refine gw_ret ?_) | ((with_reducible first | refine gif_b (fun hb => ?_) (fun hb => ?_) | refine want_t (fun hb => ?_) (fun hb => ?_) | refine want_f (fun hb => ?_) (fun hb => ?_) | refine dr_t (fun hb => ?_) (fun hb => ?_) | refine dr_f (fun hb => ?_) (fun hb => ?_)) <;> (try simp only [hb]) <;> (try simp only [hpr] at hb)) | with_reducible refine gw_draw (id := 24) [(0, []), (1, []), (2, []), (3, []), (4, []), (5, []), (6, []), (7, [0]), (8, []), (9, []), (10, [0]), (11, []), (12, []), (13, [])] [0, 0, 0, 0, 8, 0, 32, 96, 248, 508, 1022, 2047, 4095, 8191] mixed (by kernel_rfl) ?_) <;> try simp only [List.map, gop, ev, lk, aenv, gyield, gBin, gInt, gStrOp, gUn, gPick, gNil, gExtract, gIfc, gConvK, gIndexO, gIndexVO, gMakeV, gMinV, gMaxV, isInt, gMin, gMax, gBlt, gCallV, gInvoke, gNilM, Array.toList_map, vcells, gField, gIndexV, gPart, reduceIte, Nat.reduceAdd, Nat.reduceSub, Nat.reduceMul, Nat.reduceLT, Nat.reduceLeDiff, Nat.reduceEqDiff, Nat.reduceBEq, Int.reduceLT, Int.reduceLE, Int.reduceGT, Int.reduceGE, Int.reduceEq, Int.reduceNe, Int.reduceAdd, Int.reduceSub, Int.reduceMul, Int.reduceNeg, Int.reduceToNat, Int.reduceBEq, Int.reduceBNe, Int.cast_ofNat_Int, List.getElem?_toArray, stp, rvOf, wlk, rdv, isEff, dsOf, sgl, stq, Try.underlying100, Try.underlying22, Try.underlying23, Try.underlying24, Try.underlying25, Try.underlying27, Try.underlying3, Try.underlying4, Try.underlying5, Try.underlying50, Try.underlying53, Try.underlying56, ty22, ty24, ty25, ty100, ty27, ty53, ty23, ty3, ty4, ty5, ty50, ty56, rs9, e1, e3, e4, e5, e6, e10, e7]))
      exact ⟨_, eb, t0.one, H2.refl _ _ _⟩
  rintro _ e' h8 ⟨rfl, ⟨q1, q4, q7, q8⟩, p, hp, t8, y8⟩
  rw [thenQ_n]
  refine gw_env [(1, .slice b l.length c), (4, .pointer (some ⟨k4, 0, none⟩)), (7, .pointer (some ⟨k7, 0, none⟩)), (8, .pointer (some ⟨ka, 0, none⟩))] (by simp [q1, q4, q7, q8]) ?_
  clear q1 q4 q7 q8
  rw [hp] at hDu
  have psuf : p.2.b <:+ l := by rw [← hp]; exact (rbody_suf _ _ _).trans hsuf
  have pl := suf_len psuf
  obtain ⟨rd8, a8, c8, b8, d8, b8', d8', ma, rk, ri, re⟩ := t8
  have hs8 : HS h1 h8 := fun j B e => y8 _ _ (fun e' => by rw [e', n2] at e; cases e) (fun e' => by rw [e', na1] at e; cases e) (hs7 _ _ e)
  have m58 := y8 _ _ k7r k7a m57
  have m18 := hs8 _ _ m1
  have hend : ∀ h9 h12, HS h1 h9 → (∀ j, j ≠ k4 → h12 j = h9 j) → HS h h12 := fun h9 h12 s f j B e => by
    rw [f j (ne_of e n1)]; exact s _ _ (s1 _ _ e)
  by_cases he : p.2.e = 0
  case neg =>
    have d4 : (p.2.e != 0) = true := by simpa using he
    rw [rfin, if_neg he] at hDu
    refine mk_of ?_; repeat' (first | (with_reducible first | refine gw_seq ?_ | refine gw_block ?_) | ((first | (with_reducible refine mk_to ?_) | (with_reducible first | refine gw_region ?_ | refine gw_if ?_ | refine gw_skip ?_ | refine gw_exit ?_ | refine gw_ret ?_) | ((with_reducible first | refine gif_b (fun hb => ?_) (fun hb => ?_) | refine want_t (fun hb => ?_) (fun hb => ?_) | refine want_f (fun hb => ?_) (fun hb => ?_) | refine dr_t (fun hb => ?_) (fun hb => ?_) | refine dr_f (fun hb => ?_) (fun hb => ?_)) <;> (try simp only [hb]) <;> (try simp only [hpr] at hb)) | with_reducible refine gw_draw (id := 24) [(0, []), (1, []), (2, []), (3, []), (4, []), (5, []), (6, []), (7, [0]), (8, []), (9, []), (10, [0]), (11, []), (12, []), (13, [])] [0, 0, 0, 0, 8, 0, 32, 96, 248, 508, 1022, 2047, 4095, 8191] mixed (by kernel_rfl) ?_ | ((refine GTri.mono (c_Err _ _ rd8) ?_); rintro _ _ ⟨rfl, hh9⟩; replace hh9 := hh9.symm; subst hh9)) <;> try simp only [List.map, gop, ev, lk, aenv, gyield, gBin, gInt, gStrOp, gUn, gPick, gNil, gExtract, gIfc, gConvK, gIndexO, gIndexVO, gMakeV, gMinV, gMaxV, isInt, gMin, gMax, gBlt, gCallV, gInvoke, gNilM, Array.toList_map, vcells, gField, gIndexV, gPart, reduceIte, Nat.reduceAdd, Nat.reduceSub, Nat.reduceMul, Nat.reduceLT, Nat.reduceLeDiff, Nat.reduceEqDiff, Nat.reduceBEq, Int.reduceLT, Int.reduceLE, Int.reduceGT, Int.reduceGE, Int.reduceEq, Int.reduceNe, Int.reduceAdd, Int.reduceSub, Int.reduceMul, Int.reduceNeg, Int.reduceToNat, Int.reduceBEq, Int.reduceBNe, Int.cast_ofNat_Int, List.getElem?_toArray, stp, rvOf, wlk, rdv, isEff, dsOf, sgl, stq, Try.underlying100, Try.underlying22, Try.underlying23, Try.underlying24, Try.underlying25, Try.underlying27, Try.underlying3, Try.underlying4, Try.underlying5, Try.underlying50, Try.underlying53, Try.underlying56, ty22, ty24, ty25, ty100, ty27, ty53, ty23, ty3, ty4, ty5, ty50, ty56, rs9, gload1 m58 sz50, d4, gBuild, lfill, lput, Shape.pl, List.all_cons, List.all_nil, isCell]))
    refine st_agg m18 sz27 rfl (by decide) rfl rfl rfl fun h9 m9 f9 => ?_
    refine mk_of ?_; repeat' (first | (with_reducible first | refine gw_seq ?_ | refine gw_block ?_) | ((first | (with_reducible refine mk_to ?_) | (with_reducible first | refine gw_region ?_ | refine gw_if ?_ | refine gw_skip ?_ | refine gw_exit ?_ | refine gw_ret ?_) | ((with_reducible first | refine gif_b (fun hb => ?_) (fun hb => ?_) | refine want_t (fun hb => ?_) (fun hb => ?_) | refine want_f (fun hb => ?_) (fun hb => ?_) | refine dr_t (fun hb => ?_) (fun hb => ?_) | refine dr_f (fun hb => ?_) (fun hb => ?_)) <;> (try simp only [hb]) <;> (try simp only [hpr] at hb)) | with_reducible refine gw_draw (id := 24) [(0, []), (1, []), (2, []), (3, []), (4, []), (5, []), (6, []), (7, [0]), (8, []), (9, []), (10, [0]), (11, []), (12, []), (13, [])] [0, 0, 0, 0, 8, 0, 32, 96, 248, 508, 1022, 2047, 4095, 8191] mixed (by kernel_rfl) ?_) <;> try simp only [List.map, gop, ev, lk, aenv, gyield, gBin, gInt, gStrOp, gUn, gPick, gNil, gExtract, gIfc, gConvK, gIndexO, gIndexVO, gMakeV, gMinV, gMaxV, isInt, gMin, gMax, gBlt, gCallV, gInvoke, gNilM, Array.toList_map, vcells, gField, gIndexV, gPart, reduceIte, Nat.reduceAdd, Nat.reduceSub, Nat.reduceMul, Nat.reduceLT, Nat.reduceLeDiff, Nat.reduceEqDiff, Nat.reduceBEq, Int.reduceLT, Int.reduceLE, Int.reduceGT, Int.reduceGE, Int.reduceEq, Int.reduceNe, Int.reduceAdd, Int.reduceSub, Int.reduceMul, Int.reduceNeg, Int.reduceToNat, Int.reduceBEq, Int.reduceBNe, Int.cast_ofNat_Int, List.getElem?_toArray, stp, rvOf, wlk, rdv, isEff, dsOf, sgl, stq, Try.underlying100, Try.underlying22, Try.underlying23, Try.underlying24, Try.underlying25, Try.underlying27, Try.underlying3, Try.underlying4, Try.underlying5, Try.underlying50, Try.underlying53, Try.underlying56, ty22, ty24, ty25, ty100, ty27, ty53, ty23, ty3, ty4, ty5, ty50, ty56, rs9, gloadA m9 sz27 rfl]))
    rw [hDu]
    exact ⟨hend _ _ hs8 f9, _, none, 0, rfl, RA.zero _, RB.nil _⟩
  have d4 : (p.2.e != 0) = false := by simpa using he
  rw [rfin, if_pos he] at hDu
  have wsub : IntKind.i64.wrap ((l.length : Int) - ((p.2.b.length : Nat) : Int)) = ((l.length - p.2.b.length : Nat) : Int) := wrap_sub (by omega) (by omega)
  obtain ⟨a9, c9, q9, r9, sl9⟩ := (r.hs (s1.trans hs8)).behind (sl.hs (s1.trans hs8)) Try.underlying22 sz29 (lo := l.length - p.2.b.length) (by omega) .i64
  rw [suf_drop psuf] at q9 r9 sl9
  have gaa : gLoad Try.prog 27 h8 (.pointer (some ⟨ka, 0, none⟩)) = some (.agg (p.1.cs (.slice a8 p.1.ky.length c8) (.slice b8 p.1.its.length d8) (.slice b8' p.1.evs.length d8')).toArray) := gloadA ma sz27 (An.cs_len _ _ _ _)
  refine mk_of ?_; repeat' (first | (with_reducible first | refine gw_seq ?_ | refine gw_block ?_) | ((first | (with_reducible refine mk_to ?_) | (with_reducible first | refine gw_region ?_ | refine gw_if ?_ | refine gw_skip ?_ | refine gw_exit ?_ | refine gw_ret ?_) | ((with_reducible first | refine gif_b (fun hb => ?_) (fun hb => ?_) | refine want_t (fun hb => ?_) (fun hb => ?_) | refine want_f (fun hb => ?_) (fun hb => ?_) | refine dr_t (fun hb => ?_) (fun hb => ?_) | refine dr_f (fun hb => ?_) (fun hb => ?_)) <;> (try simp only [hb]) <;> (try simp only [hpr] at hb)) | with_reducible refine gw_draw (id := 24) [(0, []), (1, []), (2, []), (3, []), (4, []), (5, []), (6, []), (7, [0]), (8, []), (9, []), (10, [0]), (11, []), (12, []), (13, [])] [0, 0, 0, 0, 8, 0, 32, 96, 248, 508, 1022, 2047, 4095, 8191] mixed (by kernel_rfl) ?_ | ((refine GTri.mono (c_Err _ _ rd8) ?_); rintro _ _ ⟨rfl, hh9⟩; replace hh9 := hh9.symm; subst hh9) | ((refine GTri.mono (c_Left _ _ rd8) ?_); rintro _ _ ⟨rfl, hh9⟩; replace hh9 := hh9.symm; subst hh9)) <;> try simp only [List.map, gop, ev, lk, aenv, gyield, gBin, gInt, gStrOp, gUn, gPick, gNil, gExtract, gIfc, gConvK, gIndexO, gIndexVO, gMakeV, gMinV, gMaxV, isInt, gMin, gMax, gBlt, gCallV, gInvoke, gNilM, Array.toList_map, vcells, gField, gIndexV, gPart, reduceIte, Nat.reduceAdd, Nat.reduceSub, Nat.reduceMul, Nat.reduceLT, Nat.reduceLeDiff, Nat.reduceEqDiff, Nat.reduceBEq, Int.reduceLT, Int.reduceLE, Int.reduceGT, Int.reduceGE, Int.reduceEq, Int.reduceNe, Int.reduceAdd, Int.reduceSub, Int.reduceMul, Int.reduceNeg, Int.reduceToNat, Int.reduceBEq, Int.reduceBNe, Int.cast_ofNat_Int, List.getElem?_toArray, stp, rvOf, wlk, rdv, isEff, dsOf, sgl, stq, Try.underlying100, Try.underlying22, Try.underlying23, Try.underlying24, Try.underlying25, Try.underlying27, Try.underlying3, Try.underlying4, Try.underlying5, Try.underlying50, Try.underlying53, Try.underlying56, ty22, ty24, ty25, ty100, ty27, ty53, ty23, ty3, ty4, ty5, ty50, ty56, rs9, gload1 m58 sz50, d4, gaa, wsub, q9]))
  refine bs0_g el22 rfl ?_
  refine mk_of ?_; repeat' (first | (with_reducible first | refine gw_seq ?_ | refine gw_block ?_) | ((first | (with_reducible refine mk_to ?_) | (with_reducible first | refine gw_region ?_ | refine gw_if ?_ | refine gw_skip ?_ | refine gw_exit ?_ | refine gw_ret ?_) | ((with_reducible first | refine gif_b (fun hb => ?_) (fun hb => ?_) | refine want_t (fun hb => ?_) (fun hb => ?_) | refine want_f (fun hb => ?_) (fun hb => ?_) | refine dr_t (fun hb => ?_) (fun hb => ?_) | refine dr_f (fun hb => ?_) (fun hb => ?_)) <;> (try simp only [hb]) <;> (try simp only [hpr] at hb)) | with_reducible refine gw_draw (id := 24) [(0, []), (1, []), (2, []), (3, []), (4, []), (5, []), (6, []), (7, [0]), (8, []), (9, []), (10, [0]), (11, []), (12, []), (13, [])] [0, 0, 0, 0, 8, 0, 32, 96, 248, 508, 1022, 2047, 4095, 8191] mixed (by kernel_rfl) ?_ | ((refine GTri.mono (c_Left _ _ rd8) ?_); rintro _ _ ⟨rfl, hh9⟩; replace hh9 := hh9.symm; subst hh9)) <;> try simp only [List.map, gop, ev, lk, aenv, gyield, gBin, gInt, gStrOp, gUn, gPick, gNil, gExtract, gIfc, gConvK, gIndexO, gIndexVO, gMakeV, gMinV, gMaxV, isInt, gMin, gMax, gBlt, gCallV, gInvoke, gNilM, Array.toList_map, vcells, gField, gIndexV, gPart, reduceIte, Nat.reduceAdd, Nat.reduceSub, Nat.reduceMul, Nat.reduceLT, Nat.reduceLeDiff, Nat.reduceEqDiff, Nat.reduceBEq, Int.reduceLT, Int.reduceLE, Int.reduceGT, Int.reduceGE, Int.reduceEq, Int.reduceNe, Int.reduceAdd, Int.reduceSub, Int.reduceMul, Int.reduceNeg, Int.reduceToNat, Int.reduceBEq, Int.reduceBNe, Int.cast_ofNat_Int, List.getElem?_toArray, stp, rvOf, wlk, rdv, isEff, dsOf, sgl, stq, Try.underlying100, Try.underlying22, Try.underlying23, Try.underlying24, Try.underlying25, Try.underlying27, Try.underlying3, Try.underlying4, Try.underlying5, Try.underlying50, Try.underlying53, Try.underlying56, ty22, ty24, ty25, ty100, ty27, ty53, ty23, ty3, ty4, ty5, ty50, ty56, rs9, gload1 m58 sz50, d4, gaa, wsub, q9]))
  refine append_own el22 Try.underlying22 rfl (HS.refl h8) (OWN.zero _ _ _) r9.src (by simp; omega) fun v10 h10 s10 _ o10 => ?_
  obtain ⟨a10, c10, rfl⟩ := o10.form
  rw [List.nil_append] at o10
  have gaa10 := gload_hs s10 gaa
  have m1a := s10 _ _ m18
  refine mk_of ?_; repeat' (first | (with_reducible first | refine gw_seq ?_ | refine gw_block ?_) | ((first | (with_reducible refine mk_to ?_) | (with_reducible first | refine gw_region ?_ | refine gw_if ?_ | refine gw_skip ?_ | refine gw_exit ?_ | refine gw_ret ?_) | ((with_reducible first | refine gif_b (fun hb => ?_) (fun hb => ?_) | refine want_t (fun hb => ?_) (fun hb => ?_) | refine want_f (fun hb => ?_) (fun hb => ?_) | refine dr_t (fun hb => ?_) (fun hb => ?_) | refine dr_f (fun hb => ?_) (fun hb => ?_)) <;> (try simp only [hb]) <;> (try simp only [hpr] at hb)) | with_reducible refine gw_draw (id := 24) [(0, []), (1, []), (2, []), (3, []), (4, []), (5, []), (6, []), (7, [0]), (8, []), (9, []), (10, [0]), (11, []), (12, []), (13, [])] [0, 0, 0, 0, 8, 0, 32, 96, 248, 508, 1022, 2047, 4095, 8191] mixed (by kernel_rfl) ?_) <;> try simp only [List.map, gop, ev, lk, aenv, gyield, gBin, gInt, gStrOp, gUn, gPick, gNil, gExtract, gIfc, gConvK, gIndexO, gIndexVO, gMakeV, gMinV, gMaxV, isInt, gMin, gMax, gBlt, gCallV, gInvoke, gNilM, Array.toList_map, vcells, gField, gIndexV, gPart, reduceIte, Nat.reduceAdd, Nat.reduceSub, Nat.reduceMul, Nat.reduceLT, Nat.reduceLeDiff, Nat.reduceEqDiff, Nat.reduceBEq, Int.reduceLT, Int.reduceLE, Int.reduceGT, Int.reduceGE, Int.reduceEq, Int.reduceNe, Int.reduceAdd, Int.reduceSub, Int.reduceMul, Int.reduceNeg, Int.reduceToNat, Int.reduceBEq, Int.reduceBNe, Int.cast_ofNat_Int, List.getElem?_toArray, stp, rvOf, wlk, rdv, isEff, dsOf, sgl, stq, Try.underlying100, Try.underlying22, Try.underlying23, Try.underlying24, Try.underlying25, Try.underlying27, Try.underlying3, Try.underlying4, Try.underlying5, Try.underlying50, Try.underlying53, Try.underlying56, ty22, ty24, ty25, ty100, ty27, ty53, ty23, ty3, ty4, ty5, ty50, ty56, rs9, gaa10]))
  refine st_agg m1a sz27 rfl (by decide) (An.cs_len _ _ _ _) rfl rfl fun h11 m11 f11 => ?_
  have x11 : HX k4 h10 h11 := fun j B n e => by rw [f11 j n]; exact e
  refine mk_of ?_; repeat' (first | (with_reducible first | refine gw_seq ?_ | refine gw_block ?_) | ((first | (with_reducible refine mk_to ?_) | (with_reducible first | refine gw_region ?_ | refine gw_if ?_ | refine gw_skip ?_ | refine gw_exit ?_ | refine gw_ret ?_) | ((with_reducible first | refine gif_b (fun hb => ?_) (fun hb => ?_) | refine want_t (fun hb => ?_) (fun hb => ?_) | refine want_f (fun hb => ?_) (fun hb => ?_) | refine dr_t (fun hb => ?_) (fun hb => ?_) | refine dr_f (fun hb => ?_) (fun hb => ?_)) <;> (try simp only [hb]) <;> (try simp only [hpr] at hb)) | with_reducible refine gw_draw (id := 24) [(0, []), (1, []), (2, []), (3, []), (4, []), (5, []), (6, []), (7, [0]), (8, []), (9, []), (10, [0]), (11, []), (12, []), (13, [])] [0, 0, 0, 0, 8, 0, 32, 96, 248, 508, 1022, 2047, 4095, 8191] mixed (by kernel_rfl) ?_) <;> try simp only [List.map, gop, ev, lk, aenv, gyield, gBin, gInt, gStrOp, gUn, gPick, gNil, gExtract, gIfc, gConvK, gIndexO, gIndexVO, gMakeV, gMinV, gMaxV, isInt, gMin, gMax, gBlt, gCallV, gInvoke, gNilM, Array.toList_map, vcells, gField, gIndexV, gPart, reduceIte, Nat.reduceAdd, Nat.reduceSub, Nat.reduceMul, Nat.reduceLT, Nat.reduceLeDiff, Nat.reduceEqDiff, Nat.reduceBEq, Int.reduceLT, Int.reduceLE, Int.reduceGT, Int.reduceGE, Int.reduceEq, Int.reduceNe, Int.reduceAdd, Int.reduceSub, Int.reduceMul, Int.reduceNeg, Int.reduceToNat, Int.reduceBEq, Int.reduceBNe, Int.cast_ofNat_Int, List.getElem?_toArray, stp, rvOf, wlk, rdv, isEff, dsOf, sgl, stq, Try.underlying100, Try.underlying22, Try.underlying23, Try.underlying24, Try.underlying25, Try.underlying27, Try.underlying3, Try.underlying4, Try.underlying5, Try.underlying50, Try.underlying53, Try.underlying56, ty22, ty24, ty25, ty100, ty27, ty53, ty23, ty3, ty4, ty5, ty50, ty56, rs9, gloadA m11 sz27 (An.cs_len _ _ _ _)]))
  rw [hDu]
  have hs11 := hend _ _ (hs8.trans s10) f11
  exact ⟨hs11, _, a10, c10, rfl, ⟨a8, c8, b8, d8, b8', d8', rfl, (rk.hs s10).hx m1a rfl x11, (ri.hs s10).hy m1a ⟨rfl, rfl⟩ rfl x11, (re.hs s10).hy m1a ⟨rfl, rfl⟩ rfl x11⟩, o10.rb.hx m1a rfl x11⟩
end Go.Gh

