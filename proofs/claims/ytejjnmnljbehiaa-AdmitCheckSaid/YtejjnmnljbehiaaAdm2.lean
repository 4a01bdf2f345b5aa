/- Contracts of admit and its reference: what follows from parameters. -/
import Derived.Test.YtejjnmnljbehiaaAdm
namespace Go.Gh
open Go Go.Proofs Go.RowKit
set_option linter.unusedVariables false
set_option linter.unusedSimpArgs false
set_option maxRecDepth 100000

/-- A call whose parameters may not be. -/
theorem Pm.may_iff (p : Pm) : p.may = true ↔ (1 ≤ p.s ∧ p.s ≤ 32) ∧ (0 ≤ p.ht ∧ p.ht ≤ 8) ∧ (0 ≤ p.mi ∧ p.mi ≤ 24) ∧ (0 ≤ p.my ∧ p.my ≤ 48) ∧ (0 ≤ p.ch ∧ p.ch ≤ 4096) ∧ (0 ≤ p.ca ∧ p.ca ≤ 8) ∧ (1 ≤ p.pg ∧ p.pg ≤ 32) := by
  simp only [Pm.may, inB, Bool.and_eq_true, decide_eq_true_eq]
  omega

def Pm.deep (p : Pm) : Int := if p.may = true then 8 * (p.mi + 1) else 0
def Pm.each (p : Pm) : Int := if p.may = true then p.deep + 2 else 0
def Pm.need (p : Pm) : Int := if p.may = true then (2 + p.ca) * p.ch * p.each + 1 else 0

theorem c_deep (N : Nat) (h : GH) (p : Pm) : GTri Try.prog N 30 [p.v] h fun v h' => v = .int .i64 p.deep ∧ HS h h' := by
  refine gtri Try.func30 rfl gf30 ok30 (by simp [Try.ntmps30]) ?_
  repeat' first
    | with_reducible refine gw_seq ?_
    | with_reducible refine gw_block ?_
    | ((first
        | with_reducible refine gw_region ?_
        | with_reducible refine gw_if ?_
        | with_reducible refine gw_skip ?_
        | with_reducible refine gw_exit ?_
        | with_reducible refine gw_ret ?_
        | ((with_reducible refine gif_b (fun hb => ?_) (fun hb => ?_)) <;> try simp only [hb])
        | ((with_reducible refine want_t (fun hb => ?_) (fun hb => ?_)) <;> try simp only [hb])
        | ((with_reducible refine want_f (fun hb => ?_) (fun hb => ?_)) <;> try simp only [hb])) <;> try simp only [List.map, gops_nil, gops_none, gops_some, kops_ap, kops_no, gop, optK_some, ev, lk, aenv, gyield, thenQ_n, thenQ_r, thenQ_x, blockQ_n, blockQ_r, blockQ_x, retQ_r, retQ_n, gret_0, gret_1, gret_2, gret_3, gret_c, gret_c1, gret_c2, gif_t, gif_f, want_tt, want_ff, want_tf, want_ft, gBin, gInt, gStrOp, gUn, gPick, gNil, gExtract, gIfc, gConvO, gIndexO, gIndexVO, gMakeV, gMinV, gMaxV, gBlt, gCallV, gAllocO_some, vcells, optH_some, Nat.reduceAdd, Nat.reduceSub, Nat.reduceMul, Nat.reduceLT, Nat.reduceLeDiff, Nat.reduceEqDiff, Nat.reduceBEq, reduceIte, Option.map_some, Option.getD_some, Option.some.injEq, List.getElem?_cons_succ, List.getElem?_cons_zero, List.length_cons, List.length_nil, List.cons_append, List.nil_append, List.append_nil, Array.toList_append, List.extract_toArray, List.extract_eq_take_drop, List.drop_succ_cons, List.drop_zero, List.take_succ_cons, List.take_zero, List.set_cons_zero, List.set_cons_succ, Int.cast_ofNat_Int, Int.reduceLT, Int.reduceLE, Int.reduceGT, Int.reduceGE, Int.reduceEq, Int.reduceNe, Int.reduceAdd, Int.reduceSub, Int.reduceMul, Int.reduceNeg, Int.reduceToNat, Int.reduceBEq, Int.reduceBNe, decide_true, decide_false, and_self, ite_true, ite_false, gField, gIndexV, gPart, wrap64, wrapu8, wrapu32, wrapu64, true_and, and_true, Bool.false_eq_true, eq_self_iff_true, Bool.not_true, Bool.not_false, Bool.or_false, Bool.false_or, Bool.true_and, Bool.and_true, Try.underlying23, Try.underlying3, Try.underlying4, eq23, fo23_0, fo23_1, fo23_2, fo23_3, fo23_4, fo23_5, fo23_6, fo23_7, ni23, ni3, ni4, sh23, sz23, sz3, sz4, zr23, zr3, zr4, rs30, Pm.v])
  refine box_g rfl fun k1 h1 m1 s1 f1 n1 => ?_
  simp only [List.map, gops_nil, gops_none, gops_some, kops_ap, kops_no, gop, optK_some, ev, lk, aenv, gyield, thenQ_n, thenQ_r, thenQ_x, blockQ_n, blockQ_r, blockQ_x, retQ_r, retQ_n, gret_0, gret_1, gret_2, gret_3, gret_c, gret_c1, gret_c2, gif_t, gif_f, want_tt, want_ff, want_tf, want_ft, gBin, gInt, gStrOp, gUn, gPick, gNil, gExtract, gIfc, gConvO, gIndexO, gIndexVO, gMakeV, gMinV, gMaxV, gBlt, gCallV, gAllocO_some, vcells, optH_some, Nat.reduceAdd, Nat.reduceSub, Nat.reduceMul, Nat.reduceLT, Nat.reduceLeDiff, Nat.reduceEqDiff, Nat.reduceBEq, reduceIte, Option.map_some, Option.getD_some, Option.some.injEq, List.getElem?_cons_succ, List.getElem?_cons_zero, List.length_cons, List.length_nil, List.cons_append, List.nil_append, List.append_nil, Array.toList_append, List.extract_toArray, List.extract_eq_take_drop, List.drop_succ_cons, List.drop_zero, List.take_succ_cons, List.take_zero, List.set_cons_zero, List.set_cons_succ, Int.cast_ofNat_Int, Int.reduceLT, Int.reduceLE, Int.reduceGT, Int.reduceGE, Int.reduceEq, Int.reduceNe, Int.reduceAdd, Int.reduceSub, Int.reduceMul, Int.reduceNeg, Int.reduceToNat, Int.reduceBEq, Int.reduceBNe, decide_true, decide_false, and_self, ite_true, ite_false, gField, gIndexV, gPart, wrap64, wrapu8, wrapu32, wrapu64, true_and, and_true, Bool.false_eq_true, eq_self_iff_true, Bool.not_true, Bool.not_false, Bool.or_false, Bool.false_or, Bool.true_and, Bool.and_true, Try.underlying23, Try.underlying3, Try.underlying4, eq23, fo23_0, fo23_1, fo23_2, fo23_3, fo23_4, fo23_5, fo23_6, fo23_7, ni23, ni3, ni4, sh23, sz23, sz3, sz4, zr23, zr3, zr4, rs30]
  repeat' first
    | with_reducible refine gw_seq ?_
    | with_reducible refine gw_block ?_
    | ((first
        | with_reducible refine gw_region ?_
        | with_reducible refine gw_if ?_
        | with_reducible refine gw_skip ?_
        | with_reducible refine gw_exit ?_
        | with_reducible refine gw_ret ?_
        | ((with_reducible refine gif_b (fun hb => ?_) (fun hb => ?_)) <;> try simp only [hb])
        | ((with_reducible refine want_t (fun hb => ?_) (fun hb => ?_)) <;> try simp only [hb])
        | ((with_reducible refine want_f (fun hb => ?_) (fun hb => ?_)) <;> try simp only [hb])
        | ((refine GTri.mono (c_may _ _ p) ?_); rintro _ h2 ⟨rfl, s2⟩; have m1 := s2 _ _ m1 ; have s1 := s1.trans s2)) <;> try simp only [List.map, gops_nil, gops_none, gops_some, kops_ap, kops_no, gop, optK_some, ev, lk, aenv, gyield, thenQ_n, thenQ_r, thenQ_x, blockQ_n, blockQ_r, blockQ_x, retQ_r, retQ_n, gret_0, gret_1, gret_2, gret_3, gret_c, gret_c1, gret_c2, gif_t, gif_f, want_tt, want_ff, want_tf, want_ft, gBin, gInt, gStrOp, gUn, gPick, gNil, gExtract, gIfc, gConvO, gIndexO, gIndexVO, gMakeV, gMinV, gMaxV, gBlt, gCallV, gAllocO_some, vcells, optH_some, Nat.reduceAdd, Nat.reduceSub, Nat.reduceMul, Nat.reduceLT, Nat.reduceLeDiff, Nat.reduceEqDiff, Nat.reduceBEq, reduceIte, Option.map_some, Option.getD_some, Option.some.injEq, List.getElem?_cons_succ, List.getElem?_cons_zero, List.length_cons, List.length_nil, List.cons_append, List.nil_append, List.append_nil, Array.toList_append, List.extract_toArray, List.extract_eq_take_drop, List.drop_succ_cons, List.drop_zero, List.take_succ_cons, List.take_zero, List.set_cons_zero, List.set_cons_succ, Int.cast_ofNat_Int, Int.reduceLT, Int.reduceLE, Int.reduceGT, Int.reduceGE, Int.reduceEq, Int.reduceNe, Int.reduceAdd, Int.reduceSub, Int.reduceMul, Int.reduceNeg, Int.reduceToNat, Int.reduceBEq, Int.reduceBNe, decide_true, decide_false, and_self, ite_true, ite_false, gField, gIndexV, gPart, wrap64, wrapu8, wrapu32, wrapu64, true_and, and_true, Bool.false_eq_true, eq_self_iff_true, Bool.not_true, Bool.not_false, Bool.or_false, Bool.false_or, Bool.true_and, Bool.and_true, Try.underlying23, Try.underlying3, Try.underlying4, eq23, fo23_0, fo23_1, fo23_2, fo23_3, fo23_4, fo23_5, fo23_6, fo23_7, ni23, ni3, ni4, sh23, sz23, sz3, sz4, zr23, zr3, zr4, rs30, gload1 m1 sz3, gloadA m1 sz23 rfl])
  all_goals refine ⟨congrArg _ ?_, s1⟩
  · simp only [Bool.not_eq_true'] at hb
    simp [Pm.deep, hb]
  · simp only [Bool.not_eq_false'] at hb
    have := p.may_iff.1 hb
    simp only [Pm.deep, hb, if_true]
    rw [wrap64, wrap64] <;> (try rw [wrap64]) <;> omega
theorem c_rdeep (N : Nat) (h : GH) (p : Pm) : GTri Try.prog N 31 [p.v] h fun v h' => v = .int .i64 p.deep ∧ HS h h' := by
  refine gtri Try.func31 rfl gf31 ok31 (by simp [Try.ntmps31]) ?_
  repeat' first
    | with_reducible refine gw_seq ?_
    | with_reducible refine gw_block ?_
    | ((first
        | with_reducible refine gw_region ?_
        | with_reducible refine gw_if ?_
        | with_reducible refine gw_skip ?_
        | with_reducible refine gw_exit ?_
        | with_reducible refine gw_ret ?_
        | ((with_reducible refine gif_b (fun hb => ?_) (fun hb => ?_)) <;> try simp only [hb])
        | ((with_reducible refine want_t (fun hb => ?_) (fun hb => ?_)) <;> try simp only [hb])
        | ((with_reducible refine want_f (fun hb => ?_) (fun hb => ?_)) <;> try simp only [hb])) <;> try simp only [List.map, gops_nil, gops_none, gops_some, kops_ap, kops_no, gop, optK_some, ev, lk, aenv, gyield, thenQ_n, thenQ_r, thenQ_x, blockQ_n, blockQ_r, blockQ_x, retQ_r, retQ_n, gret_0, gret_1, gret_2, gret_3, gret_c, gret_c1, gret_c2, gif_t, gif_f, want_tt, want_ff, want_tf, want_ft, gBin, gInt, gStrOp, gUn, gPick, gNil, gExtract, gIfc, gConvO, gIndexO, gIndexVO, gMakeV, gMinV, gMaxV, gBlt, gCallV, gAllocO_some, vcells, optH_some, Nat.reduceAdd, Nat.reduceSub, Nat.reduceMul, Nat.reduceLT, Nat.reduceLeDiff, Nat.reduceEqDiff, Nat.reduceBEq, reduceIte, Option.map_some, Option.getD_some, Option.some.injEq, List.getElem?_cons_succ, List.getElem?_cons_zero, List.length_cons, List.length_nil, List.cons_append, List.nil_append, List.append_nil, Array.toList_append, List.extract_toArray, List.extract_eq_take_drop, List.drop_succ_cons, List.drop_zero, List.take_succ_cons, List.take_zero, List.set_cons_zero, List.set_cons_succ, Int.cast_ofNat_Int, Int.reduceLT, Int.reduceLE, Int.reduceGT, Int.reduceGE, Int.reduceEq, Int.reduceNe, Int.reduceAdd, Int.reduceSub, Int.reduceMul, Int.reduceNeg, Int.reduceToNat, Int.reduceBEq, Int.reduceBNe, decide_true, decide_false, and_self, ite_true, ite_false, gField, gIndexV, gPart, wrap64, wrapu8, wrapu32, wrapu64, true_and, and_true, Bool.false_eq_true, eq_self_iff_true, Bool.not_true, Bool.not_false, Bool.or_false, Bool.false_or, Bool.true_and, Bool.and_true, Try.underlying23, Try.underlying3, Try.underlying4, eq23, fo23_0, fo23_1, fo23_2, fo23_3, fo23_4, fo23_5, fo23_6, fo23_7, ni23, ni3, ni4, sh23, sz23, sz3, sz4, zr23, zr3, zr4, rs31, Pm.v])
  refine box_g rfl fun k1 h1 m1 s1 f1 n1 => ?_
  simp only [List.map, gops_nil, gops_none, gops_some, kops_ap, kops_no, gop, optK_some, ev, lk, aenv, gyield, thenQ_n, thenQ_r, thenQ_x, blockQ_n, blockQ_r, blockQ_x, retQ_r, retQ_n, gret_0, gret_1, gret_2, gret_3, gret_c, gret_c1, gret_c2, gif_t, gif_f, want_tt, want_ff, want_tf, want_ft, gBin, gInt, gStrOp, gUn, gPick, gNil, gExtract, gIfc, gConvO, gIndexO, gIndexVO, gMakeV, gMinV, gMaxV, gBlt, gCallV, gAllocO_some, vcells, optH_some, Nat.reduceAdd, Nat.reduceSub, Nat.reduceMul, Nat.reduceLT, Nat.reduceLeDiff, Nat.reduceEqDiff, Nat.reduceBEq, reduceIte, Option.map_some, Option.getD_some, Option.some.injEq, List.getElem?_cons_succ, List.getElem?_cons_zero, List.length_cons, List.length_nil, List.cons_append, List.nil_append, List.append_nil, Array.toList_append, List.extract_toArray, List.extract_eq_take_drop, List.drop_succ_cons, List.drop_zero, List.take_succ_cons, List.take_zero, List.set_cons_zero, List.set_cons_succ, Int.cast_ofNat_Int, Int.reduceLT, Int.reduceLE, Int.reduceGT, Int.reduceGE, Int.reduceEq, Int.reduceNe, Int.reduceAdd, Int.reduceSub, Int.reduceMul, Int.reduceNeg, Int.reduceToNat, Int.reduceBEq, Int.reduceBNe, decide_true, decide_false, and_self, ite_true, ite_false, gField, gIndexV, gPart, wrap64, wrapu8, wrapu32, wrapu64, true_and, and_true, Bool.false_eq_true, eq_self_iff_true, Bool.not_true, Bool.not_false, Bool.or_false, Bool.false_or, Bool.true_and, Bool.and_true, Try.underlying23, Try.underlying3, Try.underlying4, eq23, fo23_0, fo23_1, fo23_2, fo23_3, fo23_4, fo23_5, fo23_6, fo23_7, ni23, ni3, ni4, sh23, sz23, sz3, sz4, zr23, zr3, zr4, rs31]
  repeat' first
    | with_reducible refine gw_seq ?_
    | with_reducible refine gw_block ?_
    | ((first
        | with_reducible refine gw_region ?_
        | with_reducible refine gw_if ?_
        | with_reducible refine gw_skip ?_
        | with_reducible refine gw_exit ?_
        | with_reducible refine gw_ret ?_
        | ((with_reducible refine gif_b (fun hb => ?_) (fun hb => ?_)) <;> try simp only [hb])
        | ((with_reducible refine want_t (fun hb => ?_) (fun hb => ?_)) <;> try simp only [hb])
        | ((with_reducible refine want_f (fun hb => ?_) (fun hb => ?_)) <;> try simp only [hb])
        | ((refine GTri.mono (c_rmay _ _ p) ?_); rintro _ h2 ⟨rfl, s2⟩; have m1 := s2 _ _ m1 ; have s1 := s1.trans s2)) <;> try simp only [List.map, gops_nil, gops_none, gops_some, kops_ap, kops_no, gop, optK_some, ev, lk, aenv, gyield, thenQ_n, thenQ_r, thenQ_x, blockQ_n, blockQ_r, blockQ_x, retQ_r, retQ_n, gret_0, gret_1, gret_2, gret_3, gret_c, gret_c1, gret_c2, gif_t, gif_f, want_tt, want_ff, want_tf, want_ft, gBin, gInt, gStrOp, gUn, gPick, gNil, gExtract, gIfc, gConvO, gIndexO, gIndexVO, gMakeV, gMinV, gMaxV, gBlt, gCallV, gAllocO_some, vcells, optH_some, Nat.reduceAdd, Nat.reduceSub, Nat.reduceMul, Nat.reduceLT, Nat.reduceLeDiff, Nat.reduceEqDiff, Nat.reduceBEq, reduceIte, Option.map_some, Option.getD_some, Option.some.injEq, List.getElem?_cons_succ, List.getElem?_cons_zero, List.length_cons, List.length_nil, List.cons_append, List.nil_append, List.append_nil, Array.toList_append, List.extract_toArray, List.extract_eq_take_drop, List.drop_succ_cons, List.drop_zero, List.take_succ_cons, List.take_zero, List.set_cons_zero, List.set_cons_succ, Int.cast_ofNat_Int, Int.reduceLT, Int.reduceLE, Int.reduceGT, Int.reduceGE, Int.reduceEq, Int.reduceNe, Int.reduceAdd, Int.reduceSub, Int.reduceMul, Int.reduceNeg, Int.reduceToNat, Int.reduceBEq, Int.reduceBNe, decide_true, decide_false, and_self, ite_true, ite_false, gField, gIndexV, gPart, wrap64, wrapu8, wrapu32, wrapu64, true_and, and_true, Bool.false_eq_true, eq_self_iff_true, Bool.not_true, Bool.not_false, Bool.or_false, Bool.false_or, Bool.true_and, Bool.and_true, Try.underlying23, Try.underlying3, Try.underlying4, eq23, fo23_0, fo23_1, fo23_2, fo23_3, fo23_4, fo23_5, fo23_6, fo23_7, ni23, ni3, ni4, sh23, sz23, sz3, sz4, zr23, zr3, zr4, rs31, gload1 m1 sz3, gloadA m1 sz23 rfl])
  all_goals refine ⟨congrArg _ ?_, s1⟩
  · simp only [Bool.not_eq_true'] at hb
    simp [Pm.deep, hb]
  · simp only [Bool.not_eq_false'] at hb
    have := p.may_iff.1 hb
    simp only [Pm.deep, hb, if_true]
    rw [wrap64, wrap64] <;> (try rw [wrap64]) <;> omega
theorem c_each (N : Nat) (h : GH) (p : Pm) : GTri Try.prog N 20 [p.v] h fun v h' => v = .int .i64 p.each ∧ HS h h' := by
  refine gtri Try.func20 rfl gf20 ok20 (by simp [Try.ntmps20]) ?_
  repeat' first
    | with_reducible refine gw_seq ?_
    | with_reducible refine gw_block ?_
    | ((first
        | with_reducible refine gw_region ?_
        | with_reducible refine gw_if ?_
        | with_reducible refine gw_skip ?_
        | with_reducible refine gw_exit ?_
        | with_reducible refine gw_ret ?_
        | ((with_reducible refine gif_b (fun hb => ?_) (fun hb => ?_)) <;> try simp only [hb])
        | ((with_reducible refine want_t (fun hb => ?_) (fun hb => ?_)) <;> try simp only [hb])
        | ((with_reducible refine want_f (fun hb => ?_) (fun hb => ?_)) <;> try simp only [hb])) <;> try simp only [List.map, gops_nil, gops_none, gops_some, kops_ap, kops_no, gop, optK_some, ev, lk, aenv, gyield, thenQ_n, thenQ_r, thenQ_x, blockQ_n, blockQ_r, blockQ_x, retQ_r, retQ_n, gret_0, gret_1, gret_2, gret_3, gret_c, gret_c1, gret_c2, gif_t, gif_f, want_tt, want_ff, want_tf, want_ft, gBin, gInt, gStrOp, gUn, gPick, gNil, gExtract, gIfc, gConvO, gIndexO, gIndexVO, gMakeV, gMinV, gMaxV, gBlt, gCallV, gAllocO_some, vcells, optH_some, Nat.reduceAdd, Nat.reduceSub, Nat.reduceMul, Nat.reduceLT, Nat.reduceLeDiff, Nat.reduceEqDiff, Nat.reduceBEq, reduceIte, Option.map_some, Option.getD_some, Option.some.injEq, List.getElem?_cons_succ, List.getElem?_cons_zero, List.length_cons, List.length_nil, List.cons_append, List.nil_append, List.append_nil, Array.toList_append, List.extract_toArray, List.extract_eq_take_drop, List.drop_succ_cons, List.drop_zero, List.take_succ_cons, List.take_zero, List.set_cons_zero, List.set_cons_succ, Int.cast_ofNat_Int, Int.reduceLT, Int.reduceLE, Int.reduceGT, Int.reduceGE, Int.reduceEq, Int.reduceNe, Int.reduceAdd, Int.reduceSub, Int.reduceMul, Int.reduceNeg, Int.reduceToNat, Int.reduceBEq, Int.reduceBNe, decide_true, decide_false, and_self, ite_true, ite_false, gField, gIndexV, gPart, wrap64, wrapu8, wrapu32, wrapu64, true_and, and_true, Bool.false_eq_true, eq_self_iff_true, Bool.not_true, Bool.not_false, Bool.or_false, Bool.false_or, Bool.true_and, Bool.and_true, Try.underlying23, Try.underlying3, Try.underlying4, eq23, fo23_0, fo23_1, fo23_2, fo23_3, fo23_4, fo23_5, fo23_6, fo23_7, ni23, ni3, ni4, sh23, sz23, sz3, sz4, zr23, zr3, zr4, rs20, Pm.v])
  refine box_g rfl fun k1 h1 m1 s1 f1 n1 => ?_
  simp only [List.map, gops_nil, gops_none, gops_some, kops_ap, kops_no, gop, optK_some, ev, lk, aenv, gyield, thenQ_n, thenQ_r, thenQ_x, blockQ_n, blockQ_r, blockQ_x, retQ_r, retQ_n, gret_0, gret_1, gret_2, gret_3, gret_c, gret_c1, gret_c2, gif_t, gif_f, want_tt, want_ff, want_tf, want_ft, gBin, gInt, gStrOp, gUn, gPick, gNil, gExtract, gIfc, gConvO, gIndexO, gIndexVO, gMakeV, gMinV, gMaxV, gBlt, gCallV, gAllocO_some, vcells, optH_some, Nat.reduceAdd, Nat.reduceSub, Nat.reduceMul, Nat.reduceLT, Nat.reduceLeDiff, Nat.reduceEqDiff, Nat.reduceBEq, reduceIte, Option.map_some, Option.getD_some, Option.some.injEq, List.getElem?_cons_succ, List.getElem?_cons_zero, List.length_cons, List.length_nil, List.cons_append, List.nil_append, List.append_nil, Array.toList_append, List.extract_toArray, List.extract_eq_take_drop, List.drop_succ_cons, List.drop_zero, List.take_succ_cons, List.take_zero, List.set_cons_zero, List.set_cons_succ, Int.cast_ofNat_Int, Int.reduceLT, Int.reduceLE, Int.reduceGT, Int.reduceGE, Int.reduceEq, Int.reduceNe, Int.reduceAdd, Int.reduceSub, Int.reduceMul, Int.reduceNeg, Int.reduceToNat, Int.reduceBEq, Int.reduceBNe, decide_true, decide_false, and_self, ite_true, ite_false, gField, gIndexV, gPart, wrap64, wrapu8, wrapu32, wrapu64, true_and, and_true, Bool.false_eq_true, eq_self_iff_true, Bool.not_true, Bool.not_false, Bool.or_false, Bool.false_or, Bool.true_and, Bool.and_true, Try.underlying23, Try.underlying3, Try.underlying4, eq23, fo23_0, fo23_1, fo23_2, fo23_3, fo23_4, fo23_5, fo23_6, fo23_7, ni23, ni3, ni4, sh23, sz23, sz3, sz4, zr23, zr3, zr4, rs20]
  repeat' first
    | with_reducible refine gw_seq ?_
    | with_reducible refine gw_block ?_
    | ((first
        | with_reducible refine gw_region ?_
        | with_reducible refine gw_if ?_
        | with_reducible refine gw_skip ?_
        | with_reducible refine gw_exit ?_
        | with_reducible refine gw_ret ?_
        | ((with_reducible refine gif_b (fun hb => ?_) (fun hb => ?_)) <;> try simp only [hb])
        | ((with_reducible refine want_t (fun hb => ?_) (fun hb => ?_)) <;> try simp only [hb])
        | ((with_reducible refine want_f (fun hb => ?_) (fun hb => ?_)) <;> try simp only [hb])
        | ((refine GTri.mono (c_may _ _ p) ?_); rintro _ h2 ⟨rfl, s2⟩; have m1 := s2 _ _ m1 ; have s1 := s1.trans s2)
        | ((refine GTri.mono (c_deep _ _ p) ?_); rintro _ h2 ⟨rfl, s2⟩; have m1 := s2 _ _ m1 ; have s1 := s1.trans s2)) <;> try simp only [List.map, gops_nil, gops_none, gops_some, kops_ap, kops_no, gop, optK_some, ev, lk, aenv, gyield, thenQ_n, thenQ_r, thenQ_x, blockQ_n, blockQ_r, blockQ_x, retQ_r, retQ_n, gret_0, gret_1, gret_2, gret_3, gret_c, gret_c1, gret_c2, gif_t, gif_f, want_tt, want_ff, want_tf, want_ft, gBin, gInt, gStrOp, gUn, gPick, gNil, gExtract, gIfc, gConvO, gIndexO, gIndexVO, gMakeV, gMinV, gMaxV, gBlt, gCallV, gAllocO_some, vcells, optH_some, Nat.reduceAdd, Nat.reduceSub, Nat.reduceMul, Nat.reduceLT, Nat.reduceLeDiff, Nat.reduceEqDiff, Nat.reduceBEq, reduceIte, Option.map_some, Option.getD_some, Option.some.injEq, List.getElem?_cons_succ, List.getElem?_cons_zero, List.length_cons, List.length_nil, List.cons_append, List.nil_append, List.append_nil, Array.toList_append, List.extract_toArray, List.extract_eq_take_drop, List.drop_succ_cons, List.drop_zero, List.take_succ_cons, List.take_zero, List.set_cons_zero, List.set_cons_succ, Int.cast_ofNat_Int, Int.reduceLT, Int.reduceLE, Int.reduceGT, Int.reduceGE, Int.reduceEq, Int.reduceNe, Int.reduceAdd, Int.reduceSub, Int.reduceMul, Int.reduceNeg, Int.reduceToNat, Int.reduceBEq, Int.reduceBNe, decide_true, decide_false, and_self, ite_true, ite_false, gField, gIndexV, gPart, wrap64, wrapu8, wrapu32, wrapu64, true_and, and_true, Bool.false_eq_true, eq_self_iff_true, Bool.not_true, Bool.not_false, Bool.or_false, Bool.false_or, Bool.true_and, Bool.and_true, Try.underlying23, Try.underlying3, Try.underlying4, eq23, fo23_0, fo23_1, fo23_2, fo23_3, fo23_4, fo23_5, fo23_6, fo23_7, ni23, ni3, ni4, sh23, sz23, sz3, sz4, zr23, zr3, zr4, rs20, gload1 m1 sz3, gloadA m1 sz23 rfl])
  all_goals refine ⟨congrArg _ ?_, s1⟩
  · simp only [Bool.not_eq_true'] at hb
    simp [Pm.each, hb]
  · simp only [Bool.not_eq_false'] at hb
    have := p.may_iff.1 hb
    simp only [Pm.each, Pm.deep, hb, if_true]
    rw [wrap64] <;> omega
theorem c_reach (N : Nat) (h : GH) (p : Pm) : GTri Try.prog N 32 [p.v] h fun v h' => v = .int .i64 p.each ∧ HS h h' := by
  refine gtri Try.func32 rfl gf32 ok32 (by simp [Try.ntmps32]) ?_
  repeat' first
    | with_reducible refine gw_seq ?_
    | with_reducible refine gw_block ?_
    | ((first
        | with_reducible refine gw_region ?_
        | with_reducible refine gw_if ?_
        | with_reducible refine gw_skip ?_
        | with_reducible refine gw_exit ?_
        | with_reducible refine gw_ret ?_
        | ((with_reducible refine gif_b (fun hb => ?_) (fun hb => ?_)) <;> try simp only [hb])
        | ((with_reducible refine want_t (fun hb => ?_) (fun hb => ?_)) <;> try simp only [hb])
        | ((with_reducible refine want_f (fun hb => ?_) (fun hb => ?_)) <;> try simp only [hb])) <;> try simp only [List.map, gops_nil, gops_none, gops_some, kops_ap, kops_no, gop, optK_some, ev, lk, aenv, gyield, thenQ_n, thenQ_r, thenQ_x, blockQ_n, blockQ_r, blockQ_x, retQ_r, retQ_n, gret_0, gret_1, gret_2, gret_3, gret_c, gret_c1, gret_c2, gif_t, gif_f, want_tt, want_ff, want_tf, want_ft, gBin, gInt, gStrOp, gUn, gPick, gNil, gExtract, gIfc, gConvO, gIndexO, gIndexVO, gMakeV, gMinV, gMaxV, gBlt, gCallV, gAllocO_some, vcells, optH_some, Nat.reduceAdd, Nat.reduceSub, Nat.reduceMul, Nat.reduceLT, Nat.reduceLeDiff, Nat.reduceEqDiff, Nat.reduceBEq, reduceIte, Option.map_some, Option.getD_some, Option.some.injEq, List.getElem?_cons_succ, List.getElem?_cons_zero, List.length_cons, List.length_nil, List.cons_append, List.nil_append, List.append_nil, Array.toList_append, List.extract_toArray, List.extract_eq_take_drop, List.drop_succ_cons, List.drop_zero, List.take_succ_cons, List.take_zero, List.set_cons_zero, List.set_cons_succ, Int.cast_ofNat_Int, Int.reduceLT, Int.reduceLE, Int.reduceGT, Int.reduceGE, Int.reduceEq, Int.reduceNe, Int.reduceAdd, Int.reduceSub, Int.reduceMul, Int.reduceNeg, Int.reduceToNat, Int.reduceBEq, Int.reduceBNe, decide_true, decide_false, and_self, ite_true, ite_false, gField, gIndexV, gPart, wrap64, wrapu8, wrapu32, wrapu64, true_and, and_true, Bool.false_eq_true, eq_self_iff_true, Bool.not_true, Bool.not_false, Bool.or_false, Bool.false_or, Bool.true_and, Bool.and_true, Try.underlying23, Try.underlying3, Try.underlying4, eq23, fo23_0, fo23_1, fo23_2, fo23_3, fo23_4, fo23_5, fo23_6, fo23_7, ni23, ni3, ni4, sh23, sz23, sz3, sz4, zr23, zr3, zr4, rs32, Pm.v])
  refine box_g rfl fun k1 h1 m1 s1 f1 n1 => ?_
  simp only [List.map, gops_nil, gops_none, gops_some, kops_ap, kops_no, gop, optK_some, ev, lk, aenv, gyield, thenQ_n, thenQ_r, thenQ_x, blockQ_n, blockQ_r, blockQ_x, retQ_r, retQ_n, gret_0, gret_1, gret_2, gret_3, gret_c, gret_c1, gret_c2, gif_t, gif_f, want_tt, want_ff, want_tf, want_ft, gBin, gInt, gStrOp, gUn, gPick, gNil, gExtract, gIfc, gConvO, gIndexO, gIndexVO, gMakeV, gMinV, gMaxV, gBlt, gCallV, gAllocO_some, vcells, optH_some, Nat.reduceAdd, Nat.reduceSub, Nat.reduceMul, Nat.reduceLT, Nat.reduceLeDiff, Nat.reduceEqDiff, Nat.reduceBEq, reduceIte, Option.map_some, Option.getD_some, Option.some.injEq, List.getElem?_cons_succ, List.getElem?_cons_zero, List.length_cons, List.length_nil, List.cons_append, List.nil_append, List.append_nil, Array.toList_append, List.extract_toArray, List.extract_eq_take_drop, List.drop_succ_cons, List.drop_zero, List.take_succ_cons, List.take_zero, List.set_cons_zero, List.set_cons_succ, Int.cast_ofNat_Int, Int.reduceLT, Int.reduceLE, Int.reduceGT, Int.reduceGE, Int.reduceEq, Int.reduceNe, Int.reduceAdd, Int.reduceSub, Int.reduceMul, Int.reduceNeg, Int.reduceToNat, Int.reduceBEq, Int.reduceBNe, decide_true, decide_false, and_self, ite_true, ite_false, gField, gIndexV, gPart, wrap64, wrapu8, wrapu32, wrapu64, true_and, and_true, Bool.false_eq_true, eq_self_iff_true, Bool.not_true, Bool.not_false, Bool.or_false, Bool.false_or, Bool.true_and, Bool.and_true, Try.underlying23, Try.underlying3, Try.underlying4, eq23, fo23_0, fo23_1, fo23_2, fo23_3, fo23_4, fo23_5, fo23_6, fo23_7, ni23, ni3, ni4, sh23, sz23, sz3, sz4, zr23, zr3, zr4, rs32]
  repeat' first
    | with_reducible refine gw_seq ?_
    | with_reducible refine gw_block ?_
    | ((first
        | with_reducible refine gw_region ?_
        | with_reducible refine gw_if ?_
        | with_reducible refine gw_skip ?_
        | with_reducible refine gw_exit ?_
        | with_reducible refine gw_ret ?_
        | ((with_reducible refine gif_b (fun hb => ?_) (fun hb => ?_)) <;> try simp only [hb])
        | ((with_reducible refine want_t (fun hb => ?_) (fun hb => ?_)) <;> try simp only [hb])
        | ((with_reducible refine want_f (fun hb => ?_) (fun hb => ?_)) <;> try simp only [hb])
        | ((refine GTri.mono (c_rmay _ _ p) ?_); rintro _ h2 ⟨rfl, s2⟩; have m1 := s2 _ _ m1 ; have s1 := s1.trans s2)
        | ((refine GTri.mono (c_rdeep _ _ p) ?_); rintro _ h2 ⟨rfl, s2⟩; have m1 := s2 _ _ m1 ; have s1 := s1.trans s2)) <;> try simp only [List.map, gops_nil, gops_none, gops_some, kops_ap, kops_no, gop, optK_some, ev, lk, aenv, gyield, thenQ_n, thenQ_r, thenQ_x, blockQ_n, blockQ_r, blockQ_x, retQ_r, retQ_n, gret_0, gret_1, gret_2, gret_3, gret_c, gret_c1, gret_c2, gif_t, gif_f, want_tt, want_ff, want_tf, want_ft, gBin, gInt, gStrOp, gUn, gPick, gNil, gExtract, gIfc, gConvO, gIndexO, gIndexVO, gMakeV, gMinV, gMaxV, gBlt, gCallV, gAllocO_some, vcells, optH_some, Nat.reduceAdd, Nat.reduceSub, Nat.reduceMul, Nat.reduceLT, Nat.reduceLeDiff, Nat.reduceEqDiff, Nat.reduceBEq, reduceIte, Option.map_some, Option.getD_some, Option.some.injEq, List.getElem?_cons_succ, List.getElem?_cons_zero, List.length_cons, List.length_nil, List.cons_append, List.nil_append, List.append_nil, Array.toList_append, List.extract_toArray, List.extract_eq_take_drop, List.drop_succ_cons, List.drop_zero, List.take_succ_cons, List.take_zero, List.set_cons_zero, List.set_cons_succ, Int.cast_ofNat_Int, Int.reduceLT, Int.reduceLE, Int.reduceGT, Int.reduceGE, Int.reduceEq, Int.reduceNe, Int.reduceAdd, Int.reduceSub, Int.reduceMul, Int.reduceNeg, Int.reduceToNat, Int.reduceBEq, Int.reduceBNe, decide_true, decide_false, and_self, ite_true, ite_false, gField, gIndexV, gPart, wrap64, wrapu8, wrapu32, wrapu64, true_and, and_true, Bool.false_eq_true, eq_self_iff_true, Bool.not_true, Bool.not_false, Bool.or_false, Bool.false_or, Bool.true_and, Bool.and_true, Try.underlying23, Try.underlying3, Try.underlying4, eq23, fo23_0, fo23_1, fo23_2, fo23_3, fo23_4, fo23_5, fo23_6, fo23_7, ni23, ni3, ni4, sh23, sz23, sz3, sz4, zr23, zr3, zr4, rs32, gload1 m1 sz3, gloadA m1 sz23 rfl])
  all_goals refine ⟨congrArg _ ?_, s1⟩
  · simp only [Bool.not_eq_true'] at hb
    simp [Pm.each, hb]
  · simp only [Bool.not_eq_false'] at hb
    have := p.may_iff.1 hb
    simp only [Pm.each, Pm.deep, hb, if_true]
    rw [wrap64] <;> omega
theorem Pm.each_range (p : Pm) : 0 ≤ p.each ∧ p.each ≤ 202 := by
  unfold Pm.each Pm.deep
  by_cases hb : p.may = true
  · have := p.may_iff.1 hb
    simp only [hb, if_true]
    omega
  · simp [hb]
theorem Pm.need_eq (p : Pm) (hb : p.may = true) : IntKind.i64.wrap (IntKind.i64.wrap (IntKind.i64.wrap (IntKind.i64.wrap (2 + p.ca) * p.ch) * p.each) + 1) = p.need := by
  have := p.may_iff.1 hb
  have h1 := mul_range (a := 2 + p.ca) (b := p.ch) (A := 10) (B := 4096) (by omega) (by omega)
  have h2 := mul_range (a := (2 + p.ca) * p.ch) (b := p.each) (A := 40960) (B := 202) (by omega) p.each_range
  rw [wrap64 (x := 2 + p.ca) (by omega) (by omega), wrap64 (x := (2 + p.ca) * p.ch) (by omega) (by omega), wrap64 (x := (2 + p.ca) * p.ch * p.each) (by omega) (by omega), wrap64 (by omega) (by omega)]
  simp [Pm.need, hb]
theorem c_need (N : Nat) (h : GH) (p : Pm) : GTri Try.prog N 33 [p.v] h fun v h' => v = .int .i64 p.need ∧ HS h h' := by
  refine gtri Try.func33 rfl gf33 ok33 (by simp [Try.ntmps33]) ?_
  repeat' first
    | with_reducible refine gw_seq ?_
    | with_reducible refine gw_block ?_
    | ((first
        | with_reducible refine gw_region ?_
        | with_reducible refine gw_if ?_
        | with_reducible refine gw_skip ?_
        | with_reducible refine gw_exit ?_
        | with_reducible refine gw_ret ?_
        | ((with_reducible refine gif_b (fun hb => ?_) (fun hb => ?_)) <;> try simp only [hb])
        | ((with_reducible refine want_t (fun hb => ?_) (fun hb => ?_)) <;> try simp only [hb])
        | ((with_reducible refine want_f (fun hb => ?_) (fun hb => ?_)) <;> try simp only [hb])
        | with_reducible refine gw_draw [(0, []), (1, []), (2, []), (3, []), (4, []), (5, [2]), (6, []), (7, []), (8, [])] [0, 0, 2, 7, 0, 16, 63, 127, 255] mixed (by kernel_rfl) ?_
        | ((with_reducible refine dr_t (fun hb => ?_) (fun hb => ?_)) <;> try simp only [hb])
        | ((with_reducible refine dr_f (fun hb => ?_) (fun hb => ?_)) <;> try simp only [hb])) <;> try simp only [List.map, gops_nil, gops_none, gops_some, kops_ap, kops_no, gop, optK_some, ev, lk, aenv, gyield, thenQ_n, thenQ_r, thenQ_x, blockQ_n, blockQ_r, blockQ_x, retQ_r, retQ_n, gret_0, gret_1, gret_2, gret_3, gret_c, gret_c1, gret_c2, gif_t, gif_f, want_tt, want_ff, want_tf, want_ft, gBin, gInt, gStrOp, gUn, gPick, gNil, gExtract, gIfc, gConvO, gIndexO, gIndexVO, gMakeV, gMinV, gMaxV, gBlt, gCallV, gAllocO_some, vcells, optH_some, Nat.reduceAdd, Nat.reduceSub, Nat.reduceMul, Nat.reduceLT, Nat.reduceLeDiff, Nat.reduceEqDiff, Nat.reduceBEq, reduceIte, Option.map_some, Option.getD_some, Option.some.injEq, List.getElem?_cons_succ, List.getElem?_cons_zero, List.length_cons, List.length_nil, List.cons_append, List.nil_append, List.append_nil, Array.toList_append, List.extract_toArray, List.extract_eq_take_drop, List.drop_succ_cons, List.drop_zero, List.take_succ_cons, List.take_zero, List.set_cons_zero, List.set_cons_succ, Int.cast_ofNat_Int, Int.reduceLT, Int.reduceLE, Int.reduceGT, Int.reduceGE, Int.reduceEq, Int.reduceNe, Int.reduceAdd, Int.reduceSub, Int.reduceMul, Int.reduceNeg, Int.reduceToNat, Int.reduceBEq, Int.reduceBNe, decide_true, decide_false, and_self, ite_true, ite_false, gField, gIndexV, gPart, wrap64, wrapu8, wrapu32, wrapu64, true_and, and_true, Bool.false_eq_true, eq_self_iff_true, Bool.not_true, Bool.not_false, Bool.or_false, Bool.false_or, Bool.true_and, Bool.and_true, gdr_nil, gdr_none, gdr_some, gdrO_t, gdrO_f, gdrW_tt, gdrW_ff, gdrW_tf, gdrW_ft, eput_s, eput_n, kdrF_ap, kdrE_ap, wput_n, wput_s, chk_n, chk_c, chk1_n, chk1_s, rvOf, wlk, rdv, isEff, dsOf, sgl, List.getElem?_toArray, Try.underlying23, Try.underlying3, Try.underlying4, eq23, fo23_0, fo23_1, fo23_2, fo23_3, fo23_4, fo23_5, fo23_6, fo23_7, ni23, ni3, ni4, sh23, sz23, sz3, sz4, zr23, zr3, zr4, rs33, Pm.v])
  refine box_g rfl fun k1 h1 m1 s1 f1 n1 => ?_
  simp only [List.map, gops_nil, gops_none, gops_some, kops_ap, kops_no, gop, optK_some, ev, lk, aenv, gyield, thenQ_n, thenQ_r, thenQ_x, blockQ_n, blockQ_r, blockQ_x, retQ_r, retQ_n, gret_0, gret_1, gret_2, gret_3, gret_c, gret_c1, gret_c2, gif_t, gif_f, want_tt, want_ff, want_tf, want_ft, gBin, gInt, gStrOp, gUn, gPick, gNil, gExtract, gIfc, gConvO, gIndexO, gIndexVO, gMakeV, gMinV, gMaxV, gBlt, gCallV, gAllocO_some, vcells, optH_some, Nat.reduceAdd, Nat.reduceSub, Nat.reduceMul, Nat.reduceLT, Nat.reduceLeDiff, Nat.reduceEqDiff, Nat.reduceBEq, reduceIte, Option.map_some, Option.getD_some, Option.some.injEq, List.getElem?_cons_succ, List.getElem?_cons_zero, List.length_cons, List.length_nil, List.cons_append, List.nil_append, List.append_nil, Array.toList_append, List.extract_toArray, List.extract_eq_take_drop, List.drop_succ_cons, List.drop_zero, List.take_succ_cons, List.take_zero, List.set_cons_zero, List.set_cons_succ, Int.cast_ofNat_Int, Int.reduceLT, Int.reduceLE, Int.reduceGT, Int.reduceGE, Int.reduceEq, Int.reduceNe, Int.reduceAdd, Int.reduceSub, Int.reduceMul, Int.reduceNeg, Int.reduceToNat, Int.reduceBEq, Int.reduceBNe, decide_true, decide_false, and_self, ite_true, ite_false, gField, gIndexV, gPart, wrap64, wrapu8, wrapu32, wrapu64, true_and, and_true, Bool.false_eq_true, eq_self_iff_true, Bool.not_true, Bool.not_false, Bool.or_false, Bool.false_or, Bool.true_and, Bool.and_true, Try.underlying23, Try.underlying3, Try.underlying4, eq23, fo23_0, fo23_1, fo23_2, fo23_3, fo23_4, fo23_5, fo23_6, fo23_7, ni23, ni3, ni4, sh23, sz23, sz3, sz4, zr23, zr3, zr4, rs33]
  repeat' first
    | with_reducible refine gw_seq ?_
    | with_reducible refine gw_block ?_
    | ((first
        | with_reducible refine gw_region ?_
        | with_reducible refine gw_if ?_
        | with_reducible refine gw_skip ?_
        | with_reducible refine gw_exit ?_
        | with_reducible refine gw_ret ?_
        | ((with_reducible refine gif_b (fun hb => ?_) (fun hb => ?_)) <;> try simp only [hb])
        | ((with_reducible refine want_t (fun hb => ?_) (fun hb => ?_)) <;> try simp only [hb])
        | ((with_reducible refine want_f (fun hb => ?_) (fun hb => ?_)) <;> try simp only [hb])
        | with_reducible refine gw_draw [(0, []), (1, []), (2, []), (3, []), (4, []), (5, [2]), (6, []), (7, []), (8, [])] [0, 0, 2, 7, 0, 16, 63, 127, 255] mixed (by kernel_rfl) ?_
        | ((with_reducible refine dr_t (fun hb => ?_) (fun hb => ?_)) <;> try simp only [hb])
        | ((with_reducible refine dr_f (fun hb => ?_) (fun hb => ?_)) <;> try simp only [hb])
        | ((refine GTri.mono (c_may _ _ p) ?_); rintro _ h2 ⟨rfl, s2⟩; have m1 := s2 _ _ m1 ; have s1 := s1.trans s2)
        | ((refine GTri.mono (c_each _ _ p) ?_); rintro _ h2 ⟨rfl, s2⟩; have m1 := s2 _ _ m1 ; have s1 := s1.trans s2)) <;> try simp only [List.map, gops_nil, gops_none, gops_some, kops_ap, kops_no, gop, optK_some, ev, lk, aenv, gyield, thenQ_n, thenQ_r, thenQ_x, blockQ_n, blockQ_r, blockQ_x, retQ_r, retQ_n, gret_0, gret_1, gret_2, gret_3, gret_c, gret_c1, gret_c2, gif_t, gif_f, want_tt, want_ff, want_tf, want_ft, gBin, gInt, gStrOp, gUn, gPick, gNil, gExtract, gIfc, gConvO, gIndexO, gIndexVO, gMakeV, gMinV, gMaxV, gBlt, gCallV, gAllocO_some, vcells, optH_some, Nat.reduceAdd, Nat.reduceSub, Nat.reduceMul, Nat.reduceLT, Nat.reduceLeDiff, Nat.reduceEqDiff, Nat.reduceBEq, reduceIte, Option.map_some, Option.getD_some, Option.some.injEq, List.getElem?_cons_succ, List.getElem?_cons_zero, List.length_cons, List.length_nil, List.cons_append, List.nil_append, List.append_nil, Array.toList_append, List.extract_toArray, List.extract_eq_take_drop, List.drop_succ_cons, List.drop_zero, List.take_succ_cons, List.take_zero, List.set_cons_zero, List.set_cons_succ, Int.cast_ofNat_Int, Int.reduceLT, Int.reduceLE, Int.reduceGT, Int.reduceGE, Int.reduceEq, Int.reduceNe, Int.reduceAdd, Int.reduceSub, Int.reduceMul, Int.reduceNeg, Int.reduceToNat, Int.reduceBEq, Int.reduceBNe, decide_true, decide_false, and_self, ite_true, ite_false, gField, gIndexV, gPart, wrap64, wrapu8, wrapu32, wrapu64, true_and, and_true, Bool.false_eq_true, eq_self_iff_true, Bool.not_true, Bool.not_false, Bool.or_false, Bool.false_or, Bool.true_and, Bool.and_true, gdr_nil, gdr_none, gdr_some, gdrO_t, gdrO_f, gdrW_tt, gdrW_ff, gdrW_tf, gdrW_ft, eput_s, eput_n, kdrF_ap, kdrE_ap, wput_n, wput_s, chk_n, chk_c, chk1_n, chk1_s, rvOf, wlk, rdv, isEff, dsOf, sgl, List.getElem?_toArray, Try.underlying23, Try.underlying3, Try.underlying4, eq23, fo23_0, fo23_1, fo23_2, fo23_3, fo23_4, fo23_5, fo23_6, fo23_7, ni23, ni3, ni4, sh23, sz23, sz3, sz4, zr23, zr3, zr4, rs33, gload1 m1 sz3, gloadA m1 sz23 rfl])
  all_goals refine ⟨congrArg _ ?_, s1⟩
  · simp only [Bool.not_eq_true'] at hb
    simp [Pm.need, hb]
  · simp only [Bool.not_eq_false'] at hb
    exact p.need_eq hb
theorem c_rneed (N : Nat) (h : GH) (p : Pm) : GTri Try.prog N 34 [p.v] h fun v h' => v = .int .i64 p.need ∧ HS h h' := by
  refine gtri Try.func34 rfl gf34 ok34 (by simp [Try.ntmps34]) ?_
  repeat' first
    | with_reducible refine gw_seq ?_
    | with_reducible refine gw_block ?_
    | ((first
        | with_reducible refine gw_region ?_
        | with_reducible refine gw_if ?_
        | with_reducible refine gw_skip ?_
        | with_reducible refine gw_exit ?_
        | with_reducible refine gw_ret ?_
        | ((with_reducible refine gif_b (fun hb => ?_) (fun hb => ?_)) <;> try simp only [hb])
        | ((with_reducible refine want_t (fun hb => ?_) (fun hb => ?_)) <;> try simp only [hb])
        | ((with_reducible refine want_f (fun hb => ?_) (fun hb => ?_)) <;> try simp only [hb])
        | with_reducible refine gw_draw [(0, []), (1, []), (2, []), (3, []), (4, []), (5, []), (6, []), (7, [1, 4]), (8, []), (9, []), (10, [])] [0, 1, 3, 0, 8, 31, 0, 64, 255, 511, 1023] mixed (by kernel_rfl) ?_
        | ((with_reducible refine dr_t (fun hb => ?_) (fun hb => ?_)) <;> try simp only [hb])
        | ((with_reducible refine dr_f (fun hb => ?_) (fun hb => ?_)) <;> try simp only [hb])) <;> try simp only [List.map, gops_nil, gops_none, gops_some, kops_ap, kops_no, gop, optK_some, ev, lk, aenv, gyield, thenQ_n, thenQ_r, thenQ_x, blockQ_n, blockQ_r, blockQ_x, retQ_r, retQ_n, gret_0, gret_1, gret_2, gret_3, gret_c, gret_c1, gret_c2, gif_t, gif_f, want_tt, want_ff, want_tf, want_ft, gBin, gInt, gStrOp, gUn, gPick, gNil, gExtract, gIfc, gConvO, gIndexO, gIndexVO, gMakeV, gMinV, gMaxV, gBlt, gCallV, gAllocO_some, vcells, optH_some, Nat.reduceAdd, Nat.reduceSub, Nat.reduceMul, Nat.reduceLT, Nat.reduceLeDiff, Nat.reduceEqDiff, Nat.reduceBEq, reduceIte, Option.map_some, Option.getD_some, Option.some.injEq, List.getElem?_cons_succ, List.getElem?_cons_zero, List.length_cons, List.length_nil, List.cons_append, List.nil_append, List.append_nil, Array.toList_append, List.extract_toArray, List.extract_eq_take_drop, List.drop_succ_cons, List.drop_zero, List.take_succ_cons, List.take_zero, List.set_cons_zero, List.set_cons_succ, Int.cast_ofNat_Int, Int.reduceLT, Int.reduceLE, Int.reduceGT, Int.reduceGE, Int.reduceEq, Int.reduceNe, Int.reduceAdd, Int.reduceSub, Int.reduceMul, Int.reduceNeg, Int.reduceToNat, Int.reduceBEq, Int.reduceBNe, decide_true, decide_false, and_self, ite_true, ite_false, gField, gIndexV, gPart, wrap64, wrapu8, wrapu32, wrapu64, true_and, and_true, Bool.false_eq_true, eq_self_iff_true, Bool.not_true, Bool.not_false, Bool.or_false, Bool.false_or, Bool.true_and, Bool.and_true, gdr_nil, gdr_none, gdr_some, gdrO_t, gdrO_f, gdrW_tt, gdrW_ff, gdrW_tf, gdrW_ft, eput_s, eput_n, kdrF_ap, kdrE_ap, wput_n, wput_s, chk_n, chk_c, chk1_n, chk1_s, rvOf, wlk, rdv, isEff, dsOf, sgl, List.getElem?_toArray, Try.underlying23, Try.underlying3, Try.underlying4, eq23, fo23_0, fo23_1, fo23_2, fo23_3, fo23_4, fo23_5, fo23_6, fo23_7, ni23, ni3, ni4, sh23, sz23, sz3, sz4, zr23, zr3, zr4, rs34, Pm.v])
  refine box_g rfl fun k1 h1 m1 s1 f1 n1 => ?_
  simp only [List.map, gops_nil, gops_none, gops_some, kops_ap, kops_no, gop, optK_some, ev, lk, aenv, gyield, thenQ_n, thenQ_r, thenQ_x, blockQ_n, blockQ_r, blockQ_x, retQ_r, retQ_n, gret_0, gret_1, gret_2, gret_3, gret_c, gret_c1, gret_c2, gif_t, gif_f, want_tt, want_ff, want_tf, want_ft, gBin, gInt, gStrOp, gUn, gPick, gNil, gExtract, gIfc, gConvO, gIndexO, gIndexVO, gMakeV, gMinV, gMaxV, gBlt, gCallV, gAllocO_some, vcells, optH_some, Nat.reduceAdd, Nat.reduceSub, Nat.reduceMul, Nat.reduceLT, Nat.reduceLeDiff, Nat.reduceEqDiff, Nat.reduceBEq, reduceIte, Option.map_some, Option.getD_some, Option.some.injEq, List.getElem?_cons_succ, List.getElem?_cons_zero, List.length_cons, List.length_nil, List.cons_append, List.nil_append, List.append_nil, Array.toList_append, List.extract_toArray, List.extract_eq_take_drop, List.drop_succ_cons, List.drop_zero, List.take_succ_cons, List.take_zero, List.set_cons_zero, List.set_cons_succ, Int.cast_ofNat_Int, Int.reduceLT, Int.reduceLE, Int.reduceGT, Int.reduceGE, Int.reduceEq, Int.reduceNe, Int.reduceAdd, Int.reduceSub, Int.reduceMul, Int.reduceNeg, Int.reduceToNat, Int.reduceBEq, Int.reduceBNe, decide_true, decide_false, and_self, ite_true, ite_false, gField, gIndexV, gPart, wrap64, wrapu8, wrapu32, wrapu64, true_and, and_true, Bool.false_eq_true, eq_self_iff_true, Bool.not_true, Bool.not_false, Bool.or_false, Bool.false_or, Bool.true_and, Bool.and_true, Try.underlying23, Try.underlying3, Try.underlying4, eq23, fo23_0, fo23_1, fo23_2, fo23_3, fo23_4, fo23_5, fo23_6, fo23_7, ni23, ni3, ni4, sh23, sz23, sz3, sz4, zr23, zr3, zr4, rs34]
  repeat' first
    | with_reducible refine gw_seq ?_
    | with_reducible refine gw_block ?_
    | ((first
        | with_reducible refine gw_region ?_
        | with_reducible refine gw_if ?_
        | with_reducible refine gw_skip ?_
        | with_reducible refine gw_exit ?_
        | with_reducible refine gw_ret ?_
        | ((with_reducible refine gif_b (fun hb => ?_) (fun hb => ?_)) <;> try simp only [hb])
        | ((with_reducible refine want_t (fun hb => ?_) (fun hb => ?_)) <;> try simp only [hb])
        | ((with_reducible refine want_f (fun hb => ?_) (fun hb => ?_)) <;> try simp only [hb])
        | with_reducible refine gw_draw [(0, []), (1, []), (2, []), (3, []), (4, []), (5, []), (6, []), (7, [1, 4]), (8, []), (9, []), (10, [])] [0, 1, 3, 0, 8, 31, 0, 64, 255, 511, 1023] mixed (by kernel_rfl) ?_
        | ((with_reducible refine dr_t (fun hb => ?_) (fun hb => ?_)) <;> try simp only [hb])
        | ((with_reducible refine dr_f (fun hb => ?_) (fun hb => ?_)) <;> try simp only [hb])
        | ((refine GTri.mono (c_rmay _ _ p) ?_); rintro _ h2 ⟨rfl, s2⟩; have m1 := s2 _ _ m1 ; have s1 := s1.trans s2)
        | ((refine GTri.mono (c_reach _ _ p) ?_); rintro _ h2 ⟨rfl, s2⟩; have m1 := s2 _ _ m1 ; have s1 := s1.trans s2)) <;> try simp only [List.map, gops_nil, gops_none, gops_some, kops_ap, kops_no, gop, optK_some, ev, lk, aenv, gyield, thenQ_n, thenQ_r, thenQ_x, blockQ_n, blockQ_r, blockQ_x, retQ_r, retQ_n, gret_0, gret_1, gret_2, gret_3, gret_c, gret_c1, gret_c2, gif_t, gif_f, want_tt, want_ff, want_tf, want_ft, gBin, gInt, gStrOp, gUn, gPick, gNil, gExtract, gIfc, gConvO, gIndexO, gIndexVO, gMakeV, gMinV, gMaxV, gBlt, gCallV, gAllocO_some, vcells, optH_some, Nat.reduceAdd, Nat.reduceSub, Nat.reduceMul, Nat.reduceLT, Nat.reduceLeDiff, Nat.reduceEqDiff, Nat.reduceBEq, reduceIte, Option.map_some, Option.getD_some, Option.some.injEq, List.getElem?_cons_succ, List.getElem?_cons_zero, List.length_cons, List.length_nil, List.cons_append, List.nil_append, List.append_nil, Array.toList_append, List.extract_toArray, List.extract_eq_take_drop, List.drop_succ_cons, List.drop_zero, List.take_succ_cons, List.take_zero, List.set_cons_zero, List.set_cons_succ, Int.cast_ofNat_Int, Int.reduceLT, Int.reduceLE, Int.reduceGT, Int.reduceGE, Int.reduceEq, Int.reduceNe, Int.reduceAdd, Int.reduceSub, Int.reduceMul, Int.reduceNeg, Int.reduceToNat, Int.reduceBEq, Int.reduceBNe, decide_true, decide_false, and_self, ite_true, ite_false, gField, gIndexV, gPart, wrap64, wrapu8, wrapu32, wrapu64, true_and, and_true, Bool.false_eq_true, eq_self_iff_true, Bool.not_true, Bool.not_false, Bool.or_false, Bool.false_or, Bool.true_and, Bool.and_true, gdr_nil, gdr_none, gdr_some, gdrO_t, gdrO_f, gdrW_tt, gdrW_ff, gdrW_tf, gdrW_ft, eput_s, eput_n, kdrF_ap, kdrE_ap, wput_n, wput_s, chk_n, chk_c, chk1_n, chk1_s, rvOf, wlk, rdv, isEff, dsOf, sgl, List.getElem?_toArray, Try.underlying23, Try.underlying3, Try.underlying4, eq23, fo23_0, fo23_1, fo23_2, fo23_3, fo23_4, fo23_5, fo23_6, fo23_7, ni23, ni3, ni4, sh23, sz23, sz3, sz4, zr23, zr3, zr4, rs34, gload1 m1 sz3, gloadA m1 sz23 rfl])
  all_goals refine ⟨congrArg _ ?_, s1⟩
  · simp only [Bool.not_eq_true'] at hb
    simp [Pm.need, hb]
  · simp only [Bool.not_eq_false'] at hb
    exact p.need_eq hb

def Pm.check (p : Pm) : Int := if p.may = false ∨ p.ar < 1 ∨ p.ar > 4194304 then 1 else if p.ar < p.need then 4 else 0
def Pm.secs (p : Pm) : Int := if p.may = true then 5 + p.ch * (Int.tdiv (91 + p.mi + p.my) 64 + 1) else 0
def Pm.eps (p : Pm) : Int := if p.may = true then IntKind.i64.wrap (1 * 2 ^ min p.ht.toNat IntKind.i64.bits) else 0
theorem Pm.secs_eq (p : Pm) (hb : p.may = true) : IntKind.i64.wrap (5 + IntKind.i64.wrap (p.ch * IntKind.i64.wrap (IntKind.i64.wrap (Int.tdiv (IntKind.i64.wrap (IntKind.i64.wrap (IntKind.i64.wrap (IntKind.i64.wrap (28 + p.mi) + p.my) + 64) - 1)) 64) + 1))) = p.secs ∧
    IntKind.i64.wrap (5 + IntKind.i64.wrap (p.ch * IntKind.i64.wrap (IntKind.i64.wrap (Int.tdiv (IntKind.i64.wrap (IntKind.i64.wrap (91 + p.mi) + p.my)) 64) + 1))) = p.secs ∧ 5 ≤ p.secs ∧ p.secs ≤ 16384 := by
  have := p.may_iff.1 hb
  have e : (91 + p.mi + p.my).tdiv 64 = (91 + p.mi + p.my) / 64 := Int.tdiv_eq_ediv_of_nonneg (by omega)
  have h1 := mul_range (a := p.ch) (b := (91 + p.mi + p.my) / 64 + 1) (A := 4096) (B := 3) (by omega) (by omega)
  rw [wrap64 (x := 28 + p.mi) (by omega) (by omega), wrap64 (x := 28 + p.mi + p.my) (by omega) (by omega), wrap64 (x := 28 + p.mi + p.my + 64) (by omega) (by omega), wrap64 (x := 28 + p.mi + p.my + 64 - 1) (by omega) (by omega),
    show 28 + p.mi + p.my + 64 - 1 = 91 + p.mi + p.my by omega, wrap64 (x := 91 + p.mi) (by omega) (by omega), wrap64 (x := 91 + p.mi + p.my) (by omega) (by omega)]
  simp only [Pm.secs, hb, if_true]
  rw [e, wrap64 (x := (91 + p.mi + p.my) / 64) (by omega) (by omega), wrap64 (x := (91 + p.mi + p.my) / 64 + 1) (by omega) (by omega), wrap64 (x := p.ch * _) (by omega) (by omega), wrap64 (by omega) (by omega)]
  refine ⟨rfl, rfl, by omega, by omega⟩
theorem c_check (N : Nat) (h : GH) (p : Pm) : GTri Try.prog N 17 [p.v] h fun v h' => v = .int .i64 p.check ∧ HS h h' := by
  refine gtri Try.func17 rfl gf17 ok17 (by simp [Try.ntmps17]) ?_
  repeat' first
    | with_reducible refine gw_seq ?_
    | with_reducible refine gw_block ?_
    | ((first
        | with_reducible refine gw_region ?_
        | with_reducible refine gw_if ?_
        | with_reducible refine gw_skip ?_
        | with_reducible refine gw_exit ?_
        | with_reducible refine gw_ret ?_
        | ((with_reducible refine gif_b (fun hb => ?_) (fun hb => ?_)) <;> try simp only [hb])
        | ((with_reducible refine want_t (fun hb => ?_) (fun hb => ?_)) <;> try simp only [hb])
        | ((with_reducible refine want_f (fun hb => ?_) (fun hb => ?_)) <;> try simp only [hb])
        | with_reducible refine gw_draw [(0, []), (1, []), (2, []), (3, [1]), (4, []), (5, [])] [0, 1, 0, 4, 15, 31] mixed (by kernel_rfl) ?_
        | ((with_reducible refine dr_t (fun hb => ?_) (fun hb => ?_)) <;> try simp only [hb])
        | ((with_reducible refine dr_f (fun hb => ?_) (fun hb => ?_)) <;> try simp only [hb])) <;> try simp only [List.map, gops_nil, gops_none, gops_some, kops_ap, kops_no, gop, optK_some, ev, lk, aenv, gyield, thenQ_n, thenQ_r, thenQ_x, blockQ_n, blockQ_r, blockQ_x, retQ_r, retQ_n, gret_0, gret_1, gret_2, gret_3, gret_c, gret_c1, gret_c2, gif_t, gif_f, want_tt, want_ff, want_tf, want_ft, gBin, gInt, gStrOp, gUn, gPick, gNil, gExtract, gIfc, gConvO, gIndexO, gIndexVO, gMakeV, gMinV, gMaxV, gBlt, gCallV, gAllocO_some, vcells, optH_some, Nat.reduceAdd, Nat.reduceSub, Nat.reduceMul, Nat.reduceLT, Nat.reduceLeDiff, Nat.reduceEqDiff, Nat.reduceBEq, reduceIte, Option.map_some, Option.getD_some, Option.some.injEq, List.getElem?_cons_succ, List.getElem?_cons_zero, List.length_cons, List.length_nil, List.cons_append, List.nil_append, List.append_nil, Array.toList_append, List.extract_toArray, List.extract_eq_take_drop, List.drop_succ_cons, List.drop_zero, List.take_succ_cons, List.take_zero, List.set_cons_zero, List.set_cons_succ, Int.cast_ofNat_Int, Int.reduceLT, Int.reduceLE, Int.reduceGT, Int.reduceGE, Int.reduceEq, Int.reduceNe, Int.reduceAdd, Int.reduceSub, Int.reduceMul, Int.reduceNeg, Int.reduceToNat, Int.reduceBEq, Int.reduceBNe, decide_true, decide_false, and_self, ite_true, ite_false, gField, gIndexV, gPart, wrap64, wrapu8, wrapu32, wrapu64, true_and, and_true, Bool.false_eq_true, eq_self_iff_true, Bool.not_true, Bool.not_false, Bool.or_false, Bool.false_or, Bool.true_and, Bool.and_true, gdr_nil, gdr_none, gdr_some, gdrO_t, gdrO_f, gdrW_tt, gdrW_ff, gdrW_tf, gdrW_ft, eput_s, eput_n, kdrF_ap, kdrE_ap, wput_n, wput_s, chk_n, chk_c, chk1_n, chk1_s, rvOf, wlk, rdv, isEff, dsOf, sgl, List.getElem?_toArray, Try.underlying23, Try.underlying3, Try.underlying4, eq23, fo23_0, fo23_1, fo23_2, fo23_3, fo23_4, fo23_5, fo23_6, fo23_7, ni23, ni3, ni4, sh23, sz23, sz3, sz4, zr23, zr3, zr4, rs17, Pm.v])
  refine box_g rfl fun k1 h1 m1 s1 f1 n1 => ?_
  simp only [List.map, gops_nil, gops_none, gops_some, kops_ap, kops_no, gop, optK_some, ev, lk, aenv, gyield, thenQ_n, thenQ_r, thenQ_x, blockQ_n, blockQ_r, blockQ_x, retQ_r, retQ_n, gret_0, gret_1, gret_2, gret_3, gret_c, gret_c1, gret_c2, gif_t, gif_f, want_tt, want_ff, want_tf, want_ft, gBin, gInt, gStrOp, gUn, gPick, gNil, gExtract, gIfc, gConvO, gIndexO, gIndexVO, gMakeV, gMinV, gMaxV, gBlt, gCallV, gAllocO_some, vcells, optH_some, Nat.reduceAdd, Nat.reduceSub, Nat.reduceMul, Nat.reduceLT, Nat.reduceLeDiff, Nat.reduceEqDiff, Nat.reduceBEq, reduceIte, Option.map_some, Option.getD_some, Option.some.injEq, List.getElem?_cons_succ, List.getElem?_cons_zero, List.length_cons, List.length_nil, List.cons_append, List.nil_append, List.append_nil, Array.toList_append, List.extract_toArray, List.extract_eq_take_drop, List.drop_succ_cons, List.drop_zero, List.take_succ_cons, List.take_zero, List.set_cons_zero, List.set_cons_succ, Int.cast_ofNat_Int, Int.reduceLT, Int.reduceLE, Int.reduceGT, Int.reduceGE, Int.reduceEq, Int.reduceNe, Int.reduceAdd, Int.reduceSub, Int.reduceMul, Int.reduceNeg, Int.reduceToNat, Int.reduceBEq, Int.reduceBNe, decide_true, decide_false, and_self, ite_true, ite_false, gField, gIndexV, gPart, wrap64, wrapu8, wrapu32, wrapu64, true_and, and_true, Bool.false_eq_true, eq_self_iff_true, Bool.not_true, Bool.not_false, Bool.or_false, Bool.false_or, Bool.true_and, Bool.and_true, Try.underlying23, Try.underlying3, Try.underlying4, eq23, fo23_0, fo23_1, fo23_2, fo23_3, fo23_4, fo23_5, fo23_6, fo23_7, ni23, ni3, ni4, sh23, sz23, sz3, sz4, zr23, zr3, zr4, rs17]
  repeat' first
    | with_reducible refine gw_seq ?_
    | with_reducible refine gw_block ?_
    | ((first
        | with_reducible refine gw_region ?_
        | with_reducible refine gw_if ?_
        | with_reducible refine gw_skip ?_
        | with_reducible refine gw_exit ?_
        | with_reducible refine gw_ret ?_
        | ((with_reducible refine gif_b (fun hb => ?_) (fun hb => ?_)) <;> try simp only [hb])
        | ((with_reducible refine want_t (fun hb => ?_) (fun hb => ?_)) <;> try simp only [hb])
        | ((with_reducible refine want_f (fun hb => ?_) (fun hb => ?_)) <;> try simp only [hb])
        | with_reducible refine gw_draw [(0, []), (1, []), (2, []), (3, [1]), (4, []), (5, [])] [0, 1, 0, 4, 15, 31] mixed (by kernel_rfl) ?_
        | ((with_reducible refine dr_t (fun hb => ?_) (fun hb => ?_)) <;> try simp only [hb])
        | ((with_reducible refine dr_f (fun hb => ?_) (fun hb => ?_)) <;> try simp only [hb])
        | ((refine GTri.mono (c_may _ _ p) ?_); rintro _ h2 ⟨rfl, s2⟩; have m1 := s2 _ _ m1 ; have s1 := s1.trans s2)
        | ((refine GTri.mono (c_need _ _ p) ?_); rintro _ h2 ⟨rfl, s2⟩; have m1 := s2 _ _ m1 ; have s1 := s1.trans s2)) <;> try simp only [List.map, gops_nil, gops_none, gops_some, kops_ap, kops_no, gop, optK_some, ev, lk, aenv, gyield, thenQ_n, thenQ_r, thenQ_x, blockQ_n, blockQ_r, blockQ_x, retQ_r, retQ_n, gret_0, gret_1, gret_2, gret_3, gret_c, gret_c1, gret_c2, gif_t, gif_f, want_tt, want_ff, want_tf, want_ft, gBin, gInt, gStrOp, gUn, gPick, gNil, gExtract, gIfc, gConvO, gIndexO, gIndexVO, gMakeV, gMinV, gMaxV, gBlt, gCallV, gAllocO_some, vcells, optH_some, Nat.reduceAdd, Nat.reduceSub, Nat.reduceMul, Nat.reduceLT, Nat.reduceLeDiff, Nat.reduceEqDiff, Nat.reduceBEq, reduceIte, Option.map_some, Option.getD_some, Option.some.injEq, List.getElem?_cons_succ, List.getElem?_cons_zero, List.length_cons, List.length_nil, List.cons_append, List.nil_append, List.append_nil, Array.toList_append, List.extract_toArray, List.extract_eq_take_drop, List.drop_succ_cons, List.drop_zero, List.take_succ_cons, List.take_zero, List.set_cons_zero, List.set_cons_succ, Int.cast_ofNat_Int, Int.reduceLT, Int.reduceLE, Int.reduceGT, Int.reduceGE, Int.reduceEq, Int.reduceNe, Int.reduceAdd, Int.reduceSub, Int.reduceMul, Int.reduceNeg, Int.reduceToNat, Int.reduceBEq, Int.reduceBNe, decide_true, decide_false, and_self, ite_true, ite_false, gField, gIndexV, gPart, wrap64, wrapu8, wrapu32, wrapu64, true_and, and_true, Bool.false_eq_true, eq_self_iff_true, Bool.not_true, Bool.not_false, Bool.or_false, Bool.false_or, Bool.true_and, Bool.and_true, gdr_nil, gdr_none, gdr_some, gdrO_t, gdrO_f, gdrW_tt, gdrW_ff, gdrW_tf, gdrW_ft, eput_s, eput_n, kdrF_ap, kdrE_ap, wput_n, wput_s, chk_n, chk_c, chk1_n, chk1_s, rvOf, wlk, rdv, isEff, dsOf, sgl, List.getElem?_toArray, Try.underlying23, Try.underlying3, Try.underlying4, eq23, fo23_0, fo23_1, fo23_2, fo23_3, fo23_4, fo23_5, fo23_6, fo23_7, ni23, ni3, ni4, sh23, sz23, sz3, sz4, zr23, zr3, zr4, rs17, gload1 m1 sz3, gloadA m1 sz23 rfl])
  all_goals refine ⟨congrArg _ ?_, s1⟩
  all_goals
    simp only [Bool.not_eq_true', Bool.not_eq_false', decide_eq_true_eq, decide_eq_false_iff_not] at *
    simp [Pm.check, *] <;> omega
theorem c_secs (N : Nat) (h : GH) (p : Pm) : GTri Try.prog N 21 [p.v] h fun v h' => v = .int .i64 p.secs ∧ HS h h' := by
  refine gtri Try.func21 rfl gf21 ok21 (by simp [Try.ntmps21]) ?_
  repeat' first
    | with_reducible refine gw_seq ?_
    | with_reducible refine gw_block ?_
    | ((first
        | with_reducible refine gw_region ?_
        | with_reducible refine gw_if ?_
        | with_reducible refine gw_skip ?_
        | with_reducible refine gw_exit ?_
        | with_reducible refine gw_ret ?_
        | ((with_reducible refine gif_b (fun hb => ?_) (fun hb => ?_)) <;> try simp only [hb])
        | ((with_reducible refine want_t (fun hb => ?_) (fun hb => ?_)) <;> try simp only [hb])
        | ((with_reducible refine want_f (fun hb => ?_) (fun hb => ?_)) <;> try simp only [hb])) <;> try simp only [List.map, gops_nil, gops_none, gops_some, kops_ap, kops_no, gop, optK_some, ev, lk, aenv, gyield, thenQ_n, thenQ_r, thenQ_x, blockQ_n, blockQ_r, blockQ_x, retQ_r, retQ_n, gret_0, gret_1, gret_2, gret_3, gret_c, gret_c1, gret_c2, gif_t, gif_f, want_tt, want_ff, want_tf, want_ft, gBin, gInt, gStrOp, gUn, gPick, gNil, gExtract, gIfc, gConvO, gIndexO, gIndexVO, gMakeV, gMinV, gMaxV, gBlt, gCallV, gAllocO_some, vcells, optH_some, Nat.reduceAdd, Nat.reduceSub, Nat.reduceMul, Nat.reduceLT, Nat.reduceLeDiff, Nat.reduceEqDiff, Nat.reduceBEq, reduceIte, Option.map_some, Option.getD_some, Option.some.injEq, List.getElem?_cons_succ, List.getElem?_cons_zero, List.length_cons, List.length_nil, List.cons_append, List.nil_append, List.append_nil, Array.toList_append, List.extract_toArray, List.extract_eq_take_drop, List.drop_succ_cons, List.drop_zero, List.take_succ_cons, List.take_zero, List.set_cons_zero, List.set_cons_succ, Int.cast_ofNat_Int, Int.reduceLT, Int.reduceLE, Int.reduceGT, Int.reduceGE, Int.reduceEq, Int.reduceNe, Int.reduceAdd, Int.reduceSub, Int.reduceMul, Int.reduceNeg, Int.reduceToNat, Int.reduceBEq, Int.reduceBNe, decide_true, decide_false, and_self, ite_true, ite_false, gField, gIndexV, gPart, wrap64, wrapu8, wrapu32, wrapu64, true_and, and_true, Bool.false_eq_true, eq_self_iff_true, Bool.not_true, Bool.not_false, Bool.or_false, Bool.false_or, Bool.true_and, Bool.and_true, Try.underlying23, Try.underlying3, Try.underlying4, eq23, fo23_0, fo23_1, fo23_2, fo23_3, fo23_4, fo23_5, fo23_6, fo23_7, ni23, ni3, ni4, sh23, sz23, sz3, sz4, zr23, zr3, zr4, rs21, Pm.v])
  refine box_g rfl fun k1 h1 m1 s1 f1 n1 => ?_
  simp only [List.map, gops_nil, gops_none, gops_some, kops_ap, kops_no, gop, optK_some, ev, lk, aenv, gyield, thenQ_n, thenQ_r, thenQ_x, blockQ_n, blockQ_r, blockQ_x, retQ_r, retQ_n, gret_0, gret_1, gret_2, gret_3, gret_c, gret_c1, gret_c2, gif_t, gif_f, want_tt, want_ff, want_tf, want_ft, gBin, gInt, gStrOp, gUn, gPick, gNil, gExtract, gIfc, gConvO, gIndexO, gIndexVO, gMakeV, gMinV, gMaxV, gBlt, gCallV, gAllocO_some, vcells, optH_some, Nat.reduceAdd, Nat.reduceSub, Nat.reduceMul, Nat.reduceLT, Nat.reduceLeDiff, Nat.reduceEqDiff, Nat.reduceBEq, reduceIte, Option.map_some, Option.getD_some, Option.some.injEq, List.getElem?_cons_succ, List.getElem?_cons_zero, List.length_cons, List.length_nil, List.cons_append, List.nil_append, List.append_nil, Array.toList_append, List.extract_toArray, List.extract_eq_take_drop, List.drop_succ_cons, List.drop_zero, List.take_succ_cons, List.take_zero, List.set_cons_zero, List.set_cons_succ, Int.cast_ofNat_Int, Int.reduceLT, Int.reduceLE, Int.reduceGT, Int.reduceGE, Int.reduceEq, Int.reduceNe, Int.reduceAdd, Int.reduceSub, Int.reduceMul, Int.reduceNeg, Int.reduceToNat, Int.reduceBEq, Int.reduceBNe, decide_true, decide_false, and_self, ite_true, ite_false, gField, gIndexV, gPart, wrap64, wrapu8, wrapu32, wrapu64, true_and, and_true, Bool.false_eq_true, eq_self_iff_true, Bool.not_true, Bool.not_false, Bool.or_false, Bool.false_or, Bool.true_and, Bool.and_true, Try.underlying23, Try.underlying3, Try.underlying4, eq23, fo23_0, fo23_1, fo23_2, fo23_3, fo23_4, fo23_5, fo23_6, fo23_7, ni23, ni3, ni4, sh23, sz23, sz3, sz4, zr23, zr3, zr4, rs21]
  repeat' first
    | with_reducible refine gw_seq ?_
    | with_reducible refine gw_block ?_
    | ((first
        | with_reducible refine gw_region ?_
        | with_reducible refine gw_if ?_
        | with_reducible refine gw_skip ?_
        | with_reducible refine gw_exit ?_
        | with_reducible refine gw_ret ?_
        | ((with_reducible refine gif_b (fun hb => ?_) (fun hb => ?_)) <;> try simp only [hb])
        | ((with_reducible refine want_t (fun hb => ?_) (fun hb => ?_)) <;> try simp only [hb])
        | ((with_reducible refine want_f (fun hb => ?_) (fun hb => ?_)) <;> try simp only [hb])
        | ((refine GTri.mono (c_may _ _ p) ?_); rintro _ h2 ⟨rfl, s2⟩; have m1 := s2 _ _ m1 ; have s1 := s1.trans s2)) <;> try simp only [List.map, gops_nil, gops_none, gops_some, kops_ap, kops_no, gop, optK_some, ev, lk, aenv, gyield, thenQ_n, thenQ_r, thenQ_x, blockQ_n, blockQ_r, blockQ_x, retQ_r, retQ_n, gret_0, gret_1, gret_2, gret_3, gret_c, gret_c1, gret_c2, gif_t, gif_f, want_tt, want_ff, want_tf, want_ft, gBin, gInt, gStrOp, gUn, gPick, gNil, gExtract, gIfc, gConvO, gIndexO, gIndexVO, gMakeV, gMinV, gMaxV, gBlt, gCallV, gAllocO_some, vcells, optH_some, Nat.reduceAdd, Nat.reduceSub, Nat.reduceMul, Nat.reduceLT, Nat.reduceLeDiff, Nat.reduceEqDiff, Nat.reduceBEq, reduceIte, Option.map_some, Option.getD_some, Option.some.injEq, List.getElem?_cons_succ, List.getElem?_cons_zero, List.length_cons, List.length_nil, List.cons_append, List.nil_append, List.append_nil, Array.toList_append, List.extract_toArray, List.extract_eq_take_drop, List.drop_succ_cons, List.drop_zero, List.take_succ_cons, List.take_zero, List.set_cons_zero, List.set_cons_succ, Int.cast_ofNat_Int, Int.reduceLT, Int.reduceLE, Int.reduceGT, Int.reduceGE, Int.reduceEq, Int.reduceNe, Int.reduceAdd, Int.reduceSub, Int.reduceMul, Int.reduceNeg, Int.reduceToNat, Int.reduceBEq, Int.reduceBNe, decide_true, decide_false, and_self, ite_true, ite_false, gField, gIndexV, gPart, wrap64, wrapu8, wrapu32, wrapu64, true_and, and_true, Bool.false_eq_true, eq_self_iff_true, Bool.not_true, Bool.not_false, Bool.or_false, Bool.false_or, Bool.true_and, Bool.and_true, Try.underlying23, Try.underlying3, Try.underlying4, eq23, fo23_0, fo23_1, fo23_2, fo23_3, fo23_4, fo23_5, fo23_6, fo23_7, ni23, ni3, ni4, sh23, sz23, sz3, sz4, zr23, zr3, zr4, rs21, gload1 m1 sz3, gloadA m1 sz23 rfl])
  all_goals refine ⟨congrArg _ ?_, s1⟩
  · simp only [Bool.not_eq_true'] at hb
    simp [Pm.secs, hb]
  · simp only [Bool.not_eq_false'] at hb
    exact (p.secs_eq hb).1
theorem c_rsecs (N : Nat) (h : GH) (p : Pm) : GTri Try.prog N 37 [p.v] h fun v h' => v = .int .i64 p.secs ∧ HS h h' := by
  refine gtri Try.func37 rfl gf37 ok37 (by simp [Try.ntmps37]) ?_
  repeat' first
    | with_reducible refine gw_seq ?_
    | with_reducible refine gw_block ?_
    | ((first
        | with_reducible refine gw_region ?_
        | with_reducible refine gw_if ?_
        | with_reducible refine gw_skip ?_
        | with_reducible refine gw_exit ?_
        | with_reducible refine gw_ret ?_
        | ((with_reducible refine gif_b (fun hb => ?_) (fun hb => ?_)) <;> try simp only [hb])
        | ((with_reducible refine want_t (fun hb => ?_) (fun hb => ?_)) <;> try simp only [hb])
        | ((with_reducible refine want_f (fun hb => ?_) (fun hb => ?_)) <;> try simp only [hb])) <;> try simp only [List.map, gops_nil, gops_none, gops_some, kops_ap, kops_no, gop, optK_some, ev, lk, aenv, gyield, thenQ_n, thenQ_r, thenQ_x, blockQ_n, blockQ_r, blockQ_x, retQ_r, retQ_n, gret_0, gret_1, gret_2, gret_3, gret_c, gret_c1, gret_c2, gif_t, gif_f, want_tt, want_ff, want_tf, want_ft, gBin, gInt, gStrOp, gUn, gPick, gNil, gExtract, gIfc, gConvO, gIndexO, gIndexVO, gMakeV, gMinV, gMaxV, gBlt, gCallV, gAllocO_some, vcells, optH_some, Nat.reduceAdd, Nat.reduceSub, Nat.reduceMul, Nat.reduceLT, Nat.reduceLeDiff, Nat.reduceEqDiff, Nat.reduceBEq, reduceIte, Option.map_some, Option.getD_some, Option.some.injEq, List.getElem?_cons_succ, List.getElem?_cons_zero, List.length_cons, List.length_nil, List.cons_append, List.nil_append, List.append_nil, Array.toList_append, List.extract_toArray, List.extract_eq_take_drop, List.drop_succ_cons, List.drop_zero, List.take_succ_cons, List.take_zero, List.set_cons_zero, List.set_cons_succ, Int.cast_ofNat_Int, Int.reduceLT, Int.reduceLE, Int.reduceGT, Int.reduceGE, Int.reduceEq, Int.reduceNe, Int.reduceAdd, Int.reduceSub, Int.reduceMul, Int.reduceNeg, Int.reduceToNat, Int.reduceBEq, Int.reduceBNe, decide_true, decide_false, and_self, ite_true, ite_false, gField, gIndexV, gPart, wrap64, wrapu8, wrapu32, wrapu64, true_and, and_true, Bool.false_eq_true, eq_self_iff_true, Bool.not_true, Bool.not_false, Bool.or_false, Bool.false_or, Bool.true_and, Bool.and_true, Try.underlying23, Try.underlying3, Try.underlying4, eq23, fo23_0, fo23_1, fo23_2, fo23_3, fo23_4, fo23_5, fo23_6, fo23_7, ni23, ni3, ni4, sh23, sz23, sz3, sz4, zr23, zr3, zr4, rs37, Pm.v])
  refine box_g rfl fun k1 h1 m1 s1 f1 n1 => ?_
  simp only [List.map, gops_nil, gops_none, gops_some, kops_ap, kops_no, gop, optK_some, ev, lk, aenv, gyield, thenQ_n, thenQ_r, thenQ_x, blockQ_n, blockQ_r, blockQ_x, retQ_r, retQ_n, gret_0, gret_1, gret_2, gret_3, gret_c, gret_c1, gret_c2, gif_t, gif_f, want_tt, want_ff, want_tf, want_ft, gBin, gInt, gStrOp, gUn, gPick, gNil, gExtract, gIfc, gConvO, gIndexO, gIndexVO, gMakeV, gMinV, gMaxV, gBlt, gCallV, gAllocO_some, vcells, optH_some, Nat.reduceAdd, Nat.reduceSub, Nat.reduceMul, Nat.reduceLT, Nat.reduceLeDiff, Nat.reduceEqDiff, Nat.reduceBEq, reduceIte, Option.map_some, Option.getD_some, Option.some.injEq, List.getElem?_cons_succ, List.getElem?_cons_zero, List.length_cons, List.length_nil, List.cons_append, List.nil_append, List.append_nil, Array.toList_append, List.extract_toArray, List.extract_eq_take_drop, List.drop_succ_cons, List.drop_zero, List.take_succ_cons, List.take_zero, List.set_cons_zero, List.set_cons_succ, Int.cast_ofNat_Int, Int.reduceLT, Int.reduceLE, Int.reduceGT, Int.reduceGE, Int.reduceEq, Int.reduceNe, Int.reduceAdd, Int.reduceSub, Int.reduceMul, Int.reduceNeg, Int.reduceToNat, Int.reduceBEq, Int.reduceBNe, decide_true, decide_false, and_self, ite_true, ite_false, gField, gIndexV, gPart, wrap64, wrapu8, wrapu32, wrapu64, true_and, and_true, Bool.false_eq_true, eq_self_iff_true, Bool.not_true, Bool.not_false, Bool.or_false, Bool.false_or, Bool.true_and, Bool.and_true, Try.underlying23, Try.underlying3, Try.underlying4, eq23, fo23_0, fo23_1, fo23_2, fo23_3, fo23_4, fo23_5, fo23_6, fo23_7, ni23, ni3, ni4, sh23, sz23, sz3, sz4, zr23, zr3, zr4, rs37]
  repeat' first
    | with_reducible refine gw_seq ?_
    | with_reducible refine gw_block ?_
    | ((first
        | with_reducible refine gw_region ?_
        | with_reducible refine gw_if ?_
        | with_reducible refine gw_skip ?_
        | with_reducible refine gw_exit ?_
        | with_reducible refine gw_ret ?_
        | ((with_reducible refine gif_b (fun hb => ?_) (fun hb => ?_)) <;> try simp only [hb])
        | ((with_reducible refine want_t (fun hb => ?_) (fun hb => ?_)) <;> try simp only [hb])
        | ((with_reducible refine want_f (fun hb => ?_) (fun hb => ?_)) <;> try simp only [hb])
        | ((refine GTri.mono (c_rmay _ _ p) ?_); rintro _ h2 ⟨rfl, s2⟩; have m1 := s2 _ _ m1 ; have s1 := s1.trans s2)) <;> try simp only [List.map, gops_nil, gops_none, gops_some, kops_ap, kops_no, gop, optK_some, ev, lk, aenv, gyield, thenQ_n, thenQ_r, thenQ_x, blockQ_n, blockQ_r, blockQ_x, retQ_r, retQ_n, gret_0, gret_1, gret_2, gret_3, gret_c, gret_c1, gret_c2, gif_t, gif_f, want_tt, want_ff, want_tf, want_ft, gBin, gInt, gStrOp, gUn, gPick, gNil, gExtract, gIfc, gConvO, gIndexO, gIndexVO, gMakeV, gMinV, gMaxV, gBlt, gCallV, gAllocO_some, vcells, optH_some, Nat.reduceAdd, Nat.reduceSub, Nat.reduceMul, Nat.reduceLT, Nat.reduceLeDiff, Nat.reduceEqDiff, Nat.reduceBEq, reduceIte, Option.map_some, Option.getD_some, Option.some.injEq, List.getElem?_cons_succ, List.getElem?_cons_zero, List.length_cons, List.length_nil, List.cons_append, List.nil_append, List.append_nil, Array.toList_append, List.extract_toArray, List.extract_eq_take_drop, List.drop_succ_cons, List.drop_zero, List.take_succ_cons, List.take_zero, List.set_cons_zero, List.set_cons_succ, Int.cast_ofNat_Int, Int.reduceLT, Int.reduceLE, Int.reduceGT, Int.reduceGE, Int.reduceEq, Int.reduceNe, Int.reduceAdd, Int.reduceSub, Int.reduceMul, Int.reduceNeg, Int.reduceToNat, Int.reduceBEq, Int.reduceBNe, decide_true, decide_false, and_self, ite_true, ite_false, gField, gIndexV, gPart, wrap64, wrapu8, wrapu32, wrapu64, true_and, and_true, Bool.false_eq_true, eq_self_iff_true, Bool.not_true, Bool.not_false, Bool.or_false, Bool.false_or, Bool.true_and, Bool.and_true, Try.underlying23, Try.underlying3, Try.underlying4, eq23, fo23_0, fo23_1, fo23_2, fo23_3, fo23_4, fo23_5, fo23_6, fo23_7, ni23, ni3, ni4, sh23, sz23, sz3, sz4, zr23, zr3, zr4, rs37, gload1 m1 sz3, gloadA m1 sz23 rfl])
  all_goals refine ⟨congrArg _ ?_, s1⟩
  · simp only [Bool.not_eq_true'] at hb
    simp [Pm.secs, hb]
  · simp only [Bool.not_eq_false'] at hb
    exact (p.secs_eq hb).2.1
theorem c_eps (N : Nat) (h : GH) (p : Pm) : GTri Try.prog N 35 [p.v] h fun v h' => v = .int .i64 p.eps ∧ HS h h' := by
  refine gtri Try.func35 rfl gf35 ok35 (by simp [Try.ntmps35]) ?_
  repeat' first
    | with_reducible refine gw_seq ?_
    | with_reducible refine gw_block ?_
    | ((first
        | with_reducible refine gw_region ?_
        | with_reducible refine gw_if ?_
        | with_reducible refine gw_skip ?_
        | with_reducible refine gw_exit ?_
        | with_reducible refine gw_ret ?_
        | ((with_reducible refine gif_b (fun hb => ?_) (fun hb => ?_)) <;> try simp only [hb])
        | ((with_reducible refine want_t (fun hb => ?_) (fun hb => ?_)) <;> try simp only [hb])
        | ((with_reducible refine want_f (fun hb => ?_) (fun hb => ?_)) <;> try simp only [hb])) <;> try simp only [List.map, gops_nil, gops_none, gops_some, kops_ap, kops_no, gop, optK_some, ev, lk, aenv, gyield, thenQ_n, thenQ_r, thenQ_x, blockQ_n, blockQ_r, blockQ_x, retQ_r, retQ_n, gret_0, gret_1, gret_2, gret_3, gret_c, gret_c1, gret_c2, gif_t, gif_f, want_tt, want_ff, want_tf, want_ft, gBin, gInt, gStrOp, gUn, gPick, gNil, gExtract, gIfc, gConvO, gIndexO, gIndexVO, gMakeV, gMinV, gMaxV, gBlt, gCallV, gAllocO_some, vcells, optH_some, Nat.reduceAdd, Nat.reduceSub, Nat.reduceMul, Nat.reduceLT, Nat.reduceLeDiff, Nat.reduceEqDiff, Nat.reduceBEq, reduceIte, Option.map_some, Option.getD_some, Option.some.injEq, List.getElem?_cons_succ, List.getElem?_cons_zero, List.length_cons, List.length_nil, List.cons_append, List.nil_append, List.append_nil, Array.toList_append, List.extract_toArray, List.extract_eq_take_drop, List.drop_succ_cons, List.drop_zero, List.take_succ_cons, List.take_zero, List.set_cons_zero, List.set_cons_succ, Int.cast_ofNat_Int, Int.reduceLT, Int.reduceLE, Int.reduceGT, Int.reduceGE, Int.reduceEq, Int.reduceNe, Int.reduceAdd, Int.reduceSub, Int.reduceMul, Int.reduceNeg, Int.reduceToNat, Int.reduceBEq, Int.reduceBNe, decide_true, decide_false, and_self, ite_true, ite_false, gField, gIndexV, gPart, wrap64, wrapu8, wrapu32, wrapu64, true_and, and_true, Bool.false_eq_true, eq_self_iff_true, Bool.not_true, Bool.not_false, Bool.or_false, Bool.false_or, Bool.true_and, Bool.and_true, Try.underlying23, Try.underlying3, Try.underlying4, eq23, fo23_0, fo23_1, fo23_2, fo23_3, fo23_4, fo23_5, fo23_6, fo23_7, ni23, ni3, ni4, sh23, sz23, sz3, sz4, zr23, zr3, zr4, rs35, Pm.v])
  refine box_g rfl fun k1 h1 m1 s1 f1 n1 => ?_
  simp only [List.map, gops_nil, gops_none, gops_some, kops_ap, kops_no, gop, optK_some, ev, lk, aenv, gyield, thenQ_n, thenQ_r, thenQ_x, blockQ_n, blockQ_r, blockQ_x, retQ_r, retQ_n, gret_0, gret_1, gret_2, gret_3, gret_c, gret_c1, gret_c2, gif_t, gif_f, want_tt, want_ff, want_tf, want_ft, gBin, gInt, gStrOp, gUn, gPick, gNil, gExtract, gIfc, gConvO, gIndexO, gIndexVO, gMakeV, gMinV, gMaxV, gBlt, gCallV, gAllocO_some, vcells, optH_some, Nat.reduceAdd, Nat.reduceSub, Nat.reduceMul, Nat.reduceLT, Nat.reduceLeDiff, Nat.reduceEqDiff, Nat.reduceBEq, reduceIte, Option.map_some, Option.getD_some, Option.some.injEq, List.getElem?_cons_succ, List.getElem?_cons_zero, List.length_cons, List.length_nil, List.cons_append, List.nil_append, List.append_nil, Array.toList_append, List.extract_toArray, List.extract_eq_take_drop, List.drop_succ_cons, List.drop_zero, List.take_succ_cons, List.take_zero, List.set_cons_zero, List.set_cons_succ, Int.cast_ofNat_Int, Int.reduceLT, Int.reduceLE, Int.reduceGT, Int.reduceGE, Int.reduceEq, Int.reduceNe, Int.reduceAdd, Int.reduceSub, Int.reduceMul, Int.reduceNeg, Int.reduceToNat, Int.reduceBEq, Int.reduceBNe, decide_true, decide_false, and_self, ite_true, ite_false, gField, gIndexV, gPart, wrap64, wrapu8, wrapu32, wrapu64, true_and, and_true, Bool.false_eq_true, eq_self_iff_true, Bool.not_true, Bool.not_false, Bool.or_false, Bool.false_or, Bool.true_and, Bool.and_true, Try.underlying23, Try.underlying3, Try.underlying4, eq23, fo23_0, fo23_1, fo23_2, fo23_3, fo23_4, fo23_5, fo23_6, fo23_7, ni23, ni3, ni4, sh23, sz23, sz3, sz4, zr23, zr3, zr4, rs35]
  repeat' first
    | with_reducible refine gw_seq ?_
    | with_reducible refine gw_block ?_
    | ((first
        | with_reducible refine gw_region ?_
        | with_reducible refine gw_if ?_
        | with_reducible refine gw_skip ?_
        | with_reducible refine gw_exit ?_
        | with_reducible refine gw_ret ?_
        | ((with_reducible refine gif_b (fun hb => ?_) (fun hb => ?_)) <;> try simp only [hb])
        | ((with_reducible refine want_t (fun hb => ?_) (fun hb => ?_)) <;> try simp only [hb])
        | ((with_reducible refine want_f (fun hb => ?_) (fun hb => ?_)) <;> try simp only [hb])
        | ((refine GTri.mono (c_may _ _ p) ?_); rintro _ h2 ⟨rfl, s2⟩; have m1 := s2 _ _ m1 ; have s1 := s1.trans s2)) <;> try simp only [List.map, gops_nil, gops_none, gops_some, kops_ap, kops_no, gop, optK_some, ev, lk, aenv, gyield, thenQ_n, thenQ_r, thenQ_x, blockQ_n, blockQ_r, blockQ_x, retQ_r, retQ_n, gret_0, gret_1, gret_2, gret_3, gret_c, gret_c1, gret_c2, gif_t, gif_f, want_tt, want_ff, want_tf, want_ft, gBin, gInt, gStrOp, gUn, gPick, gNil, gExtract, gIfc, gConvO, gIndexO, gIndexVO, gMakeV, gMinV, gMaxV, gBlt, gCallV, gAllocO_some, vcells, optH_some, Nat.reduceAdd, Nat.reduceSub, Nat.reduceMul, Nat.reduceLT, Nat.reduceLeDiff, Nat.reduceEqDiff, Nat.reduceBEq, reduceIte, Option.map_some, Option.getD_some, Option.some.injEq, List.getElem?_cons_succ, List.getElem?_cons_zero, List.length_cons, List.length_nil, List.cons_append, List.nil_append, List.append_nil, Array.toList_append, List.extract_toArray, List.extract_eq_take_drop, List.drop_succ_cons, List.drop_zero, List.take_succ_cons, List.take_zero, List.set_cons_zero, List.set_cons_succ, Int.cast_ofNat_Int, Int.reduceLT, Int.reduceLE, Int.reduceGT, Int.reduceGE, Int.reduceEq, Int.reduceNe, Int.reduceAdd, Int.reduceSub, Int.reduceMul, Int.reduceNeg, Int.reduceToNat, Int.reduceBEq, Int.reduceBNe, decide_true, decide_false, and_self, ite_true, ite_false, gField, gIndexV, gPart, wrap64, wrapu8, wrapu32, wrapu64, true_and, and_true, Bool.false_eq_true, eq_self_iff_true, Bool.not_true, Bool.not_false, Bool.or_false, Bool.false_or, Bool.true_and, Bool.and_true, Try.underlying23, Try.underlying3, Try.underlying4, eq23, fo23_0, fo23_1, fo23_2, fo23_3, fo23_4, fo23_5, fo23_6, fo23_7, ni23, ni3, ni4, sh23, sz23, sz3, sz4, zr23, zr3, zr4, rs35, gload1 m1 sz3, gloadA m1 sz23 rfl])
  · refine ⟨congrArg _ ?_, s1⟩
    simp only [Bool.not_eq_true'] at hb
    simp [Pm.eps, hb]
  · simp only [Bool.not_eq_false'] at hb
    have := p.may_iff.1 hb
    refine ⟨by omega, ?_⟩
    repeat' first
    | with_reducible refine gw_seq ?_
    | with_reducible refine gw_block ?_
    | ((first
        | with_reducible refine gw_region ?_
        | with_reducible refine gw_if ?_
        | with_reducible refine gw_skip ?_
        | with_reducible refine gw_exit ?_
        | with_reducible refine gw_ret ?_
        | ((with_reducible refine gif_b (fun hb => ?_) (fun hb => ?_)) <;> try simp only [hb])
        | ((with_reducible refine want_t (fun hb => ?_) (fun hb => ?_)) <;> try simp only [hb])
        | ((with_reducible refine want_f (fun hb => ?_) (fun hb => ?_)) <;> try simp only [hb])) <;> try simp only [List.map, gops_nil, gops_none, gops_some, kops_ap, kops_no, gop, optK_some, ev, lk, aenv, gyield, thenQ_n, thenQ_r, thenQ_x, blockQ_n, blockQ_r, blockQ_x, retQ_r, retQ_n, gret_0, gret_1, gret_2, gret_3, gret_c, gret_c1, gret_c2, gif_t, gif_f, want_tt, want_ff, want_tf, want_ft, gBin, gInt, gStrOp, gUn, gPick, gNil, gExtract, gIfc, gConvO, gIndexO, gIndexVO, gMakeV, gMinV, gMaxV, gBlt, gCallV, gAllocO_some, vcells, optH_some, Nat.reduceAdd, Nat.reduceSub, Nat.reduceMul, Nat.reduceLT, Nat.reduceLeDiff, Nat.reduceEqDiff, Nat.reduceBEq, reduceIte, Option.map_some, Option.getD_some, Option.some.injEq, List.getElem?_cons_succ, List.getElem?_cons_zero, List.length_cons, List.length_nil, List.cons_append, List.nil_append, List.append_nil, Array.toList_append, List.extract_toArray, List.extract_eq_take_drop, List.drop_succ_cons, List.drop_zero, List.take_succ_cons, List.take_zero, List.set_cons_zero, List.set_cons_succ, Int.cast_ofNat_Int, Int.reduceLT, Int.reduceLE, Int.reduceGT, Int.reduceGE, Int.reduceEq, Int.reduceNe, Int.reduceAdd, Int.reduceSub, Int.reduceMul, Int.reduceNeg, Int.reduceToNat, Int.reduceBEq, Int.reduceBNe, decide_true, decide_false, and_self, ite_true, ite_false, gField, gIndexV, gPart, wrap64, wrapu8, wrapu32, wrapu64, true_and, and_true, Bool.false_eq_true, eq_self_iff_true, Bool.not_true, Bool.not_false, Bool.or_false, Bool.false_or, Bool.true_and, Bool.and_true, Try.underlying23, Try.underlying3, Try.underlying4, eq23, fo23_0, fo23_1, fo23_2, fo23_3, fo23_4, fo23_5, fo23_6, fo23_7, ni23, ni3, ni4, sh23, sz23, sz3, sz4, zr23, zr3, zr4, rs35])
    refine ⟨congrArg _ ?_, s1⟩
    simp [Pm.eps, hb]
theorem c_reps (N : Nat) (h : GH) (p : Pm) : GTri Try.prog N 36 [p.v] h fun v h' => v = .int .i64 p.eps ∧ HS h h' := by
  refine gtri Try.func36 rfl gf36 ok36 (by simp [Try.ntmps36]) ?_
  repeat' first
    | with_reducible refine gw_seq ?_
    | with_reducible refine gw_block ?_
    | ((first
        | with_reducible refine gw_region ?_
        | with_reducible refine gw_if ?_
        | with_reducible refine gw_skip ?_
        | with_reducible refine gw_exit ?_
        | with_reducible refine gw_ret ?_
        | ((with_reducible refine gif_b (fun hb => ?_) (fun hb => ?_)) <;> try simp only [hb])
        | ((with_reducible refine want_t (fun hb => ?_) (fun hb => ?_)) <;> try simp only [hb])
        | ((with_reducible refine want_f (fun hb => ?_) (fun hb => ?_)) <;> try simp only [hb])) <;> try simp only [List.map, gops_nil, gops_none, gops_some, kops_ap, kops_no, gop, optK_some, ev, lk, aenv, gyield, thenQ_n, thenQ_r, thenQ_x, blockQ_n, blockQ_r, blockQ_x, retQ_r, retQ_n, gret_0, gret_1, gret_2, gret_3, gret_c, gret_c1, gret_c2, gif_t, gif_f, want_tt, want_ff, want_tf, want_ft, gBin, gInt, gStrOp, gUn, gPick, gNil, gExtract, gIfc, gConvO, gIndexO, gIndexVO, gMakeV, gMinV, gMaxV, gBlt, gCallV, gAllocO_some, vcells, optH_some, Nat.reduceAdd, Nat.reduceSub, Nat.reduceMul, Nat.reduceLT, Nat.reduceLeDiff, Nat.reduceEqDiff, Nat.reduceBEq, reduceIte, Option.map_some, Option.getD_some, Option.some.injEq, List.getElem?_cons_succ, List.getElem?_cons_zero, List.length_cons, List.length_nil, List.cons_append, List.nil_append, List.append_nil, Array.toList_append, List.extract_toArray, List.extract_eq_take_drop, List.drop_succ_cons, List.drop_zero, List.take_succ_cons, List.take_zero, List.set_cons_zero, List.set_cons_succ, Int.cast_ofNat_Int, Int.reduceLT, Int.reduceLE, Int.reduceGT, Int.reduceGE, Int.reduceEq, Int.reduceNe, Int.reduceAdd, Int.reduceSub, Int.reduceMul, Int.reduceNeg, Int.reduceToNat, Int.reduceBEq, Int.reduceBNe, decide_true, decide_false, and_self, ite_true, ite_false, gField, gIndexV, gPart, wrap64, wrapu8, wrapu32, wrapu64, true_and, and_true, Bool.false_eq_true, eq_self_iff_true, Bool.not_true, Bool.not_false, Bool.or_false, Bool.false_or, Bool.true_and, Bool.and_true, Try.underlying23, Try.underlying3, Try.underlying4, eq23, fo23_0, fo23_1, fo23_2, fo23_3, fo23_4, fo23_5, fo23_6, fo23_7, ni23, ni3, ni4, sh23, sz23, sz3, sz4, zr23, zr3, zr4, rs36, Pm.v])
  refine box_g rfl fun k1 h1 m1 s1 f1 n1 => ?_
  simp only [List.map, gops_nil, gops_none, gops_some, kops_ap, kops_no, gop, optK_some, ev, lk, aenv, gyield, thenQ_n, thenQ_r, thenQ_x, blockQ_n, blockQ_r, blockQ_x, retQ_r, retQ_n, gret_0, gret_1, gret_2, gret_3, gret_c, gret_c1, gret_c2, gif_t, gif_f, want_tt, want_ff, want_tf, want_ft, gBin, gInt, gStrOp, gUn, gPick, gNil, gExtract, gIfc, gConvO, gIndexO, gIndexVO, gMakeV, gMinV, gMaxV, gBlt, gCallV, gAllocO_some, vcells, optH_some, Nat.reduceAdd, Nat.reduceSub, Nat.reduceMul, Nat.reduceLT, Nat.reduceLeDiff, Nat.reduceEqDiff, Nat.reduceBEq, reduceIte, Option.map_some, Option.getD_some, Option.some.injEq, List.getElem?_cons_succ, List.getElem?_cons_zero, List.length_cons, List.length_nil, List.cons_append, List.nil_append, List.append_nil, Array.toList_append, List.extract_toArray, List.extract_eq_take_drop, List.drop_succ_cons, List.drop_zero, List.take_succ_cons, List.take_zero, List.set_cons_zero, List.set_cons_succ, Int.cast_ofNat_Int, Int.reduceLT, Int.reduceLE, Int.reduceGT, Int.reduceGE, Int.reduceEq, Int.reduceNe, Int.reduceAdd, Int.reduceSub, Int.reduceMul, Int.reduceNeg, Int.reduceToNat, Int.reduceBEq, Int.reduceBNe, decide_true, decide_false, and_self, ite_true, ite_false, gField, gIndexV, gPart, wrap64, wrapu8, wrapu32, wrapu64, true_and, and_true, Bool.false_eq_true, eq_self_iff_true, Bool.not_true, Bool.not_false, Bool.or_false, Bool.false_or, Bool.true_and, Bool.and_true, Try.underlying23, Try.underlying3, Try.underlying4, eq23, fo23_0, fo23_1, fo23_2, fo23_3, fo23_4, fo23_5, fo23_6, fo23_7, ni23, ni3, ni4, sh23, sz23, sz3, sz4, zr23, zr3, zr4, rs36]
  repeat' first
    | with_reducible refine gw_seq ?_
    | with_reducible refine gw_block ?_
    | ((first
        | with_reducible refine gw_region ?_
        | with_reducible refine gw_if ?_
        | with_reducible refine gw_skip ?_
        | with_reducible refine gw_exit ?_
        | with_reducible refine gw_ret ?_
        | ((with_reducible refine gif_b (fun hb => ?_) (fun hb => ?_)) <;> try simp only [hb])
        | ((with_reducible refine want_t (fun hb => ?_) (fun hb => ?_)) <;> try simp only [hb])
        | ((with_reducible refine want_f (fun hb => ?_) (fun hb => ?_)) <;> try simp only [hb])
        | ((refine GTri.mono (c_rmay _ _ p) ?_); rintro _ h2 ⟨rfl, s2⟩; have m1 := s2 _ _ m1 ; have s1 := s1.trans s2)) <;> try simp only [List.map, gops_nil, gops_none, gops_some, kops_ap, kops_no, gop, optK_some, ev, lk, aenv, gyield, thenQ_n, thenQ_r, thenQ_x, blockQ_n, blockQ_r, blockQ_x, retQ_r, retQ_n, gret_0, gret_1, gret_2, gret_3, gret_c, gret_c1, gret_c2, gif_t, gif_f, want_tt, want_ff, want_tf, want_ft, gBin, gInt, gStrOp, gUn, gPick, gNil, gExtract, gIfc, gConvO, gIndexO, gIndexVO, gMakeV, gMinV, gMaxV, gBlt, gCallV, gAllocO_some, vcells, optH_some, Nat.reduceAdd, Nat.reduceSub, Nat.reduceMul, Nat.reduceLT, Nat.reduceLeDiff, Nat.reduceEqDiff, Nat.reduceBEq, reduceIte, Option.map_some, Option.getD_some, Option.some.injEq, List.getElem?_cons_succ, List.getElem?_cons_zero, List.length_cons, List.length_nil, List.cons_append, List.nil_append, List.append_nil, Array.toList_append, List.extract_toArray, List.extract_eq_take_drop, List.drop_succ_cons, List.drop_zero, List.take_succ_cons, List.take_zero, List.set_cons_zero, List.set_cons_succ, Int.cast_ofNat_Int, Int.reduceLT, Int.reduceLE, Int.reduceGT, Int.reduceGE, Int.reduceEq, Int.reduceNe, Int.reduceAdd, Int.reduceSub, Int.reduceMul, Int.reduceNeg, Int.reduceToNat, Int.reduceBEq, Int.reduceBNe, decide_true, decide_false, and_self, ite_true, ite_false, gField, gIndexV, gPart, wrap64, wrapu8, wrapu32, wrapu64, true_and, and_true, Bool.false_eq_true, eq_self_iff_true, Bool.not_true, Bool.not_false, Bool.or_false, Bool.false_or, Bool.true_and, Bool.and_true, Try.underlying23, Try.underlying3, Try.underlying4, eq23, fo23_0, fo23_1, fo23_2, fo23_3, fo23_4, fo23_5, fo23_6, fo23_7, ni23, ni3, ni4, sh23, sz23, sz3, sz4, zr23, zr3, zr4, rs36, gload1 m1 sz3, gloadA m1 sz23 rfl])
  · refine ⟨congrArg _ ?_, s1⟩
    simp only [Bool.not_eq_true'] at hb
    simp [Pm.eps, hb]
  · simp only [Bool.not_eq_false'] at hb
    have := p.may_iff.1 hb
    refine ⟨by omega, ?_⟩
    repeat' first
    | with_reducible refine gw_seq ?_
    | with_reducible refine gw_block ?_
    | ((first
        | with_reducible refine gw_region ?_
        | with_reducible refine gw_if ?_
        | with_reducible refine gw_skip ?_
        | with_reducible refine gw_exit ?_
        | with_reducible refine gw_ret ?_
        | ((with_reducible refine gif_b (fun hb => ?_) (fun hb => ?_)) <;> try simp only [hb])
        | ((with_reducible refine want_t (fun hb => ?_) (fun hb => ?_)) <;> try simp only [hb])
        | ((with_reducible refine want_f (fun hb => ?_) (fun hb => ?_)) <;> try simp only [hb])) <;> try simp only [List.map, gops_nil, gops_none, gops_some, kops_ap, kops_no, gop, optK_some, ev, lk, aenv, gyield, thenQ_n, thenQ_r, thenQ_x, blockQ_n, blockQ_r, blockQ_x, retQ_r, retQ_n, gret_0, gret_1, gret_2, gret_3, gret_c, gret_c1, gret_c2, gif_t, gif_f, want_tt, want_ff, want_tf, want_ft, gBin, gInt, gStrOp, gUn, gPick, gNil, gExtract, gIfc, gConvO, gIndexO, gIndexVO, gMakeV, gMinV, gMaxV, gBlt, gCallV, gAllocO_some, vcells, optH_some, Nat.reduceAdd, Nat.reduceSub, Nat.reduceMul, Nat.reduceLT, Nat.reduceLeDiff, Nat.reduceEqDiff, Nat.reduceBEq, reduceIte, Option.map_some, Option.getD_some, Option.some.injEq, List.getElem?_cons_succ, List.getElem?_cons_zero, List.length_cons, List.length_nil, List.cons_append, List.nil_append, List.append_nil, Array.toList_append, List.extract_toArray, List.extract_eq_take_drop, List.drop_succ_cons, List.drop_zero, List.take_succ_cons, List.take_zero, List.set_cons_zero, List.set_cons_succ, Int.cast_ofNat_Int, Int.reduceLT, Int.reduceLE, Int.reduceGT, Int.reduceGE, Int.reduceEq, Int.reduceNe, Int.reduceAdd, Int.reduceSub, Int.reduceMul, Int.reduceNeg, Int.reduceToNat, Int.reduceBEq, Int.reduceBNe, decide_true, decide_false, and_self, ite_true, ite_false, gField, gIndexV, gPart, wrap64, wrapu8, wrapu32, wrapu64, true_and, and_true, Bool.false_eq_true, eq_self_iff_true, Bool.not_true, Bool.not_false, Bool.or_false, Bool.false_or, Bool.true_and, Bool.and_true, Try.underlying23, Try.underlying3, Try.underlying4, eq23, fo23_0, fo23_1, fo23_2, fo23_3, fo23_4, fo23_5, fo23_6, fo23_7, ni23, ni3, ni4, sh23, sz23, sz3, sz4, zr23, zr3, zr4, rs36])
    refine ⟨congrArg _ ?_, s1⟩
    simp [Pm.eps, hb]

theorem c_rcheck (N : Nat) (h : GH) (p : Pm) : GTri Try.prog N 18 [p.v] h fun v h' => v = .int .i64 p.check ∧ HS h h' := by
  refine gtri Try.func18 rfl gf18 ok18 (by simp [Try.ntmps18]) ?_
  repeat' first
    | with_reducible refine gw_seq ?_
    | with_reducible refine gw_block ?_
    | ((first
        | with_reducible refine gw_region ?_
        | with_reducible refine gw_if ?_
        | with_reducible refine gw_skip ?_
        | with_reducible refine gw_exit ?_
        | with_reducible refine gw_ret ?_
        | ((with_reducible refine gif_b (fun hb => ?_) (fun hb => ?_)) <;> try simp only [hb])
        | ((with_reducible refine want_t (fun hb => ?_) (fun hb => ?_)) <;> try simp only [hb])
        | ((with_reducible refine want_f (fun hb => ?_) (fun hb => ?_)) <;> try simp only [hb])
        | with_reducible refine gw_draw [(0, []), (1, []), (2, []), (3, [1]), (4, [])] [0, 1, 0, 4, 15] mixed (by kernel_rfl) ?_
        | ((with_reducible refine dr_t (fun hb => ?_) (fun hb => ?_)) <;> try simp only [hb])
        | ((with_reducible refine dr_f (fun hb => ?_) (fun hb => ?_)) <;> try simp only [hb])) <;> try simp only [List.map, gops_nil, gops_none, gops_some, kops_ap, kops_no, gop, optK_some, ev, lk, aenv, gyield, thenQ_n, thenQ_r, thenQ_x, blockQ_n, blockQ_r, blockQ_x, retQ_r, retQ_n, gret_0, gret_1, gret_2, gret_3, gret_c, gret_c1, gret_c2, gif_t, gif_f, want_tt, want_ff, want_tf, want_ft, gBin, gInt, gStrOp, gUn, gPick, gNil, gExtract, gIfc, gConvO, gIndexO, gIndexVO, gMakeV, gMinV, gMaxV, gBlt, gCallV, gAllocO_some, vcells, optH_some, Nat.reduceAdd, Nat.reduceSub, Nat.reduceMul, Nat.reduceLT, Nat.reduceLeDiff, Nat.reduceEqDiff, Nat.reduceBEq, reduceIte, Option.map_some, Option.getD_some, Option.some.injEq, List.getElem?_cons_succ, List.getElem?_cons_zero, List.length_cons, List.length_nil, List.cons_append, List.nil_append, List.append_nil, Array.toList_append, List.extract_toArray, List.extract_eq_take_drop, List.drop_succ_cons, List.drop_zero, List.take_succ_cons, List.take_zero, List.set_cons_zero, List.set_cons_succ, Int.cast_ofNat_Int, Int.reduceLT, Int.reduceLE, Int.reduceGT, Int.reduceGE, Int.reduceEq, Int.reduceNe, Int.reduceAdd, Int.reduceSub, Int.reduceMul, Int.reduceNeg, Int.reduceToNat, Int.reduceBEq, Int.reduceBNe, decide_true, decide_false, and_self, ite_true, ite_false, gField, gIndexV, gPart, wrap64, wrapu8, wrapu32, wrapu64, true_and, and_true, Bool.false_eq_true, eq_self_iff_true, Bool.not_true, Bool.not_false, Bool.or_false, Bool.false_or, Bool.true_and, Bool.and_true, gdr_nil, gdr_none, gdr_some, gdrO_t, gdrO_f, gdrW_tt, gdrW_ff, gdrW_tf, gdrW_ft, eput_s, eput_n, kdrF_ap, kdrE_ap, wput_n, wput_s, chk_n, chk_c, chk1_n, chk1_s, rvOf, wlk, rdv, isEff, dsOf, sgl, List.getElem?_toArray, Try.underlying23, Try.underlying3, Try.underlying4, eq23, fo23_0, fo23_1, fo23_2, fo23_3, fo23_4, fo23_5, fo23_6, fo23_7, ni23, ni3, ni4, sh23, sz23, sz3, sz4, zr23, zr3, zr4, rs18, Pm.v])
  refine box_g rfl fun k1 h1 m1 s1 f1 n1 => ?_
  simp only [List.map, gops_nil, gops_none, gops_some, kops_ap, kops_no, gop, optK_some, ev, lk, aenv, gyield, thenQ_n, thenQ_r, thenQ_x, blockQ_n, blockQ_r, blockQ_x, retQ_r, retQ_n, gret_0, gret_1, gret_2, gret_3, gret_c, gret_c1, gret_c2, gif_t, gif_f, want_tt, want_ff, want_tf, want_ft, gBin, gInt, gStrOp, gUn, gPick, gNil, gExtract, gIfc, gConvO, gIndexO, gIndexVO, gMakeV, gMinV, gMaxV, gBlt, gCallV, gAllocO_some, vcells, optH_some, Nat.reduceAdd, Nat.reduceSub, Nat.reduceMul, Nat.reduceLT, Nat.reduceLeDiff, Nat.reduceEqDiff, Nat.reduceBEq, reduceIte, Option.map_some, Option.getD_some, Option.some.injEq, List.getElem?_cons_succ, List.getElem?_cons_zero, List.length_cons, List.length_nil, List.cons_append, List.nil_append, List.append_nil, Array.toList_append, List.extract_toArray, List.extract_eq_take_drop, List.drop_succ_cons, List.drop_zero, List.take_succ_cons, List.take_zero, List.set_cons_zero, List.set_cons_succ, Int.cast_ofNat_Int, Int.reduceLT, Int.reduceLE, Int.reduceGT, Int.reduceGE, Int.reduceEq, Int.reduceNe, Int.reduceAdd, Int.reduceSub, Int.reduceMul, Int.reduceNeg, Int.reduceToNat, Int.reduceBEq, Int.reduceBNe, decide_true, decide_false, and_self, ite_true, ite_false, gField, gIndexV, gPart, wrap64, wrapu8, wrapu32, wrapu64, true_and, and_true, Bool.false_eq_true, eq_self_iff_true, Bool.not_true, Bool.not_false, Bool.or_false, Bool.false_or, Bool.true_and, Bool.and_true, Try.underlying23, Try.underlying3, Try.underlying4, eq23, fo23_0, fo23_1, fo23_2, fo23_3, fo23_4, fo23_5, fo23_6, fo23_7, ni23, ni3, ni4, sh23, sz23, sz3, sz4, zr23, zr3, zr4, rs18]
  repeat' first
    | with_reducible refine gw_seq ?_
    | with_reducible refine gw_block ?_
    | ((first
        | with_reducible refine gw_region ?_
        | with_reducible refine gw_if ?_
        | with_reducible refine gw_skip ?_
        | with_reducible refine gw_exit ?_
        | with_reducible refine gw_ret ?_
        | ((with_reducible refine gif_b (fun hb => ?_) (fun hb => ?_)) <;> try simp only [hb])
        | ((with_reducible refine want_t (fun hb => ?_) (fun hb => ?_)) <;> try simp only [hb])
        | ((with_reducible refine want_f (fun hb => ?_) (fun hb => ?_)) <;> try simp only [hb])
        | with_reducible refine gw_draw [(0, []), (1, []), (2, []), (3, [1]), (4, [])] [0, 1, 0, 4, 15] mixed (by kernel_rfl) ?_
        | ((with_reducible refine dr_t (fun hb => ?_) (fun hb => ?_)) <;> try simp only [hb])
        | ((with_reducible refine dr_f (fun hb => ?_) (fun hb => ?_)) <;> try simp only [hb])
        | ((refine GTri.mono (c_rmay _ _ p) ?_); rintro _ h2 ⟨rfl, s2⟩; have m1 := s2 _ _ m1 ; have s1 := s1.trans s2)
        | ((refine GTri.mono (c_within _ _ _ _ _) ?_); rintro _ _ ⟨rfl, rfl⟩)
        | ((refine GTri.mono (c_rneed _ _ p) ?_); rintro _ h2 ⟨rfl, s2⟩; have m1 := s2 _ _ m1 ; have s1 := s1.trans s2)) <;> try simp only [List.map, gops_nil, gops_none, gops_some, kops_ap, kops_no, gop, optK_some, ev, lk, aenv, gyield, thenQ_n, thenQ_r, thenQ_x, blockQ_n, blockQ_r, blockQ_x, retQ_r, retQ_n, gret_0, gret_1, gret_2, gret_3, gret_c, gret_c1, gret_c2, gif_t, gif_f, want_tt, want_ff, want_tf, want_ft, gBin, gInt, gStrOp, gUn, gPick, gNil, gExtract, gIfc, gConvO, gIndexO, gIndexVO, gMakeV, gMinV, gMaxV, gBlt, gCallV, gAllocO_some, vcells, optH_some, Nat.reduceAdd, Nat.reduceSub, Nat.reduceMul, Nat.reduceLT, Nat.reduceLeDiff, Nat.reduceEqDiff, Nat.reduceBEq, reduceIte, Option.map_some, Option.getD_some, Option.some.injEq, List.getElem?_cons_succ, List.getElem?_cons_zero, List.length_cons, List.length_nil, List.cons_append, List.nil_append, List.append_nil, Array.toList_append, List.extract_toArray, List.extract_eq_take_drop, List.drop_succ_cons, List.drop_zero, List.take_succ_cons, List.take_zero, List.set_cons_zero, List.set_cons_succ, Int.cast_ofNat_Int, Int.reduceLT, Int.reduceLE, Int.reduceGT, Int.reduceGE, Int.reduceEq, Int.reduceNe, Int.reduceAdd, Int.reduceSub, Int.reduceMul, Int.reduceNeg, Int.reduceToNat, Int.reduceBEq, Int.reduceBNe, decide_true, decide_false, and_self, ite_true, ite_false, gField, gIndexV, gPart, wrap64, wrapu8, wrapu32, wrapu64, true_and, and_true, Bool.false_eq_true, eq_self_iff_true, Bool.not_true, Bool.not_false, Bool.or_false, Bool.false_or, Bool.true_and, Bool.and_true, gdr_nil, gdr_none, gdr_some, gdrO_t, gdrO_f, gdrW_tt, gdrW_ff, gdrW_tf, gdrW_ft, eput_s, eput_n, kdrF_ap, kdrE_ap, wput_n, wput_s, chk_n, chk_c, chk1_n, chk1_s, rvOf, wlk, rdv, isEff, dsOf, sgl, List.getElem?_toArray, Try.underlying23, Try.underlying3, Try.underlying4, eq23, fo23_0, fo23_1, fo23_2, fo23_3, fo23_4, fo23_5, fo23_6, fo23_7, ni23, ni3, ni4, sh23, sz23, sz3, sz4, zr23, zr3, zr4, rs18, gload1 m1 sz3, gloadA m1 sz23 rfl])
  all_goals refine ⟨congrArg _ ?_, s1⟩
  all_goals
    simp only [Bool.not_eq_true', Bool.not_eq_false', decide_eq_true_eq, decide_eq_false_iff_not, inB] at *
    simp [Pm.check, *] <;> omega

def Pm.small : Pm := ⟨4, 2, 2, 4, 10, 781, 1, 3⟩
theorem c_small (N : Nat) (h : GH) : GTri Try.prog N 72 [] h fun v h' => v = Pm.small.v ∧ HS h h' := by
  refine gtri Try.func72 rfl gf72 ok72 (by simp [Try.ntmps72]) ?_
  repeat' first
    | with_reducible refine gw_seq ?_
    | with_reducible refine gw_block ?_
    | ((first
        | with_reducible refine gw_region ?_
        | with_reducible refine gw_if ?_
        | with_reducible refine gw_skip ?_
        | with_reducible refine gw_exit ?_
        | with_reducible refine gw_ret ?_
        | ((with_reducible refine gif_b (fun hb => ?_) (fun hb => ?_)) <;> try simp only [hb])
        | ((with_reducible refine want_t (fun hb => ?_) (fun hb => ?_)) <;> try simp only [hb])
        | ((with_reducible refine want_f (fun hb => ?_) (fun hb => ?_)) <;> try simp only [hb])) <;> try simp only [List.map, gops_nil, gops_none, gops_some, kops_ap, kops_no, gop, optK_some, ev, lk, aenv, gyield, thenQ_n, thenQ_r, thenQ_x, blockQ_n, blockQ_r, blockQ_x, retQ_r, retQ_n, gret_0, gret_1, gret_2, gret_3, gret_c, gret_c1, gret_c2, gif_t, gif_f, want_tt, want_ff, want_tf, want_ft, gBin, gInt, gStrOp, gUn, gPick, gNil, gExtract, gIfc, gConvO, gIndexO, gIndexVO, gMakeV, gMinV, gMaxV, gBlt, gCallV, gAllocO_some, vcells, optH_some, Nat.reduceAdd, Nat.reduceSub, Nat.reduceMul, Nat.reduceLT, Nat.reduceLeDiff, Nat.reduceEqDiff, Nat.reduceBEq, reduceIte, Option.map_some, Option.getD_some, Option.some.injEq, List.getElem?_cons_succ, List.getElem?_cons_zero, List.length_cons, List.length_nil, List.cons_append, List.nil_append, List.append_nil, Array.toList_append, List.extract_toArray, List.extract_eq_take_drop, List.drop_succ_cons, List.drop_zero, List.take_succ_cons, List.take_zero, List.set_cons_zero, List.set_cons_succ, Int.cast_ofNat_Int, Int.reduceLT, Int.reduceLE, Int.reduceGT, Int.reduceGE, Int.reduceEq, Int.reduceNe, Int.reduceAdd, Int.reduceSub, Int.reduceMul, Int.reduceNeg, Int.reduceToNat, Int.reduceBEq, Int.reduceBNe, decide_true, decide_false, and_self, ite_true, ite_false, gField, gIndexV, gPart, wrap64, wrapu8, wrapu32, wrapu64, true_and, and_true, Bool.false_eq_true, eq_self_iff_true, Bool.not_true, Bool.not_false, Bool.or_false, Bool.false_or, Bool.true_and, Bool.and_true, Try.underlying23, Try.underlying3, eq23, fo23_0, fo23_1, fo23_2, fo23_3, fo23_4, fo23_5, fo23_6, fo23_7, ni23, ni3, sh23, sz23, sz3, zr23, zr3, rs72, gBuild, lfill, lput, Shape.pl, List.all_cons, List.all_nil, isCell])
  refine new_g fun k1 h1 m1 s1 f1 n1 => ?_
  simp only [List.map, gops_nil, gops_none, gops_some, kops_ap, kops_no, gop, optK_some, ev, lk, aenv, gyield, thenQ_n, thenQ_r, thenQ_x, blockQ_n, blockQ_r, blockQ_x, retQ_r, retQ_n, gret_0, gret_1, gret_2, gret_3, gret_c, gret_c1, gret_c2, gif_t, gif_f, want_tt, want_ff, want_tf, want_ft, gBin, gInt, gStrOp, gUn, gPick, gNil, gExtract, gIfc, gConvO, gIndexO, gIndexVO, gMakeV, gMinV, gMaxV, gBlt, gCallV, gAllocO_some, vcells, optH_some, Nat.reduceAdd, Nat.reduceSub, Nat.reduceMul, Nat.reduceLT, Nat.reduceLeDiff, Nat.reduceEqDiff, Nat.reduceBEq, reduceIte, Option.map_some, Option.getD_some, Option.some.injEq, List.getElem?_cons_succ, List.getElem?_cons_zero, List.length_cons, List.length_nil, List.cons_append, List.nil_append, List.append_nil, Array.toList_append, List.extract_toArray, List.extract_eq_take_drop, List.drop_succ_cons, List.drop_zero, List.take_succ_cons, List.take_zero, List.set_cons_zero, List.set_cons_succ, Int.cast_ofNat_Int, Int.reduceLT, Int.reduceLE, Int.reduceGT, Int.reduceGE, Int.reduceEq, Int.reduceNe, Int.reduceAdd, Int.reduceSub, Int.reduceMul, Int.reduceNeg, Int.reduceToNat, Int.reduceBEq, Int.reduceBNe, decide_true, decide_false, and_self, ite_true, ite_false, gField, gIndexV, gPart, wrap64, wrapu8, wrapu32, wrapu64, true_and, and_true, Bool.false_eq_true, eq_self_iff_true, Bool.not_true, Bool.not_false, Bool.or_false, Bool.false_or, Bool.true_and, Bool.and_true, Try.underlying23, Try.underlying3, eq23, fo23_0, fo23_1, fo23_2, fo23_3, fo23_4, fo23_5, fo23_6, fo23_7, ni23, ni3, sh23, sz23, sz3, zr23, zr3, rs72]
  repeat' first
    | with_reducible refine gw_seq ?_
    | with_reducible refine gw_block ?_
    | ((first
        | with_reducible refine gw_region ?_
        | with_reducible refine gw_if ?_
        | with_reducible refine gw_skip ?_
        | with_reducible refine gw_exit ?_
        | with_reducible refine gw_ret ?_
        | ((with_reducible refine gif_b (fun hb => ?_) (fun hb => ?_)) <;> try simp only [hb])
        | ((with_reducible refine want_t (fun hb => ?_) (fun hb => ?_)) <;> try simp only [hb])
        | ((with_reducible refine want_f (fun hb => ?_) (fun hb => ?_)) <;> try simp only [hb])) <;> try simp only [List.map, gops_nil, gops_none, gops_some, kops_ap, kops_no, gop, optK_some, ev, lk, aenv, gyield, thenQ_n, thenQ_r, thenQ_x, blockQ_n, blockQ_r, blockQ_x, retQ_r, retQ_n, gret_0, gret_1, gret_2, gret_3, gret_c, gret_c1, gret_c2, gif_t, gif_f, want_tt, want_ff, want_tf, want_ft, gBin, gInt, gStrOp, gUn, gPick, gNil, gExtract, gIfc, gConvO, gIndexO, gIndexVO, gMakeV, gMinV, gMaxV, gBlt, gCallV, gAllocO_some, vcells, optH_some, Nat.reduceAdd, Nat.reduceSub, Nat.reduceMul, Nat.reduceLT, Nat.reduceLeDiff, Nat.reduceEqDiff, Nat.reduceBEq, reduceIte, Option.map_some, Option.getD_some, Option.some.injEq, List.getElem?_cons_succ, List.getElem?_cons_zero, List.length_cons, List.length_nil, List.cons_append, List.nil_append, List.append_nil, Array.toList_append, List.extract_toArray, List.extract_eq_take_drop, List.drop_succ_cons, List.drop_zero, List.take_succ_cons, List.take_zero, List.set_cons_zero, List.set_cons_succ, Int.cast_ofNat_Int, Int.reduceLT, Int.reduceLE, Int.reduceGT, Int.reduceGE, Int.reduceEq, Int.reduceNe, Int.reduceAdd, Int.reduceSub, Int.reduceMul, Int.reduceNeg, Int.reduceToNat, Int.reduceBEq, Int.reduceBNe, decide_true, decide_false, and_self, ite_true, ite_false, gField, gIndexV, gPart, wrap64, wrapu8, wrapu32, wrapu64, true_and, and_true, Bool.false_eq_true, eq_self_iff_true, Bool.not_true, Bool.not_false, Bool.or_false, Bool.false_or, Bool.true_and, Bool.and_true, Try.underlying23, Try.underlying3, eq23, fo23_0, fo23_1, fo23_2, fo23_3, fo23_4, fo23_5, fo23_6, fo23_7, ni23, ni3, sh23, sz23, sz3, zr23, zr3, rs72, gBuild, lfill, lput, Shape.pl, List.all_cons, List.all_nil, isCell])
  refine st_all m1 sz23 rfl (by decide) rfl rfl rfl fun h2 m2 f2 => ?_
  simp only [List.map, gops_nil, gops_none, gops_some, kops_ap, kops_no, gop, optK_some, ev, lk, aenv, gyield, thenQ_n, thenQ_r, thenQ_x, blockQ_n, blockQ_r, blockQ_x, retQ_r, retQ_n, gret_0, gret_1, gret_2, gret_3, gret_c, gret_c1, gret_c2, gif_t, gif_f, want_tt, want_ff, want_tf, want_ft, gBin, gInt, gStrOp, gUn, gPick, gNil, gExtract, gIfc, gConvO, gIndexO, gIndexVO, gMakeV, gMinV, gMaxV, gBlt, gCallV, gAllocO_some, vcells, optH_some, Nat.reduceAdd, Nat.reduceSub, Nat.reduceMul, Nat.reduceLT, Nat.reduceLeDiff, Nat.reduceEqDiff, Nat.reduceBEq, reduceIte, Option.map_some, Option.getD_some, Option.some.injEq, List.getElem?_cons_succ, List.getElem?_cons_zero, List.length_cons, List.length_nil, List.cons_append, List.nil_append, List.append_nil, Array.toList_append, List.extract_toArray, List.extract_eq_take_drop, List.drop_succ_cons, List.drop_zero, List.take_succ_cons, List.take_zero, List.set_cons_zero, List.set_cons_succ, Int.cast_ofNat_Int, Int.reduceLT, Int.reduceLE, Int.reduceGT, Int.reduceGE, Int.reduceEq, Int.reduceNe, Int.reduceAdd, Int.reduceSub, Int.reduceMul, Int.reduceNeg, Int.reduceToNat, Int.reduceBEq, Int.reduceBNe, decide_true, decide_false, and_self, ite_true, ite_false, gField, gIndexV, gPart, wrap64, wrapu8, wrapu32, wrapu64, true_and, and_true, Bool.false_eq_true, eq_self_iff_true, Bool.not_true, Bool.not_false, Bool.or_false, Bool.false_or, Bool.true_and, Bool.and_true, Try.underlying23, Try.underlying3, eq23, fo23_0, fo23_1, fo23_2, fo23_3, fo23_4, fo23_5, fo23_6, fo23_7, ni23, ni3, sh23, sz23, sz3, zr23, zr3, rs72]
  repeat' first
    | with_reducible refine gw_seq ?_
    | with_reducible refine gw_block ?_
    | ((first
        | with_reducible refine gw_region ?_
        | with_reducible refine gw_if ?_
        | with_reducible refine gw_skip ?_
        | with_reducible refine gw_exit ?_
        | with_reducible refine gw_ret ?_
        | ((with_reducible refine gif_b (fun hb => ?_) (fun hb => ?_)) <;> try simp only [hb])
        | ((with_reducible refine want_t (fun hb => ?_) (fun hb => ?_)) <;> try simp only [hb])
        | ((with_reducible refine want_f (fun hb => ?_) (fun hb => ?_)) <;> try simp only [hb])) <;> try simp only [List.map, gops_nil, gops_none, gops_some, kops_ap, kops_no, gop, optK_some, ev, lk, aenv, gyield, thenQ_n, thenQ_r, thenQ_x, blockQ_n, blockQ_r, blockQ_x, retQ_r, retQ_n, gret_0, gret_1, gret_2, gret_3, gret_c, gret_c1, gret_c2, gif_t, gif_f, want_tt, want_ff, want_tf, want_ft, gBin, gInt, gStrOp, gUn, gPick, gNil, gExtract, gIfc, gConvO, gIndexO, gIndexVO, gMakeV, gMinV, gMaxV, gBlt, gCallV, gAllocO_some, vcells, optH_some, Nat.reduceAdd, Nat.reduceSub, Nat.reduceMul, Nat.reduceLT, Nat.reduceLeDiff, Nat.reduceEqDiff, Nat.reduceBEq, reduceIte, Option.map_some, Option.getD_some, Option.some.injEq, List.getElem?_cons_succ, List.getElem?_cons_zero, List.length_cons, List.length_nil, List.cons_append, List.nil_append, List.append_nil, Array.toList_append, List.extract_toArray, List.extract_eq_take_drop, List.drop_succ_cons, List.drop_zero, List.take_succ_cons, List.take_zero, List.set_cons_zero, List.set_cons_succ, Int.cast_ofNat_Int, Int.reduceLT, Int.reduceLE, Int.reduceGT, Int.reduceGE, Int.reduceEq, Int.reduceNe, Int.reduceAdd, Int.reduceSub, Int.reduceMul, Int.reduceNeg, Int.reduceToNat, Int.reduceBEq, Int.reduceBNe, decide_true, decide_false, and_self, ite_true, ite_false, gField, gIndexV, gPart, wrap64, wrapu8, wrapu32, wrapu64, true_and, and_true, Bool.false_eq_true, eq_self_iff_true, Bool.not_true, Bool.not_false, Bool.or_false, Bool.false_or, Bool.true_and, Bool.and_true, Try.underlying23, Try.underlying3, eq23, fo23_0, fo23_1, fo23_2, fo23_3, fo23_4, fo23_5, fo23_6, fo23_7, ni23, ni3, sh23, sz23, sz3, zr23, zr3, rs72, gloadA m2 sz23 rfl])
  have s2 := (HS.refl h).upd n1 (fun j hj => (f2 j hj).trans (f1 j hj))
  first | exact s2 | exact ⟨rfl, s2⟩

theorem c_awake15 (N : Nat) (h : GH) : GTri Try.prog N 19 [] h fun v h' => v = .bool true ∧ HS h h' := by
  refine gtri Try.func19 rfl gf19 ok19 (by simp [Try.ntmps19]) ?_
  have s1 := HS.refl h
  repeat' first
    | with_reducible refine gw_seq ?_
    | with_reducible refine gw_block ?_
    | ((first
        | with_reducible refine gw_region ?_
        | with_reducible refine gw_if ?_
        | with_reducible refine gw_skip ?_
        | with_reducible refine gw_exit ?_
        | with_reducible refine gw_ret ?_
        | ((with_reducible refine gif_b (fun hb => ?_) (fun hb => ?_)) <;> try simp only [hb])
        | ((with_reducible refine want_t (fun hb => ?_) (fun hb => ?_)) <;> try simp only [hb])
        | ((with_reducible refine want_f (fun hb => ?_) (fun hb => ?_)) <;> try simp only [hb])
        | ((refine GTri.mono (c_small _ _) ?_); rintro _ h2 ⟨rfl, s2⟩; have s1 := s1.trans s2)
        | ((refine GTri.mono (c_check _ _ Pm.small) ?_); rintro _ h2 ⟨rfl, s2⟩; have s1 := s1.trans s2)
        | ((refine GTri.mono (c_need _ _ Pm.small) ?_); rintro _ h2 ⟨rfl, s2⟩; have s1 := s1.trans s2)) <;> try simp only [List.map, gops_nil, gops_none, gops_some, kops_ap, kops_no, gop, optK_some, ev, lk, aenv, gyield, thenQ_n, thenQ_r, thenQ_x, blockQ_n, blockQ_r, blockQ_x, retQ_r, retQ_n, gret_0, gret_1, gret_2, gret_3, gret_c, gret_c1, gret_c2, gif_t, gif_f, want_tt, want_ff, want_tf, want_ft, gBin, gInt, gStrOp, gUn, gPick, gNil, gExtract, gIfc, gConvO, gIndexO, gIndexVO, gMakeV, gMinV, gMaxV, gBlt, gCallV, gAllocO_some, vcells, optH_some, Nat.reduceAdd, Nat.reduceSub, Nat.reduceMul, Nat.reduceLT, Nat.reduceLeDiff, Nat.reduceEqDiff, Nat.reduceBEq, reduceIte, Option.map_some, Option.getD_some, Option.some.injEq, List.getElem?_cons_succ, List.getElem?_cons_zero, List.length_cons, List.length_nil, List.cons_append, List.nil_append, List.append_nil, Array.toList_append, List.extract_toArray, List.extract_eq_take_drop, List.drop_succ_cons, List.drop_zero, List.take_succ_cons, List.take_zero, List.set_cons_zero, List.set_cons_succ, Int.cast_ofNat_Int, Int.reduceLT, Int.reduceLE, Int.reduceGT, Int.reduceGE, Int.reduceEq, Int.reduceNe, Int.reduceAdd, Int.reduceSub, Int.reduceMul, Int.reduceNeg, Int.reduceToNat, Int.reduceBEq, Int.reduceBNe, decide_true, decide_false, and_self, ite_true, ite_false, gField, gIndexV, gPart, wrap64, wrapu8, wrapu32, wrapu64, true_and, and_true, Bool.false_eq_true, eq_self_iff_true, Bool.not_true, Bool.not_false, Bool.or_false, Bool.false_or, Bool.true_and, Bool.and_true, Try.underlying23, Try.underlying24, Try.underlying3, eq23, fo23_0, fo23_1, fo23_2, fo23_3, fo23_4, fo23_5, fo23_6, fo23_7, ni23, ni24, ni3, sh23, sz23, sz24, sz3, zr23, zr24, zr3, rs19, show Pm.small.check = 0 from rfl, show Pm.small.need = 781 from rfl])
  first | exact s1 | exact ⟨rfl, s1⟩
end Go.Gh
