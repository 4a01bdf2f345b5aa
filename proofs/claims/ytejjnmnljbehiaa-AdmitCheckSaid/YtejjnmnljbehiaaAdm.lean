/- Contracts of admit and its reference: the checks. -/
import Derived.Test.YtejjnmnljbehiaaGh16
import Derived.Test.YtejjnmnljbehiaaGhF
namespace Go.Gh
open Go Go.Proofs Go.RowKit
set_option linter.unusedVariables false
set_option linter.unusedSimpArgs false
set_option maxRecDepth 100000

structure Pm where
  (s ht mi my ch ar ca pg : Int)
def Pm.v (p : Pm) : Value := .agg #[.int .i64 p.s, .int .i64 p.ht, .int .i64 p.mi, .int .i64 p.my, .int .i64 p.ch, .int .i64 p.ar, .int .i64 p.ca, .int .i64 p.pg]
def inB (n lo hi : Int) : Bool := decide (lo ≤ n ∧ n ≤ hi)
def Pm.may (p : Pm) : Bool := inB p.s 1 32 && inB p.ht 0 8 && inB p.mi 0 24 && inB p.my 0 48 && inB p.ch 0 4096 && inB p.ca 0 8 && inB p.pg 1 32

def Pm.ck (p : Pm) : Nat → Bool
  | 0 => inB p.s 1 32
  | 1 => inB p.ht 0 8
  | 2 => inB p.mi 0 24
  | 3 => inB p.my 0 48
  | 4 => inB p.ch 0 4096
  | 5 => inB p.ca 0 8
  | _ => inB p.pg 1 32

theorem c_within (N : Nat) (h : GH) (n lo hi : Int) : GTri Try.prog N 71 [.int .i64 n, .int .i64 lo, .int .i64 hi] h fun v h' => v = .bool (inB n lo hi) ∧ h' = h := by
  refine gtri Try.func71 rfl gf71 ok71 (by simp [Try.ntmps71]) ?_
  repeat' first
    | with_reducible refine gw_seq ?_
    | with_reducible refine gw_block ?_
    | ((first
        | with_reducible refine gw_region ?_
        | with_reducible refine gw_if ?_
        | with_reducible refine gw_skip ?_
        | with_reducible refine gw_exit ?_
        | with_reducible refine gw_ret ?_
        | ((with_reducible refine gif_b (fun hb => ?_) (fun hb => ?_)) <;> try simp only [hb])
        | ((with_reducible refine want_t (fun hb => ?_) (fun hb => ?_)) <;> try simp only [hb])
        | ((with_reducible refine want_f (fun hb => ?_) (fun hb => ?_)) <;> try simp only [hb])) <;> try simp only [List.map, gops_nil, gops_none, gops_some, kops_ap, kops_no, gop, optK_some, ev, lk, aenv, gyield, thenQ_n, thenQ_r, thenQ_x, blockQ_n, blockQ_r, blockQ_x, retQ_r, retQ_n, gret_0, gret_1, gret_2, gret_3, gret_c, gret_c1, gret_c2, gif_t, gif_f, want_tt, want_ff, want_tf, want_ft, gBin, gInt, gStrOp, gUn, gPick, gNil, gExtract, gIfc, gConvO, gIndexO, gIndexVO, gMakeV, gMinV, gMaxV, gBlt, gCallV, gAllocO_some, vcells, optH_some, Nat.reduceAdd, Nat.reduceSub, Nat.reduceMul, Nat.reduceLT, Nat.reduceLeDiff, Nat.reduceEqDiff, Nat.reduceBEq, reduceIte, Option.map_some, Option.getD_some, Option.some.injEq, List.getElem?_cons_succ, List.getElem?_cons_zero, List.length_cons, List.length_nil, List.cons_append, List.nil_append, List.append_nil, Array.toList_append, List.extract_toArray, List.extract_eq_take_drop, List.drop_succ_cons, List.drop_zero, List.take_succ_cons, List.take_zero, List.set_cons_zero, List.set_cons_succ, Int.cast_ofNat_Int, Int.reduceLT, Int.reduceLE, Int.reduceGT, Int.reduceGE, Int.reduceEq, Int.reduceNe, Int.reduceAdd, Int.reduceSub, Int.reduceMul, Int.reduceNeg, Int.reduceToNat, Int.reduceBEq, Int.reduceBNe, decide_true, decide_false, and_self, ite_true, ite_false, gField, gIndexV, gPart, wrap64, wrapu8, wrapu32, wrapu64, true_and, and_true, Bool.false_eq_true, eq_self_iff_true, Bool.not_true, Bool.not_false, Bool.or_false, Bool.false_or, Bool.true_and, Bool.and_true, Try.underlying3, ni3, sz3, zr3, rs71])
  all_goals
    simp [inB] at *
    try omega

theorem c_rmay (N : Nat) (h : GH) (p : Pm) : GTri Try.prog N 70 [p.v] h fun v h' => v = .bool p.may ∧ HS h h' := by
  refine gtri Try.func70 rfl gf70 ok70 (by simp [Try.ntmps70]) ?_
  refine gw_seq (gw_region ?_)
  simp only [List.map, gops_nil, gops_none, gops_some, kops_ap, kops_no, gop, optK_some, ev, lk, aenv, gyield, thenQ_n, thenQ_r, thenQ_x, blockQ_n, blockQ_r, blockQ_x, retQ_r, retQ_n, gret_0, gret_1, gret_2, gret_3, gret_c, gret_c1, gret_c2, gif_t, gif_f, want_tt, want_ff, want_tf, want_ft, gBin, gInt, gStrOp, gUn, gPick, gNil, gExtract, gIfc, gConvO, gIndexO, gIndexVO, gMakeV, gMinV, gMaxV, gBlt, gCallV, gAllocO_some, vcells, optH_some, Nat.reduceAdd, Nat.reduceSub, Nat.reduceMul, Nat.reduceLT, Nat.reduceLeDiff, Nat.reduceEqDiff, Nat.reduceBEq, reduceIte, Option.map_some, Option.getD_some, Option.some.injEq, List.getElem?_cons_succ, List.getElem?_cons_zero, List.length_cons, List.length_nil, List.cons_append, List.nil_append, List.append_nil, Array.toList_append, List.extract_toArray, List.extract_eq_take_drop, List.drop_succ_cons, List.drop_zero, List.take_succ_cons, List.take_zero, List.set_cons_zero, List.set_cons_succ, Int.cast_ofNat_Int, Int.reduceLT, Int.reduceLE, Int.reduceGT, Int.reduceGE, Int.reduceEq, Int.reduceNe, Int.reduceAdd, Int.reduceSub, Int.reduceMul, Int.reduceNeg, Int.reduceToNat, Int.reduceBEq, Int.reduceBNe, decide_true, decide_false, and_self, ite_true, ite_false, gField, gIndexV, gPart, wrap64, wrapu8, wrapu32, wrapu64, true_and, and_true, Bool.false_eq_true, eq_self_iff_true, Bool.not_true, Bool.not_false, Bool.or_false, Bool.false_or, Bool.true_and, Bool.and_true, Try.underlying23, Try.underlying3, eq23, fo23_0, fo23_1, fo23_2, fo23_3, fo23_4, fo23_5, fo23_6, fo23_7, ni23, ni3, sh23, sz23, sz3, zr23, zr3, rs70, Pm.v]
  refine box_g rfl fun k1 h1 m1 s1 f1 n1 => ?_
  simp only [List.map, gops_nil, gops_none, gops_some, kops_ap, kops_no, gop, optK_some, ev, lk, aenv, gyield, thenQ_n, thenQ_r, thenQ_x, blockQ_n, blockQ_r, blockQ_x, retQ_r, retQ_n, gret_0, gret_1, gret_2, gret_3, gret_c, gret_c1, gret_c2, gif_t, gif_f, want_tt, want_ff, want_tf, want_ft, gBin, gInt, gStrOp, gUn, gPick, gNil, gExtract, gIfc, gConvO, gIndexO, gIndexVO, gMakeV, gMinV, gMaxV, gBlt, gCallV, gAllocO_some, vcells, optH_some, Nat.reduceAdd, Nat.reduceSub, Nat.reduceMul, Nat.reduceLT, Nat.reduceLeDiff, Nat.reduceEqDiff, Nat.reduceBEq, reduceIte, Option.map_some, Option.getD_some, Option.some.injEq, List.getElem?_cons_succ, List.getElem?_cons_zero, List.length_cons, List.length_nil, List.cons_append, List.nil_append, List.append_nil, Array.toList_append, List.extract_toArray, List.extract_eq_take_drop, List.drop_succ_cons, List.drop_zero, List.take_succ_cons, List.take_zero, List.set_cons_zero, List.set_cons_succ, Int.cast_ofNat_Int, Int.reduceLT, Int.reduceLE, Int.reduceGT, Int.reduceGE, Int.reduceEq, Int.reduceNe, Int.reduceAdd, Int.reduceSub, Int.reduceMul, Int.reduceNeg, Int.reduceToNat, Int.reduceBEq, Int.reduceBNe, decide_true, decide_false, and_self, ite_true, ite_false, gField, gIndexV, gPart, wrap64, wrapu8, wrapu32, wrapu64, true_and, and_true, Bool.false_eq_true, eq_self_iff_true, Bool.not_true, Bool.not_false, Bool.or_false, Bool.false_or, Bool.true_and, Bool.and_true, Try.underlying23, Try.underlying3, eq23, fo23_0, fo23_1, fo23_2, fo23_3, fo23_4, fo23_5, fo23_6, fo23_7, ni23, ni3, sh23, sz23, sz3, zr23, zr3, rs70]
  repeat' first
    | with_reducible refine gw_seq ?_
    | with_reducible refine gw_block ?_
    | ((first
        | with_reducible refine gw_region ?_
        | with_reducible refine gw_if ?_
        | with_reducible refine gw_skip ?_
        | with_reducible refine gw_exit ?_
        | with_reducible refine gw_ret ?_
        | ((with_reducible refine gif_b (fun hb => ?_) (fun hb => ?_)) <;> try simp only [hb])
        | ((with_reducible refine want_t (fun hb => ?_) (fun hb => ?_)) <;> try simp only [hb])
        | ((with_reducible refine want_f (fun hb => ?_) (fun hb => ?_)) <;> try simp only [hb])
        | ((refine GTri.mono (c_within _ _ _ _ _) ?_); rintro _ _ ⟨rfl, rfl⟩)) <;> try simp only [List.map, gops_nil, gops_none, gops_some, kops_ap, kops_no, gop, optK_some, ev, lk, aenv, gyield, thenQ_n, thenQ_r, thenQ_x, blockQ_n, blockQ_r, blockQ_x, retQ_r, retQ_n, gret_0, gret_1, gret_2, gret_3, gret_c, gret_c1, gret_c2, gif_t, gif_f, want_tt, want_ff, want_tf, want_ft, gBin, gInt, gStrOp, gUn, gPick, gNil, gExtract, gIfc, gConvO, gIndexO, gIndexVO, gMakeV, gMinV, gMaxV, gBlt, gCallV, gAllocO_some, vcells, optH_some, Nat.reduceAdd, Nat.reduceSub, Nat.reduceMul, Nat.reduceLT, Nat.reduceLeDiff, Nat.reduceEqDiff, Nat.reduceBEq, reduceIte, Option.map_some, Option.getD_some, Option.some.injEq, List.getElem?_cons_succ, List.getElem?_cons_zero, List.length_cons, List.length_nil, List.cons_append, List.nil_append, List.append_nil, Array.toList_append, List.extract_toArray, List.extract_eq_take_drop, List.drop_succ_cons, List.drop_zero, List.take_succ_cons, List.take_zero, List.set_cons_zero, List.set_cons_succ, Int.cast_ofNat_Int, Int.reduceLT, Int.reduceLE, Int.reduceGT, Int.reduceGE, Int.reduceEq, Int.reduceNe, Int.reduceAdd, Int.reduceSub, Int.reduceMul, Int.reduceNeg, Int.reduceToNat, Int.reduceBEq, Int.reduceBNe, decide_true, decide_false, and_self, ite_true, ite_false, gField, gIndexV, gPart, wrap64, wrapu8, wrapu32, wrapu64, true_and, and_true, Bool.false_eq_true, eq_self_iff_true, Bool.not_true, Bool.not_false, Bool.or_false, Bool.false_or, Bool.true_and, Bool.and_true, Try.underlying23, Try.underlying3, eq23, fo23_0, fo23_1, fo23_2, fo23_3, fo23_4, fo23_5, fo23_6, fo23_7, ni23, ni3, sh23, sz23, sz3, zr23, zr3, rs70, gField, gload1 m1 sz3])
  all_goals
    refine ⟨?_, s1⟩
    simp only [Pm.may, *, Bool.and_false, Bool.false_and, Bool.true_and, Bool.and_true]

theorem c_may (N : Nat) (h : GH) (p : Pm) : GTri Try.prog N 69 [p.v] h fun v h' => v = .bool p.may ∧ HS h h' := by
  refine gtri Try.func69 rfl gf69 ok69 (by simp [Try.ntmps69]) ?_
  refine gw_seq (gw_region ?_)
  simp only [List.map, gops_nil, gops_none, gops_some, kops_ap, kops_no, gop, optK_some, ev, lk, aenv, gyield, thenQ_n, thenQ_r, thenQ_x, blockQ_n, blockQ_r, blockQ_x, retQ_r, retQ_n, gret_0, gret_1, gret_2, gret_3, gret_c, gret_c1, gret_c2, gif_t, gif_f, want_tt, want_ff, want_tf, want_ft, gBin, gInt, gStrOp, gUn, gPick, gNil, gExtract, gIfc, gConvO, gIndexO, gIndexVO, gMakeV, gMinV, gMaxV, gBlt, gCallV, gAllocO_some, vcells, optH_some, Nat.reduceAdd, Nat.reduceSub, Nat.reduceMul, Nat.reduceLT, Nat.reduceLeDiff, Nat.reduceEqDiff, Nat.reduceBEq, reduceIte, Option.map_some, Option.getD_some, Option.some.injEq, List.getElem?_cons_succ, List.getElem?_cons_zero, List.length_cons, List.length_nil, List.cons_append, List.nil_append, List.append_nil, Array.toList_append, List.extract_toArray, List.extract_eq_take_drop, List.drop_succ_cons, List.drop_zero, List.take_succ_cons, List.take_zero, List.set_cons_zero, List.set_cons_succ, Int.cast_ofNat_Int, Int.reduceLT, Int.reduceLE, Int.reduceGT, Int.reduceGE, Int.reduceEq, Int.reduceNe, Int.reduceAdd, Int.reduceSub, Int.reduceMul, Int.reduceNeg, Int.reduceToNat, Int.reduceBEq, Int.reduceBNe, decide_true, decide_false, and_self, ite_true, ite_false, gField, gIndexV, gPart, wrap64, wrapu8, wrapu32, wrapu64, true_and, and_true, Bool.false_eq_true, eq_self_iff_true, Bool.not_true, Bool.not_false, Bool.or_false, Bool.false_or, Bool.true_and, Bool.and_true, Try.underlying23, Try.underlying3, Try.underlying81, Try.underlying82, eq23, fo23_0, fo23_1, fo23_2, fo23_3, fo23_4, fo23_5, fo23_6, fo23_7, fo81_0, fo81_1, fo81_2, ni23, ni3, ni81, ni82, sh23, sh81, sh82, sz23, sz3, sz81, sz82, zr23, zr3, zr81, zr82, rs69, Pm.v]
  refine box_g rfl fun k1 h1 m1 s1 f1 n1 => ?_
  simp only [List.map, gops_nil, gops_none, gops_some, kops_ap, kops_no, gop, optK_some, ev, lk, aenv, gyield, thenQ_n, thenQ_r, thenQ_x, blockQ_n, blockQ_r, blockQ_x, retQ_r, retQ_n, gret_0, gret_1, gret_2, gret_3, gret_c, gret_c1, gret_c2, gif_t, gif_f, want_tt, want_ff, want_tf, want_ft, gBin, gInt, gStrOp, gUn, gPick, gNil, gExtract, gIfc, gConvO, gIndexO, gIndexVO, gMakeV, gMinV, gMaxV, gBlt, gCallV, gAllocO_some, vcells, optH_some, Nat.reduceAdd, Nat.reduceSub, Nat.reduceMul, Nat.reduceLT, Nat.reduceLeDiff, Nat.reduceEqDiff, Nat.reduceBEq, reduceIte, Option.map_some, Option.getD_some, Option.some.injEq, List.getElem?_cons_succ, List.getElem?_cons_zero, List.length_cons, List.length_nil, List.cons_append, List.nil_append, List.append_nil, Array.toList_append, List.extract_toArray, List.extract_eq_take_drop, List.drop_succ_cons, List.drop_zero, List.take_succ_cons, List.take_zero, List.set_cons_zero, List.set_cons_succ, Int.cast_ofNat_Int, Int.reduceLT, Int.reduceLE, Int.reduceGT, Int.reduceGE, Int.reduceEq, Int.reduceNe, Int.reduceAdd, Int.reduceSub, Int.reduceMul, Int.reduceNeg, Int.reduceToNat, Int.reduceBEq, Int.reduceBNe, decide_true, decide_false, and_self, ite_true, ite_false, gField, gIndexV, gPart, wrap64, wrapu8, wrapu32, wrapu64, true_and, and_true, Bool.false_eq_true, eq_self_iff_true, Bool.not_true, Bool.not_false, Bool.or_false, Bool.false_or, Bool.true_and, Bool.and_true, Try.underlying23, Try.underlying3, Try.underlying81, Try.underlying82, eq23, fo23_0, fo23_1, fo23_2, fo23_3, fo23_4, fo23_5, fo23_6, fo23_7, fo81_0, fo81_1, fo81_2, ni23, ni3, ni81, ni82, sh23, sh81, sh82, sz23, sz3, sz81, sz82, zr23, zr3, zr81, zr82, rs69]
  repeat' first
    | with_reducible refine gw_seq ?_
    | with_reducible refine gw_block ?_
    | ((first
        | with_reducible refine gw_region ?_
        | with_reducible refine gw_if ?_
        | with_reducible refine gw_skip ?_
        | with_reducible refine gw_exit ?_
        | with_reducible refine gw_ret ?_
        | ((with_reducible refine gif_b (fun hb => ?_) (fun hb => ?_)) <;> try simp only [hb])
        | ((with_reducible refine want_t (fun hb => ?_) (fun hb => ?_)) <;> try simp only [hb])
        | ((with_reducible refine want_f (fun hb => ?_) (fun hb => ?_)) <;> try simp only [hb])) <;> try simp only [List.map, gops_nil, gops_none, gops_some, kops_ap, kops_no, gop, optK_some, ev, lk, aenv, gyield, thenQ_n, thenQ_r, thenQ_x, blockQ_n, blockQ_r, blockQ_x, retQ_r, retQ_n, gret_0, gret_1, gret_2, gret_3, gret_c, gret_c1, gret_c2, gif_t, gif_f, want_tt, want_ff, want_tf, want_ft, gBin, gInt, gStrOp, gUn, gPick, gNil, gExtract, gIfc, gConvO, gIndexO, gIndexVO, gMakeV, gMinV, gMaxV, gBlt, gCallV, gAllocO_some, vcells, optH_some, Nat.reduceAdd, Nat.reduceSub, Nat.reduceMul, Nat.reduceLT, Nat.reduceLeDiff, Nat.reduceEqDiff, Nat.reduceBEq, reduceIte, Option.map_some, Option.getD_some, Option.some.injEq, List.getElem?_cons_succ, List.getElem?_cons_zero, List.length_cons, List.length_nil, List.cons_append, List.nil_append, List.append_nil, Array.toList_append, List.extract_toArray, List.extract_eq_take_drop, List.drop_succ_cons, List.drop_zero, List.take_succ_cons, List.take_zero, List.set_cons_zero, List.set_cons_succ, Int.cast_ofNat_Int, Int.reduceLT, Int.reduceLE, Int.reduceGT, Int.reduceGE, Int.reduceEq, Int.reduceNe, Int.reduceAdd, Int.reduceSub, Int.reduceMul, Int.reduceNeg, Int.reduceToNat, Int.reduceBEq, Int.reduceBNe, decide_true, decide_false, and_self, ite_true, ite_false, gField, gIndexV, gPart, wrap64, wrapu8, wrapu32, wrapu64, true_and, and_true, Bool.false_eq_true, eq_self_iff_true, Bool.not_true, Bool.not_false, Bool.or_false, Bool.false_or, Bool.true_and, Bool.and_true, Try.underlying23, Try.underlying3, Try.underlying81, Try.underlying82, eq23, fo23_0, fo23_1, fo23_2, fo23_3, fo23_4, fo23_5, fo23_6, fo23_7, fo81_0, fo81_1, fo81_2, ni23, ni3, ni81, ni82, sh23, sh81, sh82, sz23, sz3, sz81, sz82, zr23, zr3, zr81, zr82, rs69, gField, gload1 m1 sz3, gBuild, lfill, lput, Shape.pl, List.all_cons, List.all_nil, isCell, List.set_cons_zero, List.set_cons_succ, and_self])
  refine gw_env [(27, .int .i64 0), (26, .agg #[.int .i64 p.s, .int .i64 1, .int .i64 32, .int .i64 p.ht, .int .i64 0, .int .i64 8, .int .i64 p.mi, .int .i64 0, .int .i64 24, .int .i64 p.my, .int .i64 0, .int .i64 48, .int .i64 p.ch, .int .i64 0, .int .i64 4096, .int .i64 p.ca, .int .i64 0, .int .i64 8, .int .i64 p.pg, .int .i64 1, .int .i64 32])] (by simp only [List.forall_mem_cons, List.not_mem_nil, false_implies, implies_true, lk, Nat.reduceEqDiff, reduceIte, and_true, true_and]) ?_
  refine gw_unroll ?_
  clear m1 f1 n1
  iterate 7
    refine gl_round ?_
    repeat' first
    | with_reducible refine gw_seq ?_
    | with_reducible refine gw_block ?_
    | ((first
        | with_reducible refine gw_region ?_
        | with_reducible refine gw_if ?_
        | with_reducible refine gw_skip ?_
        | with_reducible refine gw_exit ?_
        | with_reducible refine gw_ret ?_
        | ((with_reducible refine gif_b (fun hb => ?_) (fun hb => ?_)) <;> try simp only [hb])
        | ((with_reducible refine want_t (fun hb => ?_) (fun hb => ?_)) <;> try simp only [hb])
        | ((with_reducible refine want_f (fun hb => ?_) (fun hb => ?_)) <;> try simp only [hb])) <;> try simp only [List.map, gops_nil, gops_none, gops_some, kops_ap, kops_no, gop, optK_some, ev, lk, aenv, gyield, thenQ_n, thenQ_r, thenQ_x, blockQ_n, blockQ_r, blockQ_x, retQ_r, retQ_n, gret_0, gret_1, gret_2, gret_3, gret_c, gret_c1, gret_c2, gif_t, gif_f, want_tt, want_ff, want_tf, want_ft, gBin, gInt, gStrOp, gUn, gPick, gNil, gExtract, gIfc, gConvO, gIndexO, gIndexVO, gMakeV, gMinV, gMaxV, gBlt, gCallV, gAllocO_some, vcells, optH_some, Nat.reduceAdd, Nat.reduceSub, Nat.reduceMul, Nat.reduceLT, Nat.reduceLeDiff, Nat.reduceEqDiff, Nat.reduceBEq, reduceIte, Option.map_some, Option.getD_some, Option.some.injEq, List.getElem?_cons_succ, List.getElem?_cons_zero, List.length_cons, List.length_nil, List.cons_append, List.nil_append, List.append_nil, Array.toList_append, List.extract_toArray, List.extract_eq_take_drop, List.drop_succ_cons, List.drop_zero, List.take_succ_cons, List.take_zero, List.set_cons_zero, List.set_cons_succ, Int.cast_ofNat_Int, Int.reduceLT, Int.reduceLE, Int.reduceGT, Int.reduceGE, Int.reduceEq, Int.reduceNe, Int.reduceAdd, Int.reduceSub, Int.reduceMul, Int.reduceNeg, Int.reduceToNat, Int.reduceBEq, Int.reduceBNe, decide_true, decide_false, and_self, ite_true, ite_false, gField, gIndexV, gPart, wrap64, wrapu8, wrapu32, wrapu64, true_and, and_true, Bool.false_eq_true, eq_self_iff_true, Bool.not_true, Bool.not_false, Bool.or_false, Bool.false_or, Bool.true_and, Bool.and_true, Try.underlying23, Try.underlying3, Try.underlying81, Try.underlying82, eq23, fo23_0, fo23_1, fo23_2, fo23_3, fo23_4, fo23_5, fo23_6, fo23_7, fo81_0, fo81_1, fo81_2, ni23, ni3, ni81, ni82, sh23, sh81, sh82, sz23, sz3, sz81, sz82, zr23, zr3, zr81, zr82, rs69])
    refine new_g fun k2 h2 m2 _ f2 n2 => ?_
    simp only [List.map, gops_nil, gops_none, gops_some, kops_ap, kops_no, gop, optK_some, ev, lk, aenv, gyield, thenQ_n, thenQ_r, thenQ_x, blockQ_n, blockQ_r, blockQ_x, retQ_r, retQ_n, gret_0, gret_1, gret_2, gret_3, gret_c, gret_c1, gret_c2, gif_t, gif_f, want_tt, want_ff, want_tf, want_ft, gBin, gInt, gStrOp, gUn, gPick, gNil, gExtract, gIfc, gConvO, gIndexO, gIndexVO, gMakeV, gMinV, gMaxV, gBlt, gCallV, gAllocO_some, vcells, optH_some, Nat.reduceAdd, Nat.reduceSub, Nat.reduceMul, Nat.reduceLT, Nat.reduceLeDiff, Nat.reduceEqDiff, Nat.reduceBEq, reduceIte, Option.map_some, Option.getD_some, Option.some.injEq, List.getElem?_cons_succ, List.getElem?_cons_zero, List.length_cons, List.length_nil, List.cons_append, List.nil_append, List.append_nil, Array.toList_append, List.extract_toArray, List.extract_eq_take_drop, List.drop_succ_cons, List.drop_zero, List.take_succ_cons, List.take_zero, List.set_cons_zero, List.set_cons_succ, Int.cast_ofNat_Int, Int.reduceLT, Int.reduceLE, Int.reduceGT, Int.reduceGE, Int.reduceEq, Int.reduceNe, Int.reduceAdd, Int.reduceSub, Int.reduceMul, Int.reduceNeg, Int.reduceToNat, Int.reduceBEq, Int.reduceBNe, decide_true, decide_false, and_self, ite_true, ite_false, gField, gIndexV, gPart, wrap64, wrapu8, wrapu32, wrapu64, true_and, and_true, Bool.false_eq_true, eq_self_iff_true, Bool.not_true, Bool.not_false, Bool.or_false, Bool.false_or, Bool.true_and, Bool.and_true, Try.underlying23, Try.underlying3, Try.underlying81, Try.underlying82, eq23, fo23_0, fo23_1, fo23_2, fo23_3, fo23_4, fo23_5, fo23_6, fo23_7, fo81_0, fo81_1, fo81_2, ni23, ni3, ni81, ni82, sh23, sh81, sh82, sz23, sz3, sz81, sz82, zr23, zr3, zr81, zr82, rs69]
    refine st_all m2 sz81 rfl (by decide) rfl rfl rfl fun h3 m3 f3 => ?_
    have s1 := s1.upd (fun_none s1 n2) (fun j hj => (f3 j hj).trans (f2 j hj))
    simp only [List.map, gops_nil, gops_none, gops_some, kops_ap, kops_no, gop, optK_some, ev, lk, aenv, gyield, thenQ_n, thenQ_r, thenQ_x, blockQ_n, blockQ_r, blockQ_x, retQ_r, retQ_n, gret_0, gret_1, gret_2, gret_3, gret_c, gret_c1, gret_c2, gif_t, gif_f, want_tt, want_ff, want_tf, want_ft, gBin, gInt, gStrOp, gUn, gPick, gNil, gExtract, gIfc, gConvO, gIndexO, gIndexVO, gMakeV, gMinV, gMaxV, gBlt, gCallV, gAllocO_some, vcells, optH_some, Nat.reduceAdd, Nat.reduceSub, Nat.reduceMul, Nat.reduceLT, Nat.reduceLeDiff, Nat.reduceEqDiff, Nat.reduceBEq, reduceIte, Option.map_some, Option.getD_some, Option.some.injEq, List.getElem?_cons_succ, List.getElem?_cons_zero, List.length_cons, List.length_nil, List.cons_append, List.nil_append, List.append_nil, Array.toList_append, List.extract_toArray, List.extract_eq_take_drop, List.drop_succ_cons, List.drop_zero, List.take_succ_cons, List.take_zero, List.set_cons_zero, List.set_cons_succ, Int.cast_ofNat_Int, Int.reduceLT, Int.reduceLE, Int.reduceGT, Int.reduceGE, Int.reduceEq, Int.reduceNe, Int.reduceAdd, Int.reduceSub, Int.reduceMul, Int.reduceNeg, Int.reduceToNat, Int.reduceBEq, Int.reduceBNe, decide_true, decide_false, and_self, ite_true, ite_false, gField, gIndexV, gPart, wrap64, wrapu8, wrapu32, wrapu64, true_and, and_true, Bool.false_eq_true, eq_self_iff_true, Bool.not_true, Bool.not_false, Bool.or_false, Bool.false_or, Bool.true_and, Bool.and_true, Try.underlying23, Try.underlying3, Try.underlying81, Try.underlying82, eq23, fo23_0, fo23_1, fo23_2, fo23_3, fo23_4, fo23_5, fo23_6, fo23_7, fo81_0, fo81_1, fo81_2, ni23, ni3, ni81, ni82, sh23, sh81, sh82, sz23, sz3, sz81, sz82, zr23, zr3, zr81, zr82, rs69]
    repeat' first
    | with_reducible refine gw_seq ?_
    | with_reducible refine gw_block ?_
    | ((first
        | with_reducible refine gw_region ?_
        | with_reducible refine gw_if ?_
        | with_reducible refine gw_skip ?_
        | with_reducible refine gw_exit ?_
        | with_reducible refine gw_ret ?_
        | ((with_reducible refine gif_b (fun hb => ?_) (fun hb => ?_)) <;> try simp only [hb])
        | ((with_reducible refine want_t (fun hb => ?_) (fun hb => ?_)) <;> try simp only [hb])
        | ((with_reducible refine want_f (fun hb => ?_) (fun hb => ?_)) <;> try simp only [hb])) <;> try simp only [List.map, gops_nil, gops_none, gops_some, kops_ap, kops_no, gop, optK_some, ev, lk, aenv, gyield, thenQ_n, thenQ_r, thenQ_x, blockQ_n, blockQ_r, blockQ_x, retQ_r, retQ_n, gret_0, gret_1, gret_2, gret_3, gret_c, gret_c1, gret_c2, gif_t, gif_f, want_tt, want_ff, want_tf, want_ft, gBin, gInt, gStrOp, gUn, gPick, gNil, gExtract, gIfc, gConvO, gIndexO, gIndexVO, gMakeV, gMinV, gMaxV, gBlt, gCallV, gAllocO_some, vcells, optH_some, Nat.reduceAdd, Nat.reduceSub, Nat.reduceMul, Nat.reduceLT, Nat.reduceLeDiff, Nat.reduceEqDiff, Nat.reduceBEq, reduceIte, Option.map_some, Option.getD_some, Option.some.injEq, List.getElem?_cons_succ, List.getElem?_cons_zero, List.length_cons, List.length_nil, List.cons_append, List.nil_append, List.append_nil, Array.toList_append, List.extract_toArray, List.extract_eq_take_drop, List.drop_succ_cons, List.drop_zero, List.take_succ_cons, List.take_zero, List.set_cons_zero, List.set_cons_succ, Int.cast_ofNat_Int, Int.reduceLT, Int.reduceLE, Int.reduceGT, Int.reduceGE, Int.reduceEq, Int.reduceNe, Int.reduceAdd, Int.reduceSub, Int.reduceMul, Int.reduceNeg, Int.reduceToNat, Int.reduceBEq, Int.reduceBNe, decide_true, decide_false, and_self, ite_true, ite_false, gField, gIndexV, gPart, wrap64, wrapu8, wrapu32, wrapu64, true_and, and_true, Bool.false_eq_true, eq_self_iff_true, Bool.not_true, Bool.not_false, Bool.or_false, Bool.false_or, Bool.true_and, Bool.and_true, Try.underlying23, Try.underlying3, Try.underlying81, Try.underlying82, eq23, fo23_0, fo23_1, fo23_2, fo23_3, fo23_4, fo23_5, fo23_6, fo23_7, fo81_0, fo81_1, fo81_2, ni23, ni3, ni81, ni82, sh23, sh81, sh82, sz23, sz3, sz81, sz82, zr23, zr3, zr81, zr82, rs69, gload1 m3 sz3])
    rotate_left 2
  refine gl_round ?_
  repeat' first
    | with_reducible refine gw_seq ?_
    | with_reducible refine gw_block ?_
    | ((first
        | with_reducible refine gw_region ?_
        | with_reducible refine gw_if ?_
        | with_reducible refine gw_skip ?_
        | with_reducible refine gw_exit ?_
        | with_reducible refine gw_ret ?_
        | ((with_reducible refine gif_b (fun hb => ?_) (fun hb => ?_)) <;> try simp only [hb])
        | ((with_reducible refine want_t (fun hb => ?_) (fun hb => ?_)) <;> try simp only [hb])
        | ((with_reducible refine want_f (fun hb => ?_) (fun hb => ?_)) <;> try simp only [hb])) <;> try simp only [List.map, gops_nil, gops_none, gops_some, kops_ap, kops_no, gop, optK_some, ev, lk, aenv, gyield, thenQ_n, thenQ_r, thenQ_x, blockQ_n, blockQ_r, blockQ_x, retQ_r, retQ_n, gret_0, gret_1, gret_2, gret_3, gret_c, gret_c1, gret_c2, gif_t, gif_f, want_tt, want_ff, want_tf, want_ft, gBin, gInt, gStrOp, gUn, gPick, gNil, gExtract, gIfc, gConvO, gIndexO, gIndexVO, gMakeV, gMinV, gMaxV, gBlt, gCallV, gAllocO_some, vcells, optH_some, Nat.reduceAdd, Nat.reduceSub, Nat.reduceMul, Nat.reduceLT, Nat.reduceLeDiff, Nat.reduceEqDiff, Nat.reduceBEq, reduceIte, Option.map_some, Option.getD_some, Option.some.injEq, List.getElem?_cons_succ, List.getElem?_cons_zero, List.length_cons, List.length_nil, List.cons_append, List.nil_append, List.append_nil, Array.toList_append, List.extract_toArray, List.extract_eq_take_drop, List.drop_succ_cons, List.drop_zero, List.take_succ_cons, List.take_zero, List.set_cons_zero, List.set_cons_succ, Int.cast_ofNat_Int, Int.reduceLT, Int.reduceLE, Int.reduceGT, Int.reduceGE, Int.reduceEq, Int.reduceNe, Int.reduceAdd, Int.reduceSub, Int.reduceMul, Int.reduceNeg, Int.reduceToNat, Int.reduceBEq, Int.reduceBNe, decide_true, decide_false, and_self, ite_true, ite_false, gField, gIndexV, gPart, wrap64, wrapu8, wrapu32, wrapu64, true_and, and_true, Bool.false_eq_true, eq_self_iff_true, Bool.not_true, Bool.not_false, Bool.or_false, Bool.false_or, Bool.true_and, Bool.and_true, Try.underlying23, Try.underlying3, Try.underlying81, Try.underlying82, eq23, fo23_0, fo23_1, fo23_2, fo23_3, fo23_4, fo23_5, fo23_6, fo23_7, fo81_0, fo81_1, fo81_2, ni23, ni3, ni81, ni82, sh23, sh81, sh82, sz23, sz3, sz81, sz82, zr23, zr3, zr81, zr82, rs69])
  all_goals
    refine ⟨congrArg Value.bool (Eq.symm ?_), s1⟩
    simp only [decide_eq_true_eq, decide_eq_false_iff_not] at *
    first
    | rw [Bool.eq_false_iff]
      simp only [Pm.may, inB, Bool.and_eq_true, decide_eq_true_eq, ne_eq]
      omega
    | simp only [Pm.may, inB, Bool.and_eq_true, decide_eq_true_eq]
      omega

end Go.Gh
