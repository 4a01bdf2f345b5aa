/- The laws AdmitNeeds and AdmitCheck, as triples. -/
import Derived.Test.YtejjnmnljbehiaaAdm2
namespace Go.Gh
open Go Go.Proofs Go.RowKit
set_option linter.unusedVariables false
set_option linter.unusedSimpArgs false
set_option maxRecDepth 100000

theorem Pm.need_big (p : Pm) (h : p.check = 0) : p.may = true ∧ (2 + p.ca) * p.ch * p.each < p.ar ∧ p.each = 8 * (p.mi + 1) + 2 ∧ 5 ≤ p.secs ∧ p.secs ≤ 16384 := by
  unfold Pm.check at h
  split at h
  · cases h
  · rename_i h1
    split at h
    · cases h
    · rename_i h2
      have hb : p.may = true := by
        cases hm : p.may
        · simp [hm] at h1
        · rfl
      have := p.secs_eq hb
      refine ⟨hb, ?_, ?_, this.2.2⟩
      · simp only [Pm.need, hb, if_true] at h2
        omega
      · simp [Pm.each, Pm.deep, hb]
theorem Pm.need_wraps (p : Pm) (hb : p.may = true) : IntKind.i64.wrap (IntKind.i64.wrap (IntKind.i64.wrap (2 + p.ca) * p.ch) * p.each) = (2 + p.ca) * p.ch * p.each ∧ IntKind.i64.wrap (IntKind.i64.wrap (8 * IntKind.i64.wrap (p.mi + 1)) + 2) = 8 * (p.mi + 1) + 2 := by
  have := p.may_iff.1 hb
  have h1 := mul_range (a := 2 + p.ca) (b := p.ch) (A := 10) (B := 4096) (by omega) (by omega)
  have h2 := mul_range (a := (2 + p.ca) * p.ch) (b := p.each) (A := 40960) (B := 202) (by omega) p.each_range
  refine ⟨?_, ?_⟩
  · rw [wrap64 (x := 2 + p.ca) (by omega) (by omega), wrap64 (x := (2 + p.ca) * p.ch) (by omega) (by omega), wrap64 (x := (2 + p.ca) * p.ch * p.each) (by omega) (by omega)]
  · rw [wrap64 (x := p.mi + 1) (by omega) (by omega), wrap64 (x := 8 * (p.mi + 1)) (by omega) (by omega), wrap64 (by omega) (by omega)]

theorem c_AdmitNeeds (N : Nat) (h : GH) (p : Pm) : GTri Try.prog N 3 [p.v] h fun v h' => v = .bool true := by
  refine gtri Try.func3 rfl gf3 ok3 (by simp [Try.ntmps3]) ?_
  repeat' first
    | with_reducible refine gw_seq ?_
    | with_reducible refine gw_block ?_
    | ((first
        | with_reducible refine gw_region ?_
        | with_reducible refine gw_if ?_
        | with_reducible refine gw_skip ?_
        | with_reducible refine gw_exit ?_
        | with_reducible refine gw_ret ?_
        | ((with_reducible refine gif_b (fun hb => ?_) (fun hb => ?_)) <;> try simp only [hb])
        | ((with_reducible refine want_t (fun hb => ?_) (fun hb => ?_)) <;> try simp only [hb])
        | ((with_reducible refine want_f (fun hb => ?_) (fun hb => ?_)) <;> try simp only [hb])
        | with_reducible refine gw_draw [(0, []), (1, []), (2, []), (3, []), (4, []), (5, []), (6, []), (7, []), (8, []), (9, [1, 3, 6]), (10, []), (11, []), (12, []), (13, []), (15, []), (16, []), (17, []), (18, []), (19, []), (14, [16]), (20, []), (21, []), (22, []), (23, []), (24, []), (25, []), (26, []), (27, []), (28, []), (29, []), (30, []), (31, []), (32, []), (33, []), (34, []), (35, [])] [0, 1, 0, 4, 12, 0, 32, 124, 0, 256, 1020, 2047, 4095, 8191, 16383, 8191, 40959, 106495, 237567, 499711, 1048575, 2097151, 4194303, 8388607, 16777215, 33554431, 67108863, 134217727, 268435455, 536870911, 1073741823, 2147483647, 4294967295, 8589934591, 17179869183, 34359738367] mixed (by kernel_rfl) ?_
        | ((with_reducible refine dr_t (fun hb => ?_) (fun hb => ?_)) <;> try simp only [hb])
        | ((with_reducible refine dr_f (fun hb => ?_) (fun hb => ?_)) <;> try simp only [hb])) <;> try simp only [List.map, gops_nil, gops_none, gops_some, kops_ap, kops_no, gop, optK_some, ev, lk, aenv, gyield, thenQ_n, thenQ_r, thenQ_x, blockQ_n, blockQ_r, blockQ_x, retQ_r, retQ_n, gret_0, gret_1, gret_2, gret_3, gret_c, gret_c1, gret_c2, gif_t, gif_f, want_tt, want_ff, want_tf, want_ft, gBin, gInt, gStrOp, gUn, gPick, gNil, gExtract, gIfc, gConvO, gIndexO, gIndexVO, gMakeV, gMinV, gMaxV, gBlt, gCallV, gAllocO_some, vcells, optH_some, Nat.reduceAdd, Nat.reduceSub, Nat.reduceMul, Nat.reduceLT, Nat.reduceLeDiff, Nat.reduceEqDiff, Nat.reduceBEq, reduceIte, Option.map_some, Option.getD_some, Option.some.injEq, List.getElem?_cons_succ, List.getElem?_cons_zero, List.length_cons, List.length_nil, List.cons_append, List.nil_append, List.append_nil, Array.toList_append, List.extract_toArray, List.extract_eq_take_drop, List.drop_succ_cons, List.drop_zero, List.take_succ_cons, List.take_zero, List.set_cons_zero, List.set_cons_succ, Int.cast_ofNat_Int, Int.reduceLT, Int.reduceLE, Int.reduceGT, Int.reduceGE, Int.reduceEq, Int.reduceNe, Int.reduceAdd, Int.reduceSub, Int.reduceMul, Int.reduceNeg, Int.reduceToNat, Int.reduceBEq, Int.reduceBNe, decide_true, decide_false, and_self, ite_true, ite_false, gField, gIndexV, gPart, wrap64, wrapu8, wrapu32, wrapu64, true_and, and_true, Bool.false_eq_true, eq_self_iff_true, Bool.not_true, Bool.not_false, Bool.or_false, Bool.false_or, Bool.true_and, Bool.and_true, gdr_nil, gdr_none, gdr_some, gdrO_t, gdrO_f, gdrW_tt, gdrW_ff, gdrW_tf, gdrW_ft, eput_s, eput_n, kdrF_ap, kdrE_ap, wput_n, wput_s, chk_n, chk_c, chk1_n, chk1_s, rvOf, wlk, rdv, isEff, dsOf, sgl, List.getElem?_toArray, Try.underlying23, Try.underlying24, Try.underlying3, eq23, fo23_0, fo23_1, fo23_2, fo23_3, fo23_4, fo23_5, fo23_6, fo23_7, ni23, ni24, ni3, sh23, sz23, sz24, sz3, zr23, zr24, zr3, rs3, Pm.v])
  refine box_g rfl fun k1 h1 m1 s1 f1 n1 => ?_
  simp only [List.map, gops_nil, gops_none, gops_some, kops_ap, kops_no, gop, optK_some, ev, lk, aenv, gyield, thenQ_n, thenQ_r, thenQ_x, blockQ_n, blockQ_r, blockQ_x, retQ_r, retQ_n, gret_0, gret_1, gret_2, gret_3, gret_c, gret_c1, gret_c2, gif_t, gif_f, want_tt, want_ff, want_tf, want_ft, gBin, gInt, gStrOp, gUn, gPick, gNil, gExtract, gIfc, gConvO, gIndexO, gIndexVO, gMakeV, gMinV, gMaxV, gBlt, gCallV, gAllocO_some, vcells, optH_some, Nat.reduceAdd, Nat.reduceSub, Nat.reduceMul, Nat.reduceLT, Nat.reduceLeDiff, Nat.reduceEqDiff, Nat.reduceBEq, reduceIte, Option.map_some, Option.getD_some, Option.some.injEq, List.getElem?_cons_succ, List.getElem?_cons_zero, List.length_cons, List.length_nil, List.cons_append, List.nil_append, List.append_nil, Array.toList_append, List.extract_toArray, List.extract_eq_take_drop, List.drop_succ_cons, List.drop_zero, List.take_succ_cons, List.take_zero, List.set_cons_zero, List.set_cons_succ, Int.cast_ofNat_Int, Int.reduceLT, Int.reduceLE, Int.reduceGT, Int.reduceGE, Int.reduceEq, Int.reduceNe, Int.reduceAdd, Int.reduceSub, Int.reduceMul, Int.reduceNeg, Int.reduceToNat, Int.reduceBEq, Int.reduceBNe, decide_true, decide_false, and_self, ite_true, ite_false, gField, gIndexV, gPart, wrap64, wrapu8, wrapu32, wrapu64, true_and, and_true, Bool.false_eq_true, eq_self_iff_true, Bool.not_true, Bool.not_false, Bool.or_false, Bool.false_or, Bool.true_and, Bool.and_true, Try.underlying23, Try.underlying24, Try.underlying3, eq23, fo23_0, fo23_1, fo23_2, fo23_3, fo23_4, fo23_5, fo23_6, fo23_7, ni23, ni24, ni3, sh23, sz23, sz24, sz3, zr23, zr24, zr3, rs3]
  by_cases h0 : p.check = 0
  · obtain ⟨e1, e2, e3, e4, e5⟩ := p.need_big h0
    obtain ⟨w1, w2⟩ := p.need_wraps e1
    have d1 : decide (p.ar > (2 + p.ca) * p.ch * p.each) = true := decide_eq_true e2
    have d2 : (p.each == 8 * (p.mi + 1) + 2) = true := by simp [e3]
    have d3 : decide (p.secs ≥ 5) = true := decide_eq_true e4
    have d4 : decide (p.secs ≤ 16384) = true := decide_eq_true e5
    repeat' first
    | with_reducible refine gw_seq ?_
    | with_reducible refine gw_block ?_
    | ((first
        | with_reducible refine gw_region ?_
        | with_reducible refine gw_if ?_
        | with_reducible refine gw_skip ?_
        | with_reducible refine gw_exit ?_
        | with_reducible refine gw_ret ?_
        | ((with_reducible refine gif_b (fun hb => ?_) (fun hb => ?_)) <;> try simp only [hb])
        | ((with_reducible refine want_t (fun hb => ?_) (fun hb => ?_)) <;> try simp only [hb])
        | ((with_reducible refine want_f (fun hb => ?_) (fun hb => ?_)) <;> try simp only [hb])
        | with_reducible refine gw_draw [(0, []), (1, []), (2, []), (3, []), (4, []), (5, []), (6, []), (7, []), (8, []), (9, [1, 3, 6]), (10, []), (11, []), (12, []), (13, []), (15, []), (16, []), (17, []), (18, []), (19, []), (14, [16]), (20, []), (21, []), (22, []), (23, []), (24, []), (25, []), (26, []), (27, []), (28, []), (29, []), (30, []), (31, []), (32, []), (33, []), (34, []), (35, [])] [0, 1, 0, 4, 12, 0, 32, 124, 0, 256, 1020, 2047, 4095, 8191, 16383, 8191, 40959, 106495, 237567, 499711, 1048575, 2097151, 4194303, 8388607, 16777215, 33554431, 67108863, 134217727, 268435455, 536870911, 1073741823, 2147483647, 4294967295, 8589934591, 17179869183, 34359738367] mixed (by kernel_rfl) ?_
        | ((with_reducible refine dr_t (fun hb => ?_) (fun hb => ?_)) <;> try simp only [hb])
        | ((with_reducible refine dr_f (fun hb => ?_) (fun hb => ?_)) <;> try simp only [hb])
        | ((refine GTri.mono (c_check _ _ p) ?_); rintro _ h2 ⟨rfl, s2⟩; have m1 := s2 _ _ m1)
        | ((refine GTri.mono (c_rcheck _ _ p) ?_); rintro _ h2 ⟨rfl, s2⟩; have m1 := s2 _ _ m1)
        | ((refine GTri.mono (c_each _ _ p) ?_); rintro _ h2 ⟨rfl, s2⟩; have m1 := s2 _ _ m1)
        | ((refine GTri.mono (c_reach _ _ p) ?_); rintro _ h2 ⟨rfl, s2⟩; have m1 := s2 _ _ m1)
        | ((refine GTri.mono (c_secs _ _ p) ?_); rintro _ h2 ⟨rfl, s2⟩; have m1 := s2 _ _ m1)
        | ((refine GTri.mono (c_rsecs _ _ p) ?_); rintro _ h2 ⟨rfl, s2⟩; have m1 := s2 _ _ m1)
        | ((refine GTri.mono (c_need _ _ p) ?_); rintro _ h2 ⟨rfl, s2⟩; have m1 := s2 _ _ m1)
        | ((refine GTri.mono (c_rneed _ _ p) ?_); rintro _ h2 ⟨rfl, s2⟩; have m1 := s2 _ _ m1)
        | ((refine GTri.mono (c_deep _ _ p) ?_); rintro _ h2 ⟨rfl, s2⟩; have m1 := s2 _ _ m1)
        | ((refine GTri.mono (c_rdeep _ _ p) ?_); rintro _ h2 ⟨rfl, s2⟩; have m1 := s2 _ _ m1)
        | ((refine GTri.mono (c_eps _ _ p) ?_); rintro _ h2 ⟨rfl, s2⟩; have m1 := s2 _ _ m1)
        | ((refine GTri.mono (c_reps _ _ p) ?_); rintro _ h2 ⟨rfl, s2⟩; have m1 := s2 _ _ m1)
        | ((refine GTri.mono (c_awake15 _ _) ?_); rintro _ h2 ⟨rfl, s2⟩; have m1 := s2 _ _ m1)) <;> try simp only [List.map, gops_nil, gops_none, gops_some, kops_ap, kops_no, gop, optK_some, ev, lk, aenv, gyield, thenQ_n, thenQ_r, thenQ_x, blockQ_n, blockQ_r, blockQ_x, retQ_r, retQ_n, gret_0, gret_1, gret_2, gret_3, gret_c, gret_c1, gret_c2, gif_t, gif_f, want_tt, want_ff, want_tf, want_ft, gBin, gInt, gStrOp, gUn, gPick, gNil, gExtract, gIfc, gConvO, gIndexO, gIndexVO, gMakeV, gMinV, gMaxV, gBlt, gCallV, gAllocO_some, vcells, optH_some, Nat.reduceAdd, Nat.reduceSub, Nat.reduceMul, Nat.reduceLT, Nat.reduceLeDiff, Nat.reduceEqDiff, Nat.reduceBEq, reduceIte, Option.map_some, Option.getD_some, Option.some.injEq, List.getElem?_cons_succ, List.getElem?_cons_zero, List.length_cons, List.length_nil, List.cons_append, List.nil_append, List.append_nil, Array.toList_append, List.extract_toArray, List.extract_eq_take_drop, List.drop_succ_cons, List.drop_zero, List.take_succ_cons, List.take_zero, List.set_cons_zero, List.set_cons_succ, Int.cast_ofNat_Int, Int.reduceLT, Int.reduceLE, Int.reduceGT, Int.reduceGE, Int.reduceEq, Int.reduceNe, Int.reduceAdd, Int.reduceSub, Int.reduceMul, Int.reduceNeg, Int.reduceToNat, Int.reduceBEq, Int.reduceBNe, decide_true, decide_false, and_self, ite_true, ite_false, gField, gIndexV, gPart, wrap64, wrapu8, wrapu32, wrapu64, true_and, and_true, Bool.false_eq_true, eq_self_iff_true, Bool.not_true, Bool.not_false, Bool.or_false, Bool.false_or, Bool.true_and, Bool.and_true, gdr_nil, gdr_none, gdr_some, gdrO_t, gdrO_f, gdrW_tt, gdrW_ff, gdrW_tf, gdrW_ft, eput_s, eput_n, kdrF_ap, kdrE_ap, wput_n, wput_s, chk_n, chk_c, chk1_n, chk1_s, rvOf, wlk, rdv, isEff, dsOf, sgl, List.getElem?_toArray, Try.underlying23, Try.underlying24, Try.underlying3, eq23, fo23_0, fo23_1, fo23_2, fo23_3, fo23_4, fo23_5, fo23_6, fo23_7, ni23, ni24, ni3, sh23, sz23, sz24, sz3, zr23, zr24, zr3, rs3, gload1 m1 sz3, gloadA m1 sz23 rfl, h0, w1, w2, d1, d2, d3, d4])
  · have d1 : (p.check != 0) = true := by simpa using h0
    repeat' first
    | with_reducible refine gw_seq ?_
    | with_reducible refine gw_block ?_
    | ((first
        | with_reducible refine gw_region ?_
        | with_reducible refine gw_if ?_
        | with_reducible refine gw_skip ?_
        | with_reducible refine gw_exit ?_
        | with_reducible refine gw_ret ?_
        | ((with_reducible refine gif_b (fun hb => ?_) (fun hb => ?_)) <;> try simp only [hb])
        | ((with_reducible refine want_t (fun hb => ?_) (fun hb => ?_)) <;> try simp only [hb])
        | ((with_reducible refine want_f (fun hb => ?_) (fun hb => ?_)) <;> try simp only [hb])
        | with_reducible refine gw_draw [(0, []), (1, []), (2, []), (3, []), (4, []), (5, []), (6, []), (7, []), (8, []), (9, [1, 3, 6]), (10, []), (11, []), (12, []), (13, []), (15, []), (16, []), (17, []), (18, []), (19, []), (14, [16]), (20, []), (21, []), (22, []), (23, []), (24, []), (25, []), (26, []), (27, []), (28, []), (29, []), (30, []), (31, []), (32, []), (33, []), (34, []), (35, [])] [0, 1, 0, 4, 12, 0, 32, 124, 0, 256, 1020, 2047, 4095, 8191, 16383, 8191, 40959, 106495, 237567, 499711, 1048575, 2097151, 4194303, 8388607, 16777215, 33554431, 67108863, 134217727, 268435455, 536870911, 1073741823, 2147483647, 4294967295, 8589934591, 17179869183, 34359738367] mixed (by kernel_rfl) ?_
        | ((with_reducible refine dr_t (fun hb => ?_) (fun hb => ?_)) <;> try simp only [hb])
        | ((with_reducible refine dr_f (fun hb => ?_) (fun hb => ?_)) <;> try simp only [hb])
        | ((refine GTri.mono (c_check _ _ p) ?_); rintro _ h2 ⟨rfl, s2⟩; have m1 := s2 _ _ m1)
        | ((refine GTri.mono (c_rcheck _ _ p) ?_); rintro _ h2 ⟨rfl, s2⟩; have m1 := s2 _ _ m1)
        | ((refine GTri.mono (c_each _ _ p) ?_); rintro _ h2 ⟨rfl, s2⟩; have m1 := s2 _ _ m1)
        | ((refine GTri.mono (c_reach _ _ p) ?_); rintro _ h2 ⟨rfl, s2⟩; have m1 := s2 _ _ m1)
        | ((refine GTri.mono (c_secs _ _ p) ?_); rintro _ h2 ⟨rfl, s2⟩; have m1 := s2 _ _ m1)
        | ((refine GTri.mono (c_rsecs _ _ p) ?_); rintro _ h2 ⟨rfl, s2⟩; have m1 := s2 _ _ m1)
        | ((refine GTri.mono (c_need _ _ p) ?_); rintro _ h2 ⟨rfl, s2⟩; have m1 := s2 _ _ m1)
        | ((refine GTri.mono (c_rneed _ _ p) ?_); rintro _ h2 ⟨rfl, s2⟩; have m1 := s2 _ _ m1)
        | ((refine GTri.mono (c_deep _ _ p) ?_); rintro _ h2 ⟨rfl, s2⟩; have m1 := s2 _ _ m1)
        | ((refine GTri.mono (c_rdeep _ _ p) ?_); rintro _ h2 ⟨rfl, s2⟩; have m1 := s2 _ _ m1)
        | ((refine GTri.mono (c_eps _ _ p) ?_); rintro _ h2 ⟨rfl, s2⟩; have m1 := s2 _ _ m1)
        | ((refine GTri.mono (c_reps _ _ p) ?_); rintro _ h2 ⟨rfl, s2⟩; have m1 := s2 _ _ m1)
        | ((refine GTri.mono (c_awake15 _ _) ?_); rintro _ h2 ⟨rfl, s2⟩; have m1 := s2 _ _ m1)) <;> try simp only [List.map, gops_nil, gops_none, gops_some, kops_ap, kops_no, gop, optK_some, ev, lk, aenv, gyield, thenQ_n, thenQ_r, thenQ_x, blockQ_n, blockQ_r, blockQ_x, retQ_r, retQ_n, gret_0, gret_1, gret_2, gret_3, gret_c, gret_c1, gret_c2, gif_t, gif_f, want_tt, want_ff, want_tf, want_ft, gBin, gInt, gStrOp, gUn, gPick, gNil, gExtract, gIfc, gConvO, gIndexO, gIndexVO, gMakeV, gMinV, gMaxV, gBlt, gCallV, gAllocO_some, vcells, optH_some, Nat.reduceAdd, Nat.reduceSub, Nat.reduceMul, Nat.reduceLT, Nat.reduceLeDiff, Nat.reduceEqDiff, Nat.reduceBEq, reduceIte, Option.map_some, Option.getD_some, Option.some.injEq, List.getElem?_cons_succ, List.getElem?_cons_zero, List.length_cons, List.length_nil, List.cons_append, List.nil_append, List.append_nil, Array.toList_append, List.extract_toArray, List.extract_eq_take_drop, List.drop_succ_cons, List.drop_zero, List.take_succ_cons, List.take_zero, List.set_cons_zero, List.set_cons_succ, Int.cast_ofNat_Int, Int.reduceLT, Int.reduceLE, Int.reduceGT, Int.reduceGE, Int.reduceEq, Int.reduceNe, Int.reduceAdd, Int.reduceSub, Int.reduceMul, Int.reduceNeg, Int.reduceToNat, Int.reduceBEq, Int.reduceBNe, decide_true, decide_false, and_self, ite_true, ite_false, gField, gIndexV, gPart, wrap64, wrapu8, wrapu32, wrapu64, true_and, and_true, Bool.false_eq_true, eq_self_iff_true, Bool.not_true, Bool.not_false, Bool.or_false, Bool.false_or, Bool.true_and, Bool.and_true, gdr_nil, gdr_none, gdr_some, gdrO_t, gdrO_f, gdrW_tt, gdrW_ff, gdrW_tf, gdrW_ft, eput_s, eput_n, kdrF_ap, kdrE_ap, wput_n, wput_s, chk_n, chk_c, chk1_n, chk1_s, rvOf, wlk, rdv, isEff, dsOf, sgl, List.getElem?_toArray, Try.underlying23, Try.underlying24, Try.underlying3, eq23, fo23_0, fo23_1, fo23_2, fo23_3, fo23_4, fo23_5, fo23_6, fo23_7, ni23, ni24, ni3, sh23, sz23, sz24, sz3, zr23, zr24, zr3, rs3, gload1 m1 sz3, gloadA m1 sz23 rfl, d1])

theorem c_AdmitCheck (N : Nat) (h : GH) (p : Pm) : GTri Try.prog N 5 [p.v] h fun v h' => v = .bool true := by
  refine gtri Try.func5 rfl gf5 ok5 (by simp [Try.ntmps5]) ?_
  repeat' first
    | with_reducible refine gw_seq ?_
    | with_reducible refine gw_block ?_
    | ((first
        | with_reducible refine gw_region ?_
        | with_reducible refine gw_if ?_
        | with_reducible refine gw_skip ?_
        | with_reducible refine gw_exit ?_
        | with_reducible refine gw_ret ?_
        | ((with_reducible refine gif_b (fun hb => ?_) (fun hb => ?_)) <;> try simp only [hb])
        | ((with_reducible refine want_t (fun hb => ?_) (fun hb => ?_)) <;> try simp only [hb])
        | ((with_reducible refine want_f (fun hb => ?_) (fun hb => ?_)) <;> try simp only [hb])
        | with_reducible refine gw_draw [(0, []), (2, []), (1, [2]), (3, []), (4, []), (5, []), (6, []), (8, []), (7, [8]), (9, []), (10, []), (11, []), (12, []), (13, []), (15, []), (14, [15]), (16, []), (17, []), (18, []), (19, []), (20, []), (22, []), (21, [22]), (23, []), (24, []), (25, []), (26, []), (27, []), (29, []), (28, [29]), (30, []), (31, []), (32, []), (33, []), (34, []), (36, []), (35, [36]), (37, []), (38, []), (39, []), (40, []), (41, []), (42, []), (43, [])] [0, 1, 0, 7, 15, 31, 63, 127, 63, 511, 1023, 2047, 4095, 8191, 16383, 8191, 65535, 131071, 262143, 524287, 1048575, 2097151, 1048575, 8388607, 16777215, 33554431, 67108863, 134217727, 268435455, 134217727, 1073741823, 2147483647, 4294967295, 8589934591, 17179869183, 34359738367, 17179869183, 137438953471, 274877906943, 549755813887, 1099511627775, 2199023255551, 4398046511103, 8796093022207] mixed (by kernel_rfl) ?_
        | ((with_reducible refine dr_t (fun hb => ?_) (fun hb => ?_)) <;> try simp only [hb])
        | ((with_reducible refine dr_f (fun hb => ?_) (fun hb => ?_)) <;> try simp only [hb])) <;> try simp only [List.map, gops_nil, gops_none, gops_some, kops_ap, kops_no, gop, optK_some, ev, lk, aenv, gyield, thenQ_n, thenQ_r, thenQ_x, blockQ_n, blockQ_r, blockQ_x, retQ_r, retQ_n, gret_0, gret_1, gret_2, gret_3, gret_c, gret_c1, gret_c2, gif_t, gif_f, want_tt, want_ff, want_tf, want_ft, gBin, gInt, gStrOp, gUn, gPick, gNil, gExtract, gIfc, gConvO, gIndexO, gIndexVO, gMakeV, gMinV, gMaxV, gBlt, gCallV, gAllocO_some, vcells, optH_some, Nat.reduceAdd, Nat.reduceSub, Nat.reduceMul, Nat.reduceLT, Nat.reduceLeDiff, Nat.reduceEqDiff, Nat.reduceBEq, reduceIte, Option.map_some, Option.getD_some, Option.some.injEq, List.getElem?_cons_succ, List.getElem?_cons_zero, List.length_cons, List.length_nil, List.cons_append, List.nil_append, List.append_nil, Array.toList_append, List.extract_toArray, List.extract_eq_take_drop, List.drop_succ_cons, List.drop_zero, List.take_succ_cons, List.take_zero, List.set_cons_zero, List.set_cons_succ, Int.cast_ofNat_Int, Int.reduceLT, Int.reduceLE, Int.reduceGT, Int.reduceGE, Int.reduceEq, Int.reduceNe, Int.reduceAdd, Int.reduceSub, Int.reduceMul, Int.reduceNeg, Int.reduceToNat, Int.reduceBEq, Int.reduceBNe, decide_true, decide_false, and_self, ite_true, ite_false, gField, gIndexV, gPart, wrap64, wrapu8, wrapu32, wrapu64, true_and, and_true, Bool.false_eq_true, eq_self_iff_true, Bool.not_true, Bool.not_false, Bool.or_false, Bool.false_or, Bool.true_and, Bool.and_true, gdr_nil, gdr_none, gdr_some, gdrO_t, gdrO_f, gdrW_tt, gdrW_ff, gdrW_tf, gdrW_ft, eput_s, eput_n, kdrF_ap, kdrE_ap, wput_n, wput_s, chk_n, chk_c, chk1_n, chk1_s, rvOf, wlk, rdv, isEff, dsOf, sgl, List.getElem?_toArray, Try.underlying23, Try.underlying24, Try.underlying3, eq23, fo23_0, fo23_1, fo23_2, fo23_3, fo23_4, fo23_5, fo23_6, fo23_7, ni23, ni24, ni3, sh23, sz23, sz24, sz3, zr23, zr24, zr3, rs5, Pm.v])
  refine box_g rfl fun k1 h1 m1 s1 f1 n1 => ?_
  simp only [List.map, gops_nil, gops_none, gops_some, kops_ap, kops_no, gop, optK_some, ev, lk, aenv, gyield, thenQ_n, thenQ_r, thenQ_x, blockQ_n, blockQ_r, blockQ_x, retQ_r, retQ_n, gret_0, gret_1, gret_2, gret_3, gret_c, gret_c1, gret_c2, gif_t, gif_f, want_tt, want_ff, want_tf, want_ft, gBin, gInt, gStrOp, gUn, gPick, gNil, gExtract, gIfc, gConvO, gIndexO, gIndexVO, gMakeV, gMinV, gMaxV, gBlt, gCallV, gAllocO_some, vcells, optH_some, Nat.reduceAdd, Nat.reduceSub, Nat.reduceMul, Nat.reduceLT, Nat.reduceLeDiff, Nat.reduceEqDiff, Nat.reduceBEq, reduceIte, Option.map_some, Option.getD_some, Option.some.injEq, List.getElem?_cons_succ, List.getElem?_cons_zero, List.length_cons, List.length_nil, List.cons_append, List.nil_append, List.append_nil, Array.toList_append, List.extract_toArray, List.extract_eq_take_drop, List.drop_succ_cons, List.drop_zero, List.take_succ_cons, List.take_zero, List.set_cons_zero, List.set_cons_succ, Int.cast_ofNat_Int, Int.reduceLT, Int.reduceLE, Int.reduceGT, Int.reduceGE, Int.reduceEq, Int.reduceNe, Int.reduceAdd, Int.reduceSub, Int.reduceMul, Int.reduceNeg, Int.reduceToNat, Int.reduceBEq, Int.reduceBNe, decide_true, decide_false, and_self, ite_true, ite_false, gField, gIndexV, gPart, wrap64, wrapu8, wrapu32, wrapu64, true_and, and_true, Bool.false_eq_true, eq_self_iff_true, Bool.not_true, Bool.not_false, Bool.or_false, Bool.false_or, Bool.true_and, Bool.and_true, Try.underlying23, Try.underlying24, Try.underlying3, eq23, fo23_0, fo23_1, fo23_2, fo23_3, fo23_4, fo23_5, fo23_6, fo23_7, ni23, ni24, ni3, sh23, sz23, sz24, sz3, zr23, zr24, zr3, rs5]
  repeat' first
    | with_reducible refine gw_seq ?_
    | with_reducible refine gw_block ?_
    | ((first
        | with_reducible refine gw_region ?_
        | with_reducible refine gw_if ?_
        | with_reducible refine gw_skip ?_
        | with_reducible refine gw_exit ?_
        | with_reducible refine gw_ret ?_
        | ((with_reducible refine gif_b (fun hb => ?_) (fun hb => ?_)) <;> try simp only [hb])
        | ((with_reducible refine want_t (fun hb => ?_) (fun hb => ?_)) <;> try simp only [hb])
        | ((with_reducible refine want_f (fun hb => ?_) (fun hb => ?_)) <;> try simp only [hb])
        | with_reducible refine gw_draw [(0, []), (2, []), (1, [2]), (3, []), (4, []), (5, []), (6, []), (8, []), (7, [8]), (9, []), (10, []), (11, []), (12, []), (13, []), (15, []), (14, [15]), (16, []), (17, []), (18, []), (19, []), (20, []), (22, []), (21, [22]), (23, []), (24, []), (25, []), (26, []), (27, []), (29, []), (28, [29]), (30, []), (31, []), (32, []), (33, []), (34, []), (36, []), (35, [36]), (37, []), (38, []), (39, []), (40, []), (41, []), (42, []), (43, [])] [0, 1, 0, 7, 15, 31, 63, 127, 63, 511, 1023, 2047, 4095, 8191, 16383, 8191, 65535, 131071, 262143, 524287, 1048575, 2097151, 1048575, 8388607, 16777215, 33554431, 67108863, 134217727, 268435455, 134217727, 1073741823, 2147483647, 4294967295, 8589934591, 17179869183, 34359738367, 17179869183, 137438953471, 274877906943, 549755813887, 1099511627775, 2199023255551, 4398046511103, 8796093022207] mixed (by kernel_rfl) ?_
        | ((with_reducible refine dr_t (fun hb => ?_) (fun hb => ?_)) <;> try simp only [hb])
        | ((with_reducible refine dr_f (fun hb => ?_) (fun hb => ?_)) <;> try simp only [hb])
        | ((refine GTri.mono (c_check _ _ p) ?_); rintro _ h2 ⟨rfl, s2⟩; have m1 := s2 _ _ m1)
        | ((refine GTri.mono (c_rcheck _ _ p) ?_); rintro _ h2 ⟨rfl, s2⟩; have m1 := s2 _ _ m1)
        | ((refine GTri.mono (c_each _ _ p) ?_); rintro _ h2 ⟨rfl, s2⟩; have m1 := s2 _ _ m1)
        | ((refine GTri.mono (c_reach _ _ p) ?_); rintro _ h2 ⟨rfl, s2⟩; have m1 := s2 _ _ m1)
        | ((refine GTri.mono (c_secs _ _ p) ?_); rintro _ h2 ⟨rfl, s2⟩; have m1 := s2 _ _ m1)
        | ((refine GTri.mono (c_rsecs _ _ p) ?_); rintro _ h2 ⟨rfl, s2⟩; have m1 := s2 _ _ m1)
        | ((refine GTri.mono (c_need _ _ p) ?_); rintro _ h2 ⟨rfl, s2⟩; have m1 := s2 _ _ m1)
        | ((refine GTri.mono (c_rneed _ _ p) ?_); rintro _ h2 ⟨rfl, s2⟩; have m1 := s2 _ _ m1)
        | ((refine GTri.mono (c_deep _ _ p) ?_); rintro _ h2 ⟨rfl, s2⟩; have m1 := s2 _ _ m1)
        | ((refine GTri.mono (c_rdeep _ _ p) ?_); rintro _ h2 ⟨rfl, s2⟩; have m1 := s2 _ _ m1)
        | ((refine GTri.mono (c_eps _ _ p) ?_); rintro _ h2 ⟨rfl, s2⟩; have m1 := s2 _ _ m1)
        | ((refine GTri.mono (c_reps _ _ p) ?_); rintro _ h2 ⟨rfl, s2⟩; have m1 := s2 _ _ m1)
        | ((refine GTri.mono (c_awake15 _ _) ?_); rintro _ h2 ⟨rfl, s2⟩; have m1 := s2 _ _ m1)) <;> try simp only [List.map, gops_nil, gops_none, gops_some, kops_ap, kops_no, gop, optK_some, ev, lk, aenv, gyield, thenQ_n, thenQ_r, thenQ_x, blockQ_n, blockQ_r, blockQ_x, retQ_r, retQ_n, gret_0, gret_1, gret_2, gret_3, gret_c, gret_c1, gret_c2, gif_t, gif_f, want_tt, want_ff, want_tf, want_ft, gBin, gInt, gStrOp, gUn, gPick, gNil, gExtract, gIfc, gConvO, gIndexO, gIndexVO, gMakeV, gMinV, gMaxV, gBlt, gCallV, gAllocO_some, vcells, optH_some, Nat.reduceAdd, Nat.reduceSub, Nat.reduceMul, Nat.reduceLT, Nat.reduceLeDiff, Nat.reduceEqDiff, Nat.reduceBEq, reduceIte, Option.map_some, Option.getD_some, Option.some.injEq, List.getElem?_cons_succ, List.getElem?_cons_zero, List.length_cons, List.length_nil, List.cons_append, List.nil_append, List.append_nil, Array.toList_append, List.extract_toArray, List.extract_eq_take_drop, List.drop_succ_cons, List.drop_zero, List.take_succ_cons, List.take_zero, List.set_cons_zero, List.set_cons_succ, Int.cast_ofNat_Int, Int.reduceLT, Int.reduceLE, Int.reduceGT, Int.reduceGE, Int.reduceEq, Int.reduceNe, Int.reduceAdd, Int.reduceSub, Int.reduceMul, Int.reduceNeg, Int.reduceToNat, Int.reduceBEq, Int.reduceBNe, decide_true, decide_false, and_self, ite_true, ite_false, gField, gIndexV, gPart, wrap64, wrapu8, wrapu32, wrapu64, true_and, and_true, Bool.false_eq_true, eq_self_iff_true, Bool.not_true, Bool.not_false, Bool.or_false, Bool.false_or, Bool.true_and, Bool.and_true, gdr_nil, gdr_none, gdr_some, gdrO_t, gdrO_f, gdrW_tt, gdrW_ff, gdrW_tf, gdrW_ft, eput_s, eput_n, kdrF_ap, kdrE_ap, wput_n, wput_s, chk_n, chk_c, chk1_n, chk1_s, rvOf, wlk, rdv, isEff, dsOf, sgl, List.getElem?_toArray, Try.underlying23, Try.underlying24, Try.underlying3, eq23, fo23_0, fo23_1, fo23_2, fo23_3, fo23_4, fo23_5, fo23_6, fo23_7, ni23, ni24, ni3, sh23, sz23, sz24, sz3, zr23, zr24, zr3, rs5, gload1 m1 sz3, gloadA m1 sz23 rfl, beq_self_eq_true])
end Go.Gh
