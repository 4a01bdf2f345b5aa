/- Parts of this claim's proof, 8. No statement of the claim stands here. -/
import Derived.Test.YtlobmpkfdnifpaaP7
/- A request's reader: batches. -/

namespace Go.Gh
open Go Go.Proofs Go.RowKit
set_option linter.unusedVariables false
set_option linter.unusedSimpArgs false
set_option maxRecDepth 100000
set_option maxHeartbeats 2000000

theorem rbat_suf (l : List UInt8) : (rbat l).2.1.length ≤ l.length := by
  unfold rbat
  split
  · have h1 := (((St.mk l 0).uint 32).2.bds_len 24 48 ((St.mk l 0).uint 32).1.toNat).2
    have h2 := ((St.mk l 0).uint_len 32).1
    simp only at h1 h2 ⊢
    omega
  · simp
theorem St.bds_suf (s : St) (mi mk : Int) : ∀ n, (s.bds mi mk n).2.b <:+ s.b
  | 0 => List.suffix_refl _
  | n + 1 => ((St.bytes_suf _ _).trans (St.bytes_suf _ _)).trans (St.bds_suf s mi mk n)
theorem rbat_suff (l : List UInt8) : (rbat l).2.1 <:+ l := by
  unfold rbat
  split
  · exact (St.bds_suf _ _ _ _).trans (St.uint_suf (St.mk l 0) 32)
  · exact List.nil_suffix
theorem c_rdbat {N kb kt kr ka : Nat} {B : List UInt8} {h0 h : GH} {s : Rs} (i : RPI kb kt kr ka B h0 s h) : GTri Try.prog N 103 [.pointer (some ⟨kr, 0, none⟩), .pointer (some ⟨ka, 9, none⟩)] h fun _ h' => RPI kb kt kr ka B h0 ⟨s.q, s.id, (rbat s.st.b).1, ⟨(rbat s.st.b).2.1, 0⟩, (rbat s.st.b).2.2⟩ h' := by
  have i0 := i
  obtain ⟨krd, a, c, b, d, mr, mt, ⟨ab, cb, mb, rbb, slb⟩, rd, ma, ri, rlb, hs, n1, n2, n3, suf, hl⟩ := i
  have sl := suf_len suf
  refine gtri Try.func103 rfl gf103 ok103 (by simp [Try.ntmps103]) ?_
  repeat' (first | (with_reducible first | refine gw_seq ?_ | refine gw_block ?_) | ((first | (with_reducible first | refine gw_region ?_ | refine gw_if ?_ | refine gw_skip ?_ | refine gw_exit ?_ | refine gw_ret ?_) | ((with_reducible first | refine gif_b (fun hb => ?_) (fun hb => ?_) | refine want_t (fun hb => ?_) (fun hb => ?_) | refine want_f (fun hb => ?_) (fun hb => ?_) | refine dr_t (fun hb => ?_) (fun hb => ?_) | refine dr_f (fun hb => ?_) (fun hb => ?_)) <;> (try simp only [hb]) <;> (try simp only [hpr] at hb)) | with_reducible refine gw_draw (id := 1) [(0, []), (1, []), (2, []), (3, []), (4, []), (5, [0]), (6, []), (7, []), (8, []), (9, []), (10, []), (11, []), (12, []), (13, [])] [0, 0, 2, 6, 14, 30, 63, 127, 255, 255, 255, 511, 3071, 8191] mixed (by kernel_rfl) ?_) <;> try simp only [List.map, gop, ev, lk, aenv, gyield, gBin, gInt, gStrOp, gUn, gPick, gNil, gExtract, gIfc, gConvK, gIndexO, gIndexVO, gMakeV, gMinV, gMaxV, isInt, gMin, gMax, gBlt, gCallV, gInvoke, gNilM, Array.toList_map, vcells, gField, gIndexV, gPart, reduceIte, Nat.reduceAdd, Nat.reduceSub, Nat.reduceMul, Nat.reduceLT, Nat.reduceLeDiff, Nat.reduceEqDiff, Nat.reduceBEq, Int.reduceLT, Int.reduceLE, Int.reduceGT, Int.reduceGE, Int.reduceEq, Int.reduceNe, Int.reduceAdd, Int.reduceSub, Int.reduceMul, Int.reduceNeg, Int.reduceToNat, Int.reduceBEq, Int.reduceBNe, Int.cast_ofNat_Int, List.getElem?_toArray, stp, rvOf, wlk, rdv, isEff, dsOf, sgl, stq, Try.underlying100, Try.underlying120, Try.underlying22, Try.underlying23, Try.underlying3, Try.underlying36, Try.underlying5, Try.underlying50, Try.underlying86, Try.underlying88, Try.underlying96, ty22, ty36, ty100, ty120, ty88, ty96, ty23, ty3, ty5, ty50, ty86, rs103, gBuild, lfill, lput, Shape.pl, List.all_cons, List.all_nil, isCell]))
  refine new_g fun k1 h1 m1 s1 f1 n1' => ?_
  (try simp only [List.map, gop, ev, lk, aenv, gyield, gBin, gInt, gStrOp, gUn, gPick, gNil, gExtract, gIfc, gConvK, gIndexO, gIndexVO, gMakeV, gMinV, gMaxV, isInt, gMin, gMax, gBlt, gCallV, gInvoke, gNilM, Array.toList_map, vcells, gField, gIndexV, gPart, reduceIte, Nat.reduceAdd, Nat.reduceSub, Nat.reduceMul, Nat.reduceLT, Nat.reduceLeDiff, Nat.reduceEqDiff, Nat.reduceBEq, Int.reduceLT, Int.reduceLE, Int.reduceGT, Int.reduceGE, Int.reduceEq, Int.reduceNe, Int.reduceAdd, Int.reduceSub, Int.reduceMul, Int.reduceNeg, Int.reduceToNat, Int.reduceBEq, Int.reduceBNe, Int.cast_ofNat_Int, List.getElem?_toArray, stp, rvOf, wlk, rdv, isEff, dsOf, sgl, stq, Try.underlying100, Try.underlying120, Try.underlying22, Try.underlying23, Try.underlying3, Try.underlying36, Try.underlying5, Try.underlying50, Try.underlying86, Try.underlying88, Try.underlying96, ty22, ty36, ty100, ty120, ty88, ty96, ty23, ty3, ty5, ty50, ty86, rs103]); repeat' (first | (with_reducible first | refine gw_seq ?_ | refine gw_block ?_) | ((first | (with_reducible first | refine gw_region ?_ | refine gw_if ?_ | refine gw_skip ?_ | refine gw_exit ?_ | refine gw_ret ?_) | ((with_reducible first | refine gif_b (fun hb => ?_) (fun hb => ?_) | refine want_t (fun hb => ?_) (fun hb => ?_) | refine want_f (fun hb => ?_) (fun hb => ?_) | refine dr_t (fun hb => ?_) (fun hb => ?_) | refine dr_f (fun hb => ?_) (fun hb => ?_)) <;> (try simp only [hb]) <;> (try simp only [hpr] at hb)) | with_reducible refine gw_draw (id := 1) [(0, []), (1, []), (2, []), (3, []), (4, []), (5, [0]), (6, []), (7, []), (8, []), (9, []), (10, []), (11, []), (12, []), (13, [])] [0, 0, 2, 6, 14, 30, 63, 127, 255, 255, 255, 511, 3071, 8191] mixed (by kernel_rfl) ?_) <;> try simp only [List.map, gop, ev, lk, aenv, gyield, gBin, gInt, gStrOp, gUn, gPick, gNil, gExtract, gIfc, gConvK, gIndexO, gIndexVO, gMakeV, gMinV, gMaxV, isInt, gMin, gMax, gBlt, gCallV, gInvoke, gNilM, Array.toList_map, vcells, gField, gIndexV, gPart, reduceIte, Nat.reduceAdd, Nat.reduceSub, Nat.reduceMul, Nat.reduceLT, Nat.reduceLeDiff, Nat.reduceEqDiff, Nat.reduceBEq, Int.reduceLT, Int.reduceLE, Int.reduceGT, Int.reduceGE, Int.reduceEq, Int.reduceNe, Int.reduceAdd, Int.reduceSub, Int.reduceMul, Int.reduceNeg, Int.reduceToNat, Int.reduceBEq, Int.reduceBNe, Int.cast_ofNat_Int, List.getElem?_toArray, stp, rvOf, wlk, rdv, isEff, dsOf, sgl, stq, Try.underlying100, Try.underlying120, Try.underlying22, Try.underlying23, Try.underlying3, Try.underlying36, Try.underlying5, Try.underlying50, Try.underlying86, Try.underlying88, Try.underlying96, ty22, ty36, ty100, ty120, ty88, ty96, ty23, ty3, ty5, ty50, ty86, rs103]))
  refine st_agg m1 sz96 rfl (by decide) rfl rfl rfl fun h2 m2 f2 => ?_
  have s2 : HS h h2 := (HS.refl _).upd n1' fun j hj => (f2 j hj).trans (f1 j hj)
  have i2 : RPI kb kt kr ka B h0 s h2 := ⟨krd, a, c, b, d, s2 _ _ mr, s2 _ _ mt, ⟨ab, cb, s2 _ _ mb, rbb.hs s2, slb.hs s2⟩, rd.hs s2, s2 _ _ ma, ri.hs s2, rlb.bs s2, hs.trans s2, n1, n2, n3, suf, hl⟩
  have mr2 := s2 _ _ mr
  (try simp only [List.map, gop, ev, lk, aenv, gyield, gBin, gInt, gStrOp, gUn, gPick, gNil, gExtract, gIfc, gConvK, gIndexO, gIndexVO, gMakeV, gMinV, gMaxV, isInt, gMin, gMax, gBlt, gCallV, gInvoke, gNilM, Array.toList_map, vcells, gField, gIndexV, gPart, reduceIte, Nat.reduceAdd, Nat.reduceSub, Nat.reduceMul, Nat.reduceLT, Nat.reduceLeDiff, Nat.reduceEqDiff, Nat.reduceBEq, Int.reduceLT, Int.reduceLE, Int.reduceGT, Int.reduceGE, Int.reduceEq, Int.reduceNe, Int.reduceAdd, Int.reduceSub, Int.reduceMul, Int.reduceNeg, Int.reduceToNat, Int.reduceBEq, Int.reduceBNe, Int.cast_ofNat_Int, List.getElem?_toArray, stp, rvOf, wlk, rdv, isEff, dsOf, sgl, stq, Try.underlying100, Try.underlying120, Try.underlying22, Try.underlying23, Try.underlying3, Try.underlying36, Try.underlying5, Try.underlying50, Try.underlying86, Try.underlying88, Try.underlying96, ty22, ty36, ty100, ty120, ty88, ty96, ty23, ty3, ty5, ty50, ty86, rs103, gNil, gloadA m2 sz96 rfl, gload1 mr2 sz86, List.map_toArray]); repeat' (first | (with_reducible first | refine gw_seq ?_ | refine gw_block ?_) | ((first | (with_reducible first | refine gw_region ?_ | refine gw_if ?_ | refine gw_skip ?_ | refine gw_exit ?_ | refine gw_ret ?_) | ((with_reducible first | refine gif_b (fun hb => ?_) (fun hb => ?_) | refine want_t (fun hb => ?_) (fun hb => ?_) | refine want_f (fun hb => ?_) (fun hb => ?_) | refine dr_t (fun hb => ?_) (fun hb => ?_) | refine dr_f (fun hb => ?_) (fun hb => ?_)) <;> (try simp only [hb]) <;> (try simp only [hpr] at hb)) | with_reducible refine gw_draw (id := 1) [(0, []), (1, []), (2, []), (3, []), (4, []), (5, [0]), (6, []), (7, []), (8, []), (9, []), (10, []), (11, []), (12, []), (13, [])] [0, 0, 2, 6, 14, 30, 63, 127, 255, 255, 255, 511, 3071, 8191] mixed (by kernel_rfl) ?_) <;> try simp only [List.map, gop, ev, lk, aenv, gyield, gBin, gInt, gStrOp, gUn, gPick, gNil, gExtract, gIfc, gConvK, gIndexO, gIndexVO, gMakeV, gMinV, gMaxV, isInt, gMin, gMax, gBlt, gCallV, gInvoke, gNilM, Array.toList_map, vcells, gField, gIndexV, gPart, reduceIte, Nat.reduceAdd, Nat.reduceSub, Nat.reduceMul, Nat.reduceLT, Nat.reduceLeDiff, Nat.reduceEqDiff, Nat.reduceBEq, Int.reduceLT, Int.reduceLE, Int.reduceGT, Int.reduceGE, Int.reduceEq, Int.reduceNe, Int.reduceAdd, Int.reduceSub, Int.reduceMul, Int.reduceNeg, Int.reduceToNat, Int.reduceBEq, Int.reduceBNe, Int.cast_ofNat_Int, List.getElem?_toArray, stp, rvOf, wlk, rdv, isEff, dsOf, sgl, stq, Try.underlying100, Try.underlying120, Try.underlying22, Try.underlying23, Try.underlying3, Try.underlying36, Try.underlying5, Try.underlying50, Try.underlying86, Try.underlying88, Try.underlying96, ty22, ty36, ty100, ty120, ty88, ty96, ty23, ty3, ty5, ty50, ty86, rs103, gNil, gloadA m2 sz96 rfl, gload1 mr2 sz86, List.map_toArray]))
  refine (c_rest i2).mono ?_
  rintro _ h3 ⟨e3, a3, c3, rfl, r3, sl3⟩
  replace e3 := e3.symm
  subst e3
  (try simp only [List.map, gop, ev, lk, aenv, gyield, gBin, gInt, gStrOp, gUn, gPick, gNil, gExtract, gIfc, gConvK, gIndexO, gIndexVO, gMakeV, gMinV, gMaxV, isInt, gMin, gMax, gBlt, gCallV, gInvoke, gNilM, Array.toList_map, vcells, gField, gIndexV, gPart, reduceIte, Nat.reduceAdd, Nat.reduceSub, Nat.reduceMul, Nat.reduceLT, Nat.reduceLeDiff, Nat.reduceEqDiff, Nat.reduceBEq, Int.reduceLT, Int.reduceLE, Int.reduceGT, Int.reduceGE, Int.reduceEq, Int.reduceNe, Int.reduceAdd, Int.reduceSub, Int.reduceMul, Int.reduceNeg, Int.reduceToNat, Int.reduceBEq, Int.reduceBNe, Int.cast_ofNat_Int, List.getElem?_toArray, stp, rvOf, wlk, rdv, isEff, dsOf, sgl, stq, Try.underlying100, Try.underlying120, Try.underlying22, Try.underlying23, Try.underlying3, Try.underlying36, Try.underlying5, Try.underlying50, Try.underlying86, Try.underlying88, Try.underlying96, ty22, ty36, ty100, ty120, ty88, ty96, ty23, ty3, ty5, ty50, ty86, rs103, gNil, gloadA m2 sz96 rfl, gload1 mr2 sz86, List.map_toArray]); repeat' (first | (with_reducible first | refine gw_seq ?_ | refine gw_block ?_) | ((first | (with_reducible first | refine gw_region ?_ | refine gw_if ?_ | refine gw_skip ?_ | refine gw_exit ?_ | refine gw_ret ?_) | ((with_reducible first | refine gif_b (fun hb => ?_) (fun hb => ?_) | refine want_t (fun hb => ?_) (fun hb => ?_) | refine want_f (fun hb => ?_) (fun hb => ?_) | refine dr_t (fun hb => ?_) (fun hb => ?_) | refine dr_f (fun hb => ?_) (fun hb => ?_)) <;> (try simp only [hb]) <;> (try simp only [hpr] at hb)) | with_reducible refine gw_draw (id := 1) [(0, []), (1, []), (2, []), (3, []), (4, []), (5, [0]), (6, []), (7, []), (8, []), (9, []), (10, []), (11, []), (12, []), (13, [])] [0, 0, 2, 6, 14, 30, 63, 127, 255, 255, 255, 511, 3071, 8191] mixed (by kernel_rfl) ?_) <;> try simp only [List.map, gop, ev, lk, aenv, gyield, gBin, gInt, gStrOp, gUn, gPick, gNil, gExtract, gIfc, gConvK, gIndexO, gIndexVO, gMakeV, gMinV, gMaxV, isInt, gMin, gMax, gBlt, gCallV, gInvoke, gNilM, Array.toList_map, vcells, gField, gIndexV, gPart, reduceIte, Nat.reduceAdd, Nat.reduceSub, Nat.reduceMul, Nat.reduceLT, Nat.reduceLeDiff, Nat.reduceEqDiff, Nat.reduceBEq, Int.reduceLT, Int.reduceLE, Int.reduceGT, Int.reduceGE, Int.reduceEq, Int.reduceNe, Int.reduceAdd, Int.reduceSub, Int.reduceMul, Int.reduceNeg, Int.reduceToNat, Int.reduceBEq, Int.reduceBNe, Int.cast_ofNat_Int, List.getElem?_toArray, stp, rvOf, wlk, rdv, isEff, dsOf, sgl, stq, Try.underlying100, Try.underlying120, Try.underlying22, Try.underlying23, Try.underlying3, Try.underlying36, Try.underlying5, Try.underlying50, Try.underlying86, Try.underlying88, Try.underlying96, ty22, ty36, ty100, ty120, ty88, ty96, ty23, ty3, ty5, ty50, ty86, rs103, gNil, gloadA m2 sz96 rfl, gload1 mr2 sz86, List.map_toArray]))
  refine (c_CRead N h2 r3 sl3 (by omega)).mono ?_
  rintro _ h4 ⟨s4, a4, d4, a4', d4', rfl, rl4, o4⟩
  have m2' := s4 _ _ m2
  have ma4 := s4 _ _ (s2 _ _ ma)
  have mr4 := s4 _ _ mr2
  (try simp only [List.map, gop, ev, lk, aenv, gyield, gBin, gInt, gStrOp, gUn, gPick, gNil, gExtract, gIfc, gConvK, gIndexO, gIndexVO, gMakeV, gMinV, gMaxV, isInt, gMin, gMax, gBlt, gCallV, gInvoke, gNilM, Array.toList_map, vcells, gField, gIndexV, gPart, reduceIte, Nat.reduceAdd, Nat.reduceSub, Nat.reduceMul, Nat.reduceLT, Nat.reduceLeDiff, Nat.reduceEqDiff, Nat.reduceBEq, Int.reduceLT, Int.reduceLE, Int.reduceGT, Int.reduceGE, Int.reduceEq, Int.reduceNe, Int.reduceAdd, Int.reduceSub, Int.reduceMul, Int.reduceNeg, Int.reduceToNat, Int.reduceBEq, Int.reduceBNe, Int.cast_ofNat_Int, List.getElem?_toArray, stp, rvOf, wlk, rdv, isEff, dsOf, sgl, stq, Try.underlying100, Try.underlying120, Try.underlying22, Try.underlying23, Try.underlying3, Try.underlying36, Try.underlying5, Try.underlying50, Try.underlying86, Try.underlying88, Try.underlying96, ty22, ty36, ty100, ty120, ty88, ty96, ty23, ty3, ty5, ty50, ty86, rs103, gNil, gloadA m2' sz96 rfl]); repeat' (first | (with_reducible first | refine gw_seq ?_ | refine gw_block ?_) | ((first | (with_reducible first | refine gw_region ?_ | refine gw_if ?_ | refine gw_skip ?_ | refine gw_exit ?_ | refine gw_ret ?_) | ((with_reducible first | refine gif_b (fun hb => ?_) (fun hb => ?_) | refine want_t (fun hb => ?_) (fun hb => ?_) | refine want_f (fun hb => ?_) (fun hb => ?_) | refine dr_t (fun hb => ?_) (fun hb => ?_) | refine dr_f (fun hb => ?_) (fun hb => ?_)) <;> (try simp only [hb]) <;> (try simp only [hpr] at hb)) | with_reducible refine gw_draw (id := 1) [(0, []), (1, []), (2, []), (3, []), (4, []), (5, [0]), (6, []), (7, []), (8, []), (9, []), (10, []), (11, []), (12, []), (13, [])] [0, 0, 2, 6, 14, 30, 63, 127, 255, 255, 255, 511, 3071, 8191] mixed (by kernel_rfl) ?_) <;> try simp only [List.map, gop, ev, lk, aenv, gyield, gBin, gInt, gStrOp, gUn, gPick, gNil, gExtract, gIfc, gConvK, gIndexO, gIndexVO, gMakeV, gMinV, gMaxV, isInt, gMin, gMax, gBlt, gCallV, gInvoke, gNilM, Array.toList_map, vcells, gField, gIndexV, gPart, reduceIte, Nat.reduceAdd, Nat.reduceSub, Nat.reduceMul, Nat.reduceLT, Nat.reduceLeDiff, Nat.reduceEqDiff, Nat.reduceBEq, Int.reduceLT, Int.reduceLE, Int.reduceGT, Int.reduceGE, Int.reduceEq, Int.reduceNe, Int.reduceAdd, Int.reduceSub, Int.reduceMul, Int.reduceNeg, Int.reduceToNat, Int.reduceBEq, Int.reduceBNe, Int.cast_ofNat_Int, List.getElem?_toArray, stp, rvOf, wlk, rdv, isEff, dsOf, sgl, stq, Try.underlying100, Try.underlying120, Try.underlying22, Try.underlying23, Try.underlying3, Try.underlying36, Try.underlying5, Try.underlying50, Try.underlying86, Try.underlying88, Try.underlying96, ty22, ty36, ty100, ty120, ty88, ty96, ty23, ty3, ty5, ty50, ty86, rs103, gNil, gloadA m2' sz96 rfl]))
  refine st_one ma4 sz36 rfl (by rw [Aq.cs_len]; omega) rfl rfl fun h5 m5 f5 => ?_
  have j1 : kr ≠ ka := ne_cells mr ma (by simp [Aq.cs])
  have j2 : kt ≠ ka := ne_cells mt ma (by simp [Aq.cs])
  have j3 : kb ≠ ka := ne_cells mb ma (by simp [Aq.cs])
  have g1 : kt ≠ kr := ne_cells mt mr (by simp)
  have g2 : kb ≠ kr := ne_cells mb mr (by simp)
  have x5 : HX ka h4 h5 := fun j B n e => by rw [f5 j n]; exact e
  have mr5 := x5 _ _ j1 mr4
  (try simp only [List.map, gop, ev, lk, aenv, gyield, gBin, gInt, gStrOp, gUn, gPick, gNil, gExtract, gIfc, gConvK, gIndexO, gIndexVO, gMakeV, gMinV, gMaxV, isInt, gMin, gMax, gBlt, gCallV, gInvoke, gNilM, Array.toList_map, vcells, gField, gIndexV, gPart, reduceIte, Nat.reduceAdd, Nat.reduceSub, Nat.reduceMul, Nat.reduceLT, Nat.reduceLeDiff, Nat.reduceEqDiff, Nat.reduceBEq, Int.reduceLT, Int.reduceLE, Int.reduceGT, Int.reduceGE, Int.reduceEq, Int.reduceNe, Int.reduceAdd, Int.reduceSub, Int.reduceMul, Int.reduceNeg, Int.reduceToNat, Int.reduceBEq, Int.reduceBNe, Int.cast_ofNat_Int, List.getElem?_toArray, stp, rvOf, wlk, rdv, isEff, dsOf, sgl, stq, Try.underlying100, Try.underlying120, Try.underlying22, Try.underlying23, Try.underlying3, Try.underlying36, Try.underlying5, Try.underlying50, Try.underlying86, Try.underlying88, Try.underlying96, ty22, ty36, ty100, ty120, ty88, ty96, ty23, ty3, ty5, ty50, ty86, rs103, gNil]); repeat' (first | (with_reducible first | refine gw_seq ?_ | refine gw_block ?_) | ((first | (with_reducible first | refine gw_region ?_ | refine gw_if ?_ | refine gw_skip ?_ | refine gw_exit ?_ | refine gw_ret ?_) | ((with_reducible first | refine gif_b (fun hb => ?_) (fun hb => ?_) | refine want_t (fun hb => ?_) (fun hb => ?_) | refine want_f (fun hb => ?_) (fun hb => ?_) | refine dr_t (fun hb => ?_) (fun hb => ?_) | refine dr_f (fun hb => ?_) (fun hb => ?_)) <;> (try simp only [hb]) <;> (try simp only [hpr] at hb)) | with_reducible refine gw_draw (id := 1) [(0, []), (1, []), (2, []), (3, []), (4, []), (5, [0]), (6, []), (7, []), (8, []), (9, []), (10, []), (11, []), (12, []), (13, [])] [0, 0, 2, 6, 14, 30, 63, 127, 255, 255, 255, 511, 3071, 8191] mixed (by kernel_rfl) ?_) <;> try simp only [List.map, gop, ev, lk, aenv, gyield, gBin, gInt, gStrOp, gUn, gPick, gNil, gExtract, gIfc, gConvK, gIndexO, gIndexVO, gMakeV, gMinV, gMaxV, isInt, gMin, gMax, gBlt, gCallV, gInvoke, gNilM, Array.toList_map, vcells, gField, gIndexV, gPart, reduceIte, Nat.reduceAdd, Nat.reduceSub, Nat.reduceMul, Nat.reduceLT, Nat.reduceLeDiff, Nat.reduceEqDiff, Nat.reduceBEq, Int.reduceLT, Int.reduceLE, Int.reduceGT, Int.reduceGE, Int.reduceEq, Int.reduceNe, Int.reduceAdd, Int.reduceSub, Int.reduceMul, Int.reduceNeg, Int.reduceToNat, Int.reduceBEq, Int.reduceBNe, Int.cast_ofNat_Int, List.getElem?_toArray, stp, rvOf, wlk, rdv, isEff, dsOf, sgl, stq, Try.underlying100, Try.underlying120, Try.underlying22, Try.underlying23, Try.underlying3, Try.underlying36, Try.underlying5, Try.underlying50, Try.underlying86, Try.underlying88, Try.underlying96, ty22, ty36, ty100, ty120, ty88, ty96, ty23, ty3, ty5, ty50, ty86, rs103, gNil]))
  refine st_one mr5 sz23 rfl (by simp) rfl rfl fun h6 m6 f6 => ?_
  have x6 : HX kr h5 h6 := fun j B n e => by rw [f6 j n]; exact e
  have o6 := (o4.rb.hx ma4 rfl x5).hx mr5 rfl x6
  (try simp only [List.map, gop, ev, lk, aenv, gyield, gBin, gInt, gStrOp, gUn, gPick, gNil, gExtract, gIfc, gConvK, gIndexO, gIndexVO, gMakeV, gMinV, gMaxV, isInt, gMin, gMax, gBlt, gCallV, gInvoke, gNilM, Array.toList_map, vcells, gField, gIndexV, gPart, reduceIte, Nat.reduceAdd, Nat.reduceSub, Nat.reduceMul, Nat.reduceLT, Nat.reduceLeDiff, Nat.reduceEqDiff, Nat.reduceBEq, Int.reduceLT, Int.reduceLE, Int.reduceGT, Int.reduceGE, Int.reduceEq, Int.reduceNe, Int.reduceAdd, Int.reduceSub, Int.reduceMul, Int.reduceNeg, Int.reduceToNat, Int.reduceBEq, Int.reduceBNe, Int.cast_ofNat_Int, List.getElem?_toArray, stp, rvOf, wlk, rdv, isEff, dsOf, sgl, stq, Try.underlying100, Try.underlying120, Try.underlying22, Try.underlying23, Try.underlying3, Try.underlying36, Try.underlying5, Try.underlying50, Try.underlying86, Try.underlying88, Try.underlying96, ty22, ty36, ty100, ty120, ty88, ty96, ty23, ty3, ty5, ty50, ty86, rs103, gNil]); repeat' (first | (with_reducible first | refine gw_seq ?_ | refine gw_block ?_) | ((first | (with_reducible first | refine gw_region ?_ | refine gw_if ?_ | refine gw_skip ?_ | refine gw_exit ?_ | refine gw_ret ?_) | ((with_reducible first | refine gif_b (fun hb => ?_) (fun hb => ?_) | refine want_t (fun hb => ?_) (fun hb => ?_) | refine want_f (fun hb => ?_) (fun hb => ?_) | refine dr_t (fun hb => ?_) (fun hb => ?_) | refine dr_f (fun hb => ?_) (fun hb => ?_)) <;> (try simp only [hb]) <;> (try simp only [hpr] at hb)) | with_reducible refine gw_draw (id := 1) [(0, []), (1, []), (2, []), (3, []), (4, []), (5, [0]), (6, []), (7, []), (8, []), (9, []), (10, []), (11, []), (12, []), (13, [])] [0, 0, 2, 6, 14, 30, 63, 127, 255, 255, 255, 511, 3071, 8191] mixed (by kernel_rfl) ?_) <;> try simp only [List.map, gop, ev, lk, aenv, gyield, gBin, gInt, gStrOp, gUn, gPick, gNil, gExtract, gIfc, gConvK, gIndexO, gIndexVO, gMakeV, gMinV, gMaxV, isInt, gMin, gMax, gBlt, gCallV, gInvoke, gNilM, Array.toList_map, vcells, gField, gIndexV, gPart, reduceIte, Nat.reduceAdd, Nat.reduceSub, Nat.reduceMul, Nat.reduceLT, Nat.reduceLeDiff, Nat.reduceEqDiff, Nat.reduceBEq, Int.reduceLT, Int.reduceLE, Int.reduceGT, Int.reduceGE, Int.reduceEq, Int.reduceNe, Int.reduceAdd, Int.reduceSub, Int.reduceMul, Int.reduceNeg, Int.reduceToNat, Int.reduceBEq, Int.reduceBNe, Int.cast_ofNat_Int, List.getElem?_toArray, stp, rvOf, wlk, rdv, isEff, dsOf, sgl, stq, Try.underlying100, Try.underlying120, Try.underlying22, Try.underlying23, Try.underlying3, Try.underlying36, Try.underlying5, Try.underlying50, Try.underlying86, Try.underlying88, Try.underlying96, ty22, ty36, ty100, ty120, ty88, ty96, ty23, ty3, ty5, ty50, ty86, rs103, gNil]))
  refine (c_Open N h6 o6 (by have := rbat_suf s.st.b; omega)).mono ?_
  rintro _ h7 ⟨krd7, rfl, rd7, s7, n7⟩
  have mr7 := s7 _ _ m6
  (try simp only [List.map, gop, ev, lk, aenv, gyield, gBin, gInt, gStrOp, gUn, gPick, gNil, gExtract, gIfc, gConvK, gIndexO, gIndexVO, gMakeV, gMinV, gMaxV, isInt, gMin, gMax, gBlt, gCallV, gInvoke, gNilM, Array.toList_map, vcells, gField, gIndexV, gPart, reduceIte, Nat.reduceAdd, Nat.reduceSub, Nat.reduceMul, Nat.reduceLT, Nat.reduceLeDiff, Nat.reduceEqDiff, Nat.reduceBEq, Int.reduceLT, Int.reduceLE, Int.reduceGT, Int.reduceGE, Int.reduceEq, Int.reduceNe, Int.reduceAdd, Int.reduceSub, Int.reduceMul, Int.reduceNeg, Int.reduceToNat, Int.reduceBEq, Int.reduceBNe, Int.cast_ofNat_Int, List.getElem?_toArray, stp, rvOf, wlk, rdv, isEff, dsOf, sgl, stq, Try.underlying100, Try.underlying120, Try.underlying22, Try.underlying23, Try.underlying3, Try.underlying36, Try.underlying5, Try.underlying50, Try.underlying86, Try.underlying88, Try.underlying96, ty22, ty36, ty100, ty120, ty88, ty96, ty23, ty3, ty5, ty50, ty86, rs103, gNil]); repeat' (first | (with_reducible first | refine gw_seq ?_ | refine gw_block ?_) | ((first | (with_reducible first | refine gw_region ?_ | refine gw_if ?_ | refine gw_skip ?_ | refine gw_exit ?_ | refine gw_ret ?_) | ((with_reducible first | refine gif_b (fun hb => ?_) (fun hb => ?_) | refine want_t (fun hb => ?_) (fun hb => ?_) | refine want_f (fun hb => ?_) (fun hb => ?_) | refine dr_t (fun hb => ?_) (fun hb => ?_) | refine dr_f (fun hb => ?_) (fun hb => ?_)) <;> (try simp only [hb]) <;> (try simp only [hpr] at hb)) | with_reducible refine gw_draw (id := 1) [(0, []), (1, []), (2, []), (3, []), (4, []), (5, [0]), (6, []), (7, []), (8, []), (9, []), (10, []), (11, []), (12, []), (13, [])] [0, 0, 2, 6, 14, 30, 63, 127, 255, 255, 255, 511, 3071, 8191] mixed (by kernel_rfl) ?_) <;> try simp only [List.map, gop, ev, lk, aenv, gyield, gBin, gInt, gStrOp, gUn, gPick, gNil, gExtract, gIfc, gConvK, gIndexO, gIndexVO, gMakeV, gMinV, gMaxV, isInt, gMin, gMax, gBlt, gCallV, gInvoke, gNilM, Array.toList_map, vcells, gField, gIndexV, gPart, reduceIte, Nat.reduceAdd, Nat.reduceSub, Nat.reduceMul, Nat.reduceLT, Nat.reduceLeDiff, Nat.reduceEqDiff, Nat.reduceBEq, Int.reduceLT, Int.reduceLE, Int.reduceGT, Int.reduceGE, Int.reduceEq, Int.reduceNe, Int.reduceAdd, Int.reduceSub, Int.reduceMul, Int.reduceNeg, Int.reduceToNat, Int.reduceBEq, Int.reduceBNe, Int.cast_ofNat_Int, List.getElem?_toArray, stp, rvOf, wlk, rdv, isEff, dsOf, sgl, stq, Try.underlying100, Try.underlying120, Try.underlying22, Try.underlying23, Try.underlying3, Try.underlying36, Try.underlying5, Try.underlying50, Try.underlying86, Try.underlying88, Try.underlying96, ty22, ty36, ty100, ty120, ty88, ty96, ty23, ty3, ty5, ty50, ty86, rs103, gNil]))
  refine st_one mr7 sz50 rfl (by simp) rfl rfl fun h8 m8 f8 => ?_
  have x8 : HX kr h7 h8 := fun j B n e => by rw [f8 j n]; exact e
  (try simp only [List.map, gop, ev, lk, aenv, gyield, gBin, gInt, gStrOp, gUn, gPick, gNil, gExtract, gIfc, gConvK, gIndexO, gIndexVO, gMakeV, gMinV, gMaxV, isInt, gMin, gMax, gBlt, gCallV, gInvoke, gNilM, Array.toList_map, vcells, gField, gIndexV, gPart, reduceIte, Nat.reduceAdd, Nat.reduceSub, Nat.reduceMul, Nat.reduceLT, Nat.reduceLeDiff, Nat.reduceEqDiff, Nat.reduceBEq, Int.reduceLT, Int.reduceLE, Int.reduceGT, Int.reduceGE, Int.reduceEq, Int.reduceNe, Int.reduceAdd, Int.reduceSub, Int.reduceMul, Int.reduceNeg, Int.reduceToNat, Int.reduceBEq, Int.reduceBNe, Int.cast_ofNat_Int, List.getElem?_toArray, stp, rvOf, wlk, rdv, isEff, dsOf, sgl, stq, Try.underlying100, Try.underlying120, Try.underlying22, Try.underlying23, Try.underlying3, Try.underlying36, Try.underlying5, Try.underlying50, Try.underlying86, Try.underlying88, Try.underlying96, ty22, ty36, ty100, ty120, ty88, ty96, ty23, ty3, ty5, ty50, ty86, rs103]); repeat' (first | (with_reducible first | refine gw_seq ?_ | refine gw_block ?_) | ((first | (with_reducible first | refine gw_region ?_ | refine gw_if ?_ | refine gw_skip ?_ | refine gw_exit ?_ | refine gw_ret ?_) | ((with_reducible first | refine gif_b (fun hb => ?_) (fun hb => ?_) | refine want_t (fun hb => ?_) (fun hb => ?_) | refine want_f (fun hb => ?_) (fun hb => ?_) | refine dr_t (fun hb => ?_) (fun hb => ?_) | refine dr_f (fun hb => ?_) (fun hb => ?_)) <;> (try simp only [hb]) <;> (try simp only [hpr] at hb)) | with_reducible refine gw_draw (id := 1) [(0, []), (1, []), (2, []), (3, []), (4, []), (5, [0]), (6, []), (7, []), (8, []), (9, []), (10, []), (11, []), (12, []), (13, [])] [0, 0, 2, 6, 14, 30, 63, 127, 255, 255, 255, 511, 3071, 8191] mixed (by kernel_rfl) ?_) <;> try simp only [List.map, gop, ev, lk, aenv, gyield, gBin, gInt, gStrOp, gUn, gPick, gNil, gExtract, gIfc, gConvK, gIndexO, gIndexVO, gMakeV, gMinV, gMaxV, isInt, gMin, gMax, gBlt, gCallV, gInvoke, gNilM, Array.toList_map, vcells, gField, gIndexV, gPart, reduceIte, Nat.reduceAdd, Nat.reduceSub, Nat.reduceMul, Nat.reduceLT, Nat.reduceLeDiff, Nat.reduceEqDiff, Nat.reduceBEq, Int.reduceLT, Int.reduceLE, Int.reduceGT, Int.reduceGE, Int.reduceEq, Int.reduceNe, Int.reduceAdd, Int.reduceSub, Int.reduceMul, Int.reduceNeg, Int.reduceToNat, Int.reduceBEq, Int.reduceBNe, Int.cast_ofNat_Int, List.getElem?_toArray, stp, rvOf, wlk, rdv, isEff, dsOf, sgl, stq, Try.underlying100, Try.underlying120, Try.underlying22, Try.underlying23, Try.underlying3, Try.underlying36, Try.underlying5, Try.underlying50, Try.underlying86, Try.underlying88, Try.underlying96, ty22, ty36, ty100, ty120, ty88, ty96, ty23, ty3, ty5, ty50, ty86, rs103]))
  have hs6 : HS h0 h6 := x6.new (x5.new ((hs.trans s2).trans s4) n2) n1
  have k7 : krd7 ≠ kr := fun e => by rw [e, m6] at n7; cases n7
  have c5 : (((s.q.cs (.slice a s.id.length c) (.slice b s.bt.length d)).set 9 (.slice a4 (rbat s.st.b).1.length d4))).all notU8 = true := rfl
  have mb8 : h8 kb = _ := x8 _ _ g2 (s7 _ _ (x6 _ _ g2 (x5 _ _ j3 (s4 _ _ (s2 _ _ mb)))))
  have st := s2.trans s4
  refine ⟨krd7, a, c, a4, d4, m8, x8 _ _ g1 (s7 _ _ (x6 _ _ g1 (x5 _ _ j2 (st _ _ mt)))), ⟨ab, cb, mb8, ?_, ?_⟩, ?_, x8 _ _ j1.symm (s7 _ _ (x6 _ _ j1.symm m5)), ?_, ?_, x8.new (hs6.trans s7) n1, n1, n2, hs6.none_of n7, ?_, hl⟩
  · exact ((((rbb.hs st).hx ma4 rfl x5).hx mr5 rfl x6).hs s7).hx mr7 rfl x8
  · exact ((((slb.hs st).hx ma4 rfl x5).hx mr5 rfl x6).hs s7).hx mr7 rfl x8
  · exact rd7.hl mr7 (by simp) rfl x8 k7
  · exact ((((ri.hs st).hx ma4 rfl x5).hx mr5 rfl x6).hs s7).hx mr7 rfl x8
  · exact ((((rl4.bx ma4 ⟨rfl, rfl⟩ rfl x5).bx mr5 ⟨rfl, rfl⟩ rfl x6).bs s7).bx mr7 ⟨rfl, rfl⟩ rfl x8)
  · exact (rbat_suff _).trans suf
end Go.Gh

/- A request, read. -/

namespace Go.Gh
open Go Go.Proofs Go.RowKit
set_option linter.unusedVariables false
set_option linter.unusedSimpArgs false
set_option maxRecDepth 100000
set_option maxHeartbeats 2000000

def readerPen (N kb kt kr ka : Nat) (B : List UInt8) (h0 : GH) : Pen N where
  T := 85
  fn := 105
  fx := 106
  fg := 104
  fb := 103
  gn := gmr_n
  gx := gmr_x
  gg := gmr_g
  gb := gmr_b
  x := .pointer (some ⟨kr, 0, none⟩)
  ka := ka
  S := Rs
  I := fun _ s h => RPI kb kt kr ka B h0 s h
  kd := fun s => s.q.kd
  so := fun s => s.q.so
  num := fun s o m => ⟨s.q.put (s.st.uint m).1 o, s.id, s.bt, (s.st.uint m).2, s.err⟩
  txt := fun s => ⟨s.q, (s.st.bytes 24).1, s.bt, (s.st.bytes 24).2, s.err⟩
  flg := fun s => ⟨{ s.q with so := s.st.flag.1 }, s.id, s.bt, s.st.flag.2, s.err⟩
  bat := fun s => ⟨s.q, s.id, (rbat s.st.b).1, ⟨(rbat s.st.b).2.1, 0⟩, (rbat s.st.b).2.2⟩
  hI := fun n s h i => by
    obtain ⟨krd, a, c, b, d, mr, mt, _, rd, ma, _⟩ := i
    exact ⟨_, _, ma, rfl, rfl⟩
  cn := fun n s h o m _ i ho _ => c_rdnum o m i ho
  cx := fun n s h _ i => c_rdtxt i
  cg := fun n s h _ i => c_rdflg i
  cb := fun n s h _ i => c_rdbat i
def rrun (k : Int) (s : Rs) : Option Rs := (readerPen 0 0 0 0 0 [] (fun _ => none)).run k s
abbrev Ak : Type := Aq × List UInt8 × List (List UInt8 × List UInt8)
def Aq.z (k : Int) : Aq := ⟨k, 0, 0, 0, 0, 0, 0, false⟩
def ak0 : Ak := (Aq.z 0, [], [])
/-- What bytes are as a request, or the error. -/
def dec (l : List UInt8) : Ak × Int :=
  if ((St.mk l 0).uint 2147483648).2.e = 0 then
    match rrun ((St.mk l 0).uint 2147483648).1 ⟨Aq.z ((St.mk l 0).uint 2147483648).1, [], [], ((St.mk l 0).uint 2147483648).2, 0⟩ with
    | none => (ak0, 87)
    | some s => if s.err = 0 then (if s.st.fin = 0 then ((s.q, s.id, s.bt), 0) else (ak0, s.st.fin)) else (ak0, s.err)
  else (ak0, ((St.mk l 0).uint 2147483648).2.e)
/-- A request in memory. -/
def RQ (h : GH) (x : Ak) (v : Value) : Prop := ∃ a c b d, v = x.1.v (.slice a x.2.1.length c) (.slice b x.2.2.length d) ∧ RB h (.slice a x.2.1.length c) x.2.1 ∧ RL 2 Bd h (.slice b x.2.2.length d) x.2.2
theorem RQ.zero (h : GH) : RQ h ak0 ((Aq.z 0).v (.slice none 0 0) (.slice none 0 0)) := ⟨none, 0, none, 0, rfl, RB.nil _, RL.nil _⟩

theorem c_Decode (N : Nat) (h : GH) {b : Option Addr} {n c : Nat} {l : List UInt8} (r : RB h (.slice b n c) l) (sl : SL h (.slice b n c)) (hl : l.length ≤ 140737488351232) : GTri Try.prog N 20 [.slice b n c] h fun v h' => HS h h' ∧ ∃ x, v = .tuple #[x, .int .i64 (dec l).2] ∧ RQ h' (dec l).1 x := by
  obtain rfl := r.len_eq
  generalize hD : dec l = D
  refine gtri Try.func20 rfl gf20 ok20 (by simp [Try.ntmps20]) ?_
  repeat' (first | (with_reducible first | refine gw_seq ?_ | refine gw_block ?_) | ((first | (with_reducible first | refine gw_region ?_ | refine gw_if ?_ | refine gw_skip ?_ | refine gw_exit ?_ | refine gw_ret ?_) | ((with_reducible first | refine gif_b (fun hb => ?_) (fun hb => ?_) | refine want_t (fun hb => ?_) (fun hb => ?_) | refine want_f (fun hb => ?_) (fun hb => ?_)) <;> (try simp only [hb]) <;> (try simp only [hpr] at hb))) <;> try simp only [List.map, gop, ev, lk, aenv, gyield, gBin, gInt, gStrOp, gUn, gPick, gNil, gExtract, gIfc, gConvK, gIndexO, gIndexVO, gMakeV, gMinV, gMaxV, isInt, gMin, gMax, gBlt, gCallV, gInvoke, gNilM, Array.toList_map, vcells, gField, gIndexV, gPart, reduceIte, Nat.reduceAdd, Nat.reduceSub, Nat.reduceMul, Nat.reduceLT, Nat.reduceLeDiff, Nat.reduceEqDiff, Nat.reduceBEq, Int.reduceLT, Int.reduceLE, Int.reduceGT, Int.reduceGE, Int.reduceEq, Int.reduceNe, Int.reduceAdd, Int.reduceSub, Int.reduceMul, Int.reduceNeg, Int.reduceToNat, Int.reduceBEq, Int.reduceBNe, Int.cast_ofNat_Int, List.getElem?_toArray, stp, Try.underlying100, Try.underlying108, Try.underlying22, Try.underlying23, Try.underlying3, Try.underlying36, Try.underlying38, Try.underlying4, Try.underlying5, Try.underlying50, Try.underlying81, Try.underlying85, Try.underlying86, Try.underlying88, ty22, ty36, ty100, ty38, ty88, ty23, ty3, ty4, ty5, ty50, ty81, ty85, ty86, ty108, rs20]))
  refine box_g rfl fun kb h1 mb s1 f1 n1 => ?_
  (try simp only [List.map, gop, ev, lk, aenv, gyield, gBin, gInt, gStrOp, gUn, gPick, gNil, gExtract, gIfc, gConvK, gIndexO, gIndexVO, gMakeV, gMinV, gMaxV, isInt, gMin, gMax, gBlt, gCallV, gInvoke, gNilM, Array.toList_map, vcells, gField, gIndexV, gPart, reduceIte, Nat.reduceAdd, Nat.reduceSub, Nat.reduceMul, Nat.reduceLT, Nat.reduceLeDiff, Nat.reduceEqDiff, Nat.reduceBEq, Int.reduceLT, Int.reduceLE, Int.reduceGT, Int.reduceGE, Int.reduceEq, Int.reduceNe, Int.reduceAdd, Int.reduceSub, Int.reduceMul, Int.reduceNeg, Int.reduceToNat, Int.reduceBEq, Int.reduceBNe, Int.cast_ofNat_Int, List.getElem?_toArray, stp, Try.underlying100, Try.underlying108, Try.underlying22, Try.underlying23, Try.underlying3, Try.underlying36, Try.underlying38, Try.underlying4, Try.underlying5, Try.underlying50, Try.underlying81, Try.underlying85, Try.underlying86, Try.underlying88, ty22, ty36, ty100, ty38, ty88, ty23, ty3, ty4, ty5, ty50, ty81, ty85, ty86, ty108, rs20]); repeat' (first | (with_reducible first | refine gw_seq ?_ | refine gw_block ?_) | ((first | (with_reducible first | refine gw_region ?_ | refine gw_if ?_ | refine gw_skip ?_ | refine gw_exit ?_ | refine gw_ret ?_) | ((with_reducible first | refine gif_b (fun hb => ?_) (fun hb => ?_) | refine want_t (fun hb => ?_) (fun hb => ?_) | refine want_f (fun hb => ?_) (fun hb => ?_)) <;> (try simp only [hb]) <;> (try simp only [hpr] at hb))) <;> try simp only [List.map, gop, ev, lk, aenv, gyield, gBin, gInt, gStrOp, gUn, gPick, gNil, gExtract, gIfc, gConvK, gIndexO, gIndexVO, gMakeV, gMinV, gMaxV, isInt, gMin, gMax, gBlt, gCallV, gInvoke, gNilM, Array.toList_map, vcells, gField, gIndexV, gPart, reduceIte, Nat.reduceAdd, Nat.reduceSub, Nat.reduceMul, Nat.reduceLT, Nat.reduceLeDiff, Nat.reduceEqDiff, Nat.reduceBEq, Int.reduceLT, Int.reduceLE, Int.reduceGT, Int.reduceGE, Int.reduceEq, Int.reduceNe, Int.reduceAdd, Int.reduceSub, Int.reduceMul, Int.reduceNeg, Int.reduceToNat, Int.reduceBEq, Int.reduceBNe, Int.cast_ofNat_Int, List.getElem?_toArray, stp, Try.underlying100, Try.underlying108, Try.underlying22, Try.underlying23, Try.underlying3, Try.underlying36, Try.underlying38, Try.underlying4, Try.underlying5, Try.underlying50, Try.underlying81, Try.underlying85, Try.underlying86, Try.underlying88, ty22, ty36, ty100, ty38, ty88, ty23, ty3, ty4, ty5, ty50, ty81, ty85, ty86, ty108, rs20]))
  refine new_g fun k2 h2 m2 s2 f2 n2 => ?_
  have hs2 := s1.trans s2
  have mb2 := s2 _ _ mb
  (try simp only [List.map, gop, ev, lk, aenv, gyield, gBin, gInt, gStrOp, gUn, gPick, gNil, gExtract, gIfc, gConvK, gIndexO, gIndexVO, gMakeV, gMinV, gMaxV, isInt, gMin, gMax, gBlt, gCallV, gInvoke, gNilM, Array.toList_map, vcells, gField, gIndexV, gPart, reduceIte, Nat.reduceAdd, Nat.reduceSub, Nat.reduceMul, Nat.reduceLT, Nat.reduceLeDiff, Nat.reduceEqDiff, Nat.reduceBEq, Int.reduceLT, Int.reduceLE, Int.reduceGT, Int.reduceGE, Int.reduceEq, Int.reduceNe, Int.reduceAdd, Int.reduceSub, Int.reduceMul, Int.reduceNeg, Int.reduceToNat, Int.reduceBEq, Int.reduceBNe, Int.cast_ofNat_Int, List.getElem?_toArray, stp, Try.underlying100, Try.underlying108, Try.underlying22, Try.underlying23, Try.underlying3, Try.underlying36, Try.underlying38, Try.underlying4, Try.underlying5, Try.underlying50, Try.underlying81, Try.underlying85, Try.underlying86, Try.underlying88, ty22, ty36, ty100, ty38, ty88, ty23, ty3, ty4, ty5, ty50, ty81, ty85, ty86, ty108, rs20, gload1 mb2 sz22]); repeat' (first | (with_reducible first | refine gw_seq ?_ | refine gw_block ?_) | ((first | (with_reducible first | refine gw_region ?_ | refine gw_if ?_ | refine gw_skip ?_ | refine gw_exit ?_ | refine gw_ret ?_) | ((with_reducible first | refine gif_b (fun hb => ?_) (fun hb => ?_) | refine want_t (fun hb => ?_) (fun hb => ?_) | refine want_f (fun hb => ?_) (fun hb => ?_)) <;> (try simp only [hb]) <;> (try simp only [hpr] at hb))) <;> try simp only [List.map, gop, ev, lk, aenv, gyield, gBin, gInt, gStrOp, gUn, gPick, gNil, gExtract, gIfc, gConvK, gIndexO, gIndexVO, gMakeV, gMinV, gMaxV, isInt, gMin, gMax, gBlt, gCallV, gInvoke, gNilM, Array.toList_map, vcells, gField, gIndexV, gPart, reduceIte, Nat.reduceAdd, Nat.reduceSub, Nat.reduceMul, Nat.reduceLT, Nat.reduceLeDiff, Nat.reduceEqDiff, Nat.reduceBEq, Int.reduceLT, Int.reduceLE, Int.reduceGT, Int.reduceGE, Int.reduceEq, Int.reduceNe, Int.reduceAdd, Int.reduceSub, Int.reduceMul, Int.reduceNeg, Int.reduceToNat, Int.reduceBEq, Int.reduceBNe, Int.cast_ofNat_Int, List.getElem?_toArray, stp, Try.underlying100, Try.underlying108, Try.underlying22, Try.underlying23, Try.underlying3, Try.underlying36, Try.underlying38, Try.underlying4, Try.underlying5, Try.underlying50, Try.underlying81, Try.underlying85, Try.underlying86, Try.underlying88, ty22, ty36, ty100, ty38, ty88, ty23, ty3, ty4, ty5, ty50, ty81, ty85, ty86, ty108, rs20, gload1 mb2 sz22]))
  refine (c_Open N h2 (r.hs hs2) (by omega)).mono ?_
  rintro _ h3 ⟨krd, rfl, rd3, s3, n3⟩
  (try simp only [List.map, gop, ev, lk, aenv, gyield, gBin, gInt, gStrOp, gUn, gPick, gNil, gExtract, gIfc, gConvK, gIndexO, gIndexVO, gMakeV, gMinV, gMaxV, isInt, gMin, gMax, gBlt, gCallV, gInvoke, gNilM, Array.toList_map, vcells, gField, gIndexV, gPart, reduceIte, Nat.reduceAdd, Nat.reduceSub, Nat.reduceMul, Nat.reduceLT, Nat.reduceLeDiff, Nat.reduceEqDiff, Nat.reduceBEq, Int.reduceLT, Int.reduceLE, Int.reduceGT, Int.reduceGE, Int.reduceEq, Int.reduceNe, Int.reduceAdd, Int.reduceSub, Int.reduceMul, Int.reduceNeg, Int.reduceToNat, Int.reduceBEq, Int.reduceBNe, Int.cast_ofNat_Int, List.getElem?_toArray, stp, Try.underlying100, Try.underlying108, Try.underlying22, Try.underlying23, Try.underlying3, Try.underlying36, Try.underlying38, Try.underlying4, Try.underlying5, Try.underlying50, Try.underlying81, Try.underlying85, Try.underlying86, Try.underlying88, ty22, ty36, ty100, ty38, ty88, ty23, ty3, ty4, ty5, ty50, ty81, ty85, ty86, ty108, rs20, gBuild, lfill, lput, Shape.pl, List.all_cons, List.all_nil, isCell]); repeat' (first | (with_reducible first | refine gw_seq ?_ | refine gw_block ?_) | ((first | (with_reducible first | refine gw_region ?_ | refine gw_if ?_ | refine gw_skip ?_ | refine gw_exit ?_ | refine gw_ret ?_) | ((with_reducible first | refine gif_b (fun hb => ?_) (fun hb => ?_) | refine want_t (fun hb => ?_) (fun hb => ?_) | refine want_f (fun hb => ?_) (fun hb => ?_)) <;> (try simp only [hb]) <;> (try simp only [hpr] at hb))) <;> try simp only [List.map, gop, ev, lk, aenv, gyield, gBin, gInt, gStrOp, gUn, gPick, gNil, gExtract, gIfc, gConvK, gIndexO, gIndexVO, gMakeV, gMinV, gMaxV, isInt, gMin, gMax, gBlt, gCallV, gInvoke, gNilM, Array.toList_map, vcells, gField, gIndexV, gPart, reduceIte, Nat.reduceAdd, Nat.reduceSub, Nat.reduceMul, Nat.reduceLT, Nat.reduceLeDiff, Nat.reduceEqDiff, Nat.reduceBEq, Int.reduceLT, Int.reduceLE, Int.reduceGT, Int.reduceGE, Int.reduceEq, Int.reduceNe, Int.reduceAdd, Int.reduceSub, Int.reduceMul, Int.reduceNeg, Int.reduceToNat, Int.reduceBEq, Int.reduceBNe, Int.cast_ofNat_Int, List.getElem?_toArray, stp, Try.underlying100, Try.underlying108, Try.underlying22, Try.underlying23, Try.underlying3, Try.underlying36, Try.underlying38, Try.underlying4, Try.underlying5, Try.underlying50, Try.underlying81, Try.underlying85, Try.underlying86, Try.underlying88, ty22, ty36, ty100, ty38, ty88, ty23, ty3, ty4, ty5, ty50, ty81, ty85, ty86, ty108, rs20, gBuild, lfill, lput, Shape.pl, List.all_cons, List.all_nil, isCell]))
  refine box_g rfl fun kr h4 m4 s4 f4 n4 => ?_
  (try simp only [List.map, gop, ev, lk, aenv, gyield, gBin, gInt, gStrOp, gUn, gPick, gNil, gExtract, gIfc, gConvK, gIndexO, gIndexVO, gMakeV, gMinV, gMaxV, isInt, gMin, gMax, gBlt, gCallV, gInvoke, gNilM, Array.toList_map, vcells, gField, gIndexV, gPart, reduceIte, Nat.reduceAdd, Nat.reduceSub, Nat.reduceMul, Nat.reduceLT, Nat.reduceLeDiff, Nat.reduceEqDiff, Nat.reduceBEq, Int.reduceLT, Int.reduceLE, Int.reduceGT, Int.reduceGE, Int.reduceEq, Int.reduceNe, Int.reduceAdd, Int.reduceSub, Int.reduceMul, Int.reduceNeg, Int.reduceToNat, Int.reduceBEq, Int.reduceBNe, Int.cast_ofNat_Int, List.getElem?_toArray, stp, Try.underlying100, Try.underlying108, Try.underlying22, Try.underlying23, Try.underlying3, Try.underlying36, Try.underlying38, Try.underlying4, Try.underlying5, Try.underlying50, Try.underlying81, Try.underlying85, Try.underlying86, Try.underlying88, ty22, ty36, ty100, ty38, ty88, ty23, ty3, ty4, ty5, ty50, ty81, ty85, ty86, ty108, rs20]); repeat' (first | (with_reducible first | refine gw_seq ?_ | refine gw_block ?_) | ((first | (with_reducible first | refine gw_region ?_ | refine gw_if ?_ | refine gw_skip ?_ | refine gw_exit ?_ | refine gw_ret ?_) | ((with_reducible first | refine gif_b (fun hb => ?_) (fun hb => ?_) | refine want_t (fun hb => ?_) (fun hb => ?_) | refine want_f (fun hb => ?_) (fun hb => ?_)) <;> (try simp only [hb]) <;> (try simp only [hpr] at hb))) <;> try simp only [List.map, gop, ev, lk, aenv, gyield, gBin, gInt, gStrOp, gUn, gPick, gNil, gExtract, gIfc, gConvK, gIndexO, gIndexVO, gMakeV, gMinV, gMaxV, isInt, gMin, gMax, gBlt, gCallV, gInvoke, gNilM, Array.toList_map, vcells, gField, gIndexV, gPart, reduceIte, Nat.reduceAdd, Nat.reduceSub, Nat.reduceMul, Nat.reduceLT, Nat.reduceLeDiff, Nat.reduceEqDiff, Nat.reduceBEq, Int.reduceLT, Int.reduceLE, Int.reduceGT, Int.reduceGE, Int.reduceEq, Int.reduceNe, Int.reduceAdd, Int.reduceSub, Int.reduceMul, Int.reduceNeg, Int.reduceToNat, Int.reduceBEq, Int.reduceBNe, Int.cast_ofNat_Int, List.getElem?_toArray, stp, Try.underlying100, Try.underlying108, Try.underlying22, Try.underlying23, Try.underlying3, Try.underlying36, Try.underlying38, Try.underlying4, Try.underlying5, Try.underlying50, Try.underlying81, Try.underlying85, Try.underlying86, Try.underlying88, ty22, ty36, ty100, ty38, ty88, ty23, ty3, ty4, ty5, ty50, ty81, ty85, ty86, ty108, rs20]))
  refine new_g fun kt h5 m5 s5 f5 n5 => ?_
  (try simp only [List.map, gop, ev, lk, aenv, gyield, gBin, gInt, gStrOp, gUn, gPick, gNil, gExtract, gIfc, gConvK, gIndexO, gIndexVO, gMakeV, gMinV, gMaxV, isInt, gMin, gMax, gBlt, gCallV, gInvoke, gNilM, Array.toList_map, vcells, gField, gIndexV, gPart, reduceIte, Nat.reduceAdd, Nat.reduceSub, Nat.reduceMul, Nat.reduceLT, Nat.reduceLeDiff, Nat.reduceEqDiff, Nat.reduceBEq, Int.reduceLT, Int.reduceLE, Int.reduceGT, Int.reduceGE, Int.reduceEq, Int.reduceNe, Int.reduceAdd, Int.reduceSub, Int.reduceMul, Int.reduceNeg, Int.reduceToNat, Int.reduceBEq, Int.reduceBNe, Int.cast_ofNat_Int, List.getElem?_toArray, stp, Try.underlying100, Try.underlying108, Try.underlying22, Try.underlying23, Try.underlying3, Try.underlying36, Try.underlying38, Try.underlying4, Try.underlying5, Try.underlying50, Try.underlying81, Try.underlying85, Try.underlying86, Try.underlying88, ty22, ty36, ty100, ty38, ty88, ty23, ty3, ty4, ty5, ty50, ty81, ty85, ty86, ty108, rs20]); repeat' (first | (with_reducible first | refine gw_seq ?_ | refine gw_block ?_) | ((first | (with_reducible first | refine gw_region ?_ | refine gw_if ?_ | refine gw_skip ?_ | refine gw_exit ?_ | refine gw_ret ?_) | ((with_reducible first | refine gif_b (fun hb => ?_) (fun hb => ?_) | refine want_t (fun hb => ?_) (fun hb => ?_) | refine want_f (fun hb => ?_) (fun hb => ?_)) <;> (try simp only [hb]) <;> (try simp only [hpr] at hb))) <;> try simp only [List.map, gop, ev, lk, aenv, gyield, gBin, gInt, gStrOp, gUn, gPick, gNil, gExtract, gIfc, gConvK, gIndexO, gIndexVO, gMakeV, gMinV, gMaxV, isInt, gMin, gMax, gBlt, gCallV, gInvoke, gNilM, Array.toList_map, vcells, gField, gIndexV, gPart, reduceIte, Nat.reduceAdd, Nat.reduceSub, Nat.reduceMul, Nat.reduceLT, Nat.reduceLeDiff, Nat.reduceEqDiff, Nat.reduceBEq, Int.reduceLT, Int.reduceLE, Int.reduceGT, Int.reduceGE, Int.reduceEq, Int.reduceNe, Int.reduceAdd, Int.reduceSub, Int.reduceMul, Int.reduceNeg, Int.reduceToNat, Int.reduceBEq, Int.reduceBNe, Int.cast_ofNat_Int, List.getElem?_toArray, stp, Try.underlying100, Try.underlying108, Try.underlying22, Try.underlying23, Try.underlying3, Try.underlying36, Try.underlying38, Try.underlying4, Try.underlying5, Try.underlying50, Try.underlying81, Try.underlying85, Try.underlying86, Try.underlying88, ty22, ty36, ty100, ty38, ty88, ty23, ty3, ty4, ty5, ty50, ty81, ty85, ty86, ty108, rs20]))
  refine st_one m5 sz85 rfl (by simp) rfl rfl fun h6 m6 f6 => ?_
  have s6 : HS h4 h6 := (HS.refl _).upd n5 fun j hj => (f6 j hj).trans (f5 j hj)
  have m4' := s6 _ _ m4
  have ktr : kr ≠ kt := ne_of m4 n5
  (try simp only [List.map, gop, ev, lk, aenv, gyield, gBin, gInt, gStrOp, gUn, gPick, gNil, gExtract, gIfc, gConvK, gIndexO, gIndexVO, gMakeV, gMinV, gMaxV, isInt, gMin, gMax, gBlt, gCallV, gInvoke, gNilM, Array.toList_map, vcells, gField, gIndexV, gPart, reduceIte, Nat.reduceAdd, Nat.reduceSub, Nat.reduceMul, Nat.reduceLT, Nat.reduceLeDiff, Nat.reduceEqDiff, Nat.reduceBEq, Int.reduceLT, Int.reduceLE, Int.reduceGT, Int.reduceGE, Int.reduceEq, Int.reduceNe, Int.reduceAdd, Int.reduceSub, Int.reduceMul, Int.reduceNeg, Int.reduceToNat, Int.reduceBEq, Int.reduceBNe, Int.cast_ofNat_Int, List.getElem?_toArray, stp, Try.underlying100, Try.underlying108, Try.underlying22, Try.underlying23, Try.underlying3, Try.underlying36, Try.underlying38, Try.underlying4, Try.underlying5, Try.underlying50, Try.underlying81, Try.underlying85, Try.underlying86, Try.underlying88, ty22, ty36, ty100, ty38, ty88, ty23, ty3, ty4, ty5, ty50, ty81, ty85, ty86, ty108, rs20, gNil, gload1 m6 sz85, List.map_toArray]); repeat' (first | (with_reducible first | refine gw_seq ?_ | refine gw_block ?_) | ((first | (with_reducible first | refine gw_region ?_ | refine gw_if ?_ | refine gw_skip ?_ | refine gw_exit ?_ | refine gw_ret ?_) | ((with_reducible first | refine gif_b (fun hb => ?_) (fun hb => ?_) | refine want_t (fun hb => ?_) (fun hb => ?_) | refine want_f (fun hb => ?_) (fun hb => ?_)) <;> (try simp only [hb]) <;> (try simp only [hpr] at hb))) <;> try simp only [List.map, gop, ev, lk, aenv, gyield, gBin, gInt, gStrOp, gUn, gPick, gNil, gExtract, gIfc, gConvK, gIndexO, gIndexVO, gMakeV, gMinV, gMaxV, isInt, gMin, gMax, gBlt, gCallV, gInvoke, gNilM, Array.toList_map, vcells, gField, gIndexV, gPart, reduceIte, Nat.reduceAdd, Nat.reduceSub, Nat.reduceMul, Nat.reduceLT, Nat.reduceLeDiff, Nat.reduceEqDiff, Nat.reduceBEq, Int.reduceLT, Int.reduceLE, Int.reduceGT, Int.reduceGE, Int.reduceEq, Int.reduceNe, Int.reduceAdd, Int.reduceSub, Int.reduceMul, Int.reduceNeg, Int.reduceToNat, Int.reduceBEq, Int.reduceBNe, Int.cast_ofNat_Int, List.getElem?_toArray, stp, Try.underlying100, Try.underlying108, Try.underlying22, Try.underlying23, Try.underlying3, Try.underlying36, Try.underlying38, Try.underlying4, Try.underlying5, Try.underlying50, Try.underlying81, Try.underlying85, Try.underlying86, Try.underlying88, ty22, ty36, ty100, ty38, ty88, ty23, ty3, ty4, ty5, ty50, ty81, ty85, ty86, ty108, rs20, gNil, gload1 m6 sz85, List.map_toArray]))
  refine st_one m4' sz86 rfl (by simp) rfl rfl fun h7 m7 f7 => ?_
  have m6' : h7 kt = _ := (f7 kt ktr.symm).trans m6
  have s7 : HS h3 h7 := fun j B e => by
    have := s6 _ _ (s4 _ _ e)
    rw [f7 j (ne_of e n4)]; exact this
  have rd7 := rd3.hs s7
  (try simp only [List.map, gop, ev, lk, aenv, gyield, gBin, gInt, gStrOp, gUn, gPick, gNil, gExtract, gIfc, gConvK, gIndexO, gIndexVO, gMakeV, gMinV, gMaxV, isInt, gMin, gMax, gBlt, gCallV, gInvoke, gNilM, Array.toList_map, vcells, gField, gIndexV, gPart, reduceIte, Nat.reduceAdd, Nat.reduceSub, Nat.reduceMul, Nat.reduceLT, Nat.reduceLeDiff, Nat.reduceEqDiff, Nat.reduceBEq, Int.reduceLT, Int.reduceLE, Int.reduceGT, Int.reduceGE, Int.reduceEq, Int.reduceNe, Int.reduceAdd, Int.reduceSub, Int.reduceMul, Int.reduceNeg, Int.reduceToNat, Int.reduceBEq, Int.reduceBNe, Int.cast_ofNat_Int, List.getElem?_toArray, stp, Try.underlying100, Try.underlying108, Try.underlying22, Try.underlying23, Try.underlying3, Try.underlying36, Try.underlying38, Try.underlying4, Try.underlying5, Try.underlying50, Try.underlying81, Try.underlying85, Try.underlying86, Try.underlying88, ty22, ty36, ty100, ty38, ty88, ty23, ty3, ty4, ty5, ty50, ty81, ty85, ty86, ty108, rs20, gNil, gload1 m6' sz85, gload1 m7 sz50]); repeat' (first | (with_reducible first | refine gw_seq ?_ | refine gw_block ?_) | ((first | (with_reducible first | refine gw_region ?_ | refine gw_if ?_ | refine gw_skip ?_ | refine gw_exit ?_ | refine gw_ret ?_) | ((with_reducible first | refine gif_b (fun hb => ?_) (fun hb => ?_) | refine want_t (fun hb => ?_) (fun hb => ?_) | refine want_f (fun hb => ?_) (fun hb => ?_)) <;> (try simp only [hb]) <;> (try simp only [hpr] at hb))) <;> try simp only [List.map, gop, ev, lk, aenv, gyield, gBin, gInt, gStrOp, gUn, gPick, gNil, gExtract, gIfc, gConvK, gIndexO, gIndexVO, gMakeV, gMinV, gMaxV, isInt, gMin, gMax, gBlt, gCallV, gInvoke, gNilM, Array.toList_map, vcells, gField, gIndexV, gPart, reduceIte, Nat.reduceAdd, Nat.reduceSub, Nat.reduceMul, Nat.reduceLT, Nat.reduceLeDiff, Nat.reduceEqDiff, Nat.reduceBEq, Int.reduceLT, Int.reduceLE, Int.reduceGT, Int.reduceGE, Int.reduceEq, Int.reduceNe, Int.reduceAdd, Int.reduceSub, Int.reduceMul, Int.reduceNeg, Int.reduceToNat, Int.reduceBEq, Int.reduceBNe, Int.cast_ofNat_Int, List.getElem?_toArray, stp, Try.underlying100, Try.underlying108, Try.underlying22, Try.underlying23, Try.underlying3, Try.underlying36, Try.underlying38, Try.underlying4, Try.underlying5, Try.underlying50, Try.underlying81, Try.underlying85, Try.underlying86, Try.underlying88, ty22, ty36, ty100, ty38, ty88, ty23, ty3, ty4, ty5, ty50, ty81, ty85, ty86, ty108, rs20, gNil, gload1 m6' sz85, gload1 m7 sz50]))
  refine (c_RUint N h7 rd7 2147483648 (by simp only; omega)).mono ?_
  rintro _ h8 ⟨rfl, rd8, x8⟩
  have hUe : (St.mk l 0).e = 0 := rfl
  have hsuf : ((St.mk l 0).uint 2147483648).2.b <:+ l := St.uint_suf _ _
  generalize hU : (St.mk l 0).uint 2147483648 = u at *
  have s8 : HS h2 h8 := x8.new (s3.trans s7) n3
  obtain ⟨_, _, md7, _⟩ := rd7.form
  have m6' := x8 _ _ (ne_cells m6' md7 (by simp)) m6'
  have m7 := x8 _ _ (ne_cells m7 md7 (by simp)) m7
  (try simp only [List.map, gop, ev, lk, aenv, gyield, gBin, gInt, gStrOp, gUn, gPick, gNil, gExtract, gIfc, gConvK, gIndexO, gIndexVO, gMakeV, gMinV, gMaxV, isInt, gMin, gMax, gBlt, gCallV, gInvoke, gNilM, Array.toList_map, vcells, gField, gIndexV, gPart, reduceIte, Nat.reduceAdd, Nat.reduceSub, Nat.reduceMul, Nat.reduceLT, Nat.reduceLeDiff, Nat.reduceEqDiff, Nat.reduceBEq, Int.reduceLT, Int.reduceLE, Int.reduceGT, Int.reduceGE, Int.reduceEq, Int.reduceNe, Int.reduceAdd, Int.reduceSub, Int.reduceMul, Int.reduceNeg, Int.reduceToNat, Int.reduceBEq, Int.reduceBNe, Int.cast_ofNat_Int, List.getElem?_toArray, stp, Try.underlying100, Try.underlying108, Try.underlying22, Try.underlying23, Try.underlying3, Try.underlying36, Try.underlying38, Try.underlying4, Try.underlying5, Try.underlying50, Try.underlying81, Try.underlying85, Try.underlying86, Try.underlying88, ty22, ty36, ty100, ty38, ty88, ty23, ty3, ty4, ty5, ty50, ty81, ty85, ty86, ty108, rs20, gNil, gBuild, lfill, lput, Shape.pl, List.all_cons, List.all_nil, isCell]); repeat' (first | (with_reducible first | refine gw_seq ?_ | refine gw_block ?_) | ((first | (with_reducible first | refine gw_region ?_ | refine gw_if ?_ | refine gw_skip ?_ | refine gw_exit ?_ | refine gw_ret ?_) | ((with_reducible first | refine gif_b (fun hb => ?_) (fun hb => ?_) | refine want_t (fun hb => ?_) (fun hb => ?_) | refine want_f (fun hb => ?_) (fun hb => ?_)) <;> (try simp only [hb]) <;> (try simp only [hpr] at hb))) <;> try simp only [List.map, gop, ev, lk, aenv, gyield, gBin, gInt, gStrOp, gUn, gPick, gNil, gExtract, gIfc, gConvK, gIndexO, gIndexVO, gMakeV, gMinV, gMaxV, isInt, gMin, gMax, gBlt, gCallV, gInvoke, gNilM, Array.toList_map, vcells, gField, gIndexV, gPart, reduceIte, Nat.reduceAdd, Nat.reduceSub, Nat.reduceMul, Nat.reduceLT, Nat.reduceLeDiff, Nat.reduceEqDiff, Nat.reduceBEq, Int.reduceLT, Int.reduceLE, Int.reduceGT, Int.reduceGE, Int.reduceEq, Int.reduceNe, Int.reduceAdd, Int.reduceSub, Int.reduceMul, Int.reduceNeg, Int.reduceToNat, Int.reduceBEq, Int.reduceBNe, Int.cast_ofNat_Int, List.getElem?_toArray, stp, Try.underlying100, Try.underlying108, Try.underlying22, Try.underlying23, Try.underlying3, Try.underlying36, Try.underlying38, Try.underlying4, Try.underlying5, Try.underlying50, Try.underlying81, Try.underlying85, Try.underlying86, Try.underlying88, ty22, ty36, ty100, ty38, ty88, ty23, ty3, ty4, ty5, ty50, ty81, ty85, ty86, ty108, rs20, gNil, gBuild, lfill, lput, Shape.pl, List.all_cons, List.all_nil, isCell]))
  refine new_g fun ka h9 m9 s9 f9 n9 => ?_
  (try simp only [List.map, gop, ev, lk, aenv, gyield, gBin, gInt, gStrOp, gUn, gPick, gNil, gExtract, gIfc, gConvK, gIndexO, gIndexVO, gMakeV, gMinV, gMaxV, isInt, gMin, gMax, gBlt, gCallV, gInvoke, gNilM, Array.toList_map, vcells, gField, gIndexV, gPart, reduceIte, Nat.reduceAdd, Nat.reduceSub, Nat.reduceMul, Nat.reduceLT, Nat.reduceLeDiff, Nat.reduceEqDiff, Nat.reduceBEq, Int.reduceLT, Int.reduceLE, Int.reduceGT, Int.reduceGE, Int.reduceEq, Int.reduceNe, Int.reduceAdd, Int.reduceSub, Int.reduceMul, Int.reduceNeg, Int.reduceToNat, Int.reduceBEq, Int.reduceBNe, Int.cast_ofNat_Int, List.getElem?_toArray, stp, Try.underlying100, Try.underlying108, Try.underlying22, Try.underlying23, Try.underlying3, Try.underlying36, Try.underlying38, Try.underlying4, Try.underlying5, Try.underlying50, Try.underlying81, Try.underlying85, Try.underlying86, Try.underlying88, ty22, ty36, ty100, ty38, ty88, ty23, ty3, ty4, ty5, ty50, ty81, ty85, ty86, ty108, rs20]); repeat' (first | (with_reducible first | refine gw_seq ?_ | refine gw_block ?_) | ((first | (with_reducible first | refine gw_region ?_ | refine gw_if ?_ | refine gw_skip ?_ | refine gw_exit ?_ | refine gw_ret ?_) | ((with_reducible first | refine gif_b (fun hb => ?_) (fun hb => ?_) | refine want_t (fun hb => ?_) (fun hb => ?_) | refine want_f (fun hb => ?_) (fun hb => ?_)) <;> (try simp only [hb]) <;> (try simp only [hpr] at hb))) <;> try simp only [List.map, gop, ev, lk, aenv, gyield, gBin, gInt, gStrOp, gUn, gPick, gNil, gExtract, gIfc, gConvK, gIndexO, gIndexVO, gMakeV, gMinV, gMaxV, isInt, gMin, gMax, gBlt, gCallV, gInvoke, gNilM, Array.toList_map, vcells, gField, gIndexV, gPart, reduceIte, Nat.reduceAdd, Nat.reduceSub, Nat.reduceMul, Nat.reduceLT, Nat.reduceLeDiff, Nat.reduceEqDiff, Nat.reduceBEq, Int.reduceLT, Int.reduceLE, Int.reduceGT, Int.reduceGE, Int.reduceEq, Int.reduceNe, Int.reduceAdd, Int.reduceSub, Int.reduceMul, Int.reduceNeg, Int.reduceToNat, Int.reduceBEq, Int.reduceBNe, Int.cast_ofNat_Int, List.getElem?_toArray, stp, Try.underlying100, Try.underlying108, Try.underlying22, Try.underlying23, Try.underlying3, Try.underlying36, Try.underlying38, Try.underlying4, Try.underlying5, Try.underlying50, Try.underlying81, Try.underlying85, Try.underlying86, Try.underlying88, ty22, ty36, ty100, ty38, ty88, ty23, ty3, ty4, ty5, ty50, ty81, ty85, ty86, ty108, rs20]))
  refine st_agg m9 sz38 rfl (by decide) rfl rfl rfl fun h10 m10 f10 => ?_
  have s10 : HS h8 h10 := (HS.refl _).upd n9 fun j hj => (f10 j hj).trans (f9 j hj)
  have rd10 := rd8.hs s10
  have m6' := s10 _ _ m6'
  have m7 := s10 _ _ m7
  have hs10 := s8.trans s10
  have m2' := hs10 _ _ m2
  have nr2 : h2 kr = none := s3.none_of n4
  have nt2 : h2 ka = none := s8.none_of n9
  have dkd : dec l = if u.2.e = 0 then (match rrun u.1 ⟨Aq.z u.1, [], [], u.2, 0⟩ with | none => (ak0, 87) | some s => if s.err = 0 then (if s.st.fin = 0 then ((s.q, s.id, s.bt), 0) else (ak0, s.st.fin)) else (ak0, s.err)) else (ak0, u.2.e) := by
    unfold dec; rw [hU]
  rw [hD] at dkd
  by_cases he : u.2.e = 0
  case neg =>
    have d4 : (u.2.e != 0) = true := by simpa using he
    (try simp only [List.map, gop, ev, lk, aenv, gyield, gBin, gInt, gStrOp, gUn, gPick, gNil, gExtract, gIfc, gConvK, gIndexO, gIndexVO, gMakeV, gMinV, gMaxV, isInt, gMin, gMax, gBlt, gCallV, gInvoke, gNilM, Array.toList_map, vcells, gField, gIndexV, gPart, reduceIte, Nat.reduceAdd, Nat.reduceSub, Nat.reduceMul, Nat.reduceLT, Nat.reduceLeDiff, Nat.reduceEqDiff, Nat.reduceBEq, Int.reduceLT, Int.reduceLE, Int.reduceGT, Int.reduceGE, Int.reduceEq, Int.reduceNe, Int.reduceAdd, Int.reduceSub, Int.reduceMul, Int.reduceNeg, Int.reduceToNat, Int.reduceBEq, Int.reduceBNe, Int.cast_ofNat_Int, List.getElem?_toArray, stp, Try.underlying100, Try.underlying108, Try.underlying22, Try.underlying23, Try.underlying3, Try.underlying36, Try.underlying38, Try.underlying4, Try.underlying5, Try.underlying50, Try.underlying81, Try.underlying85, Try.underlying86, Try.underlying88, ty22, ty36, ty100, ty38, ty88, ty23, ty3, ty4, ty5, ty50, ty81, ty85, ty86, ty108, rs20, gNil, gload1 m6' sz85, gload1 m7 sz50, d4, gBuild, lfill, lput, Shape.pl, List.all_cons, List.all_nil, isCell]); repeat' (first | (with_reducible first | refine gw_seq ?_ | refine gw_block ?_) | ((first | (with_reducible first | refine gw_region ?_ | refine gw_if ?_ | refine gw_skip ?_ | refine gw_exit ?_ | refine gw_ret ?_) | ((with_reducible first | refine gif_b (fun hb => ?_) (fun hb => ?_) | refine want_t (fun hb => ?_) (fun hb => ?_) | refine want_f (fun hb => ?_) (fun hb => ?_)) <;> (try simp only [hb]) <;> (try simp only [hpr] at hb)) | ((refine GTri.mono (c_Err _ _ rd10) ?_); rintro _ _ ⟨rfl, hh9⟩; replace hh9 := hh9.symm; subst hh9)) <;> try simp only [List.map, gop, ev, lk, aenv, gyield, gBin, gInt, gStrOp, gUn, gPick, gNil, gExtract, gIfc, gConvK, gIndexO, gIndexVO, gMakeV, gMinV, gMaxV, isInt, gMin, gMax, gBlt, gCallV, gInvoke, gNilM, Array.toList_map, vcells, gField, gIndexV, gPart, reduceIte, Nat.reduceAdd, Nat.reduceSub, Nat.reduceMul, Nat.reduceLT, Nat.reduceLeDiff, Nat.reduceEqDiff, Nat.reduceBEq, Int.reduceLT, Int.reduceLE, Int.reduceGT, Int.reduceGE, Int.reduceEq, Int.reduceNe, Int.reduceAdd, Int.reduceSub, Int.reduceMul, Int.reduceNeg, Int.reduceToNat, Int.reduceBEq, Int.reduceBNe, Int.cast_ofNat_Int, List.getElem?_toArray, stp, Try.underlying100, Try.underlying108, Try.underlying22, Try.underlying23, Try.underlying3, Try.underlying36, Try.underlying38, Try.underlying4, Try.underlying5, Try.underlying50, Try.underlying81, Try.underlying85, Try.underlying86, Try.underlying88, ty22, ty36, ty100, ty38, ty88, ty23, ty3, ty4, ty5, ty50, ty81, ty85, ty86, ty108, rs20, gNil, gload1 m6' sz85, gload1 m7 sz50, d4, gBuild, lfill, lput, Shape.pl, List.all_cons, List.all_nil, isCell]))
    refine st_agg m2' sz38 rfl (by decide) rfl rfl rfl fun h11 m11 f11 => ?_
    (try simp only [List.map, gop, ev, lk, aenv, gyield, gBin, gInt, gStrOp, gUn, gPick, gNil, gExtract, gIfc, gConvK, gIndexO, gIndexVO, gMakeV, gMinV, gMaxV, isInt, gMin, gMax, gBlt, gCallV, gInvoke, gNilM, Array.toList_map, vcells, gField, gIndexV, gPart, reduceIte, Nat.reduceAdd, Nat.reduceSub, Nat.reduceMul, Nat.reduceLT, Nat.reduceLeDiff, Nat.reduceEqDiff, Nat.reduceBEq, Int.reduceLT, Int.reduceLE, Int.reduceGT, Int.reduceGE, Int.reduceEq, Int.reduceNe, Int.reduceAdd, Int.reduceSub, Int.reduceMul, Int.reduceNeg, Int.reduceToNat, Int.reduceBEq, Int.reduceBNe, Int.cast_ofNat_Int, List.getElem?_toArray, stp, Try.underlying100, Try.underlying108, Try.underlying22, Try.underlying23, Try.underlying3, Try.underlying36, Try.underlying38, Try.underlying4, Try.underlying5, Try.underlying50, Try.underlying81, Try.underlying85, Try.underlying86, Try.underlying88, ty22, ty36, ty100, ty38, ty88, ty23, ty3, ty4, ty5, ty50, ty81, ty85, ty86, ty108, rs20, gloadA m11 sz38 rfl]); repeat' (first | (with_reducible first | refine gw_seq ?_ | refine gw_block ?_) | ((first | (with_reducible first | refine gw_region ?_ | refine gw_if ?_ | refine gw_skip ?_ | refine gw_exit ?_ | refine gw_ret ?_) | ((with_reducible first | refine gif_b (fun hb => ?_) (fun hb => ?_) | refine want_t (fun hb => ?_) (fun hb => ?_) | refine want_f (fun hb => ?_) (fun hb => ?_)) <;> (try simp only [hb]) <;> (try simp only [hpr] at hb))) <;> try simp only [List.map, gop, ev, lk, aenv, gyield, gBin, gInt, gStrOp, gUn, gPick, gNil, gExtract, gIfc, gConvK, gIndexO, gIndexVO, gMakeV, gMinV, gMaxV, isInt, gMin, gMax, gBlt, gCallV, gInvoke, gNilM, Array.toList_map, vcells, gField, gIndexV, gPart, reduceIte, Nat.reduceAdd, Nat.reduceSub, Nat.reduceMul, Nat.reduceLT, Nat.reduceLeDiff, Nat.reduceEqDiff, Nat.reduceBEq, Int.reduceLT, Int.reduceLE, Int.reduceGT, Int.reduceGE, Int.reduceEq, Int.reduceNe, Int.reduceAdd, Int.reduceSub, Int.reduceMul, Int.reduceNeg, Int.reduceToNat, Int.reduceBEq, Int.reduceBNe, Int.cast_ofNat_Int, List.getElem?_toArray, stp, Try.underlying100, Try.underlying108, Try.underlying22, Try.underlying23, Try.underlying3, Try.underlying36, Try.underlying38, Try.underlying4, Try.underlying5, Try.underlying50, Try.underlying81, Try.underlying85, Try.underlying86, Try.underlying88, ty22, ty36, ty100, ty38, ty88, ty23, ty3, ty4, ty5, ty50, ty81, ty85, ty86, ty108, rs20, gloadA m11 sz38 rfl]))
    rw [if_neg he] at dkd
    rw [dkd]
    refine ⟨fun j B e => ?_, _, rfl, RQ.zero _⟩
    rw [f11 j (ne_of (s1 _ _ e) n2)]; exact hs10 _ _ (hs2 _ _ e)
  rw [if_pos he] at dkd
  have d4 : (u.2.e != 0) = false := by simpa using he
  (try simp only [List.map, gop, ev, lk, aenv, gyield, gBin, gInt, gStrOp, gUn, gPick, gNil, gExtract, gIfc, gConvK, gIndexO, gIndexVO, gMakeV, gMinV, gMaxV, isInt, gMin, gMax, gBlt, gCallV, gInvoke, gNilM, Array.toList_map, vcells, gField, gIndexV, gPart, reduceIte, Nat.reduceAdd, Nat.reduceSub, Nat.reduceMul, Nat.reduceLT, Nat.reduceLeDiff, Nat.reduceEqDiff, Nat.reduceBEq, Int.reduceLT, Int.reduceLE, Int.reduceGT, Int.reduceGE, Int.reduceEq, Int.reduceNe, Int.reduceAdd, Int.reduceSub, Int.reduceMul, Int.reduceNeg, Int.reduceToNat, Int.reduceBEq, Int.reduceBNe, Int.cast_ofNat_Int, List.getElem?_toArray, stp, Try.underlying100, Try.underlying108, Try.underlying22, Try.underlying23, Try.underlying3, Try.underlying36, Try.underlying38, Try.underlying4, Try.underlying5, Try.underlying50, Try.underlying81, Try.underlying85, Try.underlying86, Try.underlying88, ty22, ty36, ty100, ty38, ty88, ty23, ty3, ty4, ty5, ty50, ty81, ty85, ty86, ty108, rs20, gNil, gload1 m6' sz85, gload1 m7 sz50, d4]); repeat' (first | (with_reducible first | refine gw_seq ?_ | refine gw_block ?_) | ((first | (with_reducible first | refine gw_region ?_ | refine gw_if ?_ | refine gw_skip ?_ | refine gw_exit ?_ | refine gw_ret ?_) | ((with_reducible first | refine gif_b (fun hb => ?_) (fun hb => ?_) | refine want_t (fun hb => ?_) (fun hb => ?_) | refine want_f (fun hb => ?_) (fun hb => ?_)) <;> (try simp only [hb]) <;> (try simp only [hpr] at hb)) | ((refine GTri.mono (c_Err _ _ rd10) ?_); rintro _ _ ⟨rfl, hh9⟩; replace hh9 := hh9.symm; subst hh9)) <;> try simp only [List.map, gop, ev, lk, aenv, gyield, gBin, gInt, gStrOp, gUn, gPick, gNil, gExtract, gIfc, gConvK, gIndexO, gIndexVO, gMakeV, gMinV, gMaxV, isInt, gMin, gMax, gBlt, gCallV, gInvoke, gNilM, Array.toList_map, vcells, gField, gIndexV, gPart, reduceIte, Nat.reduceAdd, Nat.reduceSub, Nat.reduceMul, Nat.reduceLT, Nat.reduceLeDiff, Nat.reduceEqDiff, Nat.reduceBEq, Int.reduceLT, Int.reduceLE, Int.reduceGT, Int.reduceGE, Int.reduceEq, Int.reduceNe, Int.reduceAdd, Int.reduceSub, Int.reduceMul, Int.reduceNeg, Int.reduceToNat, Int.reduceBEq, Int.reduceBNe, Int.cast_ofNat_Int, List.getElem?_toArray, stp, Try.underlying100, Try.underlying108, Try.underlying22, Try.underlying23, Try.underlying3, Try.underlying36, Try.underlying38, Try.underlying4, Try.underlying5, Try.underlying50, Try.underlying81, Try.underlying85, Try.underlying86, Try.underlying88, ty22, ty36, ty100, ty38, ty88, ty23, ty3, ty4, ty5, ty50, ty81, ty85, ty86, ty108, rs20, gNil, gload1 m6' sz85, gload1 m7 sz50, d4]))
  have i10 : (readerPen N kb kt kr ka l h2).I 0 ⟨Aq.z u.1, [], [], u.2, 0⟩ h10 := ⟨krd, none, 0, none, 0, m7, m6', ⟨b, c, hs10 _ _ mb2, r.hs (hs2.trans hs10), sl.hs (hs2.trans hs10)⟩, rd10, m10, RB.nil _, RL.nil _, hs10, nr2, nt2, n3, hsuf, hl⟩
  refine (c_fields (readerPen N kb kt kr ka l h2) _ h10 i10).mono ?_
  rintro _ h11 (⟨n11, s11, e11, rfl, i11⟩ | ⟨e11, rfl, rfl⟩)
  case inr =>
    replace e11 : rrun u.1 ⟨Aq.z u.1, [], [], u.2, 0⟩ = none := e11
    rw [e11] at dkd
    (try simp only [List.map, gop, ev, lk, aenv, gyield, gBin, gInt, gStrOp, gUn, gPick, gNil, gExtract, gIfc, gConvK, gIndexO, gIndexVO, gMakeV, gMinV, gMaxV, isInt, gMin, gMax, gBlt, gCallV, gInvoke, gNilM, Array.toList_map, vcells, gField, gIndexV, gPart, reduceIte, Nat.reduceAdd, Nat.reduceSub, Nat.reduceMul, Nat.reduceLT, Nat.reduceLeDiff, Nat.reduceEqDiff, Nat.reduceBEq, Int.reduceLT, Int.reduceLE, Int.reduceGT, Int.reduceGE, Int.reduceEq, Int.reduceNe, Int.reduceAdd, Int.reduceSub, Int.reduceMul, Int.reduceNeg, Int.reduceToNat, Int.reduceBEq, Int.reduceBNe, Int.cast_ofNat_Int, List.getElem?_toArray, stp, Try.underlying100, Try.underlying108, Try.underlying22, Try.underlying23, Try.underlying3, Try.underlying36, Try.underlying38, Try.underlying4, Try.underlying5, Try.underlying50, Try.underlying81, Try.underlying85, Try.underlying86, Try.underlying88, ty22, ty36, ty100, ty38, ty88, ty23, ty3, ty4, ty5, ty50, ty81, ty85, ty86, ty108, rs20, gUn, gBuild, lfill, lput, Shape.pl, List.all_cons, List.all_nil, isCell]); repeat' (first | (with_reducible first | refine gw_seq ?_ | refine gw_block ?_) | ((first | (with_reducible first | refine gw_region ?_ | refine gw_if ?_ | refine gw_skip ?_ | refine gw_exit ?_ | refine gw_ret ?_) | ((with_reducible first | refine gif_b (fun hb => ?_) (fun hb => ?_) | refine want_t (fun hb => ?_) (fun hb => ?_) | refine want_f (fun hb => ?_) (fun hb => ?_)) <;> (try simp only [hb]) <;> (try simp only [hpr] at hb))) <;> try simp only [List.map, gop, ev, lk, aenv, gyield, gBin, gInt, gStrOp, gUn, gPick, gNil, gExtract, gIfc, gConvK, gIndexO, gIndexVO, gMakeV, gMinV, gMaxV, isInt, gMin, gMax, gBlt, gCallV, gInvoke, gNilM, Array.toList_map, vcells, gField, gIndexV, gPart, reduceIte, Nat.reduceAdd, Nat.reduceSub, Nat.reduceMul, Nat.reduceLT, Nat.reduceLeDiff, Nat.reduceEqDiff, Nat.reduceBEq, Int.reduceLT, Int.reduceLE, Int.reduceGT, Int.reduceGE, Int.reduceEq, Int.reduceNe, Int.reduceAdd, Int.reduceSub, Int.reduceMul, Int.reduceNeg, Int.reduceToNat, Int.reduceBEq, Int.reduceBNe, Int.cast_ofNat_Int, List.getElem?_toArray, stp, Try.underlying100, Try.underlying108, Try.underlying22, Try.underlying23, Try.underlying3, Try.underlying36, Try.underlying38, Try.underlying4, Try.underlying5, Try.underlying50, Try.underlying81, Try.underlying85, Try.underlying86, Try.underlying88, ty22, ty36, ty100, ty38, ty88, ty23, ty3, ty4, ty5, ty50, ty81, ty85, ty86, ty108, rs20, gUn, gBuild, lfill, lput, Shape.pl, List.all_cons, List.all_nil, isCell]))
    refine st_agg m2' sz38 rfl (by decide) rfl rfl rfl fun h12 m12 f12 => ?_
    (try simp only [List.map, gop, ev, lk, aenv, gyield, gBin, gInt, gStrOp, gUn, gPick, gNil, gExtract, gIfc, gConvK, gIndexO, gIndexVO, gMakeV, gMinV, gMaxV, isInt, gMin, gMax, gBlt, gCallV, gInvoke, gNilM, Array.toList_map, vcells, gField, gIndexV, gPart, reduceIte, Nat.reduceAdd, Nat.reduceSub, Nat.reduceMul, Nat.reduceLT, Nat.reduceLeDiff, Nat.reduceEqDiff, Nat.reduceBEq, Int.reduceLT, Int.reduceLE, Int.reduceGT, Int.reduceGE, Int.reduceEq, Int.reduceNe, Int.reduceAdd, Int.reduceSub, Int.reduceMul, Int.reduceNeg, Int.reduceToNat, Int.reduceBEq, Int.reduceBNe, Int.cast_ofNat_Int, List.getElem?_toArray, stp, Try.underlying100, Try.underlying108, Try.underlying22, Try.underlying23, Try.underlying3, Try.underlying36, Try.underlying38, Try.underlying4, Try.underlying5, Try.underlying50, Try.underlying81, Try.underlying85, Try.underlying86, Try.underlying88, ty22, ty36, ty100, ty38, ty88, ty23, ty3, ty4, ty5, ty50, ty81, ty85, ty86, ty108, rs20, gloadA m12 sz38 rfl]); repeat' (first | (with_reducible first | refine gw_seq ?_ | refine gw_block ?_) | ((first | (with_reducible first | refine gw_region ?_ | refine gw_if ?_ | refine gw_skip ?_ | refine gw_exit ?_ | refine gw_ret ?_) | ((with_reducible first | refine gif_b (fun hb => ?_) (fun hb => ?_) | refine want_t (fun hb => ?_) (fun hb => ?_) | refine want_f (fun hb => ?_) (fun hb => ?_)) <;> (try simp only [hb]) <;> (try simp only [hpr] at hb))) <;> try simp only [List.map, gop, ev, lk, aenv, gyield, gBin, gInt, gStrOp, gUn, gPick, gNil, gExtract, gIfc, gConvK, gIndexO, gIndexVO, gMakeV, gMinV, gMaxV, isInt, gMin, gMax, gBlt, gCallV, gInvoke, gNilM, Array.toList_map, vcells, gField, gIndexV, gPart, reduceIte, Nat.reduceAdd, Nat.reduceSub, Nat.reduceMul, Nat.reduceLT, Nat.reduceLeDiff, Nat.reduceEqDiff, Nat.reduceBEq, Int.reduceLT, Int.reduceLE, Int.reduceGT, Int.reduceGE, Int.reduceEq, Int.reduceNe, Int.reduceAdd, Int.reduceSub, Int.reduceMul, Int.reduceNeg, Int.reduceToNat, Int.reduceBEq, Int.reduceBNe, Int.cast_ofNat_Int, List.getElem?_toArray, stp, Try.underlying100, Try.underlying108, Try.underlying22, Try.underlying23, Try.underlying3, Try.underlying36, Try.underlying38, Try.underlying4, Try.underlying5, Try.underlying50, Try.underlying81, Try.underlying85, Try.underlying86, Try.underlying88, ty22, ty36, ty100, ty38, ty88, ty23, ty3, ty4, ty5, ty50, ty81, ty85, ty86, ty108, rs20, gloadA m12 sz38 rfl]))
    rw [dkd]
    refine ⟨fun j B e => ?_, _, rfl, RQ.zero _⟩
    rw [f12 j (ne_of (s1 _ _ e) n2)]; exact hs10 _ _ (hs2 _ _ e)
  replace e11 : rrun u.1 ⟨Aq.z u.1, [], [], u.2, 0⟩ = some s11 := e11
  rw [e11] at dkd
  replace dkd : D = if s11.err = 0 then (if s11.st.fin = 0 then ((s11.q, s11.id, s11.bt), 0) else (ak0, s11.st.fin)) else (ak0, s11.err) := dkd
  replace i11 : RPI kb kt kr ka l h2 s11 h11 := i11
  obtain ⟨krd2, a, c', b', d, mr, mt, _, rd, ma, ri, rl, hs, _, _, n3', suf, _⟩ := i11
  have m2' := hs _ _ m2
  have hend : ∀ h12, (∀ j, j ≠ k2 → h12 j = h11 j) → HS h h12 := fun h12 f j B e => by
    rw [f j (ne_of (s1 _ _ e) n2)]; exact hs _ _ (hs2 _ _ e)
  by_cases he2 : s11.err = 0
  case neg =>
    have d5 : (s11.err == 0) = false := by simpa using he2
    have d6 : (s11.err != 0) = true := by simpa using he2
    rw [if_neg he2] at dkd
    (try simp only [List.map, gop, ev, lk, aenv, gyield, gBin, gInt, gStrOp, gUn, gPick, gNil, gExtract, gIfc, gConvK, gIndexO, gIndexVO, gMakeV, gMinV, gMaxV, isInt, gMin, gMax, gBlt, gCallV, gInvoke, gNilM, Array.toList_map, vcells, gField, gIndexV, gPart, reduceIte, Nat.reduceAdd, Nat.reduceSub, Nat.reduceMul, Nat.reduceLT, Nat.reduceLeDiff, Nat.reduceEqDiff, Nat.reduceBEq, Int.reduceLT, Int.reduceLE, Int.reduceGT, Int.reduceGE, Int.reduceEq, Int.reduceNe, Int.reduceAdd, Int.reduceSub, Int.reduceMul, Int.reduceNeg, Int.reduceToNat, Int.reduceBEq, Int.reduceBNe, Int.cast_ofNat_Int, List.getElem?_toArray, stp, Try.underlying100, Try.underlying108, Try.underlying22, Try.underlying23, Try.underlying3, Try.underlying36, Try.underlying38, Try.underlying4, Try.underlying5, Try.underlying50, Try.underlying81, Try.underlying85, Try.underlying86, Try.underlying88, ty22, ty36, ty100, ty38, ty88, ty23, ty3, ty4, ty5, ty50, ty81, ty85, ty86, ty108, rs20, gUn, gNil, gload1 mt sz85, gload1 mr sz23, d5, d6, gBuild, lfill, lput, Shape.pl, List.all_cons, List.all_nil, isCell]); repeat' (first | (with_reducible first | refine gw_seq ?_ | refine gw_block ?_) | ((first | (with_reducible first | refine gw_region ?_ | refine gw_if ?_ | refine gw_skip ?_ | refine gw_exit ?_ | refine gw_ret ?_) | ((with_reducible first | refine gif_b (fun hb => ?_) (fun hb => ?_) | refine want_t (fun hb => ?_) (fun hb => ?_) | refine want_f (fun hb => ?_) (fun hb => ?_)) <;> (try simp only [hb]) <;> (try simp only [hpr] at hb))) <;> try simp only [List.map, gop, ev, lk, aenv, gyield, gBin, gInt, gStrOp, gUn, gPick, gNil, gExtract, gIfc, gConvK, gIndexO, gIndexVO, gMakeV, gMinV, gMaxV, isInt, gMin, gMax, gBlt, gCallV, gInvoke, gNilM, Array.toList_map, vcells, gField, gIndexV, gPart, reduceIte, Nat.reduceAdd, Nat.reduceSub, Nat.reduceMul, Nat.reduceLT, Nat.reduceLeDiff, Nat.reduceEqDiff, Nat.reduceBEq, Int.reduceLT, Int.reduceLE, Int.reduceGT, Int.reduceGE, Int.reduceEq, Int.reduceNe, Int.reduceAdd, Int.reduceSub, Int.reduceMul, Int.reduceNeg, Int.reduceToNat, Int.reduceBEq, Int.reduceBNe, Int.cast_ofNat_Int, List.getElem?_toArray, stp, Try.underlying100, Try.underlying108, Try.underlying22, Try.underlying23, Try.underlying3, Try.underlying36, Try.underlying38, Try.underlying4, Try.underlying5, Try.underlying50, Try.underlying81, Try.underlying85, Try.underlying86, Try.underlying88, ty22, ty36, ty100, ty38, ty88, ty23, ty3, ty4, ty5, ty50, ty81, ty85, ty86, ty108, rs20, gUn, gNil, gload1 mt sz85, gload1 mr sz23, d5, d6, gBuild, lfill, lput, Shape.pl, List.all_cons, List.all_nil, isCell]))
    refine st_agg m2' sz38 rfl (by decide) rfl rfl rfl fun h12 m12 f12 => ?_
    (try simp only [List.map, gop, ev, lk, aenv, gyield, gBin, gInt, gStrOp, gUn, gPick, gNil, gExtract, gIfc, gConvK, gIndexO, gIndexVO, gMakeV, gMinV, gMaxV, isInt, gMin, gMax, gBlt, gCallV, gInvoke, gNilM, Array.toList_map, vcells, gField, gIndexV, gPart, reduceIte, Nat.reduceAdd, Nat.reduceSub, Nat.reduceMul, Nat.reduceLT, Nat.reduceLeDiff, Nat.reduceEqDiff, Nat.reduceBEq, Int.reduceLT, Int.reduceLE, Int.reduceGT, Int.reduceGE, Int.reduceEq, Int.reduceNe, Int.reduceAdd, Int.reduceSub, Int.reduceMul, Int.reduceNeg, Int.reduceToNat, Int.reduceBEq, Int.reduceBNe, Int.cast_ofNat_Int, List.getElem?_toArray, stp, Try.underlying100, Try.underlying108, Try.underlying22, Try.underlying23, Try.underlying3, Try.underlying36, Try.underlying38, Try.underlying4, Try.underlying5, Try.underlying50, Try.underlying81, Try.underlying85, Try.underlying86, Try.underlying88, ty22, ty36, ty100, ty38, ty88, ty23, ty3, ty4, ty5, ty50, ty81, ty85, ty86, ty108, rs20, gloadA m12 sz38 rfl]); repeat' (first | (with_reducible first | refine gw_seq ?_ | refine gw_block ?_) | ((first | (with_reducible first | refine gw_region ?_ | refine gw_if ?_ | refine gw_skip ?_ | refine gw_exit ?_ | refine gw_ret ?_) | ((with_reducible first | refine gif_b (fun hb => ?_) (fun hb => ?_) | refine want_t (fun hb => ?_) (fun hb => ?_) | refine want_f (fun hb => ?_) (fun hb => ?_)) <;> (try simp only [hb]) <;> (try simp only [hpr] at hb))) <;> try simp only [List.map, gop, ev, lk, aenv, gyield, gBin, gInt, gStrOp, gUn, gPick, gNil, gExtract, gIfc, gConvK, gIndexO, gIndexVO, gMakeV, gMinV, gMaxV, isInt, gMin, gMax, gBlt, gCallV, gInvoke, gNilM, Array.toList_map, vcells, gField, gIndexV, gPart, reduceIte, Nat.reduceAdd, Nat.reduceSub, Nat.reduceMul, Nat.reduceLT, Nat.reduceLeDiff, Nat.reduceEqDiff, Nat.reduceBEq, Int.reduceLT, Int.reduceLE, Int.reduceGT, Int.reduceGE, Int.reduceEq, Int.reduceNe, Int.reduceAdd, Int.reduceSub, Int.reduceMul, Int.reduceNeg, Int.reduceToNat, Int.reduceBEq, Int.reduceBNe, Int.cast_ofNat_Int, List.getElem?_toArray, stp, Try.underlying100, Try.underlying108, Try.underlying22, Try.underlying23, Try.underlying3, Try.underlying36, Try.underlying38, Try.underlying4, Try.underlying5, Try.underlying50, Try.underlying81, Try.underlying85, Try.underlying86, Try.underlying88, ty22, ty36, ty100, ty38, ty88, ty23, ty3, ty4, ty5, ty50, ty81, ty85, ty86, ty108, rs20, gloadA m12 sz38 rfl]))
    rw [dkd]
    exact ⟨hend _ f12, _, rfl, RQ.zero _⟩
  rw [if_pos he2] at dkd
  have d5 : (s11.err == 0) = true := by simpa using he2
  by_cases he3 : s11.st.fin = 0
  case neg =>
    have d6 : (s11.st.fin != 0) = true := by simpa using he3
    rw [if_neg he3] at dkd
    (try simp only [List.map, gop, ev, lk, aenv, gyield, gBin, gInt, gStrOp, gUn, gPick, gNil, gExtract, gIfc, gConvK, gIndexO, gIndexVO, gMakeV, gMinV, gMaxV, isInt, gMin, gMax, gBlt, gCallV, gInvoke, gNilM, Array.toList_map, vcells, gField, gIndexV, gPart, reduceIte, Nat.reduceAdd, Nat.reduceSub, Nat.reduceMul, Nat.reduceLT, Nat.reduceLeDiff, Nat.reduceEqDiff, Nat.reduceBEq, Int.reduceLT, Int.reduceLE, Int.reduceGT, Int.reduceGE, Int.reduceEq, Int.reduceNe, Int.reduceAdd, Int.reduceSub, Int.reduceMul, Int.reduceNeg, Int.reduceToNat, Int.reduceBEq, Int.reduceBNe, Int.cast_ofNat_Int, List.getElem?_toArray, stp, Try.underlying100, Try.underlying108, Try.underlying22, Try.underlying23, Try.underlying3, Try.underlying36, Try.underlying38, Try.underlying4, Try.underlying5, Try.underlying50, Try.underlying81, Try.underlying85, Try.underlying86, Try.underlying88, ty22, ty36, ty100, ty38, ty88, ty23, ty3, ty4, ty5, ty50, ty81, ty85, ty86, ty108, rs20, gUn, gNil, gload1 mt sz85, gload1 mr sz23, gload1 mr sz50, d5, d6, gBuild, lfill, lput, Shape.pl, List.all_cons, List.all_nil, isCell]); repeat' (first | (with_reducible first | refine gw_seq ?_ | refine gw_block ?_) | ((first | (with_reducible first | refine gw_region ?_ | refine gw_if ?_ | refine gw_skip ?_ | refine gw_exit ?_ | refine gw_ret ?_) | ((with_reducible first | refine gif_b (fun hb => ?_) (fun hb => ?_) | refine want_t (fun hb => ?_) (fun hb => ?_) | refine want_f (fun hb => ?_) (fun hb => ?_)) <;> (try simp only [hb]) <;> (try simp only [hpr] at hb)) | ((refine GTri.mono (c_End _ _ rd) ?_); rintro _ _ ⟨rfl, hh9⟩; replace hh9 := hh9.symm; subst hh9)) <;> try simp only [List.map, gop, ev, lk, aenv, gyield, gBin, gInt, gStrOp, gUn, gPick, gNil, gExtract, gIfc, gConvK, gIndexO, gIndexVO, gMakeV, gMinV, gMaxV, isInt, gMin, gMax, gBlt, gCallV, gInvoke, gNilM, Array.toList_map, vcells, gField, gIndexV, gPart, reduceIte, Nat.reduceAdd, Nat.reduceSub, Nat.reduceMul, Nat.reduceLT, Nat.reduceLeDiff, Nat.reduceEqDiff, Nat.reduceBEq, Int.reduceLT, Int.reduceLE, Int.reduceGT, Int.reduceGE, Int.reduceEq, Int.reduceNe, Int.reduceAdd, Int.reduceSub, Int.reduceMul, Int.reduceNeg, Int.reduceToNat, Int.reduceBEq, Int.reduceBNe, Int.cast_ofNat_Int, List.getElem?_toArray, stp, Try.underlying100, Try.underlying108, Try.underlying22, Try.underlying23, Try.underlying3, Try.underlying36, Try.underlying38, Try.underlying4, Try.underlying5, Try.underlying50, Try.underlying81, Try.underlying85, Try.underlying86, Try.underlying88, ty22, ty36, ty100, ty38, ty88, ty23, ty3, ty4, ty5, ty50, ty81, ty85, ty86, ty108, rs20, gUn, gNil, gload1 mt sz85, gload1 mr sz23, gload1 mr sz50, d5, d6, gBuild, lfill, lput, Shape.pl, List.all_cons, List.all_nil, isCell]))
    refine st_agg m2' sz38 rfl (by decide) rfl rfl rfl fun h12 m12 f12 => ?_
    (try simp only [List.map, gop, ev, lk, aenv, gyield, gBin, gInt, gStrOp, gUn, gPick, gNil, gExtract, gIfc, gConvK, gIndexO, gIndexVO, gMakeV, gMinV, gMaxV, isInt, gMin, gMax, gBlt, gCallV, gInvoke, gNilM, Array.toList_map, vcells, gField, gIndexV, gPart, reduceIte, Nat.reduceAdd, Nat.reduceSub, Nat.reduceMul, Nat.reduceLT, Nat.reduceLeDiff, Nat.reduceEqDiff, Nat.reduceBEq, Int.reduceLT, Int.reduceLE, Int.reduceGT, Int.reduceGE, Int.reduceEq, Int.reduceNe, Int.reduceAdd, Int.reduceSub, Int.reduceMul, Int.reduceNeg, Int.reduceToNat, Int.reduceBEq, Int.reduceBNe, Int.cast_ofNat_Int, List.getElem?_toArray, stp, Try.underlying100, Try.underlying108, Try.underlying22, Try.underlying23, Try.underlying3, Try.underlying36, Try.underlying38, Try.underlying4, Try.underlying5, Try.underlying50, Try.underlying81, Try.underlying85, Try.underlying86, Try.underlying88, ty22, ty36, ty100, ty38, ty88, ty23, ty3, ty4, ty5, ty50, ty81, ty85, ty86, ty108, rs20, gloadA m12 sz38 rfl]); repeat' (first | (with_reducible first | refine gw_seq ?_ | refine gw_block ?_) | ((first | (with_reducible first | refine gw_region ?_ | refine gw_if ?_ | refine gw_skip ?_ | refine gw_exit ?_ | refine gw_ret ?_) | ((with_reducible first | refine gif_b (fun hb => ?_) (fun hb => ?_) | refine want_t (fun hb => ?_) (fun hb => ?_) | refine want_f (fun hb => ?_) (fun hb => ?_)) <;> (try simp only [hb]) <;> (try simp only [hpr] at hb))) <;> try simp only [List.map, gop, ev, lk, aenv, gyield, gBin, gInt, gStrOp, gUn, gPick, gNil, gExtract, gIfc, gConvK, gIndexO, gIndexVO, gMakeV, gMinV, gMaxV, isInt, gMin, gMax, gBlt, gCallV, gInvoke, gNilM, Array.toList_map, vcells, gField, gIndexV, gPart, reduceIte, Nat.reduceAdd, Nat.reduceSub, Nat.reduceMul, Nat.reduceLT, Nat.reduceLeDiff, Nat.reduceEqDiff, Nat.reduceBEq, Int.reduceLT, Int.reduceLE, Int.reduceGT, Int.reduceGE, Int.reduceEq, Int.reduceNe, Int.reduceAdd, Int.reduceSub, Int.reduceMul, Int.reduceNeg, Int.reduceToNat, Int.reduceBEq, Int.reduceBNe, Int.cast_ofNat_Int, List.getElem?_toArray, stp, Try.underlying100, Try.underlying108, Try.underlying22, Try.underlying23, Try.underlying3, Try.underlying36, Try.underlying38, Try.underlying4, Try.underlying5, Try.underlying50, Try.underlying81, Try.underlying85, Try.underlying86, Try.underlying88, ty22, ty36, ty100, ty38, ty88, ty23, ty3, ty4, ty5, ty50, ty81, ty85, ty86, ty108, rs20, gloadA m12 sz38 rfl]))
    rw [dkd]
    exact ⟨hend _ f12, _, rfl, RQ.zero _⟩
  rw [if_pos he3] at dkd
  have d6 : (s11.st.fin != 0) = false := by simpa using he3
  (try simp only [List.map, gop, ev, lk, aenv, gyield, gBin, gInt, gStrOp, gUn, gPick, gNil, gExtract, gIfc, gConvK, gIndexO, gIndexVO, gMakeV, gMinV, gMaxV, isInt, gMin, gMax, gBlt, gCallV, gInvoke, gNilM, Array.toList_map, vcells, gField, gIndexV, gPart, reduceIte, Nat.reduceAdd, Nat.reduceSub, Nat.reduceMul, Nat.reduceLT, Nat.reduceLeDiff, Nat.reduceEqDiff, Nat.reduceBEq, Int.reduceLT, Int.reduceLE, Int.reduceGT, Int.reduceGE, Int.reduceEq, Int.reduceNe, Int.reduceAdd, Int.reduceSub, Int.reduceMul, Int.reduceNeg, Int.reduceToNat, Int.reduceBEq, Int.reduceBNe, Int.cast_ofNat_Int, List.getElem?_toArray, stp, Try.underlying100, Try.underlying108, Try.underlying22, Try.underlying23, Try.underlying3, Try.underlying36, Try.underlying38, Try.underlying4, Try.underlying5, Try.underlying50, Try.underlying81, Try.underlying85, Try.underlying86, Try.underlying88, ty22, ty36, ty100, ty38, ty88, ty23, ty3, ty4, ty5, ty50, ty81, ty85, ty86, ty108, rs20, gUn, gNil, gload1 mt sz85, gload1 mr sz23, gload1 mr sz50, d5, d6, gloadA ma sz38 rfl]); repeat' (first | (with_reducible first | refine gw_seq ?_ | refine gw_block ?_) | ((first | (with_reducible first | refine gw_region ?_ | refine gw_if ?_ | refine gw_skip ?_ | refine gw_exit ?_ | refine gw_ret ?_) | ((with_reducible first | refine gif_b (fun hb => ?_) (fun hb => ?_) | refine want_t (fun hb => ?_) (fun hb => ?_) | refine want_f (fun hb => ?_) (fun hb => ?_)) <;> (try simp only [hb]) <;> (try simp only [hpr] at hb)) | ((refine GTri.mono (c_End _ _ rd) ?_); rintro _ _ ⟨rfl, hh9⟩; replace hh9 := hh9.symm; subst hh9)) <;> try simp only [List.map, gop, ev, lk, aenv, gyield, gBin, gInt, gStrOp, gUn, gPick, gNil, gExtract, gIfc, gConvK, gIndexO, gIndexVO, gMakeV, gMinV, gMaxV, isInt, gMin, gMax, gBlt, gCallV, gInvoke, gNilM, Array.toList_map, vcells, gField, gIndexV, gPart, reduceIte, Nat.reduceAdd, Nat.reduceSub, Nat.reduceMul, Nat.reduceLT, Nat.reduceLeDiff, Nat.reduceEqDiff, Nat.reduceBEq, Int.reduceLT, Int.reduceLE, Int.reduceGT, Int.reduceGE, Int.reduceEq, Int.reduceNe, Int.reduceAdd, Int.reduceSub, Int.reduceMul, Int.reduceNeg, Int.reduceToNat, Int.reduceBEq, Int.reduceBNe, Int.cast_ofNat_Int, List.getElem?_toArray, stp, Try.underlying100, Try.underlying108, Try.underlying22, Try.underlying23, Try.underlying3, Try.underlying36, Try.underlying38, Try.underlying4, Try.underlying5, Try.underlying50, Try.underlying81, Try.underlying85, Try.underlying86, Try.underlying88, ty22, ty36, ty100, ty38, ty88, ty23, ty3, ty4, ty5, ty50, ty81, ty85, ty86, ty108, rs20, gUn, gNil, gload1 mt sz85, gload1 mr sz23, gload1 mr sz50, d5, d6, gloadA ma sz38 rfl]))
  refine st_agg m2' sz38 rfl (by decide) rfl rfl rfl fun h12 m12 f12 => ?_
  (try simp only [List.map, gop, ev, lk, aenv, gyield, gBin, gInt, gStrOp, gUn, gPick, gNil, gExtract, gIfc, gConvK, gIndexO, gIndexVO, gMakeV, gMinV, gMaxV, isInt, gMin, gMax, gBlt, gCallV, gInvoke, gNilM, Array.toList_map, vcells, gField, gIndexV, gPart, reduceIte, Nat.reduceAdd, Nat.reduceSub, Nat.reduceMul, Nat.reduceLT, Nat.reduceLeDiff, Nat.reduceEqDiff, Nat.reduceBEq, Int.reduceLT, Int.reduceLE, Int.reduceGT, Int.reduceGE, Int.reduceEq, Int.reduceNe, Int.reduceAdd, Int.reduceSub, Int.reduceMul, Int.reduceNeg, Int.reduceToNat, Int.reduceBEq, Int.reduceBNe, Int.cast_ofNat_Int, List.getElem?_toArray, stp, Try.underlying100, Try.underlying108, Try.underlying22, Try.underlying23, Try.underlying3, Try.underlying36, Try.underlying38, Try.underlying4, Try.underlying5, Try.underlying50, Try.underlying81, Try.underlying85, Try.underlying86, Try.underlying88, ty22, ty36, ty100, ty38, ty88, ty23, ty3, ty4, ty5, ty50, ty81, ty85, ty86, ty108, rs20, gloadA m12 sz38 rfl]); repeat' (first | (with_reducible first | refine gw_seq ?_ | refine gw_block ?_) | ((first | (with_reducible first | refine gw_region ?_ | refine gw_if ?_ | refine gw_skip ?_ | refine gw_exit ?_ | refine gw_ret ?_) | ((with_reducible first | refine gif_b (fun hb => ?_) (fun hb => ?_) | refine want_t (fun hb => ?_) (fun hb => ?_) | refine want_f (fun hb => ?_) (fun hb => ?_)) <;> (try simp only [hb]) <;> (try simp only [hpr] at hb))) <;> try simp only [List.map, gop, ev, lk, aenv, gyield, gBin, gInt, gStrOp, gUn, gPick, gNil, gExtract, gIfc, gConvK, gIndexO, gIndexVO, gMakeV, gMinV, gMaxV, isInt, gMin, gMax, gBlt, gCallV, gInvoke, gNilM, Array.toList_map, vcells, gField, gIndexV, gPart, reduceIte, Nat.reduceAdd, Nat.reduceSub, Nat.reduceMul, Nat.reduceLT, Nat.reduceLeDiff, Nat.reduceEqDiff, Nat.reduceBEq, Int.reduceLT, Int.reduceLE, Int.reduceGT, Int.reduceGE, Int.reduceEq, Int.reduceNe, Int.reduceAdd, Int.reduceSub, Int.reduceMul, Int.reduceNeg, Int.reduceToNat, Int.reduceBEq, Int.reduceBNe, Int.cast_ofNat_Int, List.getElem?_toArray, stp, Try.underlying100, Try.underlying108, Try.underlying22, Try.underlying23, Try.underlying3, Try.underlying36, Try.underlying38, Try.underlying4, Try.underlying5, Try.underlying50, Try.underlying81, Try.underlying85, Try.underlying86, Try.underlying88, ty22, ty36, ty100, ty38, ty88, ty23, ty3, ty4, ty5, ty50, ty81, ty85, ty86, ty108, rs20, gloadA m12 sz38 rfl]))
  rw [dkd]
  have x12 : HX k2 h11 h12 := fun j B n e => by rw [f12 j n]; exact e
  exact ⟨hend _ f12, _, rfl, a, c', b', d, rfl, ri.hx m2' rfl x12, rl.bx m2' ⟨rfl, rfl⟩ rfl x12⟩
end Go.Gh

/- A request, written by the reference: what its kind has, whether it fits. -/

namespace Go.Gh
open Go Go.Proofs Go.RowKit
set_option linter.unusedVariables false
set_option linter.unusedSimpArgs false
set_option maxRecDepth 100000
set_option maxHeartbeats 4000000

/-- A request with just what its kind has. -/
def rown (x : Ak) : Ak :=
  if x.1.kd = 1 then (Aq.z x.1.kd, [], x.2.2)
  else if x.1.kd = 2 then ({ Aq.z x.1.kd with tm := x.1.tm }, [], [])
  else if x.1.kd = 3 then ({ Aq.z x.1.kd with tu := x.1.tu }, x.2.1, [])
  else if x.1.kd = 4 then ({ Aq.z x.1.kd with tm := x.1.tm, tu := x.1.tu }, x.2.1, [])
  else if x.1.kd = 5 then ({ Aq.z x.1.kd with fr := x.1.fr, tu := x.1.tu }, x.2.1, [])
  else if x.1.kd = 10 then ({ Aq.z x.1.kd with fr := x.1.fr, tu := x.1.tu, lm := x.1.lm }, x.2.1, [])
  else if x.1.kd = 6 then ({ Aq.z x.1.kd with fr := x.1.fr, tu := x.1.tu, so := x.1.so, lm := x.1.lm }, if x.1.so = true then x.2.1 else [], [])
  else if x.1.kd = 7 then ({ Aq.z x.1.kd with fr := x.1.fr, tu := x.1.tu, ep := x.1.ep, ix := x.1.ix, lm := x.1.lm }, [], [])
  else (Aq.z x.1.kd, [], [])

end Go.Gh

/- A request, written by the reference: whether all fits. -/

namespace Go.Gh
open Go Go.Proofs Go.RowKit
set_option linter.unusedVariables false
set_option linter.unusedSimpArgs false
set_option maxRecDepth 100000
set_option maxHeartbeats 4000000

def okn (n : Int) : Bool := decide (0 ≤ n) && decide (n ≤ 2147483648)
def rfits (x : Ak) : Bool := ([x.1.fr, x.1.tu, x.1.ep, x.1.ix, x.1.lm].all okn && !(((decide (x.1.tm < 0) || decide (x.1.tm > 1125899906842624)) || decide ((x.2.1.length : Int) > 24)) || decide ((x.2.2.length : Int) > 32))) && !(wide x.2.2)

end Go.Gh

/- A request's bytes, written by the reference. -/

namespace Go.Gh
open Go Go.Proofs Go.RowKit
set_option linter.unusedVariables false
set_option linter.unusedSimpArgs false
set_option maxRecDepth 100000
set_option maxHeartbeats 4000000

end Go.Gh

/- A request, written by the reference: the same. -/

namespace Go.Gh
open Go Go.Proofs Go.RowKit
set_option linter.unusedVariables false
set_option linter.unusedSimpArgs false
set_option maxRecDepth 100000
set_option maxHeartbeats 4000000

theorem wide_len {L : List (List UInt8 × List UInt8)} (h : wide L = true) : L.length ≠ 0 := fun e => by
  rw [wide_nil e] at h; cases h
theorem enc_kind (q : Aq) (id : List UInt8) (bt : List (List UInt8 × List UInt8)) (d : ¬ (1 ≤ q.kd ∧ q.kd ≤ 10)) : enc q id bt = ([], 87) := by
  obtain ⟨kd, fr, tu, tm, ep, ix, lm, so⟩ := q
  simp only at d
  have : jrun kd ⟨false, ⟨kd, fr, tu, tm, ep, ix, lm, so⟩, id, bt⟩ = none := by
    unfold jrun Pen.run
    simp only [show ¬ kd = 1 by omega, show ¬ kd = 2 by omega, show ¬ kd = 3 by omega, show ¬ kd = 4 by omega, show ¬ kd = 5 by omega, show ¬ kd = 10 by omega, show ¬ kd = 6 by omega, show ¬ kd = 7 by omega, show ¬ kd = 8 by omega, show ¬ kd = 9 by omega, if_false, or_self]
    rfl
  unfold enc
  simp only [this]
/-- What a judge finds is what the reference asks. -/
def judged (q : Aq) (id : List UInt8) (bt : List (List UInt8 × List UInt8)) : Prop := ∃ s, jrun q.kd ⟨false, q, id, bt⟩ = some s ∧ (s.bad = true ∨ s.q.left s.id.length s.bt.length = false ↔ ¬ (rown (q, id, bt) = (q, id, bt) ∧ rfits (q, id, bt) = true))
theorem judged_of (q : Aq) (id : List UInt8) (bt : List (List UInt8 × List UInt8)) (d : 1 ≤ q.kd ∧ q.kd ≤ 10) : judged q id bt := by
  obtain ⟨kd, fr, tu, tm, ep, ix, lm, so⟩ := q
  simp only at d
  have two : kd = 1 ∨ kd = 2 ∨ kd = 3 ∨ kd = 4 ∨ kd = 5 ∨ kd = 10 ∨ kd = 6 ∨ kd = 7 ∨ kd = 8 ∨ kd = 9 := by omega
  have hw : ∀ w, wide bt = w → w = true → bt.length ≠ 0 := fun w e e2 => wide_len (e.trans e2)
  clear d
  rcases two with rfl | rfl | rfl | rfl | rfl | rfl | rfl | rfl | rfl | rfl
  case inl =>
    refine ⟨⟨false || decide ((bt.length : Int) > 32) || wide bt, ⟨1, fr, tu, tm, ep, ix, lm, so⟩, id, []⟩, rfl, ?_⟩
    simp only [judgePen, Pen.n, Aq.get, Aq.put, Aq.left, rown, rfits, okn, Aq.z, List.all_cons, List.all_nil, Bool.and_true]
    specialize hw _ rfl
    generalize wide bt = w at hw ⊢
    cases so <;> cases w <;>
    simp only [reduceIte, Int.reduceEq, Bool.or_eq_true, decide_eq_true_eq, Bool.and_eq_true, Bool.and_eq_false_iff, Bool.or_eq_false_iff, decide_eq_false_iff_not, Bool.not_eq_true', Prod.mk.injEq, Aq.mk.injEq, true_and, and_true, Bool.false_eq_true, Bool.false_or, false_or, or_false, List.length_nil, Bool.not_true, Bool.not_false, and_false, false_and, not_true_eq_false, not_false_eq_true, true_or, or_true, true_iff, iff_true, Int.reduceLT, Int.reduceGT, @eq_comm _ [] _, List.eq_nil_iff_length_eq_zero, reduceCtorEq, @eq_comm _ (0:Int) _, false_implies, true_implies, forall_const] at hw ⊢ <;>
    (try simp only [decide_eq_false_iff_not]) <;>
    omega
  all_goals
    refine ⟨_, rfl, ?_⟩
    simp only [judgePen, Pen.n, Aq.get, Aq.put, Aq.left, rown, rfits, okn, Aq.z, List.all_cons, List.all_nil, Bool.and_true]
    specialize hw _ rfl
    generalize wide bt = w at hw ⊢
    cases so <;> cases w <;>
    simp only [reduceIte, Int.reduceEq, Bool.or_eq_true, decide_eq_true_eq, Bool.and_eq_true, Bool.and_eq_false_iff, Bool.or_eq_false_iff, decide_eq_false_iff_not, Bool.not_eq_true', Prod.mk.injEq, Aq.mk.injEq, true_and, and_true, Bool.false_eq_true, Bool.false_or, false_or, or_false, List.length_nil, Bool.not_true, Bool.not_false, and_false, false_and, not_true_eq_false, not_false_eq_true, true_or, or_true, true_iff, iff_true, Int.reduceLT, Int.reduceGT, @eq_comm _ [] _, List.eq_nil_iff_length_eq_zero, reduceCtorEq, @eq_comm _ (0:Int) _, false_implies, true_implies, forall_const] at hw ⊢ <;>
    (try simp only [decide_eq_false_iff_not]) <;>
    omega
theorem enc_yes (q : Aq) (id : List UInt8) (bt : List (List UInt8 × List UInt8)) (d : 1 ≤ q.kd ∧ q.kd ≤ 10) (e : rown (q, id, bt) = (q, id, bt) ∧ rfits (q, id, bt) = true) : enc q id bt = (Ws q id bt q.kd (guint q.kd), 0) := by
  obtain ⟨s, h1, h2⟩ := judged_of q id bt d
  unfold enc
  rw [h1]
  exact if_neg fun h3 => (h2.1 h3) e
theorem enc_not (q : Aq) (id : List UInt8) (bt : List (List UInt8 × List UInt8)) (d : 1 ≤ q.kd ∧ q.kd ≤ 10) (e : ¬ (rown (q, id, bt) = (q, id, bt) ∧ rfits (q, id, bt) = true)) : enc q id bt = ([], 1) := by
  obtain ⟨s, h1, h2⟩ := judged_of q id bt d
  unfold enc
  rw [h1]
  exact if_pos (h2.2 e)
end Go.Gh

/- A request's fields, read by the reference. -/

namespace Go.Gh
open Go Go.Proofs Go.RowKit
set_option linter.unusedVariables false
set_option linter.unusedSimpArgs false
set_option maxRecDepth 100000
set_option maxHeartbeats 4000000

def FI (kr ka : Nat) (h0 : GH) (q : Aq) (id : List UInt8) (st : St) (h : GH) : Prop :=
  RF h kr st ∧ (∃ a c, h ka = some ⟨q.cs (.slice a id.length c) (.slice none 0 0), 0, true, false⟩ ∧ RB h (.slice a id.length c) id) ∧ st.b.length ≤ 140737488355328 ∧ HX kr h0 h ∧ h0 ka = none
theorem FI.cell {kr ka : Nat} {h0 : GH} {q : Aq} {id : List UInt8} {st : St} {h : GH} (i : FI kr ka h0 q id st h) : gLoad Try.prog 4 h (.pointer (some ⟨ka, 5, none⟩)) = some (.bool q.so) := by
  obtain ⟨_, ⟨a, c, m, _⟩, _⟩ := i
  rw [gload1 m sz4]; rfl
theorem FI.ne {kr ka : Nat} {h0 : GH} {q : Aq} {id : List UInt8} {st : St} {h : GH} (i : FI kr ka h0 q id st h) : kr ≠ ka := by
  obtain ⟨rf, ⟨a, c, m, _⟩, _⟩ := i
  obtain ⟨_, _, mr, _⟩ := rf.form
  exact ne_cells mr m (by simp [Aq.cs])
theorem FI.step {kr ka : Nat} {h0 : GH} {q : Aq} {id : List UInt8} {st st' : St} {h h' : GH} (i : FI kr ka h0 q id st h) (rf : RF h' kr st') (x : HX kr h h') (hb : st'.b.length ≤ st.b.length) : FI kr ka h0 q id st' h' := by
  have ne := i.ne
  obtain ⟨rf0, ⟨a, c, m, r⟩, hl, x0, n0⟩ := i
  exact ⟨rf, ⟨a, c, x _ _ ne.symm m, r.rf rf0 x⟩, by omega, x0.trans x, n0⟩
theorem FI.st {kr ka : Nat} {h0 : GH} {q q' : Aq} {id id' : List UInt8} {st : St} {h h' : GH} (i : FI kr ka h0 q id st h) {a : Option Addr} {c : Nat} (m : h' ka = some ⟨q'.cs (.slice a id'.length c) (.slice none 0 0), 0, true, false⟩) (f : ∀ j, j ≠ ka → h' j = h j) (r : RB h (.slice a id'.length c) id') : FI kr ka h0 q' id' st h' := by
  have ne := i.ne
  obtain ⟨rf0, ⟨a0, c0, m0, r0⟩, hl, x0, n0⟩ := i
  have x : HX ka h h' := fun j B n e => by rw [f j n]; exact e
  obtain ⟨a1, c1, m1, r1, s1⟩ := rf0
  exact ⟨⟨a1, c1, x _ _ ne m1, r1.hx m0 rfl x, s1.hx m0 rfl x⟩, ⟨a, c, m, r.hx m0 rfl x⟩, hl, fun j B n e => x _ _ (fun e' => by rw [e', n0] at e; cases e) (x0 j B n e), n0⟩
end Go.Gh

/- A request, written and read by the reference. -/

namespace Go.Gh
open Go Go.Proofs Go.RowKit
set_option linter.unusedVariables false
set_option linter.unusedSimpArgs false
set_option maxRecDepth 100000
set_option maxHeartbeats 4000000

theorem RQ.hs {h h' : GH} {x : Ak} {v : Value} (r : RQ h x v) (s : HS h h') : RQ h' x v := by
  obtain ⟨a, c, b, d, rfl, r1, r2⟩ := r
  exact ⟨a, c, b, d, rfl, r1.hs s, r2.bs s⟩
theorem c_SameRQ (N : Nat) (h : GH) {x y : Ak} {v w : Value} (rx : RQ h x v) (ry : RQ h y w) (hL : x.2.2.length ≤ 140737488351232) : GTri Try.prog N 21 [v, w] h fun v h' => (∃ r : Bool, v = .bool r ∧ (r = true ↔ x = y)) ∧ HS h h' := by
  obtain ⟨a, c, b, d, rfl, r1, r2⟩ := rx
  obtain ⟨a', c', b', d', rfl, p1, p2⟩ := ry
  refine (c_Same25 N h x.1 y.1 r1 p1 r2 p2 hL).mono ?_
  rintro v h1 ⟨⟨r, rfl, hr⟩, s1⟩
  refine ⟨⟨r, rfl, hr.trans ?_⟩, s1⟩
  obtain ⟨q, i, l⟩ := x
  obtain ⟨q', i', l'⟩ := y
  simp
theorem fits_len {x : Ak} (h : rfits x = true) : x.2.1.length ≤ 24 ∧ x.2.2.length ≤ 32 ∧ wide x.2.2 = false := by
  simp only [rfits, Bool.and_eq_true, Bool.not_eq_true', Bool.or_eq_false_iff, decide_eq_false_iff_not] at h
  obtain ⟨⟨_, ⟨⟨_, h1⟩, h2⟩⟩, h3⟩ := h
  exact ⟨by omega, by omega, h3⟩

end Go.Gh

/- A request, read by the reference. -/

namespace Go.Gh
open Go Go.Proofs Go.RowKit
set_option linter.unusedVariables false
set_option linter.unusedSimpArgs false
set_option maxRecDepth 100000
set_option maxHeartbeats 4000000

theorem rrun_none {k : Int} (d : ¬ (1 ≤ k ∧ k ≤ 10)) (s : Rs) : rrun k s = none := by
  unfold rrun Pen.run
  simp only [show ¬ k = 1 by omega, show ¬ k = 2 by omega, show ¬ k = 3 by omega, show ¬ k = 4 by omega, show ¬ k = 5 by omega, show ¬ k = 10 by omega, show ¬ k = 6 by omega, show ¬ k = 7 by omega, show ¬ k = 8 by omega, show ¬ k = 9 by omega, if_false, or_self]
  rfl
theorem rrun_one (s : Rs) : rrun 1 s = some ⟨s.q, s.id, (rbat s.st.b).1, ⟨(rbat s.st.b).2.1, 0⟩, (rbat s.st.b).2.2⟩ := rfl

end Go.Gh

/- What is written is read, and what is read, written, is what was read. -/

namespace Go.Gh
open Go Go.Proofs Go.RowKit
set_option linter.unusedVariables false
set_option linter.unusedSimpArgs false
set_option maxRecDepth 100000
set_option maxHeartbeats 4000000

theorem rbat_len (l : List UInt8) : (rbat l).1.length ≤ 32 := by
  unfold rbat
  split
  · have h1 := (((St.mk l 0).uint 32).2.bds_len 24 48 ((St.mk l 0).uint 32).1.toNat).1
    have h2 := St.uint_max (St.mk l 0) (most := 32) (by decide)
    simp only
    omega
  · simp
theorem rrun_bt {k : Int} {s t : Rs} (h : rrun k s = some t) (hs : s.bt = []) : t.bt.length ≤ 32 := by
  have h0 : s.bt.length ≤ 32 := by rw [hs]; simp
  unfold rrun Pen.run at h
  repeat' (split at h)
  all_goals
    first
    | (cases h; done)
    | (cases h; exact h0)
    | (cases h; exact rbat_len _)
    | (cases h; (repeat' split); all_goals exact h0)
theorem dec_len (l : List UInt8) : (dec l).1.2.2.length ≤ 32 := by
  unfold dec
  split
  · split
    · simp [ak0]
    · rename_i s e
      have := rrun_bt e rfl
      split
      · split
        · exact this
        · simp [ak0]
      · simp [ak0]
  · simp [ak0]

end Go.Gh

/- What is written is read; what is read, written, is what was read. -/

namespace Go.Gh
open Go Go.Proofs Go.RowKit
set_option linter.unusedVariables false
set_option linter.unusedSimpArgs false
set_option maxRecDepth 100000
set_option maxHeartbeats 4000000

theorem uint_putI {n most : Int} (h0 : 0 ≤ n) (hn : n ≤ 4611686018427387904) (hm : n ≤ most) (rest : List UInt8) : (St.mk (guint n ++ rest) 0).uint most = (n, ⟨rest, 0⟩) := by
  obtain ⟨m, rfl⟩ : ∃ m : Nat, n = m := ⟨n.toNat, by omega⟩
  exact St.uint_put (by omega) hm rest
theorem uint_putE {n most : Int} (h0 : 0 ≤ n) (hn : n ≤ 4611686018427387904) (hm : n ≤ most) : (St.mk (guint n) 0).uint most = (n, ⟨[], 0⟩) := by
  have := uint_putI h0 hn hm []
  rwa [List.append_nil] at this
def decM (o : Option Rs) : Ak × Int :=
  match o with
  | none => (ak0, 87)
  | some s => if s.err = 0 then (if s.st.fin = 0 then ((s.q, s.id, s.bt), 0) else (ak0, s.st.fin)) else (ak0, s.err)
theorem dec_eq (l : List UInt8) : dec l = if ((St.mk l 0).uint 2147483648).2.e = 0 then decM (rrun ((St.mk l 0).uint 2147483648).1 ⟨Aq.z ((St.mk l 0).uint 2147483648).1, [], [], ((St.mk l 0).uint 2147483648).2, 0⟩) else (ak0, ((St.mk l 0).uint 2147483648).2.e) := rfl
theorem dec_put {k : Int} (h0 : 0 ≤ k) (h1 : k ≤ 10) (rest : List UInt8) : dec (guint k ++ rest) = decM (rrun k ⟨Aq.z k, [], [], ⟨rest, 0⟩, 0⟩) := by
  rw [dec_eq, uint_putI h0 (by omega) (by omega), if_pos rfl]
theorem enc_ok {q : Aq} {id : List UInt8} {bt : List (List UInt8 × List UInt8)} (h : (enc q id bt).2 = 0) : (1 ≤ q.kd ∧ q.kd ≤ 10) ∧ rown (q, id, bt) = (q, id, bt) ∧ rfits (q, id, bt) = true := by
  by_cases hk : 1 ≤ q.kd ∧ q.kd ≤ 10
  · by_cases hr : rown (q, id, bt) = (q, id, bt) ∧ rfits (q, id, bt) = true
    · exact ⟨hk, hr⟩
    · rw [enc_not _ _ _ hk hr] at h; cases h
  · rw [enc_kind _ _ _ hk] at h; cases h
theorem dec_enc {q : Aq} {id : List UInt8} {bt : List (List UInt8 × List UInt8)} (h : (enc q id bt).2 = 0) : dec (enc q id bt).1 = ((q, id, bt), 0) := by
  obtain ⟨hk, hr, hf⟩ := enc_ok h
  rw [enc_yes _ _ _ hk ⟨hr, hf⟩]
  suffices hs : dec (Ws q id bt q.kd (guint q.kd)) = (rown (q, id, bt), 0) by rw [hs, hr]
  clear hr h
  obtain ⟨kd, fr, tu, tm, ep, ix, lm, so⟩ := q
  simp only at hk
  obtain ⟨l1, l2, l3⟩ := fits_len hf
  simp only [rfits, okn, List.all_cons, List.all_nil, Bool.and_true, Bool.and_eq_true, decide_eq_true_eq, Bool.not_eq_true', Bool.or_eq_false_iff, decide_eq_false_iff_not] at hf l1 l2 l3
  obtain ⟨⟨⟨f1, f2, f4, f5, f6⟩, ⟨⟨⟨f3, f3'⟩, _⟩, _⟩⟩, _⟩ := hf
  have u1 := fun r => uint_putI (most := 2147483648) f1.1 (by omega) f1.2 r
  have u2 := fun r => uint_putI (most := 2147483648) f2.1 (by omega) f2.2 r
  have u2' := uint_putE (most := 2147483648) f2.1 (by omega) f2.2
  have u3 := fun r => uint_putI (n := tm) (most := 1125899906842624) (by omega) (by omega) (by omega) r
  have u3' := uint_putE (n := tm) (most := 1125899906842624) (by omega) (by omega) (by omega)
  have u4 := fun r => uint_putI (most := 2147483648) f4.1 (by omega) f4.2 r
  have u5 := fun r => uint_putI (most := 2147483648) f5.1 (by omega) f5.2 r
  have u6' := uint_putE (most := 2147483648) f6.1 (by omega) f6.2
  have ub := fun r => St.bytes_put (k := id) (most := 24) (by omega) (by omega) r
  have uf := fun r => St.flag_put so r
  have ua := rbat_put l2 l3 []
  rw [List.append_nil] at ua
  have two : kd = 1 ∨ kd = 2 ∨ kd = 3 ∨ kd = 4 ∨ kd = 5 ∨ kd = 10 ∨ (kd = 6 ∧ so = true) ∨ (kd = 6 ∧ so = false) ∨ kd = 7 ∨ kd = 8 ∨ kd = 9 := by cases so <;> simp only [true_and, false_and, and_true, and_false, Bool.false_eq_true, false_or, reduceCtorEq] <;> omega
  have e8 : guint 8 = guint 8 ++ [] := (List.append_nil _).symm
  have e9 : guint 9 = guint 9 ++ [] := (List.append_nil _).symm
  have fin0 : (St.mk [] 0).fin = 0 := rfl
  rcases two with rfl | rfl | rfl | rfl | rfl | rfl | ⟨rfl, rfl⟩ | ⟨rfl, rfl⟩ | rfl | rfl | rfl
  case inr.inr.inr.inr.inr.inr.inr.inr.inr.inl =>
    simp only [Ws, Int.reduceEq, reduceIte]
    rw [e8, dec_put (by decide) (by decide)]; rfl
  case inr.inr.inr.inr.inr.inr.inr.inr.inr.inr =>
    simp only [Ws, Int.reduceEq, reduceIte]
    rw [e9, dec_put (by decide) (by decide)]; rfl
  all_goals
    simp only [Ws, Int.reduceEq, reduceIte, Aq.get, List.append_assoc, Bool.false_eq_true]
    rw [dec_put (by decide) (by decide)]
    simp only [rrun, Pen.run, readerPen, Pen.n, Int.reduceEq, reduceIte, u1, u2, u2', u3, u3', u4, u5, u6', ub, uf, ua, Bool.false_eq_true, decM, fin0]
    rfl
end Go.Gh

/- What is read, written, is what was read. -/

namespace Go.Gh
open Go Go.Proofs Go.RowKit
set_option linter.unusedVariables false
set_option linter.unusedSimpArgs false
set_option maxRecDepth 100000
set_option maxHeartbeats 4000000

def Reads (s : St) (x : List UInt8) (t : St) : Prop := t.e = 0 → s.e = 0 ∧ s.b = x ++ t.b
theorem Reads.trans {a b c : St} {x y : List UInt8} (h : Reads a x b) (k : Reads b y c) : Reads a (x ++ y) c := fun e => by
  obtain ⟨e1, b1⟩ := k e
  obtain ⟨e2, b2⟩ := h e1
  exact ⟨e2, by rw [b2, b1, List.append_assoc]⟩
theorem reads_num (s : St) (m : Int) : Reads s (guint (s.uint m).1) (s.uint m).2 := fun e => by
  obtain ⟨e1, n, e2, _, _, e3⟩ := St.uint_got e
  exact ⟨e1, by rw [e2]; exact e3⟩
theorem num_bd {s : St} {m : Int} (e : (s.uint m).2.e = 0) : 0 ≤ (s.uint m).1 ∧ (s.uint m).1 ≤ m := by
  obtain ⟨e1, n, e2, _, e4, e3⟩ := St.uint_got e
  rw [e2]; exact ⟨by omega, e4⟩
theorem reads_txt (s : St) (m : Int) : Reads s (guint (s.bytes m).1.length ++ (s.bytes m).1) (s.bytes m).2 := fun e => by
  obtain ⟨e1, _, _, e3⟩ := St.bytes_got e
  exact ⟨e1, by rw [List.append_assoc]; exact e3⟩
theorem txt_bd {s : St} {m : Int} (e : (s.bytes m).2.e = 0) : ((s.bytes m).1.length : Int) ≤ m := (St.bytes_got e).2.2.1
theorem reads_flg (s : St) : Reads s [gflag s.flag.1] s.flag.2 := fun e => St.flag_got e
theorem decM_ok {s : Rs} (h : (decM (some s)).2 = 0) : s.err = 0 ∧ s.st.e = 0 ∧ s.st.b = [] ∧ decM (some s) = ((s.q, s.id, s.bt), 0) := by
  unfold decM at h ⊢
  simp only at h ⊢
  by_cases h1 : s.err = 0
  · rw [if_pos h1] at h ⊢
    by_cases h2 : s.st.fin = 0
    · rw [if_pos h2] at h ⊢
      refine ⟨h1, ?_, ?_, rfl⟩
      · unfold St.fin at h2
        split at h2
        · cases h2
        · exact h2
      · unfold St.fin at h2
        split at h2
        · cases h2
        · rename_i h3
          exact Decidable.byContradiction fun h4 => h3 ⟨h2, h4⟩
    · rw [if_neg h2] at h; exact absurd h h2
  · rw [if_neg h1] at h; exact absurd h h1
theorem okn_of {n : Int} (h : 0 ≤ n ∧ n ≤ 2147483648) : okn n = true := by
  unfold okn; rw [decide_eq_true h.1, decide_eq_true h.2]; rfl
theorem enc_dec {l : List UInt8} (h : (dec l).2 = 0) : enc (dec l).1.1 (dec l).1.2.1 (dec l).1.2.2 = (l, 0) := by
  rw [dec_eq] at h ⊢
  have ru := reads_num (St.mk l 0) 2147483648
  generalize (St.mk l 0).uint 2147483648 = u at *
  by_cases he : u.2.e = 0
  case neg => rw [if_neg he] at h; exact absurd h he
  rw [if_pos he] at h ⊢
  obtain ⟨k, st⟩ := u
  simp only at h ru he ⊢
  obtain ⟨_, bl⟩ := ru he
  simp only at bl
  have ok0 : okn 0 = true := by decide
  have hk : 1 ≤ k ∧ k ≤ 10 := Decidable.byContradiction fun hk => by
    rw [rrun_none hk] at h; cases h
  have lt0 : ∀ {n m : Int}, 0 ≤ n ∧ n ≤ m → decide (n < 0) = false ∧ decide (n > m) = false := fun h => ⟨decide_eq_false (by omega), decide_eq_false (by omega)⟩
  have two : k = 1 ∨ k = 2 ∨ k = 3 ∨ k = 4 ∨ k = 5 ∨ k = 10 ∨ k = 6 ∨ k = 7 ∨ k = 8 ∨ k = 9 := by omega
  rcases two with rfl | rfl | rfl | rfl | rfl | rfl | rfl | rfl | rfl | rfl
  case inr.inr.inr.inr.inr.inr.inr.inr.inl =>
    rw [show rrun 8 ⟨Aq.z 8, [], [], st, 0⟩ = some ⟨Aq.z 8, [], [], st, 0⟩ from rfl] at h ⊢
    obtain ⟨_, e1, e2, e3⟩ := decM_ok h
    rw [e3]
    simp only at e1 e2 ⊢
    rw [e2, List.append_nil] at bl
    rw [enc_yes _ _ _ hk ⟨rfl, rfl⟩, bl]
    rfl
  case inr.inr.inr.inr.inr.inr.inr.inr.inr =>
    rw [show rrun 9 ⟨Aq.z 9, [], [], st, 0⟩ = some ⟨Aq.z 9, [], [], st, 0⟩ from rfl] at h ⊢
    obtain ⟨_, e1, e2, e3⟩ := decM_ok h
    rw [e3]
    simp only at e1 e2 ⊢
    rw [e2, List.append_nil] at bl
    rw [enc_yes _ _ _ hk ⟨rfl, rfl⟩, bl]
    rfl
  case inl =>
    rw [rrun_one] at h ⊢
    obtain ⟨h1, e1, e2, e3⟩ := decM_ok h
    rw [e3]
    simp only at h1 e1 e2 ⊢
    obtain ⟨g1, g2, g3⟩ := rbat_got h1
    rw [e2, List.append_nil] at g3
    generalize (rbat st.b).1 = L at *
    rw [enc_yes _ _ _ hk ⟨rfl, by simp only [rfits, Aq.z, List.all_cons, List.all_nil, ok0, g2]; simp; omega⟩, bl, g3]
    rfl
  case inr.inl =>
    have hrr : rrun 2 ⟨Aq.z 2, [], [], st, 0⟩ = some ⟨{ Aq.z 2 with tm := (st.uint 1125899906842624).1 }, [], [], (st.uint 1125899906842624).2, 0⟩ := rfl
    rw [hrr] at h ⊢
    clear hrr
    have r0 := reads_num st 1125899906842624
    have b0 := @num_bd st 1125899906842624
    generalize st.uint 1125899906842624 = A0 at *
    obtain ⟨_, e, e2, e3⟩ := decM_ok h
    rw [e3]
    simp only at e e2 ⊢
    have c0 := b0 e
    obtain ⟨z0, g0⟩ := r0 e
    rw [e2, List.append_nil] at g0
    have ft : rfits ({ Aq.z 2 with tm := A0.1 }, [], []) = true := by
      simp only [rfits, Aq.z, List.all_cons, List.all_nil, ok0, (lt0 c0).1, (lt0 c0).2]
      first | rfl | decide
    rw [enc_yes _ _ _ hk ⟨rfl, ft⟩, bl, g0]
    simp only [Ws, Aq.z, Aq.get, Int.reduceEq, reduceIte, List.append_assoc, Bool.false_eq_true]
  case inr.inr.inl =>
    have hrr : rrun 3 ⟨Aq.z 3, [], [], st, 0⟩ = some ⟨{ Aq.z 3 with tu := ((st.bytes 24).2.uint 2147483648).1 }, (st.bytes 24).1, [], ((st.bytes 24).2.uint 2147483648).2, 0⟩ := rfl
    rw [hrr] at h ⊢
    clear hrr
    have r0 := reads_txt st 24
    have b0 := @txt_bd st 24
    generalize st.bytes 24 = A0 at *
    have r1 := reads_num A0.2 2147483648
    have b1 := @num_bd A0.2 2147483648
    generalize A0.2.uint 2147483648 = A1 at *
    obtain ⟨_, e, e2, e3⟩ := decM_ok h
    rw [e3]
    simp only at e e2 ⊢
    have c1 := b1 e
    obtain ⟨z1, g1⟩ := r1 e
    have c0 := b0 z1
    obtain ⟨z0, g0⟩ := r0 z1
    rw [e2, List.append_nil] at g1
    have idl : decide ((A0.1.length : Int) > 24) = false := decide_eq_false (by omega)
    have ft : rfits ({ Aq.z 3 with tu := A1.1 }, A0.1, []) = true := by
      simp only [rfits, Aq.z, List.all_cons, List.all_nil, ok0, idl, okn_of c1]
      first | rfl | decide
    rw [enc_yes _ _ _ hk ⟨rfl, ft⟩, bl, g0, g1]
    simp only [Ws, Aq.z, Aq.get, Int.reduceEq, reduceIte, List.append_assoc, Bool.false_eq_true]
  case inr.inr.inr.inl =>
    have hrr : rrun 4 ⟨Aq.z 4, [], [], st, 0⟩ = some ⟨{ Aq.z 4 with tm := ((st.bytes 24).2.uint 1125899906842624).1, tu := (((st.bytes 24).2.uint 1125899906842624).2.uint 2147483648).1 }, (st.bytes 24).1, [], (((st.bytes 24).2.uint 1125899906842624).2.uint 2147483648).2, 0⟩ := rfl
    rw [hrr] at h ⊢
    clear hrr
    have r0 := reads_txt st 24
    have b0 := @txt_bd st 24
    generalize st.bytes 24 = A0 at *
    have r1 := reads_num A0.2 1125899906842624
    have b1 := @num_bd A0.2 1125899906842624
    generalize A0.2.uint 1125899906842624 = A1 at *
    have r2 := reads_num A1.2 2147483648
    have b2 := @num_bd A1.2 2147483648
    generalize A1.2.uint 2147483648 = A2 at *
    obtain ⟨_, e, e2, e3⟩ := decM_ok h
    rw [e3]
    simp only at e e2 ⊢
    have c2 := b2 e
    obtain ⟨z2, g2⟩ := r2 e
    have c1 := b1 z2
    obtain ⟨z1, g1⟩ := r1 z2
    have c0 := b0 z1
    obtain ⟨z0, g0⟩ := r0 z1
    rw [e2, List.append_nil] at g2
    have idl : decide ((A0.1.length : Int) > 24) = false := decide_eq_false (by omega)
    have ft : rfits ({ Aq.z 4 with tm := A1.1, tu := A2.1 }, A0.1, []) = true := by
      simp only [rfits, Aq.z, List.all_cons, List.all_nil, ok0, idl, (lt0 c1).1, (lt0 c1).2, okn_of c2]
      first | rfl | decide
    rw [enc_yes _ _ _ hk ⟨rfl, ft⟩, bl, g0, g1, g2]
    simp only [Ws, Aq.z, Aq.get, Int.reduceEq, reduceIte, List.append_assoc, Bool.false_eq_true]
  case inr.inr.inr.inr.inl =>
    have hrr : rrun 5 ⟨Aq.z 5, [], [], st, 0⟩ = some ⟨{ Aq.z 5 with fr := ((st.bytes 24).2.uint 2147483648).1, tu := (((st.bytes 24).2.uint 2147483648).2.uint 2147483648).1 }, (st.bytes 24).1, [], (((st.bytes 24).2.uint 2147483648).2.uint 2147483648).2, 0⟩ := rfl
    rw [hrr] at h ⊢
    clear hrr
    have r0 := reads_txt st 24
    have b0 := @txt_bd st 24
    generalize st.bytes 24 = A0 at *
    have r1 := reads_num A0.2 2147483648
    have b1 := @num_bd A0.2 2147483648
    generalize A0.2.uint 2147483648 = A1 at *
    have r2 := reads_num A1.2 2147483648
    have b2 := @num_bd A1.2 2147483648
    generalize A1.2.uint 2147483648 = A2 at *
    obtain ⟨_, e, e2, e3⟩ := decM_ok h
    rw [e3]
    simp only at e e2 ⊢
    have c2 := b2 e
    obtain ⟨z2, g2⟩ := r2 e
    have c1 := b1 z2
    obtain ⟨z1, g1⟩ := r1 z2
    have c0 := b0 z1
    obtain ⟨z0, g0⟩ := r0 z1
    rw [e2, List.append_nil] at g2
    have idl : decide ((A0.1.length : Int) > 24) = false := decide_eq_false (by omega)
    have ft : rfits ({ Aq.z 5 with fr := A1.1, tu := A2.1 }, A0.1, []) = true := by
      simp only [rfits, Aq.z, List.all_cons, List.all_nil, ok0, idl, okn_of c1, okn_of c2]
      first | rfl | decide
    rw [enc_yes _ _ _ hk ⟨rfl, ft⟩, bl, g0, g1, g2]
    simp only [Ws, Aq.z, Aq.get, Int.reduceEq, reduceIte, List.append_assoc, Bool.false_eq_true]
  case inr.inr.inr.inr.inr.inl =>
    have hrr : rrun 10 ⟨Aq.z 10, [], [], st, 0⟩ = some ⟨{ Aq.z 10 with fr := ((st.bytes 24).2.uint 2147483648).1, tu := (((st.bytes 24).2.uint 2147483648).2.uint 2147483648).1, lm := ((((st.bytes 24).2.uint 2147483648).2.uint 2147483648).2.uint 2147483648).1 }, (st.bytes 24).1, [], ((((st.bytes 24).2.uint 2147483648).2.uint 2147483648).2.uint 2147483648).2, 0⟩ := rfl
    rw [hrr] at h ⊢
    clear hrr
    have r0 := reads_txt st 24
    have b0 := @txt_bd st 24
    generalize st.bytes 24 = A0 at *
    have r1 := reads_num A0.2 2147483648
    have b1 := @num_bd A0.2 2147483648
    generalize A0.2.uint 2147483648 = A1 at *
    have r2 := reads_num A1.2 2147483648
    have b2 := @num_bd A1.2 2147483648
    generalize A1.2.uint 2147483648 = A2 at *
    have r3 := reads_num A2.2 2147483648
    have b3 := @num_bd A2.2 2147483648
    generalize A2.2.uint 2147483648 = A3 at *
    obtain ⟨_, e, e2, e3⟩ := decM_ok h
    rw [e3]
    simp only at e e2 ⊢
    have c3 := b3 e
    obtain ⟨z3, g3⟩ := r3 e
    have c2 := b2 z3
    obtain ⟨z2, g2⟩ := r2 z3
    have c1 := b1 z2
    obtain ⟨z1, g1⟩ := r1 z2
    have c0 := b0 z1
    obtain ⟨z0, g0⟩ := r0 z1
    rw [e2, List.append_nil] at g3
    have idl : decide ((A0.1.length : Int) > 24) = false := decide_eq_false (by omega)
    have ft : rfits ({ Aq.z 10 with fr := A1.1, tu := A2.1, lm := A3.1 }, A0.1, []) = true := by
      simp only [rfits, Aq.z, List.all_cons, List.all_nil, ok0, idl, okn_of c1, okn_of c2, okn_of c3]
      first | rfl | decide
    rw [enc_yes _ _ _ hk ⟨rfl, ft⟩, bl, g0, g1, g2, g3]
    simp only [Ws, Aq.z, Aq.get, Int.reduceEq, reduceIte, List.append_assoc, Bool.false_eq_true]
  case inr.inr.inr.inr.inr.inr.inl =>
    by_cases hb : ((st.uint 2147483648).2.uint 2147483648).2.flag.1 = true
    · have hrr : rrun 6 ⟨Aq.z 6, [], [], st, 0⟩ = some ⟨{ Aq.z 6 with fr := (st.uint 2147483648).1, tu := ((st.uint 2147483648).2.uint 2147483648).1, so := true, lm := (((((st.uint 2147483648).2.uint 2147483648).2.flag).2.bytes 24).2.uint 2147483648).1 }, ((((st.uint 2147483648).2.uint 2147483648).2.flag).2.bytes 24).1, [], (((((st.uint 2147483648).2.uint 2147483648).2.flag).2.bytes 24).2.uint 2147483648).2, 0⟩ := by simp only [rrun, Pen.run, readerPen, Pen.n, Int.reduceEq, reduceIte, hb, Bool.false_eq_true]; rfl
      rw [hrr] at h ⊢
      clear hrr
      have r0 := reads_num st 2147483648
      have b0 := @num_bd st 2147483648
      generalize st.uint 2147483648 = A0 at *
      have r1 := reads_num A0.2 2147483648
      have b1 := @num_bd A0.2 2147483648
      generalize A0.2.uint 2147483648 = A1 at *
      have r2 := reads_flg A1.2
      generalize A1.2.flag = A2 at *
      rw [hb] at r2
      have r3 := reads_txt A2.2 24
      have b3 := @txt_bd A2.2 24
      generalize A2.2.bytes 24 = A3 at *
      have r4 := reads_num A3.2 2147483648
      have b4 := @num_bd A3.2 2147483648
      generalize A3.2.uint 2147483648 = A4 at *
      obtain ⟨_, e, e2, e3⟩ := decM_ok h
      rw [e3]
      simp only at e e2 ⊢
      have c4 := b4 e
      obtain ⟨z4, g4⟩ := r4 e
      have c3 := b3 z4
      obtain ⟨z3, g3⟩ := r3 z4
      obtain ⟨z2, g2⟩ := r2 z3
      have c1 := b1 z2
      obtain ⟨z1, g1⟩ := r1 z2
      have c0 := b0 z1
      obtain ⟨z0, g0⟩ := r0 z1
      rw [e2, List.append_nil] at g4
      have idl : decide ((A3.1.length : Int) > 24) = false := decide_eq_false (by omega)
      have ft : rfits ({ Aq.z 6 with fr := A0.1, tu := A1.1, so := true, lm := A4.1 }, A3.1, []) = true := by
        simp only [rfits, Aq.z, List.all_cons, List.all_nil, ok0, okn_of c0, okn_of c1, idl, okn_of c4]
        first | rfl | decide
      rw [enc_yes _ _ _ hk ⟨rfl, ft⟩, bl, g0, g1, g2, g3, g4]
      simp only [Ws, Aq.z, Aq.get, Int.reduceEq, reduceIte, List.append_assoc, Bool.false_eq_true]
    · replace hb : ((st.uint 2147483648).2.uint 2147483648).2.flag.1 = false := by simpa using hb
      have hrr : rrun 6 ⟨Aq.z 6, [], [], st, 0⟩ = some ⟨{ Aq.z 6 with fr := (st.uint 2147483648).1, tu := ((st.uint 2147483648).2.uint 2147483648).1, so := false, lm := ((((st.uint 2147483648).2.uint 2147483648).2.flag).2.uint 2147483648).1 }, [], [], ((((st.uint 2147483648).2.uint 2147483648).2.flag).2.uint 2147483648).2, 0⟩ := by simp only [rrun, Pen.run, readerPen, Pen.n, Int.reduceEq, reduceIte, hb, Bool.false_eq_true]; rfl
      rw [hrr] at h ⊢
      clear hrr
      have r0 := reads_num st 2147483648
      have b0 := @num_bd st 2147483648
      generalize st.uint 2147483648 = A0 at *
      have r1 := reads_num A0.2 2147483648
      have b1 := @num_bd A0.2 2147483648
      generalize A0.2.uint 2147483648 = A1 at *
      have r2 := reads_flg A1.2
      generalize A1.2.flag = A2 at *
      rw [hb] at r2
      have r3 := reads_num A2.2 2147483648
      have b3 := @num_bd A2.2 2147483648
      generalize A2.2.uint 2147483648 = A3 at *
      obtain ⟨_, e, e2, e3⟩ := decM_ok h
      rw [e3]
      simp only at e e2 ⊢
      have c3 := b3 e
      obtain ⟨z3, g3⟩ := r3 e
      obtain ⟨z2, g2⟩ := r2 z3
      have c1 := b1 z2
      obtain ⟨z1, g1⟩ := r1 z2
      have c0 := b0 z1
      obtain ⟨z0, g0⟩ := r0 z1
      rw [e2, List.append_nil] at g3
      have ft : rfits ({ Aq.z 6 with fr := A0.1, tu := A1.1, so := false, lm := A3.1 }, [], []) = true := by
        simp only [rfits, Aq.z, List.all_cons, List.all_nil, ok0, okn_of c0, okn_of c1, okn_of c3]
        first | rfl | decide
      rw [enc_yes _ _ _ hk ⟨rfl, ft⟩, bl, g0, g1, g2, g3]
      simp only [Ws, Aq.z, Aq.get, Int.reduceEq, reduceIte, List.append_assoc, Bool.false_eq_true]
  case inr.inr.inr.inr.inr.inr.inr.inl =>
    have hrr : rrun 7 ⟨Aq.z 7, [], [], st, 0⟩ = some ⟨{ Aq.z 7 with fr := (st.uint 2147483648).1, tu := ((st.uint 2147483648).2.uint 2147483648).1, ep := (((st.uint 2147483648).2.uint 2147483648).2.uint 2147483648).1, ix := ((((st.uint 2147483648).2.uint 2147483648).2.uint 2147483648).2.uint 2147483648).1, lm := (((((st.uint 2147483648).2.uint 2147483648).2.uint 2147483648).2.uint 2147483648).2.uint 2147483648).1 }, [], [], (((((st.uint 2147483648).2.uint 2147483648).2.uint 2147483648).2.uint 2147483648).2.uint 2147483648).2, 0⟩ := rfl
    rw [hrr] at h ⊢
    clear hrr
    have r0 := reads_num st 2147483648
    have b0 := @num_bd st 2147483648
    generalize st.uint 2147483648 = A0 at *
    have r1 := reads_num A0.2 2147483648
    have b1 := @num_bd A0.2 2147483648
    generalize A0.2.uint 2147483648 = A1 at *
    have r2 := reads_num A1.2 2147483648
    have b2 := @num_bd A1.2 2147483648
    generalize A1.2.uint 2147483648 = A2 at *
    have r3 := reads_num A2.2 2147483648
    have b3 := @num_bd A2.2 2147483648
    generalize A2.2.uint 2147483648 = A3 at *
    have r4 := reads_num A3.2 2147483648
    have b4 := @num_bd A3.2 2147483648
    generalize A3.2.uint 2147483648 = A4 at *
    obtain ⟨_, e, e2, e3⟩ := decM_ok h
    rw [e3]
    simp only at e e2 ⊢
    have c4 := b4 e
    obtain ⟨z4, g4⟩ := r4 e
    have c3 := b3 z4
    obtain ⟨z3, g3⟩ := r3 z4
    have c2 := b2 z3
    obtain ⟨z2, g2⟩ := r2 z3
    have c1 := b1 z2
    obtain ⟨z1, g1⟩ := r1 z2
    have c0 := b0 z1
    obtain ⟨z0, g0⟩ := r0 z1
    rw [e2, List.append_nil] at g4
    have ft : rfits ({ Aq.z 7 with fr := A0.1, tu := A1.1, ep := A2.1, ix := A3.1, lm := A4.1 }, [], []) = true := by
      simp only [rfits, Aq.z, List.all_cons, List.all_nil, ok0, okn_of c0, okn_of c1, okn_of c2, okn_of c3, okn_of c4]
      first | rfl | decide
    rw [enc_yes _ _ _ hk ⟨rfl, ft⟩, bl, g0, g1, g2, g3, g4]
    simp only [Ws, Aq.z, Aq.get, Int.reduceEq, reduceIte, List.append_assoc, Bool.false_eq_true]
end Go.Gh

/- The law AskBack. -/

namespace Go.Gh
open Go Go.Proofs Go.RowKit
set_option linter.unusedVariables false
set_option linter.unusedSimpArgs false
set_option maxRecDepth 100000
set_option maxHeartbeats 4000000

theorem enc_len (q : Aq) (id : List UInt8) (bt : List (List UInt8 × List UInt8)) : (enc q id bt).1.length ≤ 100000 := by
  by_cases h : (enc q id bt).2 = 0
  · obtain ⟨hk, hr, hf⟩ := enc_ok h
    rw [enc_yes _ _ _ hk ⟨hr, hf⟩]
    obtain ⟨l1, l2, l3⟩ := fits_len hf
    simp only at l1 l2 l3
    have l4 := bputs_bound bt l3
    have g0 := guint_len q.kd
    have g1 := guint_len q.fr
    have g2 := guint_len q.tu
    have g3 := guint_len q.tm
    have g4 := guint_len q.ep
    have g5 := guint_len q.ix
    have g6 := guint_len q.lm
    have g7 := guint_len id.length
    have g8 := guint_len bt.length
    simp only [Ws, Aq.get]
    repeat' split
    all_goals
      (try simp only [List.length_append, List.length_singleton])
      omega
  · by_cases hk : 1 ≤ q.kd ∧ q.kd ≤ 10
    · by_cases hr : rown (q, id, bt) = (q, id, bt) ∧ rfits (q, id, bt) = true
      · rw [enc_yes _ _ _ hk hr] at h; exact absurd rfl h
      · rw [enc_not _ _ _ hk hr]; simp
    · rw [enc_kind _ _ _ hk]; simp

theorem Odd.sl {h : GH} {a : Option Addr} {n c : Nat} (o : Odd (.slice a n c)) : SL h (.slice a n c) := fun ad n' c' e => by
  cases e
  rcases o.or with h1 | h1
  · simp at h1
  · exact .inr (.inl h1)
theorem c_AskBack (N : Nat) (h : GH) {x : Ak} {v : Value} (rq : RQ h x v) (hL : x.2.2.length ≤ 140737488351232) {b : Option Addr} {n c : Nat} {l : List UInt8} (r : RB h (.slice b n c) l) (sl : SL h (.slice b n c)) (hl : l.length ≤ 140737488351232) : GTri Try.prog N 5 [v, .slice b n c] h fun v h' => v = .bool true := by
  obtain rfl := r.len_eq
  have rq0 := rq
  obtain ⟨a, c1, b1, d, rfl, ri, rl⟩ := rq
  refine gtri Try.func5 rfl gf5 ok5 (by simp [Try.ntmps5]) ?_
  repeat' (first | (with_reducible first | refine gw_seq ?_ | refine gw_block ?_) | ((first | (with_reducible first | refine gw_region ?_ | refine gw_if ?_ | refine gw_skip ?_ | refine gw_exit ?_ | refine gw_ret ?_) | ((with_reducible first | refine gif_b (fun hb => ?_) (fun hb => ?_) | refine want_t (fun hb => ?_) (fun hb => ?_) | refine want_f (fun hb => ?_) (fun hb => ?_)) <;> (try simp only [hb]) <;> (try simp only [hpr] at hb))) <;> try simp only [List.map, gop, ev, lk, aenv, gyield, gBin, gInt, gStrOp, gUn, gPick, gNil, gExtract, gIfc, gConvK, gIndexO, gIndexVO, gMakeV, gMinV, gMaxV, isInt, gMin, gMax, gBlt, gCallV, gInvoke, gNilM, Array.toList_map, vcells, gField, gIndexV, gPart, reduceIte, Nat.reduceAdd, Nat.reduceSub, Nat.reduceMul, Nat.reduceLT, Nat.reduceLeDiff, Nat.reduceEqDiff, Nat.reduceBEq, Int.reduceLT, Int.reduceLE, Int.reduceGT, Int.reduceGE, Int.reduceEq, Int.reduceNe, Int.reduceAdd, Int.reduceSub, Int.reduceMul, Int.reduceNeg, Int.reduceToNat, Int.reduceBEq, Int.reduceBNe, Int.cast_ofNat_Int, List.getElem?_toArray, stp, Try.underlying120, Try.underlying22, Try.underlying23, Try.underlying3, Try.underlying36, Try.underlying38, Try.underlying4, Try.underlying5, ty22, ty36, ty120, ty38, ty23, ty3, ty4, ty5, rs5, Aq.v]))
  refine box_g rfl fun k1 h1 m1 s1 f1 n1 => ?_
  have c9 : (x.1.cs (.slice a x.2.1.length c1) (.slice b1 x.2.2.length d))[9]? = some (.slice b1 x.2.2.length d) := rfl
  have ga : gLoad Try.prog 38 h1 (.pointer (some ⟨k1, 0, none⟩)) = some (x.1.v (.slice a x.2.1.length c1) (.slice b1 x.2.2.length d)) := gloadA m1 sz38 (Aq.cs_len _ _ _)
  by_cases h60 : x.2.2.length ≤ 60
  case neg =>
    have d1 : decide ((x.2.2.length : Int) > 60) = true := decide_eq_true (by omega)
    (try simp only [List.map, gop, ev, lk, aenv, gyield, gBin, gInt, gStrOp, gUn, gPick, gNil, gExtract, gIfc, gConvK, gIndexO, gIndexVO, gMakeV, gMinV, gMaxV, isInt, gMin, gMax, gBlt, gCallV, gInvoke, gNilM, Array.toList_map, vcells, gField, gIndexV, gPart, reduceIte, Nat.reduceAdd, Nat.reduceSub, Nat.reduceMul, Nat.reduceLT, Nat.reduceLeDiff, Nat.reduceEqDiff, Nat.reduceBEq, Int.reduceLT, Int.reduceLE, Int.reduceGT, Int.reduceGE, Int.reduceEq, Int.reduceNe, Int.reduceAdd, Int.reduceSub, Int.reduceMul, Int.reduceNeg, Int.reduceToNat, Int.reduceBEq, Int.reduceBNe, Int.cast_ofNat_Int, List.getElem?_toArray, stp, Try.underlying120, Try.underlying22, Try.underlying23, Try.underlying3, Try.underlying36, Try.underlying38, Try.underlying4, Try.underlying5, ty22, ty36, ty120, ty38, ty23, ty3, ty4, ty5, rs5, gload1 m1 sz36, c9, d1]); repeat' (first | (with_reducible first | refine gw_seq ?_ | refine gw_block ?_) | ((first | (with_reducible first | refine gw_region ?_ | refine gw_if ?_ | refine gw_skip ?_ | refine gw_exit ?_ | refine gw_ret ?_) | ((with_reducible first | refine gif_b (fun hb => ?_) (fun hb => ?_) | refine want_t (fun hb => ?_) (fun hb => ?_) | refine want_f (fun hb => ?_) (fun hb => ?_)) <;> (try simp only [hb]) <;> (try simp only [hpr] at hb)) | ((refine GTri.mono (c_awake25 _ _) ?_); rintro _ h2 ⟨rfl, s2⟩)) <;> try simp only [List.map, gop, ev, lk, aenv, gyield, gBin, gInt, gStrOp, gUn, gPick, gNil, gExtract, gIfc, gConvK, gIndexO, gIndexVO, gMakeV, gMinV, gMaxV, isInt, gMin, gMax, gBlt, gCallV, gInvoke, gNilM, Array.toList_map, vcells, gField, gIndexV, gPart, reduceIte, Nat.reduceAdd, Nat.reduceSub, Nat.reduceMul, Nat.reduceLT, Nat.reduceLeDiff, Nat.reduceEqDiff, Nat.reduceBEq, Int.reduceLT, Int.reduceLE, Int.reduceGT, Int.reduceGE, Int.reduceEq, Int.reduceNe, Int.reduceAdd, Int.reduceSub, Int.reduceMul, Int.reduceNeg, Int.reduceToNat, Int.reduceBEq, Int.reduceBNe, Int.cast_ofNat_Int, List.getElem?_toArray, stp, Try.underlying120, Try.underlying22, Try.underlying23, Try.underlying3, Try.underlying36, Try.underlying38, Try.underlying4, Try.underlying5, ty22, ty36, ty120, ty38, ty23, ty3, ty4, ty5, rs5, gload1 m1 sz36, c9, d1]))
  have d1 : decide ((x.2.2.length : Int) > 60) = false := decide_eq_false (by omega)
  (try simp only [List.map, gop, ev, lk, aenv, gyield, gBin, gInt, gStrOp, gUn, gPick, gNil, gExtract, gIfc, gConvK, gIndexO, gIndexVO, gMakeV, gMinV, gMaxV, isInt, gMin, gMax, gBlt, gCallV, gInvoke, gNilM, Array.toList_map, vcells, gField, gIndexV, gPart, reduceIte, Nat.reduceAdd, Nat.reduceSub, Nat.reduceMul, Nat.reduceLT, Nat.reduceLeDiff, Nat.reduceEqDiff, Nat.reduceBEq, Int.reduceLT, Int.reduceLE, Int.reduceGT, Int.reduceGE, Int.reduceEq, Int.reduceNe, Int.reduceAdd, Int.reduceSub, Int.reduceMul, Int.reduceNeg, Int.reduceToNat, Int.reduceBEq, Int.reduceBNe, Int.cast_ofNat_Int, List.getElem?_toArray, stp, Try.underlying120, Try.underlying22, Try.underlying23, Try.underlying3, Try.underlying36, Try.underlying38, Try.underlying4, Try.underlying5, ty22, ty36, ty120, ty38, ty23, ty3, ty4, ty5, rs5, gload1 m1 sz36, c9, d1, ga]); repeat' (first | (with_reducible first | refine gw_seq ?_ | refine gw_block ?_) | ((first | (with_reducible first | refine gw_region ?_ | refine gw_if ?_ | refine gw_skip ?_ | refine gw_exit ?_ | refine gw_ret ?_) | ((with_reducible first | refine gif_b (fun hb => ?_) (fun hb => ?_) | refine want_t (fun hb => ?_) (fun hb => ?_) | refine want_f (fun hb => ?_) (fun hb => ?_)) <;> (try simp only [hb]) <;> (try simp only [hpr] at hb))) <;> try simp only [List.map, gop, ev, lk, aenv, gyield, gBin, gInt, gStrOp, gUn, gPick, gNil, gExtract, gIfc, gConvK, gIndexO, gIndexVO, gMakeV, gMinV, gMaxV, isInt, gMin, gMax, gBlt, gCallV, gInvoke, gNilM, Array.toList_map, vcells, gField, gIndexV, gPart, reduceIte, Nat.reduceAdd, Nat.reduceSub, Nat.reduceMul, Nat.reduceLT, Nat.reduceLeDiff, Nat.reduceEqDiff, Nat.reduceBEq, Int.reduceLT, Int.reduceLE, Int.reduceGT, Int.reduceGE, Int.reduceEq, Int.reduceNe, Int.reduceAdd, Int.reduceSub, Int.reduceMul, Int.reduceNeg, Int.reduceToNat, Int.reduceBEq, Int.reduceBNe, Int.cast_ofNat_Int, List.getElem?_toArray, stp, Try.underlying120, Try.underlying22, Try.underlying23, Try.underlying3, Try.underlying36, Try.underlying38, Try.underlying4, Try.underlying5, ty22, ty36, ty120, ty38, ty23, ty3, ty4, ty5, rs5, gload1 m1 sz36, c9, d1, ga]))
  refine (c_Encode N h1 x.1 (ri.hs s1) (rl.bs s1) hL).mono ?_
  rintro _ h2 ⟨s2, a2, c2, rfl, r2, sl2⟩
  have ga2 := gload_hs s2 ga
  have hs2 := s1.trans s2
  have el := enc_len x.1 x.2.1 x.2.2
  have split : (enc x.1 x.2.1 x.2.2).2 = 0 ∨ (enc x.1 x.2.1 x.2.2).2 ≠ 0 := by omega
  rcases split with h0 | h0
  case' inr =>
    have d2 : ((enc x.1 x.2.1 x.2.2).2 == 0) = false := by simpa using h0
    (try simp only [List.map, gop, ev, lk, aenv, gyield, gBin, gInt, gStrOp, gUn, gPick, gNil, gExtract, gIfc, gConvK, gIndexO, gIndexVO, gMakeV, gMinV, gMaxV, isInt, gMin, gMax, gBlt, gCallV, gInvoke, gNilM, Array.toList_map, vcells, gField, gIndexV, gPart, reduceIte, Nat.reduceAdd, Nat.reduceSub, Nat.reduceMul, Nat.reduceLT, Nat.reduceLeDiff, Nat.reduceEqDiff, Nat.reduceBEq, Int.reduceLT, Int.reduceLE, Int.reduceGT, Int.reduceGE, Int.reduceEq, Int.reduceNe, Int.reduceAdd, Int.reduceSub, Int.reduceMul, Int.reduceNeg, Int.reduceToNat, Int.reduceBEq, Int.reduceBNe, Int.cast_ofNat_Int, List.getElem?_toArray, stp, Try.underlying120, Try.underlying22, Try.underlying23, Try.underlying3, Try.underlying36, Try.underlying38, Try.underlying4, Try.underlying5, ty22, ty36, ty120, ty38, ty23, ty3, ty4, ty5, rs5, d2]); repeat' (first | (with_reducible first | refine gw_seq ?_ | refine gw_block ?_) | ((first | (with_reducible first | refine gw_region ?_ | refine gw_if ?_ | refine gw_skip ?_ | refine gw_exit ?_ | refine gw_ret ?_) | ((with_reducible first | refine gif_b (fun hb => ?_) (fun hb => ?_) | refine want_t (fun hb => ?_) (fun hb => ?_) | refine want_f (fun hb => ?_) (fun hb => ?_)) <;> (try simp only [hb]) <;> (try simp only [hpr] at hb))) <;> try simp only [List.map, gop, ev, lk, aenv, gyield, gBin, gInt, gStrOp, gUn, gPick, gNil, gExtract, gIfc, gConvK, gIndexO, gIndexVO, gMakeV, gMinV, gMaxV, isInt, gMin, gMax, gBlt, gCallV, gInvoke, gNilM, Array.toList_map, vcells, gField, gIndexV, gPart, reduceIte, Nat.reduceAdd, Nat.reduceSub, Nat.reduceMul, Nat.reduceLT, Nat.reduceLeDiff, Nat.reduceEqDiff, Nat.reduceBEq, Int.reduceLT, Int.reduceLE, Int.reduceGT, Int.reduceGE, Int.reduceEq, Int.reduceNe, Int.reduceAdd, Int.reduceSub, Int.reduceMul, Int.reduceNeg, Int.reduceToNat, Int.reduceBEq, Int.reduceBNe, Int.cast_ofNat_Int, List.getElem?_toArray, stp, Try.underlying120, Try.underlying22, Try.underlying23, Try.underlying3, Try.underlying36, Try.underlying38, Try.underlying4, Try.underlying5, ty22, ty36, ty120, ty38, ty23, ty3, ty4, ty5, rs5, d2]))
    have hs3 := hs2
  case' inl =>
    have d2 : ((enc x.1 x.2.1 x.2.2).2 == 0) = true := by simpa using h0
    (try simp only [List.map, gop, ev, lk, aenv, gyield, gBin, gInt, gStrOp, gUn, gPick, gNil, gExtract, gIfc, gConvK, gIndexO, gIndexVO, gMakeV, gMinV, gMaxV, isInt, gMin, gMax, gBlt, gCallV, gInvoke, gNilM, Array.toList_map, vcells, gField, gIndexV, gPart, reduceIte, Nat.reduceAdd, Nat.reduceSub, Nat.reduceMul, Nat.reduceLT, Nat.reduceLeDiff, Nat.reduceEqDiff, Nat.reduceBEq, Int.reduceLT, Int.reduceLE, Int.reduceGT, Int.reduceGE, Int.reduceEq, Int.reduceNe, Int.reduceAdd, Int.reduceSub, Int.reduceMul, Int.reduceNeg, Int.reduceToNat, Int.reduceBEq, Int.reduceBNe, Int.cast_ofNat_Int, List.getElem?_toArray, stp, Try.underlying120, Try.underlying22, Try.underlying23, Try.underlying3, Try.underlying36, Try.underlying38, Try.underlying4, Try.underlying5, ty22, ty36, ty120, ty38, ty23, ty3, ty4, ty5, rs5, d2]); repeat' (first | (with_reducible first | refine gw_seq ?_ | refine gw_block ?_) | ((first | (with_reducible first | refine gw_region ?_ | refine gw_if ?_ | refine gw_skip ?_ | refine gw_exit ?_ | refine gw_ret ?_) | ((with_reducible first | refine gif_b (fun hb => ?_) (fun hb => ?_) | refine want_t (fun hb => ?_) (fun hb => ?_) | refine want_f (fun hb => ?_) (fun hb => ?_)) <;> (try simp only [hb]) <;> (try simp only [hpr] at hb))) <;> try simp only [List.map, gop, ev, lk, aenv, gyield, gBin, gInt, gStrOp, gUn, gPick, gNil, gExtract, gIfc, gConvK, gIndexO, gIndexVO, gMakeV, gMinV, gMaxV, isInt, gMin, gMax, gBlt, gCallV, gInvoke, gNilM, Array.toList_map, vcells, gField, gIndexV, gPart, reduceIte, Nat.reduceAdd, Nat.reduceSub, Nat.reduceMul, Nat.reduceLT, Nat.reduceLeDiff, Nat.reduceEqDiff, Nat.reduceBEq, Int.reduceLT, Int.reduceLE, Int.reduceGT, Int.reduceGE, Int.reduceEq, Int.reduceNe, Int.reduceAdd, Int.reduceSub, Int.reduceMul, Int.reduceNeg, Int.reduceToNat, Int.reduceBEq, Int.reduceBNe, Int.cast_ofNat_Int, List.getElem?_toArray, stp, Try.underlying120, Try.underlying22, Try.underlying23, Try.underlying3, Try.underlying36, Try.underlying38, Try.underlying4, Try.underlying5, ty22, ty36, ty120, ty38, ty23, ty3, ty4, ty5, rs5, d2]))
    have hd := dec_enc h0
    refine (c_Decode N h2 r2 sl2 (by omega)).mono ?_
    rintro _ h3 ⟨s3, v3, rfl, r3⟩
    rw [hd] at r3
    simp only [hd]
    (try simp only [List.map, gop, ev, lk, aenv, gyield, gBin, gInt, gStrOp, gUn, gPick, gNil, gExtract, gIfc, gConvK, gIndexO, gIndexVO, gMakeV, gMinV, gMaxV, isInt, gMin, gMax, gBlt, gCallV, gInvoke, gNilM, Array.toList_map, vcells, gField, gIndexV, gPart, reduceIte, Nat.reduceAdd, Nat.reduceSub, Nat.reduceMul, Nat.reduceLT, Nat.reduceLeDiff, Nat.reduceEqDiff, Nat.reduceBEq, Int.reduceLT, Int.reduceLE, Int.reduceGT, Int.reduceGE, Int.reduceEq, Int.reduceNe, Int.reduceAdd, Int.reduceSub, Int.reduceMul, Int.reduceNeg, Int.reduceToNat, Int.reduceBEq, Int.reduceBNe, Int.cast_ofNat_Int, List.getElem?_toArray, stp, Try.underlying120, Try.underlying22, Try.underlying23, Try.underlying3, Try.underlying36, Try.underlying38, Try.underlying4, Try.underlying5, ty22, ty36, ty120, ty38, ty23, ty3, ty4, ty5, rs5]); repeat' (first | (with_reducible first | refine gw_seq ?_ | refine gw_block ?_) | ((first | (with_reducible first | refine gw_region ?_ | refine gw_if ?_ | refine gw_skip ?_ | refine gw_exit ?_ | refine gw_ret ?_) | ((with_reducible first | refine gif_b (fun hb => ?_) (fun hb => ?_) | refine want_t (fun hb => ?_) (fun hb => ?_) | refine want_f (fun hb => ?_) (fun hb => ?_)) <;> (try simp only [hb]) <;> (try simp only [hpr] at hb))) <;> try simp only [List.map, gop, ev, lk, aenv, gyield, gBin, gInt, gStrOp, gUn, gPick, gNil, gExtract, gIfc, gConvK, gIndexO, gIndexVO, gMakeV, gMinV, gMaxV, isInt, gMin, gMax, gBlt, gCallV, gInvoke, gNilM, Array.toList_map, vcells, gField, gIndexV, gPart, reduceIte, Nat.reduceAdd, Nat.reduceSub, Nat.reduceMul, Nat.reduceLT, Nat.reduceLeDiff, Nat.reduceEqDiff, Nat.reduceBEq, Int.reduceLT, Int.reduceLE, Int.reduceGT, Int.reduceGE, Int.reduceEq, Int.reduceNe, Int.reduceAdd, Int.reduceSub, Int.reduceMul, Int.reduceNeg, Int.reduceToNat, Int.reduceBEq, Int.reduceBNe, Int.cast_ofNat_Int, List.getElem?_toArray, stp, Try.underlying120, Try.underlying22, Try.underlying23, Try.underlying3, Try.underlying36, Try.underlying38, Try.underlying4, Try.underlying5, ty22, ty36, ty120, ty38, ty23, ty3, ty4, ty5, rs5]))
    refine new_g fun k4 h4 m4 s4 f4 n4 => ?_
    obtain ⟨a3, c3, b3, d3, rfl, q3, q3'⟩ := id r3
    (try simp only [List.map, gop, ev, lk, aenv, gyield, gBin, gInt, gStrOp, gUn, gPick, gNil, gExtract, gIfc, gConvK, gIndexO, gIndexVO, gMakeV, gMinV, gMaxV, isInt, gMin, gMax, gBlt, gCallV, gInvoke, gNilM, Array.toList_map, vcells, gField, gIndexV, gPart, reduceIte, Nat.reduceAdd, Nat.reduceSub, Nat.reduceMul, Nat.reduceLT, Nat.reduceLeDiff, Nat.reduceEqDiff, Nat.reduceBEq, Int.reduceLT, Int.reduceLE, Int.reduceGT, Int.reduceGE, Int.reduceEq, Int.reduceNe, Int.reduceAdd, Int.reduceSub, Int.reduceMul, Int.reduceNeg, Int.reduceToNat, Int.reduceBEq, Int.reduceBNe, Int.cast_ofNat_Int, List.getElem?_toArray, stp, Try.underlying120, Try.underlying22, Try.underlying23, Try.underlying3, Try.underlying36, Try.underlying38, Try.underlying4, Try.underlying5, ty22, ty36, ty120, ty38, ty23, ty3, ty4, ty5, rs5, Aq.v]); repeat' (first | (with_reducible first | refine gw_seq ?_ | refine gw_block ?_) | ((first | (with_reducible first | refine gw_region ?_ | refine gw_if ?_ | refine gw_skip ?_ | refine gw_exit ?_ | refine gw_ret ?_) | ((with_reducible first | refine gif_b (fun hb => ?_) (fun hb => ?_) | refine want_t (fun hb => ?_) (fun hb => ?_) | refine want_f (fun hb => ?_) (fun hb => ?_)) <;> (try simp only [hb]) <;> (try simp only [hpr] at hb))) <;> try simp only [List.map, gop, ev, lk, aenv, gyield, gBin, gInt, gStrOp, gUn, gPick, gNil, gExtract, gIfc, gConvK, gIndexO, gIndexVO, gMakeV, gMinV, gMaxV, isInt, gMin, gMax, gBlt, gCallV, gInvoke, gNilM, Array.toList_map, vcells, gField, gIndexV, gPart, reduceIte, Nat.reduceAdd, Nat.reduceSub, Nat.reduceMul, Nat.reduceLT, Nat.reduceLeDiff, Nat.reduceEqDiff, Nat.reduceBEq, Int.reduceLT, Int.reduceLE, Int.reduceGT, Int.reduceGE, Int.reduceEq, Int.reduceNe, Int.reduceAdd, Int.reduceSub, Int.reduceMul, Int.reduceNeg, Int.reduceToNat, Int.reduceBEq, Int.reduceBNe, Int.cast_ofNat_Int, List.getElem?_toArray, stp, Try.underlying120, Try.underlying22, Try.underlying23, Try.underlying3, Try.underlying36, Try.underlying38, Try.underlying4, Try.underlying5, ty22, ty36, ty120, ty38, ty23, ty3, ty4, ty5, rs5, Aq.v]))
    refine st_agg m4 sz38 rfl (by decide) (Aq.cs_len _ _ _) rfl rfl fun h5 m5 f5 => ?_
    have s5 : HS h3 h5 := (HS.refl _).upd n4 fun j hj => (f5 j hj).trans (f4 j hj)
    have g1 : gLoad Try.prog 38 h5 (.pointer (some ⟨k4, 0, none⟩)) = some (x.1.v (.slice a3 x.2.1.length c3) (.slice b3 x.2.2.length d3)) := gloadA m5 sz38 (Aq.cs_len _ _ _)
    have g2 := gload_hs (s3.trans s5) ga2
    (try simp only [List.map, gop, ev, lk, aenv, gyield, gBin, gInt, gStrOp, gUn, gPick, gNil, gExtract, gIfc, gConvK, gIndexO, gIndexVO, gMakeV, gMinV, gMaxV, isInt, gMin, gMax, gBlt, gCallV, gInvoke, gNilM, Array.toList_map, vcells, gField, gIndexV, gPart, reduceIte, Nat.reduceAdd, Nat.reduceSub, Nat.reduceMul, Nat.reduceLT, Nat.reduceLeDiff, Nat.reduceEqDiff, Nat.reduceBEq, Int.reduceLT, Int.reduceLE, Int.reduceGT, Int.reduceGE, Int.reduceEq, Int.reduceNe, Int.reduceAdd, Int.reduceSub, Int.reduceMul, Int.reduceNeg, Int.reduceToNat, Int.reduceBEq, Int.reduceBNe, Int.cast_ofNat_Int, List.getElem?_toArray, stp, Try.underlying120, Try.underlying22, Try.underlying23, Try.underlying3, Try.underlying36, Try.underlying38, Try.underlying4, Try.underlying5, ty22, ty36, ty120, ty38, ty23, ty3, ty4, ty5, rs5, bne_self_eq_false, g1, g2, gPick, gUn]); repeat' (first | (with_reducible first | refine gw_seq ?_ | refine gw_block ?_) | ((first | (with_reducible first | refine gw_region ?_ | refine gw_if ?_ | refine gw_skip ?_ | refine gw_exit ?_ | refine gw_ret ?_) | ((with_reducible first | refine gif_b (fun hb => ?_) (fun hb => ?_) | refine want_t (fun hb => ?_) (fun hb => ?_) | refine want_f (fun hb => ?_) (fun hb => ?_)) <;> (try simp only [hb]) <;> (try simp only [hpr] at hb))) <;> try simp only [List.map, gop, ev, lk, aenv, gyield, gBin, gInt, gStrOp, gUn, gPick, gNil, gExtract, gIfc, gConvK, gIndexO, gIndexVO, gMakeV, gMinV, gMaxV, isInt, gMin, gMax, gBlt, gCallV, gInvoke, gNilM, Array.toList_map, vcells, gField, gIndexV, gPart, reduceIte, Nat.reduceAdd, Nat.reduceSub, Nat.reduceMul, Nat.reduceLT, Nat.reduceLeDiff, Nat.reduceEqDiff, Nat.reduceBEq, Int.reduceLT, Int.reduceLE, Int.reduceGT, Int.reduceGE, Int.reduceEq, Int.reduceNe, Int.reduceAdd, Int.reduceSub, Int.reduceMul, Int.reduceNeg, Int.reduceToNat, Int.reduceBEq, Int.reduceBNe, Int.cast_ofNat_Int, List.getElem?_toArray, stp, Try.underlying120, Try.underlying22, Try.underlying23, Try.underlying3, Try.underlying36, Try.underlying38, Try.underlying4, Try.underlying5, ty22, ty36, ty120, ty38, ty23, ty3, ty4, ty5, rs5, bne_self_eq_false, g1, g2, gPick, gUn]))
    refine (c_SameRQ N h5 (r3.hs s5) ((rq0.hs hs2).hs (s3.trans s5)) hL).mono ?_
    rintro _ h6 ⟨⟨y, rfl, hy⟩, s6⟩
    obtain rfl : y = true := hy.2 rfl
    (try simp only [List.map, gop, ev, lk, aenv, gyield, gBin, gInt, gStrOp, gUn, gPick, gNil, gExtract, gIfc, gConvK, gIndexO, gIndexVO, gMakeV, gMinV, gMaxV, isInt, gMin, gMax, gBlt, gCallV, gInvoke, gNilM, Array.toList_map, vcells, gField, gIndexV, gPart, reduceIte, Nat.reduceAdd, Nat.reduceSub, Nat.reduceMul, Nat.reduceLT, Nat.reduceLeDiff, Nat.reduceEqDiff, Nat.reduceBEq, Int.reduceLT, Int.reduceLE, Int.reduceGT, Int.reduceGE, Int.reduceEq, Int.reduceNe, Int.reduceAdd, Int.reduceSub, Int.reduceMul, Int.reduceNeg, Int.reduceToNat, Int.reduceBEq, Int.reduceBNe, Int.cast_ofNat_Int, List.getElem?_toArray, stp, Try.underlying120, Try.underlying22, Try.underlying23, Try.underlying3, Try.underlying36, Try.underlying38, Try.underlying4, Try.underlying5, ty22, ty36, ty120, ty38, ty23, ty3, ty4, ty5, rs5, bne_self_eq_false, g1, g2, gPick, gUn]); repeat' (first | (with_reducible first | refine gw_seq ?_ | refine gw_block ?_) | ((first | (with_reducible first | refine gw_region ?_ | refine gw_if ?_ | refine gw_skip ?_ | refine gw_exit ?_ | refine gw_ret ?_) | ((with_reducible first | refine gif_b (fun hb => ?_) (fun hb => ?_) | refine want_t (fun hb => ?_) (fun hb => ?_) | refine want_f (fun hb => ?_) (fun hb => ?_)) <;> (try simp only [hb]) <;> (try simp only [hpr] at hb))) <;> try simp only [List.map, gop, ev, lk, aenv, gyield, gBin, gInt, gStrOp, gUn, gPick, gNil, gExtract, gIfc, gConvK, gIndexO, gIndexVO, gMakeV, gMinV, gMaxV, isInt, gMin, gMax, gBlt, gCallV, gInvoke, gNilM, Array.toList_map, vcells, gField, gIndexV, gPart, reduceIte, Nat.reduceAdd, Nat.reduceSub, Nat.reduceMul, Nat.reduceLT, Nat.reduceLeDiff, Nat.reduceEqDiff, Nat.reduceBEq, Int.reduceLT, Int.reduceLE, Int.reduceGT, Int.reduceGE, Int.reduceEq, Int.reduceNe, Int.reduceAdd, Int.reduceSub, Int.reduceMul, Int.reduceNeg, Int.reduceToNat, Int.reduceBEq, Int.reduceBNe, Int.cast_ofNat_Int, List.getElem?_toArray, stp, Try.underlying120, Try.underlying22, Try.underlying23, Try.underlying3, Try.underlying36, Try.underlying38, Try.underlying4, Try.underlying5, ty22, ty36, ty120, ty38, ty23, ty3, ty4, ty5, rs5, bne_self_eq_false, g1, g2, gPick, gUn]))
    have hs3 := hs2.trans ((s3.trans s5).trans s6)
  all_goals
    refine (c_Decode N _ (r.hs hs3) (sl.hs hs3) hl).mono ?_
    rintro _ h7 ⟨s7, v7, rfl, r7⟩
    (try simp only [List.map, gop, ev, lk, aenv, gyield, gBin, gInt, gStrOp, gUn, gPick, gNil, gExtract, gIfc, gConvK, gIndexO, gIndexVO, gMakeV, gMinV, gMaxV, isInt, gMin, gMax, gBlt, gCallV, gInvoke, gNilM, Array.toList_map, vcells, gField, gIndexV, gPart, reduceIte, Nat.reduceAdd, Nat.reduceSub, Nat.reduceMul, Nat.reduceLT, Nat.reduceLeDiff, Nat.reduceEqDiff, Nat.reduceBEq, Int.reduceLT, Int.reduceLE, Int.reduceGT, Int.reduceGE, Int.reduceEq, Int.reduceNe, Int.reduceAdd, Int.reduceSub, Int.reduceMul, Int.reduceNeg, Int.reduceToNat, Int.reduceBEq, Int.reduceBNe, Int.cast_ofNat_Int, List.getElem?_toArray, stp, Try.underlying120, Try.underlying22, Try.underlying23, Try.underlying3, Try.underlying36, Try.underlying38, Try.underlying4, Try.underlying5, ty22, ty36, ty120, ty38, ty23, ty3, ty4, ty5, rs5]); repeat' (first | (with_reducible first | refine gw_seq ?_ | refine gw_block ?_) | ((first | (with_reducible first | refine gw_region ?_ | refine gw_if ?_ | refine gw_skip ?_ | refine gw_exit ?_ | refine gw_ret ?_) | ((with_reducible first | refine gif_b (fun hb => ?_) (fun hb => ?_) | refine want_t (fun hb => ?_) (fun hb => ?_) | refine want_f (fun hb => ?_) (fun hb => ?_)) <;> (try simp only [hb]) <;> (try simp only [hpr] at hb))) <;> try simp only [List.map, gop, ev, lk, aenv, gyield, gBin, gInt, gStrOp, gUn, gPick, gNil, gExtract, gIfc, gConvK, gIndexO, gIndexVO, gMakeV, gMinV, gMaxV, isInt, gMin, gMax, gBlt, gCallV, gInvoke, gNilM, Array.toList_map, vcells, gField, gIndexV, gPart, reduceIte, Nat.reduceAdd, Nat.reduceSub, Nat.reduceMul, Nat.reduceLT, Nat.reduceLeDiff, Nat.reduceEqDiff, Nat.reduceBEq, Int.reduceLT, Int.reduceLE, Int.reduceGT, Int.reduceGE, Int.reduceEq, Int.reduceNe, Int.reduceAdd, Int.reduceSub, Int.reduceMul, Int.reduceNeg, Int.reduceToNat, Int.reduceBEq, Int.reduceBNe, Int.cast_ofNat_Int, List.getElem?_toArray, stp, Try.underlying120, Try.underlying22, Try.underlying23, Try.underlying3, Try.underlying36, Try.underlying38, Try.underlying4, Try.underlying5, ty22, ty36, ty120, ty38, ty23, ty3, ty4, ty5, rs5]))
    refine new_g fun k8 h8 m8 s8 f8 n8 => ?_
    obtain ⟨a7, c7, b7, d7, rfl, q7, q7'⟩ := id r7
    (try simp only [List.map, gop, ev, lk, aenv, gyield, gBin, gInt, gStrOp, gUn, gPick, gNil, gExtract, gIfc, gConvK, gIndexO, gIndexVO, gMakeV, gMinV, gMaxV, isInt, gMin, gMax, gBlt, gCallV, gInvoke, gNilM, Array.toList_map, vcells, gField, gIndexV, gPart, reduceIte, Nat.reduceAdd, Nat.reduceSub, Nat.reduceMul, Nat.reduceLT, Nat.reduceLeDiff, Nat.reduceEqDiff, Nat.reduceBEq, Int.reduceLT, Int.reduceLE, Int.reduceGT, Int.reduceGE, Int.reduceEq, Int.reduceNe, Int.reduceAdd, Int.reduceSub, Int.reduceMul, Int.reduceNeg, Int.reduceToNat, Int.reduceBEq, Int.reduceBNe, Int.cast_ofNat_Int, List.getElem?_toArray, stp, Try.underlying120, Try.underlying22, Try.underlying23, Try.underlying3, Try.underlying36, Try.underlying38, Try.underlying4, Try.underlying5, ty22, ty36, ty120, ty38, ty23, ty3, ty4, ty5, rs5, Aq.v]); repeat' (first | (with_reducible first | refine gw_seq ?_ | refine gw_block ?_) | ((first | (with_reducible first | refine gw_region ?_ | refine gw_if ?_ | refine gw_skip ?_ | refine gw_exit ?_ | refine gw_ret ?_) | ((with_reducible first | refine gif_b (fun hb => ?_) (fun hb => ?_) | refine want_t (fun hb => ?_) (fun hb => ?_) | refine want_f (fun hb => ?_) (fun hb => ?_)) <;> (try simp only [hb]) <;> (try simp only [hpr] at hb))) <;> try simp only [List.map, gop, ev, lk, aenv, gyield, gBin, gInt, gStrOp, gUn, gPick, gNil, gExtract, gIfc, gConvK, gIndexO, gIndexVO, gMakeV, gMinV, gMaxV, isInt, gMin, gMax, gBlt, gCallV, gInvoke, gNilM, Array.toList_map, vcells, gField, gIndexV, gPart, reduceIte, Nat.reduceAdd, Nat.reduceSub, Nat.reduceMul, Nat.reduceLT, Nat.reduceLeDiff, Nat.reduceEqDiff, Nat.reduceBEq, Int.reduceLT, Int.reduceLE, Int.reduceGT, Int.reduceGE, Int.reduceEq, Int.reduceNe, Int.reduceAdd, Int.reduceSub, Int.reduceMul, Int.reduceNeg, Int.reduceToNat, Int.reduceBEq, Int.reduceBNe, Int.cast_ofNat_Int, List.getElem?_toArray, stp, Try.underlying120, Try.underlying22, Try.underlying23, Try.underlying3, Try.underlying36, Try.underlying38, Try.underlying4, Try.underlying5, ty22, ty36, ty120, ty38, ty23, ty3, ty4, ty5, rs5, Aq.v]))
    refine st_agg m8 sz38 rfl (by decide) (Aq.cs_len _ _ _) rfl rfl fun h9 m9 f9 => ?_
    have s9 : HS h7 h9 := (HS.refl _).upd n8 fun j hj => (f9 j hj).trans (f8 j hj)
    have g7 : gLoad Try.prog 38 h9 (.pointer (some ⟨k8, 0, none⟩)) = some ((dec l).1.1.v (.slice a7 (dec l).1.2.1.length c7) (.slice b7 (dec l).1.2.2.length d7)) := gloadA m9 sz38 (Aq.cs_len _ _ _)
    by_cases h10 : (dec l).2 = 0
    case neg =>
      have d10 : ((dec l).2 == 0) = false := by simpa using h10
      (try simp only [List.map, gop, ev, lk, aenv, gyield, gBin, gInt, gStrOp, gUn, gPick, gNil, gExtract, gIfc, gConvK, gIndexO, gIndexVO, gMakeV, gMinV, gMaxV, isInt, gMin, gMax, gBlt, gCallV, gInvoke, gNilM, Array.toList_map, vcells, gField, gIndexV, gPart, reduceIte, Nat.reduceAdd, Nat.reduceSub, Nat.reduceMul, Nat.reduceLT, Nat.reduceLeDiff, Nat.reduceEqDiff, Nat.reduceBEq, Int.reduceLT, Int.reduceLE, Int.reduceGT, Int.reduceGE, Int.reduceEq, Int.reduceNe, Int.reduceAdd, Int.reduceSub, Int.reduceMul, Int.reduceNeg, Int.reduceToNat, Int.reduceBEq, Int.reduceBNe, Int.cast_ofNat_Int, List.getElem?_toArray, stp, Try.underlying120, Try.underlying22, Try.underlying23, Try.underlying3, Try.underlying36, Try.underlying38, Try.underlying4, Try.underlying5, ty22, ty36, ty120, ty38, ty23, ty3, ty4, ty5, rs5, d10]); repeat' (first | (with_reducible first | refine gw_seq ?_ | refine gw_block ?_) | ((first | (with_reducible first | refine gw_region ?_ | refine gw_if ?_ | refine gw_skip ?_ | refine gw_exit ?_ | refine gw_ret ?_) | ((with_reducible first | refine gif_b (fun hb => ?_) (fun hb => ?_) | refine want_t (fun hb => ?_) (fun hb => ?_) | refine want_f (fun hb => ?_) (fun hb => ?_)) <;> (try simp only [hb]) <;> (try simp only [hpr] at hb)) | ((refine GTri.mono (c_awake25 _ _) ?_); rintro _ h12 ⟨rfl, s12⟩)) <;> try simp only [List.map, gop, ev, lk, aenv, gyield, gBin, gInt, gStrOp, gUn, gPick, gNil, gExtract, gIfc, gConvK, gIndexO, gIndexVO, gMakeV, gMinV, gMaxV, isInt, gMin, gMax, gBlt, gCallV, gInvoke, gNilM, Array.toList_map, vcells, gField, gIndexV, gPart, reduceIte, Nat.reduceAdd, Nat.reduceSub, Nat.reduceMul, Nat.reduceLT, Nat.reduceLeDiff, Nat.reduceEqDiff, Nat.reduceBEq, Int.reduceLT, Int.reduceLE, Int.reduceGT, Int.reduceGE, Int.reduceEq, Int.reduceNe, Int.reduceAdd, Int.reduceSub, Int.reduceMul, Int.reduceNeg, Int.reduceToNat, Int.reduceBEq, Int.reduceBNe, Int.cast_ofNat_Int, List.getElem?_toArray, stp, Try.underlying120, Try.underlying22, Try.underlying23, Try.underlying3, Try.underlying36, Try.underlying38, Try.underlying4, Try.underlying5, ty22, ty36, ty120, ty38, ty23, ty3, ty4, ty5, rs5, d10]))
    have d10 : ((dec l).2 == 0) = true := by simpa using h10
    (try simp only [List.map, gop, ev, lk, aenv, gyield, gBin, gInt, gStrOp, gUn, gPick, gNil, gExtract, gIfc, gConvK, gIndexO, gIndexVO, gMakeV, gMinV, gMaxV, isInt, gMin, gMax, gBlt, gCallV, gInvoke, gNilM, Array.toList_map, vcells, gField, gIndexV, gPart, reduceIte, Nat.reduceAdd, Nat.reduceSub, Nat.reduceMul, Nat.reduceLT, Nat.reduceLeDiff, Nat.reduceEqDiff, Nat.reduceBEq, Int.reduceLT, Int.reduceLE, Int.reduceGT, Int.reduceGE, Int.reduceEq, Int.reduceNe, Int.reduceAdd, Int.reduceSub, Int.reduceMul, Int.reduceNeg, Int.reduceToNat, Int.reduceBEq, Int.reduceBNe, Int.cast_ofNat_Int, List.getElem?_toArray, stp, Try.underlying120, Try.underlying22, Try.underlying23, Try.underlying3, Try.underlying36, Try.underlying38, Try.underlying4, Try.underlying5, ty22, ty36, ty120, ty38, ty23, ty3, ty4, ty5, rs5, d10, g7]); repeat' (first | (with_reducible first | refine gw_seq ?_ | refine gw_block ?_) | ((first | (with_reducible first | refine gw_region ?_ | refine gw_if ?_ | refine gw_skip ?_ | refine gw_exit ?_ | refine gw_ret ?_) | ((with_reducible first | refine gif_b (fun hb => ?_) (fun hb => ?_) | refine want_t (fun hb => ?_) (fun hb => ?_) | refine want_f (fun hb => ?_) (fun hb => ?_)) <;> (try simp only [hb]) <;> (try simp only [hpr] at hb))) <;> try simp only [List.map, gop, ev, lk, aenv, gyield, gBin, gInt, gStrOp, gUn, gPick, gNil, gExtract, gIfc, gConvK, gIndexO, gIndexVO, gMakeV, gMinV, gMaxV, isInt, gMin, gMax, gBlt, gCallV, gInvoke, gNilM, Array.toList_map, vcells, gField, gIndexV, gPart, reduceIte, Nat.reduceAdd, Nat.reduceSub, Nat.reduceMul, Nat.reduceLT, Nat.reduceLeDiff, Nat.reduceEqDiff, Nat.reduceBEq, Int.reduceLT, Int.reduceLE, Int.reduceGT, Int.reduceGE, Int.reduceEq, Int.reduceNe, Int.reduceAdd, Int.reduceSub, Int.reduceMul, Int.reduceNeg, Int.reduceToNat, Int.reduceBEq, Int.reduceBNe, Int.cast_ofNat_Int, List.getElem?_toArray, stp, Try.underlying120, Try.underlying22, Try.underlying23, Try.underlying3, Try.underlying36, Try.underlying38, Try.underlying4, Try.underlying5, ty22, ty36, ty120, ty38, ty23, ty3, ty4, ty5, rs5, d10, g7]))
    refine (c_Encode N h9 (dec l).1.1 (q7.hs s9) (q7'.bs s9) (by have := dec_len l; omega)).mono ?_
    rintro _ h11 ⟨s11, a11, c11, rfl, r11, _⟩
    have he := enc_dec h10
    rw [he] at r11
    simp only [he]
    (try simp only [List.map, gop, ev, lk, aenv, gyield, gBin, gInt, gStrOp, gUn, gPick, gNil, gExtract, gIfc, gConvK, gIndexO, gIndexVO, gMakeV, gMinV, gMaxV, isInt, gMin, gMax, gBlt, gCallV, gInvoke, gNilM, Array.toList_map, vcells, gField, gIndexV, gPart, reduceIte, Nat.reduceAdd, Nat.reduceSub, Nat.reduceMul, Nat.reduceLT, Nat.reduceLeDiff, Nat.reduceEqDiff, Nat.reduceBEq, Int.reduceLT, Int.reduceLE, Int.reduceGT, Int.reduceGE, Int.reduceEq, Int.reduceNe, Int.reduceAdd, Int.reduceSub, Int.reduceMul, Int.reduceNeg, Int.reduceToNat, Int.reduceBEq, Int.reduceBNe, Int.cast_ofNat_Int, List.getElem?_toArray, stp, Try.underlying120, Try.underlying22, Try.underlying23, Try.underlying3, Try.underlying36, Try.underlying38, Try.underlying4, Try.underlying5, ty22, ty36, ty120, ty38, ty23, ty3, ty4, ty5, rs5, bne_self_eq_false, beq_self_eq_true, gPick, gUn]); repeat' (first | (with_reducible first | refine gw_seq ?_ | refine gw_block ?_) | ((first | (with_reducible first | refine gw_region ?_ | refine gw_if ?_ | refine gw_skip ?_ | refine gw_exit ?_ | refine gw_ret ?_) | ((with_reducible first | refine gif_b (fun hb => ?_) (fun hb => ?_) | refine want_t (fun hb => ?_) (fun hb => ?_) | refine want_f (fun hb => ?_) (fun hb => ?_)) <;> (try simp only [hb]) <;> (try simp only [hpr] at hb)) | ((refine GTri.mono (c_Equal _ _ r11 (r.hs ((hs3.trans (s7.trans s9)).trans s11))) ?_); rintro _ _ ⟨rfl, hh9⟩; replace hh9 := hh9.symm; subst hh9) | ((refine GTri.mono (c_awake25 _ _) ?_); rintro _ h12 ⟨rfl, s12⟩)) <;> try simp only [List.map, gop, ev, lk, aenv, gyield, gBin, gInt, gStrOp, gUn, gPick, gNil, gExtract, gIfc, gConvK, gIndexO, gIndexVO, gMakeV, gMinV, gMaxV, isInt, gMin, gMax, gBlt, gCallV, gInvoke, gNilM, Array.toList_map, vcells, gField, gIndexV, gPart, reduceIte, Nat.reduceAdd, Nat.reduceSub, Nat.reduceMul, Nat.reduceLT, Nat.reduceLeDiff, Nat.reduceEqDiff, Nat.reduceBEq, Int.reduceLT, Int.reduceLE, Int.reduceGT, Int.reduceGE, Int.reduceEq, Int.reduceNe, Int.reduceAdd, Int.reduceSub, Int.reduceMul, Int.reduceNeg, Int.reduceToNat, Int.reduceBEq, Int.reduceBNe, Int.cast_ofNat_Int, List.getElem?_toArray, stp, Try.underlying120, Try.underlying22, Try.underlying23, Try.underlying3, Try.underlying36, Try.underlying38, Try.underlying4, Try.underlying5, ty22, ty36, ty120, ty38, ty23, ty3, ty4, ty5, rs5, bne_self_eq_false, beq_self_eq_true, gPick, gUn]))
end Go.Gh

