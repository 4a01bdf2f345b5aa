/- Contracts of the keys' bits and their order. -/
import Derived.Test.YtejjnmnljbehiaaBits2
namespace Go.Gh
open Go Go.Proofs Go.RowKit
set_option linter.unusedVariables false
set_option linter.unusedSimpArgs false
set_option maxRecDepth 100000

def gkey (l : List UInt8) : List UInt8 := UInt8.ofNat (min l.length 255) :: l.take 255

theorem gkey_eq (l : List UInt8) : [UInt8.ofNat (min l.length 255)] ++ l.take (min l.length 255) = gkey l := by
  have : l.take (min l.length 255) = l.take 255 := by
    rw [List.take_eq_take_iff]; omega
  rw [this]; rfl
theorem gkey_len (l : List UInt8) : (gkey l).length = min l.length 255 + 1 := by simp [gkey]; omega

theorem c_Key (N : Nat) (h : GH) {a : Option Addr} {n c : Nat} {l : List UInt8} (r : RB h (.slice a n c) l) (hn : n = l.length) : GTri Try.prog N 23 [.slice a n c] h fun v h' => HS h h' ∧ ∃ a' c', v = .slice a' (gkey l).length c' ∧ RB h' v (gkey l) ∧ AP h h' v 1 := by
  subst hn
  refine gtri Try.func23 rfl gf23 ok23 (by simp [Try.ntmps23]) ?_
  have mn : (if (255 : Int) < (l.length : Int) then (255 : Int) else (l.length : Int)) = ((min l.length 255 : Nat) : Int) := min_if _ 255
  obtain ⟨a1, c1, q1, r1, _⟩ := r.cut Try.underlying29 sz5 (hi := ((min l.length 255 : Nat) : Int)) (by omega) (by omega) .i64
  rw [Int.toNat_natCast] at q1 r1
  have w1 : IntKind.u8.wrap ((min l.length 255 : Nat) : Int) = ((min l.length 255 : Nat) : Int) := wrapu8 (by omega) (by omega)
  repeat' (first | (with_reducible first | refine gw_seq ?_ | refine gw_block ?_) | ((first | (with_reducible first | refine gw_region ?_ | refine gw_if ?_ | refine gw_skip ?_ | refine gw_exit ?_ | refine gw_ret ?_) | ((with_reducible first | refine gif_b (fun hb => ?_) (fun hb => ?_) | refine want_t (fun hb => ?_) (fun hb => ?_) | refine want_f (fun hb => ?_) (fun hb => ?_)) <;> (try simp only [hb]))) <;> try simp only [List.map, gop, ev, lk, aenv, gyield, gBin, gInt, gStrOp, gUn, gPick, gNil, gExtract, gIfc, gConvK, gIndexO, gIndexVO, gMakeV, gMinV, gMaxV, isInt, gMin, gMax, gBlt, gCallV, vcells, gField, gIndexV, gPart, reduceIte, Nat.reduceAdd, Nat.reduceSub, Nat.reduceMul, Nat.reduceLT, Nat.reduceLeDiff, Nat.reduceEqDiff, Nat.reduceBEq, Int.reduceLT, Int.reduceLE, Int.reduceGT, Int.reduceGE, Int.reduceEq, Int.reduceNe, Int.reduceAdd, Int.reduceSub, Int.reduceMul, Int.reduceNeg, Int.reduceToNat, Int.reduceBEq, Int.reduceBNe, Int.cast_ofNat_Int, List.getElem?_toArray, stp, Try.underlying29, Try.underlying3, Try.underlying5, Try.underlying83, cv3_5, el29, el83, ni29, ni3, ni5, ni83, sz29, sz3, sz5, sz83, zr29, zr3, zr5, zr83, rs23, mn, q1, w1]))
  refine bs_g (cs := [.int .u8 ((min l.length 255 : Nat) : Int)]) el29 rfl (by decide) (by decide) (by rw [zeros_one _ rfl]; rfl) rfl fun k1 h1 m1 s1 f1 n1 => ?_
  simp only [List.map, gop, ev, lk, aenv, gyield, gBin, gInt, gStrOp, gUn, gPick, gNil, gExtract, gIfc, gConvK, gIndexO, gIndexVO, gMakeV, gMinV, gMaxV, isInt, gMin, gMax, gBlt, gCallV, vcells, gField, gIndexV, gPart, reduceIte, Nat.reduceAdd, Nat.reduceSub, Nat.reduceMul, Nat.reduceLT, Nat.reduceLeDiff, Nat.reduceEqDiff, Nat.reduceBEq, Int.reduceLT, Int.reduceLE, Int.reduceGT, Int.reduceGE, Int.reduceEq, Int.reduceNe, Int.reduceAdd, Int.reduceSub, Int.reduceMul, Int.reduceNeg, Int.reduceToNat, Int.reduceBEq, Int.reduceBNe, Int.cast_ofNat_Int, List.getElem?_toArray, stp, Try.underlying29, Try.underlying3, Try.underlying5, Try.underlying83, cv3_5, el29, el83, ni29, ni3, ni5, ni83, sz29, sz3, sz5, sz83, zr29, zr3, zr5, zr83, rs23]
  refine bs_g (cs := [.slice (some ⟨k1, 0, none⟩) 1 3, .slice a1 (min l.length 255) c1]) el83 rfl (by decide) (by decide) (by rw [zeros_one _ rfl]; rfl) rfl fun k2 h2 m2 s2 f2 n2 => ?_
  simp only [List.map, gop, ev, lk, aenv, gyield, gBin, gInt, gStrOp, gUn, gPick, gNil, gExtract, gIfc, gConvK, gIndexO, gIndexVO, gMakeV, gMinV, gMaxV, isInt, gMin, gMax, gBlt, gCallV, vcells, gField, gIndexV, gPart, reduceIte, Nat.reduceAdd, Nat.reduceSub, Nat.reduceMul, Nat.reduceLT, Nat.reduceLeDiff, Nat.reduceEqDiff, Nat.reduceBEq, Int.reduceLT, Int.reduceLE, Int.reduceGT, Int.reduceGE, Int.reduceEq, Int.reduceNe, Int.reduceAdd, Int.reduceSub, Int.reduceMul, Int.reduceNeg, Int.reduceToNat, Int.reduceBEq, Int.reduceBNe, Int.cast_ofNat_Int, List.getElem?_toArray, stp, Try.underlying29, Try.underlying3, Try.underlying5, Try.underlying83, cv3_5, el29, el83, ni29, ni3, ni5, ni83, sz29, sz3, sz5, sz83, zr29, zr3, zr5, zr83, rs23]
  have b1 : RB h1 (.slice (some ⟨k1, 0, none⟩) 1 3) [UInt8.ofNat (min l.length 255)] := by
    rw [bv_nat _ (by omega)] at m1
    exact rb_block (l := [UInt8.ofNat (min l.length 255)]) m1 rfl
  refine (c_Concat2 N h2 m2 (b1.hs s2) (r1.hs (s1.trans s2)) rfl (by simp) (by simp; omega)).mono ?_
  rintro v h3 ⟨s3, a', c', rfl, hr, ha⟩
  simp only [List.map, gop, ev, lk, aenv, gyield, gBin, gInt, gStrOp, gUn, gPick, gNil, gExtract, gIfc, gConvK, gIndexO, gIndexVO, gMakeV, gMinV, gMaxV, isInt, gMin, gMax, gBlt, gCallV, vcells, gField, gIndexV, gPart, reduceIte, Nat.reduceAdd, Nat.reduceSub, Nat.reduceMul, Nat.reduceLT, Nat.reduceLeDiff, Nat.reduceEqDiff, Nat.reduceBEq, Int.reduceLT, Int.reduceLE, Int.reduceGT, Int.reduceGE, Int.reduceEq, Int.reduceNe, Int.reduceAdd, Int.reduceSub, Int.reduceMul, Int.reduceNeg, Int.reduceToNat, Int.reduceBEq, Int.reduceBNe, Int.cast_ofNat_Int, List.getElem?_toArray, stp, Try.underlying29, Try.underlying3, Try.underlying5, Try.underlying83, cv3_5, el29, el83, ni29, ni3, ni5, ni83, sz29, sz3, sz5, sz83, zr29, zr3, zr5, zr83, rs23]
  repeat' (first | (with_reducible first | refine gw_seq ?_ | refine gw_block ?_) | ((first | (with_reducible first | refine gw_region ?_ | refine gw_if ?_ | refine gw_skip ?_ | refine gw_exit ?_ | refine gw_ret ?_) | ((with_reducible first | refine gif_b (fun hb => ?_) (fun hb => ?_) | refine want_t (fun hb => ?_) (fun hb => ?_) | refine want_f (fun hb => ?_) (fun hb => ?_)) <;> (try simp only [hb]))) <;> try simp only [List.map, gop, ev, lk, aenv, gyield, gBin, gInt, gStrOp, gUn, gPick, gNil, gExtract, gIfc, gConvK, gIndexO, gIndexVO, gMakeV, gMinV, gMaxV, isInt, gMin, gMax, gBlt, gCallV, vcells, gField, gIndexV, gPart, reduceIte, Nat.reduceAdd, Nat.reduceSub, Nat.reduceMul, Nat.reduceLT, Nat.reduceLeDiff, Nat.reduceEqDiff, Nat.reduceBEq, Int.reduceLT, Int.reduceLE, Int.reduceGT, Int.reduceGE, Int.reduceEq, Int.reduceNe, Int.reduceAdd, Int.reduceSub, Int.reduceMul, Int.reduceNeg, Int.reduceToNat, Int.reduceBEq, Int.reduceBNe, Int.cast_ofNat_Int, List.getElem?_toArray, stp, Try.underlying29, Try.underlying3, Try.underlying5, Try.underlying83, cv3_5, el29, el83, ni29, ni3, ni5, ni83, sz29, sz3, sz5, sz83, zr29, zr3, zr5, zr83, rs23]))
  rw [gkey_eq] at hr
  have e : [UInt8.ofNat (min l.length 255)].length + (l.take (min l.length 255)).length = (gkey l).length := by rw [← gkey_eq, List.length_append]
  rw [e] at hr ha
  refine ⟨(s1.trans s2).trans s3, a', c', ?_, ?_, ?_⟩
  · rw [← e]; rfl
  · show RB _ (.slice a' ([UInt8.ofNat (min l.length 255)].length + (l.take (min l.length 255)).length) c') _
    rw [e]; exact hr
  · show AP _ _ (.slice a' ([UInt8.ofNat (min l.length 255)].length + (l.take (min l.length 255)).length) c') _
    rw [e]; exact ha.weak (s1.trans s2)

theorem c_rKey (N : Nat) (h : GH) {a : Option Addr} {n c : Nat} {l : List UInt8} (r : RB h (.slice a n c) l) (hn : n = l.length) : GTri Try.prog N 24 [.slice a n c] h fun v h' => HS h h' ∧ ∃ a' c', v = .slice a' (gkey l).length c' ∧ RB h' v (gkey l) ∧ AP h h' v 1 := by
  subst hn
  refine gtri Try.func24 rfl gf24 ok24 (by simp [Try.ntmps24]) ?_
  have mn : (if (255 : Int) < (l.length : Int) then (255 : Int) else (l.length : Int)) = ((min l.length 255 : Nat) : Int) := min_if _ 255
  obtain ⟨a1, c1, q1, r1, _⟩ := r.cut Try.underlying29 sz5 (hi := ((min l.length 255 : Nat) : Int)) (by omega) (by omega) .i64
  rw [Int.toNat_natCast] at q1 r1
  have w1 : IntKind.u8.wrap ((min l.length 255 : Nat) : Int) = ((min l.length 255 : Nat) : Int) := wrapu8 (by omega) (by omega)
  repeat' (first | (with_reducible first | refine gw_seq ?_ | refine gw_block ?_) | ((first | (with_reducible first | refine gw_region ?_ | refine gw_if ?_ | refine gw_skip ?_ | refine gw_exit ?_ | refine gw_ret ?_) | ((with_reducible first | refine gif_b (fun hb => ?_) (fun hb => ?_) | refine want_t (fun hb => ?_) (fun hb => ?_) | refine want_f (fun hb => ?_) (fun hb => ?_)) <;> (try simp only [hb]))) <;> try simp only [List.map, gop, ev, lk, aenv, gyield, gBin, gInt, gStrOp, gUn, gPick, gNil, gExtract, gIfc, gConvK, gIndexO, gIndexVO, gMakeV, gMinV, gMaxV, isInt, gMin, gMax, gBlt, gCallV, vcells, gField, gIndexV, gPart, reduceIte, Nat.reduceAdd, Nat.reduceSub, Nat.reduceMul, Nat.reduceLT, Nat.reduceLeDiff, Nat.reduceEqDiff, Nat.reduceBEq, Int.reduceLT, Int.reduceLE, Int.reduceGT, Int.reduceGE, Int.reduceEq, Int.reduceNe, Int.reduceAdd, Int.reduceSub, Int.reduceMul, Int.reduceNeg, Int.reduceToNat, Int.reduceBEq, Int.reduceBNe, Int.cast_ofNat_Int, List.getElem?_toArray, stp, Try.underlying29, Try.underlying3, Try.underlying5, cv3_5, el29, ni29, ni3, ni5, sz29, sz3, sz5, zr29, zr3, zr5, rs24, mn, w1]))
  refine bs_g (cs := [.int .u8 ((min l.length 255 : Nat) : Int)]) el29 rfl (by decide) (by decide) (by rw [zeros_one _ rfl]; rfl) rfl fun k1 h1 m1 s1 f1 n1 => ?_
  obtain ⟨a1, c1, q1, r1, _⟩ := (r.hs s1).cut Try.underlying29 sz5 (hi := ((min l.length 255 : Nat) : Int)) (by omega) (by omega) .i64
  rw [Int.toNat_natCast] at q1 r1
  simp only [List.map, gop, ev, lk, aenv, gyield, gBin, gInt, gStrOp, gUn, gPick, gNil, gExtract, gIfc, gConvK, gIndexO, gIndexVO, gMakeV, gMinV, gMaxV, isInt, gMin, gMax, gBlt, gCallV, vcells, gField, gIndexV, gPart, reduceIte, Nat.reduceAdd, Nat.reduceSub, Nat.reduceMul, Nat.reduceLT, Nat.reduceLeDiff, Nat.reduceEqDiff, Nat.reduceBEq, Int.reduceLT, Int.reduceLE, Int.reduceGT, Int.reduceGE, Int.reduceEq, Int.reduceNe, Int.reduceAdd, Int.reduceSub, Int.reduceMul, Int.reduceNeg, Int.reduceToNat, Int.reduceBEq, Int.reduceBNe, Int.cast_ofNat_Int, List.getElem?_toArray, stp, Try.underlying29, Try.underlying3, Try.underlying5, cv3_5, el29, ni29, ni3, ni5, sz29, sz3, sz5, zr29, zr3, zr5, rs24, q1]
  have b1 : RB h1 (.slice (some ⟨k1, 0, none⟩) 1 3) [UInt8.ofNat (min l.length 255)] := by
    rw [bv_nat _ (by omega)] at m1
    exact rb_block (l := [UInt8.ofNat (min l.length 255)]) m1 rfl
  refine append_bytes el29 Try.underlying29 rfl s1 b1 (.inr (.inl ⟨_, 1, rfl⟩)) r1.src (by simp; omega) fun v h2 s2 _ _ ha hr => ?_
  rw [gkey_eq] at hr
  obtain ⟨a', c', rfl, _⟩ := hr.form
  simp only [List.map, gop, ev, lk, aenv, gyield, gBin, gInt, gStrOp, gUn, gPick, gNil, gExtract, gIfc, gConvK, gIndexO, gIndexVO, gMakeV, gMinV, gMaxV, isInt, gMin, gMax, gBlt, gCallV, vcells, gField, gIndexV, gPart, reduceIte, Nat.reduceAdd, Nat.reduceSub, Nat.reduceMul, Nat.reduceLT, Nat.reduceLeDiff, Nat.reduceEqDiff, Nat.reduceBEq, Int.reduceLT, Int.reduceLE, Int.reduceGT, Int.reduceGE, Int.reduceEq, Int.reduceNe, Int.reduceAdd, Int.reduceSub, Int.reduceMul, Int.reduceNeg, Int.reduceToNat, Int.reduceBEq, Int.reduceBNe, Int.cast_ofNat_Int, List.getElem?_toArray, stp, Try.underlying29, Try.underlying3, Try.underlying5, cv3_5, el29, ni29, ni3, ni5, sz29, sz3, sz5, zr29, zr3, zr5, rs24]
  repeat' (first | (with_reducible first | refine gw_seq ?_ | refine gw_block ?_) | ((first | (with_reducible first | refine gw_region ?_ | refine gw_if ?_ | refine gw_skip ?_ | refine gw_exit ?_ | refine gw_ret ?_) | ((with_reducible first | refine gif_b (fun hb => ?_) (fun hb => ?_) | refine want_t (fun hb => ?_) (fun hb => ?_) | refine want_f (fun hb => ?_) (fun hb => ?_)) <;> (try simp only [hb]))) <;> try simp only [List.map, gop, ev, lk, aenv, gyield, gBin, gInt, gStrOp, gUn, gPick, gNil, gExtract, gIfc, gConvK, gIndexO, gIndexVO, gMakeV, gMinV, gMaxV, isInt, gMin, gMax, gBlt, gCallV, vcells, gField, gIndexV, gPart, reduceIte, Nat.reduceAdd, Nat.reduceSub, Nat.reduceMul, Nat.reduceLT, Nat.reduceLeDiff, Nat.reduceEqDiff, Nat.reduceBEq, Int.reduceLT, Int.reduceLE, Int.reduceGT, Int.reduceGE, Int.reduceEq, Int.reduceNe, Int.reduceAdd, Int.reduceSub, Int.reduceMul, Int.reduceNeg, Int.reduceToNat, Int.reduceBEq, Int.reduceBNe, Int.cast_ofNat_Int, List.getElem?_toArray, stp, Try.underlying29, Try.underlying3, Try.underlying5, cv3_5, el29, ni29, ni3, ni5, sz29, sz3, sz5, zr29, zr3, zr5, rs24]))
  exact ⟨s2, a', c', rfl, hr, ha⟩
end Go.Gh
