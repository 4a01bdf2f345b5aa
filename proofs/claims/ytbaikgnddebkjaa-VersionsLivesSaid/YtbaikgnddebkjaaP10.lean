/- Parts of this claim's proof, 10. No statement of the claim stands here. -/
import Derived.Test.YtbaikgnddebkjaaP9
/- Versions: awake; events, compared one by one. -/

namespace Go.Gh
open Go Go.Proofs Go.RowKit
set_option linter.unusedVariables false
set_option linter.unusedSimpArgs false
set_option maxRecDepth 100000
set_option maxHeartbeats 2000000

theorem RL.cut {α : Type} {P : Program} {es : Nat} {R : GH → List Value → α → Prop} {h : GH} {a : Option Addr} {c : Nat} {l : List α} (r : RL es R h (.slice a l.length c) l) {t e : TypeId} {b : Bool} (ht : P.underlying t = some (.slice e)) (he : gsz P e = some (b, es)) {m : Nat} (hm : m ≤ l.length) :
    ∃ a' c', gSlice P t h (.slice a l.length c) none (some (.int .i64 (m : Int))) none = some (.slice a' m c') ∧ RL es R h (.slice a' m c') (l.take m) := by
  have hl : (l.take m).length = m := by simp; omega
  rcases r with ⟨c2, hv, rfl⟩ | ⟨ad, c2, cs, hv, h2, h3, h4, h5⟩
  · cases hv
    simp at hm
    subst hm
    exact ⟨none, 0, by simp [gSlice, ht, he, gHigh, gLow, gBound], .inl ⟨0, rfl, by simp⟩⟩
  · cases hv
    have hle : m * es ≤ l.length * es := Nat.mul_le_mul_right es hm
    refine ⟨some ⟨ad.block, ad.off, ad.spot⟩, c, ?_, .inr ⟨⟨ad.block, ad.off, ad.spot⟩, c, cs.take (m * es), by rw [hl], ?_, by omega, fun i x hx => ?_, ?_⟩⟩
    · have hb : 0 ≤ (m : Int) ∧ (m : Int) ≤ ((max l.length (c / 2) : Nat) : Int) := ⟨by omega, by omega⟩
      simp only [gSlice, ht, he, gHigh, gBound, hb, and_self, if_true, gLow]
      simp
    · rw [hl]
      have := gread_sub h2 0 (m * es) (by omega)
      simpa using this
    · have hi : i < m := by have := (List.getElem?_eq_some_iff.1 hx).1; omega
      rw [List.getElem?_take, if_pos hi] at hx
      have hie : i * es + es ≤ m * es := by
        have := Nat.mul_le_mul_right es (show i + 1 ≤ m by omega)
        rw [Nat.add_mul, Nat.one_mul] at this; exact this
      have := h4 i x hx
      rw [List.drop_take, List.take_take, Nat.min_eq_left (by omega)]
      exact this
    · rw [hl]
      rcases h5 with h5 | h5
      · exact .inl (by omega)
      · exact .inr h5

/-- One element in a new slice, by its block. -/
theorem bsn2_g {P : Program} {t e es by_ : Nat} {z : Value} {h : GH} {x : Value} {K : Value → GH → Prop} (hel : gel P t = some (e, es, by_, z)) (hz : clo z = true) (hl : (vcells x).length = es) (he : es ≤ 16777216) (h0 : es ≠ 0) (hc : (vcells x).all isCell = true)
    (g : ∀ k h', h' k = some ⟨vcells x, es, true, false⟩ → HS h h' → (∀ j, j ≠ k → h' j = h j) → h k = none → K (.slice (some ⟨k, 0, none⟩) 1 3) h') : gBuildSlice P t h 1 [(0, x)] K := by
  refine bs_g (cs := vcells x) hel hz (by omega) (by decide) ?_ hc fun k h' m s f n => g k h' m s f n
  have hzl := zeros_length z (1 * es)
  have hp : (Shape.elems es).pl 0 = some (0, es) := by simp [Shape.pl]
  simp only [lfill, hp]
  have := lput_all (vcells x) (zeros z (1 * es)) [] (by rw [hzl, hl, Nat.one_mul])
  simp only [List.nil_append, List.length_nil] at this
  rw [this, hzl, Nat.one_mul]
  simp [hl, hc]
theorem one_rl {α : Type} {es : Nat} {R : GH → List Value → α → Prop} {h : GH} {k : Nat} {cs : List Value} {x : α} {w t : Bool} (m : h k = some ⟨cs, es, w, t⟩) (hl : cs.length = es) (h0 : es ≠ 0) (r : R h cs x) : RL es R h (.slice (some ⟨k, 0, none⟩) 1 3) [x] := by
  refine .inr ⟨_, 3, cs, rfl, ?_, by simp, fun i y hy => ?_, .inr ⟨_, m, .inl h0⟩⟩
  · exact gread_lit m (o := 0) (by rw [List.drop_zero]; exact List.take_of_length_le (by simp; omega)) (by simp; omega)
  · have hi : i = 0 := by have := (List.getElem?_eq_some_iff.1 hy).1; simp at this; omega
    subst hi
    simp at hy
    subst hy
    rw [Nat.zero_mul, List.drop_zero, ← hl, List.take_length]
    exact r

theorem c_sameEvent (N : Nat) (h : GH) {c1 c2 : List Value} {x y : Nat × Nat × Bnd} (r1 : Ev h c1 x) (r2 : Ev h c2 y) (ok is : Bool) : GTri Try.prog N 17 [.agg c1.toArray, .agg c2.toArray, .bool ok, .bool is] h fun v h' => (∃ r : Bool, v = .bool r ∧ (r = true ↔ ok = is ∧ x = y)) ∧ HS h h' := by
  obtain ⟨z1, z2, z3, z4⟩ := r1.cells
  obtain ⟨w1, w2, w3, w4⟩ := r2.cells
  refine gtri Try.func17 rfl gf17 ok17 (by simp [Try.ntmps17]) ?_
  repeat' (first | (with_reducible first | refine gw_seq ?_ | refine gw_block ?_) | ((first | (with_reducible first | refine gw_region ?_ | refine gw_if ?_ | refine gw_skip ?_ | refine gw_exit ?_ | refine gw_ret ?_) | ((with_reducible first | refine gif_b (fun hb => ?_) (fun hb => ?_) | refine want_t (fun hb => ?_) (fun hb => ?_) | refine want_f (fun hb => ?_) (fun hb => ?_)) <;> (try simp only [hb]) <;> (try simp only [hpr] at hb))) <;> try simp only [List.map, gop, ev, lk, aenv, gyield, gBin, gInt, gStrOp, gUn, gPick, gNil, gExtract, gIfc, gConvK, gIndexO, gIndexVO, gMakeV, gMinV, gMaxV, isInt, gMin, gMax, gBlt, gLenX, gCallV, gInvoke, gNilM, Array.toList_map, vcells, gField, gIndexV, gPart, reduceIte, Nat.reduceAdd, Nat.reduceSub, Nat.reduceMul, Nat.reduceLT, Nat.reduceLeDiff, Nat.reduceEqDiff, Nat.reduceBEq, Int.reduceLT, Int.reduceLE, Int.reduceGT, Int.reduceGE, Int.reduceEq, Int.reduceNe, Int.reduceAdd, Int.reduceSub, Int.reduceMul, Int.reduceNeg, Int.reduceToNat, Int.reduceBEq, Int.reduceBNe, Int.cast_ofNat_Int, List.getElem?_toArray, stp, Try.underlying24, Try.underlying3, Try.underlying33, Try.underlying36, Try.underlying4, ty24, ty36, ty33, ty3, ty4, rs17]))
  refine box_g z2 fun k1 h1 m1 s1 f1 n1 => ?_
  refine mk_of ?_; repeat' (first | (with_reducible first | refine gw_seq ?_ | refine gw_block ?_) | ((first | (with_reducible refine mk_to ?_) | (with_reducible first | refine gw_region ?_ | refine gw_if ?_ | refine gw_skip ?_ | refine gw_exit ?_ | refine gw_ret ?_) | ((with_reducible first | refine gif_b (fun hb => ?_) (fun hb => ?_) | refine want_t (fun hb => ?_) (fun hb => ?_) | refine want_f (fun hb => ?_) (fun hb => ?_)) <;> (try simp only [hb]) <;> (try simp only [hpr] at hb))) <;> try simp only [List.map, gop, ev, lk, aenv, gyield, gBin, gInt, gStrOp, gUn, gPick, gNil, gExtract, gIfc, gConvK, gIndexO, gIndexVO, gMakeV, gMinV, gMaxV, isInt, gMin, gMax, gBlt, gLenX, gCallV, gInvoke, gNilM, Array.toList_map, vcells, gField, gIndexV, gPart, reduceIte, Nat.reduceAdd, Nat.reduceSub, Nat.reduceMul, Nat.reduceLT, Nat.reduceLeDiff, Nat.reduceEqDiff, Nat.reduceBEq, Int.reduceLT, Int.reduceLE, Int.reduceGT, Int.reduceGE, Int.reduceEq, Int.reduceNe, Int.reduceAdd, Int.reduceSub, Int.reduceMul, Int.reduceNeg, Int.reduceToNat, Int.reduceBEq, Int.reduceBNe, Int.cast_ofNat_Int, List.getElem?_toArray, stp, Try.underlying24, Try.underlying3, Try.underlying33, Try.underlying36, Try.underlying4, ty24, ty36, ty33, ty3, ty4, rs17]))
  refine box_g w2 fun k2 h2 m2 s2 f2 n2 => ?_
  replace m1 := s2 _ _ m1
  have s12 := s1.trans s2
  by_cases hok : ok = is
  case neg =>
    have d : (ok == is) = false := by simpa using hok
    refine mk_of ?_; repeat' (first | (with_reducible first | refine gw_seq ?_ | refine gw_block ?_) | ((first | (with_reducible refine mk_to ?_) | (with_reducible first | refine gw_region ?_ | refine gw_if ?_ | refine gw_skip ?_ | refine gw_exit ?_ | refine gw_ret ?_) | ((with_reducible first | refine gif_b (fun hb => ?_) (fun hb => ?_) | refine want_t (fun hb => ?_) (fun hb => ?_) | refine want_f (fun hb => ?_) (fun hb => ?_)) <;> (try simp only [hb]) <;> (try simp only [hpr] at hb))) <;> try simp only [List.map, gop, ev, lk, aenv, gyield, gBin, gInt, gStrOp, gUn, gPick, gNil, gExtract, gIfc, gConvK, gIndexO, gIndexVO, gMakeV, gMinV, gMaxV, isInt, gMin, gMax, gBlt, gLenX, gCallV, gInvoke, gNilM, Array.toList_map, vcells, gField, gIndexV, gPart, reduceIte, Nat.reduceAdd, Nat.reduceSub, Nat.reduceMul, Nat.reduceLT, Nat.reduceLeDiff, Nat.reduceEqDiff, Nat.reduceBEq, Int.reduceLT, Int.reduceLE, Int.reduceGT, Int.reduceGE, Int.reduceEq, Int.reduceNe, Int.reduceAdd, Int.reduceSub, Int.reduceMul, Int.reduceNeg, Int.reduceToNat, Int.reduceBEq, Int.reduceBNe, Int.cast_ofNat_Int, List.getElem?_toArray, stp, Try.underlying24, Try.underlying3, Try.underlying33, Try.underlying36, Try.underlying4, ty24, ty36, ty33, ty3, ty4, rs17, d, gPick]))
    exact ⟨⟨false, rfl, ⟨fun h => (by cases h), fun h => absurd h.1 hok⟩⟩, s12⟩
  have d : (ok == is) = true := by simpa using hok
  refine mk_of ?_; repeat' (first | (with_reducible first | refine gw_seq ?_ | refine gw_block ?_) | ((first | (with_reducible refine mk_to ?_) | (with_reducible first | refine gw_region ?_ | refine gw_if ?_ | refine gw_skip ?_ | refine gw_exit ?_ | refine gw_ret ?_) | ((with_reducible first | refine gif_b (fun hb => ?_) (fun hb => ?_) | refine want_t (fun hb => ?_) (fun hb => ?_) | refine want_f (fun hb => ?_) (fun hb => ?_)) <;> (try simp only [hb]) <;> (try simp only [hpr] at hb))) <;> try simp only [List.map, gop, ev, lk, aenv, gyield, gBin, gInt, gStrOp, gUn, gPick, gNil, gExtract, gIfc, gConvK, gIndexO, gIndexVO, gMakeV, gMinV, gMaxV, isInt, gMin, gMax, gBlt, gLenX, gCallV, gInvoke, gNilM, Array.toList_map, vcells, gField, gIndexV, gPart, reduceIte, Nat.reduceAdd, Nat.reduceSub, Nat.reduceMul, Nat.reduceLT, Nat.reduceLeDiff, Nat.reduceEqDiff, Nat.reduceBEq, Int.reduceLT, Int.reduceLE, Int.reduceGT, Int.reduceGE, Int.reduceEq, Int.reduceNe, Int.reduceAdd, Int.reduceSub, Int.reduceMul, Int.reduceNeg, Int.reduceToNat, Int.reduceBEq, Int.reduceBNe, Int.cast_ofNat_Int, List.getElem?_toArray, stp, Try.underlying24, Try.underlying3, Try.underlying33, Try.underlying36, Try.underlying4, ty24, ty36, ty33, ty3, ty4, rs17, d, gPick, gloadA m1 sz33 z1]))
  refine bsn2_g el36 rfl (by rw [z4]; exact z1) (by decide) (by decide) (by rw [z4]; exact z2) fun k3 h3 b3 s3 f3 n3 => ?_
  rw [z4] at b3
  refine mk_of ?_; repeat' (first | (with_reducible first | refine gw_seq ?_ | refine gw_block ?_) | ((first | (with_reducible refine mk_to ?_) | (with_reducible first | refine gw_region ?_ | refine gw_if ?_ | refine gw_skip ?_ | refine gw_exit ?_ | refine gw_ret ?_) | ((with_reducible first | refine gif_b (fun hb => ?_) (fun hb => ?_) | refine want_t (fun hb => ?_) (fun hb => ?_) | refine want_f (fun hb => ?_) (fun hb => ?_)) <;> (try simp only [hb]) <;> (try simp only [hpr] at hb))) <;> try simp only [List.map, gop, ev, lk, aenv, gyield, gBin, gInt, gStrOp, gUn, gPick, gNil, gExtract, gIfc, gConvK, gIndexO, gIndexVO, gMakeV, gMinV, gMaxV, isInt, gMin, gMax, gBlt, gLenX, gCallV, gInvoke, gNilM, Array.toList_map, vcells, gField, gIndexV, gPart, reduceIte, Nat.reduceAdd, Nat.reduceSub, Nat.reduceMul, Nat.reduceLT, Nat.reduceLeDiff, Nat.reduceEqDiff, Nat.reduceBEq, Int.reduceLT, Int.reduceLE, Int.reduceGT, Int.reduceGE, Int.reduceEq, Int.reduceNe, Int.reduceAdd, Int.reduceSub, Int.reduceMul, Int.reduceNeg, Int.reduceToNat, Int.reduceBEq, Int.reduceBNe, Int.cast_ofNat_Int, List.getElem?_toArray, stp, Try.underlying24, Try.underlying3, Try.underlying33, Try.underlying36, Try.underlying4, ty24, ty36, ty33, ty3, ty4, rs17, gloadA (s3 _ _ m2) sz33 w1]))
  refine bsn2_g el36 rfl (by rw [w4]; exact w1) (by decide) (by decide) (by rw [w4]; exact w2) fun k4 h4 b4 s4 f4 n4 => ?_
  rw [w4] at b4
  have s34 := (s12.trans s3).trans s4
  have l1 := one_rl (R := Ev) (s4 _ _ b3) z1 (by decide) (r1.hs s34)
  have l2 := one_rl (R := Ev) b4 w1 (by decide) (r2.hs s34)
  refine mk_of ?_; repeat' (first | (with_reducible first | refine gw_seq ?_ | refine gw_block ?_) | ((first | (with_reducible refine mk_to ?_) | (with_reducible first | refine gw_region ?_ | refine gw_if ?_ | refine gw_skip ?_ | refine gw_exit ?_ | refine gw_ret ?_) | ((with_reducible first | refine gif_b (fun hb => ?_) (fun hb => ?_) | refine want_t (fun hb => ?_) (fun hb => ?_) | refine want_f (fun hb => ?_) (fun hb => ?_)) <;> (try simp only [hb]) <;> (try simp only [hpr] at hb))) <;> try simp only [List.map, gop, ev, lk, aenv, gyield, gBin, gInt, gStrOp, gUn, gPick, gNil, gExtract, gIfc, gConvK, gIndexO, gIndexVO, gMakeV, gMinV, gMaxV, isInt, gMin, gMax, gBlt, gLenX, gCallV, gInvoke, gNilM, Array.toList_map, vcells, gField, gIndexV, gPart, reduceIte, Nat.reduceAdd, Nat.reduceSub, Nat.reduceMul, Nat.reduceLT, Nat.reduceLeDiff, Nat.reduceEqDiff, Nat.reduceBEq, Int.reduceLT, Int.reduceLE, Int.reduceGT, Int.reduceGE, Int.reduceEq, Int.reduceNe, Int.reduceAdd, Int.reduceSub, Int.reduceMul, Int.reduceNeg, Int.reduceToNat, Int.reduceBEq, Int.reduceBNe, Int.cast_ofNat_Int, List.getElem?_toArray, stp, Try.underlying24, Try.underlying3, Try.underlying33, Try.underlying36, Try.underlying4, ty24, ty36, ty33, ty3, ty4, rs17]))
  refine (c_SE N h4 (L := [x]) (M := [y]) l1 l2 (by simp)).mono ?_
  rintro _ h5 ⟨⟨r, rfl, hr⟩, s5⟩
  refine mk_of ?_; repeat' (first | (with_reducible first | refine gw_seq ?_ | refine gw_block ?_) | ((first | (with_reducible refine mk_to ?_) | (with_reducible first | refine gw_region ?_ | refine gw_if ?_ | refine gw_skip ?_ | refine gw_exit ?_ | refine gw_ret ?_) | ((with_reducible first | refine gif_b (fun hb => ?_) (fun hb => ?_) | refine want_t (fun hb => ?_) (fun hb => ?_) | refine want_f (fun hb => ?_) (fun hb => ?_)) <;> (try simp only [hb]) <;> (try simp only [hpr] at hb))) <;> try simp only [List.map, gop, ev, lk, aenv, gyield, gBin, gInt, gStrOp, gUn, gPick, gNil, gExtract, gIfc, gConvK, gIndexO, gIndexVO, gMakeV, gMinV, gMaxV, isInt, gMin, gMax, gBlt, gLenX, gCallV, gInvoke, gNilM, Array.toList_map, vcells, gField, gIndexV, gPart, reduceIte, Nat.reduceAdd, Nat.reduceSub, Nat.reduceMul, Nat.reduceLT, Nat.reduceLeDiff, Nat.reduceEqDiff, Nat.reduceBEq, Int.reduceLT, Int.reduceLE, Int.reduceGT, Int.reduceGE, Int.reduceEq, Int.reduceNe, Int.reduceAdd, Int.reduceSub, Int.reduceMul, Int.reduceNeg, Int.reduceToNat, Int.reduceBEq, Int.reduceBNe, Int.cast_ofNat_Int, List.getElem?_toArray, stp, Try.underlying24, Try.underlying3, Try.underlying33, Try.underlying36, Try.underlying4, ty24, ty36, ty33, ty3, ty4, rs17, gPick]))
  exact ⟨⟨r, rfl, by rw [hr]; simp [hok]⟩, s34.trans s5⟩

theorem c_awake33 (N : Nat) (h : GH) : GTri Try.prog N 19 [] h fun v h' => v = .bool true ∧ HS h h' := by
  refine gtri Try.func19 rfl gf19 ok19 (by simp [Try.ntmps19]) ?_
  repeat' (first | (with_reducible first | refine gw_seq ?_ | refine gw_block ?_) | ((first | (with_reducible first | refine gw_region ?_ | refine gw_if ?_ | refine gw_skip ?_ | refine gw_exit ?_ | refine gw_ret ?_) | ((with_reducible first | refine gif_b (fun hb => ?_) (fun hb => ?_) | refine want_t (fun hb => ?_) (fun hb => ?_) | refine want_f (fun hb => ?_) (fun hb => ?_)) <;> (try simp only [hb]) <;> (try simp only [hpr] at hb))) <;> try simp only [List.map, gop, ev, lk, aenv, gyield, gBin, gInt, gStrOp, gUn, gPick, gNil, gExtract, gIfc, gConvK, gIndexO, gIndexVO, gMakeV, gMinV, gMaxV, isInt, gMin, gMax, gBlt, gLenX, gCallV, gInvoke, gNilM, Array.toList_map, vcells, gField, gIndexV, gPart, reduceIte, Nat.reduceAdd, Nat.reduceSub, Nat.reduceMul, Nat.reduceLT, Nat.reduceLeDiff, Nat.reduceEqDiff, Nat.reduceBEq, Int.reduceLT, Int.reduceLE, Int.reduceGT, Int.reduceGE, Int.reduceEq, Int.reduceNe, Int.reduceAdd, Int.reduceSub, Int.reduceMul, Int.reduceNeg, Int.reduceToNat, Int.reduceBEq, Int.reduceBNe, Int.cast_ofNat_Int, List.getElem?_toArray, stp, Try.underlying23, Try.underlying24, Try.underlying27, Try.underlying29, Try.underlying3, Try.underlying33, Try.underlying44, Try.underlying5, Try.underlying99, ty23, ty24, ty33, ty44, ty99, ty27, ty29, ty3, ty5, rs19]))
  refine (c_New N (HS.refl h)).mono ?_
  rintro _ h1 ⟨⟨k, j, rfl, hk, x1⟩, s1⟩
  refine mk_of ?_; repeat' (first | (with_reducible first | refine gw_seq ?_ | refine gw_block ?_) | ((first | (with_reducible refine mk_to ?_) | (with_reducible first | refine gw_region ?_ | refine gw_if ?_ | refine gw_skip ?_ | refine gw_exit ?_ | refine gw_ret ?_) | ((with_reducible first | refine gif_b (fun hb => ?_) (fun hb => ?_) | refine want_t (fun hb => ?_) (fun hb => ?_) | refine want_f (fun hb => ?_) (fun hb => ?_)) <;> (try simp only [hb]) <;> (try simp only [hpr] at hb))) <;> try simp only [List.map, gop, ev, lk, aenv, gyield, gBin, gInt, gStrOp, gUn, gPick, gNil, gExtract, gIfc, gConvK, gIndexO, gIndexVO, gMakeV, gMinV, gMaxV, isInt, gMin, gMax, gBlt, gLenX, gCallV, gInvoke, gNilM, Array.toList_map, vcells, gField, gIndexV, gPart, reduceIte, Nat.reduceAdd, Nat.reduceSub, Nat.reduceMul, Nat.reduceLT, Nat.reduceLeDiff, Nat.reduceEqDiff, Nat.reduceBEq, Int.reduceLT, Int.reduceLE, Int.reduceGT, Int.reduceGE, Int.reduceEq, Int.reduceNe, Int.reduceAdd, Int.reduceSub, Int.reduceMul, Int.reduceNeg, Int.reduceToNat, Int.reduceBEq, Int.reduceBNe, Int.cast_ofNat_Int, List.getElem?_toArray, stp, Try.underlying23, Try.underlying24, Try.underlying27, Try.underlying29, Try.underlying3, Try.underlying33, Try.underlying44, Try.underlying5, Try.underlying99, ty23, ty24, ty33, ty44, ty99, ty27, ty29, ty3, ty5, rs19, gEq, gPick]))
  refine bsn2_g el24 rfl rfl (by decide) (by decide) rfl fun k2 h2 m2 s2 f2 n2 => ?_
  refine mk_of ?_; repeat' (first | (with_reducible first | refine gw_seq ?_ | refine gw_block ?_) | ((first | (with_reducible refine mk_to ?_) | (with_reducible first | refine gw_region ?_ | refine gw_if ?_ | refine gw_skip ?_ | refine gw_exit ?_ | refine gw_ret ?_) | ((with_reducible first | refine gif_b (fun hb => ?_) (fun hb => ?_) | refine want_t (fun hb => ?_) (fun hb => ?_) | refine want_f (fun hb => ?_) (fun hb => ?_)) <;> (try simp only [hb]) <;> (try simp only [hpr] at hb))) <;> try simp only [List.map, gop, ev, lk, aenv, gyield, gBin, gInt, gStrOp, gUn, gPick, gNil, gExtract, gIfc, gConvK, gIndexO, gIndexVO, gMakeV, gMinV, gMaxV, isInt, gMin, gMax, gBlt, gLenX, gCallV, gInvoke, gNilM, Array.toList_map, vcells, gField, gIndexV, gPart, reduceIte, Nat.reduceAdd, Nat.reduceSub, Nat.reduceMul, Nat.reduceLT, Nat.reduceLeDiff, Nat.reduceEqDiff, Nat.reduceBEq, Int.reduceLT, Int.reduceLE, Int.reduceGT, Int.reduceGE, Int.reduceEq, Int.reduceNe, Int.reduceAdd, Int.reduceSub, Int.reduceMul, Int.reduceNeg, Int.reduceToNat, Int.reduceBEq, Int.reduceBNe, Int.cast_ofNat_Int, List.getElem?_toArray, stp, Try.underlying23, Try.underlying24, Try.underlying27, Try.underlying29, Try.underlying3, Try.underlying33, Try.underlying44, Try.underlying5, Try.underlying99, ty23, ty24, ty33, ty44, ty99, ty27, ty29, ty3, ty5, rs19, if_true]))
  refine mark_g Try.underlying24 Try.underlying5 m2 rfl (by decide) fun h3 m3 f3 => ?_
  have s3 : HS h1 h3 := (HS.refl h1).upd n2 (fun i hi => (f3 i hi).trans (f2 i hi))
  have rb3 : RB h3 (.slice (some ⟨k2, 0, none⟩) 1 3) [97] := rb_block (l := [97]) m3 rfl
  refine mk_of ?_; repeat' (first | (with_reducible first | refine gw_seq ?_ | refine gw_block ?_) | ((first | (with_reducible refine mk_to ?_) | (with_reducible first | refine gw_region ?_ | refine gw_if ?_ | refine gw_skip ?_ | refine gw_exit ?_ | refine gw_ret ?_) | ((with_reducible first | refine gif_b (fun hb => ?_) (fun hb => ?_) | refine want_t (fun hb => ?_) (fun hb => ?_) | refine want_f (fun hb => ?_) (fun hb => ?_)) <;> (try simp only [hb]) <;> (try simp only [hpr] at hb))) <;> try simp only [List.map, gop, ev, lk, aenv, gyield, gBin, gInt, gStrOp, gUn, gPick, gNil, gExtract, gIfc, gConvK, gIndexO, gIndexVO, gMakeV, gMinV, gMaxV, isInt, gMin, gMax, gBlt, gLenX, gCallV, gInvoke, gNilM, Array.toList_map, vcells, gField, gIndexV, gPart, reduceIte, Nat.reduceAdd, Nat.reduceSub, Nat.reduceMul, Nat.reduceLT, Nat.reduceLeDiff, Nat.reduceEqDiff, Nat.reduceBEq, Int.reduceLT, Int.reduceLE, Int.reduceGT, Int.reduceGE, Int.reduceEq, Int.reduceNe, Int.reduceAdd, Int.reduceSub, Int.reduceMul, Int.reduceNeg, Int.reduceToNat, Int.reduceBEq, Int.reduceBNe, Int.cast_ofNat_Int, List.getElem?_toArray, stp, Try.underlying23, Try.underlying24, Try.underlying27, Try.underlying29, Try.underlying3, Try.underlying33, Try.underlying44, Try.underlying5, Try.underlying99, ty23, ty24, ty33, ty44, ty99, ty27, ty29, ty3, ty5, rs19, gBuild, lfill, lput, Shape.pl, List.all_cons, List.all_nil, isCell]))
  refine bsn2_g el23 rfl rfl (by decide) (by decide) rfl fun k4 h4 m4 s4 f4 n4 => ?_
  have l4 := one_rl (R := Bd) (x := ([97], [])) m4 rfl (by decide) ⟨_, _, _, _, _, _, rfl, rb3.hs s4, .inl ⟨0, rfl, rfl⟩⟩
  have x4 := x1.hs (s3.trans s4)
  refine mk_of ?_; repeat' (first | (with_reducible first | refine gw_seq ?_ | refine gw_block ?_) | ((first | (with_reducible refine mk_to ?_) | (with_reducible first | refine gw_region ?_ | refine gw_if ?_ | refine gw_skip ?_ | refine gw_exit ?_ | refine gw_ret ?_) | ((with_reducible first | refine gif_b (fun hb => ?_) (fun hb => ?_) | refine want_t (fun hb => ?_) (fun hb => ?_) | refine want_f (fun hb => ?_) (fun hb => ?_)) <;> (try simp only [hb]) <;> (try simp only [hpr] at hb))) <;> try simp only [List.map, gop, ev, lk, aenv, gyield, gBin, gInt, gStrOp, gUn, gPick, gNil, gExtract, gIfc, gConvK, gIndexO, gIndexVO, gMakeV, gMinV, gMaxV, isInt, gMin, gMax, gBlt, gLenX, gCallV, gInvoke, gNilM, Array.toList_map, vcells, gField, gIndexV, gPart, reduceIte, Nat.reduceAdd, Nat.reduceSub, Nat.reduceMul, Nat.reduceLT, Nat.reduceLeDiff, Nat.reduceEqDiff, Nat.reduceBEq, Int.reduceLT, Int.reduceLE, Int.reduceGT, Int.reduceGE, Int.reduceEq, Int.reduceNe, Int.reduceAdd, Int.reduceSub, Int.reduceMul, Int.reduceNeg, Int.reduceToNat, Int.reduceBEq, Int.reduceBNe, Int.cast_ofNat_Int, List.getElem?_toArray, stp, Try.underlying23, Try.underlying24, Try.underlying27, Try.underlying29, Try.underlying3, Try.underlying33, Try.underlying44, Try.underlying5, Try.underlying99, ty23, ty24, ty33, ty44, ty99, ty27, ty29, ty3, ty5, rs19]))
  refine (c_Add N ((s1.trans s3).trans s4) x4 (by simp) (b := [([97], [])]) l4 (by simp) (fun p hp => by obtain rfl := List.mem_singleton.1 hp; simp)).mono ?_
  rintro _ h5 ⟨rfl, s5, fk5, ad5⟩
  have ea : addErr [([97], [])] = 0 := by simp [addErr, seenN, mset]
  rcases ad5 with ⟨q, _⟩ | ⟨_, bv5, cs5, l5, x5⟩
  · exact absurd ea q
  rw [ea]
  have d0 : ((0 : Int) != 0) = false := rfl
  refine mk_of ?_; repeat' (first | (with_reducible first | refine gw_seq ?_ | refine gw_block ?_) | ((first | (with_reducible refine mk_to ?_) | (with_reducible first | refine gw_region ?_ | refine gw_if ?_ | refine gw_skip ?_ | refine gw_exit ?_ | refine gw_ret ?_) | ((with_reducible first | refine gif_b (fun hb => ?_) (fun hb => ?_) | refine want_t (fun hb => ?_) (fun hb => ?_) | refine want_f (fun hb => ?_) (fun hb => ?_)) <;> (try simp only [hb]) <;> (try simp only [hpr] at hb))) <;> try simp only [List.map, gop, ev, lk, aenv, gyield, gBin, gInt, gStrOp, gUn, gPick, gNil, gExtract, gIfc, gConvK, gIndexO, gIndexVO, gMakeV, gMinV, gMaxV, isInt, gMin, gMax, gBlt, gLenX, gCallV, gInvoke, gNilM, Array.toList_map, vcells, gField, gIndexV, gPart, reduceIte, Nat.reduceAdd, Nat.reduceSub, Nat.reduceMul, Nat.reduceLT, Nat.reduceLeDiff, Nat.reduceEqDiff, Nat.reduceBEq, Int.reduceLT, Int.reduceLE, Int.reduceGT, Int.reduceGE, Int.reduceEq, Int.reduceNe, Int.reduceAdd, Int.reduceSub, Int.reduceMul, Int.reduceNeg, Int.reduceToNat, Int.reduceBEq, Int.reduceBNe, Int.cast_ofNat_Int, List.getElem?_toArray, stp, Try.underlying23, Try.underlying24, Try.underlying27, Try.underlying29, Try.underlying3, Try.underlying33, Try.underlying44, Try.underlying5, Try.underlying99, ty23, ty24, ty33, ty44, ty99, ty27, ty29, ty3, ty5, rs19, gPick, d0]))
  refine bsn2_g el24 rfl rfl (by decide) (by decide) rfl fun k6 h6 m6 s6 f6 n6 => ?_
  refine mk_of ?_; repeat' (first | (with_reducible first | refine gw_seq ?_ | refine gw_block ?_) | ((first | (with_reducible refine mk_to ?_) | (with_reducible first | refine gw_region ?_ | refine gw_if ?_ | refine gw_skip ?_ | refine gw_exit ?_ | refine gw_ret ?_) | ((with_reducible first | refine gif_b (fun hb => ?_) (fun hb => ?_) | refine want_t (fun hb => ?_) (fun hb => ?_) | refine want_f (fun hb => ?_) (fun hb => ?_)) <;> (try simp only [hb]) <;> (try simp only [hpr] at hb))) <;> try simp only [List.map, gop, ev, lk, aenv, gyield, gBin, gInt, gStrOp, gUn, gPick, gNil, gExtract, gIfc, gConvK, gIndexO, gIndexVO, gMakeV, gMinV, gMaxV, isInt, gMin, gMax, gBlt, gLenX, gCallV, gInvoke, gNilM, Array.toList_map, vcells, gField, gIndexV, gPart, reduceIte, Nat.reduceAdd, Nat.reduceSub, Nat.reduceMul, Nat.reduceLT, Nat.reduceLeDiff, Nat.reduceEqDiff, Nat.reduceBEq, Int.reduceLT, Int.reduceLE, Int.reduceGT, Int.reduceGE, Int.reduceEq, Int.reduceNe, Int.reduceAdd, Int.reduceSub, Int.reduceMul, Int.reduceNeg, Int.reduceToNat, Int.reduceBEq, Int.reduceBNe, Int.cast_ofNat_Int, List.getElem?_toArray, stp, Try.underlying23, Try.underlying24, Try.underlying27, Try.underlying29, Try.underlying3, Try.underlying33, Try.underlying44, Try.underlying5, Try.underlying99, ty23, ty24, ty33, ty44, ty99, ty27, ty29, ty3, ty5, rs19]))
  refine mark_g Try.underlying24 Try.underlying5 m6 rfl (by decide) fun h7 m7 f7 => ?_
  have s7 : HS h5 h7 := (HS.refl h5).upd n6 (fun i hi => (f7 i hi).trans (f6 i hi))
  have rb7 : RB h7 (.slice (some ⟨k6, 0, none⟩) 1 3) [97] := rb_block (l := [97]) m7 rfl
  have x7 := x5.hs s7
  refine mk_of ?_; repeat' (first | (with_reducible first | refine gw_seq ?_ | refine gw_block ?_) | ((first | (with_reducible refine mk_to ?_) | (with_reducible first | refine gw_region ?_ | refine gw_if ?_ | refine gw_skip ?_ | refine gw_exit ?_ | refine gw_ret ?_) | ((with_reducible first | refine gif_b (fun hb => ?_) (fun hb => ?_) | refine want_t (fun hb => ?_) (fun hb => ?_) | refine want_f (fun hb => ?_) (fun hb => ?_)) <;> (try simp only [hb]) <;> (try simp only [hpr] at hb))) <;> try simp only [List.map, gop, ev, lk, aenv, gyield, gBin, gInt, gStrOp, gUn, gPick, gNil, gExtract, gIfc, gConvK, gIndexO, gIndexVO, gMakeV, gMinV, gMaxV, isInt, gMin, gMax, gBlt, gLenX, gCallV, gInvoke, gNilM, Array.toList_map, vcells, gField, gIndexV, gPart, reduceIte, Nat.reduceAdd, Nat.reduceSub, Nat.reduceMul, Nat.reduceLT, Nat.reduceLeDiff, Nat.reduceEqDiff, Nat.reduceBEq, Int.reduceLT, Int.reduceLE, Int.reduceGT, Int.reduceGE, Int.reduceEq, Int.reduceNe, Int.reduceAdd, Int.reduceSub, Int.reduceMul, Int.reduceNeg, Int.reduceToNat, Int.reduceBEq, Int.reduceBNe, Int.cast_ofNat_Int, List.getElem?_toArray, stp, Try.underlying23, Try.underlying24, Try.underlying27, Try.underlying29, Try.underlying3, Try.underlying33, Try.underlying44, Try.underlying5, Try.underlying99, ty23, ty24, ty33, ty44, ty99, ty27, ty29, ty3, ty5, rs19]))
  refine (c_At N x7 (by simp) rb7 5).mono ?_
  rintro _ h8 ⟨at8, s8⟩
  have hS : newsp 1 [(([97] : List UInt8), ([] : List UInt8))] 1 [97] = [(1, 0)] := by simp [newsp, bat1]
  obtain ⟨n8, up8, at8⟩ := at8
  simp only [List.nil_append, List.length_nil, List.length_singleton, Nat.zero_add, hS] at up8 at8
  have up1 : Upto [(1, 0)] 5 1 := ⟨by simp, fun i p hp => by
    have hi : i = 0 := by have := (List.getElem?_eq_some_iff.1 hp).1; simp at this; omega
    subst hi
    simp at hp
    subst hp
    simp⟩
  have en := up8.uniq up1
  subst en
  rcases at8 with ⟨q, _⟩ | ⟨p, c8, _, hp, rfl, ev8⟩
  · cases q
  simp at hp
  subst hp
  obtain ⟨a, c, b, d, rfl, _⟩ := ev8
  refine mk_of ?_; repeat' (first | (with_reducible first | refine gw_seq ?_ | refine gw_block ?_) | ((first | (with_reducible refine mk_to ?_) | (with_reducible first | refine gw_region ?_ | refine gw_if ?_ | refine gw_skip ?_ | refine gw_exit ?_ | refine gw_ret ?_) | ((with_reducible first | refine gif_b (fun hb => ?_) (fun hb => ?_) | refine want_t (fun hb => ?_) (fun hb => ?_) | refine want_f (fun hb => ?_) (fun hb => ?_)) <;> (try simp only [hb]) <;> (try simp only [hpr] at hb))) <;> try simp only [List.map, gop, ev, lk, aenv, gyield, gBin, gInt, gStrOp, gUn, gPick, gNil, gExtract, gIfc, gConvK, gIndexO, gIndexVO, gMakeV, gMinV, gMaxV, isInt, gMin, gMax, gBlt, gLenX, gCallV, gInvoke, gNilM, Array.toList_map, vcells, gField, gIndexV, gPart, reduceIte, Nat.reduceAdd, Nat.reduceSub, Nat.reduceMul, Nat.reduceLT, Nat.reduceLeDiff, Nat.reduceEqDiff, Nat.reduceBEq, Int.reduceLT, Int.reduceLE, Int.reduceGT, Int.reduceGE, Int.reduceEq, Int.reduceNe, Int.reduceAdd, Int.reduceSub, Int.reduceMul, Int.reduceNeg, Int.reduceToNat, Int.reduceBEq, Int.reduceBNe, Int.cast_ofNat_Int, List.getElem?_toArray, stp, Try.underlying23, Try.underlying24, Try.underlying27, Try.underlying29, Try.underlying3, Try.underlying33, Try.underlying44, Try.underlying5, Try.underlying99, ty23, ty24, ty33, ty44, ty99, ty27, ty29, ty3, ty5, rs19]))
  refine new_g fun k9 h9 m9 s9 f9 n9 => ?_
  refine mk_of ?_; repeat' (first | (with_reducible first | refine gw_seq ?_ | refine gw_block ?_) | ((first | (with_reducible refine mk_to ?_) | (with_reducible first | refine gw_region ?_ | refine gw_if ?_ | refine gw_skip ?_ | refine gw_exit ?_ | refine gw_ret ?_) | ((with_reducible first | refine gif_b (fun hb => ?_) (fun hb => ?_) | refine want_t (fun hb => ?_) (fun hb => ?_) | refine want_f (fun hb => ?_) (fun hb => ?_)) <;> (try simp only [hb]) <;> (try simp only [hpr] at hb))) <;> try simp only [List.map, gop, ev, lk, aenv, gyield, gBin, gInt, gStrOp, gUn, gPick, gNil, gExtract, gIfc, gConvK, gIndexO, gIndexVO, gMakeV, gMinV, gMaxV, isInt, gMin, gMax, gBlt, gLenX, gCallV, gInvoke, gNilM, Array.toList_map, vcells, gField, gIndexV, gPart, reduceIte, Nat.reduceAdd, Nat.reduceSub, Nat.reduceMul, Nat.reduceLT, Nat.reduceLeDiff, Nat.reduceEqDiff, Nat.reduceBEq, Int.reduceLT, Int.reduceLE, Int.reduceGT, Int.reduceGE, Int.reduceEq, Int.reduceNe, Int.reduceAdd, Int.reduceSub, Int.reduceMul, Int.reduceNeg, Int.reduceToNat, Int.reduceBEq, Int.reduceBNe, Int.cast_ofNat_Int, List.getElem?_toArray, stp, Try.underlying23, Try.underlying24, Try.underlying27, Try.underlying29, Try.underlying3, Try.underlying33, Try.underlying44, Try.underlying5, Try.underlying99, ty23, ty24, ty33, ty44, ty99, ty27, ty29, ty3, ty5, rs19]))
  refine st_all m9 sz33 rfl (by decide) rfl rfl rfl fun h10 m10 f10 => ?_
  have s10 : HS h8 h10 := (HS.refl h8).upd n9 (fun i hi => (f10 i hi).trans (f9 i hi))
  have x10 := (x7.hs s8).hs s10
  have d1 : (((evOf [[(([97] : List UInt8), ([] : List UInt8))]] (1, 0)).1 : Int) == 1) = true := rfl
  have d2 : (((1 : Nat) : Int) == 1) = true := rfl
  refine mk_of ?_; repeat' (first | (with_reducible first | refine gw_seq ?_ | refine gw_block ?_) | ((first | (with_reducible refine mk_to ?_) | (with_reducible first | refine gw_region ?_ | refine gw_if ?_ | refine gw_skip ?_ | refine gw_exit ?_ | refine gw_ret ?_) | ((with_reducible first | refine gif_b (fun hb => ?_) (fun hb => ?_) | refine want_t (fun hb => ?_) (fun hb => ?_) | refine want_f (fun hb => ?_) (fun hb => ?_)) <;> (try simp only [hb]) <;> (try simp only [hpr] at hb)) | ((refine GTri.mono (c_Last _ x10) ?_); rintro _ _ ⟨rfl, hh9⟩; replace hh9 := hh9.symm; subst hh9)) <;> try simp only [List.map, gop, ev, lk, aenv, gyield, gBin, gInt, gStrOp, gUn, gPick, gNil, gExtract, gIfc, gConvK, gIndexO, gIndexVO, gMakeV, gMinV, gMaxV, isInt, gMin, gMax, gBlt, gLenX, gCallV, gInvoke, gNilM, Array.toList_map, vcells, gField, gIndexV, gPart, reduceIte, Nat.reduceAdd, Nat.reduceSub, Nat.reduceMul, Nat.reduceLT, Nat.reduceLeDiff, Nat.reduceEqDiff, Nat.reduceBEq, Int.reduceLT, Int.reduceLE, Int.reduceGT, Int.reduceGE, Int.reduceEq, Int.reduceNe, Int.reduceAdd, Int.reduceSub, Int.reduceMul, Int.reduceNeg, Int.reduceToNat, Int.reduceBEq, Int.reduceBNe, Int.cast_ofNat_Int, List.getElem?_toArray, stp, Try.underlying23, Try.underlying24, Try.underlying27, Try.underlying29, Try.underlying3, Try.underlying33, Try.underlying44, Try.underlying5, Try.underlying99, ty23, ty24, ty33, ty44, ty99, ty27, ty29, ty3, ty5, rs19, gPick, gload1 m10 sz3, d1, d2, List.getElem?_cons_zero, List.length_nil, List.length_singleton, List.nil_append]))
  all_goals exact ((s5.trans s7).trans s8).trans s10
end Go.Gh

/- Versions: what stays so. -/

namespace Go.Gh
open Go Go.Proofs Go.RowKit
set_option linter.unusedVariables false
set_option linter.unusedSimpArgs false
set_option maxRecDepth 100000
set_option maxHeartbeats 2000000

theorem Upto.cut {s t : List (Nat × Nat)} {e : Int} {n : Nat} (ht : ∀ p ∈ t, e < (p.1 : Int)) (u : Upto (s ++ t) e n) : Upto s e n := by
  refine ⟨?_, fun i p hp => ?_⟩
  · rcases Nat.lt_or_ge s.length n with h | h
    · exfalso
      have hlt : s.length < (s ++ t).length := Nat.lt_of_lt_of_le h u.1
      have hx : (s ++ t)[s.length]? = some (s ++ t)[s.length] := List.getElem?_eq_getElem hlt
      have := (u.2 _ _ hx).1 h
      rw [List.getElem?_append_right (Nat.le_refl _)] at hx
      have := ht _ (List.mem_of_getElem? hx)
      omega
    · exact h
  · have hi := (List.getElem?_eq_some_iff.1 hp).1
    exact u.2 i p (by rw [List.getElem?_append_left hi]; exact hp)
/-- An event, or none. -/
def AtEv (B : List (List Bnd)) (s : List (Nat × Nat)) (n : Nat) : (Nat × Nat × Bnd) × Bool := if n = 0 then ((0, 0, [], []), false) else (evOf B ((s[n - 1]?).getD (0, 0)), true)
theorem AtIs.ev {B : List (List Bnd)} {s : List (Nat × Nat)} {e : Int} {v : Value} {h : GH} (a : AtIs B s e v h) : ∃ n cs, Upto s e n ∧ v = .tuple #[.agg cs.toArray, .bool (AtEv B s n).2] ∧ Ev h cs (AtEv B s n).1 := by
  obtain ⟨n, u, a⟩ := a
  rcases a with ⟨rfl, rfl⟩ | ⟨p, cs, hn, hp, rfl, ev⟩
  · exact ⟨0, _, u, rfl, none, 0, none, 0, rfl, .inl ⟨0, rfl, rfl⟩, .inl ⟨0, rfl, rfl⟩⟩
  · refine ⟨n, cs, u, ?_, ?_⟩
    · simp [AtEv, hn]
    · simp only [AtEv, if_neg hn, hp, Option.getD_some]; exact ev
/-- A batch among an argument's. -/
def Bl (h : GH) (cs : List Value) (b : List Bnd) : Prop := ∃ a c, cs = [.slice a b.length c] ∧ RL 2 Bd h (.slice a b.length c) b
theorem Bl.hs {h h' : GH} (s : HS h h') {cs : List Value} {b : List Bnd} (r : Bl h cs b) : Bl h' cs b := by
  obtain ⟨a, c, e, r⟩ := r
  exact ⟨a, c, e, r.bs s⟩
/-- A batch as handed in: its first ten, each of a length that there is. -/
def small (b : List Bnd) : Prop := ∀ p ∈ b, p.1.length ≤ 140737488355328 ∧ p.2.length ≤ 140737488355328
theorem RL.ten {h : GH} {a : Option Addr} {c : Nat} {b : List Bnd} (r : RL 2 Bd h (.slice a b.length c) b) :
    ∃ a' c', gSlice Try.prog 23 h (.slice a b.length c) none (some (.int .i64 ((min b.length 10 : Nat) : Int))) none = some (.slice a' (b.take (min b.length 10)).length c') ∧ RL 2 Bd h (.slice a' (b.take (min b.length 10)).length c') (b.take (min b.length 10)) := by
  have hl : (b.take (min b.length 10)).length = min b.length 10 := by simp
  rw [hl]
  exact r.cut Try.underlying23 sz99 (Nat.min_le_left _ _)

theorem Ev.fk {k j : Nat} {h h' : GH} (x : FK k j h h') {cs : List Value} {e : Nat × Nat × Bnd} (r : Ev h cs e) : Ev h' cs e := by
  obtain ⟨a, c, b, d, e, r1, r2⟩ := r
  exact ⟨a, c, b, d, e, x.2 _ _ r1, x.2 _ _ r2⟩
theorem Evs.fk {k j : Nat} {h0 h h' : GH} (x : FK k j h h') {B1 B2 : GB} (e1 : h k = some B1) (z1 : B1.es = 0) (e2 : h (j + 1) = some B2) (z2 : B2.es = 0) {v : Value} {L : List (Nat × Nat × Bnd)} (r : Evs h0 h v L) : Evs h0 h' v L := by
  obtain ⟨ds, o, u, r⟩ := r
  refine ⟨ds, ?_, u, fun i p hp => (r i p hp).fk x⟩
  rcases o with o | o | ⟨kb, c, h1, h2, h3, h4, h5, h6, h7⟩
  · exact .inl o
  · exact .inr (.inl o)
  · refine .inr (.inr ⟨kb, c, h1, h2, h3, h4, h5, x.1 _ _ h6 ?_ ?_ (by simp), h7⟩)
    · rintro rfl; rw [e1] at h6; cases h6; simp at z1
    · rintro rfl; rw [e2] at h6; cases h6; simp at z2

end Go.Gh

/- Versions: the law's arguments. -/

namespace Go.Gh
open Go Go.Proofs Go.RowKit
set_option linter.unusedVariables false
set_option linter.unusedSimpArgs false
set_option maxRecDepth 100000
set_option maxHeartbeats 1000000

abbrev bdTy : Ty := .fcons .bs (.fcons .bs .fnil)
abbrev qTy : Ty := .fcons .bs (.fcons (.i .i64) (.fcons (.i .i64) .fnil))
theorem bats_ok : Ty.ok Try.prog (.sl (.sl bdTy)) 22 = true := by kernel_rfl
def toB (x : bdTy.den) : Bnd := (x.1, x.2.1)
theorem bd_R {h : GH} {cs : List Value} {x : bdTy.den} (r : bdTy.R h cs x) : Bd h cs (toB x) := by
  obtain ⟨y1, y2, y3⟩ := x
  obtain ⟨c1, c2, rfl, _, ⟨v, rfl, r1, _⟩, c3, c4, rfl, _, ⟨w, rfl, r2, _⟩, rfl⟩ := r
  obtain ⟨a, c, rfl, _⟩ := r1.form
  obtain ⟨b, d, rfl, _⟩ := r2.form
  exact ⟨_, _, _, _, _, _, rfl, r1, r2⟩
theorem bat_R {h : GH} {v : Value} {l : List bdTy.den} (r : RL 2 bdTy.R h v l) : RL 2 Bd h v (l.map toB) := RL.map (R' := Bd) r _ fun cs x hx => bd_R hx
theorem bl_R {h : GH} {cs : List Value} {l : List bdTy.den} (r : Ty.R (.sl bdTy) h cs l) : Bl h cs (l.map toB) := by
  obtain ⟨v, rfl, r, _⟩ := r
  have r' := bat_R r
  obtain ⟨a, c, rfl, _⟩ := r'.form
  exact ⟨a, c, rfl, r'⟩
theorem bat_fits {l : List bdTy.den} (f : Ty.fits (.sl bdTy) l) : small (l.map toB) ∧ (l.map toB).length ≤ 140737488355328 := by
  refine ⟨fun p hp => ?_, ?_⟩
  · obtain ⟨z, hz, rfl⟩ := List.mem_map.1 hp
    have f2 : List.length z.1 ≤ 140737488351232 ∧ List.length z.2.1 ≤ 140737488351232 := ⟨(f.2 z hz).1, (f.2 z hz).2.1⟩
    exact ⟨Nat.le_trans f2.1 (by decide), Nat.le_trans f2.2 (by decide)⟩
  · have f1 : List.length l ≤ 140737488351232 := f.1
    exact Nat.le_trans (Nat.le_of_eq (List.length_map _)) (Nat.le_trans f1 (by decide))
section
variable {H : Type} {enc : TypeId × Value → H} {W : World} {base b0 : Nat} {v : Value} {d : DataW H} {ps : List MemPlace} {r : Reach}
theorem arg_bats (h : DataW.Trod enc Try.prog W base (fun _ => true) true 22 v d ps) (hok : Value.okWide Try.prog W r b0 22 v) :
    ∃ (l : List (List Bnd)) (a : Option Addr) (c : Nat), up W.heap.size v = .slice a l.length c ∧ RL 1 Bl (h0 W) (.slice a l.length c) l ∧ ((∀ n ∈ d.weights Try.prog 22, n ≤ reachBytes) → l.length ≤ 140737488355328 ∧ ∀ x ∈ l, small x ∧ x.length ≤ 140737488355328) := by
  obtain ⟨l, a, c, e, R, _, _, f⟩ := arg_sl (.sl bdTy) bats_ok h hok
  have hl : (l.map fun x : List bdTy.den => x.map toB).length = l.length := List.length_map _
  refine ⟨l.map fun x : List bdTy.den => x.map toB, a, c, by rw [hl]; exact e, by rw [hl]; exact RL.map (R' := Bl) R _ fun cs x hx => bl_R hx, fun w => ?_⟩
  have f := f w
  refine ⟨by rw [hl]; exact Nat.le_trans f.1 (by decide), fun x hx => ?_⟩
  obtain ⟨z, hz, rfl⟩ := List.mem_map.1 hx
  exact bat_fits (f.2 z hz)
end
end Go.Gh

/- Versions: an index that no call made. -/

namespace Go.Gh
open Go Go.Proofs Go.RowKit
set_option linter.unusedVariables false
set_option linter.unusedSimpArgs false
set_option maxRecDepth 100000
set_option maxHeartbeats 2000000

/-- An index that no call made. -/
def Nob (h : GH) (x : Value) : Prop := x = .pointer none ∨ ∃ k r es w t, x = .pointer (some ⟨k, 0, none⟩) ∧ h k = some ⟨.bool false :: r, es, w, t⟩
theorem Nob.hs {h h' : GH} {x : Value} (n : Nob h x) (s : HS h h') : Nob h' x := by
  rcases n with n | ⟨k, r, es, w, t, e, m⟩
  · exact .inl n
  · exact .inr ⟨k, r, es, w, t, e, s _ _ m⟩
end Go.Gh

/- The library's sort, laid at two of the program's functions. -/

namespace Go.Gh
open Go Go.Proofs Go.RowKit Go.Shelf Go.Sort
set_option linter.unusedVariables false
set_option linter.unusedSimpArgs false
set_option maxRecDepth 100000
def sortV_ren : Ren where
  f := fun x => match x with
    | 6 => 57
    | 15 => 99
    | 14 => 98
    | 28 => 129
    | 29 => 130
    | 20 => 121
    | 21 => 122
    | 22 => 123
    | 23 => 124
    | 24 => 125
    | 25 => 126
    | 26 => 127
    | 27 => 128
    | 46 => 139
    | 47 => 140
    | 48 => 141
    | 49 => 142
    | 50 => 143
    | 57 => 157
    | n => n
  t := fun x => match x with
    | 22 => 113
    | 24 => 115
    | 25 => 119
    | 3 => 3
    | 39 => 56
    | 0 => 0
    | 53 => 171
    | 55 => 173
    | 4 => 4
    | 46 => 165
    | 45 => 164
    | 50 => 141
    | 5 => 5
    | 9 => 9
    | 66 => 181
    | 70 => 185
    | 76 => 193
    | 77 => 194
    | n => n
  g := fun n => n
theorem sortV_lays : SlLaysF0.n6 Try.prog sortV_ren where
  mixed := by kernel_rfl
  f6 := ⟨"slices.SortFunc[[]annals/versions.first,annals/versions.first]", by decide, Eq.trans Try.func57 (by kernel_rfl)⟩
  f14 := ⟨"slices.pdqsortCmpFunc[annals/versions.first]", by decide, Eq.trans Try.func98 (by kernel_rfl)⟩
  f15 := Eq.trans Try.func99 (by kernel_rfl)
  f20 := ⟨"slices.insertionSortCmpFunc[annals/versions.first]", by decide, Eq.trans Try.func121 (by kernel_rfl)⟩
  f21 := ⟨"slices.heapSortCmpFunc[annals/versions.first]", by decide, Eq.trans Try.func122 (by kernel_rfl)⟩
  f22 := ⟨"slices.breakPatternsCmpFunc[annals/versions.first]", by decide, Eq.trans Try.func123 (by kernel_rfl)⟩
  f23 := ⟨"slices.choosePivotCmpFunc[annals/versions.first]", by decide, Eq.trans Try.func124 (by kernel_rfl)⟩
  f24 := ⟨"slices.reverseRangeCmpFunc[annals/versions.first]", by decide, Eq.trans Try.func125 (by kernel_rfl)⟩
  f25 := ⟨"slices.partialInsertionSortCmpFunc[annals/versions.first]", by decide, Eq.trans Try.func126 (by kernel_rfl)⟩
  f26 := ⟨"slices.partitionEqualCmpFunc[annals/versions.first]", by decide, Eq.trans Try.func127 (by kernel_rfl)⟩
  f27 := ⟨"slices.partitionCmpFunc[annals/versions.first]", by decide, Eq.trans Try.func128 (by kernel_rfl)⟩
  f28 := Eq.trans Try.func129 (by kernel_rfl)
  f29 := Eq.trans Try.func130 (by kernel_rfl)
  f46 := ⟨"slices.siftDownCmpFunc[annals/versions.first]", by decide, Eq.trans Try.func139 (by kernel_rfl)⟩
  f47 := Eq.trans Try.func140 (by kernel_rfl)
  f48 := Eq.trans Try.func141 (by kernel_rfl)
  f49 := ⟨"slices.medianAdjacentCmpFunc[annals/versions.first]", by decide, Eq.trans Try.func142 (by kernel_rfl)⟩
  f50 := ⟨"slices.medianCmpFunc[annals/versions.first]", by decide, Eq.trans Try.func143 (by kernel_rfl)⟩
  f57 := ⟨"slices.order2CmpFunc[annals/versions.first]", by decide, Eq.trans Try.func157 (by kernel_rfl)⟩
  t0 := Try.underlying0
  a0 := Try.isAgg0
  z0 := Try.sizeOf0
  v0 := Try.zeroValue0
  t3 := Try.underlying3
  a3 := Try.isAgg3
  z3 := Try.sizeOf3
  v3 := Try.zeroValue3
  t4 := Try.underlying4
  a4 := Try.isAgg4
  z4 := Try.sizeOf4
  v4 := Try.zeroValue4
  t5 := Try.underlying5
  a5 := Try.isAgg5
  z5 := Try.sizeOf5
  v5 := Try.zeroValue5
  t9 := Try.underlying9
  a9 := Try.isAgg9
  z9 := Try.sizeOf9
  v9 := Try.zeroValue9
  t22 := Try.underlying113
  a22 := Try.isAgg113
  z22 := Try.sizeOf113
  v22 := Try.zeroValue113
  t25 := Try.underlying119
  a25 := Try.isAgg119
  z25 := Try.sizeOf119
  v25 := Try.zeroValue119
  t39 := Try.underlying56
  a39 := Try.isAgg56
  z39 := Try.sizeOf56
  v39 := Try.zeroValue56
  t45 := Try.underlying164
  a45 := Try.isAgg164
  z45 := Try.sizeOf164
  v45 := Try.zeroValue164
  t46 := Try.underlying165
  a46 := Try.isAgg165
  z46 := Try.sizeOf165
  v46 := Try.zeroValue165
  t50 := Try.underlying141
  a50 := Try.isAgg141
  z50 := Try.sizeOf141
  v50 := Try.zeroValue141
  t53 := Try.underlying171
  a53 := Try.isAgg171
  z53 := Try.sizeOf171
  v53 := Try.zeroValue171
  t55 := Try.underlying173
  a55 := Try.isAgg173
  z55 := Try.sizeOf173
  v55 := Try.zeroValue173
  t66 := Try.underlying181
  a66 := Try.isAgg181
  z66 := Try.sizeOf181
  v66 := Try.zeroValue181
  t70 := Try.underlying185
  a70 := Try.isAgg185
  z70 := Try.sizeOf185
  v70 := Try.zeroValue185
  t76 := Try.underlying193
  a76 := Try.isAgg193
  z76 := Try.sizeOf193
  v76 := Try.zeroValue193
  t77 := Try.underlying194
  a77 := Try.isAgg194
  z77 := Try.sizeOf194
  v77 := Try.zeroValue194
def sortI_ren : Ren where
  f := fun x => match x with
    | 6 => 111
    | 15 => 99
    | 14 => 136
    | 28 => 129
    | 29 => 130
    | 20 => 148
    | 21 => 149
    | 22 => 150
    | 23 => 151
    | 24 => 152
    | 25 => 153
    | 26 => 154
    | 27 => 155
    | 46 => 158
    | 47 => 140
    | 48 => 141
    | 49 => 159
    | 50 => 160
    | 57 => 161
    | n => n
  t := fun x => match x with
    | 22 => 68
    | 24 => 97
    | 25 => 157
    | 3 => 3
    | 39 => 56
    | 0 => 0
    | 53 => 171
    | 55 => 173
    | 4 => 4
    | 46 => 165
    | 45 => 164
    | 50 => 141
    | 5 => 5
    | 9 => 9
    | 66 => 181
    | 70 => 185
    | 76 => 193
    | 77 => 194
    | n => n
  g := fun n => n
theorem sortI_lays : SlLaysF0.n6 Try.prog sortI_ren where
  mixed := by kernel_rfl
  f6 := ⟨"slices.SortFunc[[]annals/api.Item,annals/api.Item]", by decide, Eq.trans Try.func111 (by kernel_rfl)⟩
  f14 := ⟨"slices.pdqsortCmpFunc[annals/api.Item]", by decide, Eq.trans Try.func136 (by kernel_rfl)⟩
  f15 := Eq.trans Try.func99 (by kernel_rfl)
  f20 := ⟨"slices.insertionSortCmpFunc[annals/api.Item]", by decide, Eq.trans Try.func148 (by kernel_rfl)⟩
  f21 := ⟨"slices.heapSortCmpFunc[annals/api.Item]", by decide, Eq.trans Try.func149 (by kernel_rfl)⟩
  f22 := ⟨"slices.breakPatternsCmpFunc[annals/api.Item]", by decide, Eq.trans Try.func150 (by kernel_rfl)⟩
  f23 := ⟨"slices.choosePivotCmpFunc[annals/api.Item]", by decide, Eq.trans Try.func151 (by kernel_rfl)⟩
  f24 := ⟨"slices.reverseRangeCmpFunc[annals/api.Item]", by decide, Eq.trans Try.func152 (by kernel_rfl)⟩
  f25 := ⟨"slices.partialInsertionSortCmpFunc[annals/api.Item]", by decide, Eq.trans Try.func153 (by kernel_rfl)⟩
  f26 := ⟨"slices.partitionEqualCmpFunc[annals/api.Item]", by decide, Eq.trans Try.func154 (by kernel_rfl)⟩
  f27 := ⟨"slices.partitionCmpFunc[annals/api.Item]", by decide, Eq.trans Try.func155 (by kernel_rfl)⟩
  f28 := Eq.trans Try.func129 (by kernel_rfl)
  f29 := Eq.trans Try.func130 (by kernel_rfl)
  f46 := ⟨"slices.siftDownCmpFunc[annals/api.Item]", by decide, Eq.trans Try.func158 (by kernel_rfl)⟩
  f47 := Eq.trans Try.func140 (by kernel_rfl)
  f48 := Eq.trans Try.func141 (by kernel_rfl)
  f49 := ⟨"slices.medianAdjacentCmpFunc[annals/api.Item]", by decide, Eq.trans Try.func159 (by kernel_rfl)⟩
  f50 := ⟨"slices.medianCmpFunc[annals/api.Item]", by decide, Eq.trans Try.func160 (by kernel_rfl)⟩
  f57 := ⟨"slices.order2CmpFunc[annals/api.Item]", by decide, Eq.trans Try.func161 (by kernel_rfl)⟩
  t0 := Try.underlying0
  a0 := Try.isAgg0
  z0 := Try.sizeOf0
  v0 := Try.zeroValue0
  t3 := Try.underlying3
  a3 := Try.isAgg3
  z3 := Try.sizeOf3
  v3 := Try.zeroValue3
  t4 := Try.underlying4
  a4 := Try.isAgg4
  z4 := Try.sizeOf4
  v4 := Try.zeroValue4
  t5 := Try.underlying5
  a5 := Try.isAgg5
  z5 := Try.sizeOf5
  v5 := Try.zeroValue5
  t9 := Try.underlying9
  a9 := Try.isAgg9
  z9 := Try.sizeOf9
  v9 := Try.zeroValue9
  t22 := Try.underlying68
  a22 := Try.isAgg68
  z22 := Try.sizeOf68
  v22 := Try.zeroValue68
  t25 := Try.underlying157
  a25 := Try.isAgg157
  z25 := Try.sizeOf157
  v25 := Try.zeroValue157
  t39 := Try.underlying56
  a39 := Try.isAgg56
  z39 := Try.sizeOf56
  v39 := Try.zeroValue56
  t45 := Try.underlying164
  a45 := Try.isAgg164
  z45 := Try.sizeOf164
  v45 := Try.zeroValue164
  t46 := Try.underlying165
  a46 := Try.isAgg165
  z46 := Try.sizeOf165
  v46 := Try.zeroValue165
  t50 := Try.underlying141
  a50 := Try.isAgg141
  z50 := Try.sizeOf141
  v50 := Try.zeroValue141
  t53 := Try.underlying171
  a53 := Try.isAgg171
  z53 := Try.sizeOf171
  v53 := Try.zeroValue171
  t55 := Try.underlying173
  a55 := Try.isAgg173
  z55 := Try.sizeOf173
  v55 := Try.zeroValue173
  t66 := Try.underlying181
  a66 := Try.isAgg181
  z66 := Try.sizeOf181
  v66 := Try.zeroValue181
  t70 := Try.underlying185
  a70 := Try.isAgg185
  z70 := Try.sizeOf185
  v70 := Try.zeroValue185
  t76 := Try.underlying193
  a76 := Try.isAgg193
  z76 := Try.sizeOf193
  v76 := Try.zeroValue193
  t77 := Try.underlying194
  a77 := Try.isAgg194
  z77 := Try.sizeOf194
  v77 := Try.zeroValue194
end Go.Gh

/- Contracts of slices.Grow, slices.Concat, and of the keys' bits. -/
namespace Go.Gh
open Go Go.Proofs Go.RowKit
set_option linter.unusedVariables false
set_option linter.unusedSimpArgs false
set_option maxRecDepth 100000

theorem c_Grow (N : Nat) (h : GH) (s : Nat) (hs : s ≤ 140737488355328) : GTri Try.prog N 144 [.slice none 0 0, .int .i64 s] h fun v h' => HS h h' ∧ ((s = 0 ∧ v = .slice none 0 0) ∨ (0 < s ∧ ∃ k, v = .slice (some ⟨k, 0, none⟩) 0 (2 * s) ∧ h k = none ∧ BUF h' k s [])) := by
  have w1 : IntKind.i64.wrap ((s : Int) - 0) = s := by rw [Int.sub_zero]; exact wrap_nat (by omega)
  refine gtri Try.func144 rfl gf144 ok144 (by simp [Try.ntmps144]) ?_
  by_cases h0 : s = 0
  · subst h0
    repeat' (first | (with_reducible first | refine gw_seq ?_ | refine gw_block ?_) | ((first | (with_reducible first | refine gw_region ?_ | refine gw_if ?_ | refine gw_skip ?_ | refine gw_exit ?_ | refine gw_ret ?_) | ((with_reducible first | refine gif_b (fun hb => ?_) (fun hb => ?_) | refine want_t (fun hb => ?_) (fun hb => ?_) | refine want_f (fun hb => ?_) (fun hb => ?_)) <;> (try simp only [hb]))) <;> try simp only [List.map, gop, ev, lk, aenv, gyield, gBin, gInt, gStrOp, gUn, gPick, gNil, gExtract, gIfc, gConvK, gIndexO, gIndexVO, gMakeV, gMinV, gMaxV, isInt, gMin, gMax, gBlt, gLenX, gCallV, gInvoke, gNilM, Array.toList_map, vcells, gField, gIndexV, gPart, reduceIte, Nat.reduceAdd, Nat.reduceSub, Nat.reduceMul, Nat.reduceLT, Nat.reduceLeDiff, Nat.reduceEqDiff, Nat.reduceBEq, Int.reduceLT, Int.reduceLE, Int.reduceGT, Int.reduceGE, Int.reduceEq, Int.reduceNe, Int.reduceAdd, Int.reduceSub, Int.reduceMul, Int.reduceNeg, Int.reduceToNat, Int.reduceBEq, Int.reduceBNe, Int.cast_ofNat_Int, List.getElem?_toArray, stp, Try.underlying24, Try.underlying3, Try.underlying5, Try.underlying9, ty24, ty3, ty5, ty9, rs144, gCap_nil]))
    exact ⟨HS.refl h, .inl trivial⟩
  · have d0 : decide ((s : Int) > 0) = true := decide_eq_true (by omega)
    repeat' (first | (with_reducible first | refine gw_seq ?_ | refine gw_block ?_) | ((first | (with_reducible first | refine gw_region ?_ | refine gw_if ?_ | refine gw_skip ?_ | refine gw_exit ?_ | refine gw_ret ?_) | ((with_reducible first | refine gif_b (fun hb => ?_) (fun hb => ?_) | refine want_t (fun hb => ?_) (fun hb => ?_) | refine want_f (fun hb => ?_) (fun hb => ?_)) <;> (try simp only [hb]))) <;> try simp only [List.map, gop, ev, lk, aenv, gyield, gBin, gInt, gStrOp, gUn, gPick, gNil, gExtract, gIfc, gConvK, gIndexO, gIndexVO, gMakeV, gMinV, gMaxV, isInt, gMin, gMax, gBlt, gLenX, gCallV, gInvoke, gNilM, Array.toList_map, vcells, gField, gIndexV, gPart, reduceIte, Nat.reduceAdd, Nat.reduceSub, Nat.reduceMul, Nat.reduceLT, Nat.reduceLeDiff, Nat.reduceEqDiff, Nat.reduceBEq, Int.reduceLT, Int.reduceLE, Int.reduceGT, Int.reduceGE, Int.reduceEq, Int.reduceNe, Int.reduceAdd, Int.reduceSub, Int.reduceMul, Int.reduceNeg, Int.reduceToNat, Int.reduceBEq, Int.reduceBNe, Int.cast_ofNat_Int, List.getElem?_toArray, stp, Try.underlying24, Try.underlying3, Try.underlying5, Try.underlying9, ty24, ty3, ty5, ty9, rs144, gCap_nil, dec_neg, d0, w1, gSlice_nil Try.underlying24 sz5]))
    refine append_noughts el24 Try.underlying3 (by omega) hs fun k h' hb hS hk => ?_
    simp only [List.map, gop, ev, lk, aenv, gyield, gBin, gInt, gStrOp, gUn, gPick, gNil, gExtract, gIfc, gConvK, gIndexO, gIndexVO, gMakeV, gMinV, gMaxV, isInt, gMin, gMax, gBlt, gLenX, gCallV, gInvoke, gNilM, Array.toList_map, vcells, gField, gIndexV, gPart, reduceIte, Nat.reduceAdd, Nat.reduceSub, Nat.reduceMul, Nat.reduceLT, Nat.reduceLeDiff, Nat.reduceEqDiff, Nat.reduceBEq, Int.reduceLT, Int.reduceLE, Int.reduceGT, Int.reduceGE, Int.reduceEq, Int.reduceNe, Int.reduceAdd, Int.reduceSub, Int.reduceMul, Int.reduceNeg, Int.reduceToNat, Int.reduceBEq, Int.reduceBNe, Int.cast_ofNat_Int, List.getElem?_toArray, stp, Try.underlying24, Try.underlying3, Try.underlying5, Try.underlying9, ty24, ty3, ty5, ty9, rs144, gSlice_zero Try.underlying24 sz5]
    repeat' (first | (with_reducible first | refine gw_seq ?_ | refine gw_block ?_) | ((first | (with_reducible first | refine gw_region ?_ | refine gw_if ?_ | refine gw_skip ?_ | refine gw_exit ?_ | refine gw_ret ?_) | ((with_reducible first | refine gif_b (fun hb => ?_) (fun hb => ?_) | refine want_t (fun hb => ?_) (fun hb => ?_) | refine want_f (fun hb => ?_) (fun hb => ?_)) <;> (try simp only [hb]))) <;> try simp only [List.map, gop, ev, lk, aenv, gyield, gBin, gInt, gStrOp, gUn, gPick, gNil, gExtract, gIfc, gConvK, gIndexO, gIndexVO, gMakeV, gMinV, gMaxV, isInt, gMin, gMax, gBlt, gLenX, gCallV, gInvoke, gNilM, Array.toList_map, vcells, gField, gIndexV, gPart, reduceIte, Nat.reduceAdd, Nat.reduceSub, Nat.reduceMul, Nat.reduceLT, Nat.reduceLeDiff, Nat.reduceEqDiff, Nat.reduceBEq, Int.reduceLT, Int.reduceLE, Int.reduceGT, Int.reduceGE, Int.reduceEq, Int.reduceNe, Int.reduceAdd, Int.reduceSub, Int.reduceMul, Int.reduceNeg, Int.reduceToNat, Int.reduceBEq, Int.reduceBNe, Int.cast_ofNat_Int, List.getElem?_toArray, stp, Try.underlying24, Try.underlying3, Try.underlying5, Try.underlying9, ty24, ty3, ty5, ty9, rs144]))
    exact ⟨hS, .inr ⟨by omega, k, rfl, hk, hb⟩⟩

theorem c_Concat2 (N : Nat) (h : GH) {k es : Nat} {wr tl : Bool} {a b : Option Addr} {n m c d : Nat} {l1 l2 : List UInt8} (hk : h k = some ⟨[.slice a n c, .slice b m d], es, wr, tl⟩) (r1 : RB h (.slice a n c) l1) (r2 : RB h (.slice b m d) l2) (hn : n = l1.length) (hm : m = l2.length)
    (hs : l1.length + l2.length ≤ 140737488355328) : GTri Try.prog N 132 [.slice (some ⟨k, 0, none⟩) 2 5] h fun v h' => HS h h' ∧ ∃ a' c', v = .slice a' (l1.length + l2.length) c' ∧ RB h' v (l1 ++ l2) ∧ AP h h' v 1 := by
  subst hn; subst hm
  have w1 : IntKind.i64.wrap (0 + (l1.length : Int)) = l1.length := by rw [Int.zero_add]; exact wrap_nat (by omega)
  have w2 : IntKind.i64.wrap ((l1.length : Int) + (l2.length : Int)) = ((l1.length + l2.length : Nat) : Int) := wrap_add (by omega)
  have i0 : gIndex Try.prog 47 (.slice (some ⟨k, 0, none⟩) 2 5) 0 = some (.pointer (some ⟨k, 0, none⟩)) := by simp [gIndex, Try.underlying47, sz24]
  have i1 : gIndex Try.prog 47 (.slice (some ⟨k, 0, none⟩) 2 5) 1 = some (.pointer (some ⟨k, 1, none⟩)) := by simp [gIndex, Try.underlying47, sz24]
  refine gtri Try.func132 rfl gf132 ok132 (by simp [Try.ntmps132]) ?_
  repeat' (first | (with_reducible first | refine gw_seq ?_ | refine gw_block ?_) | ((first | (with_reducible first | refine gw_region ?_ | refine gw_if ?_ | refine gw_skip ?_ | refine gw_exit ?_ | refine gw_ret ?_) | ((with_reducible first | refine gif_b (fun hb => ?_) (fun hb => ?_) | refine want_t (fun hb => ?_) (fun hb => ?_) | refine want_f (fun hb => ?_) (fun hb => ?_)) <;> (try simp only [hb]))) <;> try simp only [List.map, gop, ev, lk, aenv, gyield, gBin, gInt, gStrOp, gUn, gPick, gNil, gExtract, gIfc, gConvK, gIndexO, gIndexVO, gMakeV, gMinV, gMaxV, isInt, gMin, gMax, gBlt, gLenX, gCallV, gInvoke, gNilM, Array.toList_map, vcells, gField, gIndexV, gPart, reduceIte, Nat.reduceAdd, Nat.reduceSub, Nat.reduceMul, Nat.reduceLT, Nat.reduceLeDiff, Nat.reduceEqDiff, Nat.reduceBEq, Int.reduceLT, Int.reduceLE, Int.reduceGT, Int.reduceGE, Int.reduceEq, Int.reduceNe, Int.reduceAdd, Int.reduceSub, Int.reduceMul, Int.reduceNeg, Int.reduceToNat, Int.reduceBEq, Int.reduceBNe, Int.cast_ofNat_Int, List.getElem?_toArray, stp, Try.underlying24, Try.underlying3, Try.underlying47, Try.underlying5, Try.underlying9, ty24, ty47, ty3, ty5, ty9, rs132]))
  refine gw_unroll (gl_round ?_)
  repeat' (first | (with_reducible first | refine gw_seq ?_ | refine gw_block ?_) | ((first | (with_reducible first | refine gw_region ?_ | refine gw_if ?_ | refine gw_skip ?_ | refine gw_exit ?_ | refine gw_ret ?_) | ((with_reducible first | refine gif_b (fun hb => ?_) (fun hb => ?_) | refine want_t (fun hb => ?_) (fun hb => ?_) | refine want_f (fun hb => ?_) (fun hb => ?_)) <;> (try simp only [hb]))) <;> try simp only [List.map, gop, ev, lk, aenv, gyield, gBin, gInt, gStrOp, gUn, gPick, gNil, gExtract, gIfc, gConvK, gIndexO, gIndexVO, gMakeV, gMinV, gMaxV, isInt, gMin, gMax, gBlt, gLenX, gCallV, gInvoke, gNilM, Array.toList_map, vcells, gField, gIndexV, gPart, reduceIte, Nat.reduceAdd, Nat.reduceSub, Nat.reduceMul, Nat.reduceLT, Nat.reduceLeDiff, Nat.reduceEqDiff, Nat.reduceBEq, Int.reduceLT, Int.reduceLE, Int.reduceGT, Int.reduceGE, Int.reduceEq, Int.reduceNe, Int.reduceAdd, Int.reduceSub, Int.reduceMul, Int.reduceNeg, Int.reduceToNat, Int.reduceBEq, Int.reduceBNe, Int.cast_ofNat_Int, List.getElem?_toArray, stp, Try.underlying24, Try.underlying3, Try.underlying47, Try.underlying5, Try.underlying9, ty24, ty47, ty3, ty5, ty9, rs132, i0, gload1 hk sz24, w1, dec_neg]))
  refine gl_round ?_
  repeat' (first | (with_reducible first | refine gw_seq ?_ | refine gw_block ?_) | ((first | (with_reducible first | refine gw_region ?_ | refine gw_if ?_ | refine gw_skip ?_ | refine gw_exit ?_ | refine gw_ret ?_) | ((with_reducible first | refine gif_b (fun hb => ?_) (fun hb => ?_) | refine want_t (fun hb => ?_) (fun hb => ?_) | refine want_f (fun hb => ?_) (fun hb => ?_)) <;> (try simp only [hb]))) <;> try simp only [List.map, gop, ev, lk, aenv, gyield, gBin, gInt, gStrOp, gUn, gPick, gNil, gExtract, gIfc, gConvK, gIndexO, gIndexVO, gMakeV, gMinV, gMaxV, isInt, gMin, gMax, gBlt, gLenX, gCallV, gInvoke, gNilM, Array.toList_map, vcells, gField, gIndexV, gPart, reduceIte, Nat.reduceAdd, Nat.reduceSub, Nat.reduceMul, Nat.reduceLT, Nat.reduceLeDiff, Nat.reduceEqDiff, Nat.reduceBEq, Int.reduceLT, Int.reduceLE, Int.reduceGT, Int.reduceGE, Int.reduceEq, Int.reduceNe, Int.reduceAdd, Int.reduceSub, Int.reduceMul, Int.reduceNeg, Int.reduceToNat, Int.reduceBEq, Int.reduceBNe, Int.cast_ofNat_Int, List.getElem?_toArray, stp, Try.underlying24, Try.underlying3, Try.underlying47, Try.underlying5, Try.underlying9, ty24, ty47, ty3, ty5, ty9, rs132, i1, gload1 hk sz24, w2, dec_neg]))
  refine gl_round ?_
  repeat' (first | (with_reducible first | refine gw_seq ?_ | refine gw_block ?_) | ((first | (with_reducible first | refine gw_region ?_ | refine gw_if ?_ | refine gw_skip ?_ | refine gw_exit ?_ | refine gw_ret ?_) | ((with_reducible first | refine gif_b (fun hb => ?_) (fun hb => ?_) | refine want_t (fun hb => ?_) (fun hb => ?_) | refine want_f (fun hb => ?_) (fun hb => ?_)) <;> (try simp only [hb]))) <;> try simp only [List.map, gop, ev, lk, aenv, gyield, gBin, gInt, gStrOp, gUn, gPick, gNil, gExtract, gIfc, gConvK, gIndexO, gIndexVO, gMakeV, gMinV, gMaxV, isInt, gMin, gMax, gBlt, gLenX, gCallV, gInvoke, gNilM, Array.toList_map, vcells, gField, gIndexV, gPart, reduceIte, Nat.reduceAdd, Nat.reduceSub, Nat.reduceMul, Nat.reduceLT, Nat.reduceLeDiff, Nat.reduceEqDiff, Nat.reduceBEq, Int.reduceLT, Int.reduceLE, Int.reduceGT, Int.reduceGE, Int.reduceEq, Int.reduceNe, Int.reduceAdd, Int.reduceSub, Int.reduceMul, Int.reduceNeg, Int.reduceToNat, Int.reduceBEq, Int.reduceBNe, Int.cast_ofNat_Int, List.getElem?_toArray, stp, Try.underlying24, Try.underlying3, Try.underlying47, Try.underlying5, Try.underlying9, ty24, ty47, ty3, ty5, ty9, rs132]))
  refine (c_Grow N h (l1.length + l2.length) hs).mono ?_
  rintro v h1 ⟨s1, hv⟩
  have r1' := r1.hs s1
  have r2' := r2.hs s1
  have hk1 := s1 _ _ hk
  rcases hv with ⟨h0, rfl⟩ | ⟨h0, kb, rfl, hkb, hb⟩
  · have e1 : l1 = [] := List.eq_nil_of_length_eq_zero (by omega)
    have e2 : l2 = [] := List.eq_nil_of_length_eq_zero (by omega)
    subst e1; subst e2
    simp only [List.map, gop, ev, lk, aenv, gyield, gBin, gInt, gStrOp, gUn, gPick, gNil, gExtract, gIfc, gConvK, gIndexO, gIndexVO, gMakeV, gMinV, gMaxV, isInt, gMin, gMax, gBlt, gLenX, gCallV, gInvoke, gNilM, Array.toList_map, vcells, gField, gIndexV, gPart, reduceIte, Nat.reduceAdd, Nat.reduceSub, Nat.reduceMul, Nat.reduceLT, Nat.reduceLeDiff, Nat.reduceEqDiff, Nat.reduceBEq, Int.reduceLT, Int.reduceLE, Int.reduceGT, Int.reduceGE, Int.reduceEq, Int.reduceNe, Int.reduceAdd, Int.reduceSub, Int.reduceMul, Int.reduceNeg, Int.reduceToNat, Int.reduceBEq, Int.reduceBNe, Int.cast_ofNat_Int, List.getElem?_toArray, stp, Try.underlying24, Try.underlying3, Try.underlying47, Try.underlying5, Try.underlying9, ty24, ty47, ty3, ty5, ty9, rs132]
    repeat' (first | (with_reducible first | refine gw_seq ?_ | refine gw_block ?_) | ((first | (with_reducible first | refine gw_region ?_ | refine gw_if ?_ | refine gw_skip ?_ | refine gw_exit ?_ | refine gw_ret ?_) | ((with_reducible first | refine gif_b (fun hb => ?_) (fun hb => ?_) | refine want_t (fun hb => ?_) (fun hb => ?_) | refine want_f (fun hb => ?_) (fun hb => ?_)) <;> (try simp only [hb]))) <;> try simp only [List.map, gop, ev, lk, aenv, gyield, gBin, gInt, gStrOp, gUn, gPick, gNil, gExtract, gIfc, gConvK, gIndexO, gIndexVO, gMakeV, gMinV, gMaxV, isInt, gMin, gMax, gBlt, gLenX, gCallV, gInvoke, gNilM, Array.toList_map, vcells, gField, gIndexV, gPart, reduceIte, Nat.reduceAdd, Nat.reduceSub, Nat.reduceMul, Nat.reduceLT, Nat.reduceLeDiff, Nat.reduceEqDiff, Nat.reduceBEq, Int.reduceLT, Int.reduceLE, Int.reduceGT, Int.reduceGE, Int.reduceEq, Int.reduceNe, Int.reduceAdd, Int.reduceSub, Int.reduceMul, Int.reduceNeg, Int.reduceToNat, Int.reduceBEq, Int.reduceBNe, Int.cast_ofNat_Int, List.getElem?_toArray, stp, Try.underlying24, Try.underlying3, Try.underlying47, Try.underlying5, Try.underlying9, ty24, ty47, ty3, ty5, ty9, rs132]))
    refine gw_unroll (gl_round ?_)
    repeat' (first | (with_reducible first | refine gw_seq ?_ | refine gw_block ?_) | ((first | (with_reducible first | refine gw_region ?_ | refine gw_if ?_ | refine gw_skip ?_ | refine gw_exit ?_ | refine gw_ret ?_) | ((with_reducible first | refine gif_b (fun hb => ?_) (fun hb => ?_) | refine want_t (fun hb => ?_) (fun hb => ?_) | refine want_f (fun hb => ?_) (fun hb => ?_)) <;> (try simp only [hb]))) <;> try simp only [List.map, gop, ev, lk, aenv, gyield, gBin, gInt, gStrOp, gUn, gPick, gNil, gExtract, gIfc, gConvK, gIndexO, gIndexVO, gMakeV, gMinV, gMaxV, isInt, gMin, gMax, gBlt, gLenX, gCallV, gInvoke, gNilM, Array.toList_map, vcells, gField, gIndexV, gPart, reduceIte, Nat.reduceAdd, Nat.reduceSub, Nat.reduceMul, Nat.reduceLT, Nat.reduceLeDiff, Nat.reduceEqDiff, Nat.reduceBEq, Int.reduceLT, Int.reduceLE, Int.reduceGT, Int.reduceGE, Int.reduceEq, Int.reduceNe, Int.reduceAdd, Int.reduceSub, Int.reduceMul, Int.reduceNeg, Int.reduceToNat, Int.reduceBEq, Int.reduceBNe, Int.cast_ofNat_Int, List.getElem?_toArray, stp, Try.underlying24, Try.underlying3, Try.underlying47, Try.underlying5, Try.underlying9, ty24, ty47, ty3, ty5, ty9, rs132, i0, gload1 hk1 sz24]))
    refine append_none el24 Try.underlying24 rfl r1'.src ?_
    simp only [List.map, gop, ev, lk, aenv, gyield, gBin, gInt, gStrOp, gUn, gPick, gNil, gExtract, gIfc, gConvK, gIndexO, gIndexVO, gMakeV, gMinV, gMaxV, isInt, gMin, gMax, gBlt, gLenX, gCallV, gInvoke, gNilM, Array.toList_map, vcells, gField, gIndexV, gPart, reduceIte, Nat.reduceAdd, Nat.reduceSub, Nat.reduceMul, Nat.reduceLT, Nat.reduceLeDiff, Nat.reduceEqDiff, Nat.reduceBEq, Int.reduceLT, Int.reduceLE, Int.reduceGT, Int.reduceGE, Int.reduceEq, Int.reduceNe, Int.reduceAdd, Int.reduceSub, Int.reduceMul, Int.reduceNeg, Int.reduceToNat, Int.reduceBEq, Int.reduceBNe, Int.cast_ofNat_Int, List.getElem?_toArray, stp, Try.underlying24, Try.underlying3, Try.underlying47, Try.underlying5, Try.underlying9, ty24, ty47, ty3, ty5, ty9, rs132]
    repeat' (first | (with_reducible first | refine gw_seq ?_ | refine gw_block ?_) | ((first | (with_reducible first | refine gw_region ?_ | refine gw_if ?_ | refine gw_skip ?_ | refine gw_exit ?_ | refine gw_ret ?_) | ((with_reducible first | refine gif_b (fun hb => ?_) (fun hb => ?_) | refine want_t (fun hb => ?_) (fun hb => ?_) | refine want_f (fun hb => ?_) (fun hb => ?_)) <;> (try simp only [hb]))) <;> try simp only [List.map, gop, ev, lk, aenv, gyield, gBin, gInt, gStrOp, gUn, gPick, gNil, gExtract, gIfc, gConvK, gIndexO, gIndexVO, gMakeV, gMinV, gMaxV, isInt, gMin, gMax, gBlt, gLenX, gCallV, gInvoke, gNilM, Array.toList_map, vcells, gField, gIndexV, gPart, reduceIte, Nat.reduceAdd, Nat.reduceSub, Nat.reduceMul, Nat.reduceLT, Nat.reduceLeDiff, Nat.reduceEqDiff, Nat.reduceBEq, Int.reduceLT, Int.reduceLE, Int.reduceGT, Int.reduceGE, Int.reduceEq, Int.reduceNe, Int.reduceAdd, Int.reduceSub, Int.reduceMul, Int.reduceNeg, Int.reduceToNat, Int.reduceBEq, Int.reduceBNe, Int.cast_ofNat_Int, List.getElem?_toArray, stp, Try.underlying24, Try.underlying3, Try.underlying47, Try.underlying5, Try.underlying9, ty24, ty47, ty3, ty5, ty9, rs132]))
    refine gl_round ?_
    repeat' (first | (with_reducible first | refine gw_seq ?_ | refine gw_block ?_) | ((first | (with_reducible first | refine gw_region ?_ | refine gw_if ?_ | refine gw_skip ?_ | refine gw_exit ?_ | refine gw_ret ?_) | ((with_reducible first | refine gif_b (fun hb => ?_) (fun hb => ?_) | refine want_t (fun hb => ?_) (fun hb => ?_) | refine want_f (fun hb => ?_) (fun hb => ?_)) <;> (try simp only [hb]))) <;> try simp only [List.map, gop, ev, lk, aenv, gyield, gBin, gInt, gStrOp, gUn, gPick, gNil, gExtract, gIfc, gConvK, gIndexO, gIndexVO, gMakeV, gMinV, gMaxV, isInt, gMin, gMax, gBlt, gLenX, gCallV, gInvoke, gNilM, Array.toList_map, vcells, gField, gIndexV, gPart, reduceIte, Nat.reduceAdd, Nat.reduceSub, Nat.reduceMul, Nat.reduceLT, Nat.reduceLeDiff, Nat.reduceEqDiff, Nat.reduceBEq, Int.reduceLT, Int.reduceLE, Int.reduceGT, Int.reduceGE, Int.reduceEq, Int.reduceNe, Int.reduceAdd, Int.reduceSub, Int.reduceMul, Int.reduceNeg, Int.reduceToNat, Int.reduceBEq, Int.reduceBNe, Int.cast_ofNat_Int, List.getElem?_toArray, stp, Try.underlying24, Try.underlying3, Try.underlying47, Try.underlying5, Try.underlying9, ty24, ty47, ty3, ty5, ty9, rs132, i1, gload1 hk1 sz24]))
    refine append_none el24 Try.underlying24 rfl r2'.src ?_
    simp only [List.map, gop, ev, lk, aenv, gyield, gBin, gInt, gStrOp, gUn, gPick, gNil, gExtract, gIfc, gConvK, gIndexO, gIndexVO, gMakeV, gMinV, gMaxV, isInt, gMin, gMax, gBlt, gLenX, gCallV, gInvoke, gNilM, Array.toList_map, vcells, gField, gIndexV, gPart, reduceIte, Nat.reduceAdd, Nat.reduceSub, Nat.reduceMul, Nat.reduceLT, Nat.reduceLeDiff, Nat.reduceEqDiff, Nat.reduceBEq, Int.reduceLT, Int.reduceLE, Int.reduceGT, Int.reduceGE, Int.reduceEq, Int.reduceNe, Int.reduceAdd, Int.reduceSub, Int.reduceMul, Int.reduceNeg, Int.reduceToNat, Int.reduceBEq, Int.reduceBNe, Int.cast_ofNat_Int, List.getElem?_toArray, stp, Try.underlying24, Try.underlying3, Try.underlying47, Try.underlying5, Try.underlying9, ty24, ty47, ty3, ty5, ty9, rs132]
    repeat' (first | (with_reducible first | refine gw_seq ?_ | refine gw_block ?_) | ((first | (with_reducible first | refine gw_region ?_ | refine gw_if ?_ | refine gw_skip ?_ | refine gw_exit ?_ | refine gw_ret ?_) | ((with_reducible first | refine gif_b (fun hb => ?_) (fun hb => ?_) | refine want_t (fun hb => ?_) (fun hb => ?_) | refine want_f (fun hb => ?_) (fun hb => ?_)) <;> (try simp only [hb]))) <;> try simp only [List.map, gop, ev, lk, aenv, gyield, gBin, gInt, gStrOp, gUn, gPick, gNil, gExtract, gIfc, gConvK, gIndexO, gIndexVO, gMakeV, gMinV, gMaxV, isInt, gMin, gMax, gBlt, gLenX, gCallV, gInvoke, gNilM, Array.toList_map, vcells, gField, gIndexV, gPart, reduceIte, Nat.reduceAdd, Nat.reduceSub, Nat.reduceMul, Nat.reduceLT, Nat.reduceLeDiff, Nat.reduceEqDiff, Nat.reduceBEq, Int.reduceLT, Int.reduceLE, Int.reduceGT, Int.reduceGE, Int.reduceEq, Int.reduceNe, Int.reduceAdd, Int.reduceSub, Int.reduceMul, Int.reduceNeg, Int.reduceToNat, Int.reduceBEq, Int.reduceBNe, Int.cast_ofNat_Int, List.getElem?_toArray, stp, Try.underlying24, Try.underlying3, Try.underlying47, Try.underlying5, Try.underlying9, ty24, ty47, ty3, ty5, ty9, rs132]))
    refine gl_round ?_
    repeat' (first | (with_reducible first | refine gw_seq ?_ | refine gw_block ?_) | ((first | (with_reducible first | refine gw_region ?_ | refine gw_if ?_ | refine gw_skip ?_ | refine gw_exit ?_ | refine gw_ret ?_) | ((with_reducible first | refine gif_b (fun hb => ?_) (fun hb => ?_) | refine want_t (fun hb => ?_) (fun hb => ?_) | refine want_f (fun hb => ?_) (fun hb => ?_)) <;> (try simp only [hb]))) <;> try simp only [List.map, gop, ev, lk, aenv, gyield, gBin, gInt, gStrOp, gUn, gPick, gNil, gExtract, gIfc, gConvK, gIndexO, gIndexVO, gMakeV, gMinV, gMaxV, isInt, gMin, gMax, gBlt, gLenX, gCallV, gInvoke, gNilM, Array.toList_map, vcells, gField, gIndexV, gPart, reduceIte, Nat.reduceAdd, Nat.reduceSub, Nat.reduceMul, Nat.reduceLT, Nat.reduceLeDiff, Nat.reduceEqDiff, Nat.reduceBEq, Int.reduceLT, Int.reduceLE, Int.reduceGT, Int.reduceGE, Int.reduceEq, Int.reduceNe, Int.reduceAdd, Int.reduceSub, Int.reduceMul, Int.reduceNeg, Int.reduceToNat, Int.reduceBEq, Int.reduceBNe, Int.cast_ofNat_Int, List.getElem?_toArray, stp, Try.underlying24, Try.underlying3, Try.underlying47, Try.underlying5, Try.underlying9, ty24, ty47, ty3, ty5, ty9, rs132]))
    exact ⟨s1, none, 0, rfl, .inl ⟨0, rfl, rfl⟩, .inl ⟨0, rfl⟩⟩
  · simp only [List.map, gop, ev, lk, aenv, gyield, gBin, gInt, gStrOp, gUn, gPick, gNil, gExtract, gIfc, gConvK, gIndexO, gIndexVO, gMakeV, gMinV, gMaxV, isInt, gMin, gMax, gBlt, gLenX, gCallV, gInvoke, gNilM, Array.toList_map, vcells, gField, gIndexV, gPart, reduceIte, Nat.reduceAdd, Nat.reduceSub, Nat.reduceMul, Nat.reduceLT, Nat.reduceLeDiff, Nat.reduceEqDiff, Nat.reduceBEq, Int.reduceLT, Int.reduceLE, Int.reduceGT, Int.reduceGE, Int.reduceEq, Int.reduceNe, Int.reduceAdd, Int.reduceSub, Int.reduceMul, Int.reduceNeg, Int.reduceToNat, Int.reduceBEq, Int.reduceBNe, Int.cast_ofNat_Int, List.getElem?_toArray, stp, Try.underlying24, Try.underlying3, Try.underlying47, Try.underlying5, Try.underlying9, ty24, ty47, ty3, ty5, ty9, rs132]
    repeat' (first | (with_reducible first | refine gw_seq ?_ | refine gw_block ?_) | ((first | (with_reducible first | refine gw_region ?_ | refine gw_if ?_ | refine gw_skip ?_ | refine gw_exit ?_ | refine gw_ret ?_) | ((with_reducible first | refine gif_b (fun hb => ?_) (fun hb => ?_) | refine want_t (fun hb => ?_) (fun hb => ?_) | refine want_f (fun hb => ?_) (fun hb => ?_)) <;> (try simp only [hb]))) <;> try simp only [List.map, gop, ev, lk, aenv, gyield, gBin, gInt, gStrOp, gUn, gPick, gNil, gExtract, gIfc, gConvK, gIndexO, gIndexVO, gMakeV, gMinV, gMaxV, isInt, gMin, gMax, gBlt, gLenX, gCallV, gInvoke, gNilM, Array.toList_map, vcells, gField, gIndexV, gPart, reduceIte, Nat.reduceAdd, Nat.reduceSub, Nat.reduceMul, Nat.reduceLT, Nat.reduceLeDiff, Nat.reduceEqDiff, Nat.reduceBEq, Int.reduceLT, Int.reduceLE, Int.reduceGT, Int.reduceGE, Int.reduceEq, Int.reduceNe, Int.reduceAdd, Int.reduceSub, Int.reduceMul, Int.reduceNeg, Int.reduceToNat, Int.reduceBEq, Int.reduceBNe, Int.cast_ofNat_Int, List.getElem?_toArray, stp, Try.underlying24, Try.underlying3, Try.underlying47, Try.underlying5, Try.underlying9, ty24, ty47, ty3, ty5, ty9, rs132]))
    refine gw_unroll (gl_round ?_)
    repeat' (first | (with_reducible first | refine gw_seq ?_ | refine gw_block ?_) | ((first | (with_reducible first | refine gw_region ?_ | refine gw_if ?_ | refine gw_skip ?_ | refine gw_exit ?_ | refine gw_ret ?_) | ((with_reducible first | refine gif_b (fun hb => ?_) (fun hb => ?_) | refine want_t (fun hb => ?_) (fun hb => ?_) | refine want_f (fun hb => ?_) (fun hb => ?_)) <;> (try simp only [hb]))) <;> try simp only [List.map, gop, ev, lk, aenv, gyield, gBin, gInt, gStrOp, gUn, gPick, gNil, gExtract, gIfc, gConvK, gIndexO, gIndexVO, gMakeV, gMinV, gMaxV, isInt, gMin, gMax, gBlt, gLenX, gCallV, gInvoke, gNilM, Array.toList_map, vcells, gField, gIndexV, gPart, reduceIte, Nat.reduceAdd, Nat.reduceSub, Nat.reduceMul, Nat.reduceLT, Nat.reduceLeDiff, Nat.reduceEqDiff, Nat.reduceBEq, Int.reduceLT, Int.reduceLE, Int.reduceGT, Int.reduceGE, Int.reduceEq, Int.reduceNe, Int.reduceAdd, Int.reduceSub, Int.reduceMul, Int.reduceNeg, Int.reduceToNat, Int.reduceBEq, Int.reduceBNe, Int.cast_ofNat_Int, List.getElem?_toArray, stp, Try.underlying24, Try.underlying3, Try.underlying47, Try.underlying5, Try.underlying9, ty24, ty47, ty3, ty5, ty9, rs132, i0, gload1 hk1 sz24]))
    refine append_buf el24 Try.underlying24 rfl hb rfl r1'.src (by simp) (by omega) fun h2 hb2 f2 => ?_
    have s2 := s1.upd hkb f2
    have r2'' := r2.hs s2
    have hk2 := s2 _ _ hk
    simp only [List.map, gop, ev, lk, aenv, gyield, gBin, gInt, gStrOp, gUn, gPick, gNil, gExtract, gIfc, gConvK, gIndexO, gIndexVO, gMakeV, gMinV, gMaxV, isInt, gMin, gMax, gBlt, gLenX, gCallV, gInvoke, gNilM, Array.toList_map, vcells, gField, gIndexV, gPart, reduceIte, Nat.reduceAdd, Nat.reduceSub, Nat.reduceMul, Nat.reduceLT, Nat.reduceLeDiff, Nat.reduceEqDiff, Nat.reduceBEq, Int.reduceLT, Int.reduceLE, Int.reduceGT, Int.reduceGE, Int.reduceEq, Int.reduceNe, Int.reduceAdd, Int.reduceSub, Int.reduceMul, Int.reduceNeg, Int.reduceToNat, Int.reduceBEq, Int.reduceBNe, Int.cast_ofNat_Int, List.getElem?_toArray, stp, Try.underlying24, Try.underlying3, Try.underlying47, Try.underlying5, Try.underlying9, ty24, ty47, ty3, ty5, ty9, rs132, List.nil_append]
    repeat' (first | (with_reducible first | refine gw_seq ?_ | refine gw_block ?_) | ((first | (with_reducible first | refine gw_region ?_ | refine gw_if ?_ | refine gw_skip ?_ | refine gw_exit ?_ | refine gw_ret ?_) | ((with_reducible first | refine gif_b (fun hb => ?_) (fun hb => ?_) | refine want_t (fun hb => ?_) (fun hb => ?_) | refine want_f (fun hb => ?_) (fun hb => ?_)) <;> (try simp only [hb]))) <;> try simp only [List.map, gop, ev, lk, aenv, gyield, gBin, gInt, gStrOp, gUn, gPick, gNil, gExtract, gIfc, gConvK, gIndexO, gIndexVO, gMakeV, gMinV, gMaxV, isInt, gMin, gMax, gBlt, gLenX, gCallV, gInvoke, gNilM, Array.toList_map, vcells, gField, gIndexV, gPart, reduceIte, Nat.reduceAdd, Nat.reduceSub, Nat.reduceMul, Nat.reduceLT, Nat.reduceLeDiff, Nat.reduceEqDiff, Nat.reduceBEq, Int.reduceLT, Int.reduceLE, Int.reduceGT, Int.reduceGE, Int.reduceEq, Int.reduceNe, Int.reduceAdd, Int.reduceSub, Int.reduceMul, Int.reduceNeg, Int.reduceToNat, Int.reduceBEq, Int.reduceBNe, Int.cast_ofNat_Int, List.getElem?_toArray, stp, Try.underlying24, Try.underlying3, Try.underlying47, Try.underlying5, Try.underlying9, ty24, ty47, ty3, ty5, ty9, rs132]))
    refine gl_round ?_
    repeat' (first | (with_reducible first | refine gw_seq ?_ | refine gw_block ?_) | ((first | (with_reducible first | refine gw_region ?_ | refine gw_if ?_ | refine gw_skip ?_ | refine gw_exit ?_ | refine gw_ret ?_) | ((with_reducible first | refine gif_b (fun hb => ?_) (fun hb => ?_) | refine want_t (fun hb => ?_) (fun hb => ?_) | refine want_f (fun hb => ?_) (fun hb => ?_)) <;> (try simp only [hb]))) <;> try simp only [List.map, gop, ev, lk, aenv, gyield, gBin, gInt, gStrOp, gUn, gPick, gNil, gExtract, gIfc, gConvK, gIndexO, gIndexVO, gMakeV, gMinV, gMaxV, isInt, gMin, gMax, gBlt, gLenX, gCallV, gInvoke, gNilM, Array.toList_map, vcells, gField, gIndexV, gPart, reduceIte, Nat.reduceAdd, Nat.reduceSub, Nat.reduceMul, Nat.reduceLT, Nat.reduceLeDiff, Nat.reduceEqDiff, Nat.reduceBEq, Int.reduceLT, Int.reduceLE, Int.reduceGT, Int.reduceGE, Int.reduceEq, Int.reduceNe, Int.reduceAdd, Int.reduceSub, Int.reduceMul, Int.reduceNeg, Int.reduceToNat, Int.reduceBEq, Int.reduceBNe, Int.cast_ofNat_Int, List.getElem?_toArray, stp, Try.underlying24, Try.underlying3, Try.underlying47, Try.underlying5, Try.underlying9, ty24, ty47, ty3, ty5, ty9, rs132, i1, gload1 hk2 sz24]))
    refine append_buf el24 Try.underlying24 rfl hb2 (by simp) r2''.src (by simp) (by omega) fun h3 hb3 f3 => ?_
    have s3 := s2.upd hkb f3
    simp only [List.map, gop, ev, lk, aenv, gyield, gBin, gInt, gStrOp, gUn, gPick, gNil, gExtract, gIfc, gConvK, gIndexO, gIndexVO, gMakeV, gMinV, gMaxV, isInt, gMin, gMax, gBlt, gLenX, gCallV, gInvoke, gNilM, Array.toList_map, vcells, gField, gIndexV, gPart, reduceIte, Nat.reduceAdd, Nat.reduceSub, Nat.reduceMul, Nat.reduceLT, Nat.reduceLeDiff, Nat.reduceEqDiff, Nat.reduceBEq, Int.reduceLT, Int.reduceLE, Int.reduceGT, Int.reduceGE, Int.reduceEq, Int.reduceNe, Int.reduceAdd, Int.reduceSub, Int.reduceMul, Int.reduceNeg, Int.reduceToNat, Int.reduceBEq, Int.reduceBNe, Int.cast_ofNat_Int, List.getElem?_toArray, stp, Try.underlying24, Try.underlying3, Try.underlying47, Try.underlying5, Try.underlying9, ty24, ty47, ty3, ty5, ty9, rs132, List.nil_append]
    repeat' (first | (with_reducible first | refine gw_seq ?_ | refine gw_block ?_) | ((first | (with_reducible first | refine gw_region ?_ | refine gw_if ?_ | refine gw_skip ?_ | refine gw_exit ?_ | refine gw_ret ?_) | ((with_reducible first | refine gif_b (fun hb => ?_) (fun hb => ?_) | refine want_t (fun hb => ?_) (fun hb => ?_) | refine want_f (fun hb => ?_) (fun hb => ?_)) <;> (try simp only [hb]))) <;> try simp only [List.map, gop, ev, lk, aenv, gyield, gBin, gInt, gStrOp, gUn, gPick, gNil, gExtract, gIfc, gConvK, gIndexO, gIndexVO, gMakeV, gMinV, gMaxV, isInt, gMin, gMax, gBlt, gLenX, gCallV, gInvoke, gNilM, Array.toList_map, vcells, gField, gIndexV, gPart, reduceIte, Nat.reduceAdd, Nat.reduceSub, Nat.reduceMul, Nat.reduceLT, Nat.reduceLeDiff, Nat.reduceEqDiff, Nat.reduceBEq, Int.reduceLT, Int.reduceLE, Int.reduceGT, Int.reduceGE, Int.reduceEq, Int.reduceNe, Int.reduceAdd, Int.reduceSub, Int.reduceMul, Int.reduceNeg, Int.reduceToNat, Int.reduceBEq, Int.reduceBNe, Int.cast_ofNat_Int, List.getElem?_toArray, stp, Try.underlying24, Try.underlying3, Try.underlying47, Try.underlying5, Try.underlying9, ty24, ty47, ty3, ty5, ty9, rs132]))
    refine gl_round ?_
    repeat' (first | (with_reducible first | refine gw_seq ?_ | refine gw_block ?_) | ((first | (with_reducible first | refine gw_region ?_ | refine gw_if ?_ | refine gw_skip ?_ | refine gw_exit ?_ | refine gw_ret ?_) | ((with_reducible first | refine gif_b (fun hb => ?_) (fun hb => ?_) | refine want_t (fun hb => ?_) (fun hb => ?_) | refine want_f (fun hb => ?_) (fun hb => ?_)) <;> (try simp only [hb]))) <;> try simp only [List.map, gop, ev, lk, aenv, gyield, gBin, gInt, gStrOp, gUn, gPick, gNil, gExtract, gIfc, gConvK, gIndexO, gIndexVO, gMakeV, gMinV, gMaxV, isInt, gMin, gMax, gBlt, gLenX, gCallV, gInvoke, gNilM, Array.toList_map, vcells, gField, gIndexV, gPart, reduceIte, Nat.reduceAdd, Nat.reduceSub, Nat.reduceMul, Nat.reduceLT, Nat.reduceLeDiff, Nat.reduceEqDiff, Nat.reduceBEq, Int.reduceLT, Int.reduceLE, Int.reduceGT, Int.reduceGE, Int.reduceEq, Int.reduceNe, Int.reduceAdd, Int.reduceSub, Int.reduceMul, Int.reduceNeg, Int.reduceToNat, Int.reduceBEq, Int.reduceBNe, Int.cast_ofNat_Int, List.getElem?_toArray, stp, Try.underlying24, Try.underlying3, Try.underlying47, Try.underlying5, Try.underlying9, ty24, ty47, ty3, ty5, ty9, rs132]))
    rw [List.nil_append] at hb3
    have hr := hb3.rb
    have ha := hb3.ap (h0 := h) (by simp) hkb
    rw [List.length_append] at hr ha
    rw [Nat.zero_add]
    exact ⟨s3, _, _, rfl, hr, ha⟩
end Go.Gh

/- Contracts of the keys' bits and their order. -/
namespace Go.Gh
open Go Go.Proofs Go.RowKit
set_option linter.unusedVariables false
set_option linter.unusedSimpArgs false
set_option maxRecDepth 100000

def gkey (l : List UInt8) : List UInt8 := UInt8.ofNat (min l.length 255) :: l.take 255

theorem gkey_eq (l : List UInt8) : [UInt8.ofNat (min l.length 255)] ++ l.take (min l.length 255) = gkey l := by
  have : l.take (min l.length 255) = l.take 255 := by
    rw [List.take_eq_take_iff]; omega
  rw [this]; rfl
theorem c_Key (N : Nat) (h : GH) {a : Option Addr} {n c : Nat} {l : List UInt8} (r : RB h (.slice a n c) l) (hn : n = l.length) : GTri Try.prog N 101 [.slice a n c] h fun v h' => HS h h' ∧ ∃ a' c', v = .slice a' (gkey l).length c' ∧ RB h' v (gkey l) ∧ AP h h' v 1 := by
  subst hn
  refine gtri Try.func101 rfl gf101 ok101 (by simp [Try.ntmps101]) ?_
  have mn : (if (255 : Int) < (l.length : Int) then (255 : Int) else (l.length : Int)) = ((min l.length 255 : Nat) : Int) := min_if _ 255
  obtain ⟨a1, c1, q1, r1, _⟩ := r.cut Try.underlying24 sz5 (hi := ((min l.length 255 : Nat) : Int)) (by omega) (by omega) .i64
  rw [Int.toNat_natCast] at q1 r1
  have w1 : IntKind.u8.wrap ((min l.length 255 : Nat) : Int) = ((min l.length 255 : Nat) : Int) := wrapu8 (by omega) (by omega)
  repeat' (first | (with_reducible first | refine gw_seq ?_ | refine gw_block ?_) | ((first | (with_reducible first | refine gw_region ?_ | refine gw_if ?_ | refine gw_skip ?_ | refine gw_exit ?_ | refine gw_ret ?_) | ((with_reducible first | refine gif_b (fun hb => ?_) (fun hb => ?_) | refine want_t (fun hb => ?_) (fun hb => ?_) | refine want_f (fun hb => ?_) (fun hb => ?_)) <;> (try simp only [hb]))) <;> try simp only [List.map, gop, ev, lk, aenv, gyield, gBin, gInt, gStrOp, gUn, gPick, gNil, gExtract, gIfc, gConvK, gIndexO, gIndexVO, gMakeV, gMinV, gMaxV, isInt, gMin, gMax, gBlt, gLenX, gCallV, gInvoke, gNilM, Array.toList_map, vcells, gField, gIndexV, gPart, reduceIte, Nat.reduceAdd, Nat.reduceSub, Nat.reduceMul, Nat.reduceLT, Nat.reduceLeDiff, Nat.reduceEqDiff, Nat.reduceBEq, Int.reduceLT, Int.reduceLE, Int.reduceGT, Int.reduceGE, Int.reduceEq, Int.reduceNe, Int.reduceAdd, Int.reduceSub, Int.reduceMul, Int.reduceNeg, Int.reduceToNat, Int.reduceBEq, Int.reduceBNe, Int.cast_ofNat_Int, List.getElem?_toArray, stp, Try.underlying24, Try.underlying3, Try.underlying47, Try.underlying5, cv3_5, ty24, ty47, ty3, ty5, rs101, mn, q1, w1]))
  refine bs_g (cs := [.int .u8 ((min l.length 255 : Nat) : Int)]) el24 rfl (by decide) (by decide) (by rw [zeros_one _ rfl]; rfl) rfl fun k1 h1 m1 s1 f1 n1 => ?_
  simp only [List.map, gop, ev, lk, aenv, gyield, gBin, gInt, gStrOp, gUn, gPick, gNil, gExtract, gIfc, gConvK, gIndexO, gIndexVO, gMakeV, gMinV, gMaxV, isInt, gMin, gMax, gBlt, gLenX, gCallV, gInvoke, gNilM, Array.toList_map, vcells, gField, gIndexV, gPart, reduceIte, Nat.reduceAdd, Nat.reduceSub, Nat.reduceMul, Nat.reduceLT, Nat.reduceLeDiff, Nat.reduceEqDiff, Nat.reduceBEq, Int.reduceLT, Int.reduceLE, Int.reduceGT, Int.reduceGE, Int.reduceEq, Int.reduceNe, Int.reduceAdd, Int.reduceSub, Int.reduceMul, Int.reduceNeg, Int.reduceToNat, Int.reduceBEq, Int.reduceBNe, Int.cast_ofNat_Int, List.getElem?_toArray, stp, Try.underlying24, Try.underlying3, Try.underlying47, Try.underlying5, cv3_5, ty24, ty47, ty3, ty5, rs101]
  refine bs_g (cs := [.slice (some ⟨k1, 0, none⟩) 1 3, .slice a1 (min l.length 255) c1]) el47 rfl (by decide) (by decide) (by rw [zeros_one _ rfl]; rfl) rfl fun k2 h2 m2 s2 f2 n2 => ?_
  simp only [List.map, gop, ev, lk, aenv, gyield, gBin, gInt, gStrOp, gUn, gPick, gNil, gExtract, gIfc, gConvK, gIndexO, gIndexVO, gMakeV, gMinV, gMaxV, isInt, gMin, gMax, gBlt, gLenX, gCallV, gInvoke, gNilM, Array.toList_map, vcells, gField, gIndexV, gPart, reduceIte, Nat.reduceAdd, Nat.reduceSub, Nat.reduceMul, Nat.reduceLT, Nat.reduceLeDiff, Nat.reduceEqDiff, Nat.reduceBEq, Int.reduceLT, Int.reduceLE, Int.reduceGT, Int.reduceGE, Int.reduceEq, Int.reduceNe, Int.reduceAdd, Int.reduceSub, Int.reduceMul, Int.reduceNeg, Int.reduceToNat, Int.reduceBEq, Int.reduceBNe, Int.cast_ofNat_Int, List.getElem?_toArray, stp, Try.underlying24, Try.underlying3, Try.underlying47, Try.underlying5, cv3_5, ty24, ty47, ty3, ty5, rs101]
  have b1 : RB h1 (.slice (some ⟨k1, 0, none⟩) 1 3) [UInt8.ofNat (min l.length 255)] := by
    rw [bv_nat _ (by omega)] at m1
    exact rb_block (l := [UInt8.ofNat (min l.length 255)]) m1 rfl
  refine (c_Concat2 N h2 m2 (b1.hs s2) (r1.hs (s1.trans s2)) rfl (by simp) (by simp; omega)).mono ?_
  rintro v h3 ⟨s3, a', c', rfl, hr, ha⟩
  simp only [List.map, gop, ev, lk, aenv, gyield, gBin, gInt, gStrOp, gUn, gPick, gNil, gExtract, gIfc, gConvK, gIndexO, gIndexVO, gMakeV, gMinV, gMaxV, isInt, gMin, gMax, gBlt, gLenX, gCallV, gInvoke, gNilM, Array.toList_map, vcells, gField, gIndexV, gPart, reduceIte, Nat.reduceAdd, Nat.reduceSub, Nat.reduceMul, Nat.reduceLT, Nat.reduceLeDiff, Nat.reduceEqDiff, Nat.reduceBEq, Int.reduceLT, Int.reduceLE, Int.reduceGT, Int.reduceGE, Int.reduceEq, Int.reduceNe, Int.reduceAdd, Int.reduceSub, Int.reduceMul, Int.reduceNeg, Int.reduceToNat, Int.reduceBEq, Int.reduceBNe, Int.cast_ofNat_Int, List.getElem?_toArray, stp, Try.underlying24, Try.underlying3, Try.underlying47, Try.underlying5, cv3_5, ty24, ty47, ty3, ty5, rs101]
  repeat' (first | (with_reducible first | refine gw_seq ?_ | refine gw_block ?_) | ((first | (with_reducible first | refine gw_region ?_ | refine gw_if ?_ | refine gw_skip ?_ | refine gw_exit ?_ | refine gw_ret ?_) | ((with_reducible first | refine gif_b (fun hb => ?_) (fun hb => ?_) | refine want_t (fun hb => ?_) (fun hb => ?_) | refine want_f (fun hb => ?_) (fun hb => ?_)) <;> (try simp only [hb]))) <;> try simp only [List.map, gop, ev, lk, aenv, gyield, gBin, gInt, gStrOp, gUn, gPick, gNil, gExtract, gIfc, gConvK, gIndexO, gIndexVO, gMakeV, gMinV, gMaxV, isInt, gMin, gMax, gBlt, gLenX, gCallV, gInvoke, gNilM, Array.toList_map, vcells, gField, gIndexV, gPart, reduceIte, Nat.reduceAdd, Nat.reduceSub, Nat.reduceMul, Nat.reduceLT, Nat.reduceLeDiff, Nat.reduceEqDiff, Nat.reduceBEq, Int.reduceLT, Int.reduceLE, Int.reduceGT, Int.reduceGE, Int.reduceEq, Int.reduceNe, Int.reduceAdd, Int.reduceSub, Int.reduceMul, Int.reduceNeg, Int.reduceToNat, Int.reduceBEq, Int.reduceBNe, Int.cast_ofNat_Int, List.getElem?_toArray, stp, Try.underlying24, Try.underlying3, Try.underlying47, Try.underlying5, cv3_5, ty24, ty47, ty3, ty5, rs101]))
  rw [gkey_eq] at hr
  have e : [UInt8.ofNat (min l.length 255)].length + (l.take (min l.length 255)).length = (gkey l).length := by rw [← gkey_eq, List.length_append]
  rw [e] at hr ha
  refine ⟨(s1.trans s2).trans s3, a', c', ?_, ?_, ?_⟩
  · rw [← e]; rfl
  · show RB _ (.slice a' ([UInt8.ofNat (min l.length 255)].length + (l.take (min l.length 255)).length) c') _
    rw [e]; exact hr
  · show AP _ _ (.slice a' ([UInt8.ofNat (min l.length 255)].length + (l.take (min l.length 255)).length) c') _
    rw [e]; exact ha.weak (s1.trans s2)

theorem c_rKey (N : Nat) (h : GH) {a : Option Addr} {n c : Nat} {l : List UInt8} (r : RB h (.slice a n c) l) (hn : n = l.length) : GTri Try.prog N 64 [.slice a n c] h fun v h' => HS h h' ∧ ∃ a' c', v = .slice a' (gkey l).length c' ∧ RB h' v (gkey l) ∧ AP h h' v 1 := by
  subst hn
  refine gtri Try.func64 rfl gf64 ok64 (by simp [Try.ntmps64]) ?_
  have mn : (if (255 : Int) < (l.length : Int) then (255 : Int) else (l.length : Int)) = ((min l.length 255 : Nat) : Int) := min_if _ 255
  obtain ⟨a1, c1, q1, r1, _⟩ := r.cut Try.underlying24 sz5 (hi := ((min l.length 255 : Nat) : Int)) (by omega) (by omega) .i64
  rw [Int.toNat_natCast] at q1 r1
  have w1 : IntKind.u8.wrap ((min l.length 255 : Nat) : Int) = ((min l.length 255 : Nat) : Int) := wrapu8 (by omega) (by omega)
  repeat' (first | (with_reducible first | refine gw_seq ?_ | refine gw_block ?_) | ((first | (with_reducible first | refine gw_region ?_ | refine gw_if ?_ | refine gw_skip ?_ | refine gw_exit ?_ | refine gw_ret ?_) | ((with_reducible first | refine gif_b (fun hb => ?_) (fun hb => ?_) | refine want_t (fun hb => ?_) (fun hb => ?_) | refine want_f (fun hb => ?_) (fun hb => ?_)) <;> (try simp only [hb]))) <;> try simp only [List.map, gop, ev, lk, aenv, gyield, gBin, gInt, gStrOp, gUn, gPick, gNil, gExtract, gIfc, gConvK, gIndexO, gIndexVO, gMakeV, gMinV, gMaxV, isInt, gMin, gMax, gBlt, gLenX, gCallV, gInvoke, gNilM, Array.toList_map, vcells, gField, gIndexV, gPart, reduceIte, Nat.reduceAdd, Nat.reduceSub, Nat.reduceMul, Nat.reduceLT, Nat.reduceLeDiff, Nat.reduceEqDiff, Nat.reduceBEq, Int.reduceLT, Int.reduceLE, Int.reduceGT, Int.reduceGE, Int.reduceEq, Int.reduceNe, Int.reduceAdd, Int.reduceSub, Int.reduceMul, Int.reduceNeg, Int.reduceToNat, Int.reduceBEq, Int.reduceBNe, Int.cast_ofNat_Int, List.getElem?_toArray, stp, Try.underlying24, Try.underlying3, Try.underlying5, cv3_5, ty24, ty3, ty5, rs64, mn, w1]))
  refine bs_g (cs := [.int .u8 ((min l.length 255 : Nat) : Int)]) el24 rfl (by decide) (by decide) (by rw [zeros_one _ rfl]; rfl) rfl fun k1 h1 m1 s1 f1 n1 => ?_
  obtain ⟨a1, c1, q1, r1, _⟩ := (r.hs s1).cut Try.underlying24 sz5 (hi := ((min l.length 255 : Nat) : Int)) (by omega) (by omega) .i64
  rw [Int.toNat_natCast] at q1 r1
  simp only [List.map, gop, ev, lk, aenv, gyield, gBin, gInt, gStrOp, gUn, gPick, gNil, gExtract, gIfc, gConvK, gIndexO, gIndexVO, gMakeV, gMinV, gMaxV, isInt, gMin, gMax, gBlt, gLenX, gCallV, gInvoke, gNilM, Array.toList_map, vcells, gField, gIndexV, gPart, reduceIte, Nat.reduceAdd, Nat.reduceSub, Nat.reduceMul, Nat.reduceLT, Nat.reduceLeDiff, Nat.reduceEqDiff, Nat.reduceBEq, Int.reduceLT, Int.reduceLE, Int.reduceGT, Int.reduceGE, Int.reduceEq, Int.reduceNe, Int.reduceAdd, Int.reduceSub, Int.reduceMul, Int.reduceNeg, Int.reduceToNat, Int.reduceBEq, Int.reduceBNe, Int.cast_ofNat_Int, List.getElem?_toArray, stp, Try.underlying24, Try.underlying3, Try.underlying5, cv3_5, ty24, ty3, ty5, rs64, q1]
  have b1 : RB h1 (.slice (some ⟨k1, 0, none⟩) 1 3) [UInt8.ofNat (min l.length 255)] := by
    rw [bv_nat _ (by omega)] at m1
    exact rb_block (l := [UInt8.ofNat (min l.length 255)]) m1 rfl
  refine append_bytes el24 Try.underlying24 rfl s1 b1 (.inr (.inl ⟨_, 1, rfl⟩)) r1.src (by simp; omega) fun v h2 s2 _ _ ha hr => ?_
  rw [gkey_eq] at hr
  obtain ⟨a', c', rfl, _⟩ := hr.form
  simp only [List.map, gop, ev, lk, aenv, gyield, gBin, gInt, gStrOp, gUn, gPick, gNil, gExtract, gIfc, gConvK, gIndexO, gIndexVO, gMakeV, gMinV, gMaxV, isInt, gMin, gMax, gBlt, gLenX, gCallV, gInvoke, gNilM, Array.toList_map, vcells, gField, gIndexV, gPart, reduceIte, Nat.reduceAdd, Nat.reduceSub, Nat.reduceMul, Nat.reduceLT, Nat.reduceLeDiff, Nat.reduceEqDiff, Nat.reduceBEq, Int.reduceLT, Int.reduceLE, Int.reduceGT, Int.reduceGE, Int.reduceEq, Int.reduceNe, Int.reduceAdd, Int.reduceSub, Int.reduceMul, Int.reduceNeg, Int.reduceToNat, Int.reduceBEq, Int.reduceBNe, Int.cast_ofNat_Int, List.getElem?_toArray, stp, Try.underlying24, Try.underlying3, Try.underlying5, cv3_5, ty24, ty3, ty5, rs64]
  repeat' (first | (with_reducible first | refine gw_seq ?_ | refine gw_block ?_) | ((first | (with_reducible first | refine gw_region ?_ | refine gw_if ?_ | refine gw_skip ?_ | refine gw_exit ?_ | refine gw_ret ?_) | ((with_reducible first | refine gif_b (fun hb => ?_) (fun hb => ?_) | refine want_t (fun hb => ?_) (fun hb => ?_) | refine want_f (fun hb => ?_) (fun hb => ?_)) <;> (try simp only [hb]))) <;> try simp only [List.map, gop, ev, lk, aenv, gyield, gBin, gInt, gStrOp, gUn, gPick, gNil, gExtract, gIfc, gConvK, gIndexO, gIndexVO, gMakeV, gMinV, gMaxV, isInt, gMin, gMax, gBlt, gLenX, gCallV, gInvoke, gNilM, Array.toList_map, vcells, gField, gIndexV, gPart, reduceIte, Nat.reduceAdd, Nat.reduceSub, Nat.reduceMul, Nat.reduceLT, Nat.reduceLeDiff, Nat.reduceEqDiff, Nat.reduceBEq, Int.reduceLT, Int.reduceLE, Int.reduceGT, Int.reduceGE, Int.reduceEq, Int.reduceNe, Int.reduceAdd, Int.reduceSub, Int.reduceMul, Int.reduceNeg, Int.reduceToNat, Int.reduceBEq, Int.reduceBNe, Int.cast_ofNat_Int, List.getElem?_toArray, stp, Try.underlying24, Try.underlying3, Try.underlying5, cv3_5, ty24, ty3, ty5, rs64]))
  exact ⟨s2, a', c', rfl, hr, ha⟩
end Go.Gh

/- Contracts of the order of keys, and of awake. -/
namespace Go.Gh
open Go Go.Proofs Go.RowKit
set_option linter.unusedVariables false
set_option linter.unusedSimpArgs false
set_option maxRecDepth 100000

theorem c_bcmp (N : Nat) (h : GH) {v u : Value} {l m : List UInt8} (r1 : RB h v l) (r2 : RB h u m) : GTri Try.prog N 131 [v, u] h fun x h' => x = .int .i64 (Lib.compareBytes l m) ∧ h' = h :=
  gtri_cmp Try.func131 (by kernel_rfl) (by kernel_rfl) (by kernel_rfl) (by kernel_rfl) r1 r2
theorem c_Compare (N : Nat) (h : GH) {v u : Value} {l m : List UInt8} (r1 : RB h v l) (r2 : RB h u m) : GTri Try.prog N 100 [v, u] h fun x h' => x = .int .i64 (Lib.compareBytes l m) ∧ h' = h := by
  refine gtri Try.func100 rfl gf100 ok100 (by simp [Try.ntmps100]) ?_
  repeat' (first | (with_reducible first | refine gw_seq ?_ | refine gw_block ?_) | ((first | (with_reducible first | refine gw_region ?_ | refine gw_if ?_ | refine gw_skip ?_ | refine gw_exit ?_ | refine gw_ret ?_) | ((with_reducible first | refine gif_b (fun hb => ?_) (fun hb => ?_) | refine want_t (fun hb => ?_) (fun hb => ?_) | refine want_f (fun hb => ?_) (fun hb => ?_)) <;> (try simp only [hb])) | ((refine GTri.mono (c_bcmp _ _ r1 r2) ?_); rintro _ _ ⟨rfl, rfl⟩)) <;> try simp only [List.map, gop, ev, lk, aenv, gyield, gBin, gInt, gStrOp, gUn, gPick, gNil, gExtract, gIfc, gConvK, gIndexO, gIndexVO, gMakeV, gMinV, gMaxV, isInt, gMin, gMax, gBlt, gLenX, gCallV, gInvoke, gNilM, Array.toList_map, vcells, gField, gIndexV, gPart, reduceIte, Nat.reduceAdd, Nat.reduceSub, Nat.reduceMul, Nat.reduceLT, Nat.reduceLeDiff, Nat.reduceEqDiff, Nat.reduceBEq, Int.reduceLT, Int.reduceLE, Int.reduceGT, Int.reduceGE, Int.reduceEq, Int.reduceNe, Int.reduceAdd, Int.reduceSub, Int.reduceMul, Int.reduceNeg, Int.reduceToNat, Int.reduceBEq, Int.reduceBNe, Int.cast_ofNat_Int, List.getElem?_toArray, stp, Try.underlying24, Try.underlying5, ty24, ty5, rs100]))
theorem c_Order (N : Nat) (h : GH) {a b : Option Addr} {n m c d : Nat} {l k : List UInt8} (r1 : RB h (.slice a n c) l) (r2 : RB h (.slice b m d) k) (hn : n = l.length) (hm : m = k.length) : GTri Try.prog N 60 [.slice a n c, .slice b m d] h fun v h' => v = .int .i64 (Lib.compareBytes (gkey l) (gkey k)) ∧ HS h h' := by
  refine gtri Try.func60 rfl gf60 ok60 (by simp [Try.ntmps60]) ?_
  repeat' (first | (with_reducible first | refine gw_seq ?_ | refine gw_block ?_) | ((first | (with_reducible first | refine gw_region ?_ | refine gw_if ?_ | refine gw_skip ?_ | refine gw_exit ?_ | refine gw_ret ?_) | ((with_reducible first | refine gif_b (fun hb => ?_) (fun hb => ?_) | refine want_t (fun hb => ?_) (fun hb => ?_) | refine want_f (fun hb => ?_) (fun hb => ?_)) <;> (try simp only [hb])) | ((refine GTri.mono (c_Key _ _ r1 hn) ?_); rintro _ h1 ⟨s1, a1, c1, rfl, q1, _⟩) | ((refine GTri.mono (c_Key _ _ (r2.hs s1) hm) ?_); rintro _ h2 ⟨s2, a2, c2, rfl, q2, _⟩) | ((refine GTri.mono (c_Compare _ _ (q1.hs s2) q2) ?_); rintro _ _ ⟨rfl, rfl⟩)) <;> try simp only [List.map, gop, ev, lk, aenv, gyield, gBin, gInt, gStrOp, gUn, gPick, gNil, gExtract, gIfc, gConvK, gIndexO, gIndexVO, gMakeV, gMinV, gMaxV, isInt, gMin, gMax, gBlt, gLenX, gCallV, gInvoke, gNilM, Array.toList_map, vcells, gField, gIndexV, gPart, reduceIte, Nat.reduceAdd, Nat.reduceSub, Nat.reduceMul, Nat.reduceLT, Nat.reduceLeDiff, Nat.reduceEqDiff, Nat.reduceBEq, Int.reduceLT, Int.reduceLE, Int.reduceGT, Int.reduceGE, Int.reduceEq, Int.reduceNe, Int.reduceAdd, Int.reduceSub, Int.reduceMul, Int.reduceNeg, Int.reduceToNat, Int.reduceBEq, Int.reduceBNe, Int.cast_ofNat_Int, List.getElem?_toArray, stp, Try.underlying24, Try.underlying5, ty24, ty5, rs60]))
  exact s1.trans s2
theorem c_rOrder (N : Nat) (h : GH) {a b : Option Addr} {n m c d : Nat} {l k : List UInt8} (r1 : RB h (.slice a n c) l) (r2 : RB h (.slice b m d) k) (hn : n = l.length) (hm : m = k.length) : GTri Try.prog N 28 [.slice a n c, .slice b m d] h fun v h' => v = .int .i64 (Lib.compareBytes (gkey l) (gkey k)) ∧ HS h h' := by
  refine gtri Try.func28 rfl gf28 ok28 (by simp [Try.ntmps28]) ?_
  repeat' (first | (with_reducible first | refine gw_seq ?_ | refine gw_block ?_) | ((first | (with_reducible first | refine gw_region ?_ | refine gw_if ?_ | refine gw_skip ?_ | refine gw_exit ?_ | refine gw_ret ?_) | ((with_reducible first | refine gif_b (fun hb => ?_) (fun hb => ?_) | refine want_t (fun hb => ?_) (fun hb => ?_) | refine want_f (fun hb => ?_) (fun hb => ?_) | refine dr_t (fun hb => ?_) (fun hb => ?_) | refine dr_f (fun hb => ?_) (fun hb => ?_)) <;> (try simp only [hb])) | with_reducible refine gw_draw (id := 1) [(0, []), (3, []), (1, []), (2, []), (4, [2]), (5, []), (6, []), (7, [])] [0, 1, 3, 0, 11, 27, 31, 127] mixed (by kernel_rfl) ?_ | ((refine GTri.mono (c_rKey _ _ r1 hn) ?_); rintro _ h1 ⟨s1, a1, c1, rfl, q1, _⟩)) <;> try simp only [List.map, gop, ev, lk, aenv, gyield, gBin, gInt, gStrOp, gUn, gPick, gNil, gExtract, gIfc, gConvK, gIndexO, gIndexVO, gMakeV, gMinV, gMaxV, isInt, gMin, gMax, gBlt, gLenX, gCallV, gInvoke, gNilM, Array.toList_map, vcells, gField, gIndexV, gPart, reduceIte, Nat.reduceAdd, Nat.reduceSub, Nat.reduceMul, Nat.reduceLT, Nat.reduceLeDiff, Nat.reduceEqDiff, Nat.reduceBEq, Int.reduceLT, Int.reduceLE, Int.reduceGT, Int.reduceGE, Int.reduceEq, Int.reduceNe, Int.reduceAdd, Int.reduceSub, Int.reduceMul, Int.reduceNeg, Int.reduceToNat, Int.reduceBEq, Int.reduceBNe, Int.cast_ofNat_Int, List.getElem?_toArray, stp, rvOf, rvLen, wput, wlk, rdv, isEff, dsOf, sgl, stq, Try.underlying24, Try.underlying5, Try.underlying9, ty24, ty5, ty9, rs28]))
  simp only [List.map, gop, ev, lk, aenv, gyield, gBin, gInt, gStrOp, gUn, gPick, gNil, gExtract, gIfc, gConvK, gIndexO, gIndexVO, gMakeV, gMinV, gMaxV, isInt, gMin, gMax, gBlt, gLenX, gCallV, gInvoke, gNilM, Array.toList_map, vcells, gField, gIndexV, gPart, reduceIte, Nat.reduceAdd, Nat.reduceSub, Nat.reduceMul, Nat.reduceLT, Nat.reduceLeDiff, Nat.reduceEqDiff, Nat.reduceBEq, Int.reduceLT, Int.reduceLE, Int.reduceGT, Int.reduceGE, Int.reduceEq, Int.reduceNe, Int.reduceAdd, Int.reduceSub, Int.reduceMul, Int.reduceNeg, Int.reduceToNat, Int.reduceBEq, Int.reduceBNe, Int.cast_ofNat_Int, List.getElem?_toArray, stp, rvOf, rvLen, wput, wlk, rdv, isEff, dsOf, sgl, stq, Try.underlying24, Try.underlying5, Try.underlying9, ty24, ty5, ty9, rs28, q1.conv Try.underlying24 Try.underlying5 Try.underlying9]
  refine (c_rKey _ _ (r2.hs s1) hm).mono ?_
  rintro _ h2 ⟨s2, a2, c2, rfl, q2, _⟩
  simp only [List.map, gop, ev, lk, aenv, gyield, gBin, gInt, gStrOp, gUn, gPick, gNil, gExtract, gIfc, gConvK, gIndexO, gIndexVO, gMakeV, gMinV, gMaxV, isInt, gMin, gMax, gBlt, gLenX, gCallV, gInvoke, gNilM, Array.toList_map, vcells, gField, gIndexV, gPart, reduceIte, Nat.reduceAdd, Nat.reduceSub, Nat.reduceMul, Nat.reduceLT, Nat.reduceLeDiff, Nat.reduceEqDiff, Nat.reduceBEq, Int.reduceLT, Int.reduceLE, Int.reduceGT, Int.reduceGE, Int.reduceEq, Int.reduceNe, Int.reduceAdd, Int.reduceSub, Int.reduceMul, Int.reduceNeg, Int.reduceToNat, Int.reduceBEq, Int.reduceBNe, Int.cast_ofNat_Int, List.getElem?_toArray, stp, rvOf, rvLen, wput, wlk, rdv, isEff, dsOf, sgl, stq, Try.underlying24, Try.underlying5, Try.underlying9, ty24, ty5, ty9, rs28, (q1.hs s2).conv Try.underlying24 Try.underlying5 Try.underlying9, q2.conv Try.underlying24 Try.underlying5 Try.underlying9]
  have e := compare_less (gkey l) (gkey k)
  repeat' (first | (with_reducible first | refine gw_seq ?_ | refine gw_block ?_) | ((first | (with_reducible first | refine gw_region ?_ | refine gw_if ?_ | refine gw_skip ?_ | refine gw_exit ?_ | refine gw_ret ?_) | ((with_reducible first | refine gif_b (fun hb => ?_) (fun hb => ?_) | refine want_t (fun hb => ?_) (fun hb => ?_) | refine want_f (fun hb => ?_) (fun hb => ?_) | refine dr_t (fun hb => ?_) (fun hb => ?_) | refine dr_f (fun hb => ?_) (fun hb => ?_)) <;> (try simp only [hb])) | with_reducible refine gw_draw (id := 1) [(0, []), (3, []), (1, []), (2, []), (4, [2]), (5, []), (6, []), (7, [])] [0, 1, 3, 0, 11, 27, 31, 127] mixed (by kernel_rfl) ?_) <;> try simp only [List.map, gop, ev, lk, aenv, gyield, gBin, gInt, gStrOp, gUn, gPick, gNil, gExtract, gIfc, gConvK, gIndexO, gIndexVO, gMakeV, gMinV, gMaxV, isInt, gMin, gMax, gBlt, gLenX, gCallV, gInvoke, gNilM, Array.toList_map, vcells, gField, gIndexV, gPart, reduceIte, Nat.reduceAdd, Nat.reduceSub, Nat.reduceMul, Nat.reduceLT, Nat.reduceLeDiff, Nat.reduceEqDiff, Nat.reduceBEq, Int.reduceLT, Int.reduceLE, Int.reduceGT, Int.reduceGE, Int.reduceEq, Int.reduceNe, Int.reduceAdd, Int.reduceSub, Int.reduceMul, Int.reduceNeg, Int.reduceToNat, Int.reduceBEq, Int.reduceBNe, Int.cast_ofNat_Int, List.getElem?_toArray, stp, rvOf, rvLen, wput, wlk, rdv, isEff, dsOf, sgl, stq, Try.underlying24, Try.underlying5, Try.underlying9, ty24, ty5, ty9, rs28, bstr_list]))
  all_goals
    refine ⟨?_, s1.trans s2⟩
    try simp only [less_flip] at *
    simp only [e, *, if_true, Bool.false_eq_true, if_false]

end Go.Gh

/- The orders that the sorts go by. -/

namespace Go.Gh
open Go Go.Proofs Go.RowKit Go.Sort
set_option linter.unusedVariables false
set_option linter.unusedSimpArgs false
set_option maxRecDepth 100000
set_option maxHeartbeats 2000000

/-- A comparison. -/
structure TC {α : Type} (f : α → α → Int) : Prop where
  anti : ∀ x y, f x y = - f y x
  tr : ∀ x y z, f x y ≤ 0 → f y z ≤ 0 → f x z ≤ 0
theorem TC.swo {α : Type} {f : α → α → Int} (t : TC f) : SWO (ltOf f) := by
  refine ⟨fun x => ?_, fun x y z h1 h2 => ?_, fun x y z h1 h2 => ?_⟩
  · have := t.anti x x
    simp only [ltOf, decide_eq_false_iff_not]
    omega
  · simp only [ltOf, decide_eq_true_eq] at *
    have h3 := t.tr x y z (by omega) (by omega)
    rcases Int.lt_or_eq_of_le h3 with h | h
    · exact h
    · have a1 := t.anti x z
      have a2 := t.anti y z
      have := t.tr z x y (by omega) (by omega)
      omega
  · simp only [ltOf, decide_eq_false_iff_not] at *
    have a1 := t.anti x y
    have a2 := t.anti y z
    have a3 := t.anti x z
    have := t.tr z y x (by omega) (by omega)
    omega
theorem TC.or {α : Type} {f g : α → α → Int} (t : TC f) (u : TC g) : TC fun x y => if f x y = 0 then g x y else f x y := by
  refine ⟨fun x y => ?_, fun x y z h1 h2 => ?_⟩
  · have := t.anti x y
    have := u.anti x y
    split <;> split <;> omega
  · have a1 := t.anti x y
    have a2 := t.anti y z
    have a3 := t.anti x z
    have p1 : f x y ≤ 0 := by split at h1 <;> omega
    have p2 : f y z ≤ 0 := by split at h2 <;> omega
    have p3 := t.tr x y z p1 p2
    split
    · rename_i e
      have q1 := t.tr z x y (by omega) p1
      have q2 := t.tr y z x p2 (by omega)
      have e1 : f x y = 0 := by omega
      have e2 : f y z = 0 := by omega
      rw [if_pos e1] at h1
      rw [if_pos e2] at h2
      exact u.tr x y z h1 h2
    · exact p3
theorem TC.on {α β : Type} {f : α → α → Int} (t : TC f) (k : β → α) : TC fun x y => f (k x) (k y) := ⟨fun x y => t.anti _ _, fun x y z => t.tr _ _ _⟩
theorem tc_int : TC Lib.compareInt := by
  refine ⟨fun x y => ?_, fun x y z h1 h2 => ?_⟩
  · unfold Lib.compareInt
    split <;> split <;> (try split) <;> (try split) <;> omega
  · unfold Lib.compareInt at *
    split at h1 <;> split at h2 <;> (try split at h1) <;> (try split at h2) <;> split <;> (try split) <;> omega
theorem u8lt (a b : UInt8) : (a < b) ↔ a.toNat < b.toNat := UInt8.lt_iff_toNat_lt
theorem cb_anti : ∀ a b : List UInt8, Lib.compareBytes a b = - Lib.compareBytes b a
  | [], [] => rfl
  | [], _ :: _ => rfl
  | _ :: _, [] => rfl
  | x :: a, y :: b => by
    have ih := cb_anti a b
    simp only [Lib.compareBytes, u8lt]
    split <;> split <;> (try split) <;> (try split) <;> omega
theorem cb_tr : ∀ a b c : List UInt8, Lib.compareBytes a b ≤ 0 → Lib.compareBytes b c ≤ 0 → Lib.compareBytes a c ≤ 0
  | [], _, [], _, _ => by simp [Lib.compareBytes]
  | [], _, _ :: _, _, _ => by simp [Lib.compareBytes]
  | _ :: _, [], _, h, _ => by simp [Lib.compareBytes] at h
  | _ :: _, _ :: _, [], _, h => by simp [Lib.compareBytes] at h
  | x :: a, y :: b, z :: c, h1, h2 => by
    have ih := cb_tr a b c
    simp only [Lib.compareBytes, u8lt] at h1 h2 ⊢
    split at h1 <;> split at h2 <;> (try split at h1) <;> (try split at h2) <;> split <;> (try split) <;> first | omega | (exact ih h1 h2)
theorem tc_cb : TC Lib.compareBytes := ⟨cb_anti, cb_tr⟩
/-- The order of two identities. -/
def idO (x y : List UInt8) : Int := Lib.compareBytes (gkey x) (gkey y)
theorem tc_id : TC idO := tc_cb.on gkey

theorem c_nan1 (N : Nat) (h : GH) (x : Int) : GTri Try.prog N 102 [.int .i64 x] h fun v h' => v = .bool false ∧ h' = h := by
  have d : (x != x) = false := by simp
  refine gtri Try.func102 rfl gf102 ok102 (by simp [Try.ntmps102]) ?_
  refine mk_of ?_; repeat' (first | (with_reducible first | refine gw_seq ?_ | refine gw_block ?_) | ((first | (with_reducible refine mk_to ?_) | (with_reducible first | refine gw_region ?_ | refine gw_if ?_ | refine gw_skip ?_ | refine gw_exit ?_ | refine gw_ret ?_) | ((with_reducible first | refine gif_b (fun hb => ?_) (fun hb => ?_) | refine want_t (fun hb => ?_) (fun hb => ?_) | refine want_f (fun hb => ?_) (fun hb => ?_)) <;> (try simp only [hb]) <;> (try simp only [hpr] at hb))) <;> try simp only [List.map, gop, ev, lk, aenv, gyield, gBin, gInt, gStrOp, gUn, gPick, gNil, gExtract, gIfc, gConvK, gIndexO, gIndexVO, gMakeV, gMinV, gMaxV, isInt, gMin, gMax, gBlt, gLenX, gCallV, gInvoke, gNilM, Array.toList_map, vcells, gField, gIndexV, gPart, reduceIte, Nat.reduceAdd, Nat.reduceSub, Nat.reduceMul, Nat.reduceLT, Nat.reduceLeDiff, Nat.reduceEqDiff, Nat.reduceBEq, Int.reduceLT, Int.reduceLE, Int.reduceGT, Int.reduceGE, Int.reduceEq, Int.reduceNe, Int.reduceAdd, Int.reduceSub, Int.reduceMul, Int.reduceNeg, Int.reduceToNat, Int.reduceBEq, Int.reduceBNe, Int.cast_ofNat_Int, List.getElem?_toArray, stp, Try.underlying3, ty3, rs102, d]))
theorem c_ICmp (N : Nat) (h : GH) (x y : Int) : GTri Try.prog N 61 [.int .i64 x, .int .i64 y] h fun v h' => v = .int .i64 (Lib.compareInt x y) ∧ h' = h := by
  refine gtri Try.func61 rfl gf61 ok61 (by simp [Try.ntmps61]) ?_
  unfold Lib.compareInt
  by_cases h1 : x < y
  · have d1 : decide (x < y) = true := decide_eq_true h1
    refine mk_of ?_; repeat' (first | (with_reducible first | refine gw_seq ?_ | refine gw_block ?_) | ((first | (with_reducible refine mk_to ?_) | (with_reducible first | refine gw_region ?_ | refine gw_if ?_ | refine gw_skip ?_ | refine gw_exit ?_ | refine gw_ret ?_) | ((with_reducible first | refine gif_b (fun hb => ?_) (fun hb => ?_) | refine want_t (fun hb => ?_) (fun hb => ?_) | refine want_f (fun hb => ?_) (fun hb => ?_)) <;> (try simp only [hb]) <;> (try simp only [hpr] at hb)) | ((refine GTri.mono (c_nan1 _ _ _) ?_); rintro _ _ ⟨rfl, hh9⟩; replace hh9 := hh9.symm; subst hh9)) <;> try simp only [List.map, gop, ev, lk, aenv, gyield, gBin, gInt, gStrOp, gUn, gPick, gNil, gExtract, gIfc, gConvK, gIndexO, gIndexVO, gMakeV, gMinV, gMaxV, isInt, gMin, gMax, gBlt, gLenX, gCallV, gInvoke, gNilM, Array.toList_map, vcells, gField, gIndexV, gPart, reduceIte, Nat.reduceAdd, Nat.reduceSub, Nat.reduceMul, Nat.reduceLT, Nat.reduceLeDiff, Nat.reduceEqDiff, Nat.reduceBEq, Int.reduceLT, Int.reduceLE, Int.reduceGT, Int.reduceGE, Int.reduceEq, Int.reduceNe, Int.reduceAdd, Int.reduceSub, Int.reduceMul, Int.reduceNeg, Int.reduceToNat, Int.reduceBEq, Int.reduceBNe, Int.cast_ofNat_Int, List.getElem?_toArray, stp, Try.underlying3, ty3, rs61, d1]))
    rw [if_pos h1]
  have d1 : decide (x < y) = false := decide_eq_false h1
  rw [if_neg h1]
  by_cases h2 : x > y
  · have d2 : decide (x > y) = true := decide_eq_true h2
    refine mk_of ?_; repeat' (first | (with_reducible first | refine gw_seq ?_ | refine gw_block ?_) | ((first | (with_reducible refine mk_to ?_) | (with_reducible first | refine gw_region ?_ | refine gw_if ?_ | refine gw_skip ?_ | refine gw_exit ?_ | refine gw_ret ?_) | ((with_reducible first | refine gif_b (fun hb => ?_) (fun hb => ?_) | refine want_t (fun hb => ?_) (fun hb => ?_) | refine want_f (fun hb => ?_) (fun hb => ?_)) <;> (try simp only [hb]) <;> (try simp only [hpr] at hb)) | ((refine GTri.mono (c_nan1 _ _ _) ?_); rintro _ _ ⟨rfl, hh9⟩; replace hh9 := hh9.symm; subst hh9)) <;> try simp only [List.map, gop, ev, lk, aenv, gyield, gBin, gInt, gStrOp, gUn, gPick, gNil, gExtract, gIfc, gConvK, gIndexO, gIndexVO, gMakeV, gMinV, gMaxV, isInt, gMin, gMax, gBlt, gLenX, gCallV, gInvoke, gNilM, Array.toList_map, vcells, gField, gIndexV, gPart, reduceIte, Nat.reduceAdd, Nat.reduceSub, Nat.reduceMul, Nat.reduceLT, Nat.reduceLeDiff, Nat.reduceEqDiff, Nat.reduceBEq, Int.reduceLT, Int.reduceLE, Int.reduceGT, Int.reduceGE, Int.reduceEq, Int.reduceNe, Int.reduceAdd, Int.reduceSub, Int.reduceMul, Int.reduceNeg, Int.reduceToNat, Int.reduceBEq, Int.reduceBNe, Int.cast_ofNat_Int, List.getElem?_toArray, stp, Try.underlying3, ty3, rs61, d1, d2]))
    rw [if_pos h2]
  · have d2 : decide (x > y) = false := decide_eq_false h2
    refine mk_of ?_; repeat' (first | (with_reducible first | refine gw_seq ?_ | refine gw_block ?_) | ((first | (with_reducible refine mk_to ?_) | (with_reducible first | refine gw_region ?_ | refine gw_if ?_ | refine gw_skip ?_ | refine gw_exit ?_ | refine gw_ret ?_) | ((with_reducible first | refine gif_b (fun hb => ?_) (fun hb => ?_) | refine want_t (fun hb => ?_) (fun hb => ?_) | refine want_f (fun hb => ?_) (fun hb => ?_)) <;> (try simp only [hb]) <;> (try simp only [hpr] at hb)) | ((refine GTri.mono (c_nan1 _ _ _) ?_); rintro _ _ ⟨rfl, hh9⟩; replace hh9 := hh9.symm; subst hh9)) <;> try simp only [List.map, gop, ev, lk, aenv, gyield, gBin, gInt, gStrOp, gUn, gPick, gNil, gExtract, gIfc, gConvK, gIndexO, gIndexVO, gMakeV, gMinV, gMaxV, isInt, gMin, gMax, gBlt, gLenX, gCallV, gInvoke, gNilM, Array.toList_map, vcells, gField, gIndexV, gPart, reduceIte, Nat.reduceAdd, Nat.reduceSub, Nat.reduceMul, Nat.reduceLT, Nat.reduceLeDiff, Nat.reduceEqDiff, Nat.reduceBEq, Int.reduceLT, Int.reduceLE, Int.reduceGT, Int.reduceGE, Int.reduceEq, Int.reduceNe, Int.reduceAdd, Int.reduceSub, Int.reduceMul, Int.reduceNeg, Int.reduceToNat, Int.reduceBEq, Int.reduceBNe, Int.cast_ofNat_Int, List.getElem?_toArray, stp, Try.underlying3, ty3, rs61, d1, d2]))
    rw [if_neg h2]

/-- An identity and its first change. -/
abbrev Fst := List UInt8 × Nat × Nat
def Fr (h : GH) (cs : List Value) (x : Fst) : Prop := ∃ a c, cs = [.slice a x.1.length c, .int .i64 (x.2.1 : Int), .int .i64 (x.2.2 : Int)] ∧ RB h (.slice a x.1.length c) x.1
def fcmp (x y : Fst) : Int := if idO x.1 y.1 = 0 then (if Lib.compareInt x.2.1 y.2.1 = 0 then Lib.compareInt x.2.2 y.2.2 else Lib.compareInt x.2.1 y.2.1) else idO x.1 y.1
theorem tc_f : TC fcmp := (tc_id.on fun x : Fst => x.1).or ((tc_int.on fun x : Fst => (x.2.1 : Int)).or (tc_int.on fun x : Fst => (x.2.2 : Int)))
theorem c_Or3 (N : Nat) (h : GH) {v : Value} {x y z : Int} (r : RL 1 (fun _ cs (i : Int) => cs = [.int .i64 i]) h v [x, y, z]) : GTri Try.prog N 59 [v] h fun v h' => v = .int .i64 (if x = 0 then (if y = 0 then z else y) else x) ∧ h' = h := by
  obtain ⟨a, c, rfl, _⟩ := r.form
  have hx : ∀ {h' : GH}, h' = h → HS h h' := fun e => by rw [e]; exact HS.refl h
  refine gtri Try.func59 rfl gf59 ok59 (by simp [Try.ntmps59]) ?_
  repeat' (first | (with_reducible first | refine gw_seq ?_ | refine gw_block ?_) | ((first | (with_reducible first | refine gw_region ?_ | refine gw_if ?_ | refine gw_skip ?_ | refine gw_exit ?_ | refine gw_ret ?_) | ((with_reducible first | refine gif_b (fun hb => ?_) (fun hb => ?_) | refine want_t (fun hb => ?_) (fun hb => ?_) | refine want_f (fun hb => ?_) (fun hb => ?_)) <;> (try simp only [hb]) <;> (try simp only [hpr] at hb))) <;> try simp only [List.map, gop, ev, lk, aenv, gyield, gBin, gInt, gStrOp, gUn, gPick, gNil, gExtract, gIfc, gConvK, gIndexO, gIndexVO, gMakeV, gMinV, gMaxV, isInt, gMin, gMax, gBlt, gLenX, gCallV, gInvoke, gNilM, Array.toList_map, vcells, gField, gIndexV, gPart, reduceIte, Nat.reduceAdd, Nat.reduceSub, Nat.reduceMul, Nat.reduceLT, Nat.reduceLeDiff, Nat.reduceEqDiff, Nat.reduceBEq, Int.reduceLT, Int.reduceLE, Int.reduceGT, Int.reduceGE, Int.reduceEq, Int.reduceNe, Int.reduceAdd, Int.reduceSub, Int.reduceMul, Int.reduceNeg, Int.reduceToNat, Int.reduceBEq, Int.reduceBNe, Int.cast_ofNat_Int, List.getElem?_toArray, stp, Try.underlying3, Try.underlying83, ty83, ty3, rs59]))
  refine gw_loop2 [3, 6, 7] (fun (i : Nat) => [(8, .int .i64 (i : Int))]) (fun q i h' => 3 - i = q ∧ i ≤ 3 ∧ h' = h ∧ (1 ≤ i → x = 0) ∧ (2 ≤ i → y = 0) ∧ (3 ≤ i → z = 0)) 3 0 (by simp [lk]) ⟨rfl, by omega, rfl, by omega, by omega, by omega⟩ ?_
  rintro _ i h3 ⟨rfl, hi, rfl, c1, c2, c3⟩
  by_cases hi3 : i < 3
  case neg =>
    obtain rfl : i = 3 := by omega
    have d3 : decide (((3 : Nat) : Int) < 3) = false := rfl
    refine mk_of ?_; repeat' (first | (with_reducible first | refine gw_seq ?_ | refine gw_block ?_) | ((first | (with_reducible refine mk_to ?_) | (with_reducible first | refine gw_region ?_ | refine gw_if ?_ | refine gw_skip ?_ | refine gw_exit ?_ | refine gw_ret ?_) | ((with_reducible first | refine gif_b (fun hb => ?_) (fun hb => ?_) | refine want_t (fun hb => ?_) (fun hb => ?_) | refine want_f (fun hb => ?_) (fun hb => ?_)) <;> (try simp only [hb]) <;> (try simp only [hpr] at hb))) <;> try simp only [List.map, gop, ev, lk, aenv, gyield, gBin, gInt, gStrOp, gUn, gPick, gNil, gExtract, gIfc, gConvK, gIndexO, gIndexVO, gMakeV, gMinV, gMaxV, isInt, gMin, gMax, gBlt, gLenX, gCallV, gInvoke, gNilM, Array.toList_map, vcells, gField, gIndexV, gPart, reduceIte, Nat.reduceAdd, Nat.reduceSub, Nat.reduceMul, Nat.reduceLT, Nat.reduceLeDiff, Nat.reduceEqDiff, Nat.reduceBEq, Int.reduceLT, Int.reduceLE, Int.reduceGT, Int.reduceGE, Int.reduceEq, Int.reduceNe, Int.reduceAdd, Int.reduceSub, Int.reduceMul, Int.reduceNeg, Int.reduceToNat, Int.reduceBEq, Int.reduceBNe, Int.cast_ofNat_Int, List.getElem?_toArray, stp, Try.underlying3, Try.underlying83, ty83, ty3, rs59, List.length_cons, List.length_nil, d3]))
    rw [if_pos (c1 (by omega)), if_pos (c2 (by omega)), c3 (by omega)]
  have d3 : decide ((i : Int) < 3) = true := decide_eq_true (by omega)
  have wi : IntKind.i64.wrap ((i : Int) + 1) = ((i + 1 : Nat) : Int) := by rw [wrap64 (by omega) (by omega)]; omega
  obtain ⟨u, hu⟩ : ∃ u, [x, y, z][i]? = some u := ⟨_, List.getElem?_eq_getElem (by simpa using hi3)⟩
  obtain ⟨ad, cs2, g1', g2, rfl⟩ := r.at (P := Try.prog) Try.underlying83 sz3 hu
  have g1 : gIndex Try.prog 83 (.slice a 3 c) (i : Int) = some (.pointer (some ad)) := g1'
  have l1 : gLoad Try.prog 3 h3 (.pointer (some ad)) = some (.int .i64 u) := by simp only [gLoad, sz3, g2]; rfl
  have hu3 : (i = 0 ∧ u = x) ∨ (i = 1 ∧ u = y) ∨ (i = 2 ∧ u = z) := by
    have h3 : i = 0 ∨ i = 1 ∨ i = 2 := by omega
    rcases h3 with rfl | rfl | rfl <;> simp at hu <;> simp [hu]
  by_cases hz : u = 0
  · have d4 : (u != 0) = false := by simpa using hz
    refine mk_of ?_; repeat' (first | (with_reducible first | refine gw_seq ?_ | refine gw_block ?_) | ((first | (with_reducible refine mk_to ?_) | (with_reducible first | refine gw_region ?_ | refine gw_if ?_ | refine gw_skip ?_ | refine gw_exit ?_ | refine gw_ret ?_) | ((with_reducible first | refine gif_b (fun hb => ?_) (fun hb => ?_) | refine want_t (fun hb => ?_) (fun hb => ?_) | refine want_f (fun hb => ?_) (fun hb => ?_)) <;> (try simp only [hb]) <;> (try simp only [hpr] at hb))) <;> try simp only [List.map, gop, ev, lk, aenv, gyield, gBin, gInt, gStrOp, gUn, gPick, gNil, gExtract, gIfc, gConvK, gIndexO, gIndexVO, gMakeV, gMinV, gMaxV, isInt, gMin, gMax, gBlt, gLenX, gCallV, gInvoke, gNilM, Array.toList_map, vcells, gField, gIndexV, gPart, reduceIte, Nat.reduceAdd, Nat.reduceSub, Nat.reduceMul, Nat.reduceLT, Nat.reduceLeDiff, Nat.reduceEqDiff, Nat.reduceBEq, Int.reduceLT, Int.reduceLE, Int.reduceGT, Int.reduceGE, Int.reduceEq, Int.reduceNe, Int.reduceAdd, Int.reduceSub, Int.reduceMul, Int.reduceNeg, Int.reduceToNat, Int.reduceBEq, Int.reduceBNe, Int.cast_ofNat_Int, List.getElem?_toArray, stp, Try.underlying3, Try.underlying83, ty83, ty3, rs59, List.length_cons, List.length_nil, d3, g1, l1, d4, wi]))
    refine ⟨_, i + 1, ?_, (by simp only [List.forall_mem_cons, List.not_mem_nil, false_implies, implies_true, List.map, List.cons_append, List.nil_append, lk, Nat.reduceEqDiff, reduceIte, and_true, true_and]), rfl, by omega, fun h => ?_, fun h => ?_, fun h => ?_⟩
    · omega
    · rcases hu3 with ⟨rfl, e⟩ | ⟨rfl, e⟩ | ⟨rfl, e⟩
      · rw [← e]; exact hz
      · exact c1 (by omega)
      · exact c1 (by omega)
    · rcases hu3 with ⟨rfl, e⟩ | ⟨rfl, e⟩ | ⟨rfl, e⟩
      · omega
      · rw [← e]; exact hz
      · exact c2 (by omega)
    · rcases hu3 with ⟨rfl, e⟩ | ⟨rfl, e⟩ | ⟨rfl, e⟩
      · omega
      · omega
      · rw [← e]; exact hz
  · have d4 : (u != 0) = true := by simpa using hz
    refine mk_of ?_; repeat' (first | (with_reducible first | refine gw_seq ?_ | refine gw_block ?_) | ((first | (with_reducible refine mk_to ?_) | (with_reducible first | refine gw_region ?_ | refine gw_if ?_ | refine gw_skip ?_ | refine gw_exit ?_ | refine gw_ret ?_) | ((with_reducible first | refine gif_b (fun hb => ?_) (fun hb => ?_) | refine want_t (fun hb => ?_) (fun hb => ?_) | refine want_f (fun hb => ?_) (fun hb => ?_)) <;> (try simp only [hb]) <;> (try simp only [hpr] at hb))) <;> try simp only [List.map, gop, ev, lk, aenv, gyield, gBin, gInt, gStrOp, gUn, gPick, gNil, gExtract, gIfc, gConvK, gIndexO, gIndexVO, gMakeV, gMinV, gMaxV, isInt, gMin, gMax, gBlt, gLenX, gCallV, gInvoke, gNilM, Array.toList_map, vcells, gField, gIndexV, gPart, reduceIte, Nat.reduceAdd, Nat.reduceSub, Nat.reduceMul, Nat.reduceLT, Nat.reduceLeDiff, Nat.reduceEqDiff, Nat.reduceBEq, Int.reduceLT, Int.reduceLE, Int.reduceGT, Int.reduceGE, Int.reduceEq, Int.reduceNe, Int.reduceAdd, Int.reduceSub, Int.reduceMul, Int.reduceNeg, Int.reduceToNat, Int.reduceBEq, Int.reduceBNe, Int.cast_ofNat_Int, List.getElem?_toArray, stp, Try.underlying3, Try.underlying83, ty83, ty3, rs59, List.length_cons, List.length_nil, d3, g1, l1, d4]))
    rcases hu3 with ⟨rfl, rfl⟩ | ⟨rfl, rfl⟩ | ⟨rfl, rfl⟩
    · rw [if_neg hz]
    · rw [if_pos (c1 (by omega)), if_neg hz]
    · rw [if_pos (c1 (by omega)), if_pos (c2 (by omega))]
theorem three_rl {h : GH} {k : Nat} {x y z : Int} {w t : Bool} (m : h k = some ⟨[.int .i64 x, .int .i64 y, .int .i64 z], 1, w, t⟩) : RL 1 (fun _ cs (i : Int) => cs = [.int .i64 i]) h (.slice (some ⟨k, 0, none⟩) 3 7) [x, y, z] := by
  refine .inr ⟨_, 7, [.int .i64 x, .int .i64 y, .int .i64 z], rfl, gread_lit m (o := 0) rfl (by simp), by simp, fun i u hu => ?_, .inr ⟨_, m, .inl (by simp)⟩⟩
  have hi : i = 0 ∨ i = 1 ∨ i = 2 := by have := (List.getElem?_eq_some_iff.1 hu).1; simp at this; omega
  rcases hi with rfl | rfl | rfl <;> simp at hu <;> subst hu <;> rfl
theorem c_vcmp (N : Nat) (h : GH) {c1 c2 : List Value} {x y : Fst} (r1 : Fr h c1 x) (r2 : Fr h c2 y) : GTri Try.prog N 58 [.agg c1.toArray, .agg c2.toArray] h fun v h' => v = .int .i64 (fcmp x y) := by
  obtain ⟨a, c, rfl, p1⟩ := r1
  obtain ⟨a', c', rfl, q1⟩ := r2
  refine gtri Try.func58 rfl gf58 ok58 (by simp [Try.ntmps58]) ?_
  repeat' (first | (with_reducible first | refine gw_seq ?_ | refine gw_block ?_) | ((first | (with_reducible first | refine gw_region ?_ | refine gw_if ?_ | refine gw_skip ?_ | refine gw_exit ?_ | refine gw_ret ?_) | ((with_reducible first | refine gif_b (fun hb => ?_) (fun hb => ?_) | refine want_t (fun hb => ?_) (fun hb => ?_) | refine want_f (fun hb => ?_) (fun hb => ?_) | refine dr_t (fun hb => ?_) (fun hb => ?_) | refine dr_f (fun hb => ?_) (fun hb => ?_)) <;> (try simp only [hb]) <;> (try simp only [hpr] at hb)) | with_reducible refine gw_draw (id := 1) [(0, []), (1, []), (2, []), (3, []), (5, []), (6, []), (7, []), (8, []), (9, []), (10, []), (12, []), (13, []), (14, []), (15, []), (16, []), (17, []), (4, [7, 10, 14, 17]), (11, [14, 17]), (18, []), (19, []), (20, []), (21, [])] [0, 1, 0, 4, 15, 0, 32, 96, 0, 256, 768, 2047, 0, 4096, 12288, 0, 32768, 98304, 262143, 524287, 1048575, 2097151] mixed (by kernel_rfl) ?_) <;> try simp only [List.map, gop, ev, lk, aenv, gyield, gBin, gInt, gStrOp, gUn, gPick, gNil, gExtract, gIfc, gConvK, gIndexO, gIndexVO, gMakeV, gMinV, gMaxV, isInt, gMin, gMax, gBlt, gLenX, gCallV, gInvoke, gNilM, Array.toList_map, vcells, gField, gIndexV, gPart, reduceIte, Nat.reduceAdd, Nat.reduceSub, Nat.reduceMul, Nat.reduceLT, Nat.reduceLeDiff, Nat.reduceEqDiff, Nat.reduceBEq, Int.reduceLT, Int.reduceLE, Int.reduceGT, Int.reduceGE, Int.reduceEq, Int.reduceNe, Int.reduceAdd, Int.reduceSub, Int.reduceMul, Int.reduceNeg, Int.reduceToNat, Int.reduceBEq, Int.reduceBNe, Int.cast_ofNat_Int, List.getElem?_toArray, stp, rvOf, rvLen, wput, wlk, rdv, isEff, dsOf, sgl, stq, Try.underlying107, Try.underlying115, Try.underlying24, Try.underlying3, Try.underlying5, Try.underlying83, ty24, ty83, ty107, ty115, ty3, ty5, rs58]))
  refine box_g rfl fun k1 h1 m1 s1 f1 n1 => ?_
  refine mk_of ?_; repeat' (first | (with_reducible first | refine gw_seq ?_ | refine gw_block ?_) | ((first | (with_reducible refine mk_to ?_) | (with_reducible first | refine gw_region ?_ | refine gw_if ?_ | refine gw_skip ?_ | refine gw_exit ?_ | refine gw_ret ?_) | ((with_reducible first | refine gif_b (fun hb => ?_) (fun hb => ?_) | refine want_t (fun hb => ?_) (fun hb => ?_) | refine want_f (fun hb => ?_) (fun hb => ?_) | refine dr_t (fun hb => ?_) (fun hb => ?_) | refine dr_f (fun hb => ?_) (fun hb => ?_)) <;> (try simp only [hb]) <;> (try simp only [hpr] at hb)) | with_reducible refine gw_draw (id := 1) [(0, []), (1, []), (2, []), (3, []), (5, []), (6, []), (7, []), (8, []), (9, []), (10, []), (12, []), (13, []), (14, []), (15, []), (16, []), (17, []), (4, [7, 10, 14, 17]), (11, [14, 17]), (18, []), (19, []), (20, []), (21, [])] [0, 1, 0, 4, 15, 0, 32, 96, 0, 256, 768, 2047, 0, 4096, 12288, 0, 32768, 98304, 262143, 524287, 1048575, 2097151] mixed (by kernel_rfl) ?_) <;> try simp only [List.map, gop, ev, lk, aenv, gyield, gBin, gInt, gStrOp, gUn, gPick, gNil, gExtract, gIfc, gConvK, gIndexO, gIndexVO, gMakeV, gMinV, gMaxV, isInt, gMin, gMax, gBlt, gLenX, gCallV, gInvoke, gNilM, Array.toList_map, vcells, gField, gIndexV, gPart, reduceIte, Nat.reduceAdd, Nat.reduceSub, Nat.reduceMul, Nat.reduceLT, Nat.reduceLeDiff, Nat.reduceEqDiff, Nat.reduceBEq, Int.reduceLT, Int.reduceLE, Int.reduceGT, Int.reduceGE, Int.reduceEq, Int.reduceNe, Int.reduceAdd, Int.reduceSub, Int.reduceMul, Int.reduceNeg, Int.reduceToNat, Int.reduceBEq, Int.reduceBNe, Int.cast_ofNat_Int, List.getElem?_toArray, stp, rvOf, rvLen, wput, wlk, rdv, isEff, dsOf, sgl, stq, Try.underlying107, Try.underlying115, Try.underlying24, Try.underlying3, Try.underlying5, Try.underlying83, ty24, ty83, ty107, ty115, ty3, ty5, rs58]))
  refine box_g rfl fun k2 h2 m2 s2 f2 n2 => ?_
  replace m1 := s2 _ _ m1
  have s3 := s1.trans s2
  refine mk_of ?_; repeat' (first | (with_reducible first | refine gw_seq ?_ | refine gw_block ?_) | ((first | (with_reducible refine mk_to ?_) | (with_reducible first | refine gw_region ?_ | refine gw_if ?_ | refine gw_skip ?_ | refine gw_exit ?_ | refine gw_ret ?_) | ((with_reducible first | refine gif_b (fun hb => ?_) (fun hb => ?_) | refine want_t (fun hb => ?_) (fun hb => ?_) | refine want_f (fun hb => ?_) (fun hb => ?_) | refine dr_t (fun hb => ?_) (fun hb => ?_) | refine dr_f (fun hb => ?_) (fun hb => ?_)) <;> (try simp only [hb]) <;> (try simp only [hpr] at hb)) | with_reducible refine gw_draw (id := 1) [(0, []), (1, []), (2, []), (3, []), (5, []), (6, []), (7, []), (8, []), (9, []), (10, []), (12, []), (13, []), (14, []), (15, []), (16, []), (17, []), (4, [7, 10, 14, 17]), (11, [14, 17]), (18, []), (19, []), (20, []), (21, [])] [0, 1, 0, 4, 15, 0, 32, 96, 0, 256, 768, 2047, 0, 4096, 12288, 0, 32768, 98304, 262143, 524287, 1048575, 2097151] mixed (by kernel_rfl) ?_) <;> try simp only [List.map, gop, ev, lk, aenv, gyield, gBin, gInt, gStrOp, gUn, gPick, gNil, gExtract, gIfc, gConvK, gIndexO, gIndexVO, gMakeV, gMinV, gMaxV, isInt, gMin, gMax, gBlt, gLenX, gCallV, gInvoke, gNilM, Array.toList_map, vcells, gField, gIndexV, gPart, reduceIte, Nat.reduceAdd, Nat.reduceSub, Nat.reduceMul, Nat.reduceLT, Nat.reduceLeDiff, Nat.reduceEqDiff, Nat.reduceBEq, Int.reduceLT, Int.reduceLE, Int.reduceGT, Int.reduceGE, Int.reduceEq, Int.reduceNe, Int.reduceAdd, Int.reduceSub, Int.reduceMul, Int.reduceNeg, Int.reduceToNat, Int.reduceBEq, Int.reduceBNe, Int.cast_ofNat_Int, List.getElem?_toArray, stp, rvOf, rvLen, wput, wlk, rdv, isEff, dsOf, sgl, stq, Try.underlying107, Try.underlying115, Try.underlying24, Try.underlying3, Try.underlying5, Try.underlying83, ty24, ty83, ty107, ty115, ty3, ty5, rs58, gload1 m1 sz24, gload1 m2 sz24, gload1 m1 sz3, gload1 m2 sz3, List.getElem?_cons_zero, List.getElem?_cons_succ]))
  refine (c_Order N h2 (p1.hs s3) (q1.hs s3) rfl rfl).mono ?_
  rintro _ h3 ⟨rfl, s4⟩
  refine mk_of ?_; repeat' (first | (with_reducible first | refine gw_seq ?_ | refine gw_block ?_) | ((first | (with_reducible refine mk_to ?_) | (with_reducible first | refine gw_region ?_ | refine gw_if ?_ | refine gw_skip ?_ | refine gw_exit ?_ | refine gw_ret ?_) | ((with_reducible first | refine gif_b (fun hb => ?_) (fun hb => ?_) | refine want_t (fun hb => ?_) (fun hb => ?_) | refine want_f (fun hb => ?_) (fun hb => ?_) | refine dr_t (fun hb => ?_) (fun hb => ?_) | refine dr_f (fun hb => ?_) (fun hb => ?_)) <;> (try simp only [hb]) <;> (try simp only [hpr] at hb)) | with_reducible refine gw_draw (id := 1) [(0, []), (1, []), (2, []), (3, []), (5, []), (6, []), (7, []), (8, []), (9, []), (10, []), (12, []), (13, []), (14, []), (15, []), (16, []), (17, []), (4, [7, 10, 14, 17]), (11, [14, 17]), (18, []), (19, []), (20, []), (21, [])] [0, 1, 0, 4, 15, 0, 32, 96, 0, 256, 768, 2047, 0, 4096, 12288, 0, 32768, 98304, 262143, 524287, 1048575, 2097151] mixed (by kernel_rfl) ?_ | ((refine GTri.mono (c_ICmp _ _ _ _) ?_); rintro _ _ ⟨rfl, hh9⟩; replace hh9 := hh9.symm; subst hh9)) <;> try simp only [List.map, gop, ev, lk, aenv, gyield, gBin, gInt, gStrOp, gUn, gPick, gNil, gExtract, gIfc, gConvK, gIndexO, gIndexVO, gMakeV, gMinV, gMaxV, isInt, gMin, gMax, gBlt, gLenX, gCallV, gInvoke, gNilM, Array.toList_map, vcells, gField, gIndexV, gPart, reduceIte, Nat.reduceAdd, Nat.reduceSub, Nat.reduceMul, Nat.reduceLT, Nat.reduceLeDiff, Nat.reduceEqDiff, Nat.reduceBEq, Int.reduceLT, Int.reduceLE, Int.reduceGT, Int.reduceGE, Int.reduceEq, Int.reduceNe, Int.reduceAdd, Int.reduceSub, Int.reduceMul, Int.reduceNeg, Int.reduceToNat, Int.reduceBEq, Int.reduceBNe, Int.cast_ofNat_Int, List.getElem?_toArray, stp, rvOf, rvLen, wput, wlk, rdv, isEff, dsOf, sgl, stq, Try.underlying107, Try.underlying115, Try.underlying24, Try.underlying3, Try.underlying5, Try.underlying83, ty24, ty83, ty107, ty115, ty3, ty5, rs58, Bool.false_and, Bool.not_false, gload1 (s4 _ _ m1) sz24, gload1 (s4 _ _ m2) sz24, gload1 (s4 _ _ m1) sz3, gload1 (s4 _ _ m2) sz3, List.getElem?_cons_zero, List.getElem?_cons_succ]))
  refine bs_g (cs := [.int .i64 (Lib.compareBytes (gkey x.1) (gkey y.1)), .int .i64 (Lib.compareInt (x.2.1 : Int) (y.2.1 : Int)), .int .i64 (Lib.compareInt (x.2.2 : Int) (y.2.2 : Int))]) el83 rfl (by decide) (by decide) (by rw [zeros_one _ rfl]; rfl) rfl fun k5 h5 m5 s5 f5 n5 => ?_
  have s45 := s4.trans s5
  refine mk_of ?_; repeat' (first | (with_reducible first | refine gw_seq ?_ | refine gw_block ?_) | ((first | (with_reducible refine mk_to ?_) | (with_reducible first | refine gw_region ?_ | refine gw_if ?_ | refine gw_skip ?_ | refine gw_exit ?_ | refine gw_ret ?_) | ((with_reducible first | refine gif_b (fun hb => ?_) (fun hb => ?_) | refine want_t (fun hb => ?_) (fun hb => ?_) | refine want_f (fun hb => ?_) (fun hb => ?_) | refine dr_t (fun hb => ?_) (fun hb => ?_) | refine dr_f (fun hb => ?_) (fun hb => ?_)) <;> (try simp only [hb]) <;> (try simp only [hpr] at hb)) | with_reducible refine gw_draw (id := 1) [(0, []), (1, []), (2, []), (3, []), (5, []), (6, []), (7, []), (8, []), (9, []), (10, []), (12, []), (13, []), (14, []), (15, []), (16, []), (17, []), (4, [7, 10, 14, 17]), (11, [14, 17]), (18, []), (19, []), (20, []), (21, [])] [0, 1, 0, 4, 15, 0, 32, 96, 0, 256, 768, 2047, 0, 4096, 12288, 0, 32768, 98304, 262143, 524287, 1048575, 2097151] mixed (by kernel_rfl) ?_) <;> try simp only [List.map, gop, ev, lk, aenv, gyield, gBin, gInt, gStrOp, gUn, gPick, gNil, gExtract, gIfc, gConvK, gIndexO, gIndexVO, gMakeV, gMinV, gMaxV, isInt, gMin, gMax, gBlt, gLenX, gCallV, gInvoke, gNilM, Array.toList_map, vcells, gField, gIndexV, gPart, reduceIte, Nat.reduceAdd, Nat.reduceSub, Nat.reduceMul, Nat.reduceLT, Nat.reduceLeDiff, Nat.reduceEqDiff, Nat.reduceBEq, Int.reduceLT, Int.reduceLE, Int.reduceGT, Int.reduceGE, Int.reduceEq, Int.reduceNe, Int.reduceAdd, Int.reduceSub, Int.reduceMul, Int.reduceNeg, Int.reduceToNat, Int.reduceBEq, Int.reduceBNe, Int.cast_ofNat_Int, List.getElem?_toArray, stp, rvOf, rvLen, wput, wlk, rdv, isEff, dsOf, sgl, stq, Try.underlying107, Try.underlying115, Try.underlying24, Try.underlying3, Try.underlying5, Try.underlying83, ty24, ty83, ty107, ty115, ty3, ty5, rs58, gload1 (s45 _ _ m1) sz24, gload1 (s45 _ _ m2) sz24, gload1 (s45 _ _ m1) sz3, gload1 (s45 _ _ m2) sz3, List.getElem?_cons_zero, List.getElem?_cons_succ]))
  refine (c_Or3 N h5 (three_rl m5)).mono ?_
  rintro _ h6 ⟨rfl, rfl⟩
  refine mk_of ?_; repeat' (first | (with_reducible first | refine gw_seq ?_ | refine gw_block ?_) | ((first | (with_reducible refine mk_to ?_) | (with_reducible first | refine gw_region ?_ | refine gw_if ?_ | refine gw_skip ?_ | refine gw_exit ?_ | refine gw_ret ?_) | ((with_reducible first | refine gif_b (fun hb => ?_) (fun hb => ?_) | refine want_t (fun hb => ?_) (fun hb => ?_) | refine want_f (fun hb => ?_) (fun hb => ?_) | refine dr_t (fun hb => ?_) (fun hb => ?_) | refine dr_f (fun hb => ?_) (fun hb => ?_)) <;> (try simp only [hb]) <;> (try simp only [hpr] at hb)) | with_reducible refine gw_draw (id := 1) [(0, []), (1, []), (2, []), (3, []), (5, []), (6, []), (7, []), (8, []), (9, []), (10, []), (12, []), (13, []), (14, []), (15, []), (16, []), (17, []), (4, [7, 10, 14, 17]), (11, [14, 17]), (18, []), (19, []), (20, []), (21, [])] [0, 1, 0, 4, 15, 0, 32, 96, 0, 256, 768, 2047, 0, 4096, 12288, 0, 32768, 98304, 262143, 524287, 1048575, 2097151] mixed (by kernel_rfl) ?_) <;> try simp only [List.map, gop, ev, lk, aenv, gyield, gBin, gInt, gStrOp, gUn, gPick, gNil, gExtract, gIfc, gConvK, gIndexO, gIndexVO, gMakeV, gMinV, gMaxV, isInt, gMin, gMax, gBlt, gLenX, gCallV, gInvoke, gNilM, Array.toList_map, vcells, gField, gIndexV, gPart, reduceIte, Nat.reduceAdd, Nat.reduceSub, Nat.reduceMul, Nat.reduceLT, Nat.reduceLeDiff, Nat.reduceEqDiff, Nat.reduceBEq, Int.reduceLT, Int.reduceLE, Int.reduceGT, Int.reduceGE, Int.reduceEq, Int.reduceNe, Int.reduceAdd, Int.reduceSub, Int.reduceMul, Int.reduceNeg, Int.reduceToNat, Int.reduceBEq, Int.reduceBNe, Int.cast_ofNat_Int, List.getElem?_toArray, stp, rvOf, rvLen, wput, wlk, rdv, isEff, dsOf, sgl, stq, Try.underlying107, Try.underlying115, Try.underlying24, Try.underlying3, Try.underlying5, Try.underlying83, ty24, ty83, ty107, ty115, ty3, ty5, rs58]))
  rfl
end Go.Gh

/- The sorts, as triples. -/

namespace Go.Gh
open Go Go.Proofs Go.RowKit Go.Sort Go.Shelf
set_option linter.unusedVariables false
set_option linter.unusedSimpArgs false
set_option maxRecDepth 100000
set_option maxHeartbeats 2000000

theorem c_blen (N : Nat) (h : GH) : GTri Try.prog N 99 [.int .u64 0] h fun v h' => v = .int .i64 (Lib.bitLen 0) ∧ h' = h := by
  intro hG φ w args' s ha
  obtain ⟨argl⟩ := args'
  simp only at ha
  cases ha with
  | cons h1 ha =>
  cases ha
  cases h1
  have hb := Any.bits_Len (SlLaysF0.n15.bits (P := Try.prog) (ρ := sortI_ren) { sortI_lays with }) 0 w (by omega) (by omega)
  refine .inl ⟨gf99, hb.mono ?_⟩
  rintro e w' ⟨rfl, rfl⟩
  exact ⟨_, _, φ, h, rfl, Ext.refl _, s, .int _ _, Below.refl _ _, rfl, rfl⟩

theorem c_insV0 (N : Nat) (h : GH) (v f : Value) : GTri Try.prog N 121 [v, .int .i64 0, .int .i64 0, f] h fun u h' => h' = h := by
  have w1 : IntKind.i64.wrap (0 + 1) = 1 := rfl
  have d1 : decide ((1 : Int) < 0) = false := rfl
  refine gtri Try.func121 rfl gf121 ok121 (by simp [Try.ntmps121]) ?_
  repeat' (first | (with_reducible first | refine gw_seq ?_ | refine gw_block ?_) | ((first | (with_reducible first | refine gw_region ?_ | refine gw_if ?_ | refine gw_skip ?_ | refine gw_exit ?_ | refine gw_ret ?_) | ((with_reducible first | refine gif_b (fun hb => ?_) (fun hb => ?_) | refine want_t (fun hb => ?_) (fun hb => ?_) | refine want_f (fun hb => ?_) (fun hb => ?_) | refine dr_t (fun hb => ?_) (fun hb => ?_) | refine dr_f (fun hb => ?_) (fun hb => ?_)) <;> (try simp only [hb]) <;> (try simp only [hpr] at hb)) | with_reducible refine gw_draw (id := 4) [(0, []), (1, []), (2, []), (3, []), (4, []), (5, []), (6, []), (7, []), (8, []), (9, []), (10, []), (11, []), (12, []), (13, []), (14, []), (15, []), (16, [])] [0, 0, 3, 7, 15, 15, 15, 111, 239, 15, 15, 1039, 3599, 7695, 16383, 32767, 65535] mixed (by kernel_rfl) ?_ | with_reducible refine gw_draw (id := 6) [(0, []), (1, []), (2, []), (3, []), (4, []), (5, []), (6, []), (7, []), (8, []), (9, []), (10, []), (11, []), (12, []), (13, []), (14, []), (15, []), (16, []), (17, [])] [0, 0, 0, 0, 8, 0, 0, 64, 224, 480, 0, 0, 3072, 7168, 16355, 32739, 65535, 131071] mixed (by kernel_rfl) ?_) <;> try simp only [List.map, gop, ev, lk, aenv, gyield, gBin, gInt, gStrOp, gUn, gPick, gNil, gExtract, gIfc, gConvK, gIndexO, gIndexVO, gMakeV, gMinV, gMaxV, isInt, gMin, gMax, gBlt, gLenX, gCallV, gInvoke, gNilM, Array.toList_map, vcells, gField, gIndexV, gPart, reduceIte, Nat.reduceAdd, Nat.reduceSub, Nat.reduceMul, Nat.reduceLT, Nat.reduceLeDiff, Nat.reduceEqDiff, Nat.reduceBEq, Int.reduceLT, Int.reduceLE, Int.reduceGT, Int.reduceGE, Int.reduceEq, Int.reduceNe, Int.reduceAdd, Int.reduceSub, Int.reduceMul, Int.reduceNeg, Int.reduceToNat, Int.reduceBEq, Int.reduceBNe, Int.cast_ofNat_Int, List.getElem?_toArray, stp, rvOf, rvLen, wput, wlk, rdv, isEff, dsOf, sgl, stq, Try.underlying107, Try.underlying113, Try.underlying115, Try.underlying24, Try.underlying3, ty113, ty24, ty107, ty115, ty3, rs121, w1]))
  refine gw_loop2 [0, 1, 2, 3] (fun (i : Unit) => [(8, .int .i64 1)]) (fun q i h' => h' = h) 0 () (by simp [lk]) rfl ?_
  rintro _ _ h3 rfl
  refine mk_of ?_; repeat' (first | (with_reducible first | refine gw_seq ?_ | refine gw_block ?_) | ((first | (with_reducible refine mk_to ?_) | (with_reducible first | refine gw_region ?_ | refine gw_if ?_ | refine gw_skip ?_ | refine gw_exit ?_ | refine gw_ret ?_) | ((with_reducible first | refine gif_b (fun hb => ?_) (fun hb => ?_) | refine want_t (fun hb => ?_) (fun hb => ?_) | refine want_f (fun hb => ?_) (fun hb => ?_) | refine dr_t (fun hb => ?_) (fun hb => ?_) | refine dr_f (fun hb => ?_) (fun hb => ?_)) <;> (try simp only [hb]) <;> (try simp only [hpr] at hb)) | with_reducible refine gw_draw (id := 4) [(0, []), (1, []), (2, []), (3, []), (4, []), (5, []), (6, []), (7, []), (8, []), (9, []), (10, []), (11, []), (12, []), (13, []), (14, []), (15, []), (16, [])] [0, 0, 3, 7, 15, 15, 15, 111, 239, 15, 15, 1039, 3599, 7695, 16383, 32767, 65535] mixed (by kernel_rfl) ?_ | with_reducible refine gw_draw (id := 6) [(0, []), (1, []), (2, []), (3, []), (4, []), (5, []), (6, []), (7, []), (8, []), (9, []), (10, []), (11, []), (12, []), (13, []), (14, []), (15, []), (16, []), (17, [])] [0, 0, 0, 0, 8, 0, 0, 64, 224, 480, 0, 0, 3072, 7168, 16355, 32739, 65535, 131071] mixed (by kernel_rfl) ?_) <;> try simp only [List.map, gop, ev, lk, aenv, gyield, gBin, gInt, gStrOp, gUn, gPick, gNil, gExtract, gIfc, gConvK, gIndexO, gIndexVO, gMakeV, gMinV, gMaxV, isInt, gMin, gMax, gBlt, gLenX, gCallV, gInvoke, gNilM, Array.toList_map, vcells, gField, gIndexV, gPart, reduceIte, Nat.reduceAdd, Nat.reduceSub, Nat.reduceMul, Nat.reduceLT, Nat.reduceLeDiff, Nat.reduceEqDiff, Nat.reduceBEq, Int.reduceLT, Int.reduceLE, Int.reduceGT, Int.reduceGE, Int.reduceEq, Int.reduceNe, Int.reduceAdd, Int.reduceSub, Int.reduceMul, Int.reduceNeg, Int.reduceToNat, Int.reduceBEq, Int.reduceBNe, Int.cast_ofNat_Int, List.getElem?_toArray, stp, rvOf, rvLen, wput, wlk, rdv, isEff, dsOf, sgl, stq, Try.underlying107, Try.underlying113, Try.underlying115, Try.underlying24, Try.underlying3, ty113, ty24, ty107, ty115, ty3, rs121, d1]))
theorem c_pdqV0 (N : Nat) (h : GH) (v f : Value) (L : Int) : GTri Try.prog N 98 [v, .int .i64 0, .int .i64 0, .int .i64 L, f] h fun u h' => h' = h := by
  have w1 : IntKind.i64.wrap (0 - 0) = 0 := rfl
  have d1 : decide ((0 : Int) ≤ 12) = true := rfl
  refine gtri Try.func98 rfl gf98 ok98 (by simp [Try.ntmps98]) ?_
  repeat' (first | (with_reducible first | refine gw_seq ?_ | refine gw_block ?_) | ((first | (with_reducible first | refine gw_region ?_ | refine gw_if ?_ | refine gw_skip ?_ | refine gw_exit ?_ | refine gw_ret ?_) | ((with_reducible first | refine gif_b (fun hb => ?_) (fun hb => ?_) | refine want_t (fun hb => ?_) (fun hb => ?_) | refine want_f (fun hb => ?_) (fun hb => ?_) | refine dr_t (fun hb => ?_) (fun hb => ?_) | refine dr_f (fun hb => ?_) (fun hb => ?_)) <;> (try simp only [hb]) <;> (try simp only [hpr] at hb)) | with_reducible refine gw_draw (id := 17) [(0, []), (1, []), (2, []), (3, []), (4, []), (5, []), (6, []), (7, []), (8, []), (9, []), (10, []), (11, []), (12, []), (13, []), (14, []), (15, []), (16, [])] [0, 1, 3, 7, 7, 7, 39, 119, 247, 7, 7, 1543, 3591, 8191, 16383, 32767, 65535] mixed (by kernel_rfl) ?_) <;> try simp only [List.map, gop, ev, lk, aenv, gyield, gBin, gInt, gStrOp, gUn, gPick, gNil, gExtract, gIfc, gConvK, gIndexO, gIndexVO, gMakeV, gMinV, gMaxV, isInt, gMin, gMax, gBlt, gLenX, gCallV, gInvoke, gNilM, Array.toList_map, vcells, gField, gIndexV, gPart, reduceIte, Nat.reduceAdd, Nat.reduceSub, Nat.reduceMul, Nat.reduceLT, Nat.reduceLeDiff, Nat.reduceEqDiff, Nat.reduceBEq, Int.reduceLT, Int.reduceLE, Int.reduceGT, Int.reduceGE, Int.reduceEq, Int.reduceNe, Int.reduceAdd, Int.reduceSub, Int.reduceMul, Int.reduceNeg, Int.reduceToNat, Int.reduceBEq, Int.reduceBNe, Int.cast_ofNat_Int, List.getElem?_toArray, stp, rvOf, rvLen, wput, wlk, rdv, isEff, dsOf, sgl, stq, Try.underlying107, Try.underlying113, Try.underlying115, Try.underlying119, Try.underlying164, Try.underlying24, Try.underlying3, Try.underlying4, ty113, ty24, ty107, ty115, ty119, ty164, ty3, ty4, rs98]))
  refine gw_loop2 [0, 4] (fun (i : Unit) => [(1, .int .i64 0), (2, .int .i64 0), (3, .int .i64 L), (10, .bool true), (11, .bool true)]) (fun q i h' => h' = h) 0 () (by simp [lk]) rfl ?_
  rintro _ _ h3 rfl
  refine mk_of ?_; repeat' (first | (with_reducible first | refine gw_seq ?_ | refine gw_block ?_) | ((first | (with_reducible refine mk_to ?_) | (with_reducible first | refine gw_region ?_ | refine gw_if ?_ | refine gw_skip ?_ | refine gw_exit ?_ | refine gw_ret ?_) | ((with_reducible first | refine gif_b (fun hb => ?_) (fun hb => ?_) | refine want_t (fun hb => ?_) (fun hb => ?_) | refine want_f (fun hb => ?_) (fun hb => ?_) | refine dr_t (fun hb => ?_) (fun hb => ?_) | refine dr_f (fun hb => ?_) (fun hb => ?_)) <;> (try simp only [hb]) <;> (try simp only [hpr] at hb)) | with_reducible refine gw_draw (id := 17) [(0, []), (1, []), (2, []), (3, []), (4, []), (5, []), (6, []), (7, []), (8, []), (9, []), (10, []), (11, []), (12, []), (13, []), (14, []), (15, []), (16, [])] [0, 1, 3, 7, 7, 7, 39, 119, 247, 7, 7, 1543, 3591, 8191, 16383, 32767, 65535] mixed (by kernel_rfl) ?_) <;> try simp only [List.map, gop, ev, lk, aenv, gyield, gBin, gInt, gStrOp, gUn, gPick, gNil, gExtract, gIfc, gConvK, gIndexO, gIndexVO, gMakeV, gMinV, gMaxV, isInt, gMin, gMax, gBlt, gLenX, gCallV, gInvoke, gNilM, Array.toList_map, vcells, gField, gIndexV, gPart, reduceIte, Nat.reduceAdd, Nat.reduceSub, Nat.reduceMul, Nat.reduceLT, Nat.reduceLeDiff, Nat.reduceEqDiff, Nat.reduceBEq, Int.reduceLT, Int.reduceLE, Int.reduceGT, Int.reduceGE, Int.reduceEq, Int.reduceNe, Int.reduceAdd, Int.reduceSub, Int.reduceMul, Int.reduceNeg, Int.reduceToNat, Int.reduceBEq, Int.reduceBNe, Int.cast_ofNat_Int, List.getElem?_toArray, stp, rvOf, rvLen, wput, wlk, rdv, isEff, dsOf, sgl, stq, Try.underlying107, Try.underlying113, Try.underlying115, Try.underlying119, Try.underlying164, Try.underlying24, Try.underlying3, Try.underlying4, ty113, ty24, ty107, ty115, ty119, ty164, ty3, ty4, rs98, w1, d1]))
  refine (c_insV0 N h3 v f).mono ?_
  rintro _ h4 rfl
  refine mk_of ?_; repeat' (first | (with_reducible first | refine gw_seq ?_ | refine gw_block ?_) | ((first | (with_reducible refine mk_to ?_) | (with_reducible first | refine gw_region ?_ | refine gw_if ?_ | refine gw_skip ?_ | refine gw_exit ?_ | refine gw_ret ?_) | ((with_reducible first | refine gif_b (fun hb => ?_) (fun hb => ?_) | refine want_t (fun hb => ?_) (fun hb => ?_) | refine want_f (fun hb => ?_) (fun hb => ?_) | refine dr_t (fun hb => ?_) (fun hb => ?_) | refine dr_f (fun hb => ?_) (fun hb => ?_)) <;> (try simp only [hb]) <;> (try simp only [hpr] at hb)) | with_reducible refine gw_draw (id := 17) [(0, []), (1, []), (2, []), (3, []), (4, []), (5, []), (6, []), (7, []), (8, []), (9, []), (10, []), (11, []), (12, []), (13, []), (14, []), (15, []), (16, [])] [0, 1, 3, 7, 7, 7, 39, 119, 247, 7, 7, 1543, 3591, 8191, 16383, 32767, 65535] mixed (by kernel_rfl) ?_) <;> try simp only [List.map, gop, ev, lk, aenv, gyield, gBin, gInt, gStrOp, gUn, gPick, gNil, gExtract, gIfc, gConvK, gIndexO, gIndexVO, gMakeV, gMinV, gMaxV, isInt, gMin, gMax, gBlt, gLenX, gCallV, gInvoke, gNilM, Array.toList_map, vcells, gField, gIndexV, gPart, reduceIte, Nat.reduceAdd, Nat.reduceSub, Nat.reduceMul, Nat.reduceLT, Nat.reduceLeDiff, Nat.reduceEqDiff, Nat.reduceBEq, Int.reduceLT, Int.reduceLE, Int.reduceGT, Int.reduceGE, Int.reduceEq, Int.reduceNe, Int.reduceAdd, Int.reduceSub, Int.reduceMul, Int.reduceNeg, Int.reduceToNat, Int.reduceBEq, Int.reduceBNe, Int.cast_ofNat_Int, List.getElem?_toArray, stp, rvOf, rvLen, wput, wlk, rdv, isEff, dsOf, sgl, stq, Try.underlying107, Try.underlying113, Try.underlying115, Try.underlying119, Try.underlying164, Try.underlying24, Try.underlying3, Try.underlying4, ty113, ty24, ty107, ty115, ty119, ty164, ty3, ty4, rs98]))

/-- All stays but arrays of three cells an element. -/
def K3 (h h' : GH) : Prop := (∀ i B, h i = some B → B.es ≠ 3 → h' i = some B) ∧ ∀ v l, RB h v l → RB h' v l
theorem K3.refl (h : GH) : K3 h h := ⟨fun _ _ e _ => e, fun _ _ r => r⟩
theorem K3.set {h : GH} {kb : Nat} {B : GB} {cs : List Value} (hB : h kb = some B) (he : B.es = 3) (hu : B.cells.all notU8 = true) : K3 h (hset h kb { B with cells := cs }) := by
  have hx : HX kb h (hset h kb { B with cells := cs }) := fun j C n e => (hset_ne _ _ n).trans e
  exact ⟨fun i C e n => by
    rw [hset_ne _ _ (fun q => by rw [q, hB] at e; cases e; exact n he)]; exact e, fun v l r => r.hx hB hu hx⟩
/-- What a sort leaves. -/
def SortR {α : Type} (R : GH → List Value → α → Prop) (cf : α → α → Int) (h0 h : GH) (v : Value) (l : List α) (h' : GH) : Prop :=
  ∃ (l2 : List α) (cs2 : List Value), l2.Perm l ∧ (∀ (i j : Nat) x y, i < j → l2[i]? = some x → l2[j]? = some y → ¬ cf y x < 0) ∧ OWNC 3 h0 h' v l2.length cs2 ∧ cs2.all notU8 = true ∧ (∀ (i : Nat) x, l2[i]? = some x → R h' ((cs2.drop (i * 3)).take 3) x) ∧ K3 h h' ∧ (HS h0 h → HS h0 h')
theorem sortR0 {α : Type} {R : GH → List Value → α → Prop} {cf : α → α → Int} {h0 h : GH} {v : Value} {cs : List Value} (o : OWNC 3 h0 h v 0 cs) : SortR R cf h0 h v [] h := by
  have hc : cs = [] := List.eq_nil_of_length_eq_zero (by have := o.len; simpa using this)
  subst hc
  exact ⟨[], [], .refl _, fun i j x y _ hx => by simp at hx, o, rfl, fun i x hx => by simp at hx, K3.refl h, id⟩
theorem sortR1 {α : Type} {R : GH → List Value → α → Prop} {cf : α → α → Int} {h0 h h' : GH} {kb c : Nat} {cs cs2 : List Value} {l l2 : List α} (hm : c % 2 = 0) (hc2 : 2 * l.length ≤ c) (hn : l ≠ []) (hB : h kb = some ⟨cs, 3, true, true⟩) (hk0 : h0 kb = none) (hcl : cs.length = l.length * 3) (hu : cs.all notU8 = true)
    (hp : l2.Perm l) (hs : ∀ (i j : Nat) x y, i < j → l2[i]? = some x → l2[j]? = some y → ¬ cf y x < 0) (e : h' = hset h kb ⟨cs2, 3, true, true⟩) (hl2 : cs2.length = cs.length) (hu2 : cs2.all notU8 = true) (hR : ∀ (i : Nat) x, l2[i]? = some x → R h ((cs2.drop (i * 3)).take 3) x)
    (hRk : ∀ cs x, R h cs x → (∀ v l, RB h v l → RB h' v l) → R h' cs x) : SortR R cf h0 h (.slice (some ⟨kb, 0, none⟩) l.length c) l h' := by
  subst e
  have k3 : K3 h (hset h kb ⟨cs2, 3, true, true⟩) := K3.set (B := ⟨cs, 3, true, true⟩) hB rfl hu
  have hll := hp.length_eq
  refine ⟨l2, cs2, hp, hs, .inr (.inr ⟨kb, c, by rw [hll], hm, by omega, ?_, by omega, hset_same _ _ _, hk0⟩), hu2, fun i x hx => hRk _ _ (hR i x hx) k3.2, k3, fun s i B e => ?_⟩
  · rw [hll]; exact fun q => hn (List.eq_nil_of_length_eq_zero q)
  · rw [hset_ne _ _ (fun q => by rw [q, hk0] at e; cases e)]
    exact s _ _ e
theorem shV_sl (M : Nat) (a : Option Addr) (n c : Nat) : ∃ a', shV M (.slice a n c) = .slice a' n c := by cases a <;> exact ⟨_, rfl⟩
theorem c_sortV (N : Nat) {h0 h : GH} {v : Value} {l : List Fst} {cs : List Value} (o : OWNC 3 h0 h v l.length cs) (hu : cs.all notU8 = true) (hcc : cs.all isCell = true) (hR : ∀ (i : Nat) x, l[i]? = some x → Fr h ((cs.drop (i * 3)).take 3) x) (hl : l.length ≤ 1000000) :
    GTri Try.prog N 57 [v, .func (.func 58) #[] #[]] h fun u h' => SortR Fr fcmp h0 h v l h' := by
  by_cases hl0 : l = []
  · subst hl0
    have fin : SortR Fr fcmp h0 h v [] h := sortR0 o
    obtain ⟨a, c, rfl⟩ := o.form
    have u0 : IntKind.u64.wrap 0 = 0 := rfl
    refine gtri Try.func57 rfl gf57 ok57 (by simp [Try.ntmps57]) ?_
    refine mk_of ?_; repeat' (first | (with_reducible first | refine gw_seq ?_ | refine gw_block ?_) | ((first | (with_reducible refine mk_to ?_) | (with_reducible first | refine gw_region ?_ | refine gw_if ?_ | refine gw_skip ?_ | refine gw_exit ?_ | refine gw_ret ?_) | ((with_reducible first | refine gif_b (fun hb => ?_) (fun hb => ?_) | refine want_t (fun hb => ?_) (fun hb => ?_) | refine want_f (fun hb => ?_) (fun hb => ?_)) <;> (try simp only [hb]) <;> (try simp only [hpr] at hb)) | ((refine GTri.mono (c_blen _ _) ?_); rintro _ _ ⟨rfl, hh9⟩; replace hh9 := hh9.symm; subst hh9)) <;> try simp only [List.map, gop, ev, lk, aenv, gyield, gBin, gInt, gStrOp, gUn, gPick, gNil, gExtract, gIfc, gConvK, gIndexO, gIndexVO, gMakeV, gMinV, gMaxV, isInt, gMin, gMax, gBlt, gLenX, gCallV, gInvoke, gNilM, Array.toList_map, vcells, gField, gIndexV, gPart, reduceIte, Nat.reduceAdd, Nat.reduceSub, Nat.reduceMul, Nat.reduceLT, Nat.reduceLeDiff, Nat.reduceEqDiff, Nat.reduceBEq, Int.reduceLT, Int.reduceLE, Int.reduceGT, Int.reduceGE, Int.reduceEq, Int.reduceNe, Int.reduceAdd, Int.reduceSub, Int.reduceMul, Int.reduceNeg, Int.reduceToNat, Int.reduceBEq, Int.reduceBNe, Int.cast_ofNat_Int, List.getElem?_toArray, stp, Try.underlying113, Try.underlying115, Try.underlying119, Try.underlying3, Try.underlying56, cv3_56, ty113, ty115, ty119, ty3, ty56, rs57, List.length_nil, Int.natCast_zero, u0]))
    refine (c_pdqV0 N h _ _ _).mono ?_
    rintro _ h2 rfl
    refine mk_of ?_; repeat' (first | (with_reducible first | refine gw_seq ?_ | refine gw_block ?_) | ((first | (with_reducible refine mk_to ?_) | (with_reducible first | refine gw_region ?_ | refine gw_if ?_ | refine gw_skip ?_ | refine gw_exit ?_ | refine gw_ret ?_) | ((with_reducible first | refine gif_b (fun hb => ?_) (fun hb => ?_) | refine want_t (fun hb => ?_) (fun hb => ?_) | refine want_f (fun hb => ?_) (fun hb => ?_)) <;> (try simp only [hb]) <;> (try simp only [hpr] at hb))) <;> try simp only [List.map, gop, ev, lk, aenv, gyield, gBin, gInt, gStrOp, gUn, gPick, gNil, gExtract, gIfc, gConvK, gIndexO, gIndexVO, gMakeV, gMinV, gMaxV, isInt, gMin, gMax, gBlt, gLenX, gCallV, gInvoke, gNilM, Array.toList_map, vcells, gField, gIndexV, gPart, reduceIte, Nat.reduceAdd, Nat.reduceSub, Nat.reduceMul, Nat.reduceLT, Nat.reduceLeDiff, Nat.reduceEqDiff, Nat.reduceBEq, Int.reduceLT, Int.reduceLE, Int.reduceGT, Int.reduceGE, Int.reduceEq, Int.reduceNe, Int.reduceAdd, Int.reduceSub, Int.reduceMul, Int.reduceNeg, Int.reduceToNat, Int.reduceBEq, Int.reduceBNe, Int.cast_ofNat_Int, List.getElem?_toArray, stp, Try.underlying113, Try.underlying115, Try.underlying119, Try.underlying3, Try.underlying56, cv3_56, ty113, ty115, ty119, ty3, ty56, rs57]))
    exact fin
  · have hn0 : l.length ≠ 0 := fun q => hl0 (List.eq_nil_of_length_eq_zero q)
    rcases o with ⟨_, q, _⟩ | ⟨_, _, q, _⟩ | ⟨kb, c, rfl, m1, m2, m3, m4, m5, m6⟩
    · exact absurd q hn0
    · exact absurd q hn0
    have := sort_tri sortV_lays (K := 3) Try.isAgg115 Try.sizeOf115 (by decide) gf57 (N := N) (h := h) (R := Fr) fcmp tc_f.swo (g := 58) gf58 (c := c) hl0 (by omega) m5 m4 hu hcc hR
      (fun {N' φ w M ds ds'} x s r hv => by
        obtain ⟨a, c, rfl, r1⟩ := r
        cases hv with
        | cons v1 hv =>
        obtain ⟨a', e1⟩ := shV_sl M a x.1.length c
        have q1 := sh_rb (M := M) s m5 hu v1 r1
        rw [e1] at q1
        exact ⟨a', c, by simp only [List.map_cons, List.map_nil, e1]; rfl, q1⟩)
      (fun M h' c1 c2 x y r1 r2 => c_vcmp M h' r1 r2)
    refine this.mono ?_
    rintro u h' ⟨l2, cs2, z1, z2, z3, z4, z5, z6, z7⟩
    exact sortR1 m1 m2 hl0 m5 m6 m4 hu z1 z2 z3 z4 z5 z7 fun cs x r k => by
      obtain ⟨a, c, e, r1⟩ := r
      exact ⟨a, c, e, k _ _ r1⟩
end Go.Gh

/- Versions: who changed between two epochs. -/

namespace Go.Gh
open Go Go.Proofs Go.RowKit
set_option linter.unusedVariables false
set_option linter.unusedSimpArgs false
set_option maxRecDepth 100000
set_option maxHeartbeats 4000000

/-- How many are of epochs up to one. -/
def cntU (s : List (Nat × Nat)) (e : Int) : Nat := (s.filter fun p => decide ((p.1 : Int) ≤ e)).length
theorem ris_tail {p : Nat × Nat} {s : List (Nat × Nat)} (r : Rising (p :: s)) : Rising s ∧ ∀ q ∈ s, p.1 ≤ q.1 := by
  refine ⟨fun i j a b hij h1 h2 => r (i + 1) (j + 1) a b (by omega) (by simpa using h1) (by simpa using h2), fun q hq => ?_⟩
  obtain ⟨i, hi⟩ := List.mem_iff_getElem?.1 hq
  exact r 0 (i + 1) p q (by omega) rfl (by simpa using hi)
theorem cntU_upto : ∀ (s : List (Nat × Nat)) (e : Int), Rising s → Upto s e (cntU s e)
  | [], e, _ => ⟨by simp [cntU], fun i p hp => by simp at hp⟩
  | p :: s, e, r => by
    obtain ⟨r1, r2⟩ := ris_tail r
    obtain ⟨u1, u2⟩ := cntU_upto s e r1
    by_cases hp : (p.1 : Int) ≤ e
    · have hc : cntU (p :: s) e = cntU s e + 1 := by unfold cntU; rw [List.filter_cons, if_pos (decide_eq_true hp), List.length_cons]
      refine ⟨by rw [hc, List.length_cons]; omega, fun i q hq => ?_⟩
      rw [hc]
      cases i with
      | zero => simp at hq; subst hq; exact ⟨fun _ => hp, fun _ => by omega⟩
      | succ i =>
        have := u2 i q (by simpa using hq)
        rw [← this]
        omega
    · have hn : ∀ q ∈ s, ¬ (q.1 : Int) ≤ e := fun q hq => by have := r2 q hq; omega
      have hc : cntU (p :: s) e = 0 := by
        unfold cntU
        rw [List.length_eq_zero_iff, List.filter_eq_nil_iff]
        intro q hq
        rcases List.mem_cons.1 hq with rfl | hq
        · simpa using hp
        · simpa using hn q hq
      refine ⟨by rw [hc]; omega, fun i q hq => ⟨fun h => by omega, fun h => ?_⟩⟩
      exfalso
      rcases List.mem_cons.1 (List.mem_of_getElem? hq) with rfl | hq
      · exact hp h
      · exact hn q hq h
/-- An identity's first change behind an epoch, up to another. -/
def fstC (s : List (Nat × Nat)) (f t : Int) : Option (Nat × Nat) := match s[cntU s f]? with
  | some p => if (p.1 : Int) ≤ t then some p else none
  | none => none
def kid (l : List Value) (q : Nat) : List UInt8 := ((mkeys l)[q]?.getD ByteArray.empty).data.toList
def chgd (l : List Value) (S : List UInt8 → List (Nat × Nat)) (f t : Int) (is : List Nat) : List Fst := is.filterMap fun q => (fstC (S (kid l q)) f t).map fun p => (kid l q, p)
def Tx (h : GH) (cs : List Value) (x : List UInt8) : Prop := ∃ a c, cs = [.slice a x.length c] ∧ RB h (.slice a x.length c) x
theorem bstr_of (k : ByteArray) : bstr k.data.toList = k := by
  unfold bstr
  simp

theorem nodup_len : ∀ (n : Nat) (is : List Nat), is.Nodup → (∀ q ∈ is, q < n) → is.length ≤ n
  | 0, is, _, h => by
    cases is with
    | nil => simp
    | cons q is => have := h q (by simp); omega
  | n + 1, is, nd, h => by
    by_cases hn : n ∈ is
    · have := nodup_len n (is.erase n) (nd.erase n) fun q hq => by
        have h1 := (List.Nodup.mem_erase_iff nd).1 hq
        have := h q h1.2
        have := h1.1
        omega
      rw [List.length_erase_of_mem hn] at this
      omega
    · have := nodup_len n is nd fun q hq => by
        have := h q hq
        have : q ≠ n := fun e => hn (by rw [← e]; exact hq)
        omega
      omega
theorem gread_spot2 {h : GH} {a : Addr} {n : Nat} {cs : List Value} (e : gread h a n = some cs) (hn : n ≠ 0) : a.spot = none := by
  unfold gread at e
  rw [if_neg hn] at e
  split at e
  · assumption
  · cases e
theorem c_Changed (N : Nat) {h0 h : GH} {k j : Nat} {bv : Value} {cs l : List Value} {B : List (List Bnd)} {S : List UInt8 → List (Nat × Nat)} (x : IX h0 h k j bv cs l B S) (hB : B.length ≤ 100) (hl : (mkeys l).length ≤ 10000) (f t : Int) :
    GTri Try.prog N 21 [.pointer (some ⟨k, 0, none⟩), .int .i64 f, .int .i64 t] h fun v h' =>
      (∃ (is : List Nat) (l2 : List Fst), is.Nodup ∧ (∀ q, q ∈ is ↔ q < (mkeys l).length) ∧ l2.Perm (chgd l S f t is) ∧ (∀ (i j : Nat) x y, i < j → l2[i]? = some x → l2[j]? = some y → ¬ fcmp y x < 0) ∧ RL 1 Tx h' v (l2.map (·.1))) ∧ HS h h' := by
  have hml := mkeys_len l x.ok
  refine gtri Try.func21 rfl gf21 ok21 (by simp [Try.ntmps21]) ?_
  refine mk_of ?_; repeat' (first | (with_reducible first | refine gw_seq ?_ | refine gw_block ?_) | ((first | (with_reducible refine mk_to ?_) | (with_reducible first | refine gw_region ?_ | refine gw_if ?_ | refine gw_skip ?_ | refine gw_exit ?_ | refine gw_ret ?_) | ((with_reducible first | refine gif_b (fun hb => ?_) (fun hb => ?_) | refine want_t (fun hb => ?_) (fun hb => ?_) | refine want_f (fun hb => ?_) (fun hb => ?_)) <;> (try simp only [hb]) <;> (try simp only [hpr] at hb)) | ((refine GTri.mono (c_vnone _ _ x.obj) ?_); rintro _ _ ⟨rfl, hh9⟩; replace hh9 := hh9.symm; subst hh9)) <;> try simp only [List.map, gop, ev, lk, aenv, gyield, gBin, gInt, gStrOp, gUn, gPick, gNil, gExtract, gIfc, gConvK, gIndexO, gIndexVO, gMakeV, gMinV, gMaxV, isInt, gMin, gMax, gBlt, gLenX, gCallV, gInvoke, gNilM, Array.toList_map, vcells, gField, gIndexV, gPart, reduceIte, Nat.reduceAdd, Nat.reduceSub, Nat.reduceMul, Nat.reduceLT, Nat.reduceLeDiff, Nat.reduceEqDiff, Nat.reduceBEq, Int.reduceLT, Int.reduceLE, Int.reduceGT, Int.reduceGE, Int.reduceEq, Int.reduceNe, Int.reduceAdd, Int.reduceSub, Int.reduceMul, Int.reduceNeg, Int.reduceToNat, Int.reduceBEq, Int.reduceBNe, Int.cast_ofNat_Int, List.getElem?_toArray, stp, Try.underlying104, Try.underlying107, Try.underlying113, Try.underlying115, Try.underlying119, Try.underlying22, Try.underlying24, Try.underlying27, Try.underlying3, Try.underlying4, Try.underlying42, Try.underlying44, Try.underlying47, Try.underlying5, Try.underlying9, ty104, ty113, ty22, ty24, ty47, ty107, ty115, ty44, ty119, ty27, ty3, ty4, ty42, ty5, ty9, rs21, gNil, gload1 x.obj sz42, List.getElem?_cons_zero, List.getElem?_cons_succ]))
  have hmo : ∀ {h' : GH}, HS h h' → gMapOf h' (.map (some j)) = some l := fun {h'} s => by
    have := s _ _ x.mp
    simp only [gMapOf, this, x.ok, if_true]
  refine ⟨_, _, j, l, Try.underlying42, rfl, hmo (HS.refl h), fun it hi hi1 => ?_⟩
  have hdiv : l.length / 2 = (mkeys l).length := by omega
  rw [hdiv]
  generalize hh1 : hset h (it + 1) ⟨[IT, .map (some j), .int .i64 (((mkeys l).length : Nat) : Int)], 0, true, false⟩ = h1
  have m1 : h1 (it + 1) = some ⟨[IT, .map (some j), .int .i64 (((mkeys l).length : Nat) : Int)], 0, true, false⟩ := by rw [← hh1]; exact hset_same _ _ _
  have s1 : HS h h1 := by rw [← hh1]; exact HS.new hi1 _
  clear hh1
  refine mk_of ?_; repeat' (first | (with_reducible first | refine gw_seq ?_ | refine gw_block ?_) | ((first | (with_reducible refine mk_to ?_) | (with_reducible first | refine gw_region ?_ | refine gw_if ?_ | refine gw_skip ?_ | refine gw_exit ?_ | refine gw_ret ?_) | ((with_reducible first | refine gif_b (fun hb => ?_) (fun hb => ?_) | refine want_t (fun hb => ?_) (fun hb => ?_) | refine want_f (fun hb => ?_) (fun hb => ?_)) <;> (try simp only [hb]) <;> (try simp only [hpr] at hb))) <;> try simp only [List.map, gop, ev, lk, aenv, gyield, gBin, gInt, gStrOp, gUn, gPick, gNil, gExtract, gIfc, gConvK, gIndexO, gIndexVO, gMakeV, gMinV, gMaxV, isInt, gMin, gMax, gBlt, gLenX, gCallV, gInvoke, gNilM, Array.toList_map, vcells, gField, gIndexV, gPart, reduceIte, Nat.reduceAdd, Nat.reduceSub, Nat.reduceMul, Nat.reduceLT, Nat.reduceLeDiff, Nat.reduceEqDiff, Nat.reduceBEq, Int.reduceLT, Int.reduceLE, Int.reduceGT, Int.reduceGE, Int.reduceEq, Int.reduceNe, Int.reduceAdd, Int.reduceSub, Int.reduceMul, Int.reduceNeg, Int.reduceToNat, Int.reduceBEq, Int.reduceBNe, Int.cast_ofNat_Int, List.getElem?_toArray, stp, Try.underlying104, Try.underlying107, Try.underlying113, Try.underlying115, Try.underlying119, Try.underlying22, Try.underlying24, Try.underlying27, Try.underlying3, Try.underlying4, Try.underlying42, Try.underlying44, Try.underlying47, Try.underlying5, Try.underlying9, ty104, ty113, ty22, ty24, ty47, ty107, ty115, ty44, ty119, ty27, ty3, ty4, ty42, ty5, ty9, rs21]))
  refine gw_loop2 [1, 2, 6, 20] (fun (y : Option Addr × Nat × Nat) => [(7, .slice y.1 y.2.1 y.2.2)])
    (fun q y h' => HS h h' ∧ ∃ (is : List Nat) (ds : List Value), (mkeys l).length - is.length = q ∧ is.Nodup ∧ (∀ q ∈ is, q < (mkeys l).length) ∧ h' (it + 1) = some ⟨IT :: .map (some j) :: .int .i64 (((mkeys l).length : Nat) : Int) :: is.map (fun q : Nat => .int .i64 (q : Int)), 0, true, false⟩ ∧
      OWNC 3 h h' (.slice y.1 y.2.1 y.2.2) (chgd l S f t is).length ds ∧ ds.all notU8 = true ∧ ds.all isCell = true ∧ ∀ (i : Nat) x, (chgd l S f t is)[i]? = some x → Fr h' ((ds.drop (i * 3)).take 3) x) (mkeys l).length (none, 0, 0) (by simp [lk])
    ⟨s1, [], [], by simp, List.nodup_nil, by simp, m1, OWNC.nil _ _ _, rfl, rfl, fun i x hx => by simp [chgd] at hx⟩ ?_
  rintro _ ⟨a3, n3, c3⟩ h3 ⟨s3, is, ds, rfl, nd, lt, m3, o3, u3, ic3, r3⟩
  have x3 := x.hs s3
  refine mk_of ?_; repeat' (first | (with_reducible first | refine gw_seq ?_ | refine gw_block ?_) | ((first | (with_reducible refine mk_to ?_) | (with_reducible first | refine gw_region ?_ | refine gw_if ?_ | refine gw_skip ?_ | refine gw_exit ?_ | refine gw_ret ?_) | ((with_reducible first | refine gif_b (fun hb => ?_) (fun hb => ?_) | refine want_t (fun hb => ?_) (fun hb => ?_) | refine want_f (fun hb => ?_) (fun hb => ?_)) <;> (try simp only [hb]) <;> (try simp only [hpr] at hb))) <;> try simp only [List.map, gop, ev, lk, aenv, gyield, gBin, gInt, gStrOp, gUn, gPick, gNil, gExtract, gIfc, gConvK, gIndexO, gIndexVO, gMakeV, gMinV, gMaxV, isInt, gMin, gMax, gBlt, gLenX, gCallV, gInvoke, gNilM, Array.toList_map, vcells, gField, gIndexV, gPart, reduceIte, Nat.reduceAdd, Nat.reduceSub, Nat.reduceMul, Nat.reduceLT, Nat.reduceLeDiff, Nat.reduceEqDiff, Nat.reduceBEq, Int.reduceLT, Int.reduceLE, Int.reduceGT, Int.reduceGE, Int.reduceEq, Int.reduceNe, Int.reduceAdd, Int.reduceSub, Int.reduceMul, Int.reduceNeg, Int.reduceToNat, Int.reduceBEq, Int.reduceBNe, Int.cast_ofNat_Int, List.getElem?_toArray, stp, Try.underlying104, Try.underlying107, Try.underlying113, Try.underlying115, Try.underlying119, Try.underlying22, Try.underlying24, Try.underlying27, Try.underlying3, Try.underlying4, Try.underlying42, Try.underlying44, Try.underlying47, Try.underlying5, Try.underlying9, ty104, ty113, ty22, ty24, ty47, ty107, ty115, ty44, ty119, ty27, ty3, ty4, ty42, ty5, ty9, rs21]))
  refine ⟨it, j, (mkeys l).length, is.map (fun q : Nat => .int .i64 (q : Int)), _, l, rfl, m3, rfl, hmo s3, hml, fun hall => ?_, fun q key v hq hns hkey hv => ?_⟩
  · -- all were met
    have hmem : ∀ q, q ∈ is ↔ q < (mkeys l).length := fun q => ⟨lt q, fun h => by
      obtain ⟨q', hq', e⟩ := List.mem_map.1 (hall q h)
      have : q' = q := by simp at e; omega
      subst this; exact hq'⟩
    have n3L : n3 = (chgd l S f t is).length := by
      obtain ⟨_, _, q⟩ := o3.form
      cases q; rfl
    subst n3L
    have hcl : (chgd l S f t is).length ≤ 10000 := by
      have h1 : (chgd l S f t is).length ≤ is.length := List.length_filterMap_le _ _
      have h2 := nodup_len _ is nd lt
      omega
    refine mk_of ?_; repeat' (first | (with_reducible first | refine gw_seq ?_ | refine gw_block ?_) | ((first | (with_reducible refine mk_to ?_) | (with_reducible first | refine gw_region ?_ | refine gw_if ?_ | refine gw_skip ?_ | refine gw_exit ?_ | refine gw_ret ?_) | ((with_reducible first | refine gif_b (fun hb => ?_) (fun hb => ?_) | refine want_t (fun hb => ?_) (fun hb => ?_) | refine want_f (fun hb => ?_) (fun hb => ?_)) <;> (try simp only [hb]) <;> (try simp only [hpr] at hb))) <;> try simp only [List.map, gop, ev, lk, aenv, gyield, gBin, gInt, gStrOp, gUn, gPick, gNil, gExtract, gIfc, gConvK, gIndexO, gIndexVO, gMakeV, gMinV, gMaxV, isInt, gMin, gMax, gBlt, gLenX, gCallV, gInvoke, gNilM, Array.toList_map, vcells, gField, gIndexV, gPart, reduceIte, Nat.reduceAdd, Nat.reduceSub, Nat.reduceMul, Nat.reduceLT, Nat.reduceLeDiff, Nat.reduceEqDiff, Nat.reduceBEq, Int.reduceLT, Int.reduceLE, Int.reduceGT, Int.reduceGE, Int.reduceEq, Int.reduceNe, Int.reduceAdd, Int.reduceSub, Int.reduceMul, Int.reduceNeg, Int.reduceToNat, Int.reduceBEq, Int.reduceBNe, Int.cast_ofNat_Int, List.getElem?_toArray, stp, Try.underlying104, Try.underlying107, Try.underlying113, Try.underlying115, Try.underlying119, Try.underlying22, Try.underlying24, Try.underlying27, Try.underlying3, Try.underlying4, Try.underlying42, Try.underlying44, Try.underlying47, Try.underlying5, Try.underlying9, ty104, ty113, ty22, ty24, ty47, ty107, ty115, ty44, ty119, ty27, ty3, ty4, ty42, ty5, ty9, rs21]))
    refine (c_sortV N o3 u3 ic3 r3 (by omega)).mono ?_
    rintro _ h4 ⟨l2, cs2, p4, so4, o4, u4, r4, k4, hs4⟩
    have s4 := hs4 s3
    have hl2 := p4.length_eq
    rw [← hl2] at o4 hcl ⊢
    have rl4 : RL 3 Fr h4 (.slice a3 l2.length c3) l2 := o4.rl r4
    refine mk_of ?_; repeat' (first | (with_reducible first | refine gw_seq ?_ | refine gw_block ?_) | ((first | (with_reducible refine mk_to ?_) | (with_reducible first | refine gw_region ?_ | refine gw_if ?_ | refine gw_skip ?_ | refine gw_exit ?_ | refine gw_ret ?_) | ((with_reducible first | refine gif_b (fun hb => ?_) (fun hb => ?_) | refine want_t (fun hb => ?_) (fun hb => ?_) | refine want_f (fun hb => ?_) (fun hb => ?_)) <;> (try simp only [hb]) <;> (try simp only [hpr] at hb))) <;> try simp only [List.map, gop, ev, lk, aenv, gyield, gBin, gInt, gStrOp, gUn, gPick, gNil, gExtract, gIfc, gConvK, gIndexO, gIndexVO, gMakeV, gMinV, gMaxV, isInt, gMin, gMax, gBlt, gLenX, gCallV, gInvoke, gNilM, Array.toList_map, vcells, gField, gIndexV, gPart, reduceIte, Nat.reduceAdd, Nat.reduceSub, Nat.reduceMul, Nat.reduceLT, Nat.reduceLeDiff, Nat.reduceEqDiff, Nat.reduceBEq, Int.reduceLT, Int.reduceLE, Int.reduceGT, Int.reduceGE, Int.reduceEq, Int.reduceNe, Int.reduceAdd, Int.reduceSub, Int.reduceMul, Int.reduceNeg, Int.reduceToNat, Int.reduceBEq, Int.reduceBNe, Int.cast_ofNat_Int, List.getElem?_toArray, stp, Try.underlying104, Try.underlying107, Try.underlying113, Try.underlying115, Try.underlying119, Try.underlying22, Try.underlying24, Try.underlying27, Try.underlying3, Try.underlying4, Try.underlying42, Try.underlying44, Try.underlying47, Try.underlying5, Try.underlying9, ty104, ty113, ty22, ty24, ty47, ty107, ty115, ty44, ty119, ty27, ty3, ty4, ty42, ty5, ty9, rs21]))
    refine gw_loop2 [6, 54, 55] (fun (y : Nat × (Option Addr × Nat × Nat)) => [(11, .slice y.2.1 y.2.2.1 y.2.2.2), (56, .int .i64 (y.1 : Int))])
      (fun q y h' => l2.length - y.1 = q ∧ y.1 ≤ l2.length ∧ HS h4 h' ∧ ∃ ds, OWNC 1 h4 h' (.slice y.2.1 y.2.2.1 y.2.2.2) y.1 ds ∧ ds.all notU8 = true ∧ ∀ (i : Nat) x, ((l2.map (·.1)).take y.1)[i]? = some x → Tx h' ((ds.drop (i * 1)).take 1) x) l2.length (0, (none, 0, 0)) (by simp [lk])
      ⟨rfl, by simp, HS.refl _, [], OWNC.nil _ _ _, rfl, fun i x hx => by simp at hx⟩ ?_
    rintro _ ⟨i, a5, n5, c5⟩ h5 ⟨rfl, hi, s5, ds5, o5, u5, r5⟩
    simp only at hi o5 r5
    by_cases hib : i < l2.length
    case neg =>
      obtain rfl : i = l2.length := by omega
      have d3 : decide ((l2.length : Int) < (l2.length : Int)) = false := decide_eq_false (by omega)
      refine mk_of ?_; repeat' (first | (with_reducible first | refine gw_seq ?_ | refine gw_block ?_) | ((first | (with_reducible refine mk_to ?_) | (with_reducible first | refine gw_region ?_ | refine gw_if ?_ | refine gw_skip ?_ | refine gw_exit ?_ | refine gw_ret ?_) | ((with_reducible first | refine gif_b (fun hb => ?_) (fun hb => ?_) | refine want_t (fun hb => ?_) (fun hb => ?_) | refine want_f (fun hb => ?_) (fun hb => ?_)) <;> (try simp only [hb]) <;> (try simp only [hpr] at hb))) <;> try simp only [List.map, gop, ev, lk, aenv, gyield, gBin, gInt, gStrOp, gUn, gPick, gNil, gExtract, gIfc, gConvK, gIndexO, gIndexVO, gMakeV, gMinV, gMaxV, isInt, gMin, gMax, gBlt, gLenX, gCallV, gInvoke, gNilM, Array.toList_map, vcells, gField, gIndexV, gPart, reduceIte, Nat.reduceAdd, Nat.reduceSub, Nat.reduceMul, Nat.reduceLT, Nat.reduceLeDiff, Nat.reduceEqDiff, Nat.reduceBEq, Int.reduceLT, Int.reduceLE, Int.reduceGT, Int.reduceGE, Int.reduceEq, Int.reduceNe, Int.reduceAdd, Int.reduceSub, Int.reduceMul, Int.reduceNeg, Int.reduceToNat, Int.reduceBEq, Int.reduceBNe, Int.cast_ofNat_Int, List.getElem?_toArray, stp, Try.underlying104, Try.underlying107, Try.underlying113, Try.underlying115, Try.underlying119, Try.underlying22, Try.underlying24, Try.underlying27, Try.underlying3, Try.underlying4, Try.underlying42, Try.underlying44, Try.underlying47, Try.underlying5, Try.underlying9, ty104, ty113, ty22, ty24, ty47, ty107, ty115, ty44, ty119, ty27, ty3, ty4, ty42, ty5, ty9, rs21, d3]))
      rw [List.take_of_length_le (by simp)] at r5
      have o5' : OWNC 1 h4 h5 (.slice a5 n5 c5) (l2.map (·.1)).length ds5 := by rw [List.length_map]; exact o5
      exact ⟨⟨is, l2, nd, hmem, p4, so4, o5'.rl r5⟩, s4.trans s5⟩
    have d3 : decide ((i : Int) < (l2.length : Int)) = true := decide_eq_true (by omega)
    have wi : IntKind.i64.wrap ((i : Int) + 1) = ((i + 1 : Nat) : Int) := by rw [wrap64 (by omega) (by omega)]; omega
    obtain ⟨y, hy⟩ : ∃ y, l2[i]? = some y := ⟨_, List.getElem?_eq_getElem hib⟩
    obtain ⟨ad, cs6, g1, g2, g3⟩ := (rl4.hcR s5.hc (fun cs z q => by obtain ⟨a, c, e, r⟩ := q; exact (⟨a, c, e, r.hs s5⟩ : Fr h5 cs z))).at (P := Try.prog) Try.underlying113 sz115 hy
    obtain ⟨a6, c6, rfl, r6⟩ := g3
    have l1 : gLoad Try.prog 115 h5 (.pointer (some ad)) = some (.agg #[.slice a6 y.1.length c6, .int .i64 (y.2.1 : Int), .int .i64 (y.2.2 : Int)]) := by simp only [gLoad, sz115, g2]; rfl
    refine mk_of ?_; repeat' (first | (with_reducible first | refine gw_seq ?_ | refine gw_block ?_) | ((first | (with_reducible refine mk_to ?_) | (with_reducible first | refine gw_region ?_ | refine gw_if ?_ | refine gw_skip ?_ | refine gw_exit ?_ | refine gw_ret ?_) | ((with_reducible first | refine gif_b (fun hb => ?_) (fun hb => ?_) | refine want_t (fun hb => ?_) (fun hb => ?_) | refine want_f (fun hb => ?_) (fun hb => ?_)) <;> (try simp only [hb]) <;> (try simp only [hpr] at hb))) <;> try simp only [List.map, gop, ev, lk, aenv, gyield, gBin, gInt, gStrOp, gUn, gPick, gNil, gExtract, gIfc, gConvK, gIndexO, gIndexVO, gMakeV, gMinV, gMaxV, isInt, gMin, gMax, gBlt, gLenX, gCallV, gInvoke, gNilM, Array.toList_map, vcells, gField, gIndexV, gPart, reduceIte, Nat.reduceAdd, Nat.reduceSub, Nat.reduceMul, Nat.reduceLT, Nat.reduceLeDiff, Nat.reduceEqDiff, Nat.reduceBEq, Int.reduceLT, Int.reduceLE, Int.reduceGT, Int.reduceGE, Int.reduceEq, Int.reduceNe, Int.reduceAdd, Int.reduceSub, Int.reduceMul, Int.reduceNeg, Int.reduceToNat, Int.reduceBEq, Int.reduceBNe, Int.cast_ofNat_Int, List.getElem?_toArray, stp, Try.underlying104, Try.underlying107, Try.underlying113, Try.underlying115, Try.underlying119, Try.underlying22, Try.underlying24, Try.underlying27, Try.underlying3, Try.underlying4, Try.underlying42, Try.underlying44, Try.underlying47, Try.underlying5, Try.underlying9, ty104, ty113, ty22, ty24, ty47, ty107, ty115, ty44, ty119, ty27, ty3, ty4, ty42, ty5, ty9, rs21, d3, g1, l1]))
    refine new_g fun k7 h7 m7 s7 f7 n7 => ?_
    refine mk_of ?_; repeat' (first | (with_reducible first | refine gw_seq ?_ | refine gw_block ?_) | ((first | (with_reducible refine mk_to ?_) | (with_reducible first | refine gw_region ?_ | refine gw_if ?_ | refine gw_skip ?_ | refine gw_exit ?_ | refine gw_ret ?_) | ((with_reducible first | refine gif_b (fun hb => ?_) (fun hb => ?_) | refine want_t (fun hb => ?_) (fun hb => ?_) | refine want_f (fun hb => ?_) (fun hb => ?_)) <;> (try simp only [hb]) <;> (try simp only [hpr] at hb))) <;> try simp only [List.map, gop, ev, lk, aenv, gyield, gBin, gInt, gStrOp, gUn, gPick, gNil, gExtract, gIfc, gConvK, gIndexO, gIndexVO, gMakeV, gMinV, gMaxV, isInt, gMin, gMax, gBlt, gLenX, gCallV, gInvoke, gNilM, Array.toList_map, vcells, gField, gIndexV, gPart, reduceIte, Nat.reduceAdd, Nat.reduceSub, Nat.reduceMul, Nat.reduceLT, Nat.reduceLeDiff, Nat.reduceEqDiff, Nat.reduceBEq, Int.reduceLT, Int.reduceLE, Int.reduceGT, Int.reduceGE, Int.reduceEq, Int.reduceNe, Int.reduceAdd, Int.reduceSub, Int.reduceMul, Int.reduceNeg, Int.reduceToNat, Int.reduceBEq, Int.reduceBNe, Int.cast_ofNat_Int, List.getElem?_toArray, stp, Try.underlying104, Try.underlying107, Try.underlying113, Try.underlying115, Try.underlying119, Try.underlying22, Try.underlying24, Try.underlying27, Try.underlying3, Try.underlying4, Try.underlying42, Try.underlying44, Try.underlying47, Try.underlying5, Try.underlying9, ty104, ty113, ty22, ty24, ty47, ty107, ty115, ty44, ty119, ty27, ty3, ty4, ty42, ty5, ty9, rs21]))
    refine st_all m7 sz115 rfl (by decide) rfl rfl rfl fun h8 m8 f8 => ?_
    have s8 : HS h5 h8 := (HS.refl h5).upd n7 (fun j hj => (f8 j hj).trans (f7 j hj))
    refine mk_of ?_; repeat' (first | (with_reducible first | refine gw_seq ?_ | refine gw_block ?_) | ((first | (with_reducible refine mk_to ?_) | (with_reducible first | refine gw_region ?_ | refine gw_if ?_ | refine gw_skip ?_ | refine gw_exit ?_ | refine gw_ret ?_) | ((with_reducible first | refine gif_b (fun hb => ?_) (fun hb => ?_) | refine want_t (fun hb => ?_) (fun hb => ?_) | refine want_f (fun hb => ?_) (fun hb => ?_)) <;> (try simp only [hb]) <;> (try simp only [hpr] at hb))) <;> try simp only [List.map, gop, ev, lk, aenv, gyield, gBin, gInt, gStrOp, gUn, gPick, gNil, gExtract, gIfc, gConvK, gIndexO, gIndexVO, gMakeV, gMinV, gMaxV, isInt, gMin, gMax, gBlt, gLenX, gCallV, gInvoke, gNilM, Array.toList_map, vcells, gField, gIndexV, gPart, reduceIte, Nat.reduceAdd, Nat.reduceSub, Nat.reduceMul, Nat.reduceLT, Nat.reduceLeDiff, Nat.reduceEqDiff, Nat.reduceBEq, Int.reduceLT, Int.reduceLE, Int.reduceGT, Int.reduceGE, Int.reduceEq, Int.reduceNe, Int.reduceAdd, Int.reduceSub, Int.reduceMul, Int.reduceNeg, Int.reduceToNat, Int.reduceBEq, Int.reduceBNe, Int.cast_ofNat_Int, List.getElem?_toArray, stp, Try.underlying104, Try.underlying107, Try.underlying113, Try.underlying115, Try.underlying119, Try.underlying22, Try.underlying24, Try.underlying27, Try.underlying3, Try.underlying4, Try.underlying42, Try.underlying44, Try.underlying47, Try.underlying5, Try.underlying9, ty104, ty113, ty22, ty24, ty47, ty107, ty115, ty44, ty119, ty27, ty3, ty4, ty42, ty5, ty9, rs21, gload1 m8 sz24, List.getElem?_cons_zero, List.getElem?_cons_succ]))
    refine bsn1_g el47 rfl rfl (by decide) (by decide) rfl fun k9 h9 b9 s9 f9 n9 => ?_
    have s59 := s8.trans s9
    have n5i : n5 = i := by
      obtain ⟨_, _, q⟩ := o5.form
      cases q; rfl
    subst n5i
    refine mk_of ?_; repeat' (first | (with_reducible first | refine gw_seq ?_ | refine gw_block ?_) | ((first | (with_reducible refine mk_to ?_) | (with_reducible first | refine gw_region ?_ | refine gw_if ?_ | refine gw_skip ?_ | refine gw_exit ?_ | refine gw_ret ?_) | ((with_reducible first | refine gif_b (fun hb => ?_) (fun hb => ?_) | refine want_t (fun hb => ?_) (fun hb => ?_) | refine want_f (fun hb => ?_) (fun hb => ?_)) <;> (try simp only [hb]) <;> (try simp only [hpr] at hb))) <;> try simp only [List.map, gop, ev, lk, aenv, gyield, gBin, gInt, gStrOp, gUn, gPick, gNil, gExtract, gIfc, gConvK, gIndexO, gIndexVO, gMakeV, gMinV, gMaxV, isInt, gMin, gMax, gBlt, gLenX, gCallV, gInvoke, gNilM, Array.toList_map, vcells, gField, gIndexV, gPart, reduceIte, Nat.reduceAdd, Nat.reduceSub, Nat.reduceMul, Nat.reduceLT, Nat.reduceLeDiff, Nat.reduceEqDiff, Nat.reduceBEq, Int.reduceLT, Int.reduceLE, Int.reduceGT, Int.reduceGE, Int.reduceEq, Int.reduceNe, Int.reduceAdd, Int.reduceSub, Int.reduceMul, Int.reduceNeg, Int.reduceToNat, Int.reduceBEq, Int.reduceBNe, Int.cast_ofNat_Int, List.getElem?_toArray, stp, Try.underlying104, Try.underlying107, Try.underlying113, Try.underlying115, Try.underlying119, Try.underlying22, Try.underlying24, Try.underlying27, Try.underlying3, Try.underlying4, Try.underlying42, Try.underlying44, Try.underlying47, Try.underlying5, Try.underlying9, ty104, ty113, ty22, ty24, ty47, ty107, ty115, ty44, ty119, ty27, ty3, ty4, ty42, ty5, ty9, rs21]))
    refine append_ownc el47 Try.underlying47 rfl (s5.trans s59) (o5.hs s59) b9 rfl rfl (by omega) (by simp only [maxLen]; omega) fun v10 h10 s10 fr10 o10 => ?_
    obtain ⟨a10, c10, rfl⟩ := o10.form
    refine mk_of ?_; repeat' (first | (with_reducible first | refine gw_seq ?_ | refine gw_block ?_) | ((first | (with_reducible refine mk_to ?_) | (with_reducible first | refine gw_region ?_ | refine gw_if ?_ | refine gw_skip ?_ | refine gw_exit ?_ | refine gw_ret ?_) | ((with_reducible first | refine gif_b (fun hb => ?_) (fun hb => ?_) | refine want_t (fun hb => ?_) (fun hb => ?_) | refine want_f (fun hb => ?_) (fun hb => ?_)) <;> (try simp only [hb]) <;> (try simp only [hpr] at hb))) <;> try simp only [List.map, gop, ev, lk, aenv, gyield, gBin, gInt, gStrOp, gUn, gPick, gNil, gExtract, gIfc, gConvK, gIndexO, gIndexVO, gMakeV, gMinV, gMaxV, isInt, gMin, gMax, gBlt, gLenX, gCallV, gInvoke, gNilM, Array.toList_map, vcells, gField, gIndexV, gPart, reduceIte, Nat.reduceAdd, Nat.reduceSub, Nat.reduceMul, Nat.reduceLT, Nat.reduceLeDiff, Nat.reduceEqDiff, Nat.reduceBEq, Int.reduceLT, Int.reduceLE, Int.reduceGT, Int.reduceGE, Int.reduceEq, Int.reduceNe, Int.reduceAdd, Int.reduceSub, Int.reduceMul, Int.reduceNeg, Int.reduceToNat, Int.reduceBEq, Int.reduceBNe, Int.cast_ofNat_Int, List.getElem?_toArray, stp, Try.underlying104, Try.underlying107, Try.underlying113, Try.underlying115, Try.underlying119, Try.underlying22, Try.underlying24, Try.underlying27, Try.underlying3, Try.underlying4, Try.underlying42, Try.underlying44, Try.underlying47, Try.underlying5, Try.underlying9, ty104, ty113, ty22, ty24, ty47, ty107, ty115, ty44, ty119, ty27, ty3, ty4, ty42, ty5, ty9, rs21, wi]))
    have keep : ∀ {q : List Value} {ee : List UInt8}, Tx h9 q ee → Tx h10 q ee := fun {q ee} w => by
      obtain ⟨a, c, e, r⟩ := w
      exact ⟨a, c, e, fr_rb fr10 u5 r⟩
    have ht : (l2.map (·.1)).take (n5 + 1) = (l2.map (·.1)).take n5 ++ [y.1] := by rw [List.take_add_one, List.getElem?_map, hy]; rfl
    refine ⟨_, (n5 + 1, a10, n5 + 1, c10), ?_, (by simp only [List.forall_mem_cons, List.not_mem_nil, false_implies, implies_true, List.map, List.cons_append, List.nil_append, lk, Nat.reduceEqDiff, reduceIte, and_true, true_and]), rfl, by simp only; omega, s10, ds5 ++ [.slice a6 y.1.length c6], o10, by rw [List.all_append, u5]; rfl, ?_⟩
    · simp only
      omega
    · simp only
      rw [ht]
      exact app_el (R := Tx h10) (by rw [o5.len, List.length_take, List.length_map, Nat.min_eq_left (by omega)]) rfl (fun i p hp => keep (by obtain ⟨a, c, e, r⟩ := r5 i p hp; exact ⟨a, c, e, r.hs s59⟩)) (keep ⟨a6, c6, rfl, r6.hs s59⟩)
  have hkk := mat_find l q key v x.ok x.nd hkey hv
  obtain ⟨kb, rfl, hkq, hfd⟩ := hkk
  have hid : kid l q = kb.data.toList := by unfold kid; rw [hkq]; rfl
  have hbs : bstr (kid l q) = kb := by rw [hid]; exact bstr_of kb
  have hmg : mget l (kid l q) = v := by unfold mget; rw [hbs, hfd]; rfl
  generalize hh4 : hset h3 (it + 1) _ = h4
  have m4 : h4 (it + 1) = some ⟨IT :: .map (some j) :: .int .i64 (((mkeys l).length : Nat) : Int) :: (is.map (fun q : Nat => .int .i64 (q : Int)) ++ [.int .i64 (q : Int)]), 0, true, false⟩ := by rw [← hh4]; exact hset_same _ _ _
  have f4 : ∀ i, i ≠ it + 1 → h4 i = h3 i := fun i hi => by rw [← hh4]; exact hset_ne _ _ hi
  have s4 : HS h h4 := s3.upd hi1 f4
  clear hh4
  have x4 := x.hs s4
  have uit : (⟨IT :: .map (some j) :: .int .i64 (((mkeys l).length : Nat) : Int) :: is.map (fun q : Nat => .int .i64 (q : Int)), 0, true, false⟩ : GB).cells.all notU8 = true := by simp [notU8]
  have hx4 : HX (it + 1) h3 h4 := fun i B n e => (f4 i n).trans e
  refine mk_of ?_; repeat' (first | (with_reducible first | refine gw_seq ?_ | refine gw_block ?_) | ((first | (with_reducible refine mk_to ?_) | (with_reducible first | refine gw_region ?_ | refine gw_if ?_ | refine gw_skip ?_ | refine gw_exit ?_ | refine gw_ret ?_) | ((with_reducible first | refine gif_b (fun hb => ?_) (fun hb => ?_) | refine want_t (fun hb => ?_) (fun hb => ?_) | refine want_f (fun hb => ?_) (fun hb => ?_)) <;> (try simp only [hb]) <;> (try simp only [hpr] at hb))) <;> try simp only [List.map, gop, ev, lk, aenv, gyield, gBin, gInt, gStrOp, gUn, gPick, gNil, gExtract, gIfc, gConvK, gIndexO, gIndexVO, gMakeV, gMinV, gMaxV, isInt, gMin, gMax, gBlt, gLenX, gCallV, gInvoke, gNilM, Array.toList_map, vcells, gField, gIndexV, gPart, reduceIte, Nat.reduceAdd, Nat.reduceSub, Nat.reduceMul, Nat.reduceLT, Nat.reduceLeDiff, Nat.reduceEqDiff, Nat.reduceBEq, Int.reduceLT, Int.reduceLE, Int.reduceGT, Int.reduceGE, Int.reduceEq, Int.reduceNe, Int.reduceAdd, Int.reduceSub, Int.reduceMul, Int.reduceNeg, Int.reduceToNat, Int.reduceBEq, Int.reduceBNe, Int.cast_ofNat_Int, List.getElem?_toArray, stp, Try.underlying104, Try.underlying107, Try.underlying113, Try.underlying115, Try.underlying119, Try.underlying22, Try.underlying24, Try.underlying27, Try.underlying3, Try.underlying4, Try.underlying42, Try.underlying44, Try.underlying47, Try.underlying5, Try.underlying9, ty104, ty113, ty22, ty24, ty47, ty107, ty115, ty44, ty119, ty27, ty3, ty4, ty42, ty5, ty9, rs21]))
  refine ⟨it, j, (mkeys l).length, q, is.map (fun q : Nat => .int .i64 (q : Int)), _, l, .string kb, v, rfl, m4, rfl, hmo s4, hml, hkey, hv, ?_⟩
  obtain ⟨av, cv, ev', _⟩ := (x4.spots (kid l q)).form
  rw [hmg] at ev'
  have rsp : RL 2 Sp h4 v (S (kid l q)) := by rw [← hmg]; exact x4.spots _
  subst ev'
  have hSl : (S (kid l q)).length ≤ 1000 := by have := x.sl (kid l q); omega
  refine mk_of ?_; repeat' (first | (with_reducible first | refine gw_seq ?_ | refine gw_block ?_) | ((first | (with_reducible refine mk_to ?_) | (with_reducible first | refine gw_region ?_ | refine gw_if ?_ | refine gw_skip ?_ | refine gw_exit ?_ | refine gw_ret ?_) | ((with_reducible first | refine gif_b (fun hb => ?_) (fun hb => ?_) | refine want_t (fun hb => ?_) (fun hb => ?_) | refine want_f (fun hb => ?_) (fun hb => ?_)) <;> (try simp only [hb]) <;> (try simp only [hpr] at hb))) <;> try simp only [List.map, gop, ev, lk, aenv, gyield, gBin, gInt, gStrOp, gUn, gPick, gNil, gExtract, gIfc, gConvK, gIndexO, gIndexVO, gMakeV, gMinV, gMaxV, isInt, gMin, gMax, gBlt, gLenX, gCallV, gInvoke, gNilM, Array.toList_map, vcells, gField, gIndexV, gPart, reduceIte, Nat.reduceAdd, Nat.reduceSub, Nat.reduceMul, Nat.reduceLT, Nat.reduceLeDiff, Nat.reduceEqDiff, Nat.reduceBEq, Int.reduceLT, Int.reduceLE, Int.reduceGT, Int.reduceGE, Int.reduceEq, Int.reduceNe, Int.reduceAdd, Int.reduceSub, Int.reduceMul, Int.reduceNeg, Int.reduceToNat, Int.reduceBEq, Int.reduceBNe, Int.cast_ofNat_Int, List.getElem?_toArray, stp, Try.underlying104, Try.underlying107, Try.underlying113, Try.underlying115, Try.underlying119, Try.underlying22, Try.underlying24, Try.underlying27, Try.underlying3, Try.underlying4, Try.underlying42, Try.underlying44, Try.underlying47, Try.underlying5, Try.underlying9, ty104, ty113, ty22, ty24, ty47, ty107, ty115, ty44, ty119, ty27, ty3, ty4, ty42, ty5, ty9, rs21]))
  refine (c_upto N h4 rsp (by omega) (x.ris _) f).mono ?_
  rintro _ h5 ⟨⟨n5, rfl, up5⟩, s5⟩
  have en5 := up5.uniq (cntU_upto _ f (x.ris _))
  have nd' : (is ++ [q]).Nodup := by
    rw [List.nodup_append]
    refine ⟨nd, by simp, fun a ha b hb e => hns ?_⟩
    obtain rfl := List.mem_singleton.1 hb
    rw [← e]
    exact List.mem_map.2 ⟨a, ha, rfl⟩
  have lt' : ∀ z ∈ is ++ [q], z < (mkeys l).length := fun z hz => by
    rcases List.mem_append.1 hz with hz | hz
    · exact lt z hz
    · obtain rfl := List.mem_singleton.1 hz; exact hq
  have hlen' := nodup_len _ _ nd' lt'
  rw [List.length_append, List.length_singleton] at hlen'
  have mm4 : h4 (it + 1) = some ⟨IT :: .map (some j) :: .int .i64 (((mkeys l).length : Nat) : Int) :: (is ++ [q]).map (fun q : Nat => .int .i64 (q : Int)), 0, true, false⟩ := by rw [m4, List.map_append]; rfl
  have o4 : OWNC 3 h h4 (.slice a3 n3 c3) (chgd l S f t is).length ds := o3.hx m3 (by simp) hx4
  have fr4 : ∀ {q : List Value} {ee : Fst}, Fr h3 q ee → Fr h4 q ee := fun {q ee} w => by
    obtain ⟨a, c, e, r⟩ := w
    exact ⟨a, c, e, r.hx m3 uit hx4⟩
  have fr45 : ∀ {h' : GH} (s : HS h4 h') {q : List Value} {ee : Fst}, Fr h3 q ee → Fr h' q ee := fun {h'} s {q ee} w => by
    obtain ⟨a, c, e, r⟩ := fr4 w
    exact ⟨a, c, e, r.hs s⟩
  have hch : ∀ o, fstC (S (kid l q)) f t = o → chgd l S f t (is ++ [q]) = chgd l S f t is ++ (match o with | some p => [(kid l q, p)] | none => []) := fun o ho => by
    unfold chgd
    rw [List.filterMap_append]
    congr 1
    simp only [List.filterMap_cons, List.filterMap_nil, ho]
    cases o <;> rfl
  have skip : fstC (S (kid l q)) f t = none → ∀ h', HS h4 h' → HS h h' ∧ ∃ (is' : List Nat) (ds' : List Value), (mkeys l).length - is'.length < (mkeys l).length - is.length ∧ is'.Nodup ∧ (∀ q ∈ is', q < (mkeys l).length) ∧ h' (it + 1) = some ⟨IT :: .map (some j) :: .int .i64 (((mkeys l).length : Nat) : Int) :: is'.map (fun q : Nat => .int .i64 (q : Int)), 0, true, false⟩ ∧
      OWNC 3 h h' (.slice a3 n3 c3) (chgd l S f t is').length ds' ∧ ds'.all notU8 = true ∧ ds'.all isCell = true ∧ ∀ (i : Nat) x, (chgd l S f t is')[i]? = some x → Fr h' ((ds'.drop (i * 3)).take 3) x := fun hno h' s => by
    have e := hch _ hno
    simp only [List.append_nil] at e
    refine ⟨s4.trans s, is ++ [q], ds, by rw [List.length_append, List.length_singleton]; omega, nd', lt', s _ _ mm4, by rw [e]; exact o4.hs s, u3, ic3, fun i x hx => ?_⟩
    rw [e] at hx
    exact fr45 s (r3 i x hx)
  have rsp5 := rsp.hcR s5.hc (fun cs z q => (q : Sp h5 cs z))
  by_cases hn5 : n5 < (S (kid l q)).length
  case neg =>
    have d5 : decide ((n5 : Int) < ((S (kid l q)).length : Int)) = false := decide_eq_false (by omega)
    have hno : fstC (S (kid l q)) f t = none := by unfold fstC; rw [← en5, List.getElem?_eq_none (by omega)]
    refine mk_of ?_; repeat' (first | (with_reducible first | refine gw_seq ?_ | refine gw_block ?_) | ((first | (with_reducible refine mk_to ?_) | (with_reducible first | refine gw_region ?_ | refine gw_if ?_ | refine gw_skip ?_ | refine gw_exit ?_ | refine gw_ret ?_) | ((with_reducible first | refine gif_b (fun hb => ?_) (fun hb => ?_) | refine want_t (fun hb => ?_) (fun hb => ?_) | refine want_f (fun hb => ?_) (fun hb => ?_)) <;> (try simp only [hb]) <;> (try simp only [hpr] at hb))) <;> try simp only [List.map, gop, ev, lk, aenv, gyield, gBin, gInt, gStrOp, gUn, gPick, gNil, gExtract, gIfc, gConvK, gIndexO, gIndexVO, gMakeV, gMinV, gMaxV, isInt, gMin, gMax, gBlt, gLenX, gCallV, gInvoke, gNilM, Array.toList_map, vcells, gField, gIndexV, gPart, reduceIte, Nat.reduceAdd, Nat.reduceSub, Nat.reduceMul, Nat.reduceLT, Nat.reduceLeDiff, Nat.reduceEqDiff, Nat.reduceBEq, Int.reduceLT, Int.reduceLE, Int.reduceGT, Int.reduceGE, Int.reduceEq, Int.reduceNe, Int.reduceAdd, Int.reduceSub, Int.reduceMul, Int.reduceNeg, Int.reduceToNat, Int.reduceBEq, Int.reduceBNe, Int.cast_ofNat_Int, List.getElem?_toArray, stp, Try.underlying104, Try.underlying107, Try.underlying113, Try.underlying115, Try.underlying119, Try.underlying22, Try.underlying24, Try.underlying27, Try.underlying3, Try.underlying4, Try.underlying42, Try.underlying44, Try.underlying47, Try.underlying5, Try.underlying9, ty104, ty113, ty22, ty24, ty47, ty107, ty115, ty44, ty119, ty27, ty3, ty4, ty42, ty5, ty9, rs21, d5, gPick]))
    obtain ⟨z0, is', ds', z1, z2⟩ := skip hno h5 s5
    exact ⟨_, (a3, n3, c3), z1, (by simp only [List.forall_mem_cons, List.not_mem_nil, false_implies, implies_true, List.map, List.cons_append, List.nil_append, lk, Nat.reduceEqDiff, reduceIte, and_true, true_and]), z0, is', ds', rfl, z2⟩
  have d5 : decide ((n5 : Int) < ((S (kid l q)).length : Int)) = true := decide_eq_true (by omega)
  obtain ⟨p, hp⟩ : ∃ p, (S (kid l q))[n5]? = some p := ⟨_, List.getElem?_eq_getElem hn5⟩
  obtain ⟨ad, cs6, g1, g2, g3⟩ := rsp5.at (P := Try.prog) Try.underlying104 sz107 hp
  unfold Sp at g3
  subst g3
  have hsp := gread_spot2 g2 (by decide)
  have lp : ∀ {h' : GH}, HS h5 h' → gLoad Try.prog 3 h' (.pointer (some ⟨ad.block, ad.off, none⟩)) = some (.int .i64 (p.1 : Int)) := fun {h'} s => by
    have := gread_get (gread_hc s.hc g2) (i := 0) (v := .int .i64 (p.1 : Int)) rfl
    simp only [Nat.add_zero] at this
    simp only [gLoad, sz3, this]; rfl
  rw [addr_eta hsp] at g1
  have l107 : ∀ {h' : GH}, HS h5 h' → gLoad Try.prog 107 h' (.pointer (some ⟨ad.block, ad.off, none⟩)) = some (.agg #[.int .i64 (p.1 : Int), .int .i64 (p.2 : Int)]) := fun {h'} s => by
    have := gread_hc s.hc g2
    rw [addr_eta hsp] at this
    simp only [gLoad, sz107, this]; rfl
  by_cases hpt : (p.1 : Int) ≤ t
  case neg =>
    have d6 : decide ((p.1 : Int) ≤ t) = false := decide_eq_false hpt
    have hno : fstC (S (kid l q)) f t = none := by unfold fstC; rw [← en5, hp]; simp only; rw [if_neg hpt]
    refine mk_of ?_; repeat' (first | (with_reducible first | refine gw_seq ?_ | refine gw_block ?_) | ((first | (with_reducible refine mk_to ?_) | (with_reducible first | refine gw_region ?_ | refine gw_if ?_ | refine gw_skip ?_ | refine gw_exit ?_ | refine gw_ret ?_) | ((with_reducible first | refine gif_b (fun hb => ?_) (fun hb => ?_) | refine want_t (fun hb => ?_) (fun hb => ?_) | refine want_f (fun hb => ?_) (fun hb => ?_)) <;> (try simp only [hb]) <;> (try simp only [hpr] at hb))) <;> try simp only [List.map, gop, ev, lk, aenv, gyield, gBin, gInt, gStrOp, gUn, gPick, gNil, gExtract, gIfc, gConvK, gIndexO, gIndexVO, gMakeV, gMinV, gMaxV, isInt, gMin, gMax, gBlt, gLenX, gCallV, gInvoke, gNilM, Array.toList_map, vcells, gField, gIndexV, gPart, reduceIte, Nat.reduceAdd, Nat.reduceSub, Nat.reduceMul, Nat.reduceLT, Nat.reduceLeDiff, Nat.reduceEqDiff, Nat.reduceBEq, Int.reduceLT, Int.reduceLE, Int.reduceGT, Int.reduceGE, Int.reduceEq, Int.reduceNe, Int.reduceAdd, Int.reduceSub, Int.reduceMul, Int.reduceNeg, Int.reduceToNat, Int.reduceBEq, Int.reduceBNe, Int.cast_ofNat_Int, List.getElem?_toArray, stp, Try.underlying104, Try.underlying107, Try.underlying113, Try.underlying115, Try.underlying119, Try.underlying22, Try.underlying24, Try.underlying27, Try.underlying3, Try.underlying4, Try.underlying42, Try.underlying44, Try.underlying47, Try.underlying5, Try.underlying9, ty104, ty113, ty22, ty24, ty47, ty107, ty115, ty44, ty119, ty27, ty3, ty4, ty42, ty5, ty9, rs21, d5, d6, g1, lp (HS.refl _), Nat.add_zero, gPick]))
    obtain ⟨z0, is', ds', z1, z2⟩ := skip hno h5 s5
    exact ⟨_, (a3, n3, c3), z1, (by simp only [List.forall_mem_cons, List.not_mem_nil, false_implies, implies_true, List.map, List.cons_append, List.nil_append, lk, Nat.reduceEqDiff, reduceIte, and_true, true_and]), z0, is', ds', rfl, z2⟩
  have d6 : decide ((p.1 : Int) ≤ t) = true := decide_eq_true hpt
  have hyes : fstC (S (kid l q)) f t = some p := by unfold fstC; rw [← en5, hp]; simp only; rw [if_pos hpt]
  simp only [List.map, gop, ev, lk, aenv, gyield, gBin, gInt, gStrOp, gUn, gPick, gNil, gExtract, gIfc, gConvK, gIndexO, gIndexVO, gMakeV, gMinV, gMaxV, isInt, gMin, gMax, gBlt, gLenX, gCallV, gInvoke, gNilM, Array.toList_map, vcells, gField, gIndexV, gPart, reduceIte, Nat.reduceAdd, Nat.reduceSub, Nat.reduceMul, Nat.reduceLT, Nat.reduceLeDiff, Nat.reduceEqDiff, Nat.reduceBEq, Int.reduceLT, Int.reduceLE, Int.reduceGT, Int.reduceGE, Int.reduceEq, Int.reduceNe, Int.reduceAdd, Int.reduceSub, Int.reduceMul, Int.reduceNeg, Int.reduceToNat, Int.reduceBEq, Int.reduceBNe, Int.cast_ofNat_Int, List.getElem?_toArray, stp, Try.underlying104, Try.underlying107, Try.underlying113, Try.underlying115, Try.underlying119, Try.underlying22, Try.underlying24, Try.underlying27, Try.underlying3, Try.underlying4, Try.underlying42, Try.underlying44, Try.underlying47, Try.underlying5, Try.underlying9, ty104, ty113, ty22, ty24, ty47, ty107, ty115, ty44, ty119, ty27, ty3, ty4, ty42, ty5, ty9, rs21]
  refine gw_seq ?_
  refine gw_region ?_
  simp only [List.map, gop, ev, lk, aenv, gyield, gBin, gInt, gStrOp, gUn, gPick, gNil, gExtract, gIfc, gConvK, gIndexO, gIndexVO, gMakeV, gMinV, gMaxV, isInt, gMin, gMax, gBlt, gLenX, gCallV, gInvoke, gNilM, Array.toList_map, vcells, gField, gIndexV, gPart, reduceIte, Nat.reduceAdd, Nat.reduceSub, Nat.reduceMul, Nat.reduceLT, Nat.reduceLeDiff, Nat.reduceEqDiff, Nat.reduceBEq, Int.reduceLT, Int.reduceLE, Int.reduceGT, Int.reduceGE, Int.reduceEq, Int.reduceNe, Int.reduceAdd, Int.reduceSub, Int.reduceMul, Int.reduceNeg, Int.reduceToNat, Int.reduceBEq, Int.reduceBNe, Int.cast_ofNat_Int, List.getElem?_toArray, stp, Try.underlying104, Try.underlying107, Try.underlying113, Try.underlying115, Try.underlying119, Try.underlying22, Try.underlying24, Try.underlying27, Try.underlying3, Try.underlying4, Try.underlying42, Try.underlying44, Try.underlying47, Try.underlying5, Try.underlying9, ty104, ty113, ty22, ty24, ty47, ty107, ty115, ty44, ty119, ty27, ty3, ty4, ty42, ty5, ty9, rs21, d5, d6, g1, lp (HS.refl _), Nat.add_zero, gPick]
  refine gw_cond (t := true) rfl (fun _ => ?_) (fun h => by cases h)
  refine gr_of ?_
  refine gr_cut 2 ?_
  simp only [List.map, gop, ev, lk, aenv, gyield, gBin, gInt, gStrOp, gUn, gPick, gNil, gExtract, gIfc, gConvK, gIndexO, gIndexVO, gMakeV, gMinV, gMaxV, isInt, gMin, gMax, gBlt, gLenX, gCallV, gInvoke, gNilM, Array.toList_map, vcells, gField, gIndexV, gPart, reduceIte, Nat.reduceAdd, Nat.reduceSub, Nat.reduceMul, Nat.reduceLT, Nat.reduceLeDiff, Nat.reduceEqDiff, Nat.reduceBEq, Int.reduceLT, Int.reduceLE, Int.reduceGT, Int.reduceGE, Int.reduceEq, Int.reduceNe, Int.reduceAdd, Int.reduceSub, Int.reduceMul, Int.reduceNeg, Int.reduceToNat, Int.reduceBEq, Int.reduceBNe, Int.cast_ofNat_Int, List.getElem?_toArray, stp, Try.underlying104, Try.underlying107, Try.underlying113, Try.underlying115, Try.underlying119, Try.underlying22, Try.underlying24, Try.underlying27, Try.underlying3, Try.underlying4, Try.underlying42, Try.underlying44, Try.underlying47, Try.underlying5, Try.underlying9, ty104, ty113, ty22, ty24, ty47, ty107, ty115, ty44, ty119, ty27, ty3, ty4, ty42, ty5, ty9, rs21]
  refine gr_sb Try.underlying9 Try.underlying24 Try.underlying5 rfl fun k6 h6 m6 s6' f6 n6 => ?_
  have s6 := s6'
  refine gr_end ?_
  simp only [eput]
  refine mk_of ?_; repeat' (first | (with_reducible first | refine gw_seq ?_ | refine gw_block ?_) | ((first | (with_reducible refine mk_to ?_) | (with_reducible first | refine gw_region ?_ | refine gw_if ?_ | refine gw_skip ?_ | refine gw_exit ?_ | refine gw_ret ?_) | ((with_reducible first | refine gif_b (fun hb => ?_) (fun hb => ?_) | refine want_t (fun hb => ?_) (fun hb => ?_) | refine want_f (fun hb => ?_) (fun hb => ?_)) <;> (try simp only [hb]) <;> (try simp only [hpr] at hb))) <;> try simp only [List.map, gop, ev, lk, aenv, gyield, gBin, gInt, gStrOp, gUn, gPick, gNil, gExtract, gIfc, gConvK, gIndexO, gIndexVO, gMakeV, gMinV, gMaxV, isInt, gMin, gMax, gBlt, gLenX, gCallV, gInvoke, gNilM, Array.toList_map, vcells, gField, gIndexV, gPart, reduceIte, Nat.reduceAdd, Nat.reduceSub, Nat.reduceMul, Nat.reduceLT, Nat.reduceLeDiff, Nat.reduceEqDiff, Nat.reduceBEq, Int.reduceLT, Int.reduceLE, Int.reduceGT, Int.reduceGE, Int.reduceEq, Int.reduceNe, Int.reduceAdd, Int.reduceSub, Int.reduceMul, Int.reduceNeg, Int.reduceToNat, Int.reduceBEq, Int.reduceBNe, Int.cast_ofNat_Int, List.getElem?_toArray, stp, Try.underlying104, Try.underlying107, Try.underlying113, Try.underlying115, Try.underlying119, Try.underlying22, Try.underlying24, Try.underlying27, Try.underlying3, Try.underlying4, Try.underlying42, Try.underlying44, Try.underlying47, Try.underlying5, Try.underlying9, ty104, ty113, ty22, ty24, ty47, ty107, ty115, ty44, ty119, ty27, ty3, ty4, ty42, ty5, ty9, rs21, g1, l107 s6, gBuild, lfill, lput, Shape.pl, List.all_cons, List.all_nil, isCell]))
  refine bsn1_g el113 rfl rfl (by decide) (by decide) rfl fun k7 h7 b7 s7 f7 n7 => ?_
  have s47 := s5.trans (s6'.trans s7)
  have n3L : n3 = (chgd l S f t is).length := by
    obtain ⟨_, _, q⟩ := o3.form
    cases q; rfl
  have hcl : (chgd l S f t is).length ≤ is.length := List.length_filterMap_le _ _
  subst n3L
  refine mk_of ?_; repeat' (first | (with_reducible first | refine gw_seq ?_ | refine gw_block ?_) | ((first | (with_reducible refine mk_to ?_) | (with_reducible first | refine gw_region ?_ | refine gw_if ?_ | refine gw_skip ?_ | refine gw_exit ?_ | refine gw_ret ?_) | ((with_reducible first | refine gif_b (fun hb => ?_) (fun hb => ?_) | refine want_t (fun hb => ?_) (fun hb => ?_) | refine want_f (fun hb => ?_) (fun hb => ?_)) <;> (try simp only [hb]) <;> (try simp only [hpr] at hb))) <;> try simp only [List.map, gop, ev, lk, aenv, gyield, gBin, gInt, gStrOp, gUn, gPick, gNil, gExtract, gIfc, gConvK, gIndexO, gIndexVO, gMakeV, gMinV, gMaxV, isInt, gMin, gMax, gBlt, gLenX, gCallV, gInvoke, gNilM, Array.toList_map, vcells, gField, gIndexV, gPart, reduceIte, Nat.reduceAdd, Nat.reduceSub, Nat.reduceMul, Nat.reduceLT, Nat.reduceLeDiff, Nat.reduceEqDiff, Nat.reduceBEq, Int.reduceLT, Int.reduceLE, Int.reduceGT, Int.reduceGE, Int.reduceEq, Int.reduceNe, Int.reduceAdd, Int.reduceSub, Int.reduceMul, Int.reduceNeg, Int.reduceToNat, Int.reduceBEq, Int.reduceBNe, Int.cast_ofNat_Int, List.getElem?_toArray, stp, Try.underlying104, Try.underlying107, Try.underlying113, Try.underlying115, Try.underlying119, Try.underlying22, Try.underlying24, Try.underlying27, Try.underlying3, Try.underlying4, Try.underlying42, Try.underlying44, Try.underlying47, Try.underlying5, Try.underlying9, ty104, ty113, ty22, ty24, ty47, ty107, ty115, ty44, ty119, ty27, ty3, ty4, ty42, ty5, ty9, rs21]))
  refine append_ownc el113 Try.underlying113 rfl (s4.trans s47) (o4.hs s47) b7 rfl rfl (by omega) (by simp only [maxLen]; omega) fun v8 h8 s8 fr8 o8 => ?_
  obtain ⟨a8, c8, rfl⟩ := o8.form
  refine mk_of ?_; repeat' (first | (with_reducible first | refine gw_seq ?_ | refine gw_block ?_) | ((first | (with_reducible refine mk_to ?_) | (with_reducible first | refine gw_region ?_ | refine gw_if ?_ | refine gw_skip ?_ | refine gw_exit ?_ | refine gw_ret ?_) | ((with_reducible first | refine gif_b (fun hb => ?_) (fun hb => ?_) | refine want_t (fun hb => ?_) (fun hb => ?_) | refine want_f (fun hb => ?_) (fun hb => ?_)) <;> (try simp only [hb]) <;> (try simp only [hpr] at hb))) <;> try simp only [List.map, gop, ev, lk, aenv, gyield, gBin, gInt, gStrOp, gUn, gPick, gNil, gExtract, gIfc, gConvK, gIndexO, gIndexVO, gMakeV, gMinV, gMaxV, isInt, gMin, gMax, gBlt, gLenX, gCallV, gInvoke, gNilM, Array.toList_map, vcells, gField, gIndexV, gPart, reduceIte, Nat.reduceAdd, Nat.reduceSub, Nat.reduceMul, Nat.reduceLT, Nat.reduceLeDiff, Nat.reduceEqDiff, Nat.reduceBEq, Int.reduceLT, Int.reduceLE, Int.reduceGT, Int.reduceGE, Int.reduceEq, Int.reduceNe, Int.reduceAdd, Int.reduceSub, Int.reduceMul, Int.reduceNeg, Int.reduceToNat, Int.reduceBEq, Int.reduceBNe, Int.cast_ofNat_Int, List.getElem?_toArray, stp, Try.underlying104, Try.underlying107, Try.underlying113, Try.underlying115, Try.underlying119, Try.underlying22, Try.underlying24, Try.underlying27, Try.underlying3, Try.underlying4, Try.underlying42, Try.underlying44, Try.underlying47, Try.underlying5, Try.underlying9, ty104, ty113, ty22, ty24, ty47, ty107, ty115, ty44, ty119, ty27, ty3, ty4, ty42, ty5, ty9, rs21]))
  have e := hch _ hyes
  have m7 := s47 _ _ mm4
  have keep : ∀ {q : List Value} {ee : Fst}, Fr h7 q ee → Fr h8 q ee := fun {q ee} w => by
    obtain ⟨a, c, e, r⟩ := w
    exact ⟨a, c, e, fr_rb fr8 u3 r⟩
  refine ⟨_, (a8, (chgd l S f t is).length + 1, c8), ?_, (by simp only [List.forall_mem_cons, List.not_mem_nil, false_implies, implies_true, List.map, List.cons_append, List.nil_append, lk, Nat.reduceEqDiff, reduceIte, and_true, true_and]), s8, is ++ [q], _, rfl, nd', lt', fr_es fr8 m7 (by simp), by rw [e, List.length_append]; exact o8, by rw [List.all_append, u3]; rfl, by rw [List.all_append, ic3]; rfl, ?_⟩
  · rw [List.length_append, List.length_singleton]; omega
  · rw [e]
    refine app_el (R := Fr h8) o3.len rfl (fun i x hx => keep (fr45 s47 (r3 i x hx))) (keep ?_)
    unfold Fr
    rw [hid]
    exact ⟨_, _, rfl, (bytes_rb m6).hs s7⟩
end Go.Gh

/- Two lists of events, one behind the other. -/

namespace Go.Gh
open Go Go.Proofs Go.RowKit
set_option linter.unusedVariables false
set_option linter.unusedSimpArgs false
set_option maxRecDepth 100000
set_option maxHeartbeats 4000000

theorem c_vCount (N : Nat) {h0 h : GH} {k j : Nat} {bv : Value} {cs l : List Value} {B : List (List Bnd)} {S : List UInt8 → List (Nat × Nat)} (x : IX h0 h k j bv cs l B S) {a : Option Addr} {n c : Nat} {id : List UInt8} (r : RB h (.slice a n c) id) :
    GTri Try.prog N 20 [.pointer (some ⟨k, 0, none⟩), .slice a n c] h fun v h' => v = .int .i64 ((S id).length : Int) ∧ h' = h := by
  obtain ⟨av, cv, ev', _⟩ := (x.spots id).form
  refine gtri Try.func20 rfl gf20 ok20 (by simp [Try.ntmps20]) ?_
  refine mk_of ?_; repeat' (first | (with_reducible first | refine gw_seq ?_ | refine gw_block ?_) | ((first | (with_reducible refine mk_to ?_) | (with_reducible first | refine gw_region ?_ | refine gw_if ?_ | refine gw_skip ?_ | refine gw_exit ?_ | refine gw_ret ?_) | ((with_reducible first | refine gif_b (fun hb => ?_) (fun hb => ?_) | refine want_t (fun hb => ?_) (fun hb => ?_) | refine want_f (fun hb => ?_) (fun hb => ?_)) <;> (try simp only [hb]) <;> (try simp only [hpr] at hb))) <;> try simp only [List.map, gop, ev, lk, aenv, gyield, gBin, gInt, gStrOp, gUn, gPick, gNil, gExtract, gIfc, gConvK, gIndexO, gIndexVO, gMakeV, gMinV, gMaxV, isInt, gMin, gMax, gBlt, gLenX, gCallV, gInvoke, gNilM, Array.toList_map, vcells, gField, gIndexV, gPart, reduceIte, Nat.reduceAdd, Nat.reduceSub, Nat.reduceMul, Nat.reduceLT, Nat.reduceLeDiff, Nat.reduceEqDiff, Nat.reduceBEq, Int.reduceLT, Int.reduceLE, Int.reduceGT, Int.reduceGE, Int.reduceEq, Int.reduceNe, Int.reduceAdd, Int.reduceSub, Int.reduceMul, Int.reduceNeg, Int.reduceToNat, Int.reduceBEq, Int.reduceBNe, Int.cast_ofNat_Int, List.getElem?_toArray, stp, Try.underlying104, Try.underlying107, Try.underlying24, Try.underlying27, Try.underlying44, Try.underlying5, ty104, ty24, ty107, ty44, ty27, ty5, rs20]))
  refine (c_vof N x r).mono ?_
  rintro _ h1 ⟨rfl, rfl⟩
  rw [ev']
  refine mk_of ?_; repeat' (first | (with_reducible first | refine gw_seq ?_ | refine gw_block ?_) | ((first | (with_reducible refine mk_to ?_) | (with_reducible first | refine gw_region ?_ | refine gw_if ?_ | refine gw_skip ?_ | refine gw_exit ?_ | refine gw_ret ?_) | ((with_reducible first | refine gif_b (fun hb => ?_) (fun hb => ?_) | refine want_t (fun hb => ?_) (fun hb => ?_) | refine want_f (fun hb => ?_) (fun hb => ?_)) <;> (try simp only [hb]) <;> (try simp only [hpr] at hb))) <;> try simp only [List.map, gop, ev, lk, aenv, gyield, gBin, gInt, gStrOp, gUn, gPick, gNil, gExtract, gIfc, gConvK, gIndexO, gIndexVO, gMakeV, gMinV, gMaxV, isInt, gMin, gMax, gBlt, gLenX, gCallV, gInvoke, gNilM, Array.toList_map, vcells, gField, gIndexV, gPart, reduceIte, Nat.reduceAdd, Nat.reduceSub, Nat.reduceMul, Nat.reduceLT, Nat.reduceLeDiff, Nat.reduceEqDiff, Nat.reduceBEq, Int.reduceLT, Int.reduceLE, Int.reduceGT, Int.reduceGE, Int.reduceEq, Int.reduceNe, Int.reduceAdd, Int.reduceSub, Int.reduceMul, Int.reduceNeg, Int.reduceToNat, Int.reduceBEq, Int.reduceBNe, Int.cast_ofNat_Int, List.getElem?_toArray, stp, Try.underlying104, Try.underlying107, Try.underlying24, Try.underlying27, Try.underlying44, Try.underlying5, ty104, ty24, ty107, ty44, ty27, ty5, rs20]))
end Go.Gh

/- Versions: an identity's changes are all. -/

namespace Go.Gh
open Go Go.Proofs Go.RowKit
set_option linter.unusedVariables false
set_option linter.unusedSimpArgs false
set_option maxRecDepth 100000
set_option maxHeartbeats 4000000

theorem kid_inj {l : List Value} (nd : (mkeys l).Nodup) {p q : Nat} (hp : p < (mkeys l).length) (hq : q < (mkeys l).length) (e : kid l p = kid l q) : p = q := by
  unfold kid at e
  rw [List.getElem?_eq_getElem hp, List.getElem?_eq_getElem hq] at e
  simp only [Option.getD_some] at e
  have e2 : (mkeys l)[p] = (mkeys l)[q] := by
    have h1 := bstr_of (mkeys l)[p]
    have h2 := bstr_of (mkeys l)[q]
    rw [← h1, ← h2, e]
  have pw := List.pairwise_iff_getElem.1 nd
  rcases Nat.lt_trichotomy p q with h | h | h
  · exact absurd e2 (pw p q hp hq h)
  · exact h
  · exact absurd e2.symm (pw q p hq hp h)
theorem chgd_nd {l : List Value} (nd : (mkeys l).Nodup) (S : List UInt8 → List (Nat × Nat)) (f t : Int) : ∀ (is : List Nat), is.Nodup → (∀ q ∈ is, q < (mkeys l).length) → ((chgd l S f t is).map (·.1)).Nodup
  | [], _, _ => by simp [chgd]
  | q :: is, n, h => by
    have ih := chgd_nd nd S f t is (List.nodup_cons.1 n).2 fun z hz => h z (List.mem_cons_of_mem _ hz)
    have e : chgd l S f t (q :: is) = (match fstC (S (kid l q)) f t with | some p => [(kid l q, p)] | none => []) ++ chgd l S f t is := by
      unfold chgd
      rw [List.filterMap_cons]
      cases fstC (S (kid l q)) f t <;> rfl
    rw [e]
    cases fstC (S (kid l q)) f t with
    | none => exact ih
    | some p =>
      simp only [List.cons_append, List.nil_append, List.map_cons, List.nodup_cons]
      refine ⟨fun hm => ?_, ih⟩
      obtain ⟨z, hz, ez⟩ := List.mem_map.1 hm
      unfold chgd at hz
      obtain ⟨q', hq', e'⟩ := List.mem_filterMap.1 hz
      obtain ⟨p', _, rfl⟩ := Option.map_eq_some_iff.1 e'
      simp only at ez
      have := kid_inj nd (h q' (List.mem_cons_of_mem _ hq')) (h q List.mem_cons_self) ez
      subst this
      exact (List.nodup_cons.1 n).1 hq'
theorem get_lt {α : Type} {l : List α} {i : Nat} (h : i < l.length) : ∃ y, l[i]? = some y := ⟨_, List.getElem?_eq_getElem h⟩
end Go.Gh

/- Versions: the document's own index. -/

namespace Go.Gh
open Go Go.Proofs Go.RowKit
set_option linter.unusedVariables false
set_option linter.unusedSimpArgs false
set_option maxRecDepth 100000
set_option maxHeartbeats 4000000

/-- The document's index in memory: the epochs' batches. -/
structure RX (h0 h : GH) (k : Nat) (bv : Value) (cs : List Value) (B : List (List Bnd)) : Prop where
  obj : h k = some ⟨[bv], 0, true, false⟩
  nk : h0 k = none
  bat : OWNC 1 h0 h bv B.length cs
  bats : ∀ (e : Nat) b, B[e]? = some b → ∃ v, cs[e]? = some v ∧ Bat h0 h v b
  cu8 : cs.all notU8 = true
  bl : ∀ b ∈ B, b.length ≤ 10 ∧ ∀ p ∈ b, p.1.length ≤ 140737488355328 ∧ p.2.length ≤ 140737488355328
theorem RX.hs {h0 h h' : GH} {k : Nat} {bv : Value} {cs : List Value} {B : List (List Bnd)} (x : RX h0 h k bv cs B) (s : HS h h') : RX h0 h' k bv cs B :=
  ⟨s _ _ x.obj, x.nk, x.bat.hs s, fun e b hb => by obtain ⟨v, h1, h2⟩ := x.bats e b hb; exact ⟨v, h1, h2.hs s⟩, x.cu8, x.bl⟩
/-- The identities of a batch are unlike. -/
def dis (b : List Bnd) : Prop := (b.map (·.1)).Nodup
instance (b : List Bnd) : Decidable (dis b) := by unfold dis; infer_instance
def refErr (b : List Bnd) : Int := if b = [] then 82 else if dis b then 0 else 80
/-- All stays but a variable and arrays of slices. -/
def FR (k : Nat) (h h' : GH) : Prop := (∀ i B, h i = some B → i ≠ k → B.es ≠ 1 → h' i = some B) ∧ ∀ v l, RB h v l → RB h' v l
theorem FR.of {k : Nat} {h h' : GH} (s : HS h h') : FR k h h' := ⟨fun i B e _ _ => s i B e, fun v l r => r.hs s⟩
def RAddR (h0 : GH) (k : Nat) (bv : Value) (cs : List Value) (B : List (List Bnd)) (b : List Bnd) (h' : GH) : Prop :=
  (refErr b ≠ 0 ∧ RX h0 h' k bv cs B) ∨ (refErr b = 0 ∧ ∃ bv' cs', RX h0 h' k bv' cs' (B ++ [b]))
theorem dis_take {b : List Bnd} {i j : Nat} {p q : Bnd} (hij : j < i) (hp : b[i]? = some p) (hq : b[j]? = some q) (e : p.1 = q.1) : ¬ dis b := fun n => by
  have h1 := List.getElem?_eq_some_iff.1 hp
  have h2 := List.getElem?_eq_some_iff.1 hq
  have := List.pairwise_iff_getElem.1 n j i (by simpa using h2.1) (by simpa using h1.1) hij
  apply this
  simp only [List.getElem_map, h1.2, h2.2, e]
theorem dis_of {b : List Bnd} (h : ∀ (i j : Nat) (p q : Bnd), j < i → b[i]? = some p → b[j]? = some q → p.1 ≠ q.1) : dis b := by
  unfold dis
  rw [List.Nodup, List.pairwise_iff_getElem]
  intro i j hi hj hij
  simp only [List.getElem_map]
  exact (h j i _ _ hij (List.getElem?_eq_getElem (by simpa using hj)) (List.getElem?_eq_getElem (by simpa using hi))).symm

theorem c_rAdd (N : Nat) {h0 h : GH} {k : Nat} {bv : Value} {cs : List Value} {B : List (List Bnd)} (s0 : HS h0 h) (x : RX h0 h k bv cs B) (hB : B.length ≤ 90) {a : Option Addr} {c : Nat} {b : List Bnd} (rl : RL 2 Bd h (.slice a b.length c) b) (hb : b.length ≤ 10)
    (hbl : ∀ p ∈ b, p.1.length ≤ 140737488355328 ∧ p.2.length ≤ 140737488355328) :
    GTri Try.prog N 22 [.pointer (some ⟨k, 0, none⟩), .slice a b.length c] h fun v h' => v = .int .i64 (refErr b) ∧ HS h0 h' ∧ FR k h h' ∧ RAddR h0 k bv cs B b h' := by
  refine gtri Try.func22 rfl gf22 ok22 (by simp [Try.ntmps22]) ?_
  by_cases hbe : b = []
  · subst hbe
    have d0 : ((0 : Int) == 0) = true := rfl
    refine mk_of ?_; repeat' (first | (with_reducible first | refine gw_seq ?_ | refine gw_block ?_) | ((first | (with_reducible refine mk_to ?_) | (with_reducible first | refine gw_region ?_ | refine gw_if ?_ | refine gw_skip ?_ | refine gw_exit ?_ | refine gw_ret ?_) | ((with_reducible first | refine gif_b (fun hb => ?_) (fun hb => ?_) | refine want_t (fun hb => ?_) (fun hb => ?_) | refine want_f (fun hb => ?_) (fun hb => ?_) | refine dr_t (fun hb => ?_) (fun hb => ?_) | refine dr_f (fun hb => ?_) (fun hb => ?_)) <;> (try simp only [hb]) <;> (try simp only [hpr] at hb)) | with_reducible refine gw_draw (id := 13) [(0, []), (1, []), (2, []), (3, []), (5, []), (6, []), (7, []), (4, [7]), (8, []), (9, []), (10, []), (11, []), (12, [])] [0, 0, 0, 4, 14, 0, 0, 64, 254, 510, 1022, 2047, 4095] mixed (by kernel_rfl) ?_) <;> try simp only [List.map, gop, ev, lk, aenv, gyield, gBin, gInt, gStrOp, gUn, gPick, gNil, gExtract, gIfc, gConvK, gIndexO, gIndexVO, gMakeV, gMinV, gMaxV, isInt, gMin, gMax, gBlt, gLenX, gCallV, gInvoke, gNilM, Array.toList_map, vcells, gField, gIndexV, gPart, reduceIte, Nat.reduceAdd, Nat.reduceSub, Nat.reduceMul, Nat.reduceLT, Nat.reduceLeDiff, Nat.reduceEqDiff, Nat.reduceBEq, Int.reduceLT, Int.reduceLE, Int.reduceGT, Int.reduceGE, Int.reduceEq, Int.reduceNe, Int.reduceAdd, Int.reduceSub, Int.reduceMul, Int.reduceNeg, Int.reduceToNat, Int.reduceBEq, Int.reduceBNe, Int.cast_ofNat_Int, List.getElem?_toArray, stp, rvOf, rvLen, wput, wlk, rdv, isEff, dsOf, sgl, stq, Try.underlying22, Try.underlying23, Try.underlying24, Try.underlying3, Try.underlying5, Try.underlying53, Try.underlying9, Try.underlying99, ty22, ty23, ty24, ty53, ty99, ty3, ty5, ty9, rs22, List.length_nil, Int.cast_ofNat_Int, d0]))
    exact ⟨rfl, s0, FR.of (HS.refl h), .inl ⟨by simp [refErr], x⟩⟩
  have hb0 : b.length ≠ 0 := fun e => hbe (List.eq_nil_of_length_eq_zero e)
  have d0 : ((b.length : Int) == 0) = false := by simpa using hb0
  refine mk_of ?_; repeat' (first | (with_reducible first | refine gw_seq ?_ | refine gw_block ?_) | ((first | (with_reducible refine mk_to ?_) | (with_reducible first | refine gw_region ?_ | refine gw_if ?_ | refine gw_skip ?_ | refine gw_exit ?_ | refine gw_ret ?_) | ((with_reducible first | refine gif_b (fun hb => ?_) (fun hb => ?_) | refine want_t (fun hb => ?_) (fun hb => ?_) | refine want_f (fun hb => ?_) (fun hb => ?_) | refine dr_t (fun hb => ?_) (fun hb => ?_) | refine dr_f (fun hb => ?_) (fun hb => ?_)) <;> (try simp only [hb]) <;> (try simp only [hpr] at hb)) | with_reducible refine gw_draw (id := 13) [(0, []), (1, []), (2, []), (3, []), (5, []), (6, []), (7, []), (4, [7]), (8, []), (9, []), (10, []), (11, []), (12, [])] [0, 0, 0, 4, 14, 0, 0, 64, 254, 510, 1022, 2047, 4095] mixed (by kernel_rfl) ?_) <;> try simp only [List.map, gop, ev, lk, aenv, gyield, gBin, gInt, gStrOp, gUn, gPick, gNil, gExtract, gIfc, gConvK, gIndexO, gIndexVO, gMakeV, gMinV, gMaxV, isInt, gMin, gMax, gBlt, gLenX, gCallV, gInvoke, gNilM, Array.toList_map, vcells, gField, gIndexV, gPart, reduceIte, Nat.reduceAdd, Nat.reduceSub, Nat.reduceMul, Nat.reduceLT, Nat.reduceLeDiff, Nat.reduceEqDiff, Nat.reduceBEq, Int.reduceLT, Int.reduceLE, Int.reduceGT, Int.reduceGE, Int.reduceEq, Int.reduceNe, Int.reduceAdd, Int.reduceSub, Int.reduceMul, Int.reduceNeg, Int.reduceToNat, Int.reduceBEq, Int.reduceBNe, Int.cast_ofNat_Int, List.getElem?_toArray, stp, rvOf, rvLen, wput, wlk, rdv, isEff, dsOf, sgl, stq, Try.underlying22, Try.underlying23, Try.underlying24, Try.underlying3, Try.underlying5, Try.underlying53, Try.underlying9, Try.underlying99, ty22, ty23, ty24, ty53, ty99, ty3, ty5, ty9, rs22, d0]))
  refine gw_loop2 [0, 1, 13, 14] (fun (y : Nat × (Option Addr × Nat × Nat)) => [(5, .slice y.2.1 y.2.2.1 y.2.2.2), (15, .int .i64 (y.1 : Int))])
    (fun q y h' => b.length - y.1 = q ∧ y.1 ≤ b.length ∧ HS h h' ∧ (∀ (i j : Nat) (p q : Bnd), j < i → i < y.1 → b[i]? = some p → b[j]? = some q → p.1 ≠ q.1) ∧ ∃ ds, OWNC 2 h h' (.slice y.2.1 y.2.2.1 y.2.2.2) y.1 ds ∧ ds.all notU8 = true ∧ ∀ (q : Nat) p, (b.take y.1)[q]? = some p → Bd h' ((ds.drop (q * 2)).take 2) p) b.length (0, (none, 0, 0)) (by simp [lk])
    ⟨rfl, by simp, HS.refl h, fun i j p q _ h => by omega, [], OWNC.nil _ _ _, rfl, fun q p hp => by simp at hp⟩ ?_
  rintro _ ⟨i, a3, n3, c3⟩ h3 ⟨rfl, hi, s3, ds3, ds, o3, u3, r3⟩
  simp only at hi o3 ds3 r3
  have hd := o3.len
  have n3i : n3 = i := by
    obtain ⟨_, _, q⟩ := o3.form
    cases q; rfl
  subst n3i
  by_cases hib : n3 < b.length
  case neg =>
    obtain rfl : n3 = b.length := by omega
    have d3 : decide ((b.length : Int) < (b.length : Int)) = false := decide_eq_false (by omega)
    have hdis : dis b := dis_of fun i j p q hij hp hq => ds3 i j p q hij (List.getElem?_eq_some_iff.1 hp).1 hp hq
    have x3 := x.hs s3
    refine mk_of ?_; repeat' (first | (with_reducible first | refine gw_seq ?_ | refine gw_block ?_) | ((first | (with_reducible refine mk_to ?_) | (with_reducible first | refine gw_region ?_ | refine gw_if ?_ | refine gw_skip ?_ | refine gw_exit ?_ | refine gw_ret ?_) | ((with_reducible first | refine gif_b (fun hb => ?_) (fun hb => ?_) | refine want_t (fun hb => ?_) (fun hb => ?_) | refine want_f (fun hb => ?_) (fun hb => ?_) | refine dr_t (fun hb => ?_) (fun hb => ?_) | refine dr_f (fun hb => ?_) (fun hb => ?_)) <;> (try simp only [hb]) <;> (try simp only [hpr] at hb)) | with_reducible refine gw_draw (id := 13) [(0, []), (1, []), (2, []), (3, []), (5, []), (6, []), (7, []), (4, [7]), (8, []), (9, []), (10, []), (11, []), (12, [])] [0, 0, 0, 4, 14, 0, 0, 64, 254, 510, 1022, 2047, 4095] mixed (by kernel_rfl) ?_) <;> try simp only [List.map, gop, ev, lk, aenv, gyield, gBin, gInt, gStrOp, gUn, gPick, gNil, gExtract, gIfc, gConvK, gIndexO, gIndexVO, gMakeV, gMinV, gMaxV, isInt, gMin, gMax, gBlt, gLenX, gCallV, gInvoke, gNilM, Array.toList_map, vcells, gField, gIndexV, gPart, reduceIte, Nat.reduceAdd, Nat.reduceSub, Nat.reduceMul, Nat.reduceLT, Nat.reduceLeDiff, Nat.reduceEqDiff, Nat.reduceBEq, Int.reduceLT, Int.reduceLE, Int.reduceGT, Int.reduceGE, Int.reduceEq, Int.reduceNe, Int.reduceAdd, Int.reduceSub, Int.reduceMul, Int.reduceNeg, Int.reduceToNat, Int.reduceBEq, Int.reduceBNe, Int.cast_ofNat_Int, List.getElem?_toArray, stp, rvOf, rvLen, wput, wlk, rdv, isEff, dsOf, sgl, stq, Try.underlying22, Try.underlying23, Try.underlying24, Try.underlying3, Try.underlying5, Try.underlying53, Try.underlying9, Try.underlying99, ty22, ty23, ty24, ty53, ty99, ty3, ty5, ty9, rs22, d3, gNil, gload1 x3.obj sz22, List.getElem?_cons_zero, List.getElem?_cons_succ]))
    refine bsn1_g el22 rfl rfl (by decide) (by decide) rfl fun k7 h7 b7 s7 f7 n7 => ?_
    have x7 := x3.hs s7
    have o7 := o3.hs s7
    obtain ⟨a5, c5, e5⟩ := x7.bat.form
    subst e5
    refine mk_of ?_; repeat' (first | (with_reducible first | refine gw_seq ?_ | refine gw_block ?_) | ((first | (with_reducible refine mk_to ?_) | (with_reducible first | refine gw_region ?_ | refine gw_if ?_ | refine gw_skip ?_ | refine gw_exit ?_ | refine gw_ret ?_) | ((with_reducible first | refine gif_b (fun hb => ?_) (fun hb => ?_) | refine want_t (fun hb => ?_) (fun hb => ?_) | refine want_f (fun hb => ?_) (fun hb => ?_) | refine dr_t (fun hb => ?_) (fun hb => ?_) | refine dr_f (fun hb => ?_) (fun hb => ?_)) <;> (try simp only [hb]) <;> (try simp only [hpr] at hb)) | with_reducible refine gw_draw (id := 13) [(0, []), (1, []), (2, []), (3, []), (5, []), (6, []), (7, []), (4, [7]), (8, []), (9, []), (10, []), (11, []), (12, [])] [0, 0, 0, 4, 14, 0, 0, 64, 254, 510, 1022, 2047, 4095] mixed (by kernel_rfl) ?_) <;> try simp only [List.map, gop, ev, lk, aenv, gyield, gBin, gInt, gStrOp, gUn, gPick, gNil, gExtract, gIfc, gConvK, gIndexO, gIndexVO, gMakeV, gMinV, gMaxV, isInt, gMin, gMax, gBlt, gLenX, gCallV, gInvoke, gNilM, Array.toList_map, vcells, gField, gIndexV, gPart, reduceIte, Nat.reduceAdd, Nat.reduceSub, Nat.reduceMul, Nat.reduceLT, Nat.reduceLeDiff, Nat.reduceEqDiff, Nat.reduceBEq, Int.reduceLT, Int.reduceLE, Int.reduceGT, Int.reduceGE, Int.reduceEq, Int.reduceNe, Int.reduceAdd, Int.reduceSub, Int.reduceMul, Int.reduceNeg, Int.reduceToNat, Int.reduceBEq, Int.reduceBNe, Int.cast_ofNat_Int, List.getElem?_toArray, stp, rvOf, rvLen, wput, wlk, rdv, isEff, dsOf, sgl, stq, Try.underlying22, Try.underlying23, Try.underlying24, Try.underlying3, Try.underlying5, Try.underlying53, Try.underlying9, Try.underlying99, ty22, ty23, ty24, ty53, ty99, ty3, ty5, ty9, rs22]))
    refine append_ownc el22 Try.underlying22 rfl ((s0.trans s3).trans s7) x7.bat b7 rfl rfl (by omega) (by simp only [maxLen]; omega) fun v8 h8 s8 fr8 o8 => ?_
    obtain ⟨a8, c8, rfl⟩ := o8.form
    have ho8 := fr_es fr8 x7.obj (by simp)
    refine mk_of ?_; repeat' (first | (with_reducible first | refine gw_seq ?_ | refine gw_block ?_) | ((first | (with_reducible refine mk_to ?_) | (with_reducible first | refine gw_region ?_ | refine gw_if ?_ | refine gw_skip ?_ | refine gw_exit ?_ | refine gw_ret ?_) | ((with_reducible first | refine gif_b (fun hb => ?_) (fun hb => ?_) | refine want_t (fun hb => ?_) (fun hb => ?_) | refine want_f (fun hb => ?_) (fun hb => ?_) | refine dr_t (fun hb => ?_) (fun hb => ?_) | refine dr_f (fun hb => ?_) (fun hb => ?_)) <;> (try simp only [hb]) <;> (try simp only [hpr] at hb)) | with_reducible refine gw_draw (id := 13) [(0, []), (1, []), (2, []), (3, []), (5, []), (6, []), (7, []), (4, [7]), (8, []), (9, []), (10, []), (11, []), (12, [])] [0, 0, 0, 4, 14, 0, 0, 64, 254, 510, 1022, 2047, 4095] mixed (by kernel_rfl) ?_) <;> try simp only [List.map, gop, ev, lk, aenv, gyield, gBin, gInt, gStrOp, gUn, gPick, gNil, gExtract, gIfc, gConvK, gIndexO, gIndexVO, gMakeV, gMinV, gMaxV, isInt, gMin, gMax, gBlt, gLenX, gCallV, gInvoke, gNilM, Array.toList_map, vcells, gField, gIndexV, gPart, reduceIte, Nat.reduceAdd, Nat.reduceSub, Nat.reduceMul, Nat.reduceLT, Nat.reduceLeDiff, Nat.reduceEqDiff, Nat.reduceBEq, Int.reduceLT, Int.reduceLE, Int.reduceGT, Int.reduceGE, Int.reduceEq, Int.reduceNe, Int.reduceAdd, Int.reduceSub, Int.reduceMul, Int.reduceNeg, Int.reduceToNat, Int.reduceBEq, Int.reduceBNe, Int.cast_ofNat_Int, List.getElem?_toArray, stp, rvOf, rvLen, wput, wlk, rdv, isEff, dsOf, sgl, stq, Try.underlying22, Try.underlying23, Try.underlying24, Try.underlying3, Try.underlying5, Try.underlying53, Try.underlying9, Try.underlying99, ty22, ty23, ty24, ty53, ty99, ty3, ty5, ty9, rs22, gNil]))
    refine st_one ho8 sz22 rfl (by simp) rfl rfl fun h9 m9 f9 => ?_
    simp only [List.set_cons_zero] at m9
    have hx9 : HX k h8 h9 := fun i B n e => (f9 i n).trans e
    have u8 : (⟨[.slice a5 B.length c5], 0, true, false⟩ : GB).cells.all notU8 = true := rfl
    refine mk_of ?_; repeat' (first | (with_reducible first | refine gw_seq ?_ | refine gw_block ?_) | ((first | (with_reducible refine mk_to ?_) | (with_reducible first | refine gw_region ?_ | refine gw_if ?_ | refine gw_skip ?_ | refine gw_exit ?_ | refine gw_ret ?_) | ((with_reducible first | refine gif_b (fun hb => ?_) (fun hb => ?_) | refine want_t (fun hb => ?_) (fun hb => ?_) | refine want_f (fun hb => ?_) (fun hb => ?_) | refine dr_t (fun hb => ?_) (fun hb => ?_) | refine dr_f (fun hb => ?_) (fun hb => ?_)) <;> (try simp only [hb]) <;> (try simp only [hpr] at hb)) | with_reducible refine gw_draw (id := 13) [(0, []), (1, []), (2, []), (3, []), (5, []), (6, []), (7, []), (4, [7]), (8, []), (9, []), (10, []), (11, []), (12, [])] [0, 0, 0, 4, 14, 0, 0, 64, 254, 510, 1022, 2047, 4095] mixed (by kernel_rfl) ?_) <;> try simp only [List.map, gop, ev, lk, aenv, gyield, gBin, gInt, gStrOp, gUn, gPick, gNil, gExtract, gIfc, gConvK, gIndexO, gIndexVO, gMakeV, gMinV, gMaxV, isInt, gMin, gMax, gBlt, gLenX, gCallV, gInvoke, gNilM, Array.toList_map, vcells, gField, gIndexV, gPart, reduceIte, Nat.reduceAdd, Nat.reduceSub, Nat.reduceMul, Nat.reduceLT, Nat.reduceLeDiff, Nat.reduceEqDiff, Nat.reduceBEq, Int.reduceLT, Int.reduceLE, Int.reduceGT, Int.reduceGE, Int.reduceEq, Int.reduceNe, Int.reduceAdd, Int.reduceSub, Int.reduceMul, Int.reduceNeg, Int.reduceToNat, Int.reduceBEq, Int.reduceBNe, Int.cast_ofNat_Int, List.getElem?_toArray, stp, rvOf, rvLen, wput, wlk, rdv, isEff, dsOf, sgl, stq, Try.underlying22, Try.underlying23, Try.underlying24, Try.underlying3, Try.underlying5, Try.underlying53, Try.underlying9, Try.underlying99, ty22, ty23, ty24, ty53, ty99, ty3, ty5, ty9, rs22]))
    have ho' : ∀ v n cs, OWNC 2 h0 h7 v n cs → OWNC 2 h0 h9 v n cs := fun v n cs o => (o.fr1 fr8).hx ho8 (by simp) hx9
    have hr' : ∀ v l, RB h7 v l → RB h9 v l := fun v l r => (fr_rb fr8 x.cu8 r).hx ho8 u8 hx9
    have hs9 : HS h0 h9 := s8.upd x.nk f9
    have s37 := s3.trans s7
    have fk : FR k h h9 := ⟨fun i B e n1 n3 => by rw [f9 i n1]; exact fr_es fr8 (s37 _ _ e) n3, fun v l r => hr' v l (r.hs s37)⟩
    have hcl : cs.length = B.length := by have := x.bat.len; omega
    have er : refErr b = 0 := by unfold refErr; rw [if_neg hbe, if_pos hdis]
    refine ⟨by rw [er], hs9, fk, .inr ⟨er, _, cs ++ vcells (.slice a3 b.length c3), m9, x.nk, ?_, ?_, ?_, ?_⟩⟩
    · rw [List.length_append]; exact o8.hx ho8 (by simp) hx9
    · intro e b' hb'
      rcases Nat.lt_or_ge e B.length with hlt | hge
      · rw [List.getElem?_append_left hlt] at hb'
        obtain ⟨v, z1, z2⟩ := x7.bats e b' hb'
        exact ⟨v, by rw [List.getElem?_append_left (by omega)]; exact z1, z2.by ho' hr'⟩
      · rw [List.getElem?_append_right hge] at hb'
        have he : e = B.length := by
          have := (List.getElem?_eq_some_iff.1 hb').1
          simp at this; omega
        subst he
        simp at hb'
        subst hb'
        refine ⟨.slice a3 b.length c3, by rw [List.getElem?_append_right (by omega), hcl]; simp [vcells], ?_⟩
        rw [List.take_length] at r3
        exact Bat.by ⟨ds, o7.weak s0, fun q p hp => (r3 q p hp).hs s7⟩ ho' hr'
    · rw [List.all_append, x.cu8]; rfl
    · intro b' hb'
      rcases List.mem_append.1 hb' with hb' | hb'
      · exact x.bl b' hb'
      · obtain rfl := List.mem_singleton.1 hb'
        exact ⟨hb, hbl⟩
  have d3 : decide ((n3 : Int) < (b.length : Int)) = true := decide_eq_true (by omega)
  have wi : IntKind.i64.wrap ((n3 : Int) + 1) = ((n3 + 1 : Nat) : Int) := by rw [wrap64 (by omega) (by omega)]; omega
  obtain ⟨p, hp⟩ := get_lt hib
  have rl3 := rl.bs s3
  obtain ⟨ad, cs2, g1, g2, a', n', c', b', m', d', rfl, q1, q2⟩ := rl3.at (P := Try.prog) Try.underlying23 sz99 hp
  have l1 : gLoad Try.prog 99 h3 (.pointer (some ad)) = some (.agg #[.slice a' n' c', .slice b' m' d']) := by simp only [gLoad, sz99, g2]; rfl
  have hpl := hbl p (List.mem_of_getElem? hp)
  refine mk_of ?_; repeat' (first | (with_reducible first | refine gw_seq ?_ | refine gw_block ?_) | ((first | (with_reducible refine mk_to ?_) | (with_reducible first | refine gw_region ?_ | refine gw_if ?_ | refine gw_skip ?_ | refine gw_exit ?_ | refine gw_ret ?_) | ((with_reducible first | refine gif_b (fun hb => ?_) (fun hb => ?_) | refine want_t (fun hb => ?_) (fun hb => ?_) | refine want_f (fun hb => ?_) (fun hb => ?_) | refine dr_t (fun hb => ?_) (fun hb => ?_) | refine dr_f (fun hb => ?_) (fun hb => ?_)) <;> (try simp only [hb]) <;> (try simp only [hpr] at hb)) | with_reducible refine gw_draw (id := 13) [(0, []), (1, []), (2, []), (3, []), (5, []), (6, []), (7, []), (4, [7]), (8, []), (9, []), (10, []), (11, []), (12, [])] [0, 0, 0, 4, 14, 0, 0, 64, 254, 510, 1022, 2047, 4095] mixed (by kernel_rfl) ?_) <;> try simp only [List.map, gop, ev, lk, aenv, gyield, gBin, gInt, gStrOp, gUn, gPick, gNil, gExtract, gIfc, gConvK, gIndexO, gIndexVO, gMakeV, gMinV, gMaxV, isInt, gMin, gMax, gBlt, gLenX, gCallV, gInvoke, gNilM, Array.toList_map, vcells, gField, gIndexV, gPart, reduceIte, Nat.reduceAdd, Nat.reduceSub, Nat.reduceMul, Nat.reduceLT, Nat.reduceLeDiff, Nat.reduceEqDiff, Nat.reduceBEq, Int.reduceLT, Int.reduceLE, Int.reduceGT, Int.reduceGE, Int.reduceEq, Int.reduceNe, Int.reduceAdd, Int.reduceSub, Int.reduceMul, Int.reduceNeg, Int.reduceToNat, Int.reduceBEq, Int.reduceBNe, Int.cast_ofNat_Int, List.getElem?_toArray, stp, rvOf, rvLen, wput, wlk, rdv, isEff, dsOf, sgl, stq, Try.underlying22, Try.underlying23, Try.underlying24, Try.underlying3, Try.underlying5, Try.underlying53, Try.underlying9, Try.underlying99, ty22, ty23, ty24, ty53, ty99, ty3, ty5, ty9, rs22, d3, g1, l1]))
  refine new_g fun k7 h7 m7 s7 f7 n7 => ?_
  refine mk_of ?_; repeat' (first | (with_reducible first | refine gw_seq ?_ | refine gw_block ?_) | ((first | (with_reducible refine mk_to ?_) | (with_reducible first | refine gw_region ?_ | refine gw_if ?_ | refine gw_skip ?_ | refine gw_exit ?_ | refine gw_ret ?_) | ((with_reducible first | refine gif_b (fun hb => ?_) (fun hb => ?_) | refine want_t (fun hb => ?_) (fun hb => ?_) | refine want_f (fun hb => ?_) (fun hb => ?_) | refine dr_t (fun hb => ?_) (fun hb => ?_) | refine dr_f (fun hb => ?_) (fun hb => ?_)) <;> (try simp only [hb]) <;> (try simp only [hpr] at hb)) | with_reducible refine gw_draw (id := 13) [(0, []), (1, []), (2, []), (3, []), (5, []), (6, []), (7, []), (4, [7]), (8, []), (9, []), (10, []), (11, []), (12, [])] [0, 0, 0, 4, 14, 0, 0, 64, 254, 510, 1022, 2047, 4095] mixed (by kernel_rfl) ?_) <;> try simp only [List.map, gop, ev, lk, aenv, gyield, gBin, gInt, gStrOp, gUn, gPick, gNil, gExtract, gIfc, gConvK, gIndexO, gIndexVO, gMakeV, gMinV, gMaxV, isInt, gMin, gMax, gBlt, gLenX, gCallV, gInvoke, gNilM, Array.toList_map, vcells, gField, gIndexV, gPart, reduceIte, Nat.reduceAdd, Nat.reduceSub, Nat.reduceMul, Nat.reduceLT, Nat.reduceLeDiff, Nat.reduceEqDiff, Nat.reduceBEq, Int.reduceLT, Int.reduceLE, Int.reduceGT, Int.reduceGE, Int.reduceEq, Int.reduceNe, Int.reduceAdd, Int.reduceSub, Int.reduceMul, Int.reduceNeg, Int.reduceToNat, Int.reduceBEq, Int.reduceBNe, Int.cast_ofNat_Int, List.getElem?_toArray, stp, rvOf, rvLen, wput, wlk, rdv, isEff, dsOf, sgl, stq, Try.underlying22, Try.underlying23, Try.underlying24, Try.underlying3, Try.underlying5, Try.underlying53, Try.underlying9, Try.underlying99, ty22, ty23, ty24, ty53, ty99, ty3, ty5, ty9, rs22]))
  refine st_all m7 sz99 rfl (by decide) rfl rfl rfl fun h8 m8 f8 => ?_
  have s8 : HS h3 h8 := (HS.refl h3).upd n7 (fun j hj => (f8 j hj).trans (f7 j hj))
  have rl8 := rl3.bs s8
  obtain ⟨a4, c4, e4, r4⟩ := rl8.cut Try.underlying23 sz99 (Nat.le_of_lt hib)
  have hlt : (b.take n3).length = n3 := by rw [List.length_take]; omega
  refine mk_of ?_; repeat' (first | (with_reducible first | refine gw_seq ?_ | refine gw_block ?_) | ((first | (with_reducible refine mk_to ?_) | (with_reducible first | refine gw_region ?_ | refine gw_if ?_ | refine gw_skip ?_ | refine gw_exit ?_ | refine gw_ret ?_) | ((with_reducible first | refine gif_b (fun hb => ?_) (fun hb => ?_) | refine want_t (fun hb => ?_) (fun hb => ?_) | refine want_f (fun hb => ?_) (fun hb => ?_) | refine dr_t (fun hb => ?_) (fun hb => ?_) | refine dr_f (fun hb => ?_) (fun hb => ?_)) <;> (try simp only [hb]) <;> (try simp only [hpr] at hb)) | with_reducible refine gw_draw (id := 13) [(0, []), (1, []), (2, []), (3, []), (5, []), (6, []), (7, []), (4, [7]), (8, []), (9, []), (10, []), (11, []), (12, [])] [0, 0, 0, 4, 14, 0, 0, 64, 254, 510, 1022, 2047, 4095] mixed (by kernel_rfl) ?_) <;> try simp only [List.map, gop, ev, lk, aenv, gyield, gBin, gInt, gStrOp, gUn, gPick, gNil, gExtract, gIfc, gConvK, gIndexO, gIndexVO, gMakeV, gMinV, gMaxV, isInt, gMin, gMax, gBlt, gLenX, gCallV, gInvoke, gNilM, Array.toList_map, vcells, gField, gIndexV, gPart, reduceIte, Nat.reduceAdd, Nat.reduceSub, Nat.reduceMul, Nat.reduceLT, Nat.reduceLeDiff, Nat.reduceEqDiff, Nat.reduceBEq, Int.reduceLT, Int.reduceLE, Int.reduceGT, Int.reduceGE, Int.reduceEq, Int.reduceNe, Int.reduceAdd, Int.reduceSub, Int.reduceMul, Int.reduceNeg, Int.reduceToNat, Int.reduceBEq, Int.reduceBNe, Int.cast_ofNat_Int, List.getElem?_toArray, stp, rvOf, rvLen, wput, wlk, rdv, isEff, dsOf, sgl, stq, Try.underlying22, Try.underlying23, Try.underlying24, Try.underlying3, Try.underlying5, Try.underlying53, Try.underlying9, Try.underlying99, ty22, ty23, ty24, ty53, ty99, ty3, ty5, ty9, rs22, e4]))
  refine gw_loop2 [0, 1, 5, 6, 7, 13, 14, 15, 16, 17, 18, 19, 20, 21, 22, 23] (fun (j : Nat) => [(24, .int .i64 (j : Int))])
    (fun q j h' => n3 - j = q ∧ j ≤ n3 ∧ HS h8 h' ∧ ∀ (z : Nat) q, z < j → b[z]? = some q → p.1 ≠ q.1) n3 0 (by simp [lk]) ⟨rfl, by omega, HS.refl _, fun z q h => by omega⟩ ?_
  rintro _ j h9 ⟨rfl, hj, s9, un⟩
  have m9 := s9 _ _ m8
  by_cases hjn : j < n3
  case neg =>
    obtain rfl : j = n3 := by omega
    have d4 : decide ((j : Int) < (j : Int)) = false := decide_eq_false (by omega)
    refine mk_of ?_; repeat' (first | (with_reducible first | refine gw_seq ?_ | refine gw_block ?_) | ((first | (with_reducible refine mk_to ?_) | (with_reducible first | refine gw_region ?_ | refine gw_if ?_ | refine gw_skip ?_ | refine gw_exit ?_ | refine gw_ret ?_) | ((with_reducible first | refine gif_b (fun hb => ?_) (fun hb => ?_) | refine want_t (fun hb => ?_) (fun hb => ?_) | refine want_f (fun hb => ?_) (fun hb => ?_) | refine dr_t (fun hb => ?_) (fun hb => ?_) | refine dr_f (fun hb => ?_) (fun hb => ?_)) <;> (try simp only [hb]) <;> (try simp only [hpr] at hb)) | with_reducible refine gw_draw (id := 13) [(0, []), (1, []), (2, []), (3, []), (5, []), (6, []), (7, []), (4, [7]), (8, []), (9, []), (10, []), (11, []), (12, [])] [0, 0, 0, 4, 14, 0, 0, 64, 254, 510, 1022, 2047, 4095] mixed (by kernel_rfl) ?_) <;> try simp only [List.map, gop, ev, lk, aenv, gyield, gBin, gInt, gStrOp, gUn, gPick, gNil, gExtract, gIfc, gConvK, gIndexO, gIndexVO, gMakeV, gMinV, gMaxV, isInt, gMin, gMax, gBlt, gLenX, gCallV, gInvoke, gNilM, Array.toList_map, vcells, gField, gIndexV, gPart, reduceIte, Nat.reduceAdd, Nat.reduceSub, Nat.reduceMul, Nat.reduceLT, Nat.reduceLeDiff, Nat.reduceEqDiff, Nat.reduceBEq, Int.reduceLT, Int.reduceLE, Int.reduceGT, Int.reduceGE, Int.reduceEq, Int.reduceNe, Int.reduceAdd, Int.reduceSub, Int.reduceMul, Int.reduceNeg, Int.reduceToNat, Int.reduceBEq, Int.reduceBNe, Int.cast_ofNat_Int, List.getElem?_toArray, stp, rvOf, rvLen, wput, wlk, rdv, isEff, dsOf, sgl, stq, Try.underlying22, Try.underlying23, Try.underlying24, Try.underlying3, Try.underlying5, Try.underlying53, Try.underlying9, Try.underlying99, ty22, ty23, ty24, ty53, ty99, ty3, ty5, ty9, rs22, d4, gload1 m9 sz24, List.getElem?_cons_zero, List.getElem?_cons_succ]))
    have iz : (!(#[] : Array (Nat × Operand)).size == 0) = false := rfl
    refine mk_of ?_; repeat' (first | (with_reducible first | refine gw_seq ?_ | refine gw_block ?_) | ((first | (with_reducible refine mk_to ?_) | (with_reducible first | refine gw_region ?_ | refine gw_if ?_ | refine gw_skip ?_ | refine gw_exit ?_ | refine gw_ret ?_) | ((with_reducible first | refine gif_b (fun hb => ?_) (fun hb => ?_) | refine want_t (fun hb => ?_) (fun hb => ?_) | refine want_f (fun hb => ?_) (fun hb => ?_) | refine dr_t (fun hb => ?_) (fun hb => ?_) | refine dr_f (fun hb => ?_) (fun hb => ?_)) <;> (try simp only [hb]) <;> (try simp only [hpr] at hb)) | with_reducible refine gw_draw (id := 13) [(0, []), (1, []), (2, []), (3, []), (5, []), (6, []), (7, []), (4, [7]), (8, []), (9, []), (10, []), (11, []), (12, [])] [0, 0, 0, 4, 14, 0, 0, 64, 254, 510, 1022, 2047, 4095] mixed (by kernel_rfl) ?_) <;> try simp only [List.map, gop, ev, lk, aenv, gyield, gBin, gInt, gStrOp, gUn, gPick, gNil, gExtract, gIfc, gConvK, gIndexO, gIndexVO, gMakeV, gMinV, gMaxV, isInt, gMin, gMax, gBlt, gLenX, gCallV, gInvoke, gNilM, Array.toList_map, vcells, gField, gIndexV, gPart, reduceIte, Nat.reduceAdd, Nat.reduceSub, Nat.reduceMul, Nat.reduceLT, Nat.reduceLeDiff, Nat.reduceEqDiff, Nat.reduceBEq, Int.reduceLT, Int.reduceLE, Int.reduceGT, Int.reduceGE, Int.reduceEq, Int.reduceNe, Int.reduceAdd, Int.reduceSub, Int.reduceMul, Int.reduceNeg, Int.reduceToNat, Int.reduceBEq, Int.reduceBNe, Int.cast_ofNat_Int, List.getElem?_toArray, stp, rvOf, rvLen, wput, wlk, rdv, isEff, dsOf, sgl, stq, Try.underlying22, Try.underlying23, Try.underlying24, Try.underlying3, Try.underlying5, Try.underlying53, Try.underlying9, Try.underlying99, ty22, ty23, ty24, ty53, ty99, ty3, ty5, ty9, rs22, iz, gload1 m9 sz24, List.getElem?_cons_zero, List.getElem?_cons_succ]))
    refine bs0_g el24 rfl ?_
    refine mk_of ?_; repeat' (first | (with_reducible first | refine gw_seq ?_ | refine gw_block ?_) | ((first | (with_reducible refine mk_to ?_) | (with_reducible first | refine gw_region ?_ | refine gw_if ?_ | refine gw_skip ?_ | refine gw_exit ?_ | refine gw_ret ?_) | ((with_reducible first | refine gif_b (fun hb => ?_) (fun hb => ?_) | refine want_t (fun hb => ?_) (fun hb => ?_) | refine want_f (fun hb => ?_) (fun hb => ?_) | refine dr_t (fun hb => ?_) (fun hb => ?_) | refine dr_f (fun hb => ?_) (fun hb => ?_)) <;> (try simp only [hb]) <;> (try simp only [hpr] at hb)) | with_reducible refine gw_draw (id := 13) [(0, []), (1, []), (2, []), (3, []), (5, []), (6, []), (7, []), (4, [7]), (8, []), (9, []), (10, []), (11, []), (12, [])] [0, 0, 0, 4, 14, 0, 0, 64, 254, 510, 1022, 2047, 4095] mixed (by kernel_rfl) ?_) <;> try simp only [List.map, gop, ev, lk, aenv, gyield, gBin, gInt, gStrOp, gUn, gPick, gNil, gExtract, gIfc, gConvK, gIndexO, gIndexVO, gMakeV, gMinV, gMaxV, isInt, gMin, gMax, gBlt, gLenX, gCallV, gInvoke, gNilM, Array.toList_map, vcells, gField, gIndexV, gPart, reduceIte, Nat.reduceAdd, Nat.reduceSub, Nat.reduceMul, Nat.reduceLT, Nat.reduceLeDiff, Nat.reduceEqDiff, Nat.reduceBEq, Int.reduceLT, Int.reduceLE, Int.reduceGT, Int.reduceGE, Int.reduceEq, Int.reduceNe, Int.reduceAdd, Int.reduceSub, Int.reduceMul, Int.reduceNeg, Int.reduceToNat, Int.reduceBEq, Int.reduceBNe, Int.cast_ofNat_Int, List.getElem?_toArray, stp, rvOf, rvLen, wput, wlk, rdv, isEff, dsOf, sgl, stq, Try.underlying22, Try.underlying23, Try.underlying24, Try.underlying3, Try.underlying5, Try.underlying53, Try.underlying9, Try.underlying99, ty22, ty23, ty24, ty53, ty99, ty3, ty5, ty9, rs22, iz, gload1 m9 sz24, List.getElem?_cons_zero, List.getElem?_cons_succ]))
    refine bs0_g el24 rfl ?_
    refine mk_of ?_; repeat' (first | (with_reducible first | refine gw_seq ?_ | refine gw_block ?_) | ((first | (with_reducible refine mk_to ?_) | (with_reducible first | refine gw_region ?_ | refine gw_if ?_ | refine gw_skip ?_ | refine gw_exit ?_ | refine gw_ret ?_) | ((with_reducible first | refine gif_b (fun hb => ?_) (fun hb => ?_) | refine want_t (fun hb => ?_) (fun hb => ?_) | refine want_f (fun hb => ?_) (fun hb => ?_) | refine dr_t (fun hb => ?_) (fun hb => ?_) | refine dr_f (fun hb => ?_) (fun hb => ?_)) <;> (try simp only [hb]) <;> (try simp only [hpr] at hb)) | with_reducible refine gw_draw (id := 13) [(0, []), (1, []), (2, []), (3, []), (5, []), (6, []), (7, []), (4, [7]), (8, []), (9, []), (10, []), (11, []), (12, [])] [0, 0, 0, 4, 14, 0, 0, 64, 254, 510, 1022, 2047, 4095] mixed (by kernel_rfl) ?_) <;> try simp only [List.map, gop, ev, lk, aenv, gyield, gBin, gInt, gStrOp, gUn, gPick, gNil, gExtract, gIfc, gConvK, gIndexO, gIndexVO, gMakeV, gMinV, gMaxV, isInt, gMin, gMax, gBlt, gLenX, gCallV, gInvoke, gNilM, Array.toList_map, vcells, gField, gIndexV, gPart, reduceIte, Nat.reduceAdd, Nat.reduceSub, Nat.reduceMul, Nat.reduceLT, Nat.reduceLeDiff, Nat.reduceEqDiff, Nat.reduceBEq, Int.reduceLT, Int.reduceLE, Int.reduceGT, Int.reduceGE, Int.reduceEq, Int.reduceNe, Int.reduceAdd, Int.reduceSub, Int.reduceMul, Int.reduceNeg, Int.reduceToNat, Int.reduceBEq, Int.reduceBNe, Int.cast_ofNat_Int, List.getElem?_toArray, stp, rvOf, rvLen, wput, wlk, rdv, isEff, dsOf, sgl, stq, Try.underlying22, Try.underlying23, Try.underlying24, Try.underlying3, Try.underlying5, Try.underlying53, Try.underlying9, Try.underlying99, ty22, ty23, ty24, ty53, ty99, ty3, ty5, ty9, rs22, iz, gload1 m9 sz24, List.getElem?_cons_zero, List.getElem?_cons_succ]))
    have q19 := (q1.hs s8).hs s9
    have q29 := (q2.hs s8).hs s9
    refine append_own el24 Try.underlying24 rfl (HS.refl h9) (OWN.zero _ _ _) q19.src (by simpa using hpl.1) fun v10 h10 s10 _ o10 => ?_
    rw [List.nil_append] at o10
    obtain ⟨a10, c10, rfl⟩ := o10.form
    have m10 := s10 _ _ m9
    refine mk_of ?_; repeat' (first | (with_reducible first | refine gw_seq ?_ | refine gw_block ?_) | ((first | (with_reducible refine mk_to ?_) | (with_reducible first | refine gw_region ?_ | refine gw_if ?_ | refine gw_skip ?_ | refine gw_exit ?_ | refine gw_ret ?_) | ((with_reducible first | refine gif_b (fun hb => ?_) (fun hb => ?_) | refine want_t (fun hb => ?_) (fun hb => ?_) | refine want_f (fun hb => ?_) (fun hb => ?_) | refine dr_t (fun hb => ?_) (fun hb => ?_) | refine dr_f (fun hb => ?_) (fun hb => ?_)) <;> (try simp only [hb]) <;> (try simp only [hpr] at hb)) | with_reducible refine gw_draw (id := 13) [(0, []), (1, []), (2, []), (3, []), (5, []), (6, []), (7, []), (4, [7]), (8, []), (9, []), (10, []), (11, []), (12, [])] [0, 0, 0, 4, 14, 0, 0, 64, 254, 510, 1022, 2047, 4095] mixed (by kernel_rfl) ?_) <;> try simp only [List.map, gop, ev, lk, aenv, gyield, gBin, gInt, gStrOp, gUn, gPick, gNil, gExtract, gIfc, gConvK, gIndexO, gIndexVO, gMakeV, gMinV, gMaxV, isInt, gMin, gMax, gBlt, gLenX, gCallV, gInvoke, gNilM, Array.toList_map, vcells, gField, gIndexV, gPart, reduceIte, Nat.reduceAdd, Nat.reduceSub, Nat.reduceMul, Nat.reduceLT, Nat.reduceLeDiff, Nat.reduceEqDiff, Nat.reduceBEq, Int.reduceLT, Int.reduceLE, Int.reduceGT, Int.reduceGE, Int.reduceEq, Int.reduceNe, Int.reduceAdd, Int.reduceSub, Int.reduceMul, Int.reduceNeg, Int.reduceToNat, Int.reduceBEq, Int.reduceBNe, Int.cast_ofNat_Int, List.getElem?_toArray, stp, rvOf, rvLen, wput, wlk, rdv, isEff, dsOf, sgl, stq, Try.underlying22, Try.underlying23, Try.underlying24, Try.underlying3, Try.underlying5, Try.underlying53, Try.underlying9, Try.underlying99, ty22, ty23, ty24, ty53, ty99, ty3, ty5, ty9, rs22, iz, gload1 m10 sz24, List.getElem?_cons_zero, List.getElem?_cons_succ]))
    refine append_own el24 Try.underlying24 rfl (HS.refl h10) (OWN.zero _ _ _) (q29.hs s10).src (by simpa using hpl.2) fun v11 h11 s11 _ o11 => ?_
    rw [List.nil_append] at o11
    obtain ⟨a11, c11, rfl⟩ := o11.form
    refine mk_of ?_; repeat' (first | (with_reducible first | refine gw_seq ?_ | refine gw_block ?_) | ((first | (with_reducible refine mk_to ?_) | (with_reducible first | refine gw_region ?_ | refine gw_if ?_ | refine gw_skip ?_ | refine gw_exit ?_ | refine gw_ret ?_) | ((with_reducible first | refine gif_b (fun hb => ?_) (fun hb => ?_) | refine want_t (fun hb => ?_) (fun hb => ?_) | refine want_f (fun hb => ?_) (fun hb => ?_) | refine dr_t (fun hb => ?_) (fun hb => ?_) | refine dr_f (fun hb => ?_) (fun hb => ?_)) <;> (try simp only [hb]) <;> (try simp only [hpr] at hb)) | with_reducible refine gw_draw (id := 13) [(0, []), (1, []), (2, []), (3, []), (5, []), (6, []), (7, []), (4, [7]), (8, []), (9, []), (10, []), (11, []), (12, [])] [0, 0, 0, 4, 14, 0, 0, 64, 254, 510, 1022, 2047, 4095] mixed (by kernel_rfl) ?_) <;> try simp only [List.map, gop, ev, lk, aenv, gyield, gBin, gInt, gStrOp, gUn, gPick, gNil, gExtract, gIfc, gConvK, gIndexO, gIndexVO, gMakeV, gMinV, gMaxV, isInt, gMin, gMax, gBlt, gLenX, gCallV, gInvoke, gNilM, Array.toList_map, vcells, gField, gIndexV, gPart, reduceIte, Nat.reduceAdd, Nat.reduceSub, Nat.reduceMul, Nat.reduceLT, Nat.reduceLeDiff, Nat.reduceEqDiff, Nat.reduceBEq, Int.reduceLT, Int.reduceLE, Int.reduceGT, Int.reduceGE, Int.reduceEq, Int.reduceNe, Int.reduceAdd, Int.reduceSub, Int.reduceMul, Int.reduceNeg, Int.reduceToNat, Int.reduceBEq, Int.reduceBNe, Int.cast_ofNat_Int, List.getElem?_toArray, stp, rvOf, rvLen, wput, wlk, rdv, isEff, dsOf, sgl, stq, Try.underlying22, Try.underlying23, Try.underlying24, Try.underlying3, Try.underlying5, Try.underlying53, Try.underlying9, Try.underlying99, ty22, ty23, ty24, ty53, ty99, ty3, ty5, ty9, rs22, gBuild, lfill, lput, Shape.pl, List.all_cons, List.all_nil, isCell, Bool.false_and, Bool.not_false]))
    refine bsn1_g el23 rfl rfl (by decide) (by decide) rfl fun k12 h12 b12 s12 f12 n12 => ?_
    have s312 : HS h3 h12 := (((s8.trans s9).trans s10).trans s11).trans s12
    refine mk_of ?_; repeat' (first | (with_reducible first | refine gw_seq ?_ | refine gw_block ?_) | ((first | (with_reducible refine mk_to ?_) | (with_reducible first | refine gw_region ?_ | refine gw_if ?_ | refine gw_skip ?_ | refine gw_exit ?_ | refine gw_ret ?_) | ((with_reducible first | refine gif_b (fun hb => ?_) (fun hb => ?_) | refine want_t (fun hb => ?_) (fun hb => ?_) | refine want_f (fun hb => ?_) (fun hb => ?_) | refine dr_t (fun hb => ?_) (fun hb => ?_) | refine dr_f (fun hb => ?_) (fun hb => ?_)) <;> (try simp only [hb]) <;> (try simp only [hpr] at hb)) | with_reducible refine gw_draw (id := 13) [(0, []), (1, []), (2, []), (3, []), (5, []), (6, []), (7, []), (4, [7]), (8, []), (9, []), (10, []), (11, []), (12, [])] [0, 0, 0, 4, 14, 0, 0, 64, 254, 510, 1022, 2047, 4095] mixed (by kernel_rfl) ?_) <;> try simp only [List.map, gop, ev, lk, aenv, gyield, gBin, gInt, gStrOp, gUn, gPick, gNil, gExtract, gIfc, gConvK, gIndexO, gIndexVO, gMakeV, gMinV, gMaxV, isInt, gMin, gMax, gBlt, gLenX, gCallV, gInvoke, gNilM, Array.toList_map, vcells, gField, gIndexV, gPart, reduceIte, Nat.reduceAdd, Nat.reduceSub, Nat.reduceMul, Nat.reduceLT, Nat.reduceLeDiff, Nat.reduceEqDiff, Nat.reduceBEq, Int.reduceLT, Int.reduceLE, Int.reduceGT, Int.reduceGE, Int.reduceEq, Int.reduceNe, Int.reduceAdd, Int.reduceSub, Int.reduceMul, Int.reduceNeg, Int.reduceToNat, Int.reduceBEq, Int.reduceBNe, Int.cast_ofNat_Int, List.getElem?_toArray, stp, rvOf, rvLen, wput, wlk, rdv, isEff, dsOf, sgl, stq, Try.underlying22, Try.underlying23, Try.underlying24, Try.underlying3, Try.underlying5, Try.underlying53, Try.underlying9, Try.underlying99, ty22, ty23, ty24, ty53, ty99, ty3, ty5, ty9, rs22]))
    refine append_ownc el23 Try.underlying23 rfl (s3.trans s312) (o3.hs s312) b12 rfl rfl (by omega) (by simp only [maxLen]; omega) fun v13 h13 s13 fr13 o13 => ?_
    obtain ⟨a13, c13, rfl⟩ := o13.form
    refine mk_of ?_; repeat' (first | (with_reducible first | refine gw_seq ?_ | refine gw_block ?_) | ((first | (with_reducible refine mk_to ?_) | (with_reducible first | refine gw_region ?_ | refine gw_if ?_ | refine gw_skip ?_ | refine gw_exit ?_ | refine gw_ret ?_) | ((with_reducible first | refine gif_b (fun hb => ?_) (fun hb => ?_) | refine want_t (fun hb => ?_) (fun hb => ?_) | refine want_f (fun hb => ?_) (fun hb => ?_) | refine dr_t (fun hb => ?_) (fun hb => ?_) | refine dr_f (fun hb => ?_) (fun hb => ?_)) <;> (try simp only [hb]) <;> (try simp only [hpr] at hb)) | with_reducible refine gw_draw (id := 13) [(0, []), (1, []), (2, []), (3, []), (5, []), (6, []), (7, []), (4, [7]), (8, []), (9, []), (10, []), (11, []), (12, [])] [0, 0, 0, 4, 14, 0, 0, 64, 254, 510, 1022, 2047, 4095] mixed (by kernel_rfl) ?_) <;> try simp only [List.map, gop, ev, lk, aenv, gyield, gBin, gInt, gStrOp, gUn, gPick, gNil, gExtract, gIfc, gConvK, gIndexO, gIndexVO, gMakeV, gMinV, gMaxV, isInt, gMin, gMax, gBlt, gLenX, gCallV, gInvoke, gNilM, Array.toList_map, vcells, gField, gIndexV, gPart, reduceIte, Nat.reduceAdd, Nat.reduceSub, Nat.reduceMul, Nat.reduceLT, Nat.reduceLeDiff, Nat.reduceEqDiff, Nat.reduceBEq, Int.reduceLT, Int.reduceLE, Int.reduceGT, Int.reduceGE, Int.reduceEq, Int.reduceNe, Int.reduceAdd, Int.reduceSub, Int.reduceMul, Int.reduceNeg, Int.reduceToNat, Int.reduceBEq, Int.reduceBNe, Int.cast_ofNat_Int, List.getElem?_toArray, stp, rvOf, rvLen, wput, wlk, rdv, isEff, dsOf, sgl, stq, Try.underlying22, Try.underlying23, Try.underlying24, Try.underlying3, Try.underlying5, Try.underlying53, Try.underlying9, Try.underlying99, ty22, ty23, ty24, ty53, ty99, ty3, ty5, ty9, rs22, wi]))
    have keep : ∀ {q : List Value} {ee : Bnd}, Bd h12 q ee → Bd h13 q ee := fun {q ee} w => by
      obtain ⟨a, n, c, b, m, d, e, r1, r2⟩ := w
      exact ⟨a, n, c, b, m, d, e, fr_rb fr13 u3 r1, fr_rb fr13 u3 r2⟩
    refine ⟨_, (j + 1, a13, j + 1, c13), ?_, (by simp only [List.forall_mem_cons, List.not_mem_nil, false_implies, implies_true, List.map, List.cons_append, List.nil_append, lk, Nat.reduceEqDiff, reduceIte, and_true, true_and]), rfl, by simp only; omega, s13, ?_, _, o13, by rw [List.all_append, u3]; rfl, ?_⟩
    · simp only
      omega
    · intro i z p' q hz hi' hp' hq
      rcases Nat.lt_or_ge i j with h | h
      · exact ds3 i z p' q hz h hp' hq
      · simp only at hi'
        obtain rfl : i = j := by omega
        rw [hp] at hp'; cases hp'
        exact un z q hz hq
    · have ht : b.take (j + 1) = b.take j ++ [p] := by rw [List.take_add_one, hp]; rfl
      simp only [ht]
      exact app_el (R := Bd h13) (by rw [hd, List.length_take, Nat.min_eq_left hi]) rfl (fun i p hp => keep ((r3 i p hp).hs s312)) (keep ⟨_, _, _, _, _, _, rfl, ((o10.rb.hs s11).hs s12), (o11.rb.hs s12)⟩)
  have d4 : decide ((j : Int) < (n3 : Int)) = true := decide_eq_true (by omega)
  have wj : IntKind.i64.wrap ((j : Int) + 1) = ((j + 1 : Nat) : Int) := by rw [wrap64 (by omega) (by omega)]; omega
  obtain ⟨q, hq⟩ := get_lt (show j < b.length by omega)
  have hqt : (b.take n3)[j]? = some q := by rw [List.getElem?_take, if_pos hjn]; exact hq
  have r49 : RL 2 Bd h9 (.slice a4 (b.take n3).length c4) (b.take n3) := by rw [hlt]; exact r4.bs s9
  obtain ⟨ad2, cs3, g3, g4, a'', n'', c'', b'', m'', d'', rfl, q3, q4⟩ := r49.at (P := Try.prog) Try.underlying23 sz99 hqt
  have l2 : gLoad Try.prog 99 h9 (.pointer (some ad2)) = some (.agg #[.slice a'' n'' c'', .slice b'' m'' d'']) := by simp only [gLoad, sz99, g4]; rfl
  rw [hlt] at g3
  refine mk_of ?_; repeat' (first | (with_reducible first | refine gw_seq ?_ | refine gw_block ?_) | ((first | (with_reducible refine mk_to ?_) | (with_reducible first | refine gw_region ?_ | refine gw_if ?_ | refine gw_skip ?_ | refine gw_exit ?_ | refine gw_ret ?_) | ((with_reducible first | refine gif_b (fun hb => ?_) (fun hb => ?_) | refine want_t (fun hb => ?_) (fun hb => ?_) | refine want_f (fun hb => ?_) (fun hb => ?_) | refine dr_t (fun hb => ?_) (fun hb => ?_) | refine dr_f (fun hb => ?_) (fun hb => ?_)) <;> (try simp only [hb]) <;> (try simp only [hpr] at hb)) | with_reducible refine gw_draw (id := 13) [(0, []), (1, []), (2, []), (3, []), (5, []), (6, []), (7, []), (4, [7]), (8, []), (9, []), (10, []), (11, []), (12, [])] [0, 0, 0, 4, 14, 0, 0, 64, 254, 510, 1022, 2047, 4095] mixed (by kernel_rfl) ?_) <;> try simp only [List.map, gop, ev, lk, aenv, gyield, gBin, gInt, gStrOp, gUn, gPick, gNil, gExtract, gIfc, gConvK, gIndexO, gIndexVO, gMakeV, gMinV, gMaxV, isInt, gMin, gMax, gBlt, gLenX, gCallV, gInvoke, gNilM, Array.toList_map, vcells, gField, gIndexV, gPart, reduceIte, Nat.reduceAdd, Nat.reduceSub, Nat.reduceMul, Nat.reduceLT, Nat.reduceLeDiff, Nat.reduceEqDiff, Nat.reduceBEq, Int.reduceLT, Int.reduceLE, Int.reduceGT, Int.reduceGE, Int.reduceEq, Int.reduceNe, Int.reduceAdd, Int.reduceSub, Int.reduceMul, Int.reduceNeg, Int.reduceToNat, Int.reduceBEq, Int.reduceBNe, Int.cast_ofNat_Int, List.getElem?_toArray, stp, rvOf, rvLen, wput, wlk, rdv, isEff, dsOf, sgl, stq, Try.underlying22, Try.underlying23, Try.underlying24, Try.underlying3, Try.underlying5, Try.underlying53, Try.underlying9, Try.underlying99, ty22, ty23, ty24, ty53, ty99, ty3, ty5, ty9, rs22, d4, g3, l2]))
  refine new_g fun k10 h10 m10 s10 f10 n10 => ?_
  refine mk_of ?_; repeat' (first | (with_reducible first | refine gw_seq ?_ | refine gw_block ?_) | ((first | (with_reducible refine mk_to ?_) | (with_reducible first | refine gw_region ?_ | refine gw_if ?_ | refine gw_skip ?_ | refine gw_exit ?_ | refine gw_ret ?_) | ((with_reducible first | refine gif_b (fun hb => ?_) (fun hb => ?_) | refine want_t (fun hb => ?_) (fun hb => ?_) | refine want_f (fun hb => ?_) (fun hb => ?_) | refine dr_t (fun hb => ?_) (fun hb => ?_) | refine dr_f (fun hb => ?_) (fun hb => ?_)) <;> (try simp only [hb]) <;> (try simp only [hpr] at hb)) | with_reducible refine gw_draw (id := 13) [(0, []), (1, []), (2, []), (3, []), (5, []), (6, []), (7, []), (4, [7]), (8, []), (9, []), (10, []), (11, []), (12, [])] [0, 0, 0, 4, 14, 0, 0, 64, 254, 510, 1022, 2047, 4095] mixed (by kernel_rfl) ?_) <;> try simp only [List.map, gop, ev, lk, aenv, gyield, gBin, gInt, gStrOp, gUn, gPick, gNil, gExtract, gIfc, gConvK, gIndexO, gIndexVO, gMakeV, gMinV, gMaxV, isInt, gMin, gMax, gBlt, gLenX, gCallV, gInvoke, gNilM, Array.toList_map, vcells, gField, gIndexV, gPart, reduceIte, Nat.reduceAdd, Nat.reduceSub, Nat.reduceMul, Nat.reduceLT, Nat.reduceLeDiff, Nat.reduceEqDiff, Nat.reduceBEq, Int.reduceLT, Int.reduceLE, Int.reduceGT, Int.reduceGE, Int.reduceEq, Int.reduceNe, Int.reduceAdd, Int.reduceSub, Int.reduceMul, Int.reduceNeg, Int.reduceToNat, Int.reduceBEq, Int.reduceBNe, Int.cast_ofNat_Int, List.getElem?_toArray, stp, rvOf, rvLen, wput, wlk, rdv, isEff, dsOf, sgl, stq, Try.underlying22, Try.underlying23, Try.underlying24, Try.underlying3, Try.underlying5, Try.underlying53, Try.underlying9, Try.underlying99, ty22, ty23, ty24, ty53, ty99, ty3, ty5, ty9, rs22]))
  refine st_all m10 sz99 rfl (by decide) rfl rfl rfl fun h11 m11 f11 => ?_
  have s11 : HS h9 h11 := (HS.refl h9).upd n10 (fun j hj => (f11 j hj).trans (f10 j hj))
  have m911 := s11 _ _ m9
  have cv1 := (((q1.hs s8).hs s9).hs s11).conv Try.underlying24 Try.underlying5 Try.underlying9
  have cv2 := (q3.hs s11).conv Try.underlying24 Try.underlying5 Try.underlying9
  by_cases hpq : p.1 = q.1
  · have e1 : (p.1 == q.1) = true := by simpa using hpq
    refine mk_of ?_; repeat' (first | (with_reducible first | refine gw_seq ?_ | refine gw_block ?_) | ((first | (with_reducible refine mk_to ?_) | (with_reducible first | refine gw_region ?_ | refine gw_if ?_ | refine gw_skip ?_ | refine gw_exit ?_ | refine gw_ret ?_) | ((with_reducible first | refine gif_b (fun hb => ?_) (fun hb => ?_) | refine want_t (fun hb => ?_) (fun hb => ?_) | refine want_f (fun hb => ?_) (fun hb => ?_) | refine dr_t (fun hb => ?_) (fun hb => ?_) | refine dr_f (fun hb => ?_) (fun hb => ?_)) <;> (try simp only [hb]) <;> (try simp only [hpr] at hb)) | with_reducible refine gw_draw (id := 13) [(0, []), (1, []), (2, []), (3, []), (5, []), (6, []), (7, []), (4, [7]), (8, []), (9, []), (10, []), (11, []), (12, [])] [0, 0, 0, 4, 14, 0, 0, 64, 254, 510, 1022, 2047, 4095] mixed (by kernel_rfl) ?_) <;> try simp only [List.map, gop, ev, lk, aenv, gyield, gBin, gInt, gStrOp, gUn, gPick, gNil, gExtract, gIfc, gConvK, gIndexO, gIndexVO, gMakeV, gMinV, gMaxV, isInt, gMin, gMax, gBlt, gLenX, gCallV, gInvoke, gNilM, Array.toList_map, vcells, gField, gIndexV, gPart, reduceIte, Nat.reduceAdd, Nat.reduceSub, Nat.reduceMul, Nat.reduceLT, Nat.reduceLeDiff, Nat.reduceEqDiff, Nat.reduceBEq, Int.reduceLT, Int.reduceLE, Int.reduceGT, Int.reduceGE, Int.reduceEq, Int.reduceNe, Int.reduceAdd, Int.reduceSub, Int.reduceMul, Int.reduceNeg, Int.reduceToNat, Int.reduceBEq, Int.reduceBNe, Int.cast_ofNat_Int, List.getElem?_toArray, stp, rvOf, rvLen, wput, wlk, rdv, isEff, dsOf, sgl, stq, Try.underlying22, Try.underlying23, Try.underlying24, Try.underlying3, Try.underlying5, Try.underlying53, Try.underlying9, Try.underlying99, ty22, ty23, ty24, ty53, ty99, ty3, ty5, ty9, rs22, gload1 m911 sz24, gload1 m11 sz24, List.getElem?_cons_zero, List.getElem?_cons_succ, cv1, cv2, bstr_eq, e1]))
    have hnd : ¬ dis b := dis_take hjn hp hq hpq
    have er : refErr b = 80 := by unfold refErr; rw [if_neg hbe, if_neg hnd]
    have sA := ((s3.trans s8).trans s9).trans s11
    exact ⟨by rw [er], s0.trans sA, FR.of sA, .inl ⟨by rw [er]; decide, x.hs sA⟩⟩
  · have e1 : (p.1 == q.1) = false := by simpa using hpq
    refine mk_of ?_; repeat' (first | (with_reducible first | refine gw_seq ?_ | refine gw_block ?_) | ((first | (with_reducible refine mk_to ?_) | (with_reducible first | refine gw_region ?_ | refine gw_if ?_ | refine gw_skip ?_ | refine gw_exit ?_ | refine gw_ret ?_) | ((with_reducible first | refine gif_b (fun hb => ?_) (fun hb => ?_) | refine want_t (fun hb => ?_) (fun hb => ?_) | refine want_f (fun hb => ?_) (fun hb => ?_) | refine dr_t (fun hb => ?_) (fun hb => ?_) | refine dr_f (fun hb => ?_) (fun hb => ?_)) <;> (try simp only [hb]) <;> (try simp only [hpr] at hb)) | with_reducible refine gw_draw (id := 13) [(0, []), (1, []), (2, []), (3, []), (5, []), (6, []), (7, []), (4, [7]), (8, []), (9, []), (10, []), (11, []), (12, [])] [0, 0, 0, 4, 14, 0, 0, 64, 254, 510, 1022, 2047, 4095] mixed (by kernel_rfl) ?_) <;> try simp only [List.map, gop, ev, lk, aenv, gyield, gBin, gInt, gStrOp, gUn, gPick, gNil, gExtract, gIfc, gConvK, gIndexO, gIndexVO, gMakeV, gMinV, gMaxV, isInt, gMin, gMax, gBlt, gLenX, gCallV, gInvoke, gNilM, Array.toList_map, vcells, gField, gIndexV, gPart, reduceIte, Nat.reduceAdd, Nat.reduceSub, Nat.reduceMul, Nat.reduceLT, Nat.reduceLeDiff, Nat.reduceEqDiff, Nat.reduceBEq, Int.reduceLT, Int.reduceLE, Int.reduceGT, Int.reduceGE, Int.reduceEq, Int.reduceNe, Int.reduceAdd, Int.reduceSub, Int.reduceMul, Int.reduceNeg, Int.reduceToNat, Int.reduceBEq, Int.reduceBNe, Int.cast_ofNat_Int, List.getElem?_toArray, stp, rvOf, rvLen, wput, wlk, rdv, isEff, dsOf, sgl, stq, Try.underlying22, Try.underlying23, Try.underlying24, Try.underlying3, Try.underlying5, Try.underlying53, Try.underlying9, Try.underlying99, ty22, ty23, ty24, ty53, ty99, ty3, ty5, ty9, rs22, gload1 m911 sz24, gload1 m11 sz24, List.getElem?_cons_zero, List.getElem?_cons_succ, cv1, cv2, bstr_eq, e1, wj]))
    refine ⟨_, j + 1, ?_, (by simp only [List.forall_mem_cons, List.not_mem_nil, false_implies, implies_true, List.map, List.cons_append, List.nil_append, lk, Nat.reduceEqDiff, reduceIte, and_true, true_and]), rfl, by omega, s9.trans s11, fun z q' hz hq' => ?_⟩
    · omega
    · rcases Nat.lt_or_ge z j with h | h
      · exact un z q' h hq'
      · obtain rfl : z = j := by omega
        rw [hq] at hq'; cases hq'
        exact hpq
end Go.Gh

