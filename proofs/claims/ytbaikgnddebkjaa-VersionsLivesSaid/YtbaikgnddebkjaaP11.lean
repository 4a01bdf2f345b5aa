/- Parts of this claim's proof, 11. No statement of the claim stands here. -/
import Derived.Test.YtbaikgnddebkjaaP10
/- Versions: what the document's own index lists. -/

namespace Go.Gh
open Go Go.Proofs Go.RowKit
set_option linter.unusedVariables false
set_option linter.unusedSimpArgs false
set_option maxRecDepth 100000
set_option maxHeartbeats 4000000

/-- An identity's changes among a batch's first i. -/
def mts (e : Nat) (b : List Bnd) (id : List UInt8) : Nat → List (Nat × Nat × Bnd)
  | 0 => []
  | i + 1 => mts e b id i ++ (if (bat1 b i).1 = id then [(e, i, bat1 b i)] else [])
def batN (B : List (List Bnd)) (e : Nat) : List Bnd := (B[e]?).getD []
/-- What is listed from an epoch downwards. -/
def rls (B : List (List Bnd)) (id : List UInt8) (f : Int) : Nat → List (Nat × Nat × Bnd)
  | 0 => []
  | e + 1 => if ((e + 1 : Nat) : Int) > f then mts (e + 1) (batN B e) id (batN B e).length ++ rls B id f e else []
theorem mts_len (e : Nat) (b : List Bnd) (id : List UInt8) : ∀ i, (mts e b id i).length ≤ i
  | 0 => by simp [mts]
  | i + 1 => by
    have := mts_len e b id i
    simp only [mts, List.length_append]
    split <;> simp <;> omega
theorem rls_len (B : List (List Bnd)) (hB : ∀ b ∈ B, b.length ≤ 10) (id : List UInt8) (f : Int) : ∀ e, (rls B id f e).length ≤ 10 * e
  | 0 => by simp [rls]
  | e + 1 => by
    have := rls_len B hB id f e
    have h2 := mts_len (e + 1) (batN B e) id (batN B e).length
    have h3 : (batN B e).length ≤ 10 := by
      unfold batN
      cases hb : B[e]? with
      | none => simp
      | some b => exact hB b (List.mem_of_getElem? hb)
    simp only [rls]
    split
    · rw [List.length_append]; omega
    · simp

theorem c_rList (N : Nat) {h0 h : GH} {k : Nat} {bv : Value} {cs : List Value} {B : List (List Bnd)} (x : RX h0 h k bv cs B) (hB : B.length ≤ 100) {a : Option Addr} {n c : Nat} {id : List UInt8} (r : RB h (.slice a n c) id) (f t : Int) :
    GTri Try.prog N 24 [.pointer (some ⟨k, 0, none⟩), .slice a n c, .int .i64 f, .int .i64 t] h fun v h' => Evs h h' v (rls B id f (min t (B.length : Int)).toNat) ∧ HS h h' := by
  obtain ⟨ab, cb, eb⟩ := x.bat.form
  subst eb
  have hbl : ∀ b ∈ B, b.length ≤ 10 := fun b hb => (x.bl b hb).1
  have mn : (if (B.length : Int) < t then (B.length : Int) else t) = min t (B.length : Int) := by omega
  have hrl := rls_len B hbl id f (min t (B.length : Int)).toNat
  refine gtri Try.func24 rfl gf24 ok24 (by simp [Try.ntmps24]) ?_
  refine mk_of ?_; repeat' (first | (with_reducible first | refine gw_seq ?_ | refine gw_block ?_) | ((first | (with_reducible refine mk_to ?_) | (with_reducible first | refine gw_region ?_ | refine gw_if ?_ | refine gw_skip ?_ | refine gw_exit ?_ | refine gw_ret ?_) | ((with_reducible first | refine gif_b (fun hb => ?_) (fun hb => ?_) | refine want_t (fun hb => ?_) (fun hb => ?_) | refine want_f (fun hb => ?_) (fun hb => ?_) | refine dr_t (fun hb => ?_) (fun hb => ?_) | refine dr_f (fun hb => ?_) (fun hb => ?_)) <;> (try simp only [hb]) <;> (try simp only [hpr] at hb)) | with_reducible refine gw_draw (id := 9) [(0, []), (1, []), (2, []), (3, []), (4, []), (5, []), (7, []), (8, []), (9, []), (6, [9]), (10, []), (11, []), (12, []), (13, []), (14, [])] [0, 0, 0, 0, 0, 16, 56, 0, 0, 256, 1016, 2046, 4094, 8191, 16383] mixed (by kernel_rfl) ?_) <;> try simp only [List.map, gop, ev, lk, aenv, gyield, gBin, gInt, gStrOp, gUn, gPick, gNil, gExtract, gIfc, gConvK, gIndexO, gIndexVO, gMakeV, gMinV, gMaxV, isInt, gMin, gMax, gBlt, gLenX, gCallV, gInvoke, gNilM, Array.toList_map, vcells, gField, gIndexV, gPart, reduceIte, Nat.reduceAdd, Nat.reduceSub, Nat.reduceMul, Nat.reduceLT, Nat.reduceLeDiff, Nat.reduceEqDiff, Nat.reduceBEq, Int.reduceLT, Int.reduceLE, Int.reduceGT, Int.reduceGE, Int.reduceEq, Int.reduceNe, Int.reduceAdd, Int.reduceSub, Int.reduceMul, Int.reduceNeg, Int.reduceToNat, Int.reduceBEq, Int.reduceBNe, Int.cast_ofNat_Int, List.getElem?_toArray, stp, rvOf, rvLen, wput, wlk, rdv, isEff, dsOf, sgl, stq, Try.underlying22, Try.underlying23, Try.underlying24, Try.underlying3, Try.underlying33, Try.underlying36, Try.underlying5, Try.underlying53, Try.underlying9, Try.underlying99, ty22, ty23, ty24, ty36, ty33, ty53, ty99, ty3, ty5, ty9, rs24, gNil, gload1 x.obj sz22, mn, List.getElem?_cons_zero, List.getElem?_cons_succ]))
  refine gw_loop2 [0, 1, 2, 8] (fun (y : Int × (Option Addr × Nat × Nat)) => [(9, .slice y.2.1 y.2.2.1 y.2.2.2), (10, .int .i64 y.1)])
    (fun q y h' => y.1.toNat = q ∧ y.1 ≤ (B.length : Int) ∧ HS h h' ∧ ∃ L, Evs h h' (.slice y.2.1 y.2.2.1 y.2.2.2) L ∧ L ++ rls B id f y.1.toNat = rls B id f (min t (B.length : Int)).toNat) (min t (B.length : Int)).toNat (min t (B.length : Int), (none, 0, 0)) (by simp [lk])
    ⟨rfl, by simp only; omega, HS.refl h, [], ⟨[], OWNC.nil _ _ _, rfl, fun i p hp => by simp at hp⟩, rfl⟩ ?_
  rintro _ ⟨e, a3, n3, c3⟩ h3 ⟨rfl, he, s3, L, ev3, hL⟩
  simp only at he ev3 hL
  have x3 := x.hs s3
  by_cases hef : e > f
  case neg =>
    have d1 : decide (e > f) = false := decide_eq_false hef
    have hr0 : rls B id f e.toNat = [] := by
      cases hz : e.toNat with
      | zero => rfl
      | succ m => simp only [rls]; rw [if_neg (by omega)]
    rw [hr0, List.append_nil] at hL
    subst hL
    refine mk_of ?_; repeat' (first | (with_reducible first | refine gw_seq ?_ | refine gw_block ?_) | ((first | (with_reducible refine mk_to ?_) | (with_reducible first | refine gw_region ?_ | refine gw_if ?_ | refine gw_skip ?_ | refine gw_exit ?_ | refine gw_ret ?_) | ((with_reducible first | refine gif_b (fun hb => ?_) (fun hb => ?_) | refine want_t (fun hb => ?_) (fun hb => ?_) | refine want_f (fun hb => ?_) (fun hb => ?_) | refine dr_t (fun hb => ?_) (fun hb => ?_) | refine dr_f (fun hb => ?_) (fun hb => ?_)) <;> (try simp only [hb]) <;> (try simp only [hpr] at hb)) | with_reducible refine gw_draw (id := 9) [(0, []), (1, []), (2, []), (3, []), (4, []), (5, []), (7, []), (8, []), (9, []), (6, [9]), (10, []), (11, []), (12, []), (13, []), (14, [])] [0, 0, 0, 0, 0, 16, 56, 0, 0, 256, 1016, 2046, 4094, 8191, 16383] mixed (by kernel_rfl) ?_) <;> try simp only [List.map, gop, ev, lk, aenv, gyield, gBin, gInt, gStrOp, gUn, gPick, gNil, gExtract, gIfc, gConvK, gIndexO, gIndexVO, gMakeV, gMinV, gMaxV, isInt, gMin, gMax, gBlt, gLenX, gCallV, gInvoke, gNilM, Array.toList_map, vcells, gField, gIndexV, gPart, reduceIte, Nat.reduceAdd, Nat.reduceSub, Nat.reduceMul, Nat.reduceLT, Nat.reduceLeDiff, Nat.reduceEqDiff, Nat.reduceBEq, Int.reduceLT, Int.reduceLE, Int.reduceGT, Int.reduceGE, Int.reduceEq, Int.reduceNe, Int.reduceAdd, Int.reduceSub, Int.reduceMul, Int.reduceNeg, Int.reduceToNat, Int.reduceBEq, Int.reduceBNe, Int.cast_ofNat_Int, List.getElem?_toArray, stp, rvOf, rvLen, wput, wlk, rdv, isEff, dsOf, sgl, stq, Try.underlying22, Try.underlying23, Try.underlying24, Try.underlying3, Try.underlying33, Try.underlying36, Try.underlying5, Try.underlying53, Try.underlying9, Try.underlying99, ty22, ty23, ty24, ty36, ty33, ty53, ty99, ty3, ty5, ty9, rs24, d1, gPick]))
    exact ⟨ev3, s3⟩
  have d1 : decide (e > f) = true := decide_eq_true hef
  by_cases he0 : e > 0
  case neg =>
    have d2 : decide (e > 0) = false := decide_eq_false he0
    have hr0 : rls B id f e.toNat = [] := by rw [show e.toNat = 0 by omega]; rfl
    rw [hr0, List.append_nil] at hL
    subst hL
    refine mk_of ?_; repeat' (first | (with_reducible first | refine gw_seq ?_ | refine gw_block ?_) | ((first | (with_reducible refine mk_to ?_) | (with_reducible first | refine gw_region ?_ | refine gw_if ?_ | refine gw_skip ?_ | refine gw_exit ?_ | refine gw_ret ?_) | ((with_reducible first | refine gif_b (fun hb => ?_) (fun hb => ?_) | refine want_t (fun hb => ?_) (fun hb => ?_) | refine want_f (fun hb => ?_) (fun hb => ?_) | refine dr_t (fun hb => ?_) (fun hb => ?_) | refine dr_f (fun hb => ?_) (fun hb => ?_)) <;> (try simp only [hb]) <;> (try simp only [hpr] at hb)) | with_reducible refine gw_draw (id := 9) [(0, []), (1, []), (2, []), (3, []), (4, []), (5, []), (7, []), (8, []), (9, []), (6, [9]), (10, []), (11, []), (12, []), (13, []), (14, [])] [0, 0, 0, 0, 0, 16, 56, 0, 0, 256, 1016, 2046, 4094, 8191, 16383] mixed (by kernel_rfl) ?_) <;> try simp only [List.map, gop, ev, lk, aenv, gyield, gBin, gInt, gStrOp, gUn, gPick, gNil, gExtract, gIfc, gConvK, gIndexO, gIndexVO, gMakeV, gMinV, gMaxV, isInt, gMin, gMax, gBlt, gLenX, gCallV, gInvoke, gNilM, Array.toList_map, vcells, gField, gIndexV, gPart, reduceIte, Nat.reduceAdd, Nat.reduceSub, Nat.reduceMul, Nat.reduceLT, Nat.reduceLeDiff, Nat.reduceEqDiff, Nat.reduceBEq, Int.reduceLT, Int.reduceLE, Int.reduceGT, Int.reduceGE, Int.reduceEq, Int.reduceNe, Int.reduceAdd, Int.reduceSub, Int.reduceMul, Int.reduceNeg, Int.reduceToNat, Int.reduceBEq, Int.reduceBNe, Int.cast_ofNat_Int, List.getElem?_toArray, stp, rvOf, rvLen, wput, wlk, rdv, isEff, dsOf, sgl, stq, Try.underlying22, Try.underlying23, Try.underlying24, Try.underlying3, Try.underlying33, Try.underlying36, Try.underlying5, Try.underlying53, Try.underlying9, Try.underlying99, ty22, ty23, ty24, ty36, ty33, ty53, ty99, ty3, ty5, ty9, rs24, d1, d2, gPick]))
    exact ⟨ev3, s3⟩
  have d2 : decide (e > 0) = true := decide_eq_true he0
  obtain ⟨m, rfl⟩ : ∃ m : Nat, e = ((m + 1 : Nat) : Int) := ⟨e.toNat - 1, by omega⟩
  have hmB : m < B.length := by omega
  have wm : IntKind.i64.wrap (((m + 1 : Nat) : Int) - 1) = (m : Int) := by rw [wrap64 (by omega) (by omega)]; omega
  obtain ⟨b, hb⟩ := get_lt hmB
  obtain ⟨vb, hv, bat⟩ := x.bats m b hb
  have hbN : batN B m = b := by unfold batN; rw [hb]; rfl
  have hb10 := hbl b (List.mem_of_getElem? hb)
  obtain ⟨a4, c4, rfl, _⟩ := bat.rl.form
  obtain ⟨k5, i5, m5⟩ := x3.bat.at (P := Try.prog) Try.underlying22 sz23 (i := m) hmB
  have l5 : gLoad Try.prog 23 h3 (.pointer (some ⟨k5, m * 1, none⟩)) = some (.slice a4 b.length c4) := by rw [gload1 m5 sz23, Nat.mul_one]; exact hv
  have rls1 : rls B id f (m + 1) = mts (m + 1) b id b.length ++ rls B id f m := by simp only [rls]; rw [if_pos hef, hbN]
  have hLm : (((m + 1 : Nat) : Int)).toNat = m + 1 := rfl
  rw [hLm, rls1, ← List.append_assoc] at hL
  have hLl : L.length + (mts (m + 1) b id b.length).length ≤ 1000 := by
    have := congrArg List.length hL
    rw [List.length_append, List.length_append] at this
    omega
  refine mk_of ?_; repeat' (first | (with_reducible first | refine gw_seq ?_ | refine gw_block ?_) | ((first | (with_reducible refine mk_to ?_) | (with_reducible first | refine gw_region ?_ | refine gw_if ?_ | refine gw_skip ?_ | refine gw_exit ?_ | refine gw_ret ?_) | ((with_reducible first | refine gif_b (fun hb => ?_) (fun hb => ?_) | refine want_t (fun hb => ?_) (fun hb => ?_) | refine want_f (fun hb => ?_) (fun hb => ?_) | refine dr_t (fun hb => ?_) (fun hb => ?_) | refine dr_f (fun hb => ?_) (fun hb => ?_)) <;> (try simp only [hb]) <;> (try simp only [hpr] at hb)) | with_reducible refine gw_draw (id := 9) [(0, []), (1, []), (2, []), (3, []), (4, []), (5, []), (7, []), (8, []), (9, []), (6, [9]), (10, []), (11, []), (12, []), (13, []), (14, [])] [0, 0, 0, 0, 0, 16, 56, 0, 0, 256, 1016, 2046, 4094, 8191, 16383] mixed (by kernel_rfl) ?_) <;> try simp only [List.map, gop, ev, lk, aenv, gyield, gBin, gInt, gStrOp, gUn, gPick, gNil, gExtract, gIfc, gConvK, gIndexO, gIndexVO, gMakeV, gMinV, gMaxV, isInt, gMin, gMax, gBlt, gLenX, gCallV, gInvoke, gNilM, Array.toList_map, vcells, gField, gIndexV, gPart, reduceIte, Nat.reduceAdd, Nat.reduceSub, Nat.reduceMul, Nat.reduceLT, Nat.reduceLeDiff, Nat.reduceEqDiff, Nat.reduceBEq, Int.reduceLT, Int.reduceLE, Int.reduceGT, Int.reduceGE, Int.reduceEq, Int.reduceNe, Int.reduceAdd, Int.reduceSub, Int.reduceMul, Int.reduceNeg, Int.reduceToNat, Int.reduceBEq, Int.reduceBNe, Int.cast_ofNat_Int, List.getElem?_toArray, stp, rvOf, rvLen, wput, wlk, rdv, isEff, dsOf, sgl, stq, Try.underlying22, Try.underlying23, Try.underlying24, Try.underlying3, Try.underlying33, Try.underlying36, Try.underlying5, Try.underlying53, Try.underlying9, Try.underlying99, ty22, ty23, ty24, ty36, ty33, ty53, ty99, ty3, ty5, ty9, rs24, d1, d2, gPick, gNil, gload1 x3.obj sz22, wm, i5, l5, List.getElem?_cons_zero, List.getElem?_cons_succ]))
  refine gw_loop2 [0, 1, 2, 8, 10, 20, 21, 22, 23, 24, 25, 26, 29, 30, 31, 32, 33, 34, 35, 36, 37] (fun (y : Nat × (Option Addr × Nat × Nat)) => [(9, .slice y.2.1 y.2.2.1 y.2.2.2), (38, .int .i64 (y.1 : Int))])
    (fun q y h' => b.length - y.1 = q ∧ y.1 ≤ b.length ∧ HS h h' ∧ Evs h h' (.slice y.2.1 y.2.2.1 y.2.2.2) (L ++ mts (m + 1) b id y.1)) b.length (0, (a3, n3, c3)) (by simp [lk])
    ⟨rfl, by simp, s3, by simpa [mts] using ev3⟩ ?_
  rintro _ ⟨i, a6, n6, c6⟩ h6 ⟨rfl, hi, s6, ev6⟩
  simp only at hi ev6
  by_cases hib : i < b.length
  case neg =>
    obtain rfl : i = b.length := by omega
    have d3 : decide ((b.length : Int) < (b.length : Int)) = false := decide_eq_false (by omega)
    refine mk_of ?_; repeat' (first | (with_reducible first | refine gw_seq ?_ | refine gw_block ?_) | ((first | (with_reducible refine mk_to ?_) | (with_reducible first | refine gw_region ?_ | refine gw_if ?_ | refine gw_skip ?_ | refine gw_exit ?_ | refine gw_ret ?_) | ((with_reducible first | refine gif_b (fun hb => ?_) (fun hb => ?_) | refine want_t (fun hb => ?_) (fun hb => ?_) | refine want_f (fun hb => ?_) (fun hb => ?_) | refine dr_t (fun hb => ?_) (fun hb => ?_) | refine dr_f (fun hb => ?_) (fun hb => ?_)) <;> (try simp only [hb]) <;> (try simp only [hpr] at hb)) | with_reducible refine gw_draw (id := 9) [(0, []), (1, []), (2, []), (3, []), (4, []), (5, []), (7, []), (8, []), (9, []), (6, [9]), (10, []), (11, []), (12, []), (13, []), (14, [])] [0, 0, 0, 0, 0, 16, 56, 0, 0, 256, 1016, 2046, 4094, 8191, 16383] mixed (by kernel_rfl) ?_) <;> try simp only [List.map, gop, ev, lk, aenv, gyield, gBin, gInt, gStrOp, gUn, gPick, gNil, gExtract, gIfc, gConvK, gIndexO, gIndexVO, gMakeV, gMinV, gMaxV, isInt, gMin, gMax, gBlt, gLenX, gCallV, gInvoke, gNilM, Array.toList_map, vcells, gField, gIndexV, gPart, reduceIte, Nat.reduceAdd, Nat.reduceSub, Nat.reduceMul, Nat.reduceLT, Nat.reduceLeDiff, Nat.reduceEqDiff, Nat.reduceBEq, Int.reduceLT, Int.reduceLE, Int.reduceGT, Int.reduceGE, Int.reduceEq, Int.reduceNe, Int.reduceAdd, Int.reduceSub, Int.reduceMul, Int.reduceNeg, Int.reduceToNat, Int.reduceBEq, Int.reduceBNe, Int.cast_ofNat_Int, List.getElem?_toArray, stp, rvOf, rvLen, wput, wlk, rdv, isEff, dsOf, sgl, stq, Try.underlying22, Try.underlying23, Try.underlying24, Try.underlying3, Try.underlying33, Try.underlying36, Try.underlying5, Try.underlying53, Try.underlying9, Try.underlying99, ty22, ty23, ty24, ty36, ty33, ty53, ty99, ty3, ty5, ty9, rs24, d3, wm]))
    exact ⟨_, ((m : Int), (a6, n6, c6)), by simp, (by simp only [List.forall_mem_cons, List.not_mem_nil, false_implies, implies_true, List.map, List.cons_append, List.nil_append, lk, Nat.reduceEqDiff, reduceIte, and_true, true_and]), rfl, by simp only; omega, s6, _, ev6, hL⟩
  have d3 : decide ((i : Int) < (b.length : Int)) = true := decide_eq_true (by omega)
  have wi : IntKind.i64.wrap ((i : Int) + 1) = ((i + 1 : Nat) : Int) := by rw [wrap64 (by omega) (by omega)]; omega
  obtain ⟨y, hy⟩ := get_lt hib
  have hby : bat1 b i = y := by simp [bat1, hy]
  have hyl := (x.bl b (List.mem_of_getElem? hb)).2 y (List.mem_of_getElem? hy)
  obtain ⟨ad, cs2, g1, g2, a', n', c', b', m', d', rfl, q1, q2⟩ := (bat.hs s6).rl.at (P := Try.prog) Try.underlying23 sz99 hy
  have l6 : gLoad Try.prog 99 h6 (.pointer (some ad)) = some (.agg #[.slice a' n' c', .slice b' m' d']) := by simp only [gLoad, sz99, g2]; rfl
  refine mk_of ?_; repeat' (first | (with_reducible first | refine gw_seq ?_ | refine gw_block ?_) | ((first | (with_reducible refine mk_to ?_) | (with_reducible first | refine gw_region ?_ | refine gw_if ?_ | refine gw_skip ?_ | refine gw_exit ?_ | refine gw_ret ?_) | ((with_reducible first | refine gif_b (fun hb => ?_) (fun hb => ?_) | refine want_t (fun hb => ?_) (fun hb => ?_) | refine want_f (fun hb => ?_) (fun hb => ?_) | refine dr_t (fun hb => ?_) (fun hb => ?_) | refine dr_f (fun hb => ?_) (fun hb => ?_)) <;> (try simp only [hb]) <;> (try simp only [hpr] at hb)) | with_reducible refine gw_draw (id := 9) [(0, []), (1, []), (2, []), (3, []), (4, []), (5, []), (7, []), (8, []), (9, []), (6, [9]), (10, []), (11, []), (12, []), (13, []), (14, [])] [0, 0, 0, 0, 0, 16, 56, 0, 0, 256, 1016, 2046, 4094, 8191, 16383] mixed (by kernel_rfl) ?_) <;> try simp only [List.map, gop, ev, lk, aenv, gyield, gBin, gInt, gStrOp, gUn, gPick, gNil, gExtract, gIfc, gConvK, gIndexO, gIndexVO, gMakeV, gMinV, gMaxV, isInt, gMin, gMax, gBlt, gLenX, gCallV, gInvoke, gNilM, Array.toList_map, vcells, gField, gIndexV, gPart, reduceIte, Nat.reduceAdd, Nat.reduceSub, Nat.reduceMul, Nat.reduceLT, Nat.reduceLeDiff, Nat.reduceEqDiff, Nat.reduceBEq, Int.reduceLT, Int.reduceLE, Int.reduceGT, Int.reduceGE, Int.reduceEq, Int.reduceNe, Int.reduceAdd, Int.reduceSub, Int.reduceMul, Int.reduceNeg, Int.reduceToNat, Int.reduceBEq, Int.reduceBNe, Int.cast_ofNat_Int, List.getElem?_toArray, stp, rvOf, rvLen, wput, wlk, rdv, isEff, dsOf, sgl, stq, Try.underlying22, Try.underlying23, Try.underlying24, Try.underlying3, Try.underlying33, Try.underlying36, Try.underlying5, Try.underlying53, Try.underlying9, Try.underlying99, ty22, ty23, ty24, ty36, ty33, ty53, ty99, ty3, ty5, ty9, rs24, d3, g1, l6]))
  refine new_g fun k7 h7 m7 s7 f7 n7 => ?_
  refine mk_of ?_; repeat' (first | (with_reducible first | refine gw_seq ?_ | refine gw_block ?_) | ((first | (with_reducible refine mk_to ?_) | (with_reducible first | refine gw_region ?_ | refine gw_if ?_ | refine gw_skip ?_ | refine gw_exit ?_ | refine gw_ret ?_) | ((with_reducible first | refine gif_b (fun hb => ?_) (fun hb => ?_) | refine want_t (fun hb => ?_) (fun hb => ?_) | refine want_f (fun hb => ?_) (fun hb => ?_) | refine dr_t (fun hb => ?_) (fun hb => ?_) | refine dr_f (fun hb => ?_) (fun hb => ?_)) <;> (try simp only [hb]) <;> (try simp only [hpr] at hb)) | with_reducible refine gw_draw (id := 9) [(0, []), (1, []), (2, []), (3, []), (4, []), (5, []), (7, []), (8, []), (9, []), (6, [9]), (10, []), (11, []), (12, []), (13, []), (14, [])] [0, 0, 0, 0, 0, 16, 56, 0, 0, 256, 1016, 2046, 4094, 8191, 16383] mixed (by kernel_rfl) ?_) <;> try simp only [List.map, gop, ev, lk, aenv, gyield, gBin, gInt, gStrOp, gUn, gPick, gNil, gExtract, gIfc, gConvK, gIndexO, gIndexVO, gMakeV, gMinV, gMaxV, isInt, gMin, gMax, gBlt, gLenX, gCallV, gInvoke, gNilM, Array.toList_map, vcells, gField, gIndexV, gPart, reduceIte, Nat.reduceAdd, Nat.reduceSub, Nat.reduceMul, Nat.reduceLT, Nat.reduceLeDiff, Nat.reduceEqDiff, Nat.reduceBEq, Int.reduceLT, Int.reduceLE, Int.reduceGT, Int.reduceGE, Int.reduceEq, Int.reduceNe, Int.reduceAdd, Int.reduceSub, Int.reduceMul, Int.reduceNeg, Int.reduceToNat, Int.reduceBEq, Int.reduceBNe, Int.cast_ofNat_Int, List.getElem?_toArray, stp, rvOf, rvLen, wput, wlk, rdv, isEff, dsOf, sgl, stq, Try.underlying22, Try.underlying23, Try.underlying24, Try.underlying3, Try.underlying33, Try.underlying36, Try.underlying5, Try.underlying53, Try.underlying9, Try.underlying99, ty22, ty23, ty24, ty36, ty33, ty53, ty99, ty3, ty5, ty9, rs24]))
  refine st_all m7 sz99 rfl (by decide) rfl rfl rfl fun h8 m8 f8 => ?_
  have s8 : HS h6 h8 := (HS.refl h6).upd n7 (fun j hj => (f8 j hj).trans (f7 j hj))
  have cv1 := (q1.hs s8).conv Try.underlying24 Try.underlying5 Try.underlying9
  have cv2 := ((r.hs s6).hs s8).conv Try.underlying24 Try.underlying5 Try.underlying9
  by_cases hpq : y.1 = id
  case neg =>
    have e1 : (y.1 == id) = false := by simpa using hpq
    refine mk_of ?_; repeat' (first | (with_reducible first | refine gw_seq ?_ | refine gw_block ?_) | ((first | (with_reducible refine mk_to ?_) | (with_reducible first | refine gw_region ?_ | refine gw_if ?_ | refine gw_skip ?_ | refine gw_exit ?_ | refine gw_ret ?_) | ((with_reducible first | refine gif_b (fun hb => ?_) (fun hb => ?_) | refine want_t (fun hb => ?_) (fun hb => ?_) | refine want_f (fun hb => ?_) (fun hb => ?_) | refine dr_t (fun hb => ?_) (fun hb => ?_) | refine dr_f (fun hb => ?_) (fun hb => ?_)) <;> (try simp only [hb]) <;> (try simp only [hpr] at hb)) | with_reducible refine gw_draw (id := 9) [(0, []), (1, []), (2, []), (3, []), (4, []), (5, []), (7, []), (8, []), (9, []), (6, [9]), (10, []), (11, []), (12, []), (13, []), (14, [])] [0, 0, 0, 0, 0, 16, 56, 0, 0, 256, 1016, 2046, 4094, 8191, 16383] mixed (by kernel_rfl) ?_) <;> try simp only [List.map, gop, ev, lk, aenv, gyield, gBin, gInt, gStrOp, gUn, gPick, gNil, gExtract, gIfc, gConvK, gIndexO, gIndexVO, gMakeV, gMinV, gMaxV, isInt, gMin, gMax, gBlt, gLenX, gCallV, gInvoke, gNilM, Array.toList_map, vcells, gField, gIndexV, gPart, reduceIte, Nat.reduceAdd, Nat.reduceSub, Nat.reduceMul, Nat.reduceLT, Nat.reduceLeDiff, Nat.reduceEqDiff, Nat.reduceBEq, Int.reduceLT, Int.reduceLE, Int.reduceGT, Int.reduceGE, Int.reduceEq, Int.reduceNe, Int.reduceAdd, Int.reduceSub, Int.reduceMul, Int.reduceNeg, Int.reduceToNat, Int.reduceBEq, Int.reduceBNe, Int.cast_ofNat_Int, List.getElem?_toArray, stp, rvOf, rvLen, wput, wlk, rdv, isEff, dsOf, sgl, stq, Try.underlying22, Try.underlying23, Try.underlying24, Try.underlying3, Try.underlying33, Try.underlying36, Try.underlying5, Try.underlying53, Try.underlying9, Try.underlying99, ty22, ty23, ty24, ty36, ty33, ty53, ty99, ty3, ty5, ty9, rs24, gload1 m8 sz24, List.getElem?_cons_zero, List.getElem?_cons_succ, cv1, cv2, bstr_eq, e1, wi]))
    have hm : mts (m + 1) b id (i + 1) = mts (m + 1) b id i := by simp only [mts, hby]; rw [if_neg hpq, List.append_nil]
    exact ⟨_, (i + 1, a6, n6, c6), by simp only; omega, (by simp only [List.forall_mem_cons, List.not_mem_nil, false_implies, implies_true, List.map, List.cons_append, List.nil_append, lk, Nat.reduceEqDiff, reduceIte, and_true, true_and]), rfl, by simp only; omega, s6.trans s8, by simp only [hm]; exact ev6.hs s8⟩
  have e1 : (y.1 == id) = true := by simpa using hpq
  have hm : mts (m + 1) b id (i + 1) = mts (m + 1) b id i ++ [(m + 1, i, y)] := by simp only [mts, hby]; rw [if_pos hpq]
  have iz : (!(#[] : Array (Nat × Operand)).size == 0) = false := rfl
  refine mk_of ?_; repeat' (first | (with_reducible first | refine gw_seq ?_ | refine gw_block ?_) | ((first | (with_reducible refine mk_to ?_) | (with_reducible first | refine gw_region ?_ | refine gw_if ?_ | refine gw_skip ?_ | refine gw_exit ?_ | refine gw_ret ?_) | ((with_reducible first | refine gif_b (fun hb => ?_) (fun hb => ?_) | refine want_t (fun hb => ?_) (fun hb => ?_) | refine want_f (fun hb => ?_) (fun hb => ?_) | refine dr_t (fun hb => ?_) (fun hb => ?_) | refine dr_f (fun hb => ?_) (fun hb => ?_)) <;> (try simp only [hb]) <;> (try simp only [hpr] at hb)) | with_reducible refine gw_draw (id := 9) [(0, []), (1, []), (2, []), (3, []), (4, []), (5, []), (7, []), (8, []), (9, []), (6, [9]), (10, []), (11, []), (12, []), (13, []), (14, [])] [0, 0, 0, 0, 0, 16, 56, 0, 0, 256, 1016, 2046, 4094, 8191, 16383] mixed (by kernel_rfl) ?_) <;> try simp only [List.map, gop, ev, lk, aenv, gyield, gBin, gInt, gStrOp, gUn, gPick, gNil, gExtract, gIfc, gConvK, gIndexO, gIndexVO, gMakeV, gMinV, gMaxV, isInt, gMin, gMax, gBlt, gLenX, gCallV, gInvoke, gNilM, Array.toList_map, vcells, gField, gIndexV, gPart, reduceIte, Nat.reduceAdd, Nat.reduceSub, Nat.reduceMul, Nat.reduceLT, Nat.reduceLeDiff, Nat.reduceEqDiff, Nat.reduceBEq, Int.reduceLT, Int.reduceLE, Int.reduceGT, Int.reduceGE, Int.reduceEq, Int.reduceNe, Int.reduceAdd, Int.reduceSub, Int.reduceMul, Int.reduceNeg, Int.reduceToNat, Int.reduceBEq, Int.reduceBNe, Int.cast_ofNat_Int, List.getElem?_toArray, stp, rvOf, rvLen, wput, wlk, rdv, isEff, dsOf, sgl, stq, Try.underlying22, Try.underlying23, Try.underlying24, Try.underlying3, Try.underlying33, Try.underlying36, Try.underlying5, Try.underlying53, Try.underlying9, Try.underlying99, ty22, ty23, ty24, ty36, ty33, ty53, ty99, ty3, ty5, ty9, rs24, gload1 m8 sz24, List.getElem?_cons_zero, List.getElem?_cons_succ, cv1, cv2, bstr_eq, e1, iz]))
  refine bs0_g el24 rfl ?_
  refine mk_of ?_; repeat' (first | (with_reducible first | refine gw_seq ?_ | refine gw_block ?_) | ((first | (with_reducible refine mk_to ?_) | (with_reducible first | refine gw_region ?_ | refine gw_if ?_ | refine gw_skip ?_ | refine gw_exit ?_ | refine gw_ret ?_) | ((with_reducible first | refine gif_b (fun hb => ?_) (fun hb => ?_) | refine want_t (fun hb => ?_) (fun hb => ?_) | refine want_f (fun hb => ?_) (fun hb => ?_) | refine dr_t (fun hb => ?_) (fun hb => ?_) | refine dr_f (fun hb => ?_) (fun hb => ?_)) <;> (try simp only [hb]) <;> (try simp only [hpr] at hb)) | with_reducible refine gw_draw (id := 9) [(0, []), (1, []), (2, []), (3, []), (4, []), (5, []), (7, []), (8, []), (9, []), (6, [9]), (10, []), (11, []), (12, []), (13, []), (14, [])] [0, 0, 0, 0, 0, 16, 56, 0, 0, 256, 1016, 2046, 4094, 8191, 16383] mixed (by kernel_rfl) ?_) <;> try simp only [List.map, gop, ev, lk, aenv, gyield, gBin, gInt, gStrOp, gUn, gPick, gNil, gExtract, gIfc, gConvK, gIndexO, gIndexVO, gMakeV, gMinV, gMaxV, isInt, gMin, gMax, gBlt, gLenX, gCallV, gInvoke, gNilM, Array.toList_map, vcells, gField, gIndexV, gPart, reduceIte, Nat.reduceAdd, Nat.reduceSub, Nat.reduceMul, Nat.reduceLT, Nat.reduceLeDiff, Nat.reduceEqDiff, Nat.reduceBEq, Int.reduceLT, Int.reduceLE, Int.reduceGT, Int.reduceGE, Int.reduceEq, Int.reduceNe, Int.reduceAdd, Int.reduceSub, Int.reduceMul, Int.reduceNeg, Int.reduceToNat, Int.reduceBEq, Int.reduceBNe, Int.cast_ofNat_Int, List.getElem?_toArray, stp, rvOf, rvLen, wput, wlk, rdv, isEff, dsOf, sgl, stq, Try.underlying22, Try.underlying23, Try.underlying24, Try.underlying3, Try.underlying33, Try.underlying36, Try.underlying5, Try.underlying53, Try.underlying9, Try.underlying99, ty22, ty23, ty24, ty36, ty33, ty53, ty99, ty3, ty5, ty9, rs24, iz, gload1 m8 sz24, List.getElem?_cons_zero, List.getElem?_cons_succ]))
  refine bs0_g el24 rfl ?_
  refine mk_of ?_; repeat' (first | (with_reducible first | refine gw_seq ?_ | refine gw_block ?_) | ((first | (with_reducible refine mk_to ?_) | (with_reducible first | refine gw_region ?_ | refine gw_if ?_ | refine gw_skip ?_ | refine gw_exit ?_ | refine gw_ret ?_) | ((with_reducible first | refine gif_b (fun hb => ?_) (fun hb => ?_) | refine want_t (fun hb => ?_) (fun hb => ?_) | refine want_f (fun hb => ?_) (fun hb => ?_) | refine dr_t (fun hb => ?_) (fun hb => ?_) | refine dr_f (fun hb => ?_) (fun hb => ?_)) <;> (try simp only [hb]) <;> (try simp only [hpr] at hb)) | with_reducible refine gw_draw (id := 9) [(0, []), (1, []), (2, []), (3, []), (4, []), (5, []), (7, []), (8, []), (9, []), (6, [9]), (10, []), (11, []), (12, []), (13, []), (14, [])] [0, 0, 0, 0, 0, 16, 56, 0, 0, 256, 1016, 2046, 4094, 8191, 16383] mixed (by kernel_rfl) ?_) <;> try simp only [List.map, gop, ev, lk, aenv, gyield, gBin, gInt, gStrOp, gUn, gPick, gNil, gExtract, gIfc, gConvK, gIndexO, gIndexVO, gMakeV, gMinV, gMaxV, isInt, gMin, gMax, gBlt, gLenX, gCallV, gInvoke, gNilM, Array.toList_map, vcells, gField, gIndexV, gPart, reduceIte, Nat.reduceAdd, Nat.reduceSub, Nat.reduceMul, Nat.reduceLT, Nat.reduceLeDiff, Nat.reduceEqDiff, Nat.reduceBEq, Int.reduceLT, Int.reduceLE, Int.reduceGT, Int.reduceGE, Int.reduceEq, Int.reduceNe, Int.reduceAdd, Int.reduceSub, Int.reduceMul, Int.reduceNeg, Int.reduceToNat, Int.reduceBEq, Int.reduceBNe, Int.cast_ofNat_Int, List.getElem?_toArray, stp, rvOf, rvLen, wput, wlk, rdv, isEff, dsOf, sgl, stq, Try.underlying22, Try.underlying23, Try.underlying24, Try.underlying3, Try.underlying33, Try.underlying36, Try.underlying5, Try.underlying53, Try.underlying9, Try.underlying99, ty22, ty23, ty24, ty36, ty33, ty53, ty99, ty3, ty5, ty9, rs24, iz, gload1 m8 sz24, List.getElem?_cons_zero, List.getElem?_cons_succ]))
  refine append_own el24 Try.underlying24 rfl (HS.refl h8) (OWN.zero _ _ _) (q1.hs s8).src (by simpa using hyl.1) fun v10 h10 s10 _ o10 => ?_
  rw [List.nil_append] at o10
  obtain ⟨a10, c10, rfl⟩ := o10.form
  have m10 := s10 _ _ m8
  refine mk_of ?_; repeat' (first | (with_reducible first | refine gw_seq ?_ | refine gw_block ?_) | ((first | (with_reducible refine mk_to ?_) | (with_reducible first | refine gw_region ?_ | refine gw_if ?_ | refine gw_skip ?_ | refine gw_exit ?_ | refine gw_ret ?_) | ((with_reducible first | refine gif_b (fun hb => ?_) (fun hb => ?_) | refine want_t (fun hb => ?_) (fun hb => ?_) | refine want_f (fun hb => ?_) (fun hb => ?_) | refine dr_t (fun hb => ?_) (fun hb => ?_) | refine dr_f (fun hb => ?_) (fun hb => ?_)) <;> (try simp only [hb]) <;> (try simp only [hpr] at hb)) | with_reducible refine gw_draw (id := 9) [(0, []), (1, []), (2, []), (3, []), (4, []), (5, []), (7, []), (8, []), (9, []), (6, [9]), (10, []), (11, []), (12, []), (13, []), (14, [])] [0, 0, 0, 0, 0, 16, 56, 0, 0, 256, 1016, 2046, 4094, 8191, 16383] mixed (by kernel_rfl) ?_) <;> try simp only [List.map, gop, ev, lk, aenv, gyield, gBin, gInt, gStrOp, gUn, gPick, gNil, gExtract, gIfc, gConvK, gIndexO, gIndexVO, gMakeV, gMinV, gMaxV, isInt, gMin, gMax, gBlt, gLenX, gCallV, gInvoke, gNilM, Array.toList_map, vcells, gField, gIndexV, gPart, reduceIte, Nat.reduceAdd, Nat.reduceSub, Nat.reduceMul, Nat.reduceLT, Nat.reduceLeDiff, Nat.reduceEqDiff, Nat.reduceBEq, Int.reduceLT, Int.reduceLE, Int.reduceGT, Int.reduceGE, Int.reduceEq, Int.reduceNe, Int.reduceAdd, Int.reduceSub, Int.reduceMul, Int.reduceNeg, Int.reduceToNat, Int.reduceBEq, Int.reduceBNe, Int.cast_ofNat_Int, List.getElem?_toArray, stp, rvOf, rvLen, wput, wlk, rdv, isEff, dsOf, sgl, stq, Try.underlying22, Try.underlying23, Try.underlying24, Try.underlying3, Try.underlying33, Try.underlying36, Try.underlying5, Try.underlying53, Try.underlying9, Try.underlying99, ty22, ty23, ty24, ty36, ty33, ty53, ty99, ty3, ty5, ty9, rs24, iz, gload1 m10 sz24, List.getElem?_cons_zero, List.getElem?_cons_succ]))
  refine append_own el24 Try.underlying24 rfl (HS.refl h10) (OWN.zero _ _ _) ((q2.hs s8).hs s10).src (by simpa using hyl.2) fun v11 h11 s11 _ o11 => ?_
  rw [List.nil_append] at o11
  obtain ⟨a11, c11, rfl⟩ := o11.form
  refine mk_of ?_; repeat' (first | (with_reducible first | refine gw_seq ?_ | refine gw_block ?_) | ((first | (with_reducible refine mk_to ?_) | (with_reducible first | refine gw_region ?_ | refine gw_if ?_ | refine gw_skip ?_ | refine gw_exit ?_ | refine gw_ret ?_) | ((with_reducible first | refine gif_b (fun hb => ?_) (fun hb => ?_) | refine want_t (fun hb => ?_) (fun hb => ?_) | refine want_f (fun hb => ?_) (fun hb => ?_) | refine dr_t (fun hb => ?_) (fun hb => ?_) | refine dr_f (fun hb => ?_) (fun hb => ?_)) <;> (try simp only [hb]) <;> (try simp only [hpr] at hb)) | with_reducible refine gw_draw (id := 9) [(0, []), (1, []), (2, []), (3, []), (4, []), (5, []), (7, []), (8, []), (9, []), (6, [9]), (10, []), (11, []), (12, []), (13, []), (14, [])] [0, 0, 0, 0, 0, 16, 56, 0, 0, 256, 1016, 2046, 4094, 8191, 16383] mixed (by kernel_rfl) ?_) <;> try simp only [List.map, gop, ev, lk, aenv, gyield, gBin, gInt, gStrOp, gUn, gPick, gNil, gExtract, gIfc, gConvK, gIndexO, gIndexVO, gMakeV, gMinV, gMaxV, isInt, gMin, gMax, gBlt, gLenX, gCallV, gInvoke, gNilM, Array.toList_map, vcells, gField, gIndexV, gPart, reduceIte, Nat.reduceAdd, Nat.reduceSub, Nat.reduceMul, Nat.reduceLT, Nat.reduceLeDiff, Nat.reduceEqDiff, Nat.reduceBEq, Int.reduceLT, Int.reduceLE, Int.reduceGT, Int.reduceGE, Int.reduceEq, Int.reduceNe, Int.reduceAdd, Int.reduceSub, Int.reduceMul, Int.reduceNeg, Int.reduceToNat, Int.reduceBEq, Int.reduceBNe, Int.cast_ofNat_Int, List.getElem?_toArray, stp, rvOf, rvLen, wput, wlk, rdv, isEff, dsOf, sgl, stq, Try.underlying22, Try.underlying23, Try.underlying24, Try.underlying3, Try.underlying33, Try.underlying36, Try.underlying5, Try.underlying53, Try.underlying9, Try.underlying99, ty22, ty23, ty24, ty36, ty33, ty53, ty99, ty3, ty5, ty9, rs24, gBuild, lfill, lput, Shape.pl, List.all_cons, List.all_nil, isCell, Bool.false_and, Bool.not_false]))
  refine bsn1_g el36 rfl rfl (by decide) (by decide) rfl fun k12 h12 b12 s12 f12 n12 => ?_
  have s612 : HS h6 h12 := ((s8.trans s10).trans s11).trans s12
  have ev12 := ev6.hs s612
  obtain ⟨ds, o12, u12, r12⟩ := ev12
  have hn6 : n6 = (L ++ mts (m + 1) b id i).length := by
    obtain ⟨_, _, q⟩ := o12.form
    cases q; rfl
  subst hn6
  have hml := mts_len (m + 1) b id i
  have hds := o12.len
  refine mk_of ?_; repeat' (first | (with_reducible first | refine gw_seq ?_ | refine gw_block ?_) | ((first | (with_reducible refine mk_to ?_) | (with_reducible first | refine gw_region ?_ | refine gw_if ?_ | refine gw_skip ?_ | refine gw_exit ?_ | refine gw_ret ?_) | ((with_reducible first | refine gif_b (fun hb => ?_) (fun hb => ?_) | refine want_t (fun hb => ?_) (fun hb => ?_) | refine want_f (fun hb => ?_) (fun hb => ?_) | refine dr_t (fun hb => ?_) (fun hb => ?_) | refine dr_f (fun hb => ?_) (fun hb => ?_)) <;> (try simp only [hb]) <;> (try simp only [hpr] at hb)) | with_reducible refine gw_draw (id := 9) [(0, []), (1, []), (2, []), (3, []), (4, []), (5, []), (7, []), (8, []), (9, []), (6, [9]), (10, []), (11, []), (12, []), (13, []), (14, [])] [0, 0, 0, 0, 0, 16, 56, 0, 0, 256, 1016, 2046, 4094, 8191, 16383] mixed (by kernel_rfl) ?_) <;> try simp only [List.map, gop, ev, lk, aenv, gyield, gBin, gInt, gStrOp, gUn, gPick, gNil, gExtract, gIfc, gConvK, gIndexO, gIndexVO, gMakeV, gMinV, gMaxV, isInt, gMin, gMax, gBlt, gLenX, gCallV, gInvoke, gNilM, Array.toList_map, vcells, gField, gIndexV, gPart, reduceIte, Nat.reduceAdd, Nat.reduceSub, Nat.reduceMul, Nat.reduceLT, Nat.reduceLeDiff, Nat.reduceEqDiff, Nat.reduceBEq, Int.reduceLT, Int.reduceLE, Int.reduceGT, Int.reduceGE, Int.reduceEq, Int.reduceNe, Int.reduceAdd, Int.reduceSub, Int.reduceMul, Int.reduceNeg, Int.reduceToNat, Int.reduceBEq, Int.reduceBNe, Int.cast_ofNat_Int, List.getElem?_toArray, stp, rvOf, rvLen, wput, wlk, rdv, isEff, dsOf, sgl, stq, Try.underlying22, Try.underlying23, Try.underlying24, Try.underlying3, Try.underlying33, Try.underlying36, Try.underlying5, Try.underlying53, Try.underlying9, Try.underlying99, ty22, ty23, ty24, ty36, ty33, ty53, ty99, ty3, ty5, ty9, rs24]))
  refine append_ownc el36 Try.underlying36 rfl (s6.trans s612) o12 b12 rfl rfl (by rw [List.length_append]; omega) (by rw [List.length_append]; simp only [maxLen]; omega) fun v13 h13 s13 fr13 o13 => ?_
  obtain ⟨a13, c13, rfl⟩ := o13.form
  refine mk_of ?_; repeat' (first | (with_reducible first | refine gw_seq ?_ | refine gw_block ?_) | ((first | (with_reducible refine mk_to ?_) | (with_reducible first | refine gw_region ?_ | refine gw_if ?_ | refine gw_skip ?_ | refine gw_exit ?_ | refine gw_ret ?_) | ((with_reducible first | refine gif_b (fun hb => ?_) (fun hb => ?_) | refine want_t (fun hb => ?_) (fun hb => ?_) | refine want_f (fun hb => ?_) (fun hb => ?_) | refine dr_t (fun hb => ?_) (fun hb => ?_) | refine dr_f (fun hb => ?_) (fun hb => ?_)) <;> (try simp only [hb]) <;> (try simp only [hpr] at hb)) | with_reducible refine gw_draw (id := 9) [(0, []), (1, []), (2, []), (3, []), (4, []), (5, []), (7, []), (8, []), (9, []), (6, [9]), (10, []), (11, []), (12, []), (13, []), (14, [])] [0, 0, 0, 0, 0, 16, 56, 0, 0, 256, 1016, 2046, 4094, 8191, 16383] mixed (by kernel_rfl) ?_) <;> try simp only [List.map, gop, ev, lk, aenv, gyield, gBin, gInt, gStrOp, gUn, gPick, gNil, gExtract, gIfc, gConvK, gIndexO, gIndexVO, gMakeV, gMinV, gMaxV, isInt, gMin, gMax, gBlt, gLenX, gCallV, gInvoke, gNilM, Array.toList_map, vcells, gField, gIndexV, gPart, reduceIte, Nat.reduceAdd, Nat.reduceSub, Nat.reduceMul, Nat.reduceLT, Nat.reduceLeDiff, Nat.reduceEqDiff, Nat.reduceBEq, Int.reduceLT, Int.reduceLE, Int.reduceGT, Int.reduceGE, Int.reduceEq, Int.reduceNe, Int.reduceAdd, Int.reduceSub, Int.reduceMul, Int.reduceNeg, Int.reduceToNat, Int.reduceBEq, Int.reduceBNe, Int.cast_ofNat_Int, List.getElem?_toArray, stp, rvOf, rvLen, wput, wlk, rdv, isEff, dsOf, sgl, stq, Try.underlying22, Try.underlying23, Try.underlying24, Try.underlying3, Try.underlying33, Try.underlying36, Try.underlying5, Try.underlying53, Try.underlying9, Try.underlying99, ty22, ty23, ty24, ty36, ty33, ty53, ty99, ty3, ty5, ty9, rs24, wi]))
  have keep : ∀ {q : List Value} {ee : Nat × Nat × Bnd}, Ev h12 q ee → Ev h13 q ee := fun {q ee} w => by
    obtain ⟨a, c, b, d, e, r1, r2⟩ := w
    exact ⟨a, c, b, d, e, fr_rb fr13 u12 r1, fr_rb fr13 u12 r2⟩
  refine ⟨_, (i + 1, a13, (L ++ mts (m + 1) b id i).length + 1, c13), by simp only; omega, (by simp only [List.forall_mem_cons, List.not_mem_nil, false_implies, implies_true, List.map, List.cons_append, List.nil_append, lk, Nat.reduceEqDiff, reduceIte, and_true, true_and]), rfl, by simp only; omega, s13, ?_⟩
  simp only [hm, ← List.append_assoc]
  have hl2 : (L ++ mts (m + 1) b id i ++ [(m + 1, i, y)]).length = (L ++ mts (m + 1) b id i).length + 1 := by rw [List.length_append]; rfl
  rw [← hl2] at o13
  have hev : Ev h12 [.int .i64 ((m + 1 : Nat) : Int), .int .i64 (i : Int), .slice a10 y.1.length c10, .slice a11 y.2.length c11] (m + 1, i, y) := ⟨_, _, _, _, rfl, ((o10.rb.hs s11).hs s12), (o11.rb.hs s12)⟩
  rw [← hl2]
  exact ⟨_, o13, by rw [List.all_append, u12]; rfl, app_el (R := Ev h13) hds rfl (fun i p hp => keep (r12 i p hp)) (keep hev)⟩
end Go.Gh

/- Versions: what the document's own index tells of an epoch; texts compared. -/

namespace Go.Gh
open Go Go.Proofs Go.RowKit
set_option linter.unusedVariables false
set_option linter.unusedSimpArgs false
set_option maxRecDepth 100000
set_option maxHeartbeats 4000000

def hdE (L : List (Nat × Nat × Bnd)) : (Nat × Nat × Bnd) × Bool := match L[0]? with
  | some x => (x, true)
  | none => ((0, 0, [], []), false)
theorem c_rAt (N : Nat) {h0 h : GH} {k : Nat} {bv : Value} {cs : List Value} {B : List (List Bnd)} (x : RX h0 h k bv cs B) (hB : B.length ≤ 100) {a : Option Addr} {n c : Nat} {id : List UInt8} (r : RB h (.slice a n c) id) (t : Int) :
    GTri Try.prog N 23 [.pointer (some ⟨k, 0, none⟩), .slice a n c, .int .i64 t] h fun v h' => (∃ cs, v = .tuple #[.agg cs.toArray, .bool (hdE (rls B id 0 (min t (B.length : Int)).toNat)).2] ∧ Ev h' cs (hdE (rls B id 0 (min t (B.length : Int)).toNat)).1) ∧ HS h h' := by
  refine gtri Try.func23 rfl gf23 ok23 (by simp [Try.ntmps23]) ?_
  repeat' (first | (with_reducible first | refine gw_seq ?_ | refine gw_block ?_) | ((first | (with_reducible first | refine gw_region ?_ | refine gw_if ?_ | refine gw_skip ?_ | refine gw_exit ?_ | refine gw_ret ?_) | ((with_reducible first | refine gif_b (fun hb => ?_) (fun hb => ?_) | refine want_t (fun hb => ?_) (fun hb => ?_) | refine want_f (fun hb => ?_) (fun hb => ?_)) <;> (try simp only [hb]) <;> (try simp only [hpr] at hb))) <;> try simp only [List.map, gop, ev, lk, aenv, gyield, gBin, gInt, gStrOp, gUn, gPick, gNil, gExtract, gIfc, gConvK, gIndexO, gIndexVO, gMakeV, gMinV, gMaxV, isInt, gMin, gMax, gBlt, gLenX, gCallV, gInvoke, gNilM, Array.toList_map, vcells, gField, gIndexV, gPart, reduceIte, Nat.reduceAdd, Nat.reduceSub, Nat.reduceMul, Nat.reduceLT, Nat.reduceLeDiff, Nat.reduceEqDiff, Nat.reduceBEq, Int.reduceLT, Int.reduceLE, Int.reduceGT, Int.reduceGE, Int.reduceEq, Int.reduceNe, Int.reduceAdd, Int.reduceSub, Int.reduceMul, Int.reduceNeg, Int.reduceToNat, Int.reduceBEq, Int.reduceBNe, Int.cast_ofNat_Int, List.getElem?_toArray, stp, Try.underlying24, Try.underlying3, Try.underlying33, Try.underlying36, Try.underlying5, Try.underlying51, Try.underlying53, ty24, ty36, ty33, ty53, ty3, ty5, ty51, rs23]))
  refine new_g fun k1 h1 m1 s1 f1 n1 => ?_
  have x1 := x.hs s1
  refine mk_of ?_; repeat' (first | (with_reducible first | refine gw_seq ?_ | refine gw_block ?_) | ((first | (with_reducible refine mk_to ?_) | (with_reducible first | refine gw_region ?_ | refine gw_if ?_ | refine gw_skip ?_ | refine gw_exit ?_ | refine gw_ret ?_) | ((with_reducible first | refine gif_b (fun hb => ?_) (fun hb => ?_) | refine want_t (fun hb => ?_) (fun hb => ?_) | refine want_f (fun hb => ?_) (fun hb => ?_)) <;> (try simp only [hb]) <;> (try simp only [hpr] at hb))) <;> try simp only [List.map, gop, ev, lk, aenv, gyield, gBin, gInt, gStrOp, gUn, gPick, gNil, gExtract, gIfc, gConvK, gIndexO, gIndexVO, gMakeV, gMinV, gMaxV, isInt, gMin, gMax, gBlt, gLenX, gCallV, gInvoke, gNilM, Array.toList_map, vcells, gField, gIndexV, gPart, reduceIte, Nat.reduceAdd, Nat.reduceSub, Nat.reduceMul, Nat.reduceLT, Nat.reduceLeDiff, Nat.reduceEqDiff, Nat.reduceBEq, Int.reduceLT, Int.reduceLE, Int.reduceGT, Int.reduceGE, Int.reduceEq, Int.reduceNe, Int.reduceAdd, Int.reduceSub, Int.reduceMul, Int.reduceNeg, Int.reduceToNat, Int.reduceBEq, Int.reduceBNe, Int.cast_ofNat_Int, List.getElem?_toArray, stp, Try.underlying24, Try.underlying3, Try.underlying33, Try.underlying36, Try.underlying5, Try.underlying51, Try.underlying53, ty24, ty36, ty33, ty53, ty3, ty5, ty51, rs23]))
  refine (c_rList N x1 hB (r.hs s1) 0 t).mono ?_
  rintro _ h3 ⟨ev3, s3⟩
  have hbl : ∀ b ∈ B, b.length ≤ 10 := fun b hb => (x.bl b hb).1
  have hrl := rls_len B hbl id 0 (min t (B.length : Int)).toNat
  generalize hL : rls B id 0 (min t (B.length : Int)).toNat = L at ev3 hrl ⊢
  obtain ⟨a3, c3, rfl, _⟩ := ev3.rl.form
  have m3 := s3 _ _ m1
  by_cases hn : L = []
  · subst hn
    have d0 : ((0 : Int) == 0) = true := rfl
    refine mk_of ?_; repeat' (first | (with_reducible first | refine gw_seq ?_ | refine gw_block ?_) | ((first | (with_reducible refine mk_to ?_) | (with_reducible first | refine gw_region ?_ | refine gw_if ?_ | refine gw_skip ?_ | refine gw_exit ?_ | refine gw_ret ?_) | ((with_reducible first | refine gif_b (fun hb => ?_) (fun hb => ?_) | refine want_t (fun hb => ?_) (fun hb => ?_) | refine want_f (fun hb => ?_) (fun hb => ?_)) <;> (try simp only [hb]) <;> (try simp only [hpr] at hb))) <;> try simp only [List.map, gop, ev, lk, aenv, gyield, gBin, gInt, gStrOp, gUn, gPick, gNil, gExtract, gIfc, gConvK, gIndexO, gIndexVO, gMakeV, gMinV, gMaxV, isInt, gMin, gMax, gBlt, gLenX, gCallV, gInvoke, gNilM, Array.toList_map, vcells, gField, gIndexV, gPart, reduceIte, Nat.reduceAdd, Nat.reduceSub, Nat.reduceMul, Nat.reduceLT, Nat.reduceLeDiff, Nat.reduceEqDiff, Nat.reduceBEq, Int.reduceLT, Int.reduceLE, Int.reduceGT, Int.reduceGE, Int.reduceEq, Int.reduceNe, Int.reduceAdd, Int.reduceSub, Int.reduceMul, Int.reduceNeg, Int.reduceToNat, Int.reduceBEq, Int.reduceBNe, Int.cast_ofNat_Int, List.getElem?_toArray, stp, Try.underlying24, Try.underlying3, Try.underlying33, Try.underlying36, Try.underlying5, Try.underlying51, Try.underlying53, ty24, ty36, ty33, ty53, ty3, ty5, ty51, rs23, List.length_nil, Int.cast_ofNat_Int, d0, gBuild, lfill, lput, Shape.pl]))
    refine st_all m3 sz33 rfl (by decide) rfl rfl rfl fun h4 m4 f4 => ?_
    refine mk_of ?_; repeat' (first | (with_reducible first | refine gw_seq ?_ | refine gw_block ?_) | ((first | (with_reducible refine mk_to ?_) | (with_reducible first | refine gw_region ?_ | refine gw_if ?_ | refine gw_skip ?_ | refine gw_exit ?_ | refine gw_ret ?_) | ((with_reducible first | refine gif_b (fun hb => ?_) (fun hb => ?_) | refine want_t (fun hb => ?_) (fun hb => ?_) | refine want_f (fun hb => ?_) (fun hb => ?_)) <;> (try simp only [hb]) <;> (try simp only [hpr] at hb))) <;> try simp only [List.map, gop, ev, lk, aenv, gyield, gBin, gInt, gStrOp, gUn, gPick, gNil, gExtract, gIfc, gConvK, gIndexO, gIndexVO, gMakeV, gMinV, gMaxV, isInt, gMin, gMax, gBlt, gLenX, gCallV, gInvoke, gNilM, Array.toList_map, vcells, gField, gIndexV, gPart, reduceIte, Nat.reduceAdd, Nat.reduceSub, Nat.reduceMul, Nat.reduceLT, Nat.reduceLeDiff, Nat.reduceEqDiff, Nat.reduceBEq, Int.reduceLT, Int.reduceLE, Int.reduceGT, Int.reduceGE, Int.reduceEq, Int.reduceNe, Int.reduceAdd, Int.reduceSub, Int.reduceMul, Int.reduceNeg, Int.reduceToNat, Int.reduceBEq, Int.reduceBNe, Int.cast_ofNat_Int, List.getElem?_toArray, stp, Try.underlying24, Try.underlying3, Try.underlying33, Try.underlying36, Try.underlying5, Try.underlying51, Try.underlying53, ty24, ty36, ty33, ty53, ty3, ty5, ty51, rs23, gloadA m4 sz33 rfl]))
    exact ⟨⟨[.int .i64 0, .int .i64 0, .slice none 0 0, .slice none 0 0], rfl, none, 0, none, 0, rfl, .inl ⟨0, rfl, rfl⟩, .inl ⟨0, rfl, rfl⟩⟩, (s1.trans s3).upd n1 f4⟩
  · have hl0 : 0 < L.length := List.length_pos_iff.2 hn
    have d : ((L.length : Int) == 0) = false := by simp; omega
    obtain ⟨y, hy⟩ := get_lt hl0
    obtain ⟨ad, cs5, g1, g2, ev5⟩ := ev3.rl.at (P := Try.prog) Try.underlying36 sz33 hy
    have g1' : gIndex Try.prog 36 (.slice a3 L.length c3) 0 = some (.pointer (some ad)) := g1
    obtain ⟨z1, z2, z3, z4⟩ := ev5.cells
    have l4 : gLoad Try.prog 33 h3 (.pointer (some ad)) = some (.agg cs5.toArray) := by simp only [gLoad, sz33, g2]; rfl
    refine mk_of ?_; repeat' (first | (with_reducible first | refine gw_seq ?_ | refine gw_block ?_) | ((first | (with_reducible refine mk_to ?_) | (with_reducible first | refine gw_region ?_ | refine gw_if ?_ | refine gw_skip ?_ | refine gw_exit ?_ | refine gw_ret ?_) | ((with_reducible first | refine gif_b (fun hb => ?_) (fun hb => ?_) | refine want_t (fun hb => ?_) (fun hb => ?_) | refine want_f (fun hb => ?_) (fun hb => ?_)) <;> (try simp only [hb]) <;> (try simp only [hpr] at hb))) <;> try simp only [List.map, gop, ev, lk, aenv, gyield, gBin, gInt, gStrOp, gUn, gPick, gNil, gExtract, gIfc, gConvK, gIndexO, gIndexVO, gMakeV, gMinV, gMaxV, isInt, gMin, gMax, gBlt, gLenX, gCallV, gInvoke, gNilM, Array.toList_map, vcells, gField, gIndexV, gPart, reduceIte, Nat.reduceAdd, Nat.reduceSub, Nat.reduceMul, Nat.reduceLT, Nat.reduceLeDiff, Nat.reduceEqDiff, Nat.reduceBEq, Int.reduceLT, Int.reduceLE, Int.reduceGT, Int.reduceGE, Int.reduceEq, Int.reduceNe, Int.reduceAdd, Int.reduceSub, Int.reduceMul, Int.reduceNeg, Int.reduceToNat, Int.reduceBEq, Int.reduceBNe, Int.cast_ofNat_Int, List.getElem?_toArray, stp, Try.underlying24, Try.underlying3, Try.underlying33, Try.underlying36, Try.underlying5, Try.underlying51, Try.underlying53, ty24, ty36, ty33, ty53, ty3, ty5, ty51, rs23, d, g1', l4]))
    refine st_all m3 sz33 rfl (by decide) (by rw [z4]; exact z1) rfl (by rw [z4]; exact z2) fun h6 m6 f6 => ?_
    rw [z4] at m6
    refine mk_of ?_; repeat' (first | (with_reducible first | refine gw_seq ?_ | refine gw_block ?_) | ((first | (with_reducible refine mk_to ?_) | (with_reducible first | refine gw_region ?_ | refine gw_if ?_ | refine gw_skip ?_ | refine gw_exit ?_ | refine gw_ret ?_) | ((with_reducible first | refine gif_b (fun hb => ?_) (fun hb => ?_) | refine want_t (fun hb => ?_) (fun hb => ?_) | refine want_f (fun hb => ?_) (fun hb => ?_)) <;> (try simp only [hb]) <;> (try simp only [hpr] at hb))) <;> try simp only [List.map, gop, ev, lk, aenv, gyield, gBin, gInt, gStrOp, gUn, gPick, gNil, gExtract, gIfc, gConvK, gIndexO, gIndexVO, gMakeV, gMinV, gMaxV, isInt, gMin, gMax, gBlt, gLenX, gCallV, gInvoke, gNilM, Array.toList_map, vcells, gField, gIndexV, gPart, reduceIte, Nat.reduceAdd, Nat.reduceSub, Nat.reduceMul, Nat.reduceLT, Nat.reduceLeDiff, Nat.reduceEqDiff, Nat.reduceBEq, Int.reduceLT, Int.reduceLE, Int.reduceGT, Int.reduceGE, Int.reduceEq, Int.reduceNe, Int.reduceAdd, Int.reduceSub, Int.reduceMul, Int.reduceNeg, Int.reduceToNat, Int.reduceBEq, Int.reduceBNe, Int.cast_ofNat_Int, List.getElem?_toArray, stp, Try.underlying24, Try.underlying3, Try.underlying33, Try.underlying36, Try.underlying5, Try.underlying51, Try.underlying53, ty24, ty36, ty33, ty53, ty3, ty5, ty51, rs23, gloadA m6 sz33 z1]))
    have hs6 := (s1.trans s3).upd n1 f6
    have he : hdE L = (y, true) := by unfold hdE; rw [hy]
    rw [he]
    refine ⟨⟨cs5, rfl, ?_⟩, hs6⟩
    obtain ⟨a7, c7, b7, d7, q, r7, r8⟩ := ev5
    exact ⟨a7, c7, b7, d7, q, r7.hx m3 rfl (fun q Bq nq eq => (f6 q nq).trans eq), r8.hx m3 rfl (fun q Bq nq eq => (f6 q nq).trans eq)⟩

theorem Tx.hs {h h' : GH} (s : HS h h') {cs : List Value} {x : List UInt8} (r : Tx h cs x) : Tx h' cs x := by
  obtain ⟨a, c, e, r⟩ := r
  exact ⟨a, c, e, r.hs s⟩
theorem c_STF (N : Nat) (h : GH) {a b : Option Addr} {c d : Nat} {L M : List (List UInt8)} (rl : RL 1 Tx h (.slice a L.length c) L) (rm : RL 1 Tx h (.slice b M.length d) M) (hL : L.length ≤ 140737488351232) :
    GTri Try.prog N 62 [.slice a L.length c, .slice b M.length d, .func (.func 29) #[] #[]] h fun v h' => v = .bool (decide (L = M)) ∧ HS h h' := by
  refine gtri Try.func62 rfl gf62 ok62 (by simp [Try.ntmps62]) ?_
  by_cases hlm : L.length = M.length
  case neg =>
    have d0 : ((L.length : Int) != (M.length : Int)) = true := by simp; omega
    refine mk_of ?_; repeat' (first | (with_reducible first | refine gw_seq ?_ | refine gw_block ?_) | ((first | (with_reducible refine mk_to ?_) | (with_reducible first | refine gw_region ?_ | refine gw_if ?_ | refine gw_skip ?_ | refine gw_exit ?_ | refine gw_ret ?_) | ((with_reducible first | refine gif_b (fun hb => ?_) (fun hb => ?_) | refine want_t (fun hb => ?_) (fun hb => ?_) | refine want_f (fun hb => ?_) (fun hb => ?_)) <;> (try simp only [hb]) <;> (try simp only [hpr] at hb))) <;> try simp only [List.map, gop, ev, lk, aenv, gyield, gBin, gInt, gStrOp, gUn, gPick, gNil, gExtract, gIfc, gConvK, gIndexO, gIndexVO, gMakeV, gMinV, gMaxV, isInt, gMin, gMax, gBlt, gLenX, gCallV, gInvoke, gNilM, Array.toList_map, vcells, gField, gIndexV, gPart, reduceIte, Nat.reduceAdd, Nat.reduceSub, Nat.reduceMul, Nat.reduceLT, Nat.reduceLeDiff, Nat.reduceEqDiff, Nat.reduceBEq, Int.reduceLT, Int.reduceLE, Int.reduceGT, Int.reduceGE, Int.reduceEq, Int.reduceNe, Int.reduceAdd, Int.reduceSub, Int.reduceMul, Int.reduceNeg, Int.reduceToNat, Int.reduceBEq, Int.reduceBNe, Int.cast_ofNat_Int, List.getElem?_toArray, stp, Try.underlying24, Try.underlying3, Try.underlying4, Try.underlying47, Try.underlying5, ty24, ty47, ty3, ty4, ty5, rs62, d0]))
    exact ⟨by rw [decide_eq_false (fun e => hlm (by rw [e]))], HS.refl h⟩
  have d0 : ((L.length : Int) != (M.length : Int)) = false := by simp; omega
  refine mk_of ?_; repeat' (first | (with_reducible first | refine gw_seq ?_ | refine gw_block ?_) | ((first | (with_reducible refine mk_to ?_) | (with_reducible first | refine gw_region ?_ | refine gw_if ?_ | refine gw_skip ?_ | refine gw_exit ?_ | refine gw_ret ?_) | ((with_reducible first | refine gif_b (fun hb => ?_) (fun hb => ?_) | refine want_t (fun hb => ?_) (fun hb => ?_) | refine want_f (fun hb => ?_) (fun hb => ?_)) <;> (try simp only [hb]) <;> (try simp only [hpr] at hb))) <;> try simp only [List.map, gop, ev, lk, aenv, gyield, gBin, gInt, gStrOp, gUn, gPick, gNil, gExtract, gIfc, gConvK, gIndexO, gIndexVO, gMakeV, gMinV, gMaxV, isInt, gMin, gMax, gBlt, gLenX, gCallV, gInvoke, gNilM, Array.toList_map, vcells, gField, gIndexV, gPart, reduceIte, Nat.reduceAdd, Nat.reduceSub, Nat.reduceMul, Nat.reduceLT, Nat.reduceLeDiff, Nat.reduceEqDiff, Nat.reduceBEq, Int.reduceLT, Int.reduceLE, Int.reduceGT, Int.reduceGE, Int.reduceEq, Int.reduceNe, Int.reduceAdd, Int.reduceSub, Int.reduceMul, Int.reduceNeg, Int.reduceToNat, Int.reduceBEq, Int.reduceBNe, Int.cast_ofNat_Int, List.getElem?_toArray, stp, Try.underlying24, Try.underlying3, Try.underlying4, Try.underlying47, Try.underlying5, ty24, ty47, ty3, ty4, ty5, rs62, d0]))
  refine gw_loop2 [1, 2, 15, 16] (fun (i : Nat) => [(17, .int .i64 (i : Int))])
    (fun q i h' => L.length - i = q ∧ i ≤ L.length ∧ HS h h' ∧ L.take i = M.take i) L.length 0 (by simp [lk]) ⟨rfl, by omega, HS.refl h, by simp⟩ ?_
  rintro _ i h5 ⟨rfl, hi, s5, et⟩
  by_cases hil : i < L.length
  case neg =>
    have d3 : decide ((i : Int) < (L.length : Int)) = false := decide_eq_false (by omega)
    refine mk_of ?_; repeat' (first | (with_reducible first | refine gw_seq ?_ | refine gw_block ?_) | ((first | (with_reducible refine mk_to ?_) | (with_reducible first | refine gw_region ?_ | refine gw_if ?_ | refine gw_skip ?_ | refine gw_exit ?_ | refine gw_ret ?_) | ((with_reducible first | refine gif_b (fun hb => ?_) (fun hb => ?_) | refine want_t (fun hb => ?_) (fun hb => ?_) | refine want_f (fun hb => ?_) (fun hb => ?_)) <;> (try simp only [hb]) <;> (try simp only [hpr] at hb))) <;> try simp only [List.map, gop, ev, lk, aenv, gyield, gBin, gInt, gStrOp, gUn, gPick, gNil, gExtract, gIfc, gConvK, gIndexO, gIndexVO, gMakeV, gMinV, gMaxV, isInt, gMin, gMax, gBlt, gLenX, gCallV, gInvoke, gNilM, Array.toList_map, vcells, gField, gIndexV, gPart, reduceIte, Nat.reduceAdd, Nat.reduceSub, Nat.reduceMul, Nat.reduceLT, Nat.reduceLeDiff, Nat.reduceEqDiff, Nat.reduceBEq, Int.reduceLT, Int.reduceLE, Int.reduceGT, Int.reduceGE, Int.reduceEq, Int.reduceNe, Int.reduceAdd, Int.reduceSub, Int.reduceMul, Int.reduceNeg, Int.reduceToNat, Int.reduceBEq, Int.reduceBNe, Int.cast_ofNat_Int, List.getElem?_toArray, stp, Try.underlying24, Try.underlying3, Try.underlying4, Try.underlying47, Try.underlying5, ty24, ty47, ty3, ty4, ty5, rs62, d3]))
    have : L = M := by rw [List.take_of_length_le (by omega), List.take_of_length_le (by omega)] at et; exact et
    exact ⟨by rw [decide_eq_true this], s5⟩
  have d3 : decide ((i : Int) < (L.length : Int)) = true := decide_eq_true (by omega)
  have wi : IntKind.i64.wrap ((i : Int) + 1) = ((i + 1 : Nat) : Int) := by rw [wrap64 (by omega) (by omega)]; omega
  obtain ⟨x, hx⟩ := get_lt hil
  obtain ⟨y, hy⟩ := get_lt (show i < M.length by omega)
  obtain ⟨ad, c1, g1, g2, a1, e1, rfl, g3⟩ := (rl.hcR s5.hc (fun _ _ q => q.hs s5)).at (P := Try.prog) Try.underlying47 sz24 hx
  obtain ⟨ae, c2, g4, g5, a2, e2, rfl, g6⟩ := (rm.hcR s5.hc (fun _ _ q => q.hs s5)).at (P := Try.prog) Try.underlying47 sz24 hy
  have l1 : gLoad Try.prog 24 h5 (.pointer (some ad)) = some (.slice a1 x.length e1) := by simp only [gLoad, sz24, g2]; rfl
  have l2 : gLoad Try.prog 24 h5 (.pointer (some ae)) = some (.slice a2 y.length e2) := by simp only [gLoad, sz24, g5]; rfl
  have hti : L.take (i + 1) = L.take i ++ [x] := by rw [List.take_add_one, hx]; rfl
  have htj : M.take (i + 1) = M.take i ++ [y] := by rw [List.take_add_one, hy]; rfl
  by_cases hxy : x = y
  · have dq : (x == y) = true := by simpa using hxy
    refine mk_of ?_; repeat' (first | (with_reducible first | refine gw_seq ?_ | refine gw_block ?_) | ((first | (with_reducible refine mk_to ?_) | (with_reducible first | refine gw_region ?_ | refine gw_if ?_ | refine gw_skip ?_ | refine gw_exit ?_ | refine gw_ret ?_) | ((with_reducible first | refine gif_b (fun hb => ?_) (fun hb => ?_) | refine want_t (fun hb => ?_) (fun hb => ?_) | refine want_f (fun hb => ?_) (fun hb => ?_)) <;> (try simp only [hb]) <;> (try simp only [hpr] at hb)) | ((refine GTri.mono (c_Equal _ _ g3 g6) ?_); rintro _ _ ⟨rfl, hh9⟩; replace hh9 := hh9.symm; subst hh9)) <;> try simp only [List.map, gop, ev, lk, aenv, gyield, gBin, gInt, gStrOp, gUn, gPick, gNil, gExtract, gIfc, gConvK, gIndexO, gIndexVO, gMakeV, gMinV, gMaxV, isInt, gMin, gMax, gBlt, gLenX, gCallV, gInvoke, gNilM, Array.toList_map, vcells, gField, gIndexV, gPart, reduceIte, Nat.reduceAdd, Nat.reduceSub, Nat.reduceMul, Nat.reduceLT, Nat.reduceLeDiff, Nat.reduceEqDiff, Nat.reduceBEq, Int.reduceLT, Int.reduceLE, Int.reduceGT, Int.reduceGE, Int.reduceEq, Int.reduceNe, Int.reduceAdd, Int.reduceSub, Int.reduceMul, Int.reduceNeg, Int.reduceToNat, Int.reduceBEq, Int.reduceBNe, Int.cast_ofNat_Int, List.getElem?_toArray, stp, Try.underlying24, Try.underlying3, Try.underlying4, Try.underlying47, Try.underlying5, ty24, ty47, ty3, ty4, ty5, rs62, d3, g1, l1, g4, l2, dq, wi, Bool.not_true]))
    refine ⟨_, i + 1, ?_, (by simp only [List.forall_mem_cons, List.not_mem_nil, false_implies, implies_true, List.map, List.cons_append, List.nil_append, lk, Nat.reduceEqDiff, reduceIte, and_true, true_and]), rfl, by omega, s5, ?_⟩
    · omega
    · rw [hti, htj, et, hxy]
  · have dq : (x == y) = false := by simpa using hxy
    refine mk_of ?_; repeat' (first | (with_reducible first | refine gw_seq ?_ | refine gw_block ?_) | ((first | (with_reducible refine mk_to ?_) | (with_reducible first | refine gw_region ?_ | refine gw_if ?_ | refine gw_skip ?_ | refine gw_exit ?_ | refine gw_ret ?_) | ((with_reducible first | refine gif_b (fun hb => ?_) (fun hb => ?_) | refine want_t (fun hb => ?_) (fun hb => ?_) | refine want_f (fun hb => ?_) (fun hb => ?_)) <;> (try simp only [hb]) <;> (try simp only [hpr] at hb)) | ((refine GTri.mono (c_Equal _ _ g3 g6) ?_); rintro _ _ ⟨rfl, hh9⟩; replace hh9 := hh9.symm; subst hh9)) <;> try simp only [List.map, gop, ev, lk, aenv, gyield, gBin, gInt, gStrOp, gUn, gPick, gNil, gExtract, gIfc, gConvK, gIndexO, gIndexVO, gMakeV, gMinV, gMaxV, isInt, gMin, gMax, gBlt, gLenX, gCallV, gInvoke, gNilM, Array.toList_map, vcells, gField, gIndexV, gPart, reduceIte, Nat.reduceAdd, Nat.reduceSub, Nat.reduceMul, Nat.reduceLT, Nat.reduceLeDiff, Nat.reduceEqDiff, Nat.reduceBEq, Int.reduceLT, Int.reduceLE, Int.reduceGT, Int.reduceGE, Int.reduceEq, Int.reduceNe, Int.reduceAdd, Int.reduceSub, Int.reduceMul, Int.reduceNeg, Int.reduceToNat, Int.reduceBEq, Int.reduceBNe, Int.cast_ofNat_Int, List.getElem?_toArray, stp, Try.underlying24, Try.underlying3, Try.underlying4, Try.underlying47, Try.underlying5, ty24, ty47, ty3, ty4, ty5, rs62, d3, g1, l1, g4, l2, dq, wi, Bool.not_false]))
    exact ⟨by rw [decide_eq_false (fun e => by subst e; rw [hx] at hy; cases hy; exact hxy rfl)], s5⟩
theorem c_ST (N : Nat) (h : GH) {a b : Option Addr} {c d : Nat} {L M : List (List UInt8)} (rl : RL 1 Tx h (.slice a L.length c) L) (rm : RL 1 Tx h (.slice b M.length d) M) (hL : L.length ≤ 140737488351232) :
    GTri Try.prog N 25 [.slice a L.length c, .slice b M.length d] h fun v h' => v = .bool (decide (L = M)) ∧ HS h h' := by
  refine gtri Try.func25 rfl gf25 ok25 (by simp [Try.ntmps25]) ?_
  refine mk_of ?_; repeat' (first | (with_reducible first | refine gw_seq ?_ | refine gw_block ?_) | ((first | (with_reducible refine mk_to ?_) | (with_reducible first | refine gw_region ?_ | refine gw_if ?_ | refine gw_skip ?_ | refine gw_exit ?_ | refine gw_ret ?_) | ((with_reducible first | refine gif_b (fun hb => ?_) (fun hb => ?_) | refine want_t (fun hb => ?_) (fun hb => ?_) | refine want_f (fun hb => ?_) (fun hb => ?_)) <;> (try simp only [hb]) <;> (try simp only [hpr] at hb))) <;> try simp only [List.map, gop, ev, lk, aenv, gyield, gBin, gInt, gStrOp, gUn, gPick, gNil, gExtract, gIfc, gConvK, gIndexO, gIndexVO, gMakeV, gMinV, gMaxV, isInt, gMin, gMax, gBlt, gLenX, gCallV, gInvoke, gNilM, Array.toList_map, vcells, gField, gIndexV, gPart, reduceIte, Nat.reduceAdd, Nat.reduceSub, Nat.reduceMul, Nat.reduceLT, Nat.reduceLeDiff, Nat.reduceEqDiff, Nat.reduceBEq, Int.reduceLT, Int.reduceLE, Int.reduceGT, Int.reduceGE, Int.reduceEq, Int.reduceNe, Int.reduceAdd, Int.reduceSub, Int.reduceMul, Int.reduceNeg, Int.reduceToNat, Int.reduceBEq, Int.reduceBNe, Int.cast_ofNat_Int, List.getElem?_toArray, stp, Try.underlying24, Try.underlying47, Try.underlying59, ty24, ty47, ty59, rs25]))
  refine (c_STF N h rl rm hL).mono ?_
  rintro _ h1 ⟨rfl, s1⟩
  refine mk_of ?_; repeat' (first | (with_reducible first | refine gw_seq ?_ | refine gw_block ?_) | ((first | (with_reducible refine mk_to ?_) | (with_reducible first | refine gw_region ?_ | refine gw_if ?_ | refine gw_skip ?_ | refine gw_exit ?_ | refine gw_ret ?_) | ((with_reducible first | refine gif_b (fun hb => ?_) (fun hb => ?_) | refine want_t (fun hb => ?_) (fun hb => ?_) | refine want_f (fun hb => ?_) (fun hb => ?_)) <;> (try simp only [hb]) <;> (try simp only [hpr] at hb))) <;> try simp only [List.map, gop, ev, lk, aenv, gyield, gBin, gInt, gStrOp, gUn, gPick, gNil, gExtract, gIfc, gConvK, gIndexO, gIndexVO, gMakeV, gMinV, gMaxV, isInt, gMin, gMax, gBlt, gLenX, gCallV, gInvoke, gNilM, Array.toList_map, vcells, gField, gIndexV, gPart, reduceIte, Nat.reduceAdd, Nat.reduceSub, Nat.reduceMul, Nat.reduceLT, Nat.reduceLeDiff, Nat.reduceEqDiff, Nat.reduceBEq, Int.reduceLT, Int.reduceLE, Int.reduceGT, Int.reduceGE, Int.reduceEq, Int.reduceNe, Int.reduceAdd, Int.reduceSub, Int.reduceMul, Int.reduceNeg, Int.reduceToNat, Int.reduceBEq, Int.reduceBNe, Int.cast_ofNat_Int, List.getElem?_toArray, stp, Try.underlying24, Try.underlying47, Try.underlying59, ty24, ty47, ty59, rs25]))
  exact s1
end Go.Gh

/- Versions: what is kept and what the document's own index tells are the same. Plain laws. -/

namespace Go.Gh
open Go Go.Proofs Go.RowKit
set_option linter.unusedVariables false
set_option linter.unusedSimpArgs false
set_option maxRecDepth 100000
set_option maxHeartbeats 2000000

/-! ## An identity's changes, of so many batches -/
def SB (B : List (List Bnd)) (id : List UInt8) : Nat → List (Nat × Nat)
  | 0 => []
  | n + 1 => SB B id n ++ newsp (n + 1) (batN B n) (batN B n).length id
theorem batN_app {B : List (List Bnd)} {b : List Bnd} {n : Nat} (h : n < B.length) : batN (B ++ [b]) n = batN B n := by
  unfold batN; rw [List.getElem?_append_left h]
theorem batN_last {B : List (List Bnd)} {b : List Bnd} : batN (B ++ [b]) B.length = b := by
  unfold batN; rw [List.getElem?_append_right (Nat.le_refl _)]; simp
theorem SB_app {B : List (List Bnd)} {b : List Bnd} {id : List UInt8} : ∀ {n : Nat}, n ≤ B.length → SB (B ++ [b]) id n = SB B id n
  | 0, _ => rfl
  | n + 1, h => by simp only [SB]; rw [SB_app (by omega), batN_app (by omega)]
theorem SB_step {B : List (List Bnd)} {b : List Bnd} {S : List UInt8 → List (Nat × Nat)} (h : ∀ id, S id = SB B id B.length) (id : List UInt8) : S id ++ newsp (B.length + 1) b b.length id = SB (B ++ [b]) id (B ++ [b]).length := by
  rw [List.length_append, List.length_singleton]
  simp only [SB]
  rw [SB_app (Nat.le_refl _), batN_last, h]
theorem newsp_iff {ep : Nat} {b : List Bnd} {id : List UInt8} {p : Nat × Nat} : ∀ {i : Nat}, p ∈ newsp ep b i id ↔ p.1 = ep ∧ p.2 < i ∧ (bat1 b p.2).1 = id
  | 0 => by simp [newsp]
  | i + 1 => by
    simp only [newsp, List.mem_append, newsp_iff (i := i)]
    constructor
    · rintro (⟨h1, h2, h3⟩ | h)
      · exact ⟨h1, by omega, h3⟩
      · split at h
        · rename_i hid
          obtain rfl := List.mem_singleton.1 h
          exact ⟨rfl, Nat.lt_succ_self _, hid.symm⟩
        · simp at h
    · rintro ⟨h1, h2, h3⟩
      rcases Nat.lt_or_ge p.2 i with h | h
      · exact .inl ⟨h1, h, h3⟩
      · have e : p.2 = i := by omega
        rw [e] at h3
        rw [if_pos h3.symm]
        exact .inr (by obtain ⟨p1, p2⟩ := p; simp only at h1 e; rw [h1, e]; exact List.mem_singleton.2 rfl)
def pn (p : Nat × Nat) : Nat := 16 * p.1 + p.2
/-- An identity changed there. -/
def occ (B : List (List Bnd)) (id : List UInt8) (p : Nat × Nat) : Prop := 1 ≤ p.1 ∧ p.1 ≤ B.length ∧ p.2 < (batN B (p.1 - 1)).length ∧ (bat1 (batN B (p.1 - 1)) p.2).1 = id
theorem SB_iff {B : List (List Bnd)} {id : List UInt8} {p : Nat × Nat} : ∀ {n : Nat}, n ≤ B.length → (p ∈ SB B id n ↔ occ B id p ∧ p.1 ≤ n)
  | 0, _ => by
    simp only [SB, List.not_mem_nil, false_iff]
    rintro ⟨⟨h, _⟩, h2⟩
    omega
  | n + 1, hn => by
    simp only [SB, List.mem_append, SB_iff (B := B) (n := n) (by omega), newsp_iff]
    constructor
    · rintro (⟨h, h2⟩ | ⟨h1, h2, h3⟩)
      · exact ⟨h, by omega⟩
      · refine ⟨⟨by omega, by omega, ?_, ?_⟩, by omega⟩
        · rw [h1, Nat.add_sub_cancel]; exact h2
        · rw [h1, Nat.add_sub_cancel]; exact h3
    · rintro ⟨⟨h1, h2, h3, h4⟩, h5⟩
      rcases Nat.lt_or_ge p.1 (n + 1) with h | h
      · exact .inl ⟨⟨h1, h2, h3, h4⟩, by omega⟩
      · have e : p.1 = n + 1 := by omega
        rw [e, Nat.add_sub_cancel] at h3 h4
        exact .inr ⟨e, h3, h4⟩
theorem newsp_pw (ep : Nat) (b : List Bnd) (id : List UInt8) : ∀ i, (newsp ep b i id).Pairwise fun p q => pn p < pn q
  | 0 => by simp [newsp]
  | i + 1 => by
    simp only [newsp]
    rw [List.pairwise_append]
    refine ⟨newsp_pw ep b id i, by split <;> simp, fun p hp q hq => ?_⟩
    have h1 := newsp_iff.1 hp
    split at hq
    · obtain rfl := List.mem_singleton.1 hq
      unfold pn
      simp only
      omega
    · simp at hq
theorem SB_pw {B : List (List Bnd)} (hB : ∀ b ∈ B, b.length ≤ 10) (id : List UInt8) : ∀ n, n ≤ B.length → (SB B id n).Pairwise fun p q => pn p < pn q
  | 0, _ => by simp [SB]
  | n + 1, hn => by
    simp only [SB]
    rw [List.pairwise_append]
    refine ⟨SB_pw hB id n (by omega), newsp_pw _ _ _ _, fun p hp q hq => ?_⟩
    obtain ⟨h1, h2⟩ := (SB_iff (B := B) (n := n) (by omega)).1 hp
    obtain ⟨h3, h4, _⟩ := newsp_iff.1 hq
    have h5 : (batN B (p.1 - 1)).length ≤ 10 := by
      unfold batN
      cases hb : B[p.1 - 1]? with
      | none => simp
      | some b => exact hB b (List.mem_of_getElem? hb)
    have h6 := h1.2.2.1
    unfold pn
    omega
/-! ## What is listed -/
theorem newsp_one {ep : Nat} {b : List Bnd} (d : dis b) (id : List UInt8) : ∀ i, i ≤ b.length → newsp ep b i id = [] ∨ ∃ p, newsp ep b i id = [p]
  | 0, _ => .inl rfl
  | i + 1, hi => by
    simp only [newsp]
    by_cases h : id = (bat1 b i).1
    · rw [if_pos h]
      have he : newsp ep b i id = [] := by
        rw [List.eq_nil_iff_forall_not_mem]
        intro p hp
        obtain ⟨h1, h2, h3⟩ := newsp_iff.1 hp
        have g1 : b[i]? = some (bat1 b i) := by simp [bat1, List.getElem?_eq_getElem (show i < b.length by omega)]
        have g2 : b[p.2]? = some (bat1 b p.2) := by simp [bat1, List.getElem?_eq_getElem (show p.2 < b.length by omega)]
        exact dis_take h2 g1 g2 (by rw [← h, h3]) d
      rw [he]
      exact .inr ⟨_, rfl⟩
    · rw [if_neg h, List.append_nil]
      exact newsp_one d id i (by omega)
theorem newsp_mts {B : List (List Bnd)} {n : Nat} (id : List UInt8) (hn : n < B.length) : ∀ i, i ≤ (batN B n).length → (newsp (n + 1) (batN B n) i id).map (evOf B) = mts (n + 1) (batN B n) id i
  | 0, _ => rfl
  | i + 1, hi => by
    simp only [newsp, mts, List.map_append, newsp_mts id hn i (by omega)]
    congr 1
    by_cases h : id = (bat1 (batN B n) i).1
    · rw [if_pos h, if_pos h.symm]
      have e : evOf B (n + 1, i) = (n + 1, i, bat1 (batN B n) i) := by
        unfold evOf bat1
        simp only [Nat.add_sub_cancel]
        have : B[n]? = some (batN B n) := by unfold batN; rw [List.getElem?_eq_getElem hn]; rfl
        rw [this]; rfl
      simp [e]
    · rw [if_neg h, if_neg (fun e => h e.symm)]
      rfl
theorem rls_SB {B : List (List Bnd)} (hd : ∀ b ∈ B, dis b) (id : List UInt8) (f : Int) : ∀ E, E ≤ B.length → rls B id f E = (((SB B id E).filter fun p => decide (f < (p.1 : Int))).reverse).map (evOf B)
  | 0, _ => rfl
  | E + 1, hE => by
    simp only [rls, SB, List.filter_append, List.reverse_append, List.map_append]
    by_cases h : ((E + 1 : Nat) : Int) > f
    · rw [if_pos h, rls_SB hd id f E (by omega)]
      congr 1
      have hall : (newsp (E + 1) (batN B E) (batN B E).length id).filter (fun p => decide (f < (p.1 : Int))) = newsp (E + 1) (batN B E) (batN B E).length id := by
        rw [List.filter_eq_self]
        intro p hp
        have := (newsp_iff.1 hp).1
        simp only [decide_eq_true_eq]
        rw [this]; omega
      rw [hall, ← newsp_mts id (by omega) _ (Nat.le_refl _)]
      have hb : dis (batN B E) := by
        apply hd
        have : B[E]? = some (batN B E) := by unfold batN; rw [List.getElem?_eq_getElem (by omega)]; rfl
        exact List.mem_of_getElem? this
      rcases newsp_one (ep := E + 1) hb id _ (Nat.le_refl _) with e | ⟨p, e⟩ <;> rw [e] <;> rfl
    · rw [if_neg h]
      have h1 : (newsp (E + 1) (batN B E) (batN B E).length id).filter (fun p => decide (f < (p.1 : Int))) = [] := by
        rw [List.filter_eq_nil_iff]
        intro p hp
        have := (newsp_iff.1 hp).1
        simp only [decide_eq_true_eq]
        omega
      have h2 : (SB B id E).filter (fun p => decide (f < (p.1 : Int))) = [] := by
        rw [List.filter_eq_nil_iff]
        intro p hp
        have := ((SB_iff (B := B) (n := E) (by omega)).1 hp).2
        simp only [decide_eq_true_eq]
        omega
      rw [h1, h2]
      rfl
theorem SB_split {B : List (List Bnd)} {id : List UInt8} {E : Nat} : ∀ n, E ≤ n → n ≤ B.length → ∃ r, SB B id n = SB B id E ++ r ∧ ∀ p ∈ r, E < p.1
  | 0, h, _ => by
    obtain rfl : E = 0 := by omega
    exact ⟨[], rfl, fun p hp => by simp at hp⟩
  | n + 1, h, hn => by
    rcases Nat.lt_or_ge n E with h1 | h1
    · obtain rfl : E = n + 1 := by omega
      exact ⟨[], by simp, fun p hp => by simp at hp⟩
    · obtain ⟨r, e, hr⟩ := SB_split (B := B) (id := id) (E := E) n h1 (by omega)
      refine ⟨r ++ newsp (n + 1) (batN B n) (batN B n).length id, by simp only [SB]; rw [e, List.append_assoc], fun p hp => ?_⟩
      rcases List.mem_append.1 hp with hp | hp
      · exact hr p hp
      · have := (newsp_iff.1 hp).1; omega
theorem upto_SB {B : List (List Bnd)} {id : List UInt8} (e : Int) : Upto (SB B id B.length) e (SB B id (min e (B.length : Int)).toNat).length := by
  have hE : (min e (B.length : Int)).toNat ≤ B.length := by omega
  obtain ⟨r, er, hr⟩ := SB_split (id := id) B.length hE (Nat.le_refl _)
  refine ⟨by rw [er, List.length_append]; omega, fun i p hp => ?_⟩
  rw [er] at hp
  constructor
  · intro hi
    rw [List.getElem?_append_left hi] at hp
    have h1 := (SB_iff hE).1 (List.mem_of_getElem? hp)
    have := h1.1.1
    omega
  · intro hp1
    rcases Nat.lt_or_ge i (SB B id (min e (B.length : Int)).toNat).length with h | h
    · exact h
    · rw [List.getElem?_append_right h] at hp
      have h1 := hr p (List.mem_of_getElem? hp)
      have h2 := (SB_iff (Nat.le_refl _)).1 (List.mem_of_getElem? (show (SB B id B.length)[i]? = some p by rw [er, List.getElem?_append_right h]; exact hp))
      have := h2.2
      omega
theorem upto_filter {s : List (Nat × Nat)} {f : Int} {n m : Nat} (u : Upto s f n) (hm : m ≤ s.length) : (s.take m).drop n = (s.take m).filter fun p => decide (f < (p.1 : Int)) := by
  have h1 : ∀ p ∈ s.take n, (p.1 : Int) ≤ f := fun p hp => by
    obtain ⟨i, hi⟩ := List.mem_iff_getElem?.1 hp
    rw [List.getElem?_take] at hi
    split at hi
    · rename_i h; exact (u.2 i p hi).1 h
    · cases hi
  have h2 : ∀ p ∈ s.drop n, f < (p.1 : Int) := fun p hp => by
    obtain ⟨i, hi⟩ := List.mem_iff_getElem?.1 hp
    rw [List.getElem?_drop] at hi
    have := u.2 _ p hi
    omega
  have e : s.take m = (s.take m).take n ++ (s.take m).drop n := (List.take_append_drop _ _).symm
  conv => rhs; rw [e]
  rw [List.filter_append]
  have z1 : ((s.take m).take n).filter (fun p => decide (f < (p.1 : Int))) = [] := by
    rw [List.filter_eq_nil_iff]
    intro p hp
    obtain ⟨i, hi⟩ := List.mem_iff_getElem?.1 hp
    rw [List.getElem?_take] at hi
    split at hi
    · rw [List.getElem?_take] at hi
      split at hi
      · have := (u.2 i p hi).1 (by assumption)
        simp only [decide_eq_true_eq]
        omega
      · cases hi
    · cases hi
  have z2 : ((s.take m).drop n).filter (fun p => decide (f < (p.1 : Int))) = (s.take m).drop n := by
    rw [List.filter_eq_self]
    intro p hp
    rw [List.drop_take] at hp
    have := h2 p (List.mem_of_mem_take hp)
    simpa using this
  rw [z1, z2, List.nil_append]
theorem lsd_rls {B : List (List Bnd)} (hd : ∀ b ∈ B, dis b) {S : List (Nat × Nat)} {id : List UInt8} (hS : S = SB B id B.length) {f e : Int} {n1 n2 : Nat} (u1 : Upto S f n1) (u2 : Upto S e n2) : lsd B S n1 n2 = rls B id f (min e (B.length : Int)).toNat := by
  have hE : (min e (B.length : Int)).toNat ≤ B.length := by omega
  rw [rls_SB hd id f _ hE]
  unfold lsd
  subst hS
  obtain rfl := u2.uniq (upto_SB e)
  rw [upto_filter u1 u2.1]
  obtain ⟨r, er, _⟩ := SB_split (id := id) B.length hE (Nat.le_refl _)
  have : (SB B id B.length).take (SB B id (min e (B.length : Int)).toNat).length = SB B id (min e (B.length : Int)).toNat := by
    rw [er, List.take_left]
  rw [this]
theorem hdE_lsd {B : List (List Bnd)} {s : List (Nat × Nat)} {n : Nat} (hn : n ≤ s.length) : hdE (lsd B s 0 n) = AtEv B s n := by
  unfold hdE AtEv lsd
  rw [List.drop_zero]
  by_cases h0 : n = 0
  · subst h0; rfl
  · rw [if_neg h0]
    have hx : s[n - 1]? = some s[n - 1] := List.getElem?_eq_getElem (by omega)
    have : ((s.take n).reverse.map (evOf B))[0]? = some (evOf B s[n - 1]) := by
      rw [List.getElem?_map, List.getElem?_reverse (by rw [List.length_take]; omega), List.length_take, Nat.min_eq_left hn, List.getElem?_take, if_pos (by omega)]
      simp only [Nat.sub_zero]
      rw [hx]; rfl
    rw [this, hx]
    rfl
/-! ## Whether a batch may be added -/
theorem bstr_data (k : List UInt8) : (bstr k).data.toList = k := by simp [bstr]
theorem seen_keys (b : List Bnd) : ∀ i, i ≤ b.length → (mkeys (seenN b i)).length ≤ i ∧ (∀ k, bstr k ∈ mkeys (seenN b i) ↔ ∃ j, j < i ∧ (bat1 b j).1 = k) ∧ ((mkeys (seenN b i)).length = i ↔ ∀ j z, z < j → j < i → (bat1 b j).1 ≠ (bat1 b z).1)
  | 0, _ => ⟨by simp [seenN, mkeys], fun k => by simp [seenN, mkeys], ⟨fun _ j z _ h => by omega, fun _ => rfl⟩⟩
  | i + 1, hi => by
    obtain ⟨h1, h2, h3⟩ := seen_keys b i (by omega)
    rcases mset_keys (bstr (bat1 b i).1) (.int .i64 (i : Int)) (seenN b i) (seenN_ok b i) with ⟨hm, e⟩ | ⟨hm, e⟩
    · simp only [seenN, e]
      obtain ⟨z, hz, hze⟩ := (h2 _).1 hm
      refine ⟨by omega, fun k => ?_, ⟨fun hl => by omega, fun hall => absurd hze.symm (hall i z hz (by omega))⟩⟩
      rw [h2]
      constructor
      · rintro ⟨j, hj, hk⟩; exact ⟨j, by omega, hk⟩
      · rintro ⟨j, hj, hk⟩
        rcases Nat.lt_or_ge j i with h | h
        · exact ⟨j, h, hk⟩
        · obtain rfl : j = i := by omega
          exact ⟨z, hz, hze.trans hk⟩
    · simp only [seenN, e, List.length_append, List.length_singleton]
      refine ⟨by omega, fun k => ?_, ?_⟩
      · rw [List.mem_append, h2, List.mem_singleton]
        constructor
        · rintro (⟨j, hj, hk⟩ | hk)
          · exact ⟨j, by omega, hk⟩
          · exact ⟨i, by omega, (bstr_inj hk).symm⟩
        · rintro ⟨j, hj, hk⟩
          rcases Nat.lt_or_ge j i with h | h
          · exact .inl ⟨j, h, hk⟩
          · obtain rfl : j = i := by omega
            exact .inr (by rw [hk])
      · have hn : ∀ z, z < i → (bat1 b i).1 ≠ (bat1 b z).1 := fun z hz e => hm ((h2 _).2 ⟨z, hz, e.symm⟩)
        constructor
        · intro hl j z hz hj
          rcases Nat.lt_or_ge j i with h | h
          · exact h3.1 (by omega) j z hz h
          · obtain rfl : j = i := by omega
            exact hn z hz
        · intro hall
          have := h3.2 fun j z hz hj => hall j z hz (by omega)
          omega
theorem bat1_get {b : List Bnd} {i : Nat} {p : Bnd} (h : b[i]? = some p) : bat1 b i = p := by simp [bat1, h]
theorem addErr_ref (b : List Bnd) : addErr b = refErr b := by
  unfold addErr refErr
  by_cases hb : b = []
  · rw [if_pos hb, if_pos hb]
  · rw [if_neg hb, if_neg hb]
    obtain ⟨h1, _, h3⟩ := seen_keys b b.length (Nat.le_refl _)
    have hk := mkeys_len _ (seenN_ok b b.length)
    by_cases hd : dis b
    · rw [if_pos hd, if_neg]
      have := h3.2 fun j z hz hj e => dis_take hz (List.getElem?_eq_getElem hj) (List.getElem?_eq_getElem (show z < b.length by omega)) (by
        rw [bat1_get (List.getElem?_eq_getElem hj), bat1_get (List.getElem?_eq_getElem (show z < b.length by omega))] at e; exact e) hd
      omega
    · rw [if_neg hd, if_pos]
      rcases Nat.lt_or_ge (mkeys (seenN b b.length)).length b.length with h | h
      · omega
      · exfalso
        apply hd
        exact dis_of fun i j p q hij hp hq e => h3.1 (by omega) i j hij (List.getElem?_eq_some_iff.1 hp).1 (by rw [bat1_get hp, bat1_get hq, e])
theorem refErr_dis {b : List Bnd} (h : refErr b = 0) : dis b := by
  unfold refErr at h
  split at h
  · cases h
  · split at h
    · assumption
    · cases h
end Go.Gh

/- Versions: who changed, told by the document's own index. Plain laws. -/

namespace Go.Gh
open Go Go.Proofs Go.RowKit
set_option linter.unusedVariables false
set_option linter.unusedSimpArgs false
set_option maxRecDepth 100000
set_option maxHeartbeats 2000000

structure FI (B : List (List Bnd)) (f t : Int) (R : List Fst) (q : Nat) : Prop where
  mem : ∀ z ∈ R, occ B z.1 z.2 ∧ f < (z.2.1 : Int) ∧ (z.2.1 : Int) ≤ t ∧ pn z.2 < q ∧ ∀ p', occ B z.1 p' → f < (p'.1 : Int) → pn z.2 ≤ pn p'
  all : ∀ id p, occ B id p → f < (p.1 : Int) → pn p < q → ∃ z ∈ R, z.1 = id
  ord : R.Pairwise fun x y => fcmp x y ≤ 0
  nd : (R.map (·.1)).Nodup
  len : R.length ≤ q
theorem FI.skip {B : List (List Bnd)} {f t : Int} {R : List Fst} {q q' : Nat} (x : FI B f t R q) (hq : q ≤ q') (h : ∀ id p, occ B id p → f < (p.1 : Int) → q ≤ pn p → pn p < q' → False) : FI B f t R q' :=
  ⟨fun z hz => by obtain ⟨h1, h2, h3, h4, h5⟩ := x.mem z hz; exact ⟨h1, h2, h3, by omega, h5⟩, fun id p ho hf hp => by
    rcases Nat.lt_or_ge (pn p) q with h1 | h1
    · exact x.all id p ho hf h1
    · exact (h id p ho hf h1 hp).elim, x.ord, x.nd, Nat.le_trans x.len hq⟩
theorem batN_len {B : List (List Bnd)} (hB : ∀ b ∈ B, b.length ≤ 10) (n : Nat) : (batN B n).length ≤ 10 := by
  unfold batN
  cases hb : B[n]? with
  | none => simp
  | some b => exact hB b (List.mem_of_getElem? hb)
theorem occ_lt {B : List (List Bnd)} (hB : ∀ b ∈ B, b.length ≤ 10) {id : List UInt8} {p : Nat × Nat} (o : occ B id p) : p.2 < 10 := by
  have := batN_len hB (p.1 - 1)
  have := o.2.2.1
  omega
theorem pn_inj {p q : Nat × Nat} (h1 : p.2 < 16) (h2 : q.2 < 16) (e : pn p = pn q) : p = q := by
  unfold pn at e
  obtain ⟨a, b⟩ := p
  obtain ⟨c, d⟩ := q
  simp only at *
  have : a = c := by omega
  subst this
  have : b = d := by omega
  subst this
  rfl
theorem occ_id {B : List (List Bnd)} {i j : List UInt8} {p : Nat × Nat} (a : occ B i p) (b : occ B j p) : i = j := a.2.2.2.symm.trans b.2.2.2
theorem FI.known {B : List (List Bnd)} (hB : ∀ b ∈ B, b.length ≤ 10) {f t : Int} {R : List Fst} {p : Nat × Nat} {id : List UInt8} (x : FI B f t R (pn p)) (o : occ B id p) (k : ∃ z ∈ R, z.1 = id) : FI B f t R (pn p + 1) :=
  ⟨fun z hz => by obtain ⟨h1, h2, h3, h4, h5⟩ := x.mem z hz; exact ⟨h1, h2, h3, by omega, h5⟩, fun id' p' ho hf hp => by
    rcases Nat.lt_or_ge (pn p') (pn p) with h1 | h1
    · exact x.all id' p' ho hf h1
    · have hb1 := occ_lt hB o
      have hb2 := occ_lt hB ho
      have e : p' = p := pn_inj (by omega) (by omega) (by omega)
      subst e
      rw [occ_id ho o]
      exact k, x.ord, x.nd, Nat.le_succ_of_le x.len⟩
theorem fcmp_id {x y : Fst} (h : fcmp x y ≤ 0) : idO x.1 y.1 ≤ 0 := by
  unfold fcmp at h
  split at h <;> omega
theorem cmpi {a b : Nat} (h : a < b) : Lib.compareInt (a : Int) (b : Int) = -1 := by
  unfold Lib.compareInt
  rw [if_pos (by omega)]
theorem cmpi0 (a : Int) : Lib.compareInt a a = 0 := by
  unfold Lib.compareInt
  rw [if_neg (by omega), if_neg (by omega)]
theorem fcmp_lt {x y : Fst} (h : idO x.1 y.1 ≤ 0) (h2 : y.2.2 < 16) (h3 : x.2.2 < 16) (hp : pn x.2 < pn y.2) : fcmp x y ≤ 0 := by
  unfold fcmp
  split
  · unfold pn at hp
    rcases Nat.lt_or_ge x.2.1 y.2.1 with h | h
    · have := cmpi h
      rw [if_neg (by omega)]; omega
    · have e : x.2.1 = y.2.1 := by omega
      rw [e, cmpi0, if_pos rfl, cmpi (by omega)]
      decide
  · exact h
theorem fcmp_gt {x y : Fst} (h : 0 < idO y.1 x.1) : fcmp x y ≤ 0 := by
  have := tc_id.anti x.1 y.1
  unfold fcmp
  rw [if_neg (by omega)]
  omega
theorem FI.ins {B : List (List Bnd)} (hB : ∀ b ∈ B, b.length ≤ 10) {f t : Int} {R : List Fst} {p : Nat × Nat} {id : List UInt8} (x : FI B f t R (pn p)) (o : occ B id p) (hf : f < (p.1 : Int)) (ht : (p.1 : Int) ≤ t) (k : ∀ z ∈ R, z.1 ≠ id) {m : Nat}
    (h1 : ∀ z ∈ R.drop m, 0 < idO z.1 id) (h2 : ∀ z ∈ R.take m, idO z.1 id ≤ 0) : FI B f t (R.take m ++ (id, p) :: R.drop m) (pn p + 1) := by
  have hpm : (R.take m ++ (id, p) :: R.drop m).Perm ((id, p) :: R) := by
    have := List.perm_middle (a := ((id, p) : Fst)) (l₁ := R.take m) (l₂ := R.drop m)
    rwa [List.take_append_drop] at this
  have hb1 := occ_lt hB o
  have hleast : ∀ p', occ B id p' → f < (p'.1 : Int) → pn p ≤ pn p' := fun p' o' hf' => by
    rcases Nat.lt_or_ge (pn p') (pn p) with h | h
    · obtain ⟨z, hz, e⟩ := x.all id p' o' hf' h
      exact absurd e (k z hz)
    · exact h
  have hlt : ∀ z ∈ R, fcmp z (id, p) ≤ 0 ∨ 0 < idO z.1 id := fun z hz => by
    obtain ⟨g1, g2, g3, g4, g5⟩ := x.mem z hz
    have := occ_lt hB g1
    by_cases h : idO z.1 id ≤ 0
    · exact .inl (fcmp_lt h (by simp only; omega) (by omega) g4)
    · exact .inr (by omega)
  refine ⟨fun z hz => ?_, fun id' p' o' hf' hp' => ?_, ?_, ?_, by rw [hpm.length_eq, List.length_cons]; have := x.len; omega⟩
  · rcases List.mem_cons.1 (hpm.mem_iff.1 hz) with rfl | hz
    · exact ⟨o, hf, ht, Nat.lt_succ_self _, hleast⟩
    · obtain ⟨g1, g2, g3, g4, g5⟩ := x.mem z hz
      exact ⟨g1, g2, g3, by omega, g5⟩
  · rcases Nat.lt_or_ge (pn p') (pn p) with h | h
    · obtain ⟨z, hz, e⟩ := x.all id' p' o' hf' h
      exact ⟨z, hpm.mem_iff.2 (List.mem_cons_of_mem _ hz), e⟩
    · have hb2 := occ_lt hB o'
      have e : p' = p := pn_inj (by omega) (by omega) (by omega)
      subst e
      exact ⟨(id, p'), hpm.mem_iff.2 List.mem_cons_self, occ_id o o'⟩
  · have hor := x.ord
    rw [← List.take_append_drop m R, List.pairwise_append] at hor
    obtain ⟨q1, q2, q3⟩ := hor
    rw [List.pairwise_append]
    refine ⟨q1, List.pairwise_cons.2 ⟨fun z hz => fcmp_gt (h1 z hz), q2⟩, fun a ha b hb => ?_⟩
    rcases List.mem_cons.1 hb with rfl | hb
    · rcases hlt a (List.mem_of_mem_take ha) with h | h
      · exact h
      · have := h2 a ha; omega
    · exact q3 a ha b hb
  · rw [(hpm.map _).nodup_iff, List.map_cons, List.nodup_cons]
    refine ⟨fun hm => ?_, x.nd⟩
    obtain ⟨z, hz, e⟩ := List.mem_map.1 hm
    exact k z hz e
theorem FI.low {B : List (List Bnd)} {f t : Int} {R : List Fst} {q : Nat} (x : FI B f t R q) {id : List UInt8} {m : Nat} (hm : m ≤ R.length) (h : m = 0 ∨ ∃ z, R[m - 1]? = some z ∧ idO z.1 id ≤ 0) : ∀ z ∈ R.take m, idO z.1 id ≤ 0 := by
  intro z hz
  rcases h with rfl | ⟨y, hy, hi⟩
  · simp at hz
  · obtain ⟨i, hi2⟩ := List.mem_iff_getElem?.1 hz
    rw [List.getElem?_take] at hi2
    split at hi2
    case isFalse => cases hi2
    rename_i him
    rcases Nat.lt_or_ge i (m - 1) with h | h
    · have h1 := List.getElem?_eq_some_iff.1 hi2
      have h2 := List.getElem?_eq_some_iff.1 hy
      have := List.pairwise_iff_getElem.1 x.ord i (m - 1) h1.1 h2.1 h
      rw [h1.2, h2.2] at this
      exact tc_id.tr _ _ _ (fcmp_id this) hi
    · obtain rfl : i = m - 1 := by omega
      rw [hy] at hi2
      cases hi2
      exact hi
theorem fcmp_zero {B : List (List Bnd)} (hB : ∀ b ∈ B, b.length ≤ 10) {x y : Fst} (ox : occ B x.1 x.2) (oy : occ B y.1 y.2) (h1 : fcmp x y ≤ 0) (h2 : fcmp y x ≤ 0) : x = y := by
  have ha := tc_f.anti x y
  have h0 : fcmp x y = 0 := by omega
  unfold fcmp at h0
  split at h0
  case isFalse h => exact absurd h0 h
  have ci : ∀ a b : Int, Lib.compareInt a b = 0 → a = b := fun a b h => by
    unfold Lib.compareInt at h
    split at h
    · cases h
    · split at h
      · cases h
      · omega
  split at h0
  case isFalse h => exact absurd h0 h
  rename_i q1 q2
  have e1 := ci _ _ q2
  have e2 := ci _ _ h0
  obtain ⟨xi, xe, xa⟩ := x
  obtain ⟨yi, ye, ya⟩ := y
  simp only at e1 e2 ox oy
  have e1' : xe = ye := by omega
  have e2' : xa = ya := by omega
  subst e1'; subst e2'
  rw [occ_id ox oy]

/-- At the end both tell the same. -/
theorem FI.eq {B : List (List Bnd)} (hB : ∀ b ∈ B, b.length ≤ 10) {S : List UInt8 → List (Nat × Nat)} (hS : ∀ id, S id = SB B id B.length) {l : List Value} {is : List Nat} {f t : Int} {R l2 : List Fst} {e : Nat} (x : FI B f t R (16 * e)) (he : t < (e : Int) ∨ B.length < e)
    (his : ∀ q, q ∈ is ↔ q < (mkeys l).length) (hk : ∀ id, S id ≠ [] → ∃ q, q < (mkeys l).length ∧ kid l q = id) (hnd : ((chgd l S f t is).map (·.1)).Nodup) (pm : l2.Perm (chgd l S f t is)) (so : ∀ (i j : Nat) x y, i < j → l2[i]? = some x → l2[j]? = some y → ¬ fcmp y x < 0)
    (ris : ∀ id, Rising (S id)) : R = l2 := by
  have occS : ∀ id p, p ∈ S id ↔ occ B id p := fun id p => by
    rw [hS, SB_iff (Nat.le_refl _)]
    exact ⟨fun h => h.1, fun h => ⟨h, h.2.1⟩⟩
  have pw : ∀ id, (S id).Pairwise fun p q => pn p < pn q := fun id => by rw [hS]; exact SB_pw hB id _ (Nat.le_refl _)
  -- what is there is the first one
  have first : ∀ z ∈ R, fstC (S z.1) f t = some z.2 := fun z hz => by
    obtain ⟨h1, h2, h3, h4, h5⟩ := x.mem z hz
    obtain ⟨j, hj⟩ := List.mem_iff_getElem?.1 ((occS _ _).2 h1)
    have u := cntU_upto (S z.1) f (ris z.1)
    have hcj : cntU (S z.1) f ≤ j := by
      rcases Nat.lt_or_ge j (cntU (S z.1) f) with h | h
      · have := (u.2 j _ hj).1 h; omega
      · exact h
    have hjl := (List.getElem?_eq_some_iff.1 hj).1
    obtain ⟨c, hc⟩ := get_lt (show cntU (S z.1) f < (S z.1).length by omega)
    have hcf : f < (c.1 : Int) := by
      have := u.2 _ c hc
      omega
    have hle := h5 c ((occS _ _).1 (List.mem_of_getElem? hc)) hcf
    have e : c = z.2 := by
      rcases Nat.lt_or_ge (cntU (S z.1) f) j with h | h
      · have g1 := List.getElem?_eq_some_iff.1 hc
        have g2 := List.getElem?_eq_some_iff.1 hj
        have := List.pairwise_iff_getElem.1 (pw z.1) _ _ g1.1 g2.1 h
        rw [g1.2, g2.2] at this
        omega
      · have e : cntU (S z.1) f = j := by omega
        rw [e, hj] at hc
        exact (Option.some.inj hc).symm
    unfold fstC
    rw [hc]
    simp only
    rw [e, if_pos h3]
  have ofF : ∀ {id p}, fstC (S id) f t = some p → p ∈ S id ∧ f < (p.1 : Int) ∧ (p.1 : Int) ≤ t := fun {id p} h => by
    unfold fstC at h
    split at h
    case h_2 => cases h
    rename_i c hc
    split at h
    case isFalse => cases h
    rename_i hct
    cases h
    have u := cntU_upto (S id) f (ris id)
    have := u.2 _ p hc
    exact ⟨List.mem_of_getElem? hc, by omega, hct⟩
  have memc : ∀ z, z ∈ chgd l S f t is ↔ (∃ q, q < (mkeys l).length ∧ kid l q = z.1) ∧ fstC (S z.1) f t = some z.2 := fun z => by
    unfold chgd
    rw [List.mem_filterMap]
    constructor
    · rintro ⟨q, hq, e⟩
      obtain ⟨p, hp, rfl⟩ := Option.map_eq_some_iff.1 e
      exact ⟨⟨q, (his q).1 hq, rfl⟩, hp⟩
    · rintro ⟨⟨q, hq, hk⟩, hp⟩
      refine ⟨q, (his q).2 hq, ?_⟩
      rw [hk, hp]
      rfl
  have hmem : ∀ z, z ∈ R ↔ z ∈ chgd l S f t is := fun z => by
    rw [memc]
    constructor
    · intro hz
      have hf := first z hz
      exact ⟨hk _ (fun e => by have := (ofF hf).1; rw [e] at this; simp at this), hf⟩
    · rintro ⟨_, hp⟩
      obtain ⟨h1, h2, h3⟩ := ofF hp
      have ho := (occS _ _).1 h1
      have hb := occ_lt hB ho
      have hpe : pn z.2 < 16 * e := by
        have := ho.2.1
        unfold pn
        omega
      obtain ⟨z', hz', ez⟩ := x.all z.1 z.2 ho h2 hpe
      have hf := first z' hz'
      rw [ez, hp] at hf
      have : z' = z := Prod.ext ez (Option.some.inj hf).symm
      rw [← this]
      exact hz'
  have ndR : R.Nodup := List.Pairwise.of_map _ (fun a b hab e => hab (by rw [e])) x.nd
  have ndC : (chgd l S f t is).Nodup := List.Pairwise.of_map _ (fun a b hab e => hab (by rw [e])) hnd
  have p1 : R.Perm (chgd l S f t is) := (List.perm_ext_iff_of_nodup ndR ndC).2 hmem
  have p2 := p1.trans pm.symm
  refine List.Perm.eq_of_pairwise (le := fun x y : Fst => fcmp x y ≤ 0) (fun a b ha hb hab hba => ?_) x.ord ?_ p2
  · exact fcmp_zero hB (x.mem a ha).1 (x.mem b (p2.mem_iff.2 hb)).1 hab hba
  · rw [List.pairwise_iff_getElem]
    intro i j hi hj hij
    have := so i j _ _ hij (List.getElem?_eq_getElem hi) (List.getElem?_eq_getElem hj)
    have ha := tc_f.anti l2[i] l2[j]
    omega
end Go.Gh

/- Versions: the walk through the document's own list of who changed. -/

namespace Go.Gh
open Go Go.Proofs Go.RowKit
set_option linter.unusedVariables false
set_option linter.unusedSimpArgs false
set_option maxRecDepth 100000
set_option maxHeartbeats 4000000

theorem OWNC.hi1 {P : Program} {t e es : Nat} {b : Bool} {h0 h : GH} {v : Value} {n : Nat} {cs : List Value} (o : OWNC es h0 h v n cs) (ht : P.underlying t = some (.slice e)) (he : gsz P e = some (b, es)) {m : Nat} (hm : m ≤ n) :
    ∃ v', ∀ h', HS h h' → gSlice P t h' v none (some (.int .i64 (m : Int))) none = some v' ∧ gSrc h' es v' = some (m, cs.take (m * es)) := by
  rcases o with ⟨rfl, rfl, rfl⟩ | ⟨a, rfl, rfl, rfl⟩ | ⟨k, c, rfl, h1, h2, h3, h4, h5, h6⟩
  · obtain rfl : m = 0 := by omega
    exact ⟨.slice none 0 0, fun h' s => ⟨by simp [gSlice, ht, he, gHigh, gLow, gBound], by simp [gSrc]⟩⟩
  · obtain rfl : m = 0 := by omega
    exact ⟨.slice (some ⟨a.block, a.off, a.spot⟩) 0 1, fun h' s => ⟨by simp [gSlice, ht, he, gHigh, gLow, gBound], by simp [gSrc, gread]⟩⟩
  · have hb : 0 ≤ (m : Int) ∧ (m : Int) ≤ ((max n (c / 2) : Nat) : Int) := ⟨by omega, by omega⟩
    have hle : m * es ≤ n * es := Nat.mul_le_mul_right es hm
    refine ⟨.slice (some ⟨k, 0, none⟩) m c, fun h' s => ⟨?_, ?_⟩⟩
    · simp only [gSlice, ht, he, gHigh, gBound, hb, and_self, if_true, gLow]
      simp
    · simp only [gSrc]
      rw [gread_lit (o := 0) (n := m * es) (cs := cs.take (m * es)) (s _ _ h5) (by rw [List.drop_zero]) (by rw [List.length_take, h4, Nat.min_eq_left hle])]
      rfl
theorem OWNC.lo1 {P : Program} {t e es : Nat} {b : Bool} {h0 h : GH} {v : Value} {n : Nat} {cs : List Value} (o : OWNC es h0 h v n cs) (ht : P.underlying t = some (.slice e)) (he : gsz P e = some (b, es)) {m : Nat} (hm : m ≤ n) :
    ∃ v', ∀ h', HS h h' → gSlice P t h' v (some (.int .i64 (m : Int))) none none = some v' ∧ gSrc h' es v' = some (n - m, cs.drop (m * es)) := by
  rcases o with ⟨rfl, rfl, rfl⟩ | ⟨a, rfl, rfl, rfl⟩ | ⟨k, c, rfl, h1, h2, h3, h4, h5, h6⟩
  · obtain rfl : m = 0 := by omega
    exact ⟨.slice none 0 0, fun h' s => ⟨by simp [gSlice, ht, he, gHigh, gLow, gBound], by simp [gSrc]⟩⟩
  · obtain rfl : m = 0 := by omega
    exact ⟨.slice (some ⟨a.block, a.off, a.spot⟩) 0 1, fun h' s => ⟨by simp [gSlice, ht, he, gHigh, gLow, gBound], by simp [gSrc, gread]⟩⟩
  · have hb : 0 ≤ (m : Int) ∧ (m : Int) ≤ (n : Int) := ⟨by omega, by omega⟩
    have hle : m * es ≤ n * es := Nat.mul_le_mul_right es hm
    refine ⟨.slice (some ⟨k, m * es, none⟩) (n - m) (c - 2 * m), fun h' s => ⟨?_, ?_⟩⟩
    · have hok : esOk h' ⟨k, 0, none⟩ es = true := by unfold esOk; simp only [s _ _ h5]; simp
      have hmx : n ≤ max n (c / 2) := by omega
      have hmn : ((m : Int) ≤ (n : Int)) := by omega
      simp only [gSlice, ht, he, gHigh, gLow, gBound, hb, and_self, if_true, hok, or_true, Int.toNat_natCast, Nat.zero_add, hmx, hmn, true_and, Int.natCast_nonneg]
    · simp only [gSrc]
      rw [gread_lit (o := m * es) (n := (n - m) * es) (cs := cs.drop (m * es)) (s _ _ h5) (by rw [Nat.sub_mul]; exact List.take_of_length_le (by rw [List.length_drop, h4]; omega)) (by rw [List.length_drop, h4, Nat.sub_mul])]
      rfl
theorem take_el {α : Type} {R : List Value → α → Prop} {L : List α} {ds : List Value} {w : Nat} (r : ∀ (i : Nat) x, L[i]? = some x → R ((ds.drop (i * 1)).take 1) x) : ∀ (i : Nat) x, (L.take w)[i]? = some x → R (((ds.take (w * 1)).drop (i * 1)).take 1) x := fun i x hx => by
  rw [List.getElem?_take] at hx
  split at hx
  · rename_i hi
    rw [List.drop_take, List.take_take, Nat.min_eq_left (by omega)]
    exact r i x hx
  · cases hx
theorem drop_el {α : Type} {R : List Value → α → Prop} {L : List α} {ds : List Value} {w : Nat} (r : ∀ (i : Nat) x, L[i]? = some x → R ((ds.drop (i * 1)).take 1) x) : ∀ (i : Nat) x, (L.drop w)[i]? = some x → R (((ds.drop (w * 1)).drop (i * 1)).take 1) x := fun i x hx => by
  rw [List.getElem?_drop] at hx
  rw [List.drop_drop, ← Nat.add_mul]
  exact r _ x hx

def OT1 (h0 h : GH) (v : Value) (R : List Fst) : Prop := ∃ ds, OWNC 1 h0 h v R.length ds ∧ ds.all notU8 = true ∧ ds.all isCell = true ∧ ∀ (i : Nat) x, (R.map (·.1))[i]? = some x → Tx h ((ds.drop (i * 1)).take 1) x
theorem OT1.hs {h0 h h' : GH} {v : Value} {R : List Fst} (o : OT1 h0 h v R) (s : HS h h') : OT1 h0 h' v R := by
  obtain ⟨ds, o, u, c, r⟩ := o
  exact ⟨ds, o.hs s, u, c, fun i x hx => (r i x hx).hs s⟩
theorem OT1.rl {h0 h : GH} {v : Value} {R : List Fst} (o : OT1 h0 h v R) : RL 1 Tx h v (R.map (·.1)) := by
  obtain ⟨ds, o, u, c, r⟩ := o
  have hl : (R.map (·.1)).length = R.length := List.length_map _
  rw [← hl] at o
  exact o.rl r
theorem any_take {L : List (List UInt8)} {id x : List UInt8} {j : Nat} (h : L[j]? = some x) : (L.take (j + 1)).any (· == id) = ((L.take j).any (· == id) || x == id) := by
  have : L.take (j + 1) = L.take j ++ [x] := by rw [List.take_add_one, h]; rfl
  rw [this, List.any_append]
  simp

theorem c_rChanged (N : Nat) {h0 h : GH} {k : Nat} {bv : Value} {cs : List Value} {B : List (List Bnd)} (x : RX h0 h k bv cs B) (hB : B.length ≤ 100) (f t : Int) :
    GTri Try.prog N 26 [.pointer (some ⟨k, 0, none⟩), .int .i64 f, .int .i64 t] h fun v h' => (∃ R e, FI B f t R (16 * e) ∧ (t < (e : Int) ∨ B.length < e) ∧ RL 1 Tx h' v (R.map (·.1))) ∧ HS h h' := by
  obtain ⟨ab, cb, eb⟩ := x.bat.form
  subst eb
  have hbl : ∀ b ∈ B, b.length ≤ 10 := fun b hb => (x.bl b hb).1
  refine gtri Try.func26 rfl gf26 ok26 (by simp [Try.ntmps26]) ?_
  refine mk_of ?_; repeat' (first | (with_reducible first | refine gw_seq ?_ | refine gw_block ?_) | ((first | (with_reducible refine mk_to ?_) | (with_reducible first | refine gw_region ?_ | refine gw_if ?_ | refine gw_skip ?_ | refine gw_exit ?_ | refine gw_ret ?_) | ((with_reducible first | refine gif_b (fun hb => ?_) (fun hb => ?_) | refine want_t (fun hb => ?_) (fun hb => ?_) | refine want_f (fun hb => ?_) (fun hb => ?_) | refine dr_t (fun hb => ?_) (fun hb => ?_) | refine dr_f (fun hb => ?_) (fun hb => ?_)) <;> (try simp only [hb]) <;> (try simp only [hpr] at hb)) | with_reducible refine gw_draw (id := 15) [(0, []), (1, []), (2, []), (3, []), (4, []), (5, []), (6, []), (7, []), (8, []), (9, []), (10, []), (11, []), (12, [])] [0, 1, 3, 7, 7, 23, 63, 127, 7, 263, 1023, 2047, 4095] mixed (by kernel_rfl) ?_ | with_reducible refine gw_draw (id := 18) [(0, []), (1, []), (2, []), (3, []), (5, []), (6, []), (7, []), (11, []), (12, []), (13, []), (4, [7, 13]), (8, [13]), (9, [13]), (10, [13]), (14, []), (15, [])] [0, 0, 0, 6, 15, 0, 0, 64, 255, 511, 1023, 0, 0, 6144, 16383, 32767] mixed (by kernel_rfl) ?_) <;> try simp only [List.map, gop, ev, lk, aenv, gyield, gBin, gInt, gStrOp, gUn, gPick, gNil, gExtract, gIfc, gConvK, gIndexO, gIndexVO, gMakeV, gMinV, gMaxV, isInt, gMin, gMax, gBlt, gLenX, gCallV, gInvoke, gNilM, Array.toList_map, vcells, gField, gIndexV, gPart, reduceIte, Nat.reduceAdd, Nat.reduceSub, Nat.reduceMul, Nat.reduceLT, Nat.reduceLeDiff, Nat.reduceEqDiff, Nat.reduceBEq, Int.reduceLT, Int.reduceLE, Int.reduceGT, Int.reduceGE, Int.reduceEq, Int.reduceNe, Int.reduceAdd, Int.reduceSub, Int.reduceMul, Int.reduceNeg, Int.reduceToNat, Int.reduceBEq, Int.reduceBNe, Int.cast_ofNat_Int, List.getElem?_toArray, stp, rvOf, rvLen, wput, wlk, rdv, isEff, dsOf, sgl, stq, Try.underlying22, Try.underlying23, Try.underlying24, Try.underlying3, Try.underlying4, Try.underlying47, Try.underlying5, Try.underlying53, Try.underlying9, Try.underlying99, ty22, ty23, ty24, ty47, ty53, ty99, ty3, ty4, ty5, ty9, rs26]))
  refine gw_loop2 [0, 1, 2, 6] (fun (y : Nat × (Option Addr × Nat × Nat)) => [(7, .slice y.2.1 y.2.2.1 y.2.2.2), (8, .int .i64 (y.1 : Int))])
    (fun q y h' => B.length + 1 - y.1 = q ∧ 1 ≤ y.1 ∧ y.1 ≤ B.length + 1 ∧ HS h h' ∧ ∃ R, FI B f t R (16 * y.1) ∧ OT1 h h' (.slice y.2.1 y.2.2.1 y.2.2.2) R) B.length (1, (none, 0, 0)) (by simp [lk])
    ⟨by simp, by simp, by simp, HS.refl h, [], ⟨fun z hz => by simp at hz, fun id p o _ hp => by have := o.1; unfold pn at hp; omega, List.Pairwise.nil, List.nodup_nil, by simp⟩, [], OWNC.nil _ _ _, rfl, rfl, fun i x hx => by simp at hx⟩ ?_
  rintro _ ⟨e, a3, n3, c3⟩ h3 ⟨rfl, he1, he2, s3, R, fi, ot⟩
  simp only at he1 he2 fi ot
  have x3 := x.hs s3
  have we : IntKind.i64.wrap ((e : Int) + 1) = ((e + 1 : Nat) : Int) := by rw [wrap64 (by omega) (by omega)]; omega
  by_cases het : (e : Int) ≤ t
  case neg =>
    have d1 : decide ((e : Int) ≤ t) = false := decide_eq_false het
    refine mk_of ?_; repeat' (first | (with_reducible first | refine gw_seq ?_ | refine gw_block ?_) | ((first | (with_reducible refine mk_to ?_) | (with_reducible first | refine gw_region ?_ | refine gw_if ?_ | refine gw_skip ?_ | refine gw_exit ?_ | refine gw_ret ?_) | ((with_reducible first | refine gif_b (fun hb => ?_) (fun hb => ?_) | refine want_t (fun hb => ?_) (fun hb => ?_) | refine want_f (fun hb => ?_) (fun hb => ?_) | refine dr_t (fun hb => ?_) (fun hb => ?_) | refine dr_f (fun hb => ?_) (fun hb => ?_)) <;> (try simp only [hb]) <;> (try simp only [hpr] at hb)) | with_reducible refine gw_draw (id := 15) [(0, []), (1, []), (2, []), (3, []), (4, []), (5, []), (6, []), (7, []), (8, []), (9, []), (10, []), (11, []), (12, [])] [0, 1, 3, 7, 7, 23, 63, 127, 7, 263, 1023, 2047, 4095] mixed (by kernel_rfl) ?_ | with_reducible refine gw_draw (id := 18) [(0, []), (1, []), (2, []), (3, []), (5, []), (6, []), (7, []), (11, []), (12, []), (13, []), (4, [7, 13]), (8, [13]), (9, [13]), (10, [13]), (14, []), (15, [])] [0, 0, 0, 6, 15, 0, 0, 64, 255, 511, 1023, 0, 0, 6144, 16383, 32767] mixed (by kernel_rfl) ?_) <;> try simp only [List.map, gop, ev, lk, aenv, gyield, gBin, gInt, gStrOp, gUn, gPick, gNil, gExtract, gIfc, gConvK, gIndexO, gIndexVO, gMakeV, gMinV, gMaxV, isInt, gMin, gMax, gBlt, gLenX, gCallV, gInvoke, gNilM, Array.toList_map, vcells, gField, gIndexV, gPart, reduceIte, Nat.reduceAdd, Nat.reduceSub, Nat.reduceMul, Nat.reduceLT, Nat.reduceLeDiff, Nat.reduceEqDiff, Nat.reduceBEq, Int.reduceLT, Int.reduceLE, Int.reduceGT, Int.reduceGE, Int.reduceEq, Int.reduceNe, Int.reduceAdd, Int.reduceSub, Int.reduceMul, Int.reduceNeg, Int.reduceToNat, Int.reduceBEq, Int.reduceBNe, Int.cast_ofNat_Int, List.getElem?_toArray, stp, rvOf, rvLen, wput, wlk, rdv, isEff, dsOf, sgl, stq, Try.underlying22, Try.underlying23, Try.underlying24, Try.underlying3, Try.underlying4, Try.underlying47, Try.underlying5, Try.underlying53, Try.underlying9, Try.underlying99, ty22, ty23, ty24, ty47, ty53, ty99, ty3, ty4, ty5, ty9, rs26, d1, gPick]))
    exact ⟨⟨R, e, fi, .inl (by omega), ot.rl⟩, s3⟩
  have d1 : decide ((e : Int) ≤ t) = true := decide_eq_true het
  by_cases heB : e ≤ B.length
  case neg =>
    have d2 : decide ((e : Int) ≤ (B.length : Int)) = false := decide_eq_false (by omega)
    refine mk_of ?_; repeat' (first | (with_reducible first | refine gw_seq ?_ | refine gw_block ?_) | ((first | (with_reducible refine mk_to ?_) | (with_reducible first | refine gw_region ?_ | refine gw_if ?_ | refine gw_skip ?_ | refine gw_exit ?_ | refine gw_ret ?_) | ((with_reducible first | refine gif_b (fun hb => ?_) (fun hb => ?_) | refine want_t (fun hb => ?_) (fun hb => ?_) | refine want_f (fun hb => ?_) (fun hb => ?_) | refine dr_t (fun hb => ?_) (fun hb => ?_) | refine dr_f (fun hb => ?_) (fun hb => ?_)) <;> (try simp only [hb]) <;> (try simp only [hpr] at hb)) | with_reducible refine gw_draw (id := 15) [(0, []), (1, []), (2, []), (3, []), (4, []), (5, []), (6, []), (7, []), (8, []), (9, []), (10, []), (11, []), (12, [])] [0, 1, 3, 7, 7, 23, 63, 127, 7, 263, 1023, 2047, 4095] mixed (by kernel_rfl) ?_ | with_reducible refine gw_draw (id := 18) [(0, []), (1, []), (2, []), (3, []), (5, []), (6, []), (7, []), (11, []), (12, []), (13, []), (4, [7, 13]), (8, [13]), (9, [13]), (10, [13]), (14, []), (15, [])] [0, 0, 0, 6, 15, 0, 0, 64, 255, 511, 1023, 0, 0, 6144, 16383, 32767] mixed (by kernel_rfl) ?_) <;> try simp only [List.map, gop, ev, lk, aenv, gyield, gBin, gInt, gStrOp, gUn, gPick, gNil, gExtract, gIfc, gConvK, gIndexO, gIndexVO, gMakeV, gMinV, gMaxV, isInt, gMin, gMax, gBlt, gLenX, gCallV, gInvoke, gNilM, Array.toList_map, vcells, gField, gIndexV, gPart, reduceIte, Nat.reduceAdd, Nat.reduceSub, Nat.reduceMul, Nat.reduceLT, Nat.reduceLeDiff, Nat.reduceEqDiff, Nat.reduceBEq, Int.reduceLT, Int.reduceLE, Int.reduceGT, Int.reduceGE, Int.reduceEq, Int.reduceNe, Int.reduceAdd, Int.reduceSub, Int.reduceMul, Int.reduceNeg, Int.reduceToNat, Int.reduceBEq, Int.reduceBNe, Int.cast_ofNat_Int, List.getElem?_toArray, stp, rvOf, rvLen, wput, wlk, rdv, isEff, dsOf, sgl, stq, Try.underlying22, Try.underlying23, Try.underlying24, Try.underlying3, Try.underlying4, Try.underlying47, Try.underlying5, Try.underlying53, Try.underlying9, Try.underlying99, ty22, ty23, ty24, ty47, ty53, ty99, ty3, ty4, ty5, ty9, rs26, d1, d2, gPick, gNil, gload1 x3.obj sz22, List.getElem?_cons_zero, List.getElem?_cons_succ]))
    exact ⟨⟨R, e, fi, .inr (by omega), ot.rl⟩, s3⟩
  have d2 : decide ((e : Int) ≤ (B.length : Int)) = true := decide_eq_true (by omega)
  by_cases hef : (e : Int) ≤ f
  · have d3 : decide ((e : Int) ≤ f) = true := decide_eq_true hef
    refine mk_of ?_; repeat' (first | (with_reducible first | refine gw_seq ?_ | refine gw_block ?_) | ((first | (with_reducible refine mk_to ?_) | (with_reducible first | refine gw_region ?_ | refine gw_if ?_ | refine gw_skip ?_ | refine gw_exit ?_ | refine gw_ret ?_) | ((with_reducible first | refine gif_b (fun hb => ?_) (fun hb => ?_) | refine want_t (fun hb => ?_) (fun hb => ?_) | refine want_f (fun hb => ?_) (fun hb => ?_) | refine dr_t (fun hb => ?_) (fun hb => ?_) | refine dr_f (fun hb => ?_) (fun hb => ?_)) <;> (try simp only [hb]) <;> (try simp only [hpr] at hb)) | with_reducible refine gw_draw (id := 15) [(0, []), (1, []), (2, []), (3, []), (4, []), (5, []), (6, []), (7, []), (8, []), (9, []), (10, []), (11, []), (12, [])] [0, 1, 3, 7, 7, 23, 63, 127, 7, 263, 1023, 2047, 4095] mixed (by kernel_rfl) ?_ | with_reducible refine gw_draw (id := 18) [(0, []), (1, []), (2, []), (3, []), (5, []), (6, []), (7, []), (11, []), (12, []), (13, []), (4, [7, 13]), (8, [13]), (9, [13]), (10, [13]), (14, []), (15, [])] [0, 0, 0, 6, 15, 0, 0, 64, 255, 511, 1023, 0, 0, 6144, 16383, 32767] mixed (by kernel_rfl) ?_) <;> try simp only [List.map, gop, ev, lk, aenv, gyield, gBin, gInt, gStrOp, gUn, gPick, gNil, gExtract, gIfc, gConvK, gIndexO, gIndexVO, gMakeV, gMinV, gMaxV, isInt, gMin, gMax, gBlt, gLenX, gCallV, gInvoke, gNilM, Array.toList_map, vcells, gField, gIndexV, gPart, reduceIte, Nat.reduceAdd, Nat.reduceSub, Nat.reduceMul, Nat.reduceLT, Nat.reduceLeDiff, Nat.reduceEqDiff, Nat.reduceBEq, Int.reduceLT, Int.reduceLE, Int.reduceGT, Int.reduceGE, Int.reduceEq, Int.reduceNe, Int.reduceAdd, Int.reduceSub, Int.reduceMul, Int.reduceNeg, Int.reduceToNat, Int.reduceBEq, Int.reduceBNe, Int.cast_ofNat_Int, List.getElem?_toArray, stp, rvOf, rvLen, wput, wlk, rdv, isEff, dsOf, sgl, stq, Try.underlying22, Try.underlying23, Try.underlying24, Try.underlying3, Try.underlying4, Try.underlying47, Try.underlying5, Try.underlying53, Try.underlying9, Try.underlying99, ty22, ty23, ty24, ty47, ty53, ty99, ty3, ty4, ty5, ty9, rs26, d1, d2, d3, gPick, gNil, we, gload1 x3.obj sz22, List.getElem?_cons_zero, List.getElem?_cons_succ]))
    refine ⟨_, (e + 1, a3, n3, c3), by simp only; omega, (by simp only [List.forall_mem_cons, List.not_mem_nil, false_implies, implies_true, List.map, List.cons_append, List.nil_append, lk, Nat.reduceEqDiff, reduceIte, and_true, true_and]), rfl, by simp only; omega, by simp only; omega, s3, R, fi.skip (by omega) fun id p o hf h1 h2 => ?_, ot⟩
    have := occ_lt hbl o
    unfold pn at h1 h2
    simp only at h2
    omega
  have d3 : decide ((e : Int) ≤ f) = false := decide_eq_false hef
  obtain ⟨m, rfl⟩ : ∃ m, e = m + 1 := ⟨e - 1, by omega⟩
  have wm : IntKind.i64.wrap (((m + 1 : Nat) : Int) - 1) = (m : Int) := by rw [wrap64 (by omega) (by omega)]; omega
  obtain ⟨b, hb⟩ := get_lt (show m < B.length by omega)
  obtain ⟨vb, hv, bat⟩ := x.bats m b hb
  have hbN : batN B m = b := by unfold batN; rw [hb]; rfl
  have hb10 := hbl b (List.mem_of_getElem? hb)
  obtain ⟨a4, c4, rfl, _⟩ := bat.rl.form
  obtain ⟨k5, i5, m5⟩ := x3.bat.at (P := Try.prog) Try.underlying22 sz23 (i := m) (by omega)
  have l5 : gLoad Try.prog 23 h3 (.pointer (some ⟨k5, m * 1, none⟩)) = some (.slice a4 b.length c4) := by rw [gload1 m5 sz23, Nat.mul_one]; exact hv
  refine mk_of ?_; repeat' (first | (with_reducible first | refine gw_seq ?_ | refine gw_block ?_) | ((first | (with_reducible refine mk_to ?_) | (with_reducible first | refine gw_region ?_ | refine gw_if ?_ | refine gw_skip ?_ | refine gw_exit ?_ | refine gw_ret ?_) | ((with_reducible first | refine gif_b (fun hb => ?_) (fun hb => ?_) | refine want_t (fun hb => ?_) (fun hb => ?_) | refine want_f (fun hb => ?_) (fun hb => ?_) | refine dr_t (fun hb => ?_) (fun hb => ?_) | refine dr_f (fun hb => ?_) (fun hb => ?_)) <;> (try simp only [hb]) <;> (try simp only [hpr] at hb)) | with_reducible refine gw_draw (id := 15) [(0, []), (1, []), (2, []), (3, []), (4, []), (5, []), (6, []), (7, []), (8, []), (9, []), (10, []), (11, []), (12, [])] [0, 1, 3, 7, 7, 23, 63, 127, 7, 263, 1023, 2047, 4095] mixed (by kernel_rfl) ?_ | with_reducible refine gw_draw (id := 18) [(0, []), (1, []), (2, []), (3, []), (5, []), (6, []), (7, []), (11, []), (12, []), (13, []), (4, [7, 13]), (8, [13]), (9, [13]), (10, [13]), (14, []), (15, [])] [0, 0, 0, 6, 15, 0, 0, 64, 255, 511, 1023, 0, 0, 6144, 16383, 32767] mixed (by kernel_rfl) ?_) <;> try simp only [List.map, gop, ev, lk, aenv, gyield, gBin, gInt, gStrOp, gUn, gPick, gNil, gExtract, gIfc, gConvK, gIndexO, gIndexVO, gMakeV, gMinV, gMaxV, isInt, gMin, gMax, gBlt, gLenX, gCallV, gInvoke, gNilM, Array.toList_map, vcells, gField, gIndexV, gPart, reduceIte, Nat.reduceAdd, Nat.reduceSub, Nat.reduceMul, Nat.reduceLT, Nat.reduceLeDiff, Nat.reduceEqDiff, Nat.reduceBEq, Int.reduceLT, Int.reduceLE, Int.reduceGT, Int.reduceGE, Int.reduceEq, Int.reduceNe, Int.reduceAdd, Int.reduceSub, Int.reduceMul, Int.reduceNeg, Int.reduceToNat, Int.reduceBEq, Int.reduceBNe, Int.cast_ofNat_Int, List.getElem?_toArray, stp, rvOf, rvLen, wput, wlk, rdv, isEff, dsOf, sgl, stq, Try.underlying22, Try.underlying23, Try.underlying24, Try.underlying3, Try.underlying4, Try.underlying47, Try.underlying5, Try.underlying53, Try.underlying9, Try.underlying99, ty22, ty23, ty24, ty47, ty53, ty99, ty3, ty4, ty5, ty9, rs26, d1, d2, d3, gPick, gNil, gload1 x3.obj sz22, wm, i5, l5, List.getElem?_cons_zero, List.getElem?_cons_succ]))
  refine gw_loop2 [0, 1, 2, 6, 8, 15, 16, 17, 18, 19, 20, 21, 22, 23, 24, 25, 26, 29, 30, 31, 32, 33, 34, 35, 36, 37, 38, 39, 40] (fun (y : Nat × (Option Addr × Nat × Nat)) => [(7, .slice y.2.1 y.2.2.1 y.2.2.2), (41, .int .i64 (y.1 : Int))])
    (fun q y h' => b.length - y.1 = q ∧ y.1 ≤ b.length ∧ HS h h' ∧ ∃ R, FI B f t R (16 * (m + 1) + y.1) ∧ OT1 h h' (.slice y.2.1 y.2.2.1 y.2.2.2) R) b.length (0, (a3, n3, c3)) (by simp [lk])
    ⟨rfl, by simp, s3, R, fi, ot⟩ ?_
  clear fi ot R
  rintro _ ⟨i, a6, n6, c6⟩ h6 ⟨rfl, hi, s6, R, fi, ot⟩
  simp only at hi fi ot
  by_cases hib : i < b.length
  case neg =>
    obtain rfl : i = b.length := by omega
    have d4 : decide ((b.length : Int) < (b.length : Int)) = false := decide_eq_false (by omega)
    refine mk_of ?_; repeat' (first | (with_reducible first | refine gw_seq ?_ | refine gw_block ?_) | ((first | (with_reducible refine mk_to ?_) | (with_reducible first | refine gw_region ?_ | refine gw_if ?_ | refine gw_skip ?_ | refine gw_exit ?_ | refine gw_ret ?_) | ((with_reducible first | refine gif_b (fun hb => ?_) (fun hb => ?_) | refine want_t (fun hb => ?_) (fun hb => ?_) | refine want_f (fun hb => ?_) (fun hb => ?_) | refine dr_t (fun hb => ?_) (fun hb => ?_) | refine dr_f (fun hb => ?_) (fun hb => ?_)) <;> (try simp only [hb]) <;> (try simp only [hpr] at hb)) | with_reducible refine gw_draw (id := 15) [(0, []), (1, []), (2, []), (3, []), (4, []), (5, []), (6, []), (7, []), (8, []), (9, []), (10, []), (11, []), (12, [])] [0, 1, 3, 7, 7, 23, 63, 127, 7, 263, 1023, 2047, 4095] mixed (by kernel_rfl) ?_ | with_reducible refine gw_draw (id := 18) [(0, []), (1, []), (2, []), (3, []), (5, []), (6, []), (7, []), (11, []), (12, []), (13, []), (4, [7, 13]), (8, [13]), (9, [13]), (10, [13]), (14, []), (15, [])] [0, 0, 0, 6, 15, 0, 0, 64, 255, 511, 1023, 0, 0, 6144, 16383, 32767] mixed (by kernel_rfl) ?_) <;> try simp only [List.map, gop, ev, lk, aenv, gyield, gBin, gInt, gStrOp, gUn, gPick, gNil, gExtract, gIfc, gConvK, gIndexO, gIndexVO, gMakeV, gMinV, gMaxV, isInt, gMin, gMax, gBlt, gLenX, gCallV, gInvoke, gNilM, Array.toList_map, vcells, gField, gIndexV, gPart, reduceIte, Nat.reduceAdd, Nat.reduceSub, Nat.reduceMul, Nat.reduceLT, Nat.reduceLeDiff, Nat.reduceEqDiff, Nat.reduceBEq, Int.reduceLT, Int.reduceLE, Int.reduceGT, Int.reduceGE, Int.reduceEq, Int.reduceNe, Int.reduceAdd, Int.reduceSub, Int.reduceMul, Int.reduceNeg, Int.reduceToNat, Int.reduceBEq, Int.reduceBNe, Int.cast_ofNat_Int, List.getElem?_toArray, stp, rvOf, rvLen, wput, wlk, rdv, isEff, dsOf, sgl, stq, Try.underlying22, Try.underlying23, Try.underlying24, Try.underlying3, Try.underlying4, Try.underlying47, Try.underlying5, Try.underlying53, Try.underlying9, Try.underlying99, ty22, ty23, ty24, ty47, ty53, ty99, ty3, ty4, ty5, ty9, rs26, d4, we]))
    refine ⟨_, (m + 1 + 1, a6, n6, c6), by simp only; omega, (by simp only [List.forall_mem_cons, List.not_mem_nil, false_implies, implies_true, List.map, List.cons_append, List.nil_append, lk, Nat.reduceEqDiff, reduceIte, and_true, true_and]), rfl, by simp only; omega, by simp only; omega, s6, R, fi.skip (by simp only; omega) fun id p o hf h1 h2 => ?_, ot⟩
    have h3 := o.2.2.1
    have := occ_lt hbl o
    unfold pn at h1 h2
    simp only at h2
    have hp : p.1 = m + 1 := by omega
    rw [hp, Nat.add_sub_cancel, hbN] at h3
    omega
  have d4 : decide ((i : Int) < (b.length : Int)) = true := decide_eq_true (by omega)
  have wi : IntKind.i64.wrap ((i : Int) + 1) = ((i + 1 : Nat) : Int) := by rw [wrap64 (by omega) (by omega)]; omega
  obtain ⟨y, hy⟩ := get_lt hib
  have hby : bat1 b i = y := by simp [bat1, hy]
  have hyl := (x.bl b (List.mem_of_getElem? hb)).2 y (List.mem_of_getElem? hy)
  have ho : occ B y.1 (m + 1, i) := ⟨by simp, by simp only; omega, by simp only [Nat.add_sub_cancel]; rw [hbN]; exact hib, by simp only [Nat.add_sub_cancel]; rw [hbN, hby]⟩
  have hRl : R.length ≤ 2000 := by have := fi.len; omega
  obtain ⟨ad, cs2, g1, g2, a', n', c', b', m', d', rfl, q1, q2⟩ := (bat.hs s6).rl.at (P := Try.prog) Try.underlying23 sz99 hy
  have l6 : gLoad Try.prog 99 h6 (.pointer (some ad)) = some (.agg #[.slice a' n' c', .slice b' m' d']) := by simp only [gLoad, sz99, g2]; rfl
  have e1 := q1.len_eq
  subst e1
  refine mk_of ?_; repeat' (first | (with_reducible first | refine gw_seq ?_ | refine gw_block ?_) | ((first | (with_reducible refine mk_to ?_) | (with_reducible first | refine gw_region ?_ | refine gw_if ?_ | refine gw_skip ?_ | refine gw_exit ?_ | refine gw_ret ?_) | ((with_reducible first | refine gif_b (fun hb => ?_) (fun hb => ?_) | refine want_t (fun hb => ?_) (fun hb => ?_) | refine want_f (fun hb => ?_) (fun hb => ?_) | refine dr_t (fun hb => ?_) (fun hb => ?_) | refine dr_f (fun hb => ?_) (fun hb => ?_)) <;> (try simp only [hb]) <;> (try simp only [hpr] at hb)) | with_reducible refine gw_draw (id := 15) [(0, []), (1, []), (2, []), (3, []), (4, []), (5, []), (6, []), (7, []), (8, []), (9, []), (10, []), (11, []), (12, [])] [0, 1, 3, 7, 7, 23, 63, 127, 7, 263, 1023, 2047, 4095] mixed (by kernel_rfl) ?_ | with_reducible refine gw_draw (id := 18) [(0, []), (1, []), (2, []), (3, []), (5, []), (6, []), (7, []), (11, []), (12, []), (13, []), (4, [7, 13]), (8, [13]), (9, [13]), (10, [13]), (14, []), (15, [])] [0, 0, 0, 6, 15, 0, 0, 64, 255, 511, 1023, 0, 0, 6144, 16383, 32767] mixed (by kernel_rfl) ?_) <;> try simp only [List.map, gop, ev, lk, aenv, gyield, gBin, gInt, gStrOp, gUn, gPick, gNil, gExtract, gIfc, gConvK, gIndexO, gIndexVO, gMakeV, gMinV, gMaxV, isInt, gMin, gMax, gBlt, gLenX, gCallV, gInvoke, gNilM, Array.toList_map, vcells, gField, gIndexV, gPart, reduceIte, Nat.reduceAdd, Nat.reduceSub, Nat.reduceMul, Nat.reduceLT, Nat.reduceLeDiff, Nat.reduceEqDiff, Nat.reduceBEq, Int.reduceLT, Int.reduceLE, Int.reduceGT, Int.reduceGE, Int.reduceEq, Int.reduceNe, Int.reduceAdd, Int.reduceSub, Int.reduceMul, Int.reduceNeg, Int.reduceToNat, Int.reduceBEq, Int.reduceBNe, Int.cast_ofNat_Int, List.getElem?_toArray, stp, rvOf, rvLen, wput, wlk, rdv, isEff, dsOf, sgl, stq, Try.underlying22, Try.underlying23, Try.underlying24, Try.underlying3, Try.underlying4, Try.underlying47, Try.underlying5, Try.underlying53, Try.underlying9, Try.underlying99, ty22, ty23, ty24, ty47, ty53, ty99, ty3, ty4, ty5, ty9, rs26, d4, g1, l6]))
  refine new_g fun k7 h7 m7 s7 f7 n7 => ?_
  refine mk_of ?_; repeat' (first | (with_reducible first | refine gw_seq ?_ | refine gw_block ?_) | ((first | (with_reducible refine mk_to ?_) | (with_reducible first | refine gw_region ?_ | refine gw_if ?_ | refine gw_skip ?_ | refine gw_exit ?_ | refine gw_ret ?_) | ((with_reducible first | refine gif_b (fun hb => ?_) (fun hb => ?_) | refine want_t (fun hb => ?_) (fun hb => ?_) | refine want_f (fun hb => ?_) (fun hb => ?_) | refine dr_t (fun hb => ?_) (fun hb => ?_) | refine dr_f (fun hb => ?_) (fun hb => ?_)) <;> (try simp only [hb]) <;> (try simp only [hpr] at hb)) | with_reducible refine gw_draw (id := 15) [(0, []), (1, []), (2, []), (3, []), (4, []), (5, []), (6, []), (7, []), (8, []), (9, []), (10, []), (11, []), (12, [])] [0, 1, 3, 7, 7, 23, 63, 127, 7, 263, 1023, 2047, 4095] mixed (by kernel_rfl) ?_ | with_reducible refine gw_draw (id := 18) [(0, []), (1, []), (2, []), (3, []), (5, []), (6, []), (7, []), (11, []), (12, []), (13, []), (4, [7, 13]), (8, [13]), (9, [13]), (10, [13]), (14, []), (15, [])] [0, 0, 0, 6, 15, 0, 0, 64, 255, 511, 1023, 0, 0, 6144, 16383, 32767] mixed (by kernel_rfl) ?_) <;> try simp only [List.map, gop, ev, lk, aenv, gyield, gBin, gInt, gStrOp, gUn, gPick, gNil, gExtract, gIfc, gConvK, gIndexO, gIndexVO, gMakeV, gMinV, gMaxV, isInt, gMin, gMax, gBlt, gLenX, gCallV, gInvoke, gNilM, Array.toList_map, vcells, gField, gIndexV, gPart, reduceIte, Nat.reduceAdd, Nat.reduceSub, Nat.reduceMul, Nat.reduceLT, Nat.reduceLeDiff, Nat.reduceEqDiff, Nat.reduceBEq, Int.reduceLT, Int.reduceLE, Int.reduceGT, Int.reduceGE, Int.reduceEq, Int.reduceNe, Int.reduceAdd, Int.reduceSub, Int.reduceMul, Int.reduceNeg, Int.reduceToNat, Int.reduceBEq, Int.reduceBNe, Int.cast_ofNat_Int, List.getElem?_toArray, stp, rvOf, rvLen, wput, wlk, rdv, isEff, dsOf, sgl, stq, Try.underlying22, Try.underlying23, Try.underlying24, Try.underlying3, Try.underlying4, Try.underlying47, Try.underlying5, Try.underlying53, Try.underlying9, Try.underlying99, ty22, ty23, ty24, ty47, ty53, ty99, ty3, ty4, ty5, ty9, rs26]))
  refine st_all m7 sz99 rfl (by decide) rfl rfl rfl fun h8 m8 f8 => ?_
  have s8 : HS h6 h8 := (HS.refl h6).upd n7 (fun j hj => (f8 j hj).trans (f7 j hj))
  have ot8 := ot.hs s8
  have hn6 : n6 = R.length := by
    obtain ⟨_, o, _⟩ := ot
    obtain ⟨_, _, q⟩ := o.form
    cases q; rfl
  subst hn6
  refine mk_of ?_; repeat' (first | (with_reducible first | refine gw_seq ?_ | refine gw_block ?_) | ((first | (with_reducible refine mk_to ?_) | (with_reducible first | refine gw_region ?_ | refine gw_if ?_ | refine gw_skip ?_ | refine gw_exit ?_ | refine gw_ret ?_) | ((with_reducible first | refine gif_b (fun hb => ?_) (fun hb => ?_) | refine want_t (fun hb => ?_) (fun hb => ?_) | refine want_f (fun hb => ?_) (fun hb => ?_) | refine dr_t (fun hb => ?_) (fun hb => ?_) | refine dr_f (fun hb => ?_) (fun hb => ?_)) <;> (try simp only [hb]) <;> (try simp only [hpr] at hb)) | with_reducible refine gw_draw (id := 15) [(0, []), (1, []), (2, []), (3, []), (4, []), (5, []), (6, []), (7, []), (8, []), (9, []), (10, []), (11, []), (12, [])] [0, 1, 3, 7, 7, 23, 63, 127, 7, 263, 1023, 2047, 4095] mixed (by kernel_rfl) ?_ | with_reducible refine gw_draw (id := 18) [(0, []), (1, []), (2, []), (3, []), (5, []), (6, []), (7, []), (11, []), (12, []), (13, []), (4, [7, 13]), (8, [13]), (9, [13]), (10, [13]), (14, []), (15, [])] [0, 0, 0, 6, 15, 0, 0, 64, 255, 511, 1023, 0, 0, 6144, 16383, 32767] mixed (by kernel_rfl) ?_) <;> try simp only [List.map, gop, ev, lk, aenv, gyield, gBin, gInt, gStrOp, gUn, gPick, gNil, gExtract, gIfc, gConvK, gIndexO, gIndexVO, gMakeV, gMinV, gMaxV, isInt, gMin, gMax, gBlt, gLenX, gCallV, gInvoke, gNilM, Array.toList_map, vcells, gField, gIndexV, gPart, reduceIte, Nat.reduceAdd, Nat.reduceSub, Nat.reduceMul, Nat.reduceLT, Nat.reduceLeDiff, Nat.reduceEqDiff, Nat.reduceBEq, Int.reduceLT, Int.reduceLE, Int.reduceGT, Int.reduceGE, Int.reduceEq, Int.reduceNe, Int.reduceAdd, Int.reduceSub, Int.reduceMul, Int.reduceNeg, Int.reduceToNat, Int.reduceBEq, Int.reduceBNe, Int.cast_ofNat_Int, List.getElem?_toArray, stp, rvOf, rvLen, wput, wlk, rdv, isEff, dsOf, sgl, stq, Try.underlying22, Try.underlying23, Try.underlying24, Try.underlying3, Try.underlying4, Try.underlying47, Try.underlying5, Try.underlying53, Try.underlying9, Try.underlying99, ty22, ty23, ty24, ty47, ty53, ty99, ty3, ty4, ty5, ty9, rs26]))
  refine gw_loop2 [0, 1, 2, 6, 7, 8, 10, 11, 15, 16, 17, 18, 19, 20, 21, 22, 23, 24, 25, 26, 29, 30, 31, 32, 33, 34, 35, 36, 37, 38, 39, 40, 41, 42, 43, 44, 45, 46, 47, 48] (fun (y : Nat × Bool) => [(12, .bool y.2), (49, .int .i64 (y.1 : Int))])
    (fun q z h' => R.length - z.1 = q ∧ z.1 ≤ R.length ∧ HS h8 h' ∧ z.2 = ((R.map (·.1)).take z.1).any (· == y.1)) R.length (0, false) (by simp [lk])
    ⟨by simp, by simp, HS.refl _, by simp⟩ ?_
  rintro _ ⟨j, kn⟩ h9 ⟨rfl, hj, s9, hkn⟩
  simp only at hj hkn
  have m9 := s9 _ _ m8
  have rl9 := (ot8.hs s9).rl
  by_cases hjR : j < R.length
  case pos =>
    have d5 : decide ((j : Int) < (R.length : Int)) = true := decide_eq_true (by omega)
    have wj : IntKind.i64.wrap ((j : Int) + 1) = ((j + 1 : Nat) : Int) := by rw [wrap64 (by omega) (by omega)]; omega
    obtain ⟨w, hw⟩ := get_lt (show j < (R.map (·.1)).length by rw [List.length_map]; exact hjR)
    obtain ⟨ad2, cs3, g3, g4, a10, c10, rfl, q10⟩ := rl9.at (P := Try.prog) Try.underlying47 sz24 hw
    have l10 : gLoad Try.prog 24 h9 (.pointer (some ad2)) = some (.slice a10 w.length c10) := by simp only [gLoad, sz24, g4]; rfl
    have cv1 := q10.conv Try.underlying24 Try.underlying5 Try.underlying9
    have cv2 := ((q1.hs s8).hs s9).conv Try.underlying24 Try.underlying5 Try.underlying9
    have hnx : ((R.map (·.1)).take (j + 1)).any (· == y.1) = (kn || w == y.1) := by rw [any_take hw, hkn]
    cases kn
    · refine mk_of ?_; repeat' (first | (with_reducible first | refine gw_seq ?_ | refine gw_block ?_) | ((first | (with_reducible refine mk_to ?_) | (with_reducible first | refine gw_region ?_ | refine gw_if ?_ | refine gw_skip ?_ | refine gw_exit ?_ | refine gw_ret ?_) | ((with_reducible first | refine gif_b (fun hb => ?_) (fun hb => ?_) | refine want_t (fun hb => ?_) (fun hb => ?_) | refine want_f (fun hb => ?_) (fun hb => ?_) | refine dr_t (fun hb => ?_) (fun hb => ?_) | refine dr_f (fun hb => ?_) (fun hb => ?_)) <;> (try simp only [hb]) <;> (try simp only [hpr] at hb)) | with_reducible refine gw_draw (id := 15) [(0, []), (1, []), (2, []), (3, []), (4, []), (5, []), (6, []), (7, []), (8, []), (9, []), (10, []), (11, []), (12, [])] [0, 1, 3, 7, 7, 23, 63, 127, 7, 263, 1023, 2047, 4095] mixed (by kernel_rfl) ?_ | with_reducible refine gw_draw (id := 18) [(0, []), (1, []), (2, []), (3, []), (5, []), (6, []), (7, []), (11, []), (12, []), (13, []), (4, [7, 13]), (8, [13]), (9, [13]), (10, [13]), (14, []), (15, [])] [0, 0, 0, 6, 15, 0, 0, 64, 255, 511, 1023, 0, 0, 6144, 16383, 32767] mixed (by kernel_rfl) ?_) <;> try simp only [List.map, gop, ev, lk, aenv, gyield, gBin, gInt, gStrOp, gUn, gPick, gNil, gExtract, gIfc, gConvK, gIndexO, gIndexVO, gMakeV, gMinV, gMaxV, isInt, gMin, gMax, gBlt, gLenX, gCallV, gInvoke, gNilM, Array.toList_map, vcells, gField, gIndexV, gPart, reduceIte, Nat.reduceAdd, Nat.reduceSub, Nat.reduceMul, Nat.reduceLT, Nat.reduceLeDiff, Nat.reduceEqDiff, Nat.reduceBEq, Int.reduceLT, Int.reduceLE, Int.reduceGT, Int.reduceGE, Int.reduceEq, Int.reduceNe, Int.reduceAdd, Int.reduceSub, Int.reduceMul, Int.reduceNeg, Int.reduceToNat, Int.reduceBEq, Int.reduceBNe, Int.cast_ofNat_Int, List.getElem?_toArray, stp, rvOf, rvLen, wput, wlk, rdv, isEff, dsOf, sgl, stq, Try.underlying22, Try.underlying23, Try.underlying24, Try.underlying3, Try.underlying4, Try.underlying47, Try.underlying5, Try.underlying53, Try.underlying9, Try.underlying99, ty22, ty23, ty24, ty47, ty53, ty99, ty3, ty4, ty5, ty9, rs26, d5, g3, l10, gload1 m9 sz24, List.getElem?_cons_zero, List.getElem?_cons_succ, cv1, cv2, bstr_eq, gPick, wj]))
      exact ⟨_, (j + 1, w == y.1), by simp only; omega, (by simp only [List.forall_mem_cons, List.not_mem_nil, false_implies, implies_true, List.map, List.cons_append, List.nil_append, lk, Nat.reduceEqDiff, reduceIte, and_true, true_and]), rfl, by simp only; omega, s9, by simp only; rw [hnx, Bool.false_or]⟩
    · refine mk_of ?_; repeat' (first | (with_reducible first | refine gw_seq ?_ | refine gw_block ?_) | ((first | (with_reducible refine mk_to ?_) | (with_reducible first | refine gw_region ?_ | refine gw_if ?_ | refine gw_skip ?_ | refine gw_exit ?_ | refine gw_ret ?_) | ((with_reducible first | refine gif_b (fun hb => ?_) (fun hb => ?_) | refine want_t (fun hb => ?_) (fun hb => ?_) | refine want_f (fun hb => ?_) (fun hb => ?_) | refine dr_t (fun hb => ?_) (fun hb => ?_) | refine dr_f (fun hb => ?_) (fun hb => ?_)) <;> (try simp only [hb]) <;> (try simp only [hpr] at hb)) | with_reducible refine gw_draw (id := 15) [(0, []), (1, []), (2, []), (3, []), (4, []), (5, []), (6, []), (7, []), (8, []), (9, []), (10, []), (11, []), (12, [])] [0, 1, 3, 7, 7, 23, 63, 127, 7, 263, 1023, 2047, 4095] mixed (by kernel_rfl) ?_ | with_reducible refine gw_draw (id := 18) [(0, []), (1, []), (2, []), (3, []), (5, []), (6, []), (7, []), (11, []), (12, []), (13, []), (4, [7, 13]), (8, [13]), (9, [13]), (10, [13]), (14, []), (15, [])] [0, 0, 0, 6, 15, 0, 0, 64, 255, 511, 1023, 0, 0, 6144, 16383, 32767] mixed (by kernel_rfl) ?_) <;> try simp only [List.map, gop, ev, lk, aenv, gyield, gBin, gInt, gStrOp, gUn, gPick, gNil, gExtract, gIfc, gConvK, gIndexO, gIndexVO, gMakeV, gMinV, gMaxV, isInt, gMin, gMax, gBlt, gLenX, gCallV, gInvoke, gNilM, Array.toList_map, vcells, gField, gIndexV, gPart, reduceIte, Nat.reduceAdd, Nat.reduceSub, Nat.reduceMul, Nat.reduceLT, Nat.reduceLeDiff, Nat.reduceEqDiff, Nat.reduceBEq, Int.reduceLT, Int.reduceLE, Int.reduceGT, Int.reduceGE, Int.reduceEq, Int.reduceNe, Int.reduceAdd, Int.reduceSub, Int.reduceMul, Int.reduceNeg, Int.reduceToNat, Int.reduceBEq, Int.reduceBNe, Int.cast_ofNat_Int, List.getElem?_toArray, stp, rvOf, rvLen, wput, wlk, rdv, isEff, dsOf, sgl, stq, Try.underlying22, Try.underlying23, Try.underlying24, Try.underlying3, Try.underlying4, Try.underlying47, Try.underlying5, Try.underlying53, Try.underlying9, Try.underlying99, ty22, ty23, ty24, ty47, ty53, ty99, ty3, ty4, ty5, ty9, rs26, d5, g3, l10, gPick, wj]))
      exact ⟨_, (j + 1, true), by simp only; omega, (by simp only [List.forall_mem_cons, List.not_mem_nil, false_implies, implies_true, List.map, List.cons_append, List.nil_append, lk, Nat.reduceEqDiff, reduceIte, and_true, true_and]), rfl, by simp only; omega, s9, by simp only; rw [hnx, Bool.true_or]⟩
  obtain rfl : j = R.length := by omega
  have d5 : decide ((R.length : Int) < (R.length : Int)) = false := decide_eq_false (by omega)
  rw [List.take_of_length_le (by rw [List.length_map]; omega)] at hkn
  refine mk_of ?_; repeat' (first | (with_reducible first | refine gw_seq ?_ | refine gw_block ?_) | ((first | (with_reducible refine mk_to ?_) | (with_reducible first | refine gw_region ?_ | refine gw_if ?_ | refine gw_skip ?_ | refine gw_exit ?_ | refine gw_ret ?_) | ((with_reducible first | refine gif_b (fun hb => ?_) (fun hb => ?_) | refine want_t (fun hb => ?_) (fun hb => ?_) | refine want_f (fun hb => ?_) (fun hb => ?_) | refine dr_t (fun hb => ?_) (fun hb => ?_) | refine dr_f (fun hb => ?_) (fun hb => ?_)) <;> (try simp only [hb]) <;> (try simp only [hpr] at hb)) | with_reducible refine gw_draw (id := 15) [(0, []), (1, []), (2, []), (3, []), (4, []), (5, []), (6, []), (7, []), (8, []), (9, []), (10, []), (11, []), (12, [])] [0, 1, 3, 7, 7, 23, 63, 127, 7, 263, 1023, 2047, 4095] mixed (by kernel_rfl) ?_ | with_reducible refine gw_draw (id := 18) [(0, []), (1, []), (2, []), (3, []), (5, []), (6, []), (7, []), (11, []), (12, []), (13, []), (4, [7, 13]), (8, [13]), (9, [13]), (10, [13]), (14, []), (15, [])] [0, 0, 0, 6, 15, 0, 0, 64, 255, 511, 1023, 0, 0, 6144, 16383, 32767] mixed (by kernel_rfl) ?_) <;> try simp only [List.map, gop, ev, lk, aenv, gyield, gBin, gInt, gStrOp, gUn, gPick, gNil, gExtract, gIfc, gConvK, gIndexO, gIndexVO, gMakeV, gMinV, gMaxV, isInt, gMin, gMax, gBlt, gLenX, gCallV, gInvoke, gNilM, Array.toList_map, vcells, gField, gIndexV, gPart, reduceIte, Nat.reduceAdd, Nat.reduceSub, Nat.reduceMul, Nat.reduceLT, Nat.reduceLeDiff, Nat.reduceEqDiff, Nat.reduceBEq, Int.reduceLT, Int.reduceLE, Int.reduceGT, Int.reduceGE, Int.reduceEq, Int.reduceNe, Int.reduceAdd, Int.reduceSub, Int.reduceMul, Int.reduceNeg, Int.reduceToNat, Int.reduceBEq, Int.reduceBNe, Int.cast_ofNat_Int, List.getElem?_toArray, stp, rvOf, rvLen, wput, wlk, rdv, isEff, dsOf, sgl, stq, Try.underlying22, Try.underlying23, Try.underlying24, Try.underlying3, Try.underlying4, Try.underlying47, Try.underlying5, Try.underlying53, Try.underlying9, Try.underlying99, ty22, ty23, ty24, ty47, ty53, ty99, ty3, ty4, ty5, ty9, rs26, d5]))
  refine gw_loop2 [0, 1, 2, 6, 7, 8, 10, 12, 14, 15, 16, 17, 18, 19, 20, 21, 22, 23, 24, 25, 26, 29, 30, 31, 32, 33, 34, 35, 36, 37, 38, 39, 40, 41, 42, 43, 44, 45, 46, 47, 48, 49, 50, 51, 52, 53, 54, 55, 56, 57, 58, 59, 60, 61, 62] (fun (at_ : Nat) => [(11, .int .i64 (at_ : Int))])
    (fun q at_ h' => at_ = q ∧ at_ ≤ R.length ∧ HS h9 h' ∧ ∀ z ∈ R.drop at_, 0 < idO z.1 y.1) R.length R.length (by simp [lk])
    ⟨rfl, Nat.le_refl _, HS.refl _, fun z hz => by simp at hz⟩ ?_
  rintro _ w h10 ⟨rfl, hw, s10, hup⟩
  have m10 := s10 _ _ m9
  have ot10 := (ot8.hs s9).hs s10
  have q110 := ((q1.hs s8).hs s9).hs s10
  have wstep : ∀ (z : Fst), 0 < w → R[w - 1]? = some z → 0 < idO z.1 y.1 → ∀ z' ∈ R.drop (w - 1), 0 < idO z'.1 y.1 := fun z h0 hz hp z' hz' => by
    have : R.drop (w - 1) = z :: R.drop w := by
      have h1 := List.getElem?_eq_some_iff.1 hz
      rw [List.drop_eq_getElem_cons h1.1, h1.2]
      congr 2
      omega
    rw [this] at hz'
    rcases List.mem_cons.1 hz' with rfl | hz'
    · exact hp
    · exact hup z' hz'
  have hknown : kn = true → ∃ z ∈ R, z.1 = y.1 := fun e => by
    rw [e] at hkn
    obtain ⟨q, hq, e2⟩ := List.any_eq_true.1 hkn.symm
    obtain ⟨z, hz, rfl⟩ := List.mem_map.1 hq
    exact ⟨z, hz, by simpa using e2⟩
  have hunk : kn = false → ∀ z ∈ R, z.1 ≠ y.1 := fun e z hz e2 => by
    rw [e] at hkn
    have := List.any_eq_false.1 hkn.symm z.1 (List.mem_map.2 ⟨z, hz, rfl⟩)
    simp [e2] at this
  have hpn : pn (m + 1, i) = 16 * (m + 1) + i := rfl
  have iz : (!(#[] : Array (Nat × Operand)).size == 0) = false := rfl
  have s610 : HS h6 h10 := (s8.trans s9).trans s10
  by_cases hw0 : w = 0
  · have d6 : decide ((w : Int) > 0) = false := decide_eq_false (by omega)
    have s11 := HS.refl h10
    have hlow : w = 0 ∨ ∃ z, R[w - 1]? = some z ∧ idO z.1 y.1 ≤ 0 := .inl hw0
    cases kn
    case true =>
      refine mk_of ?_; repeat' (first | (with_reducible first | refine gw_seq ?_ | refine gw_block ?_) | ((first | (with_reducible refine mk_to ?_) | (with_reducible first | refine gw_region ?_ | refine gw_if ?_ | refine gw_skip ?_ | refine gw_exit ?_ | refine gw_ret ?_) | ((with_reducible first | refine gif_b (fun hb => ?_) (fun hb => ?_) | refine want_t (fun hb => ?_) (fun hb => ?_) | refine want_f (fun hb => ?_) (fun hb => ?_) | refine dr_t (fun hb => ?_) (fun hb => ?_) | refine dr_f (fun hb => ?_) (fun hb => ?_)) <;> (try simp only [hb]) <;> (try simp only [hpr] at hb)) | with_reducible refine gw_draw (id := 15) [(0, []), (1, []), (2, []), (3, []), (4, []), (5, []), (6, []), (7, []), (8, []), (9, []), (10, []), (11, []), (12, [])] [0, 1, 3, 7, 7, 23, 63, 127, 7, 263, 1023, 2047, 4095] mixed (by kernel_rfl) ?_ | with_reducible refine gw_draw (id := 18) [(0, []), (1, []), (2, []), (3, []), (5, []), (6, []), (7, []), (11, []), (12, []), (13, []), (4, [7, 13]), (8, [13]), (9, [13]), (10, [13]), (14, []), (15, [])] [0, 0, 0, 6, 15, 0, 0, 64, 255, 511, 1023, 0, 0, 6144, 16383, 32767] mixed (by kernel_rfl) ?_) <;> try simp only [List.map, gop, ev, lk, aenv, gyield, gBin, gInt, gStrOp, gUn, gPick, gNil, gExtract, gIfc, gConvK, gIndexO, gIndexVO, gMakeV, gMinV, gMaxV, isInt, gMin, gMax, gBlt, gLenX, gCallV, gInvoke, gNilM, Array.toList_map, vcells, gField, gIndexV, gPart, reduceIte, Nat.reduceAdd, Nat.reduceSub, Nat.reduceMul, Nat.reduceLT, Nat.reduceLeDiff, Nat.reduceEqDiff, Nat.reduceBEq, Int.reduceLT, Int.reduceLE, Int.reduceGT, Int.reduceGE, Int.reduceEq, Int.reduceNe, Int.reduceAdd, Int.reduceSub, Int.reduceMul, Int.reduceNeg, Int.reduceToNat, Int.reduceBEq, Int.reduceBNe, Int.cast_ofNat_Int, List.getElem?_toArray, stp, rvOf, rvLen, wput, wlk, rdv, isEff, dsOf, sgl, stq, Try.underlying22, Try.underlying23, Try.underlying24, Try.underlying3, Try.underlying4, Try.underlying47, Try.underlying5, Try.underlying53, Try.underlying9, Try.underlying99, ty22, ty23, ty24, ty47, ty53, ty99, ty3, ty4, ty5, ty9, rs26, d6, gPick, wi]))
      exact ⟨_, (i + 1, a6, R.length, c6), by simp only; omega, (by simp only [List.forall_mem_cons, List.not_mem_nil, false_implies, implies_true, List.map, List.cons_append, List.nil_append, lk, Nat.reduceEqDiff, reduceIte, and_true, true_and]), rfl, by simp only; omega, (s6.trans s610).trans s11, R, fi.known hbl ho (hknown rfl), (ot10.hs s11)⟩
    refine mk_of ?_; repeat' (first | (with_reducible first | refine gw_seq ?_ | refine gw_block ?_) | ((first | (with_reducible refine mk_to ?_) | (with_reducible first | refine gw_region ?_ | refine gw_if ?_ | refine gw_skip ?_ | refine gw_exit ?_ | refine gw_ret ?_) | ((with_reducible first | refine gif_b (fun hb => ?_) (fun hb => ?_) | refine want_t (fun hb => ?_) (fun hb => ?_) | refine want_f (fun hb => ?_) (fun hb => ?_) | refine dr_t (fun hb => ?_) (fun hb => ?_) | refine dr_f (fun hb => ?_) (fun hb => ?_)) <;> (try simp only [hb]) <;> (try simp only [hpr] at hb)) | with_reducible refine gw_draw (id := 15) [(0, []), (1, []), (2, []), (3, []), (4, []), (5, []), (6, []), (7, []), (8, []), (9, []), (10, []), (11, []), (12, [])] [0, 1, 3, 7, 7, 23, 63, 127, 7, 263, 1023, 2047, 4095] mixed (by kernel_rfl) ?_ | with_reducible refine gw_draw (id := 18) [(0, []), (1, []), (2, []), (3, []), (5, []), (6, []), (7, []), (11, []), (12, []), (13, []), (4, [7, 13]), (8, [13]), (9, [13]), (10, [13]), (14, []), (15, [])] [0, 0, 0, 6, 15, 0, 0, 64, 255, 511, 1023, 0, 0, 6144, 16383, 32767] mixed (by kernel_rfl) ?_) <;> try simp only [List.map, gop, ev, lk, aenv, gyield, gBin, gInt, gStrOp, gUn, gPick, gNil, gExtract, gIfc, gConvK, gIndexO, gIndexVO, gMakeV, gMinV, gMaxV, isInt, gMin, gMax, gBlt, gLenX, gCallV, gInvoke, gNilM, Array.toList_map, vcells, gField, gIndexV, gPart, reduceIte, Nat.reduceAdd, Nat.reduceSub, Nat.reduceMul, Nat.reduceLT, Nat.reduceLeDiff, Nat.reduceEqDiff, Nat.reduceBEq, Int.reduceLT, Int.reduceLE, Int.reduceGT, Int.reduceGE, Int.reduceEq, Int.reduceNe, Int.reduceAdd, Int.reduceSub, Int.reduceMul, Int.reduceNeg, Int.reduceToNat, Int.reduceBEq, Int.reduceBNe, Int.cast_ofNat_Int, List.getElem?_toArray, stp, rvOf, rvLen, wput, wlk, rdv, isEff, dsOf, sgl, stq, Try.underlying22, Try.underlying23, Try.underlying24, Try.underlying3, Try.underlying4, Try.underlying47, Try.underlying5, Try.underlying53, Try.underlying9, Try.underlying99, ty22, ty23, ty24, ty47, ty53, ty99, ty3, ty4, ty5, ty9, rs26, d6, gPick, iz]))
    refine bs0_g el47 rfl ?_
    have m11 := s11 _ _ m10
    obtain ⟨ds, o, u, c, r⟩ := ot10.hs s11
    have hds := o.len
    rw [Nat.mul_one] at hds
    obtain ⟨v1, e1⟩ := o.hi1 (P := Try.prog) Try.underlying47 sz24 hw
    obtain ⟨v2, e2⟩ := o.lo1 (P := Try.prog) Try.underlying47 sz24 hw
    have uT : (ds.take (w * 1)).all notU8 = true := by rw [List.all_eq_true] at u ⊢; exact fun x hx => u x (List.mem_of_mem_take hx)
    have cT : (ds.take (w * 1)).all isCell = true := by rw [List.all_eq_true] at c ⊢; exact fun x hx => c x (List.mem_of_mem_take hx)
    have uD : (ds.drop (w * 1)).all notU8 = true := by rw [List.all_eq_true] at u ⊢; exact fun x hx => u x (List.mem_of_mem_drop hx)
    have cD : (ds.drop (w * 1)).all isCell = true := by rw [List.all_eq_true] at c ⊢; exact fun x hx => c x (List.mem_of_mem_drop hx)
    have lT : (ds.take (w * 1)).length = w * 1 := by rw [List.length_take]; omega
    have lD : (ds.drop (w * 1)).length = (R.length - w) * 1 := by rw [List.length_drop]; omega
    have hsC := (s6.trans s610).trans s11
    refine mk_of ?_; repeat' (first | (with_reducible first | refine gw_seq ?_ | refine gw_block ?_) | ((first | (with_reducible refine mk_to ?_) | (with_reducible first | refine gw_region ?_ | refine gw_if ?_ | refine gw_skip ?_ | refine gw_exit ?_ | refine gw_ret ?_) | ((with_reducible first | refine gif_b (fun hb => ?_) (fun hb => ?_) | refine want_t (fun hb => ?_) (fun hb => ?_) | refine want_f (fun hb => ?_) (fun hb => ?_) | refine dr_t (fun hb => ?_) (fun hb => ?_) | refine dr_f (fun hb => ?_) (fun hb => ?_)) <;> (try simp only [hb]) <;> (try simp only [hpr] at hb)) | with_reducible refine gw_draw (id := 15) [(0, []), (1, []), (2, []), (3, []), (4, []), (5, []), (6, []), (7, []), (8, []), (9, []), (10, []), (11, []), (12, [])] [0, 1, 3, 7, 7, 23, 63, 127, 7, 263, 1023, 2047, 4095] mixed (by kernel_rfl) ?_ | with_reducible refine gw_draw (id := 18) [(0, []), (1, []), (2, []), (3, []), (5, []), (6, []), (7, []), (11, []), (12, []), (13, []), (4, [7, 13]), (8, [13]), (9, [13]), (10, [13]), (14, []), (15, [])] [0, 0, 0, 6, 15, 0, 0, 64, 255, 511, 1023, 0, 0, 6144, 16383, 32767] mixed (by kernel_rfl) ?_) <;> try simp only [List.map, gop, ev, lk, aenv, gyield, gBin, gInt, gStrOp, gUn, gPick, gNil, gExtract, gIfc, gConvK, gIndexO, gIndexVO, gMakeV, gMinV, gMaxV, isInt, gMin, gMax, gBlt, gLenX, gCallV, gInvoke, gNilM, Array.toList_map, vcells, gField, gIndexV, gPart, reduceIte, Nat.reduceAdd, Nat.reduceSub, Nat.reduceMul, Nat.reduceLT, Nat.reduceLeDiff, Nat.reduceEqDiff, Nat.reduceBEq, Int.reduceLT, Int.reduceLE, Int.reduceGT, Int.reduceGE, Int.reduceEq, Int.reduceNe, Int.reduceAdd, Int.reduceSub, Int.reduceMul, Int.reduceNeg, Int.reduceToNat, Int.reduceBEq, Int.reduceBNe, Int.cast_ofNat_Int, List.getElem?_toArray, stp, rvOf, rvLen, wput, wlk, rdv, isEff, dsOf, sgl, stq, Try.underlying22, Try.underlying23, Try.underlying24, Try.underlying3, Try.underlying4, Try.underlying47, Try.underlying5, Try.underlying53, Try.underlying9, Try.underlying99, ty22, ty23, ty24, ty47, ty53, ty99, ty3, ty4, ty5, ty9, rs26, iz, (e1 _ (HS.refl _)).1, (e2 _ (HS.refl _)).1, gload1 m11 sz24, List.getElem?_cons_zero, List.getElem?_cons_succ]))
    refine bs0_g el24 rfl ?_
    refine mk_of ?_; repeat' (first | (with_reducible first | refine gw_seq ?_ | refine gw_block ?_) | ((first | (with_reducible refine mk_to ?_) | (with_reducible first | refine gw_region ?_ | refine gw_if ?_ | refine gw_skip ?_ | refine gw_exit ?_ | refine gw_ret ?_) | ((with_reducible first | refine gif_b (fun hb => ?_) (fun hb => ?_) | refine want_t (fun hb => ?_) (fun hb => ?_) | refine want_f (fun hb => ?_) (fun hb => ?_) | refine dr_t (fun hb => ?_) (fun hb => ?_) | refine dr_f (fun hb => ?_) (fun hb => ?_)) <;> (try simp only [hb]) <;> (try simp only [hpr] at hb)) | with_reducible refine gw_draw (id := 15) [(0, []), (1, []), (2, []), (3, []), (4, []), (5, []), (6, []), (7, []), (8, []), (9, []), (10, []), (11, []), (12, [])] [0, 1, 3, 7, 7, 23, 63, 127, 7, 263, 1023, 2047, 4095] mixed (by kernel_rfl) ?_ | with_reducible refine gw_draw (id := 18) [(0, []), (1, []), (2, []), (3, []), (5, []), (6, []), (7, []), (11, []), (12, []), (13, []), (4, [7, 13]), (8, [13]), (9, [13]), (10, [13]), (14, []), (15, [])] [0, 0, 0, 6, 15, 0, 0, 64, 255, 511, 1023, 0, 0, 6144, 16383, 32767] mixed (by kernel_rfl) ?_) <;> try simp only [List.map, gop, ev, lk, aenv, gyield, gBin, gInt, gStrOp, gUn, gPick, gNil, gExtract, gIfc, gConvK, gIndexO, gIndexVO, gMakeV, gMinV, gMaxV, isInt, gMin, gMax, gBlt, gLenX, gCallV, gInvoke, gNilM, Array.toList_map, vcells, gField, gIndexV, gPart, reduceIte, Nat.reduceAdd, Nat.reduceSub, Nat.reduceMul, Nat.reduceLT, Nat.reduceLeDiff, Nat.reduceEqDiff, Nat.reduceBEq, Int.reduceLT, Int.reduceLE, Int.reduceGT, Int.reduceGE, Int.reduceEq, Int.reduceNe, Int.reduceAdd, Int.reduceSub, Int.reduceMul, Int.reduceNeg, Int.reduceToNat, Int.reduceBEq, Int.reduceBNe, Int.cast_ofNat_Int, List.getElem?_toArray, stp, rvOf, rvLen, wput, wlk, rdv, isEff, dsOf, sgl, stq, Try.underlying22, Try.underlying23, Try.underlying24, Try.underlying3, Try.underlying4, Try.underlying47, Try.underlying5, Try.underlying53, Try.underlying9, Try.underlying99, ty22, ty23, ty24, ty47, ty53, ty99, ty3, ty4, ty5, ty9, rs26, iz, (e1 _ (HS.refl _)).1, (e2 _ (HS.refl _)).1, gload1 m11 sz24, List.getElem?_cons_zero, List.getElem?_cons_succ]))
    refine append_ownc el47 Try.underlying47 rfl (HS.refl _) (OWNC.zero _ _ _ _) (e1 _ (HS.refl _)).2 lT cT (by omega) (by simp only [maxLen]; omega) fun v12 h12 s12 fr12 o12 => ?_
    rw [List.nil_append, Nat.zero_add] at o12
    have m12 := s12 _ _ m11
    refine mk_of ?_; repeat' (first | (with_reducible first | refine gw_seq ?_ | refine gw_block ?_) | ((first | (with_reducible refine mk_to ?_) | (with_reducible first | refine gw_region ?_ | refine gw_if ?_ | refine gw_skip ?_ | refine gw_exit ?_ | refine gw_ret ?_) | ((with_reducible first | refine gif_b (fun hb => ?_) (fun hb => ?_) | refine want_t (fun hb => ?_) (fun hb => ?_) | refine want_f (fun hb => ?_) (fun hb => ?_) | refine dr_t (fun hb => ?_) (fun hb => ?_) | refine dr_f (fun hb => ?_) (fun hb => ?_)) <;> (try simp only [hb]) <;> (try simp only [hpr] at hb)) | with_reducible refine gw_draw (id := 15) [(0, []), (1, []), (2, []), (3, []), (4, []), (5, []), (6, []), (7, []), (8, []), (9, []), (10, []), (11, []), (12, [])] [0, 1, 3, 7, 7, 23, 63, 127, 7, 263, 1023, 2047, 4095] mixed (by kernel_rfl) ?_ | with_reducible refine gw_draw (id := 18) [(0, []), (1, []), (2, []), (3, []), (5, []), (6, []), (7, []), (11, []), (12, []), (13, []), (4, [7, 13]), (8, [13]), (9, [13]), (10, [13]), (14, []), (15, [])] [0, 0, 0, 6, 15, 0, 0, 64, 255, 511, 1023, 0, 0, 6144, 16383, 32767] mixed (by kernel_rfl) ?_) <;> try simp only [List.map, gop, ev, lk, aenv, gyield, gBin, gInt, gStrOp, gUn, gPick, gNil, gExtract, gIfc, gConvK, gIndexO, gIndexVO, gMakeV, gMinV, gMaxV, isInt, gMin, gMax, gBlt, gLenX, gCallV, gInvoke, gNilM, Array.toList_map, vcells, gField, gIndexV, gPart, reduceIte, Nat.reduceAdd, Nat.reduceSub, Nat.reduceMul, Nat.reduceLT, Nat.reduceLeDiff, Nat.reduceEqDiff, Nat.reduceBEq, Int.reduceLT, Int.reduceLE, Int.reduceGT, Int.reduceGE, Int.reduceEq, Int.reduceNe, Int.reduceAdd, Int.reduceSub, Int.reduceMul, Int.reduceNeg, Int.reduceToNat, Int.reduceBEq, Int.reduceBNe, Int.cast_ofNat_Int, List.getElem?_toArray, stp, rvOf, rvLen, wput, wlk, rdv, isEff, dsOf, sgl, stq, Try.underlying22, Try.underlying23, Try.underlying24, Try.underlying3, Try.underlying4, Try.underlying47, Try.underlying5, Try.underlying53, Try.underlying9, Try.underlying99, ty22, ty23, ty24, ty47, ty53, ty99, ty3, ty4, ty5, ty9, rs26, iz, gload1 m12 sz24, List.getElem?_cons_zero, List.getElem?_cons_succ, (e2 _ s12).1]))
    refine append_own el24 Try.underlying24 rfl (HS.refl h12) (OWN.zero _ _ _) ((q110.hs s11).hs s12).src (by simpa using hyl.1) fun v13 h13 s13 _ o13 => ?_
    rw [List.nil_append] at o13
    obtain ⟨a13, c13, rfl⟩ := o13.form
    refine mk_of ?_; repeat' (first | (with_reducible first | refine gw_seq ?_ | refine gw_block ?_) | ((first | (with_reducible refine mk_to ?_) | (with_reducible first | refine gw_region ?_ | refine gw_if ?_ | refine gw_skip ?_ | refine gw_exit ?_ | refine gw_ret ?_) | ((with_reducible first | refine gif_b (fun hb => ?_) (fun hb => ?_) | refine want_t (fun hb => ?_) (fun hb => ?_) | refine want_f (fun hb => ?_) (fun hb => ?_) | refine dr_t (fun hb => ?_) (fun hb => ?_) | refine dr_f (fun hb => ?_) (fun hb => ?_)) <;> (try simp only [hb]) <;> (try simp only [hpr] at hb)) | with_reducible refine gw_draw (id := 15) [(0, []), (1, []), (2, []), (3, []), (4, []), (5, []), (6, []), (7, []), (8, []), (9, []), (10, []), (11, []), (12, [])] [0, 1, 3, 7, 7, 23, 63, 127, 7, 263, 1023, 2047, 4095] mixed (by kernel_rfl) ?_ | with_reducible refine gw_draw (id := 18) [(0, []), (1, []), (2, []), (3, []), (5, []), (6, []), (7, []), (11, []), (12, []), (13, []), (4, [7, 13]), (8, [13]), (9, [13]), (10, [13]), (14, []), (15, [])] [0, 0, 0, 6, 15, 0, 0, 64, 255, 511, 1023, 0, 0, 6144, 16383, 32767] mixed (by kernel_rfl) ?_) <;> try simp only [List.map, gop, ev, lk, aenv, gyield, gBin, gInt, gStrOp, gUn, gPick, gNil, gExtract, gIfc, gConvK, gIndexO, gIndexVO, gMakeV, gMinV, gMaxV, isInt, gMin, gMax, gBlt, gLenX, gCallV, gInvoke, gNilM, Array.toList_map, vcells, gField, gIndexV, gPart, reduceIte, Nat.reduceAdd, Nat.reduceSub, Nat.reduceMul, Nat.reduceLT, Nat.reduceLeDiff, Nat.reduceEqDiff, Nat.reduceBEq, Int.reduceLT, Int.reduceLE, Int.reduceGT, Int.reduceGE, Int.reduceEq, Int.reduceNe, Int.reduceAdd, Int.reduceSub, Int.reduceMul, Int.reduceNeg, Int.reduceToNat, Int.reduceBEq, Int.reduceBNe, Int.cast_ofNat_Int, List.getElem?_toArray, stp, rvOf, rvLen, wput, wlk, rdv, isEff, dsOf, sgl, stq, Try.underlying22, Try.underlying23, Try.underlying24, Try.underlying3, Try.underlying4, Try.underlying47, Try.underlying5, Try.underlying53, Try.underlying9, Try.underlying99, ty22, ty23, ty24, ty47, ty53, ty99, ty3, ty4, ty5, ty9, rs26, (e2 _ (s12.trans s13)).1, Bool.false_and, Bool.not_false]))
    refine bsn1_g el47 rfl rfl (by decide) (by decide) rfl fun k14 h14 b14 s14 f14 n14 => ?_
    refine mk_of ?_; repeat' (first | (with_reducible first | refine gw_seq ?_ | refine gw_block ?_) | ((first | (with_reducible refine mk_to ?_) | (with_reducible first | refine gw_region ?_ | refine gw_if ?_ | refine gw_skip ?_ | refine gw_exit ?_ | refine gw_ret ?_) | ((with_reducible first | refine gif_b (fun hb => ?_) (fun hb => ?_) | refine want_t (fun hb => ?_) (fun hb => ?_) | refine want_f (fun hb => ?_) (fun hb => ?_) | refine dr_t (fun hb => ?_) (fun hb => ?_) | refine dr_f (fun hb => ?_) (fun hb => ?_)) <;> (try simp only [hb]) <;> (try simp only [hpr] at hb)) | with_reducible refine gw_draw (id := 15) [(0, []), (1, []), (2, []), (3, []), (4, []), (5, []), (6, []), (7, []), (8, []), (9, []), (10, []), (11, []), (12, [])] [0, 1, 3, 7, 7, 23, 63, 127, 7, 263, 1023, 2047, 4095] mixed (by kernel_rfl) ?_ | with_reducible refine gw_draw (id := 18) [(0, []), (1, []), (2, []), (3, []), (5, []), (6, []), (7, []), (11, []), (12, []), (13, []), (4, [7, 13]), (8, [13]), (9, [13]), (10, [13]), (14, []), (15, [])] [0, 0, 0, 6, 15, 0, 0, 64, 255, 511, 1023, 0, 0, 6144, 16383, 32767] mixed (by kernel_rfl) ?_) <;> try simp only [List.map, gop, ev, lk, aenv, gyield, gBin, gInt, gStrOp, gUn, gPick, gNil, gExtract, gIfc, gConvK, gIndexO, gIndexVO, gMakeV, gMinV, gMaxV, isInt, gMin, gMax, gBlt, gLenX, gCallV, gInvoke, gNilM, Array.toList_map, vcells, gField, gIndexV, gPart, reduceIte, Nat.reduceAdd, Nat.reduceSub, Nat.reduceMul, Nat.reduceLT, Nat.reduceLeDiff, Nat.reduceEqDiff, Nat.reduceBEq, Int.reduceLT, Int.reduceLE, Int.reduceGT, Int.reduceGE, Int.reduceEq, Int.reduceNe, Int.reduceAdd, Int.reduceSub, Int.reduceMul, Int.reduceNeg, Int.reduceToNat, Int.reduceBEq, Int.reduceBNe, Int.cast_ofNat_Int, List.getElem?_toArray, stp, rvOf, rvLen, wput, wlk, rdv, isEff, dsOf, sgl, stq, Try.underlying22, Try.underlying23, Try.underlying24, Try.underlying3, Try.underlying4, Try.underlying47, Try.underlying5, Try.underlying53, Try.underlying9, Try.underlying99, ty22, ty23, ty24, ty47, ty53, ty99, ty3, ty4, ty5, ty9, rs26, (e2 _ ((s12.trans s13).trans s14)).1]))
    refine append_ownc el47 Try.underlying47 rfl ((s12.trans s13).trans s14) (o12.hs (s13.trans s14)) b14 rfl rfl (by omega) (by simp only [maxLen]; omega) fun v15 h15 s15 fr15 o15 => ?_
    refine mk_of ?_; repeat' (first | (with_reducible first | refine gw_seq ?_ | refine gw_block ?_) | ((first | (with_reducible refine mk_to ?_) | (with_reducible first | refine gw_region ?_ | refine gw_if ?_ | refine gw_skip ?_ | refine gw_exit ?_ | refine gw_ret ?_) | ((with_reducible first | refine gif_b (fun hb => ?_) (fun hb => ?_) | refine want_t (fun hb => ?_) (fun hb => ?_) | refine want_f (fun hb => ?_) (fun hb => ?_) | refine dr_t (fun hb => ?_) (fun hb => ?_) | refine dr_f (fun hb => ?_) (fun hb => ?_)) <;> (try simp only [hb]) <;> (try simp only [hpr] at hb)) | with_reducible refine gw_draw (id := 15) [(0, []), (1, []), (2, []), (3, []), (4, []), (5, []), (6, []), (7, []), (8, []), (9, []), (10, []), (11, []), (12, [])] [0, 1, 3, 7, 7, 23, 63, 127, 7, 263, 1023, 2047, 4095] mixed (by kernel_rfl) ?_ | with_reducible refine gw_draw (id := 18) [(0, []), (1, []), (2, []), (3, []), (5, []), (6, []), (7, []), (11, []), (12, []), (13, []), (4, [7, 13]), (8, [13]), (9, [13]), (10, [13]), (14, []), (15, [])] [0, 0, 0, 6, 15, 0, 0, 64, 255, 511, 1023, 0, 0, 6144, 16383, 32767] mixed (by kernel_rfl) ?_) <;> try simp only [List.map, gop, ev, lk, aenv, gyield, gBin, gInt, gStrOp, gUn, gPick, gNil, gExtract, gIfc, gConvK, gIndexO, gIndexVO, gMakeV, gMinV, gMaxV, isInt, gMin, gMax, gBlt, gLenX, gCallV, gInvoke, gNilM, Array.toList_map, vcells, gField, gIndexV, gPart, reduceIte, Nat.reduceAdd, Nat.reduceSub, Nat.reduceMul, Nat.reduceLT, Nat.reduceLeDiff, Nat.reduceEqDiff, Nat.reduceBEq, Int.reduceLT, Int.reduceLE, Int.reduceGT, Int.reduceGE, Int.reduceEq, Int.reduceNe, Int.reduceAdd, Int.reduceSub, Int.reduceMul, Int.reduceNeg, Int.reduceToNat, Int.reduceBEq, Int.reduceBNe, Int.cast_ofNat_Int, List.getElem?_toArray, stp, rvOf, rvLen, wput, wlk, rdv, isEff, dsOf, sgl, stq, Try.underlying22, Try.underlying23, Try.underlying24, Try.underlying3, Try.underlying4, Try.underlying47, Try.underlying5, Try.underlying53, Try.underlying9, Try.underlying99, ty22, ty23, ty24, ty47, ty53, ty99, ty3, ty4, ty5, ty9, rs26, (e2 _ s15).1]))
    refine append_ownc el47 Try.underlying47 rfl s15 o15 (e2 _ s15).2 lD cD (by omega) (by simp only [maxLen]; omega) fun v16 h16 s16 fr16 o16 => ?_
    obtain ⟨a16, c16, rfl⟩ := o16.form
    refine mk_of ?_; repeat' (first | (with_reducible first | refine gw_seq ?_ | refine gw_block ?_) | ((first | (with_reducible refine mk_to ?_) | (with_reducible first | refine gw_region ?_ | refine gw_if ?_ | refine gw_skip ?_ | refine gw_exit ?_ | refine gw_ret ?_) | ((with_reducible first | refine gif_b (fun hb => ?_) (fun hb => ?_) | refine want_t (fun hb => ?_) (fun hb => ?_) | refine want_f (fun hb => ?_) (fun hb => ?_) | refine dr_t (fun hb => ?_) (fun hb => ?_) | refine dr_f (fun hb => ?_) (fun hb => ?_)) <;> (try simp only [hb]) <;> (try simp only [hpr] at hb)) | with_reducible refine gw_draw (id := 15) [(0, []), (1, []), (2, []), (3, []), (4, []), (5, []), (6, []), (7, []), (8, []), (9, []), (10, []), (11, []), (12, [])] [0, 1, 3, 7, 7, 23, 63, 127, 7, 263, 1023, 2047, 4095] mixed (by kernel_rfl) ?_ | with_reducible refine gw_draw (id := 18) [(0, []), (1, []), (2, []), (3, []), (5, []), (6, []), (7, []), (11, []), (12, []), (13, []), (4, [7, 13]), (8, [13]), (9, [13]), (10, [13]), (14, []), (15, [])] [0, 0, 0, 6, 15, 0, 0, 64, 255, 511, 1023, 0, 0, 6144, 16383, 32767] mixed (by kernel_rfl) ?_) <;> try simp only [List.map, gop, ev, lk, aenv, gyield, gBin, gInt, gStrOp, gUn, gPick, gNil, gExtract, gIfc, gConvK, gIndexO, gIndexVO, gMakeV, gMinV, gMaxV, isInt, gMin, gMax, gBlt, gLenX, gCallV, gInvoke, gNilM, Array.toList_map, vcells, gField, gIndexV, gPart, reduceIte, Nat.reduceAdd, Nat.reduceSub, Nat.reduceMul, Nat.reduceLT, Nat.reduceLeDiff, Nat.reduceEqDiff, Nat.reduceBEq, Int.reduceLT, Int.reduceLE, Int.reduceGT, Int.reduceGE, Int.reduceEq, Int.reduceNe, Int.reduceAdd, Int.reduceSub, Int.reduceMul, Int.reduceNeg, Int.reduceToNat, Int.reduceBEq, Int.reduceBNe, Int.cast_ofNat_Int, List.getElem?_toArray, stp, rvOf, rvLen, wput, wlk, rdv, isEff, dsOf, sgl, stq, Try.underlying22, Try.underlying23, Try.underlying24, Try.underlying3, Try.underlying4, Try.underlying47, Try.underlying5, Try.underlying53, Try.underlying9, Try.underlying99, ty22, ty23, ty24, ty47, ty53, ty99, ty3, ty4, ty5, ty9, rs26, wi]))
    have u15 : (ds.take (w * 1) ++ vcells (.slice a13 y.1.length c13)).all notU8 = true := by rw [List.all_append, uT]; rfl
    have c15 : (ds.take (w * 1) ++ vcells (.slice a13 y.1.length c13)).all isCell = true := by rw [List.all_append, cT]; rfl
    have hl2 : (R.take w ++ (y.1, (m + 1, i)) :: R.drop w).length = w + 1 + (R.length - w) := by rw [List.length_append, List.length_take, List.length_cons, List.length_drop]; omega
    have hmp : (R.take w ++ (y.1, (m + 1, i)) :: R.drop w).map (·.1) = ((R.map (·.1)).take w ++ [y.1]) ++ (R.map (·.1)).drop w := by simp [List.map_take, List.map_drop]
    have hlM : ((R.map (·.1)).take w).length = w := by rw [List.length_take, List.length_map]; omega
    refine ⟨_, (i + 1, a16, w + 1 + (R.length - w), c16), by simp only; omega, (by simp only [List.forall_mem_cons, List.not_mem_nil, false_implies, implies_true, List.map, List.cons_append, List.nil_append, lk, Nat.reduceEqDiff, reduceIte, and_true, true_and]), rfl, by simp only; omega, hsC.trans s16, R.take w ++ (y.1, (m + 1, i)) :: R.drop w, fi.ins hbl ho (by simp only; omega) (by simp only; omega) (hunk rfl) hup (fi.low hw hlow), _, by rw [hl2]; exact o16.weak hsC, by rw [List.all_append, u15, uD]; rfl, by rw [List.all_append, c15, cD]; rfl, ?_⟩
    rw [hmp]
    have hy13 : Tx h14 [.slice a13 y.1.length c13] y.1 := ⟨_, _, rfl, o13.rb.hs s14⟩
    have s16' := (s12.trans s13).trans s14
    have k15 : ∀ {q : List Value} {ee : List UInt8}, Tx h14 q ee → Tx h15 q ee := fun {q ee} w => by
      obtain ⟨a, c, e, r⟩ := w
      exact ⟨a, c, e, fr_rb fr15 uT r⟩
    have k16 : ∀ {q : List Value} {ee : List UInt8}, Tx h15 q ee → Tx h16 q ee := fun {q ee} w => by
      obtain ⟨a, c, e, r⟩ := w
      exact ⟨a, c, e, fr_rb fr16 u15 r⟩
    exact apps_el (R := Tx h16) (by rw [List.length_append, lT, List.length_append, hlM]; rfl) (app_el (R := Tx h16) (by rw [lT, hlM]) rfl (fun i x hx => k16 (k15 ((take_el (R := Tx _) r i x hx).hs s16'))) (k16 (k15 hy13))) (fun i x hx => (drop_el (R := Tx _) r i x hx).hs s16)
  have d6 : decide ((w : Int) > 0) = true := decide_eq_true (by omega)
  have ww : IntKind.i64.wrap ((w : Int) - 1) = ((w - 1 : Nat) : Int) := by rw [wrap64 (by omega) (by omega)]; omega
  obtain ⟨z, hz⟩ := get_lt (show w - 1 < R.length by omega)
  have hzM : (R.map (·.1))[w - 1]? = some z.1 := by rw [List.getElem?_map, hz]; rfl
  obtain ⟨ad2, cs3, g3, g4, a10, c10, rfl, q10⟩ := ot10.rl.at (P := Try.prog) Try.underlying47 sz24 hzM
  have l10 : gLoad Try.prog 24 h10 (.pointer (some ad2)) = some (.slice a10 z.1.length c10) := by simp only [gLoad, sz24, g4]; rfl
  refine mk_of ?_; repeat' (first | (with_reducible first | refine gw_seq ?_ | refine gw_block ?_) | ((first | (with_reducible refine mk_to ?_) | (with_reducible first | refine gw_region ?_ | refine gw_if ?_ | refine gw_skip ?_ | refine gw_exit ?_ | refine gw_ret ?_) | ((with_reducible first | refine gif_b (fun hb => ?_) (fun hb => ?_) | refine want_t (fun hb => ?_) (fun hb => ?_) | refine want_f (fun hb => ?_) (fun hb => ?_) | refine dr_t (fun hb => ?_) (fun hb => ?_) | refine dr_f (fun hb => ?_) (fun hb => ?_)) <;> (try simp only [hb]) <;> (try simp only [hpr] at hb)) | with_reducible refine gw_draw (id := 15) [(0, []), (1, []), (2, []), (3, []), (4, []), (5, []), (6, []), (7, []), (8, []), (9, []), (10, []), (11, []), (12, [])] [0, 1, 3, 7, 7, 23, 63, 127, 7, 263, 1023, 2047, 4095] mixed (by kernel_rfl) ?_ | with_reducible refine gw_draw (id := 18) [(0, []), (1, []), (2, []), (3, []), (5, []), (6, []), (7, []), (11, []), (12, []), (13, []), (4, [7, 13]), (8, [13]), (9, [13]), (10, [13]), (14, []), (15, [])] [0, 0, 0, 6, 15, 0, 0, 64, 255, 511, 1023, 0, 0, 6144, 16383, 32767] mixed (by kernel_rfl) ?_) <;> try simp only [List.map, gop, ev, lk, aenv, gyield, gBin, gInt, gStrOp, gUn, gPick, gNil, gExtract, gIfc, gConvK, gIndexO, gIndexVO, gMakeV, gMinV, gMaxV, isInt, gMin, gMax, gBlt, gLenX, gCallV, gInvoke, gNilM, Array.toList_map, vcells, gField, gIndexV, gPart, reduceIte, Nat.reduceAdd, Nat.reduceSub, Nat.reduceMul, Nat.reduceLT, Nat.reduceLeDiff, Nat.reduceEqDiff, Nat.reduceBEq, Int.reduceLT, Int.reduceLE, Int.reduceGT, Int.reduceGE, Int.reduceEq, Int.reduceNe, Int.reduceAdd, Int.reduceSub, Int.reduceMul, Int.reduceNeg, Int.reduceToNat, Int.reduceBEq, Int.reduceBNe, Int.cast_ofNat_Int, List.getElem?_toArray, stp, rvOf, rvLen, wput, wlk, rdv, isEff, dsOf, sgl, stq, Try.underlying22, Try.underlying23, Try.underlying24, Try.underlying3, Try.underlying4, Try.underlying47, Try.underlying5, Try.underlying53, Try.underlying9, Try.underlying99, ty22, ty23, ty24, ty47, ty53, ty99, ty3, ty4, ty5, ty9, rs26, d6, ww, g3, l10, gload1 m10 sz24, List.getElem?_cons_zero, List.getElem?_cons_succ, gPick]))
  refine (c_rOrder N h10 q10 q110 rfl rfl).mono ?_
  rintro _ h11 ⟨rfl, s11⟩
  by_cases hgt : Lib.compareBytes (gkey z.1) (gkey y.1) > 0
  · have d7 : decide (Lib.compareBytes (gkey z.1) (gkey y.1) > 0) = true := decide_eq_true hgt
    refine mk_of ?_; repeat' (first | (with_reducible first | refine gw_seq ?_ | refine gw_block ?_) | ((first | (with_reducible refine mk_to ?_) | (with_reducible first | refine gw_region ?_ | refine gw_if ?_ | refine gw_skip ?_ | refine gw_exit ?_ | refine gw_ret ?_) | ((with_reducible first | refine gif_b (fun hb => ?_) (fun hb => ?_) | refine want_t (fun hb => ?_) (fun hb => ?_) | refine want_f (fun hb => ?_) (fun hb => ?_) | refine dr_t (fun hb => ?_) (fun hb => ?_) | refine dr_f (fun hb => ?_) (fun hb => ?_)) <;> (try simp only [hb]) <;> (try simp only [hpr] at hb)) | with_reducible refine gw_draw (id := 15) [(0, []), (1, []), (2, []), (3, []), (4, []), (5, []), (6, []), (7, []), (8, []), (9, []), (10, []), (11, []), (12, [])] [0, 1, 3, 7, 7, 23, 63, 127, 7, 263, 1023, 2047, 4095] mixed (by kernel_rfl) ?_ | with_reducible refine gw_draw (id := 18) [(0, []), (1, []), (2, []), (3, []), (5, []), (6, []), (7, []), (11, []), (12, []), (13, []), (4, [7, 13]), (8, [13]), (9, [13]), (10, [13]), (14, []), (15, [])] [0, 0, 0, 6, 15, 0, 0, 64, 255, 511, 1023, 0, 0, 6144, 16383, 32767] mixed (by kernel_rfl) ?_) <;> try simp only [List.map, gop, ev, lk, aenv, gyield, gBin, gInt, gStrOp, gUn, gPick, gNil, gExtract, gIfc, gConvK, gIndexO, gIndexVO, gMakeV, gMinV, gMaxV, isInt, gMin, gMax, gBlt, gLenX, gCallV, gInvoke, gNilM, Array.toList_map, vcells, gField, gIndexV, gPart, reduceIte, Nat.reduceAdd, Nat.reduceSub, Nat.reduceMul, Nat.reduceLT, Nat.reduceLeDiff, Nat.reduceEqDiff, Nat.reduceBEq, Int.reduceLT, Int.reduceLE, Int.reduceGT, Int.reduceGE, Int.reduceEq, Int.reduceNe, Int.reduceAdd, Int.reduceSub, Int.reduceMul, Int.reduceNeg, Int.reduceToNat, Int.reduceBEq, Int.reduceBNe, Int.cast_ofNat_Int, List.getElem?_toArray, stp, rvOf, rvLen, wput, wlk, rdv, isEff, dsOf, sgl, stq, Try.underlying22, Try.underlying23, Try.underlying24, Try.underlying3, Try.underlying4, Try.underlying47, Try.underlying5, Try.underlying53, Try.underlying9, Try.underlying99, ty22, ty23, ty24, ty47, ty53, ty99, ty3, ty4, ty5, ty9, rs26, d6, d7, ww, gPick]))
    exact ⟨_, w - 1, by omega, (by simp only [List.forall_mem_cons, List.not_mem_nil, false_implies, implies_true, List.map, List.cons_append, List.nil_append, lk, Nat.reduceEqDiff, reduceIte, and_true, true_and]), rfl, by omega, s10.trans s11, wstep z (by omega) hz hgt⟩
  have d7 : decide (Lib.compareBytes (gkey z.1) (gkey y.1) > 0) = false := decide_eq_false hgt
  have hlow : w = 0 ∨ ∃ z, R[w - 1]? = some z ∧ idO z.1 y.1 ≤ 0 := .inr ⟨z, hz, by unfold idO; omega⟩
  cases kn
  case true =>
    refine mk_of ?_; repeat' (first | (with_reducible first | refine gw_seq ?_ | refine gw_block ?_) | ((first | (with_reducible refine mk_to ?_) | (with_reducible first | refine gw_region ?_ | refine gw_if ?_ | refine gw_skip ?_ | refine gw_exit ?_ | refine gw_ret ?_) | ((with_reducible first | refine gif_b (fun hb => ?_) (fun hb => ?_) | refine want_t (fun hb => ?_) (fun hb => ?_) | refine want_f (fun hb => ?_) (fun hb => ?_) | refine dr_t (fun hb => ?_) (fun hb => ?_) | refine dr_f (fun hb => ?_) (fun hb => ?_)) <;> (try simp only [hb]) <;> (try simp only [hpr] at hb)) | with_reducible refine gw_draw (id := 15) [(0, []), (1, []), (2, []), (3, []), (4, []), (5, []), (6, []), (7, []), (8, []), (9, []), (10, []), (11, []), (12, [])] [0, 1, 3, 7, 7, 23, 63, 127, 7, 263, 1023, 2047, 4095] mixed (by kernel_rfl) ?_ | with_reducible refine gw_draw (id := 18) [(0, []), (1, []), (2, []), (3, []), (5, []), (6, []), (7, []), (11, []), (12, []), (13, []), (4, [7, 13]), (8, [13]), (9, [13]), (10, [13]), (14, []), (15, [])] [0, 0, 0, 6, 15, 0, 0, 64, 255, 511, 1023, 0, 0, 6144, 16383, 32767] mixed (by kernel_rfl) ?_) <;> try simp only [List.map, gop, ev, lk, aenv, gyield, gBin, gInt, gStrOp, gUn, gPick, gNil, gExtract, gIfc, gConvK, gIndexO, gIndexVO, gMakeV, gMinV, gMaxV, isInt, gMin, gMax, gBlt, gLenX, gCallV, gInvoke, gNilM, Array.toList_map, vcells, gField, gIndexV, gPart, reduceIte, Nat.reduceAdd, Nat.reduceSub, Nat.reduceMul, Nat.reduceLT, Nat.reduceLeDiff, Nat.reduceEqDiff, Nat.reduceBEq, Int.reduceLT, Int.reduceLE, Int.reduceGT, Int.reduceGE, Int.reduceEq, Int.reduceNe, Int.reduceAdd, Int.reduceSub, Int.reduceMul, Int.reduceNeg, Int.reduceToNat, Int.reduceBEq, Int.reduceBNe, Int.cast_ofNat_Int, List.getElem?_toArray, stp, rvOf, rvLen, wput, wlk, rdv, isEff, dsOf, sgl, stq, Try.underlying22, Try.underlying23, Try.underlying24, Try.underlying3, Try.underlying4, Try.underlying47, Try.underlying5, Try.underlying53, Try.underlying9, Try.underlying99, ty22, ty23, ty24, ty47, ty53, ty99, ty3, ty4, ty5, ty9, rs26, d6, d7, ww, gPick, wi]))
    exact ⟨_, (i + 1, a6, R.length, c6), by simp only; omega, (by simp only [List.forall_mem_cons, List.not_mem_nil, false_implies, implies_true, List.map, List.cons_append, List.nil_append, lk, Nat.reduceEqDiff, reduceIte, and_true, true_and]), rfl, by simp only; omega, (s6.trans s610).trans s11, R, fi.known hbl ho (hknown rfl), (ot10.hs s11)⟩
  refine mk_of ?_; repeat' (first | (with_reducible first | refine gw_seq ?_ | refine gw_block ?_) | ((first | (with_reducible refine mk_to ?_) | (with_reducible first | refine gw_region ?_ | refine gw_if ?_ | refine gw_skip ?_ | refine gw_exit ?_ | refine gw_ret ?_) | ((with_reducible first | refine gif_b (fun hb => ?_) (fun hb => ?_) | refine want_t (fun hb => ?_) (fun hb => ?_) | refine want_f (fun hb => ?_) (fun hb => ?_) | refine dr_t (fun hb => ?_) (fun hb => ?_) | refine dr_f (fun hb => ?_) (fun hb => ?_)) <;> (try simp only [hb]) <;> (try simp only [hpr] at hb)) | with_reducible refine gw_draw (id := 15) [(0, []), (1, []), (2, []), (3, []), (4, []), (5, []), (6, []), (7, []), (8, []), (9, []), (10, []), (11, []), (12, [])] [0, 1, 3, 7, 7, 23, 63, 127, 7, 263, 1023, 2047, 4095] mixed (by kernel_rfl) ?_ | with_reducible refine gw_draw (id := 18) [(0, []), (1, []), (2, []), (3, []), (5, []), (6, []), (7, []), (11, []), (12, []), (13, []), (4, [7, 13]), (8, [13]), (9, [13]), (10, [13]), (14, []), (15, [])] [0, 0, 0, 6, 15, 0, 0, 64, 255, 511, 1023, 0, 0, 6144, 16383, 32767] mixed (by kernel_rfl) ?_) <;> try simp only [List.map, gop, ev, lk, aenv, gyield, gBin, gInt, gStrOp, gUn, gPick, gNil, gExtract, gIfc, gConvK, gIndexO, gIndexVO, gMakeV, gMinV, gMaxV, isInt, gMin, gMax, gBlt, gLenX, gCallV, gInvoke, gNilM, Array.toList_map, vcells, gField, gIndexV, gPart, reduceIte, Nat.reduceAdd, Nat.reduceSub, Nat.reduceMul, Nat.reduceLT, Nat.reduceLeDiff, Nat.reduceEqDiff, Nat.reduceBEq, Int.reduceLT, Int.reduceLE, Int.reduceGT, Int.reduceGE, Int.reduceEq, Int.reduceNe, Int.reduceAdd, Int.reduceSub, Int.reduceMul, Int.reduceNeg, Int.reduceToNat, Int.reduceBEq, Int.reduceBNe, Int.cast_ofNat_Int, List.getElem?_toArray, stp, rvOf, rvLen, wput, wlk, rdv, isEff, dsOf, sgl, stq, Try.underlying22, Try.underlying23, Try.underlying24, Try.underlying3, Try.underlying4, Try.underlying47, Try.underlying5, Try.underlying53, Try.underlying9, Try.underlying99, ty22, ty23, ty24, ty47, ty53, ty99, ty3, ty4, ty5, ty9, rs26, d6, d7, ww, gPick, iz]))
  refine bs0_g el47 rfl ?_
  have m11 := s11 _ _ m10
  obtain ⟨ds, o, u, c, r⟩ := ot10.hs s11
  have hds := o.len
  rw [Nat.mul_one] at hds
  obtain ⟨v1, e1⟩ := o.hi1 (P := Try.prog) Try.underlying47 sz24 hw
  obtain ⟨v2, e2⟩ := o.lo1 (P := Try.prog) Try.underlying47 sz24 hw
  have uT : (ds.take (w * 1)).all notU8 = true := by rw [List.all_eq_true] at u ⊢; exact fun x hx => u x (List.mem_of_mem_take hx)
  have cT : (ds.take (w * 1)).all isCell = true := by rw [List.all_eq_true] at c ⊢; exact fun x hx => c x (List.mem_of_mem_take hx)
  have uD : (ds.drop (w * 1)).all notU8 = true := by rw [List.all_eq_true] at u ⊢; exact fun x hx => u x (List.mem_of_mem_drop hx)
  have cD : (ds.drop (w * 1)).all isCell = true := by rw [List.all_eq_true] at c ⊢; exact fun x hx => c x (List.mem_of_mem_drop hx)
  have lT : (ds.take (w * 1)).length = w * 1 := by rw [List.length_take]; omega
  have lD : (ds.drop (w * 1)).length = (R.length - w) * 1 := by rw [List.length_drop]; omega
  have hsC := (s6.trans s610).trans s11
  refine mk_of ?_; repeat' (first | (with_reducible first | refine gw_seq ?_ | refine gw_block ?_) | ((first | (with_reducible refine mk_to ?_) | (with_reducible first | refine gw_region ?_ | refine gw_if ?_ | refine gw_skip ?_ | refine gw_exit ?_ | refine gw_ret ?_) | ((with_reducible first | refine gif_b (fun hb => ?_) (fun hb => ?_) | refine want_t (fun hb => ?_) (fun hb => ?_) | refine want_f (fun hb => ?_) (fun hb => ?_) | refine dr_t (fun hb => ?_) (fun hb => ?_) | refine dr_f (fun hb => ?_) (fun hb => ?_)) <;> (try simp only [hb]) <;> (try simp only [hpr] at hb)) | with_reducible refine gw_draw (id := 15) [(0, []), (1, []), (2, []), (3, []), (4, []), (5, []), (6, []), (7, []), (8, []), (9, []), (10, []), (11, []), (12, [])] [0, 1, 3, 7, 7, 23, 63, 127, 7, 263, 1023, 2047, 4095] mixed (by kernel_rfl) ?_ | with_reducible refine gw_draw (id := 18) [(0, []), (1, []), (2, []), (3, []), (5, []), (6, []), (7, []), (11, []), (12, []), (13, []), (4, [7, 13]), (8, [13]), (9, [13]), (10, [13]), (14, []), (15, [])] [0, 0, 0, 6, 15, 0, 0, 64, 255, 511, 1023, 0, 0, 6144, 16383, 32767] mixed (by kernel_rfl) ?_) <;> try simp only [List.map, gop, ev, lk, aenv, gyield, gBin, gInt, gStrOp, gUn, gPick, gNil, gExtract, gIfc, gConvK, gIndexO, gIndexVO, gMakeV, gMinV, gMaxV, isInt, gMin, gMax, gBlt, gLenX, gCallV, gInvoke, gNilM, Array.toList_map, vcells, gField, gIndexV, gPart, reduceIte, Nat.reduceAdd, Nat.reduceSub, Nat.reduceMul, Nat.reduceLT, Nat.reduceLeDiff, Nat.reduceEqDiff, Nat.reduceBEq, Int.reduceLT, Int.reduceLE, Int.reduceGT, Int.reduceGE, Int.reduceEq, Int.reduceNe, Int.reduceAdd, Int.reduceSub, Int.reduceMul, Int.reduceNeg, Int.reduceToNat, Int.reduceBEq, Int.reduceBNe, Int.cast_ofNat_Int, List.getElem?_toArray, stp, rvOf, rvLen, wput, wlk, rdv, isEff, dsOf, sgl, stq, Try.underlying22, Try.underlying23, Try.underlying24, Try.underlying3, Try.underlying4, Try.underlying47, Try.underlying5, Try.underlying53, Try.underlying9, Try.underlying99, ty22, ty23, ty24, ty47, ty53, ty99, ty3, ty4, ty5, ty9, rs26, iz, (e1 _ (HS.refl _)).1, (e2 _ (HS.refl _)).1, gload1 m11 sz24, List.getElem?_cons_zero, List.getElem?_cons_succ]))
  refine bs0_g el24 rfl ?_
  refine mk_of ?_; repeat' (first | (with_reducible first | refine gw_seq ?_ | refine gw_block ?_) | ((first | (with_reducible refine mk_to ?_) | (with_reducible first | refine gw_region ?_ | refine gw_if ?_ | refine gw_skip ?_ | refine gw_exit ?_ | refine gw_ret ?_) | ((with_reducible first | refine gif_b (fun hb => ?_) (fun hb => ?_) | refine want_t (fun hb => ?_) (fun hb => ?_) | refine want_f (fun hb => ?_) (fun hb => ?_) | refine dr_t (fun hb => ?_) (fun hb => ?_) | refine dr_f (fun hb => ?_) (fun hb => ?_)) <;> (try simp only [hb]) <;> (try simp only [hpr] at hb)) | with_reducible refine gw_draw (id := 15) [(0, []), (1, []), (2, []), (3, []), (4, []), (5, []), (6, []), (7, []), (8, []), (9, []), (10, []), (11, []), (12, [])] [0, 1, 3, 7, 7, 23, 63, 127, 7, 263, 1023, 2047, 4095] mixed (by kernel_rfl) ?_ | with_reducible refine gw_draw (id := 18) [(0, []), (1, []), (2, []), (3, []), (5, []), (6, []), (7, []), (11, []), (12, []), (13, []), (4, [7, 13]), (8, [13]), (9, [13]), (10, [13]), (14, []), (15, [])] [0, 0, 0, 6, 15, 0, 0, 64, 255, 511, 1023, 0, 0, 6144, 16383, 32767] mixed (by kernel_rfl) ?_) <;> try simp only [List.map, gop, ev, lk, aenv, gyield, gBin, gInt, gStrOp, gUn, gPick, gNil, gExtract, gIfc, gConvK, gIndexO, gIndexVO, gMakeV, gMinV, gMaxV, isInt, gMin, gMax, gBlt, gLenX, gCallV, gInvoke, gNilM, Array.toList_map, vcells, gField, gIndexV, gPart, reduceIte, Nat.reduceAdd, Nat.reduceSub, Nat.reduceMul, Nat.reduceLT, Nat.reduceLeDiff, Nat.reduceEqDiff, Nat.reduceBEq, Int.reduceLT, Int.reduceLE, Int.reduceGT, Int.reduceGE, Int.reduceEq, Int.reduceNe, Int.reduceAdd, Int.reduceSub, Int.reduceMul, Int.reduceNeg, Int.reduceToNat, Int.reduceBEq, Int.reduceBNe, Int.cast_ofNat_Int, List.getElem?_toArray, stp, rvOf, rvLen, wput, wlk, rdv, isEff, dsOf, sgl, stq, Try.underlying22, Try.underlying23, Try.underlying24, Try.underlying3, Try.underlying4, Try.underlying47, Try.underlying5, Try.underlying53, Try.underlying9, Try.underlying99, ty22, ty23, ty24, ty47, ty53, ty99, ty3, ty4, ty5, ty9, rs26, iz, (e1 _ (HS.refl _)).1, (e2 _ (HS.refl _)).1, gload1 m11 sz24, List.getElem?_cons_zero, List.getElem?_cons_succ]))
  refine append_ownc el47 Try.underlying47 rfl (HS.refl _) (OWNC.zero _ _ _ _) (e1 _ (HS.refl _)).2 lT cT (by omega) (by simp only [maxLen]; omega) fun v12 h12 s12 fr12 o12 => ?_
  rw [List.nil_append, Nat.zero_add] at o12
  have m12 := s12 _ _ m11
  refine mk_of ?_; repeat' (first | (with_reducible first | refine gw_seq ?_ | refine gw_block ?_) | ((first | (with_reducible refine mk_to ?_) | (with_reducible first | refine gw_region ?_ | refine gw_if ?_ | refine gw_skip ?_ | refine gw_exit ?_ | refine gw_ret ?_) | ((with_reducible first | refine gif_b (fun hb => ?_) (fun hb => ?_) | refine want_t (fun hb => ?_) (fun hb => ?_) | refine want_f (fun hb => ?_) (fun hb => ?_) | refine dr_t (fun hb => ?_) (fun hb => ?_) | refine dr_f (fun hb => ?_) (fun hb => ?_)) <;> (try simp only [hb]) <;> (try simp only [hpr] at hb)) | with_reducible refine gw_draw (id := 15) [(0, []), (1, []), (2, []), (3, []), (4, []), (5, []), (6, []), (7, []), (8, []), (9, []), (10, []), (11, []), (12, [])] [0, 1, 3, 7, 7, 23, 63, 127, 7, 263, 1023, 2047, 4095] mixed (by kernel_rfl) ?_ | with_reducible refine gw_draw (id := 18) [(0, []), (1, []), (2, []), (3, []), (5, []), (6, []), (7, []), (11, []), (12, []), (13, []), (4, [7, 13]), (8, [13]), (9, [13]), (10, [13]), (14, []), (15, [])] [0, 0, 0, 6, 15, 0, 0, 64, 255, 511, 1023, 0, 0, 6144, 16383, 32767] mixed (by kernel_rfl) ?_) <;> try simp only [List.map, gop, ev, lk, aenv, gyield, gBin, gInt, gStrOp, gUn, gPick, gNil, gExtract, gIfc, gConvK, gIndexO, gIndexVO, gMakeV, gMinV, gMaxV, isInt, gMin, gMax, gBlt, gLenX, gCallV, gInvoke, gNilM, Array.toList_map, vcells, gField, gIndexV, gPart, reduceIte, Nat.reduceAdd, Nat.reduceSub, Nat.reduceMul, Nat.reduceLT, Nat.reduceLeDiff, Nat.reduceEqDiff, Nat.reduceBEq, Int.reduceLT, Int.reduceLE, Int.reduceGT, Int.reduceGE, Int.reduceEq, Int.reduceNe, Int.reduceAdd, Int.reduceSub, Int.reduceMul, Int.reduceNeg, Int.reduceToNat, Int.reduceBEq, Int.reduceBNe, Int.cast_ofNat_Int, List.getElem?_toArray, stp, rvOf, rvLen, wput, wlk, rdv, isEff, dsOf, sgl, stq, Try.underlying22, Try.underlying23, Try.underlying24, Try.underlying3, Try.underlying4, Try.underlying47, Try.underlying5, Try.underlying53, Try.underlying9, Try.underlying99, ty22, ty23, ty24, ty47, ty53, ty99, ty3, ty4, ty5, ty9, rs26, iz, gload1 m12 sz24, List.getElem?_cons_zero, List.getElem?_cons_succ, (e2 _ s12).1]))
  refine append_own el24 Try.underlying24 rfl (HS.refl h12) (OWN.zero _ _ _) ((q110.hs s11).hs s12).src (by simpa using hyl.1) fun v13 h13 s13 _ o13 => ?_
  rw [List.nil_append] at o13
  obtain ⟨a13, c13, rfl⟩ := o13.form
  refine mk_of ?_; repeat' (first | (with_reducible first | refine gw_seq ?_ | refine gw_block ?_) | ((first | (with_reducible refine mk_to ?_) | (with_reducible first | refine gw_region ?_ | refine gw_if ?_ | refine gw_skip ?_ | refine gw_exit ?_ | refine gw_ret ?_) | ((with_reducible first | refine gif_b (fun hb => ?_) (fun hb => ?_) | refine want_t (fun hb => ?_) (fun hb => ?_) | refine want_f (fun hb => ?_) (fun hb => ?_) | refine dr_t (fun hb => ?_) (fun hb => ?_) | refine dr_f (fun hb => ?_) (fun hb => ?_)) <;> (try simp only [hb]) <;> (try simp only [hpr] at hb)) | with_reducible refine gw_draw (id := 15) [(0, []), (1, []), (2, []), (3, []), (4, []), (5, []), (6, []), (7, []), (8, []), (9, []), (10, []), (11, []), (12, [])] [0, 1, 3, 7, 7, 23, 63, 127, 7, 263, 1023, 2047, 4095] mixed (by kernel_rfl) ?_ | with_reducible refine gw_draw (id := 18) [(0, []), (1, []), (2, []), (3, []), (5, []), (6, []), (7, []), (11, []), (12, []), (13, []), (4, [7, 13]), (8, [13]), (9, [13]), (10, [13]), (14, []), (15, [])] [0, 0, 0, 6, 15, 0, 0, 64, 255, 511, 1023, 0, 0, 6144, 16383, 32767] mixed (by kernel_rfl) ?_) <;> try simp only [List.map, gop, ev, lk, aenv, gyield, gBin, gInt, gStrOp, gUn, gPick, gNil, gExtract, gIfc, gConvK, gIndexO, gIndexVO, gMakeV, gMinV, gMaxV, isInt, gMin, gMax, gBlt, gLenX, gCallV, gInvoke, gNilM, Array.toList_map, vcells, gField, gIndexV, gPart, reduceIte, Nat.reduceAdd, Nat.reduceSub, Nat.reduceMul, Nat.reduceLT, Nat.reduceLeDiff, Nat.reduceEqDiff, Nat.reduceBEq, Int.reduceLT, Int.reduceLE, Int.reduceGT, Int.reduceGE, Int.reduceEq, Int.reduceNe, Int.reduceAdd, Int.reduceSub, Int.reduceMul, Int.reduceNeg, Int.reduceToNat, Int.reduceBEq, Int.reduceBNe, Int.cast_ofNat_Int, List.getElem?_toArray, stp, rvOf, rvLen, wput, wlk, rdv, isEff, dsOf, sgl, stq, Try.underlying22, Try.underlying23, Try.underlying24, Try.underlying3, Try.underlying4, Try.underlying47, Try.underlying5, Try.underlying53, Try.underlying9, Try.underlying99, ty22, ty23, ty24, ty47, ty53, ty99, ty3, ty4, ty5, ty9, rs26, (e2 _ (s12.trans s13)).1, Bool.false_and, Bool.not_false]))
  refine bsn1_g el47 rfl rfl (by decide) (by decide) rfl fun k14 h14 b14 s14 f14 n14 => ?_
  refine mk_of ?_; repeat' (first | (with_reducible first | refine gw_seq ?_ | refine gw_block ?_) | ((first | (with_reducible refine mk_to ?_) | (with_reducible first | refine gw_region ?_ | refine gw_if ?_ | refine gw_skip ?_ | refine gw_exit ?_ | refine gw_ret ?_) | ((with_reducible first | refine gif_b (fun hb => ?_) (fun hb => ?_) | refine want_t (fun hb => ?_) (fun hb => ?_) | refine want_f (fun hb => ?_) (fun hb => ?_) | refine dr_t (fun hb => ?_) (fun hb => ?_) | refine dr_f (fun hb => ?_) (fun hb => ?_)) <;> (try simp only [hb]) <;> (try simp only [hpr] at hb)) | with_reducible refine gw_draw (id := 15) [(0, []), (1, []), (2, []), (3, []), (4, []), (5, []), (6, []), (7, []), (8, []), (9, []), (10, []), (11, []), (12, [])] [0, 1, 3, 7, 7, 23, 63, 127, 7, 263, 1023, 2047, 4095] mixed (by kernel_rfl) ?_ | with_reducible refine gw_draw (id := 18) [(0, []), (1, []), (2, []), (3, []), (5, []), (6, []), (7, []), (11, []), (12, []), (13, []), (4, [7, 13]), (8, [13]), (9, [13]), (10, [13]), (14, []), (15, [])] [0, 0, 0, 6, 15, 0, 0, 64, 255, 511, 1023, 0, 0, 6144, 16383, 32767] mixed (by kernel_rfl) ?_) <;> try simp only [List.map, gop, ev, lk, aenv, gyield, gBin, gInt, gStrOp, gUn, gPick, gNil, gExtract, gIfc, gConvK, gIndexO, gIndexVO, gMakeV, gMinV, gMaxV, isInt, gMin, gMax, gBlt, gLenX, gCallV, gInvoke, gNilM, Array.toList_map, vcells, gField, gIndexV, gPart, reduceIte, Nat.reduceAdd, Nat.reduceSub, Nat.reduceMul, Nat.reduceLT, Nat.reduceLeDiff, Nat.reduceEqDiff, Nat.reduceBEq, Int.reduceLT, Int.reduceLE, Int.reduceGT, Int.reduceGE, Int.reduceEq, Int.reduceNe, Int.reduceAdd, Int.reduceSub, Int.reduceMul, Int.reduceNeg, Int.reduceToNat, Int.reduceBEq, Int.reduceBNe, Int.cast_ofNat_Int, List.getElem?_toArray, stp, rvOf, rvLen, wput, wlk, rdv, isEff, dsOf, sgl, stq, Try.underlying22, Try.underlying23, Try.underlying24, Try.underlying3, Try.underlying4, Try.underlying47, Try.underlying5, Try.underlying53, Try.underlying9, Try.underlying99, ty22, ty23, ty24, ty47, ty53, ty99, ty3, ty4, ty5, ty9, rs26, (e2 _ ((s12.trans s13).trans s14)).1]))
  refine append_ownc el47 Try.underlying47 rfl ((s12.trans s13).trans s14) (o12.hs (s13.trans s14)) b14 rfl rfl (by omega) (by simp only [maxLen]; omega) fun v15 h15 s15 fr15 o15 => ?_
  refine mk_of ?_; repeat' (first | (with_reducible first | refine gw_seq ?_ | refine gw_block ?_) | ((first | (with_reducible refine mk_to ?_) | (with_reducible first | refine gw_region ?_ | refine gw_if ?_ | refine gw_skip ?_ | refine gw_exit ?_ | refine gw_ret ?_) | ((with_reducible first | refine gif_b (fun hb => ?_) (fun hb => ?_) | refine want_t (fun hb => ?_) (fun hb => ?_) | refine want_f (fun hb => ?_) (fun hb => ?_) | refine dr_t (fun hb => ?_) (fun hb => ?_) | refine dr_f (fun hb => ?_) (fun hb => ?_)) <;> (try simp only [hb]) <;> (try simp only [hpr] at hb)) | with_reducible refine gw_draw (id := 15) [(0, []), (1, []), (2, []), (3, []), (4, []), (5, []), (6, []), (7, []), (8, []), (9, []), (10, []), (11, []), (12, [])] [0, 1, 3, 7, 7, 23, 63, 127, 7, 263, 1023, 2047, 4095] mixed (by kernel_rfl) ?_ | with_reducible refine gw_draw (id := 18) [(0, []), (1, []), (2, []), (3, []), (5, []), (6, []), (7, []), (11, []), (12, []), (13, []), (4, [7, 13]), (8, [13]), (9, [13]), (10, [13]), (14, []), (15, [])] [0, 0, 0, 6, 15, 0, 0, 64, 255, 511, 1023, 0, 0, 6144, 16383, 32767] mixed (by kernel_rfl) ?_) <;> try simp only [List.map, gop, ev, lk, aenv, gyield, gBin, gInt, gStrOp, gUn, gPick, gNil, gExtract, gIfc, gConvK, gIndexO, gIndexVO, gMakeV, gMinV, gMaxV, isInt, gMin, gMax, gBlt, gLenX, gCallV, gInvoke, gNilM, Array.toList_map, vcells, gField, gIndexV, gPart, reduceIte, Nat.reduceAdd, Nat.reduceSub, Nat.reduceMul, Nat.reduceLT, Nat.reduceLeDiff, Nat.reduceEqDiff, Nat.reduceBEq, Int.reduceLT, Int.reduceLE, Int.reduceGT, Int.reduceGE, Int.reduceEq, Int.reduceNe, Int.reduceAdd, Int.reduceSub, Int.reduceMul, Int.reduceNeg, Int.reduceToNat, Int.reduceBEq, Int.reduceBNe, Int.cast_ofNat_Int, List.getElem?_toArray, stp, rvOf, rvLen, wput, wlk, rdv, isEff, dsOf, sgl, stq, Try.underlying22, Try.underlying23, Try.underlying24, Try.underlying3, Try.underlying4, Try.underlying47, Try.underlying5, Try.underlying53, Try.underlying9, Try.underlying99, ty22, ty23, ty24, ty47, ty53, ty99, ty3, ty4, ty5, ty9, rs26, (e2 _ s15).1]))
  refine append_ownc el47 Try.underlying47 rfl s15 o15 (e2 _ s15).2 lD cD (by omega) (by simp only [maxLen]; omega) fun v16 h16 s16 fr16 o16 => ?_
  obtain ⟨a16, c16, rfl⟩ := o16.form
  refine mk_of ?_; repeat' (first | (with_reducible first | refine gw_seq ?_ | refine gw_block ?_) | ((first | (with_reducible refine mk_to ?_) | (with_reducible first | refine gw_region ?_ | refine gw_if ?_ | refine gw_skip ?_ | refine gw_exit ?_ | refine gw_ret ?_) | ((with_reducible first | refine gif_b (fun hb => ?_) (fun hb => ?_) | refine want_t (fun hb => ?_) (fun hb => ?_) | refine want_f (fun hb => ?_) (fun hb => ?_) | refine dr_t (fun hb => ?_) (fun hb => ?_) | refine dr_f (fun hb => ?_) (fun hb => ?_)) <;> (try simp only [hb]) <;> (try simp only [hpr] at hb)) | with_reducible refine gw_draw (id := 15) [(0, []), (1, []), (2, []), (3, []), (4, []), (5, []), (6, []), (7, []), (8, []), (9, []), (10, []), (11, []), (12, [])] [0, 1, 3, 7, 7, 23, 63, 127, 7, 263, 1023, 2047, 4095] mixed (by kernel_rfl) ?_ | with_reducible refine gw_draw (id := 18) [(0, []), (1, []), (2, []), (3, []), (5, []), (6, []), (7, []), (11, []), (12, []), (13, []), (4, [7, 13]), (8, [13]), (9, [13]), (10, [13]), (14, []), (15, [])] [0, 0, 0, 6, 15, 0, 0, 64, 255, 511, 1023, 0, 0, 6144, 16383, 32767] mixed (by kernel_rfl) ?_) <;> try simp only [List.map, gop, ev, lk, aenv, gyield, gBin, gInt, gStrOp, gUn, gPick, gNil, gExtract, gIfc, gConvK, gIndexO, gIndexVO, gMakeV, gMinV, gMaxV, isInt, gMin, gMax, gBlt, gLenX, gCallV, gInvoke, gNilM, Array.toList_map, vcells, gField, gIndexV, gPart, reduceIte, Nat.reduceAdd, Nat.reduceSub, Nat.reduceMul, Nat.reduceLT, Nat.reduceLeDiff, Nat.reduceEqDiff, Nat.reduceBEq, Int.reduceLT, Int.reduceLE, Int.reduceGT, Int.reduceGE, Int.reduceEq, Int.reduceNe, Int.reduceAdd, Int.reduceSub, Int.reduceMul, Int.reduceNeg, Int.reduceToNat, Int.reduceBEq, Int.reduceBNe, Int.cast_ofNat_Int, List.getElem?_toArray, stp, rvOf, rvLen, wput, wlk, rdv, isEff, dsOf, sgl, stq, Try.underlying22, Try.underlying23, Try.underlying24, Try.underlying3, Try.underlying4, Try.underlying47, Try.underlying5, Try.underlying53, Try.underlying9, Try.underlying99, ty22, ty23, ty24, ty47, ty53, ty99, ty3, ty4, ty5, ty9, rs26, wi]))
  have u15 : (ds.take (w * 1) ++ vcells (.slice a13 y.1.length c13)).all notU8 = true := by rw [List.all_append, uT]; rfl
  have c15 : (ds.take (w * 1) ++ vcells (.slice a13 y.1.length c13)).all isCell = true := by rw [List.all_append, cT]; rfl
  have hl2 : (R.take w ++ (y.1, (m + 1, i)) :: R.drop w).length = w + 1 + (R.length - w) := by rw [List.length_append, List.length_take, List.length_cons, List.length_drop]; omega
  have hmp : (R.take w ++ (y.1, (m + 1, i)) :: R.drop w).map (·.1) = ((R.map (·.1)).take w ++ [y.1]) ++ (R.map (·.1)).drop w := by simp [List.map_take, List.map_drop]
  have hlM : ((R.map (·.1)).take w).length = w := by rw [List.length_take, List.length_map]; omega
  refine ⟨_, (i + 1, a16, w + 1 + (R.length - w), c16), by simp only; omega, (by simp only [List.forall_mem_cons, List.not_mem_nil, false_implies, implies_true, List.map, List.cons_append, List.nil_append, lk, Nat.reduceEqDiff, reduceIte, and_true, true_and]), rfl, by simp only; omega, hsC.trans s16, R.take w ++ (y.1, (m + 1, i)) :: R.drop w, fi.ins hbl ho (by simp only; omega) (by simp only; omega) (hunk rfl) hup (fi.low hw hlow), _, by rw [hl2]; exact o16.weak hsC, by rw [List.all_append, u15, uD]; rfl, by rw [List.all_append, c15, cD]; rfl, ?_⟩
  rw [hmp]
  have hy13 : Tx h14 [.slice a13 y.1.length c13] y.1 := ⟨_, _, rfl, o13.rb.hs s14⟩
  have s16' := (s12.trans s13).trans s14
  have k15 : ∀ {q : List Value} {ee : List UInt8}, Tx h14 q ee → Tx h15 q ee := fun {q ee} w => by
    obtain ⟨a, c, e, r⟩ := w
    exact ⟨a, c, e, fr_rb fr15 uT r⟩
  have k16 : ∀ {q : List Value} {ee : List UInt8}, Tx h15 q ee → Tx h16 q ee := fun {q ee} w => by
    obtain ⟨a, c, e, r⟩ := w
    exact ⟨a, c, e, fr_rb fr16 u15 r⟩
  exact apps_el (R := Tx h16) (by rw [List.length_append, lT, List.length_append, hlM]; rfl) (app_el (R := Tx h16) (by rw [lT, hlM]) rfl (fun i x hx => k16 (k15 ((take_el (R := Tx _) r i x hx).hs s16'))) (k16 (k15 hy13))) (fun i x hx => (drop_el (R := Tx _) r i x hx).hs s16)
end Go.Gh

/- Contracts of admit and its reference: the checks. -/
namespace Go.Gh
open Go Go.Proofs Go.RowKit
set_option linter.unusedVariables false
set_option linter.unusedSimpArgs false
set_option maxRecDepth 100000

structure Pm where
  (s ht mi my ch ar ca pg : Int)
def Pm.v (p : Pm) : Value := .agg #[.int .i64 p.s, .int .i64 p.ht, .int .i64 p.mi, .int .i64 p.my, .int .i64 p.ch, .int .i64 p.ar, .int .i64 p.ca, .int .i64 p.pg]
def inB (n lo hi : Int) : Bool := decide (lo ≤ n ∧ n ≤ hi)
def Pm.may (p : Pm) : Bool := inB p.s 1 32 && inB p.ht 0 8 && inB p.mi 0 24 && inB p.my 0 48 && inB p.ch 0 4096 && inB p.ca 0 8 && inB p.pg 1 32

def Pm.ck (p : Pm) : Nat → Bool
  | 0 => inB p.s 1 32
  | 1 => inB p.ht 0 8
  | 2 => inB p.mi 0 24
  | 3 => inB p.my 0 48
  | 4 => inB p.ch 0 4096
  | 5 => inB p.ca 0 8
  | _ => inB p.pg 1 32

end Go.Gh

/- Contracts of admit and its reference: what follows from parameters. -/
namespace Go.Gh
open Go Go.Proofs Go.RowKit
set_option linter.unusedVariables false
set_option linter.unusedSimpArgs false
set_option maxRecDepth 100000

/-- A call whose parameters may not be. -/
theorem Pm.may_iff (p : Pm) : p.may = true ↔ (1 ≤ p.s ∧ p.s ≤ 32) ∧ (0 ≤ p.ht ∧ p.ht ≤ 8) ∧ (0 ≤ p.mi ∧ p.mi ≤ 24) ∧ (0 ≤ p.my ∧ p.my ≤ 48) ∧ (0 ≤ p.ch ∧ p.ch ≤ 4096) ∧ (0 ≤ p.ca ∧ p.ca ≤ 8) ∧ (1 ≤ p.pg ∧ p.pg ≤ 32) := by
  simp only [Pm.may, inB, Bool.and_eq_true, decide_eq_true_eq]
  omega

def Pm.deep (p : Pm) : Int := if p.may = true then 8 * (p.mi + 1) else 0
def Pm.each (p : Pm) : Int := if p.may = true then p.deep + 2 else 0
def Pm.need (p : Pm) : Int := if p.may = true then (2 + p.ca) * p.ch * p.each + 1 else 0

def Pm.eps (p : Pm) : Int := if p.may = true then IntKind.i64.wrap (1 * 2 ^ min p.ht.toNat IntKind.i64.bits) else 0
def Pm.small : Pm := ⟨4, 2, 2, 4, 10, 781, 1, 3⟩
end Go.Gh

/- Ideal: a batch checked. -/

namespace Go.Gh
open Go Go.Proofs Go.RowKit
set_option linter.unusedVariables false
set_option linter.unusedSimpArgs false
set_option maxRecDepth 100000
set_option maxHeartbeats 2000000

/-- How often an identity stands among a batch's first i. -/
def cnt (b : List Bnd) : Nat → List UInt8 → Nat
  | 0, _ => 0
  | i + 1, id => cnt b i id + (if id = (bat1 b i).1 then 1 else 0)
def seenC (b : List Bnd) : Nat → List Value
  | 0 => []
  | i + 1 => mset (bstr (bat1 b i).1) (.int .i64 ((cnt b i (bat1 b i).1 + 1 : Nat) : Int)) (seenC b i)
def tooLong (p : Pm) (x : Bnd) : Prop := (x.1.length : Int) > p.mi ∨ (x.2.length : Int) > p.my
instance (p : Pm) (x : Bnd) : Decidable (tooLong p x) := by unfold tooLong; infer_instance
/-- What is wrong with a batch. -/
def chkB (p : Pm) (b : List Bnd) : Int := if b = [] then 82 else if 32 < b.length then 4 else if ∃ x ∈ b, tooLong p x then 1 else if (seenC b b.length).length / 2 < b.length then 80 else 0

end Go.Gh

/- Ideal: a map that no call made. -/

namespace Go.Gh
open Go Go.Proofs Go.RowKit
set_option linter.unusedVariables false
set_option linter.unusedSimpArgs false
set_option maxRecDepth 100000
set_option maxHeartbeats 2000000

def zmap : List Value := [.int .i64 0, .int .i64 0, .int .i64 0, .int .i64 0, .int .i64 0, .int .i64 0, .int .i64 0, .int .i64 0, .slice none 0 0, .int .i64 0, .int .i64 0, .map none]
/-- A map that no call made. -/
def NobM (h : GH) (x : Value) : Prop := x = .pointer none ∨ ∃ k, x = .pointer (some ⟨k, 0, none⟩) ∧ h k = some ⟨zmap, 0, true, false⟩
theorem NobM.hs {h h' : GH} {x : Value} (n : NobM h x) (s : HS h h') : NobM h' x := by
  rcases n with n | ⟨k, e, m⟩
  · exact .inl n
  · exact .inr ⟨k, e, s _ _ m⟩
end Go.Gh

/- Ideal: a map that no call made, asked. -/

namespace Go.Gh
open Go Go.Proofs Go.RowKit
set_option linter.unusedVariables false
set_option linter.unusedSimpArgs false
set_option maxRecDepth 100000
set_option maxHeartbeats 2000000

end Go.Gh

/- Ideal: a new map. -/

namespace Go.Gh
open Go Go.Proofs Go.RowKit
set_option linter.unusedVariables false
set_option linter.unusedSimpArgs false
set_option maxRecDepth 100000
set_option maxHeartbeats 2000000

end Go.Gh

/- Ideal: a map in memory. -/

namespace Go.Gh
open Go Go.Proofs Go.RowKit
set_option linter.unusedVariables false
set_option linter.unusedSimpArgs false
set_option maxRecDepth 100000
set_option maxHeartbeats 2000000

def tot (M : List (List Bnd)) : Nat := (M.map (·.length)).sum
/-- The epochs of changes, as cells. -/
def epc (s : List (Nat × Nat)) : List Value := s.map fun p => .int .i64 (p.1 : Int)
def H0 : GH := fun _ => none
theorem H0.hs (h : GH) : HS H0 h := fun _ _ e => by cases e

/-- The slice of epochs. -/
def EPS (h0 h : GH) (v : Value) (n : Nat) (cs : List Value) : Prop :=
  ∃ kb c tl, v = .slice (some ⟨kb, 0, none⟩) n c ∧ n ≠ 0 ∧ cs.length = n * 2 ∧ h kb = some ⟨cs, 2, true, tl⟩ ∧ h0 kb = none ∧ (tl = true ∧ c % 2 = 0 ∧ 2 * n ≤ c ∨ tl = false ∧ c = 2 * n + 1)
theorem EPS.hs {h0 h h' : GH} {v : Value} {n : Nat} {cs : List Value} (o : EPS h0 h v n cs) (s : HS h h') : EPS h0 h' v n cs := by
  obtain ⟨kb, c, tl, h1, h2, h3, h4, h5⟩ := o
  exact ⟨kb, c, tl, h1, h2, h3, s _ _ h4, h5⟩
theorem EPS.hx {h0 h h' : GH} {v : Value} {n : Nat} {cs : List Value} (o : EPS h0 h v n cs) {k : Nat} {B : GB} (hk : h k = some B) (he : B.es ≠ 2) (x : HX k h h') : EPS h0 h' v n cs := by
  obtain ⟨kb, c, tl, h1, h2, h3, h4, h5⟩ := o
  exact ⟨kb, c, tl, h1, h2, h3, x _ _ (fun e => by rw [e, hk] at h4; cases h4; exact he rfl) h4, h5⟩
theorem EPS.form {h0 h : GH} {v : Value} {n : Nat} {cs : List Value} (o : EPS h0 h v n cs) : ∃ a c, v = .slice (some a) n c := by
  obtain ⟨kb, c, tl, h1, _⟩ := o
  exact ⟨_, _, h1⟩
theorem EPS.at {P : Program} {t e : Nat} {b : Bool} {h0 h : GH} {v : Value} {n : Nat} {cs : List Value} (o : EPS h0 h v n cs) (ht : P.underlying t = some (.slice e)) (he : gsz P e = some (b, 2)) {i : Nat} (hi : i < n) :
    ∃ k tl, gIndex P t v (i : Int) = some (.pointer (some ⟨k, i * 2, none⟩)) ∧ h k = some ⟨cs, 2, true, tl⟩ := by
  obtain ⟨kb, c, tl, rfl, h2, h3, h4, h5⟩ := o
  exact ⟨kb, tl, gIndex_own ht he hi, h4⟩
/-- A map in memory. -/
structure IS (h0 h : GH) (k j : Nat) (p : Pm) (ew : Value) (cs l : List Value) (M : List (Int × List Bnd)) (ck : Int) (n : Nat) (S : List UInt8 → List (Nat × Nat)) : Prop where
  obj : h k = some ⟨[.int .i64 p.s, .int .i64 p.ht, .int .i64 p.mi, .int .i64 p.my, .int .i64 p.ch, .int .i64 p.ar, .int .i64 p.ca, .int .i64 p.pg, ew, .int .i64 ck, .int .i64 (n : Int), .map (some j)], 0, true, false⟩
  nk : h0 k = none
  mp : h (j + 1) = some ⟨MM :: l, 0, true, false⟩
  nj : h0 (j + 1) = none
  ok : mok l = true
  u8 : l.all notU8 = true
  ep : EPS h0 h ew M.length cs
  eps : ∀ (e : Nat) x, M[e]? = some x → ∃ v, (cs.drop (e * 2)).take 2 = [.int .i64 x.1, v] ∧ Bat H0 h v x.2
  sp : ∀ id, OWNC 1 H0 h (mget l id) (S id).length (epc (S id))
  cu8 : cs.all notU8 = true
  bl : ∀ x ∈ M, small x.2 ∧ x.2.length ≤ 32
  len : M.length ≤ 256
  tt : n = tot (M.map (·.2))
  nch : (n : Int) ≤ p.ch
  may : p.may = true
  ks : (mkeys l).Nodup ∧ (∀ k ∈ mkeys l, S k.data.toList ≠ []) ∧ (∀ x ∈ M, x.2 = [] ∨ chkB p x.2 = 0) ∧ M.Pairwise (fun a b => a.1 ≤ b.1) ∧ ∀ x ∈ M, x.1 ≤ ck
theorem IS.hs {h0 h h' : GH} {k j : Nat} {p : Pm} {ew : Value} {cs l : List Value} {M : List (Int × List Bnd)} {ck : Int} {n : Nat} {S : List UInt8 → List (Nat × Nat)} (x : IS h0 h k j p ew cs l M ck n S) (s : HS h h') : IS h0 h' k j p ew cs l M ck n S :=
  ⟨s _ _ x.obj, x.nk, s _ _ x.mp, x.nj, x.ok, x.u8, x.ep.hs s, fun e b hb => by obtain ⟨v, h1, h2⟩ := x.eps e b hb; exact ⟨v, h1, h2.hs s⟩, fun id => (x.sp id).hs s, x.cu8, x.bl, x.len, x.tt, x.nch, x.may, x.ks⟩
theorem IS.pos {h0 h : GH} {k j : Nat} {p : Pm} {ew : Value} {cs l : List Value} {M : List (Int × List Bnd)} {ck : Int} {n : Nat} {S : List UInt8 → List (Nat × Nat)} (x : IS h0 h k j p ew cs l M ck n S) : M.length ≠ 0 := by
  obtain ⟨_, _, _, _, h2, _⟩ := x.ep
  exact h2
theorem IS.n4 {h0 h : GH} {k j : Nat} {p : Pm} {ew : Value} {cs l : List Value} {M : List (Int × List Bnd)} {ck : Int} {n : Nat} {S : List UInt8 → List (Nat × Nat)} (x : IS h0 h k j p ew cs l M ck n S) : n ≤ 4096 := by
  have h1 := x.nch
  have h2 := p.may_iff.1 x.may
  omega
theorem IS.look {h0 h : GH} {k j : Nat} {p : Pm} {ew : Value} {cs l : List Value} {M : List (Int × List Bnd)} {ck : Int} {n : Nat} {S : List UInt8 → List (Nat × Nat)} (x : IS h0 h k j p ew cs l M ck n S) (id : List UInt8) : gLookup Try.prog 89 h (.map (some j)) (.string (bstr id)) false = some (mget l id) := by
  simp only [gLookup, sm89, gMapOf, x.mp, x.ok, gz89, mget, if_true]
  cases mfind (bstr id) l <;> simp

end Go.Gh

/- Ideal: a new map; what stays while it is written. -/

namespace Go.Gh
open Go Go.Proofs Go.RowKit
set_option linter.unusedVariables false
set_option linter.unusedSimpArgs false
set_option maxRecDepth 100000
set_option maxHeartbeats 2000000

/-- Blocks that stay while a map is written. -/
def kpB (B : GB) : Prop := B.cells.all notU8 = false ∨ B.es = 1 ∨ (B.es = 2 ∧ ∃ a b c r, B.cells = .slice a b c :: r)
def MF (h h' : GH) : Prop := ∀ j B, h j = some B → kpB B → h' j = some B
theorem MF.of {h h' : GH} (s : HS h h') : MF h h' := fun j B e _ => s j B e
theorem MF.trans {a b c : GH} (x : MF a b) (y : MF b c) : MF a c := fun j B e q => y j B (x j B e q) q
theorem MF.upd {h h' : GH} {k : Nat} {B : GB} (m : h k = some B) (hB : B.es = 0) (hu : B.cells.all notU8 = true) (f : ∀ j, j ≠ k → h' j = h j) : MF h h' := fun j C e q => by
  rw [f j (fun ee => by
    rw [ee, m] at e; cases e
    rcases q with q | q | ⟨q, _⟩
    · rw [hu] at q; cases q
    · omega
    · omega)]
  exact e
theorem RB.mf {h h' : GH} {v : Value} {l : List UInt8} (r : RB h v l) (f : MF h h') : RB h' v l := by
  rcases r with r | ⟨ad, c, h1, h2, h3⟩
  · exact .inl r
  · refine .inr ⟨ad, c, h1, ?_, h3⟩
    by_cases h0 : l.length = 0
    · rw [h0] at h2 ⊢; simp only [gread, if_true] at h2 ⊢; exact h2
    · have h2' := h2
      unfold gread at h2
      rw [if_neg h0] at h2
      split at h2
      case h_2 => cases h2
      rename_i B hs hB
      have hb : bv (l[0]'(by omega)) ∈ B.cells := gread_mem h2' h0 hB _ (List.mem_map.2 ⟨_, List.getElem_mem _, rfl⟩)
      have := f _ B hB (.inl (by
        cases e : B.cells.all notU8 with
        | false => rfl
        | true => rw [List.all_eq_true] at e; have := e _ hb; simp [notU8, bv] at this))
      unfold gread
      rw [if_neg h0, hs, this]
      exact h2
theorem Bd.mf {h h' : GH} (f : MF h h') {cs : List Value} {y : Bnd} (r : Bd h cs y) : Bd h' cs y := by
  obtain ⟨a, n, c, b, m, d, e, r1, r2⟩ := r
  exact ⟨a, n, c, b, m, d, e, r1.mf f, r2.mf f⟩
theorem OWNC.mf1 {h0 h h' : GH} {v : Value} {n : Nat} {cs : List Value} (o : OWNC 1 h0 h v n cs) (f : MF h h') : OWNC 1 h0 h' v n cs := by
  rcases o with o | o | ⟨k, c, h1, h2, h3, h4, h5, h6, h7⟩
  · exact .inl o
  · exact .inr (.inl o)
  · exact .inr (.inr ⟨k, c, h1, h2, h3, h4, h5, f _ _ h6 (.inr (.inl rfl)), h7⟩)
theorem Bat.mf {h h' : GH} {v : Value} {b : List Bnd} (x : Bat H0 h v b) (f : MF h h') : Bat H0 h' v b := by
  obtain ⟨ds, o, r⟩ := x
  refine ⟨ds, ?_, fun i p hp => (r i p hp).mf f⟩
  rcases o with o | o | ⟨k, c, h1, h2, h3, h4, h5, h6, h7⟩
  · exact .inl o
  · exact .inr (.inl o)
  · refine .inr (.inr ⟨k, c, h1, h2, h3, h4, h5, f _ _ h6 (.inr (.inr ⟨rfl, ?_⟩)), h7⟩)
    obtain ⟨p, hp⟩ : ∃ p, b[0]? = some p := ⟨_, List.getElem?_eq_getElem (by omega)⟩
    obtain ⟨a, n, c, b', m, d, e, _⟩ := r 0 p hp
    rw [Nat.zero_mul, List.drop_zero] at e
    cases ds with
    | nil => cases e
    | cons x ds =>
      simp only [List.take_succ_cons] at e
      injection e with e1 e2
      exact ⟨_, _, _, _, by rw [e1]⟩
/-- The array of epochs is written; what is kept stays. -/
theorem MF.eps {h h' : GH} {cs : List Value} (hc : cs.all notU8 = true) (hi : ∃ t r, cs = .int .i64 t :: r) (f : ∀ j B, h j = some B → (∀ tl, B ≠ ⟨cs, 2, true, tl⟩) → h' j = some B) : MF h h' := fun j B e q => f j B e fun tl hB => by
  subst hB
  rcases q with q | q | ⟨_, a, b, c, r, q⟩
  · rw [hc] at q; cases q
  · cases q
  · obtain ⟨t, r', e'⟩ := hi
    rw [e'] at q; cases q
theorem IS.first {h0 h : GH} {k j : Nat} {p : Pm} {ew : Value} {cs l : List Value} {M : List (Int × List Bnd)} {ck : Int} {n : Nat} {S : List UInt8 → List (Nat × Nat)} (x : IS h0 h k j p ew cs l M ck n S) : ∃ t r, cs = .int .i64 t :: r := by
  obtain ⟨y, hy⟩ : ∃ y, M[0]? = some y := ⟨_, List.getElem?_eq_getElem (by have := x.pos; omega)⟩
  obtain ⟨v, h1, _⟩ := x.eps 0 y hy
  rw [Nat.zero_mul, List.drop_zero] at h1
  cases cs with
  | nil => cases h1
  | cons z cs =>
    simp only [List.take_succ_cons] at h1
    injection h1 with e1 e2
    exact ⟨_, _, by rw [e1]⟩
/-- A map's table is written. -/
theorem IS.put {h0 h h' : GH} {k j : Nat} {p : Pm} {ew v : Value} {cs l : List Value} {M : List (Int × List Bnd)} {ck : Int} {n : Nat} {S S' : List UInt8 → List (Nat × Nat)} (x : IS h0 h k j p ew cs l M ck n S) (id : List UInt8) (m : h' (j + 1) = some ⟨MM :: mset (bstr id) v l, 0, true, false⟩) (f : ∀ i, i ≠ j + 1 → h' i = h i) (hv : notU8 v = true)
    (o : OWNC 1 H0 h v (S' id).length (epc (S' id))) (hS : ∀ i, i ≠ id → S' i = S i) (hne : S' id ≠ []) : IS h0 h' k j p ew cs (mset (bstr id) v l) M ck n S' := by
  have hkj : k ≠ j + 1 := fun e => by have h1 := x.obj; rw [e, x.mp] at h1; cases h1
  have mf : MF h h' := MF.upd x.mp rfl (by simp [notU8, x.u8]) f
  refine ⟨(f k hkj).trans x.obj, x.nk, m, x.nj, (mfind_mset _ (bstr []) _ _ x.ok).1, mset_all _ _ _ rfl hv _ x.u8, x.ep.hx x.mp (by simp) (fun i B n e => (f i n).trans e), fun e b hb => ?_, fun i => ?_, x.cu8, x.bl, x.len, x.tt, x.nch, x.may, mset_nd x.ok x.ks.1, fun k hk => ?_, x.ks.2.2⟩
  · obtain ⟨v, h1, h2⟩ := x.eps e b hb; exact ⟨v, h1, h2.mf mf⟩
  · rw [mget_mset x.ok]
    by_cases hi : i = id
    · subst hi; rw [if_pos rfl]; exact o.mf1 mf
    · rw [if_neg hi, hS i hi]; exact (x.sp i).mf1 mf
  · by_cases hi : k.data.toList = id
    · rw [hi]; exact hne
    · rw [hS _ hi]
      refine x.ks.2.1 k ?_
      rcases mset_keys (bstr id) v l x.ok with ⟨_, e⟩ | ⟨_, e⟩
      · rw [e] at hk; exact hk
      · rw [e] at hk
        rcases List.mem_append.1 hk with hk | hk
        · exact hk
        · obtain rfl := List.mem_singleton.1 hk
          exact absurd (by simp [bstr]) hi
end Go.Gh

/- Ideal: a batch published. -/

namespace Go.Gh
open Go Go.Proofs Go.RowKit
set_option linter.unusedVariables false
set_option linter.unusedSimpArgs false
set_option maxRecDepth 100000
set_option maxHeartbeats 4000000

def zans (e : Int) (ep : Int) : Value := .agg #[.int .i64 e, .int .i64 ep, .bool false, .bool false, .slice none 0 0, .int .i64 0, .slice none 0 0, .slice none 0 0, .bool false]
end Go.Gh

/- Ideal: an identity's key at an epoch. -/

namespace Go.Gh
open Go Go.Proofs Go.RowKit
set_option linter.unusedVariables false
set_option linter.unusedSimpArgs false
set_option maxRecDepth 100000
set_option maxHeartbeats 2000000

end Go.Gh

/- Ideal: an identity's key at an epoch, asked. -/

namespace Go.Gh
open Go Go.Proofs Go.RowKit
set_option linter.unusedVariables false
set_option linter.unusedSimpArgs false
set_option maxRecDepth 100000
set_option maxHeartbeats 2000000

end Go.Gh

/- Ideal: answers; what is wrong with what is asked. -/

namespace Go.Gh
open Go Go.Proofs Go.RowKit
set_option linter.unusedVariables false
set_option linter.unusedSimpArgs false
set_option maxRecDepth 100000
set_option maxHeartbeats 4000000

/-- What is asked. -/
structure Ak where
  kd : Int
  id : List UInt8
  fr : Int
  to : Int
  tm : Int
  sm : Bool
  ep : Int
  ix : Int
  lm : Int
  b : List Bnd
abbrev Itm := Bnd × Nat
def It (h : GH) (cs : List Value) (x : Itm) : Prop := ∃ a c b d, cs = [.slice a x.1.1.length c, .slice b x.1.2.length d, .int .i64 (x.2 : Int)] ∧ RB h (.slice a x.1.1.length c) x.1.1 ∧ RB h (.slice b x.1.2.length d) x.1.2
/-- An answer. -/
structure An where
  code : Int := 0
  ep : Int := 0
  pr : Bool := false
  sm : Bool := false
  key : List UInt8 := []
  si : Int := 0
  its : List Itm := []
  evs : List (Nat × Nat × Bnd) := []
  more : Bool := false
def RAn (h : GH) (v : Value) (x : An) : Prop := ∃ a b c d e f, v = .agg #[.int .i64 x.code, .int .i64 x.ep, .bool x.pr, .bool x.sm, .slice a x.key.length b, .int .i64 x.si, .slice c x.its.length d, .slice e x.evs.length f, .bool x.more] ∧
  RB h (.slice a x.key.length b) x.key ∧ RL 3 It h (.slice c x.its.length d) x.its ∧ RL 4 Ev h (.slice e x.evs.length f) x.evs
theorem It.hs {h h' : GH} (x : HS h h') {cs : List Value} {e : Itm} (r : It h cs e) : It h' cs e := by
  obtain ⟨a, c, b, d, e, r1, r2⟩ := r
  exact ⟨a, c, b, d, e, r1.hs x, r2.hs x⟩
theorem RAn.hs {h h' : GH} (s : HS h h') {v : Value} {x : An} (r : RAn h v x) : RAn h' v x := by
  obtain ⟨a, b, c, d, e, f, rfl, r1, r2, r3⟩ := r
  exact ⟨a, b, c, d, e, f, rfl, r1.hs s, r2.hcR s.hc fun _ _ q => q.hs s, r3.hcR s.hc fun _ _ q => q.hs s⟩
theorem RAn.zero (h : GH) (e t : Int) : RAn h (zans e t) { code := e, ep := t } := ⟨none, 0, none, 0, none, 0, rfl, RB.nil h, RL.nil h, RL.nil h⟩
end Go.Gh

/- Ideal: a map asked; it is awake. -/

namespace Go.Gh
open Go Go.Proofs Go.RowKit
set_option linter.unusedVariables false
set_option linter.unusedSimpArgs false
set_option maxRecDepth 100000
set_option maxHeartbeats 4000000

theorem IS.base {h0 hb h : GH} {k j : Nat} {p : Pm} {ew : Value} {cs l : List Value} {M : List (Int × List Bnd)} {ck : Int} {n : Nat} {S : List UInt8 → List (Nat × Nat)} (x : IS h0 h k j p ew cs l M ck n S) (f : ∀ i, h i ≠ none → h0 i = none → hb i = none) : IS hb h k j p ew cs l M ck n S := by
  refine ⟨x.obj, f k (by rw [x.obj]; simp) x.nk, x.mp, f _ (by rw [x.mp]; simp) x.nj, x.ok, x.u8, ?_, x.eps, x.sp, x.cu8, x.bl, x.len, x.tt, x.nch, x.may, x.ks⟩
  obtain ⟨kb, c, tl, h1, h2, h3, h4, h5, h6⟩ := x.ep
  exact ⟨kb, c, tl, h1, h2, h3, h4, f _ (by rw [h4]; simp) h5, h6⟩
theorem IS.weak {h0 hb h : GH} {k j : Nat} {p : Pm} {ew : Value} {cs l : List Value} {M : List (Int × List Bnd)} {ck : Int} {n : Nat} {S : List UInt8 → List (Nat × Nat)} (x : IS hb h k j p ew cs l M ck n S) (s : HS h0 hb) : IS h0 h k j p ew cs l M ck n S := by
  refine ⟨x.obj, s.none_of x.nk, x.mp, s.none_of x.nj, x.ok, x.u8, ?_, x.eps, x.sp, x.cu8, x.bl, x.len, x.tt, x.nch, x.may, x.ks⟩
  obtain ⟨kb, c, tl, h1, h2, h3, h4, h5, h6⟩ := x.ep
  exact ⟨kb, c, tl, h1, h2, h3, h4, s.none_of h5, h6⟩
/-- What there was, and what is new since. -/
def hN (h0 h h2 : GH) : GH := fun i => match h i with
  | some _ => h0 i
  | none => h2 i
theorem IS.new {h0 h h2 : GH} {k j : Nat} {p : Pm} {ew : Value} {cs l : List Value} {M : List (Int × List Bnd)} {ck : Int} {n : Nat} {S : List UInt8 → List (Nat × Nat)} (x : IS h0 h k j p ew cs l M ck n S) (t : HS h h2) : IS (hN h0 h h2) h2 k j p ew cs l M ck n S :=
  (x.base (hb := hN h0 h h2) fun i hi h0i => by
    unfold hN
    cases e : h i with
    | none => exact absurd e hi
    | some B => exact h0i).hs t

end Go.Gh

/- Ideal: awake; a map that no call made. -/

namespace Go.Gh
open Go Go.Proofs Go.RowKit
set_option linter.unusedVariables false
set_option linter.unusedSimpArgs false
set_option maxRecDepth 100000
set_option maxHeartbeats 4000000

end Go.Gh

/- Ideal: the law's argument; a map that no call made. -/

namespace Go.Gh
open Go Go.Proofs Go.RowKit
set_option linter.unusedVariables false
set_option linter.unusedSimpArgs false
set_option maxRecDepth 100000
set_option maxHeartbeats 4000000

/-- What is asked, as cells. -/
def Ak.cs (q : Ak) (i b : Value) : List Value := [.int .i64 q.kd, i, .int .i64 q.fr, .int .i64 q.to, .int .i64 q.tm, .bool q.sm, .int .i64 q.ep, .int .i64 q.ix, .int .i64 q.lm, b]
def Ak.wf (q : Ak) : Prop := (Lit.int .i64 q.kd).wf = true ∧ (Lit.int .i64 q.fr).wf = true ∧ (Lit.int .i64 q.to).wf = true ∧ (Lit.int .i64 q.tm).wf = true ∧ (Lit.int .i64 q.ep).wf = true ∧ (Lit.int .i64 q.ix).wf = true ∧ (Lit.int .i64 q.lm).wf = true
end Go.Gh

/- Ideal: batches that may be. -/

namespace Go.Gh
open Go Go.Proofs Go.RowKit
set_option linter.unusedVariables false
set_option linter.unusedSimpArgs false
set_option maxRecDepth 100000
set_option maxHeartbeats 4000000

end Go.Gh

/- Ideal: batches that may be, of any. -/

namespace Go.Gh
open Go Go.Proofs Go.RowKit
set_option linter.unusedVariables false
set_option linter.unusedSimpArgs false
set_option maxRecDepth 100000
set_option maxHeartbeats 4000000

theorem gSlice_any {P : Program} {t e es : Nat} {b : Bool} (ht : P.underlying t = some (.slice e)) (he : gsz P e = some (b, es)) (h h' : GH) {a : Option Addr} {n c : Nat} {k : IntKind} {v : Int} {r : Value} (g : gSlice P t h (.slice a n c) none (some (.int k v)) none = some r) : gSlice P t h' (.slice a n c) none (some (.int k v)) none = some r := by
  rw [← g]
  cases a with
  | none => cases n <;> simp only [gSlice, ht, he]
  | some a =>
    simp only [gSlice, ht, he, gLow, true_or, or_true, if_true]
end Go.Gh

/- Versions: an index and the document's own, side by side. Each has a base that holds the other. -/

namespace Go.Gh
open Go Go.Proofs Go.RowKit
set_option linter.unusedVariables false
set_option linter.unusedSimpArgs false
set_option maxRecDepth 100000
set_option maxHeartbeats 4000000

structure J (h h' hx hr : GH) : Prop where
  sx : HS hx h'
  sr : HS hr h'
  bx : HS h hx
  br : HS h hr
  or : ∀ i, h' i ≠ none → hx i ≠ none ∨ hr i ≠ none
theorem J.swap {h h' hx hr : GH} (x : J h h' hx hr) : J h h' hr hx := ⟨x.sr, x.sx, x.br, x.bx, fun i hi => (x.or i hi).symm⟩
/-- What one of them has made since, the other one's base has too. -/
def mix (h2 a b : GH) : GH := fun i => match a i with
  | none => h2 i
  | some _ => b i
theorem J.step {h h' h2 hx hr : GH} (x : J h h' hx hr) (s : HS hx h2) : J h h2 hx (mix h2 hx hr) := by
  refine ⟨s, fun i B e => ?_, x.bx, fun i B e => ?_, fun i hi => ?_⟩
  · unfold mix at e
    cases hh : hx i with
    | none => rw [hh] at e; exact e
    | some C =>
      rw [hh] at e
      have h1 := x.sr _ _ e
      rw [x.sx _ _ hh] at h1
      cases h1
      exact s _ _ hh
  · unfold mix
    rw [x.bx _ _ e]
    exact x.br _ _ e
  · cases hh : hx i with
    | none => right; unfold mix; rw [hh]; exact hi
    | some C => left; simp
theorem J.key {h h' h2 hx hr : GH} (x : J h h' hx hr) (s : HS hx h2) : ∀ i B, h' i = some B → hr i = none → h2 i = some B ∧ mix h2 hx hr i = none := fun i B e n => by
  have : hx i ≠ none := (x.or i (by rw [e]; simp)).resolve_right (fun q => q n)
  cases hh : hx i with
  | none => exact absurd hh this
  | some C =>
    have h1 := x.sx _ _ hh
    rw [e] at h1
    cases h1
    exact ⟨s _ _ hh, by unfold mix; rw [hh]; exact n⟩
theorem J.start {h h2 h3 : GH} (s2 : HS h h2) (s3 : HS h2 h3) : J h h3 (mix h3 h2 h) h2 ∧ ∀ i B, h2 i = some B → h i = none → h3 i = some B ∧ mix h3 h2 h i = none := by
  refine ⟨⟨fun i B e => ?_, s3, fun i B e => ?_, s2, fun i hi => ?_⟩, fun i B e n => ⟨s3 _ _ e, ?_⟩⟩
  · unfold mix at e
    cases hh : h2 i with
    | none => rw [hh] at e; exact e
    | some C => rw [hh] at e; exact s3 _ _ (s2 _ _ e)
  · unfold mix
    rw [s2 _ _ e]
    exact e
  · cases hh : h2 i with
    | none => left; unfold mix; rw [hh]; exact hi
    | some C => right; simp
  · unfold mix
    rw [e]
    exact n
theorem OWNC.by {h0 h h1 h' : GH} (key : ∀ i B, h i = some B → h0 i = none → h' i = some B ∧ h1 i = none) {es n : Nat} {v : Value} {cs : List Value} (o : OWNC es h0 h v n cs) : OWNC es h1 h' v n cs := by
  rcases o with o | o | ⟨k, c, q, g1, g2, g3, g4, g5, g6⟩
  · exact .inl o
  · exact .inr (.inl o)
  · obtain ⟨z1, z2⟩ := key _ _ g5 g6
    exact .inr (.inr ⟨k, c, q, g1, g2, g3, g4, z1, z2⟩)
theorem Bat.by2 {h0 h h1 h' : GH} {v : Value} {b : List Bnd} (x : Bat h0 h v b) (key : ∀ i B, h i = some B → h0 i = none → h' i = some B ∧ h1 i = none) (hr : ∀ v l, RB h v l → RB h' v l) : Bat h1 h' v b := by
  obtain ⟨ds, o, r⟩ := x
  refine ⟨ds, o.by key, fun i p hp => ?_⟩
  obtain ⟨a, n, c, b, m, d, e, r1, r2⟩ := r i p hp
  exact ⟨a, n, c, b, m, d, e, hr _ _ r1, hr _ _ r2⟩
theorem RX.by {h0 h h1 h' : GH} (key : ∀ i B, h i = some B → h0 i = none → h' i = some B ∧ h1 i = none) (hr : ∀ v l, RB h v l → RB h' v l) {k : Nat} {bv : Value} {cs : List Value} {B : List (List Bnd)} (x : RX h0 h k bv cs B) : RX h1 h' k bv cs B := by
  obtain ⟨z1, z2⟩ := key _ _ x.obj x.nk
  exact ⟨z1, z2, x.bat.by key, fun e b hb => by obtain ⟨v, h1, h2⟩ := x.bats e b hb; exact ⟨v, h1, h2.by2 key hr⟩, x.cu8, x.bl⟩
theorem IX.by {h0 h h1 h' : GH} (key : ∀ i B, h i = some B → h0 i = none → h' i = some B ∧ h1 i = none) (hr : ∀ v l, RB h v l → RB h' v l) {k j : Nat} {bv : Value} {cs l : List Value} {B : List (List Bnd)} {S : List UInt8 → List (Nat × Nat)} (x : IX h0 h k j bv cs l B S) : IX h1 h' k j bv cs l B S := by
  obtain ⟨z1, z2⟩ := key _ _ x.obj x.nk
  obtain ⟨z3, z4⟩ := key _ _ x.mp x.nj
  exact ⟨z1, z2, z3, z4, x.ok, x.u8, x.bat.by key, fun e b hb => by obtain ⟨v, h1, h2⟩ := x.bats e b hb; exact ⟨v, h1, h2.by2 key hr⟩, fun id => (x.sp id).by key, x.ris, x.val, x.sl, x.bl, x.cu8, x.nd, x.kl⟩
theorem find_keys (k : ByteArray) : ∀ (l : List Value), mok l = true → mfind k l ≠ none → k ∈ mkeys l
  | [], _, h => absurd rfl h
  | [u], h, _ => by cases u <;> simp [mok] at h
  | q :: u :: l, h, e => by
    cases q with
    | string q =>
      rw [mfind] at e
      simp only [mkeys, List.mem_cons]
      by_cases hk : (k == q) = true
      · exact .inl ((MapKept.bytes_beq _ _).1 hk)
      · rw [if_neg hk] at e
        exact .inr (find_keys k l (by simpa [mok] using h) e)
    | _ => simp [mok] at h
/-- Who has changes is among the keys. -/
theorem IX.key {h0 h : GH} {k j : Nat} {bv : Value} {cs l : List Value} {B : List (List Bnd)} {S : List UInt8 → List (Nat × Nat)} (x : IX h0 h k j bv cs l B S) {id : List UInt8} (hs : S id ≠ []) : ∃ q, q < (mkeys l).length ∧ kid l q = id := by
  have hf : mfind (bstr id) l ≠ none := fun e => by
    have o := x.sp id
    unfold mget at o
    rw [e] at o
    obtain ⟨a, c, q⟩ := o.form
    have : (S id).length = 0 := by
      simp only [Option.getD_none] at q
      injection q with q1 q2 q3
      exact q2.symm
    exact hs (List.eq_nil_of_length_eq_zero this)
  obtain ⟨q, hq⟩ := List.mem_iff_getElem?.1 (find_keys _ _ x.ok hf)
  refine ⟨q, (List.getElem?_eq_some_iff.1 hq).1, ?_⟩
  unfold kid
  rw [hq]
  exact bstr_data id
end Go.Gh

