/- Contracts of the reference's Common, and the law BitsApart. -/
import Derived.Test.YtejjnmnljbehiaaBits5
namespace Go.Gh
open Go Go.Proofs Go.RowKit
set_option linter.unusedVariables false
set_option linter.unusedSimpArgs false
set_option maxRecDepth 100000

theorem byte_lead : ((List.range 256).all fun d => d == 0 || ((List.range (8 - len8 d)).all (fun i => !(d.testBit (7 - i))) && decide (8 - len8 d < 8) && d.testBit (7 - (8 - len8 d)))) = true := by decide +kernel
/-- The leading bits of two unlike bytes are alike, and behind them stands one that is not. -/
theorem byte_part {x y : UInt8} (h : x ≠ y) : 8 - len8 (x ^^^ y).toNat < 8 ∧ (∀ i, i < 8 - len8 (x ^^^ y).toNat → x.toNat.testBit (7 - i) = y.toNat.testBit (7 - i)) ∧ x.toNat.testBit (7 - (8 - len8 (x ^^^ y).toNat)) ≠ y.toNat.testBit (7 - (8 - len8 (x ^^^ y).toNat)) := by
  have hd : (x ^^^ y).toNat ≠ 0 := fun e => h (by
    have : x ^^^ y = 0 := UInt8.toNat_inj.1 (by simpa using e)
    exact UInt8.xor_eq_zero_iff.1 this)
  have hx : ∀ i, (x ^^^ y).toNat.testBit i = (x.toNat.testBit i ^^ y.toNat.testBit i) := fun i => by rw [UInt8.toNat_xor, Nat.testBit_xor]
  have hb := byte_lead
  rw [List.all_eq_true] at hb
  have := hb (x ^^^ y).toNat (by simpa using (x ^^^ y).toNat_lt)
  simp only [Bool.or_eq_true, beq_iff_eq, hd, false_or, Bool.and_eq_true, decide_eq_true_eq, List.all_eq_true, List.mem_range, Bool.not_eq_true', hx] at this
  obtain ⟨⟨h1, h2⟩, h3⟩ := this
  refine ⟨h2, fun i hi => ?_, fun e => ?_⟩
  · have := h1 i hi
    simpa using this
  · rw [e] at h3
    simp at h3

theorem gbit_cons (a : UInt8) (l : List UInt8) (i : Nat) : gbit (a :: l) (i + 8) = gbit l i := by
  simp only [gbit]
  rw [show (i + 8) / 8 = i / 8 + 1 by omega, List.getElem?_cons_succ, show (i + 8) % 8 = i % 8 by omega]
theorem gbit_head (a : UInt8) (l : List UInt8) {i : Nat} (h : i < 8) : gbit (a :: l) i = if a.toNat.testBit (7 - i) = true then 1 else 0 := by
  simp only [gbit]
  rw [show i / 8 = 0 by omega, List.getElem?_cons_zero, show i % 8 = i by omega]
theorem gbit_nonneg {l : List UInt8} {i : Nat} : 0 ≤ gbit l i ↔ i < 8 * l.length := by
  unfold gbit
  split
  · rename_i h
    rw [List.getElem?_eq_none_iff] at h
    omega
  · rename_i b h
    have := (List.getElem?_eq_some_iff.1 h).1
    split <;> omega
theorem gbit_lt {l : List UInt8} {i : Nat} : gbit l i ≤ 1 := by
  unfold gbit
  split
  · omega
  · split <;> omega
/-- ncom tells the first bit where two rows part. -/
theorem ncom_spec : ∀ l m : List UInt8, (∀ i, i < ncom l m → 0 ≤ gbit l i ∧ gbit l i = gbit m i) ∧ (gbit l (ncom l m) < 0 ∨ gbit l (ncom l m) ≠ gbit m (ncom l m))
  | [], m => ⟨fun i hi => by simp [ncom] at hi, .inl (by simp [gbit, ncom])⟩
  | a :: l, [] => ⟨fun i hi => by simp [ncom] at hi, .inr (by
      have h1 := (gbit_nonneg (l := a :: l) (i := 0)).2 (by simp)
      have h2 : gbit [] 0 = -1 := rfl
      simp only [ncom]
      omega)⟩
  | a :: l, b :: m => by
    by_cases hab : a = b
    · subst hab
      obtain ⟨h1, h2⟩ := ncom_spec l m
      simp only [ncom, if_true]
      refine ⟨fun i hi => ?_, ?_⟩
      · by_cases h8 : i < 8
        · rw [gbit_head a l h8, gbit_head a m h8]
          exact ⟨by split <;> omega, rfl⟩
        · obtain ⟨j, rfl⟩ : ∃ j, i = j + 8 := ⟨i - 8, by omega⟩
          rw [gbit_cons, gbit_cons]
          exact h1 j (by omega)
      · rw [Nat.add_comm, gbit_cons, gbit_cons]
        exact h2
    · obtain ⟨h1, h2, h3⟩ := byte_part hab
      simp only [ncom, if_neg hab]
      refine ⟨fun i hi => ?_, .inr ?_⟩
      · rw [gbit_head a l (by omega), gbit_head b m (by omega), h2 i hi]
        exact ⟨by split <;> omega, rfl⟩
      · rw [gbit_head a l h1, gbit_head b m h1]
        generalize a.toNat.testBit (7 - (8 - len8 (a ^^^ b).toNat)) = p at h3 ⊢
        generalize b.toNat.testBit (7 - (8 - len8 (a ^^^ b).toNat)) = q at h3 ⊢
        cases p <;> cases q <;> simp at h3 ⊢
/-- It is the only such. -/
theorem ncom_uniq {l m : List UInt8} {n : Nat} (h1 : ∀ i, i < n → 0 ≤ gbit l i ∧ gbit l i = gbit m i) (h2 : gbit l n < 0 ∨ gbit l n ≠ gbit m n) : ncom l m = n := by
  obtain ⟨h3, h4⟩ := ncom_spec l m
  rcases Nat.lt_trichotomy (ncom l m) n with h | h | h
  · have := h1 _ h
    rcases h4 with h4 | h4
    · omega
    · exact absurd this.2 h4
  · exact h
  · have := h3 _ h
    rcases h2 with h2 | h2
    · omega
    · exact absurd this.2 h2

theorem c_rBitN (N : Nat) (h : GH) {a : Option Addr} {c : Nat} {l : List UInt8} (r : RB h (.slice a l.length c) l) (i : Nat) (hi : i ≤ 9223372036854775807) : GTri Try.prog N 26 [.slice a l.length c, .int .i64 i] h fun v h' => v = .int .i64 (gbit l i) ∧ h' = h :=
  (c_rBit N h r rfl i (WalkArith.wf_i64 (by omega))).mono fun v h' ⟨e1, e2⟩ => ⟨by rw [e1, if_neg (by omega), Int.toNat_natCast], e2⟩
theorem c_BitN (N : Nat) (h : GH) {a : Option Addr} {c : Nat} {l : List UInt8} (r : RB h (.slice a l.length c) l) (i : Nat) (hi : i ≤ 9223372036854775807) : GTri Try.prog N 25 [.slice a l.length c, .int .i64 i] h fun v h' => v = .int .i64 (gbit l i) ∧ h' = h :=
  (c_Bit N h r rfl i (WalkArith.wf_i64 (by omega))).mono fun v h' ⟨e1, e2⟩ => ⟨by rw [e1, if_neg (by omega), Int.toNat_natCast], e2⟩

theorem c_rCommon (N : Nat) (h : GH) {a b : Option Addr} {n m c d : Nat} {l k : List UInt8} (r1 : RB h (.slice a n c) l) (r2 : RB h (.slice b m d) k) (hn : n = l.length) (hm : m = k.length) (hb : l.length ≤ 140737488355328) : GTri Try.prog N 52 [.slice a n c, .slice b m d] h fun v h' => v = .int .i64 (ncom l k) ∧ h' = h := by
  subst hn; subst hm
  refine gtri Try.func52 rfl gf52 ok52 (by simp [Try.ntmps52]) ?_
  repeat' (first | with_reducible refine gw_seq ?_ | with_reducible refine gw_block ?_ | ((first | with_reducible refine gw_region ?_ | with_reducible refine gw_if ?_ | with_reducible refine gw_skip ?_ | with_reducible refine gw_exit ?_ | with_reducible refine gw_ret ?_ | ((with_reducible refine gif_b (fun hb => ?_) (fun hb => ?_)) <;> try simp only [hb]) | ((with_reducible refine want_t (fun hb => ?_) (fun hb => ?_)) <;> try simp only [hb]) | ((with_reducible refine want_f (fun hb => ?_) (fun hb => ?_)) <;> try simp only [hb])) <;> try simp only [List.map, gops_nil, gops_none, gops_some, kops_ap, kops_no, gop, optK_some, ev, lk, aenv, gyield, thenQ_n, thenQ_r, thenQ_x, blockQ_n, blockQ_r, blockQ_x, retQ_r, retQ_n, gret_0, gret_1, gret_2, gret_3, gret_c, gret_c1, gret_c2, gif_t, gif_f, want_tt, want_ff, want_tf, want_ft, gBin, gInt, gStrOp, gUn, gPick, gNil, gExtract, gIfc, gConvK, gIndexO, gIndexVO, gMakeV, gMinV, gMaxV, isInt, gMin, gMax, gBlt, gCallV, gAllocO_some, vcells, optH_some, Nat.reduceAdd, Nat.reduceSub, Nat.reduceMul, Nat.reduceLT, Nat.reduceLeDiff, Nat.reduceEqDiff, Nat.reduceBEq, reduceIte, Option.map_some, Option.map_none, Option.getD_some, Option.some.injEq, List.getElem?_cons_succ, List.getElem?_cons_zero, List.length_cons, List.length_nil, List.cons_append, List.nil_append, List.append_nil, Array.toList_append, List.extract_toArray, List.extract_eq_take_drop, List.drop_succ_cons, List.drop_zero, List.take_succ_cons, List.take_zero, List.set_cons_zero, List.set_cons_succ, Int.cast_ofNat_Int, Int.reduceLT, Int.reduceLE, Int.reduceGT, Int.reduceGE, Int.reduceEq, Int.reduceNe, Int.reduceAdd, Int.reduceSub, Int.reduceMul, Int.reduceNeg, Int.reduceToNat, Int.reduceBEq, Int.reduceBNe, decide_true, decide_false, and_self, ite_true, ite_false, gField, gIndexV, gPart, gLen_s, gEq_nil, gEq_bool, gEq_pp, gEq_pn, TypeDesc.slice.injEq, wrap64, wrapu8, wrapu32, wrapu64, true_and, and_true, Bool.false_eq_true, eq_self_iff_true, Bool.not_true, Bool.not_false, Bool.or_false, Bool.false_or, Bool.true_and, Bool.and_true, Try.underlying29, Try.underlying3, Try.underlying5, el29, ni29, ni3, ni5, sz29, sz3, sz5, zr29, zr3, zr5, rs52]))
  refine gw_loop (fun q e h' => ∃ i : Nat, i ≤ 8 * l.length ∧ q = 8 * l.length - i ∧ h' = h ∧ (∀ j, j < i → 0 ≤ gbit l j ∧ gbit l j = gbit k j) ∧ e = [(5, .int .i64 i), (0, .slice a l.length c), (1, .slice b k.length d)]) (8 * l.length)
    (e0 := [(5, .int .i64 0), (0, .slice a l.length c), (1, .slice b k.length d)]) (sub_of (by simp only [List.forall_mem_cons, List.not_mem_nil, false_implies, implies_true, lk, Nat.reduceEqDiff, reduceIte, and_true, true_and])) ⟨0, by omega, rfl, rfl, fun j hj => by omega, rfl⟩ ?_
  rintro q e h' ⟨i, hi, rfl, rfl, ht, rfl⟩
  have w2 : IntKind.i64.wrap ((i : Int) + 1) = ((i + 1 : Nat) : Int) := by rw [wrap64 (by omega) (by omega)]; omega
  repeat' (first | with_reducible refine gw_seq ?_ | with_reducible refine gw_block ?_ | ((first | with_reducible refine gw_region ?_ | with_reducible refine gw_if ?_ | with_reducible refine gw_skip ?_ | with_reducible refine gw_exit ?_ | with_reducible refine gw_ret ?_ | ((with_reducible refine gif_b (fun hb => ?_) (fun hb => ?_)) <;> try simp only [hb]) | ((with_reducible refine want_t (fun hb => ?_) (fun hb => ?_)) <;> try simp only [hb]) | ((with_reducible refine want_f (fun hb => ?_) (fun hb => ?_)) <;> try simp only [hb]) | ((refine GTri.mono (c_rBitN _ _ r1 i (by omega)) ?_); rintro _ _ ⟨rfl, rfl⟩) | ((refine GTri.mono (c_rBitN _ _ r2 i (by omega)) ?_); rintro _ _ ⟨rfl, rfl⟩)) <;> try simp only [List.map, gops_nil, gops_none, gops_some, kops_ap, kops_no, gop, optK_some, ev, lk, aenv, gyield, thenQ_n, thenQ_r, thenQ_x, blockQ_n, blockQ_r, blockQ_x, retQ_r, retQ_n, gret_0, gret_1, gret_2, gret_3, gret_c, gret_c1, gret_c2, gif_t, gif_f, want_tt, want_ff, want_tf, want_ft, gBin, gInt, gStrOp, gUn, gPick, gNil, gExtract, gIfc, gConvK, gIndexO, gIndexVO, gMakeV, gMinV, gMaxV, isInt, gMin, gMax, gBlt, gCallV, gAllocO_some, vcells, optH_some, Nat.reduceAdd, Nat.reduceSub, Nat.reduceMul, Nat.reduceLT, Nat.reduceLeDiff, Nat.reduceEqDiff, Nat.reduceBEq, reduceIte, Option.map_some, Option.map_none, Option.getD_some, Option.some.injEq, List.getElem?_cons_succ, List.getElem?_cons_zero, List.length_cons, List.length_nil, List.cons_append, List.nil_append, List.append_nil, Array.toList_append, List.extract_toArray, List.extract_eq_take_drop, List.drop_succ_cons, List.drop_zero, List.take_succ_cons, List.take_zero, List.set_cons_zero, List.set_cons_succ, Int.cast_ofNat_Int, Int.reduceLT, Int.reduceLE, Int.reduceGT, Int.reduceGE, Int.reduceEq, Int.reduceNe, Int.reduceAdd, Int.reduceSub, Int.reduceMul, Int.reduceNeg, Int.reduceToNat, Int.reduceBEq, Int.reduceBNe, decide_true, decide_false, and_self, ite_true, ite_false, gField, gIndexV, gPart, gLen_s, gEq_nil, gEq_bool, gEq_pp, gEq_pn, TypeDesc.slice.injEq, wrap64, wrapu8, wrapu32, wrapu64, true_and, and_true, Bool.false_eq_true, eq_self_iff_true, Bool.not_true, Bool.not_false, Bool.or_false, Bool.false_or, Bool.true_and, Bool.and_true, Try.underlying29, Try.underlying3, Try.underlying5, el29, ni29, ni3, ni5, sz29, sz3, sz5, zr29, zr3, zr5, rs52, w2]))
  · simp only [decide_eq_true_eq, beq_iff_eq] at *
    rename_i hb2 _
    have hlt : i < 8 * l.length := gbit_nonneg.1 (by omega)
    refine ⟨_, _, ?_, ?_, i + 1, ?_, rfl, ?_, rfl⟩
    · omega
    · exact (sub_of (by simp only [List.forall_mem_cons, List.not_mem_nil, false_implies, implies_true, lk, Nat.reduceEqDiff, reduceIte, and_true, true_and]))
    · omega
    · intro j hj
      by_cases hji : j < i
      · exact ht j hji
      · obtain rfl : j = i := by omega
        exact ⟨by omega, hb⟩
  · simp only [beq_eq_false_iff_ne] at hb
    rw [ncom_uniq ht (.inr hb)]
  · simp only [decide_eq_false_iff_not] at hb
    rw [ncom_uniq ht (.inl (by omega))]
end Go.Gh
