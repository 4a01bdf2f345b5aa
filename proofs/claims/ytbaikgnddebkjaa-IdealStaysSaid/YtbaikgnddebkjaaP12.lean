/- Parts of this claim's proof, 12. No statement of the claim stands here. -/
import Derived.Test.YtbaikgnddebkjaaP11
/- Ideal: batches that may be, of any. -/

namespace Go.Gh
open Go Go.Proofs Go.RowKit
set_option linter.unusedVariables false
set_option linter.unusedSimpArgs false
set_option maxRecDepth 100000
set_option maxHeartbeats 4000000

/-- Each identity once. -/
def Once (b : List Bnd) : Prop := (b.map (·.1)).Nodup
theorem mset_len (s : ByteArray) (x : Value) : ∀ (l : List Value), mok l = true → mfind s l = none → (mset s x l).length = l.length + 2
  | [], _, _ => rfl
  | [v], h, _ => by cases v <;> simp [mok] at h
  | k :: v :: l, h, hf => by
    cases k with
    | string k =>
      have e4 : (s == k) = true ↔ s = k := MapKept.bytes_beq _ _
      have hne : ¬ (s == k) = true := fun e => by
        simp only [mfind, if_pos e] at hf
        cases hf
      have hf' : mfind s l = none := by simpa only [mfind, if_neg hne] using hf
      have ih := mset_len s x l (by simpa [mok] using h) hf'
      rw [mset, if_neg hne]
      simp [ih]
    | _ => simp [mok] at h
theorem seenC_none (b : List Bnd) (id : List UInt8) : ∀ i, (∀ k, k < i → (bat1 b k).1 ≠ id) → mfind (bstr id) (seenC b i) = none
  | 0, _ => rfl
  | i + 1, h => by
    rw [seenC, (mfind_mset _ (bstr id) _ _ (seenC_ok b i)).2, if_neg (fun e => h i (by omega) (bstr_inj e).symm)]
    exact seenC_none b id i fun k hk => h k (by omega)
theorem seenC_len {b : List Bnd} (o : Once b) : ∀ i, i ≤ b.length → (seenC b i).length = 2 * i
  | 0, _ => rfl
  | i + 1, h => by
    have ih := seenC_len o i (by omega)
    rw [seenC, mset_len _ _ _ (seenC_ok b i) ?_, ih]
    · omega
    · refine seenC_none b _ i fun k hk e => ?_
      have h1 : b[k]? = some b[k] := List.getElem?_eq_getElem (by omega)
      have h2 : b[i]? = some b[i] := List.getElem?_eq_getElem (by omega)
      simp only [bat1, h1, h2, Option.getD_some] at e
      have h3 : (b.map (·.1))[k]? = (b.map (·.1))[i]? := by simp [h1, h2, e]
      have := (List.getElem?_inj (by rw [List.length_map]; omega) o).1 h3
      omega
theorem chk_ok {p : Pm} {b : List Bnd} (h0 : b ≠ []) (h1 : b.length ≤ 32) (h2 : ∀ x ∈ b, ¬ tooLong p x) (o : Once b) : chkB p b = 0 := by
  unfold chkB
  rw [if_neg h0, if_neg (by omega), if_neg (fun ⟨x, hx, hq⟩ => h2 x hx hq), seenC_len o _ (Nat.le_refl _), if_neg (by omega)]

/-- Batches that may be. -/
structure Good (p : Pm) (most : Int) (B : List (List Bnd)) : Prop where
  each : ∀ b ∈ B, chkB p b = 0
  tt : (tot B : Int) ≤ p.ch
  len : (B.length : Int) ≤ most
  eps : B = [] ∨ (B.length : Int) < p.eps

theorem gSlice_any {P : Program} {t e es : Nat} {b : Bool} (ht : P.underlying t = some (.slice e)) (he : gsz P e = some (b, es)) (h h' : GH) {a : Option Addr} {n c : Nat} {k : IntKind} {v : Int} {r : Value} (g : gSlice P t h (.slice a n c) none (some (.int k v)) none = some r) : gSlice P t h' (.slice a n c) none (some (.int k v)) none = some r := by
  rw [← g]
  cases a with
  | none => cases n <;> simp only [gSlice, ht, he]
  | some a =>
    simp only [gSlice, ht, he, gLow, true_or, or_true, if_true]
theorem gmin2 (x y : Int) : (if y < x then y else x) ≤ x ∧ (if y < x then y else x) ≤ y ∧ ((if y < x then y else x) = y ∨ (if y < x then y else x) = x) := by
  split <;> omega
theorem c_Batches (N : Nat) (h : GH) (p : Pm) (hm : p.may = true) {a : Option Addr} {c : Nat} {l : List (List Bnd)} (rl : RL 1 Bl h (.slice a l.length c) l) (hl : l.length ≤ 140737488355328) (hll : ∀ b ∈ l, small b ∧ b.length ≤ 140737488355328) (most : Int) (hmo : 0 ≤ most ∧ most ≤ 1000) :
    GTri Try.prog N 33 [p.v, .slice a l.length c, .int .i64 most] h fun v h' => (∃ B, Good p most B ∧ RL 1 Bl h' v B) ∧ HS h h' := by
  have hmay := p.may_iff.1 hm
  have hv : p.v = .agg #[.int .i64 p.s, .int .i64 p.ht, .int .i64 p.mi, .int .i64 p.my, .int .i64 p.ch, .int .i64 p.ar, .int .i64 p.ca, .int .i64 p.pg] := rfl
  rw [hv]
  refine gtri Try.func33 rfl gf33 ok33 (by simp [Try.ntmps33]) ?_
  repeat' (first | (with_reducible first | refine gw_seq ?_ | refine gw_block ?_) | ((first | (with_reducible first | refine gw_region ?_ | refine gw_if ?_ | refine gw_skip ?_ | refine gw_exit ?_ | refine gw_ret ?_) | ((with_reducible first | refine gif_b (fun hb => ?_) (fun hb => ?_) | refine want_t (fun hb => ?_) (fun hb => ?_) | refine want_f (fun hb => ?_) (fun hb => ?_) | refine dr_t (fun hb => ?_) (fun hb => ?_) | refine dr_f (fun hb => ?_) (fun hb => ?_)) <;> (try simp only [hb]) <;> (try simp only [hpr] at hb)) | with_reducible refine gw_draw (id := 10) [(0, []), (1, []), (2, []), (3, []), (4, []), (5, []), (6, []), (7, []), (8, []), (9, []), (10, []), (11, []), (12, []), (13, []), (14, []), (15, []), (16, []), (17, []), (18, []), (19, [1, 3, 4, 6, 8, 10, 12, 13, 15, 17]), (20, [])] [0, 1, 0, 4, 12, 0, 32, 124, 255, 0, 512, 0, 2048, 6144, 0, 16384, 63488, 130560, 262143, 0, 1048575] mixed (by kernel_rfl) ?_) <;> try simp only [gop, gyield, gLenX, gNilM, gField, gIndexV, gPart, reduceIte, seval, Int.cast_ofNat_Int, stz, stp, isEff, sgl, sty, stq, Try.underlying130, ty22, ty23, ty24, ty65, ty99, ty130, ty3, ty4, ty5, rs33]))
  refine box_g rfl fun k1 h1 m1 s1 f1 n1 => ?_
  refine mk_of ?_; repeat' (first | (with_reducible first | refine gw_seq ?_ | refine gw_block ?_) | ((first | (with_reducible refine mk_to ?_) | (with_reducible first | refine gw_region ?_ | refine gw_if ?_ | refine gw_skip ?_ | refine gw_exit ?_ | refine gw_ret ?_) | ((with_reducible first | refine gif_b (fun hb => ?_) (fun hb => ?_) | refine want_t (fun hb => ?_) (fun hb => ?_) | refine want_f (fun hb => ?_) (fun hb => ?_) | refine dr_t (fun hb => ?_) (fun hb => ?_) | refine dr_f (fun hb => ?_) (fun hb => ?_)) <;> (try simp only [hb]) <;> (try simp only [hpr] at hb)) | with_reducible refine gw_draw (id := 10) [(0, []), (1, []), (2, []), (3, []), (4, []), (5, []), (6, []), (7, []), (8, []), (9, []), (10, []), (11, []), (12, []), (13, []), (14, []), (15, []), (16, []), (17, []), (18, []), (19, [1, 3, 4, 6, 8, 10, 12, 13, 15, 17]), (20, [])] [0, 1, 0, 4, 12, 0, 32, 124, 255, 0, 512, 0, 2048, 6144, 0, 16384, 63488, 130560, 262143, 0, 1048575] mixed (by kernel_rfl) ?_) <;> try simp only [gop, gyield, gLenX, gNilM, gField, gIndexV, gPart, reduceIte, seval, Int.cast_ofNat_Int, stz, stp, isEff, sgl, sty, stq, Try.underlying130, ty22, ty23, ty24, ty65, ty99, ty130, ty3, ty4, ty5, rs33]))
  refine gw_loop2 [2, 3, 6, 16, 17] (fun (y : Nat × Nat × (Option Addr × Nat × Nat)) => [(7, .slice y.2.2.1 y.2.2.2.1 y.2.2.2.2), (8, .int .i64 (y.2.1 : Int)), (18, .int .i64 (y.1 : Int))])
    (fun q y h' => l.length - y.1 = q ∧ y.1 ≤ l.length ∧ HS h1 h' ∧ (y.2.1 : Int) ≤ p.ch ∧ ∃ (B : List (List Bnd)) (ds : List Value), Good p most B ∧ tot B ≤ y.2.1 ∧ OWNC 1 h1 h' (.slice y.2.2.1 y.2.2.2.1 y.2.2.2.2) B.length ds ∧ ds.all isSl = true ∧ ∀ (e : Nat) b, B[e]? = some b → ∃ v, ds[e]? = some v ∧ Bat H0 h' v b) l.length (0, 0, (none, 0, 0)) (by simp [lk])
    ⟨rfl, by simp, HS.refl _, by simp; omega, [], [], ⟨fun b hb => by simp at hb, by simp [tot]; omega, by simp; omega, .inl rfl⟩, by simp [tot], OWNC.nil _ _ _, rfl, fun e b hb => by simp at hb⟩ ?_
  rintro _ ⟨i, n, a3, n3, c3⟩ h3 ⟨rfl, hi, s3, hn, B, ds, gB, htB, o3, sl3, bt3⟩
  simp only at hi hn htB o3
  have m13 := s3 _ _ m1
  by_cases hib : i < l.length
  case neg =>
    obtain rfl : i = l.length := by omega
    have d3 : decide ((l.length : Int) < (l.length : Int)) = false := decide_eq_false (by omega)
    refine mk_of ?_; repeat' (first | (with_reducible first | refine gw_seq ?_ | refine gw_block ?_) | ((first | (with_reducible refine mk_to ?_) | (with_reducible first | refine gw_region ?_ | refine gw_if ?_ | refine gw_skip ?_ | refine gw_exit ?_ | refine gw_ret ?_) | ((with_reducible first | refine gif_b (fun hb => ?_) (fun hb => ?_) | refine want_t (fun hb => ?_) (fun hb => ?_) | refine want_f (fun hb => ?_) (fun hb => ?_) | refine dr_t (fun hb => ?_) (fun hb => ?_) | refine dr_f (fun hb => ?_) (fun hb => ?_)) <;> (try simp only [hb]) <;> (try simp only [hpr] at hb)) | with_reducible refine gw_draw (id := 10) [(0, []), (1, []), (2, []), (3, []), (4, []), (5, []), (6, []), (7, []), (8, []), (9, []), (10, []), (11, []), (12, []), (13, []), (14, []), (15, []), (16, []), (17, []), (18, []), (19, [1, 3, 4, 6, 8, 10, 12, 13, 15, 17]), (20, [])] [0, 1, 0, 4, 12, 0, 32, 124, 255, 0, 512, 0, 2048, 6144, 0, 16384, 63488, 130560, 262143, 0, 1048575] mixed (by kernel_rfl) ?_) <;> try simp only [gop, gyield, gLenX, gNilM, gField, gIndexV, gPart, reduceIte, seval, Int.cast_ofNat_Int, stz, stp, isEff, sgl, sty, stq, Try.underlying130, ty22, ty23, ty24, ty65, ty99, ty130, ty3, ty4, ty5, rs33, d3]))
    refine ⟨⟨B, gB, o3.rl fun e b hb => ?_⟩, s1.trans s3⟩
    obtain ⟨v, hv1, bt⟩ := bt3 e b hb
    obtain ⟨av, cv, ev', _⟩ := bt.rl.form
    rw [Nat.mul_one, List.take_one, List.head?_drop, hv1]
    subst ev'
    exact ⟨av, cv, rfl, bt.rl⟩
  have d3 : decide ((i : Int) < (l.length : Int)) = true := decide_eq_true (by omega)
  have wi : IntKind.i64.wrap ((i : Int) + 1) = ((i + 1 : Nat) : Int) := by rw [wrap64 (by omega) (by omega)]; omega
  obtain ⟨b, hb⟩ : ∃ b, l[i]? = some b := ⟨_, List.getElem?_eq_getElem hib⟩
  have s13 := s1.trans s3
  obtain ⟨ad, cs2, g1, g2, a4, c4, rfl, rb⟩ := (rl.hcR s13.hc (fun cs b q => by obtain ⟨a, c, e, r⟩ := q; exact (⟨a, c, e, r.bs s13⟩ : Bl h3 cs b))).at (P := Try.prog) Try.underlying22 sz23 hb
  have l1 : gLoad Try.prog 23 h3 (.pointer (some ad)) = some (.slice a4 b.length c4) := by simp only [gLoad, sz23, g2]; rfl
  obtain ⟨hbs, hbl⟩ := hll b (List.mem_of_getElem? hb)
  refine mk_of ?_; repeat' (first | (with_reducible first | refine gw_seq ?_ | refine gw_block ?_) | ((first | (with_reducible refine mk_to ?_) | (with_reducible first | refine gw_region ?_ | refine gw_if ?_ | refine gw_skip ?_ | refine gw_exit ?_ | refine gw_ret ?_) | ((with_reducible first | refine gif_b (fun hb => ?_) (fun hb => ?_) | refine want_t (fun hb => ?_) (fun hb => ?_) | refine want_f (fun hb => ?_) (fun hb => ?_) | refine dr_t (fun hb => ?_) (fun hb => ?_) | refine dr_f (fun hb => ?_) (fun hb => ?_)) <;> (try simp only [hb]) <;> (try simp only [hpr] at hb)) | with_reducible refine gw_draw (id := 10) [(0, []), (1, []), (2, []), (3, []), (4, []), (5, []), (6, []), (7, []), (8, []), (9, []), (10, []), (11, []), (12, []), (13, []), (14, []), (15, []), (16, []), (17, []), (18, []), (19, [1, 3, 4, 6, 8, 10, 12, 13, 15, 17]), (20, [])] [0, 1, 0, 4, 12, 0, 32, 124, 255, 0, 512, 0, 2048, 6144, 0, 16384, 63488, 130560, 262143, 0, 1048575] mixed (by kernel_rfl) ?_) <;> try simp only [gop, gyield, gLenX, gNilM, gField, gIndexV, gPart, reduceIte, seval, Int.cast_ofNat_Int, stz, stp, isEff, sgl, sty, stq, Try.underlying130, ty22, ty23, ty24, ty65, ty99, ty130, ty3, ty4, ty5, rs33, d3, g1, l1]))
  refine gw_loop2 [2, 3, 6, 7, 10, 16, 17, 18, 19, 20, 21, 22, 23] (fun (y : Nat × Nat × (Option Addr × Nat × Nat)) => [(8, .int .i64 (y.2.1 : Int)), (11, .slice y.2.2.1 y.2.2.2.1 y.2.2.2.2), (24, .int .i64 (y.1 : Int))])
    (fun q y h' => b.length - y.1 = q ∧ y.1 ≤ b.length ∧ HS h3 h' ∧ (y.2.1 : Int) ≤ p.ch ∧ ∃ (w : List Bnd) (es : List Value), w.length ≤ 6 ∧ Once w ∧ (∀ x ∈ w, ¬ tooLong p x) ∧ n + w.length ≤ y.2.1 ∧ OWNC 2 h3 h' (.slice y.2.2.1 y.2.2.2.1 y.2.2.2.2) w.length es ∧ es.all isSl = true ∧ ∀ (q : Nat) x, w[q]? = some x → Bd h' ((es.drop (q * 2)).take 2) x) b.length (0, n, (none, 0, 0)) (by simp [lk])
    ⟨rfl, by simp, HS.refl _, hn, [], [], by simp, List.nodup_nil, fun x hx => by simp at hx, by simp, OWNC.nil _ _ _, rfl, fun q x hx => by simp at hx⟩ ?_
  rintro _ ⟨t, n5, a5, m5, c5⟩ h5 ⟨rfl, ht, s5, hn5, w, es, hw6, ow, hwl, htw, o5, sl5, bd5⟩
  simp only at ht hn5 htw o5
  have m15 := s5 _ _ m13
  by_cases htb : t < b.length
  case neg =>
    obtain rfl : t = b.length := by omega
    have d4 : decide ((b.length : Int) < (b.length : Int)) = false := decide_eq_false (by omega)
    have m5w : m5 = w.length := by
      obtain ⟨_, _, q⟩ := o5.form
      cases q; rfl
    have n3B : n3 = B.length := by
      obtain ⟨_, _, q⟩ := o3.form
      cases q; rfl
    subst m5w
    subst n3B
    have s35 : HS h1 h5 := s3.trans s5
    have bt5 : ∀ (e : Nat) b, B[e]? = some b → ∃ v, ds[e]? = some v ∧ Bat H0 h5 v b := fun e b hb => by
      obtain ⟨v, h1, h2⟩ := bt3 e b hb
      exact ⟨v, h1, h2.hs s5⟩
    have keep : ∀ {h' : GH}, HS h5 h' → ∃ m a', m < l.length - i ∧ True := fun _ => ⟨0, 0, by omega, trivial⟩
    by_cases c1 : w.length = 0
    · have d5 : decide ((w.length : Int) > 0) = false := decide_eq_false (by omega)
      refine mk_of ?_; repeat' (first | (with_reducible first | refine gw_seq ?_ | refine gw_block ?_) | ((first | (with_reducible refine mk_to ?_) | (with_reducible first | refine gw_region ?_ | refine gw_if ?_ | refine gw_skip ?_ | refine gw_exit ?_ | refine gw_ret ?_) | ((with_reducible first | refine gif_b (fun hb => ?_) (fun hb => ?_) | refine want_t (fun hb => ?_) (fun hb => ?_) | refine want_f (fun hb => ?_) (fun hb => ?_) | refine dr_t (fun hb => ?_) (fun hb => ?_) | refine dr_f (fun hb => ?_) (fun hb => ?_)) <;> (try simp only [hb]) <;> (try simp only [hpr] at hb)) | with_reducible refine gw_draw (id := 10) [(0, []), (1, []), (2, []), (3, []), (4, []), (5, []), (6, []), (7, []), (8, []), (9, []), (10, []), (11, []), (12, []), (13, []), (14, []), (15, []), (16, []), (17, []), (18, []), (19, [1, 3, 4, 6, 8, 10, 12, 13, 15, 17]), (20, [])] [0, 1, 0, 4, 12, 0, 32, 124, 255, 0, 512, 0, 2048, 6144, 0, 16384, 63488, 130560, 262143, 0, 1048575] mixed (by kernel_rfl) ?_) <;> try simp only [gop, gyield, gLenX, gNilM, gField, gIndexV, gPart, reduceIte, seval, Int.cast_ofNat_Int, stz, stp, isEff, sgl, sty, stq, Try.underlying130, ty22, ty23, ty24, ty65, ty99, ty130, ty3, ty4, ty5, rs33, d4, d5, gPick, wi]))
      refine ⟨_, (i + 1, n5, a3, B.length, c3), ?_, (by simp only [List.forall_mem_cons, List.not_mem_nil, false_implies, implies_true, List.map, List.cons_append, List.nil_append, lk, Nat.reduceEqDiff, reduceIte, and_true, true_and]), rfl, by simp only; omega, s35, hn5, B, ds, gB, by simp only; omega, o3.hs s5, sl3, bt5⟩
      simp only
      omega
    have d5 : decide ((w.length : Int) > 0) = true := decide_eq_true (by omega)
    by_cases c2 : (B.length : Int) < most
    case neg =>
      have d6 : decide ((B.length : Int) < most) = false := decide_eq_false c2
      refine mk_of ?_; repeat' (first | (with_reducible first | refine gw_seq ?_ | refine gw_block ?_) | ((first | (with_reducible refine mk_to ?_) | (with_reducible first | refine gw_region ?_ | refine gw_if ?_ | refine gw_skip ?_ | refine gw_exit ?_ | refine gw_ret ?_) | ((with_reducible first | refine gif_b (fun hb => ?_) (fun hb => ?_) | refine want_t (fun hb => ?_) (fun hb => ?_) | refine want_f (fun hb => ?_) (fun hb => ?_) | refine dr_t (fun hb => ?_) (fun hb => ?_) | refine dr_f (fun hb => ?_) (fun hb => ?_)) <;> (try simp only [hb]) <;> (try simp only [hpr] at hb)) | with_reducible refine gw_draw (id := 10) [(0, []), (1, []), (2, []), (3, []), (4, []), (5, []), (6, []), (7, []), (8, []), (9, []), (10, []), (11, []), (12, []), (13, []), (14, []), (15, []), (16, []), (17, []), (18, []), (19, [1, 3, 4, 6, 8, 10, 12, 13, 15, 17]), (20, [])] [0, 1, 0, 4, 12, 0, 32, 124, 255, 0, 512, 0, 2048, 6144, 0, 16384, 63488, 130560, 262143, 0, 1048575] mixed (by kernel_rfl) ?_) <;> try simp only [gop, gyield, gLenX, gNilM, gField, gIndexV, gPart, reduceIte, seval, Int.cast_ofNat_Int, stz, stp, isEff, sgl, sty, stq, Try.underlying130, ty22, ty23, ty24, ty65, ty99, ty130, ty3, ty4, ty5, rs33, d4, d5, d6, gPick, wi]))
      refine ⟨_, (i + 1, n5, a3, B.length, c3), ?_, (by simp only [List.forall_mem_cons, List.not_mem_nil, false_implies, implies_true, List.map, List.cons_append, List.nil_append, lk, Nat.reduceEqDiff, reduceIte, and_true, true_and]), rfl, by simp only; omega, s35, hn5, B, ds, gB, by simp only; omega, o3.hs s5, sl3, bt5⟩
      simp only
      omega
    have d6 : decide ((B.length : Int) < most) = true := decide_eq_true c2
    have wB : IntKind.i64.wrap ((B.length : Int) + 1) = ((B.length + 1 : Nat) : Int) := by rw [wrap64 (by omega) (by omega)]; omega
    refine mk_of ?_; repeat' (first | (with_reducible first | refine gw_seq ?_ | refine gw_block ?_) | ((first | (with_reducible refine mk_to ?_) | (with_reducible first | refine gw_region ?_ | refine gw_if ?_ | refine gw_skip ?_ | refine gw_exit ?_ | refine gw_ret ?_) | ((with_reducible first | refine gif_b (fun hb => ?_) (fun hb => ?_) | refine want_t (fun hb => ?_) (fun hb => ?_) | refine want_f (fun hb => ?_) (fun hb => ?_) | refine dr_t (fun hb => ?_) (fun hb => ?_) | refine dr_f (fun hb => ?_) (fun hb => ?_)) <;> (try simp only [hb]) <;> (try simp only [hpr] at hb)) | with_reducible refine gw_draw (id := 10) [(0, []), (1, []), (2, []), (3, []), (4, []), (5, []), (6, []), (7, []), (8, []), (9, []), (10, []), (11, []), (12, []), (13, []), (14, []), (15, []), (16, []), (17, []), (18, []), (19, [1, 3, 4, 6, 8, 10, 12, 13, 15, 17]), (20, [])] [0, 1, 0, 4, 12, 0, 32, 124, 255, 0, 512, 0, 2048, 6144, 0, 16384, 63488, 130560, 262143, 0, 1048575] mixed (by kernel_rfl) ?_) <;> try simp only [gop, gyield, gLenX, gNilM, gField, gIndexV, gPart, reduceIte, seval, Int.cast_ofNat_Int, stz, stp, isEff, sgl, sty, stq, Try.underlying130, ty22, ty23, ty24, ty65, ty99, ty130, ty3, ty4, ty5, rs33, d4, d5, d6, wB, gPick, gloadA m15 sz65 rfl]))
    rw [← hv]
    refine (c_reps N h5 p).mono ?_
    rintro _ h6 ⟨rfl, s6⟩
    by_cases c3' : ((B.length + 1 : Nat) : Int) < p.eps
    case neg =>
      have d7 : decide (((B.length + 1 : Nat) : Int) < p.eps) = false := decide_eq_false c3'
      refine mk_of ?_; repeat' (first | (with_reducible first | refine gw_seq ?_ | refine gw_block ?_) | ((first | (with_reducible refine mk_to ?_) | (with_reducible first | refine gw_region ?_ | refine gw_if ?_ | refine gw_skip ?_ | refine gw_exit ?_ | refine gw_ret ?_) | ((with_reducible first | refine gif_b (fun hb => ?_) (fun hb => ?_) | refine want_t (fun hb => ?_) (fun hb => ?_) | refine want_f (fun hb => ?_) (fun hb => ?_) | refine dr_t (fun hb => ?_) (fun hb => ?_) | refine dr_f (fun hb => ?_) (fun hb => ?_)) <;> (try simp only [hb]) <;> (try simp only [hpr] at hb)) | with_reducible refine gw_draw (id := 10) [(0, []), (1, []), (2, []), (3, []), (4, []), (5, []), (6, []), (7, []), (8, []), (9, []), (10, []), (11, []), (12, []), (13, []), (14, []), (15, []), (16, []), (17, []), (18, []), (19, [1, 3, 4, 6, 8, 10, 12, 13, 15, 17]), (20, [])] [0, 1, 0, 4, 12, 0, 32, 124, 255, 0, 512, 0, 2048, 6144, 0, 16384, 63488, 130560, 262143, 0, 1048575] mixed (by kernel_rfl) ?_) <;> try simp only [gop, gyield, gLenX, gNilM, gField, gIndexV, gPart, reduceIte, seval, Int.cast_ofNat_Int, stz, stp, isEff, sgl, sty, stq, Try.underlying130, ty22, ty23, ty24, ty65, ty99, ty130, ty3, ty4, ty5, rs33, d7, gPick, wi]))
      refine ⟨_, (i + 1, n5, a3, B.length, c3), ?_, (by simp only [List.forall_mem_cons, List.not_mem_nil, false_implies, implies_true, List.map, List.cons_append, List.nil_append, lk, Nat.reduceEqDiff, reduceIte, and_true, true_and]), rfl, by simp only; omega, s35.trans s6, hn5, B, ds, gB, by simp only; omega, (o3.hs s5).hs s6, sl3, fun e b hb => by
        obtain ⟨v, h1, h2⟩ := bt5 e b hb
        exact ⟨v, h1, h2.hs s6⟩⟩
      simp only
      omega
    have d7 : decide (((B.length + 1 : Nat) : Int) < p.eps) = true := decide_eq_true c3'
    refine mk_of ?_; repeat' (first | (with_reducible first | refine gw_seq ?_ | refine gw_block ?_) | ((first | (with_reducible refine mk_to ?_) | (with_reducible first | refine gw_region ?_ | refine gw_if ?_ | refine gw_skip ?_ | refine gw_exit ?_ | refine gw_ret ?_) | ((with_reducible first | refine gif_b (fun hb => ?_) (fun hb => ?_) | refine want_t (fun hb => ?_) (fun hb => ?_) | refine want_f (fun hb => ?_) (fun hb => ?_) | refine dr_t (fun hb => ?_) (fun hb => ?_) | refine dr_f (fun hb => ?_) (fun hb => ?_)) <;> (try simp only [hb]) <;> (try simp only [hpr] at hb)) | with_reducible refine gw_draw (id := 10) [(0, []), (1, []), (2, []), (3, []), (4, []), (5, []), (6, []), (7, []), (8, []), (9, []), (10, []), (11, []), (12, []), (13, []), (14, []), (15, []), (16, []), (17, []), (18, []), (19, [1, 3, 4, 6, 8, 10, 12, 13, 15, 17]), (20, [])] [0, 1, 0, 4, 12, 0, 32, 124, 255, 0, 512, 0, 2048, 6144, 0, 16384, 63488, 130560, 262143, 0, 1048575] mixed (by kernel_rfl) ?_) <;> try simp only [gop, gyield, gLenX, gNilM, gField, gIndexV, gPart, reduceIte, seval, Int.cast_ofNat_Int, stz, stp, isEff, sgl, sty, stq, Try.underlying130, ty22, ty23, ty24, ty65, ty99, ty130, ty3, ty4, ty5, rs33, d7, gPick]))
    refine bsn1_g el22 rfl rfl (by decide) (by decide) rfl fun k7 h7 b7 s7 f7 n7 => ?_
    have s57 := s6.trans s7
    refine mk_of ?_; repeat' (first | (with_reducible first | refine gw_seq ?_ | refine gw_block ?_) | ((first | (with_reducible refine mk_to ?_) | (with_reducible first | refine gw_region ?_ | refine gw_if ?_ | refine gw_skip ?_ | refine gw_exit ?_ | refine gw_ret ?_) | ((with_reducible first | refine gif_b (fun hb => ?_) (fun hb => ?_) | refine want_t (fun hb => ?_) (fun hb => ?_) | refine want_f (fun hb => ?_) (fun hb => ?_) | refine dr_t (fun hb => ?_) (fun hb => ?_) | refine dr_f (fun hb => ?_) (fun hb => ?_)) <;> (try simp only [hb]) <;> (try simp only [hpr] at hb)) | with_reducible refine gw_draw (id := 10) [(0, []), (1, []), (2, []), (3, []), (4, []), (5, []), (6, []), (7, []), (8, []), (9, []), (10, []), (11, []), (12, []), (13, []), (14, []), (15, []), (16, []), (17, []), (18, []), (19, [1, 3, 4, 6, 8, 10, 12, 13, 15, 17]), (20, [])] [0, 1, 0, 4, 12, 0, 32, 124, 255, 0, 512, 0, 2048, 6144, 0, 16384, 63488, 130560, 262143, 0, 1048575] mixed (by kernel_rfl) ?_) <;> try simp only [gop, gyield, gLenX, gNilM, gField, gIndexV, gPart, reduceIte, seval, Int.cast_ofNat_Int, stz, stp, isEff, sgl, sty, stq, Try.underlying130, ty22, ty23, ty24, ty65, ty99, ty130, ty3, ty4, ty5, rs33]))
    refine append_ownc el22 Try.underlying22 rfl (s35.trans s57) ((o3.hs s5).hs s57) b7 rfl rfl (by omega) (by simp only [maxLen]; omega) fun v8 h8 s8 fr8 o8 => ?_
    obtain ⟨a8, c8, rfl⟩ := o8.form
    refine mk_of ?_; repeat' (first | (with_reducible first | refine gw_seq ?_ | refine gw_block ?_) | ((first | (with_reducible refine mk_to ?_) | (with_reducible first | refine gw_region ?_ | refine gw_if ?_ | refine gw_skip ?_ | refine gw_exit ?_ | refine gw_ret ?_) | ((with_reducible first | refine gif_b (fun hb => ?_) (fun hb => ?_) | refine want_t (fun hb => ?_) (fun hb => ?_) | refine want_f (fun hb => ?_) (fun hb => ?_) | refine dr_t (fun hb => ?_) (fun hb => ?_) | refine dr_f (fun hb => ?_) (fun hb => ?_)) <;> (try simp only [hb]) <;> (try simp only [hpr] at hb)) | with_reducible refine gw_draw (id := 10) [(0, []), (1, []), (2, []), (3, []), (4, []), (5, []), (6, []), (7, []), (8, []), (9, []), (10, []), (11, []), (12, []), (13, []), (14, []), (15, []), (16, []), (17, []), (18, []), (19, [1, 3, 4, 6, 8, 10, 12, 13, 15, 17]), (20, [])] [0, 1, 0, 4, 12, 0, 32, 124, 255, 0, 512, 0, 2048, 6144, 0, 16384, 63488, 130560, 262143, 0, 1048575] mixed (by kernel_rfl) ?_) <;> try simp only [gop, gyield, gLenX, gNilM, gField, gIndexV, gPart, reduceIte, seval, Int.cast_ofNat_Int, stz, stp, isEff, sgl, sty, stq, Try.underlying130, ty22, ty23, ty24, ty65, ty99, ty130, ty3, ty4, ty5, rs33, wi]))
    have u8 := isSl_u8 sl3
    have by8 : ∀ {v : Value} {b : List Bnd}, Bat H0 h7 v b → Bat H0 h8 v b := fun {v b} q => q.by (fun v n cs o => OWNC.fr1 fr8 o) (fun v l r => fr_rb fr8 u8 r)
    have btw : Bat H0 h7 (.slice a5 w.length c5) w := ⟨es, (o5.weak (H0.hs _)).hs s57, fun q x hx => (bd5 q x hx).hs s57⟩
    have chw : chkB p w = 0 := chk_ok (fun e => c1 (by rw [e]; rfl)) (by omega) hwl ow
    have hBl : (B ++ [w]).length = B.length + 1 := by simp
    refine ⟨_, (i + 1, n5, a8, B.length + 1, c8), ?_, (by simp only [List.forall_mem_cons, List.not_mem_nil, false_implies, implies_true, List.map, List.cons_append, List.nil_append, lk, Nat.reduceEqDiff, reduceIte, and_true, true_and]), rfl, by simp only; omega, s8, hn5, B ++ [w], ds ++ [.slice a5 w.length c5], ⟨fun b hb => ?_, ?_, by rw [hBl]; omega, .inr (by rw [hBl]; omega)⟩, ?_, by rw [hBl]; exact o8, by rw [List.all_append, sl3]; rfl, fun e b hb => ?_⟩
    · simp only
      omega
    · rcases List.mem_append.1 hb with hb | hb
      · exact gB.each b hb
      · obtain rfl := List.mem_singleton.1 hb; exact chw
    · simp only [tot, List.map_append, List.sum_append, List.map_singleton, List.sum_singleton] at htB ⊢
      omega
    · simp only [tot, List.map_append, List.sum_append, List.map_singleton, List.sum_singleton] at htB ⊢
      omega
    · have hdl := o3.len
      rw [Nat.mul_one] at hdl
      rcases Nat.lt_or_ge e B.length with he | he
      · rw [List.getElem?_append_left he] at hb
        obtain ⟨v, h1, h2⟩ := bt5 e b hb
        exact ⟨v, by rw [List.getElem?_append_left (by omega)]; exact h1, by8 (h2.hs s57)⟩
      · rw [List.getElem?_append_right he] at hb
        have he0 : e - B.length = 0 := by have := (List.getElem?_eq_some_iff.1 hb).1; simp at this; omega
        rw [he0] at hb
        simp at hb
        subst hb
        exact ⟨_, by rw [List.getElem?_append_right (by omega), show e - ds.length = 0 by omega]; rfl, by8 btw⟩
  have d4 : decide ((t : Int) < (b.length : Int)) = true := decide_eq_true (by omega)
  have wt : IntKind.i64.wrap ((t : Int) + 1) = ((t + 1 : Nat) : Int) := by rw [wrap64 (by omega) (by omega)]; omega
  obtain ⟨y, hy⟩ : ∃ y, b[t]? = some y := ⟨_, List.getElem?_eq_getElem htb⟩
  obtain ⟨ad5, cs5, g5, g6, a6, n6, c6, b6, m6, d6', rfl, q1, q2⟩ := (rb.bs s5).at (P := Try.prog) Try.underlying23 sz99 hy
  have l5 : gLoad Try.prog 99 h5 (.pointer (some ad5)) = some (.agg #[.slice a6 n6 c6, .slice b6 m6 d6']) := by simp only [gLoad, sz99, g6]; rfl
  have hys := hbs y (List.mem_of_getElem? hy)
  have e1 := q1.len_eq
  have e2 := q2.len_eq
  subst e1
  subst e2
  refine mk_of ?_; repeat' (first | (with_reducible first | refine gw_seq ?_ | refine gw_block ?_) | ((first | (with_reducible refine mk_to ?_) | (with_reducible first | refine gw_region ?_ | refine gw_if ?_ | refine gw_skip ?_ | refine gw_exit ?_ | refine gw_ret ?_) | ((with_reducible first | refine gif_b (fun hb => ?_) (fun hb => ?_) | refine want_t (fun hb => ?_) (fun hb => ?_) | refine want_f (fun hb => ?_) (fun hb => ?_) | refine dr_t (fun hb => ?_) (fun hb => ?_) | refine dr_f (fun hb => ?_) (fun hb => ?_)) <;> (try simp only [hb]) <;> (try simp only [hpr] at hb)) | with_reducible refine gw_draw (id := 10) [(0, []), (1, []), (2, []), (3, []), (4, []), (5, []), (6, []), (7, []), (8, []), (9, []), (10, []), (11, []), (12, []), (13, []), (14, []), (15, []), (16, []), (17, []), (18, []), (19, [1, 3, 4, 6, 8, 10, 12, 13, 15, 17]), (20, [])] [0, 1, 0, 4, 12, 0, 32, 124, 255, 0, 512, 0, 2048, 6144, 0, 16384, 63488, 130560, 262143, 0, 1048575] mixed (by kernel_rfl) ?_) <;> try simp only [gop, gyield, gLenX, gNilM, gField, gIndexV, gPart, reduceIte, seval, Int.cast_ofNat_Int, stz, stp, isEff, sgl, sty, stq, Try.underlying130, ty22, ty23, ty24, ty65, ty99, ty130, ty3, ty4, ty5, rs33, d4, g5, l5]))
  refine new_g fun k7 h7 m7 s7 f7 n7 => ?_
  refine mk_of ?_; repeat' (first | (with_reducible first | refine gw_seq ?_ | refine gw_block ?_) | ((first | (with_reducible refine mk_to ?_) | (with_reducible first | refine gw_region ?_ | refine gw_if ?_ | refine gw_skip ?_ | refine gw_exit ?_ | refine gw_ret ?_) | ((with_reducible first | refine gif_b (fun hb => ?_) (fun hb => ?_) | refine want_t (fun hb => ?_) (fun hb => ?_) | refine want_f (fun hb => ?_) (fun hb => ?_) | refine dr_t (fun hb => ?_) (fun hb => ?_) | refine dr_f (fun hb => ?_) (fun hb => ?_)) <;> (try simp only [hb]) <;> (try simp only [hpr] at hb)) | with_reducible refine gw_draw (id := 10) [(0, []), (1, []), (2, []), (3, []), (4, []), (5, []), (6, []), (7, []), (8, []), (9, []), (10, []), (11, []), (12, []), (13, []), (14, []), (15, []), (16, []), (17, []), (18, []), (19, [1, 3, 4, 6, 8, 10, 12, 13, 15, 17]), (20, [])] [0, 1, 0, 4, 12, 0, 32, 124, 255, 0, 512, 0, 2048, 6144, 0, 16384, 63488, 130560, 262143, 0, 1048575] mixed (by kernel_rfl) ?_) <;> try simp only [gop, gyield, gLenX, gNilM, gField, gIndexV, gPart, reduceIte, seval, Int.cast_ofNat_Int, stz, stp, isEff, sgl, sty, stq, Try.underlying130, ty22, ty23, ty24, ty65, ty99, ty130, ty3, ty4, ty5, rs33]))
  refine st_all m7 sz99 rfl (by decide) rfl rfl rfl fun h8 m8 f8 => ?_
  have s8 : HS h5 h8 := (HS.refl h5).upd n7 (fun j hj => (f8 j hj).trans (f7 j hj))
  have m18 := s8 _ _ m15
  obtain ⟨gi1, gi2, gi3⟩ := gmin2 (y.1.length : Int) p.mi
  obtain ⟨gk1, gk2, gk3⟩ := gmin2 (y.2.length : Int) p.my
  have gi0 : 0 ≤ (if p.mi < (y.1.length : Int) then p.mi else (y.1.length : Int)) := by omega
  have gk0 : 0 ≤ (if p.my < (y.2.length : Int) then p.my else (y.2.length : Int)) := by omega
  generalize hgi : (if p.mi < (y.1.length : Int) then p.mi else (y.1.length : Int)) = vi at gi0 gi1 gi2 gi3
  generalize hgk : (if p.my < (y.2.length : Int) then p.my else (y.2.length : Int)) = vk at gk0 gk1 gk2 gk3
  obtain ⟨ai, ci, ei, ri, _⟩ := (q1.hs s8).cut (P := Try.prog) Try.underlying24 sz5 gi0 gi1 .i64
  obtain ⟨ak, ci2, ek, rk, _⟩ := (q2.hs s8).cut (P := Try.prog) Try.underlying24 sz5 gk0 gk1 .i64
  refine mk_of ?_; repeat' (first | (with_reducible first | refine gw_seq ?_ | refine gw_block ?_) | ((first | (with_reducible refine mk_to ?_) | (with_reducible first | refine gw_region ?_ | refine gw_if ?_ | refine gw_skip ?_ | refine gw_exit ?_ | refine gw_ret ?_) | ((with_reducible first | refine gif_b (fun hb => ?_) (fun hb => ?_) | refine want_t (fun hb => ?_) (fun hb => ?_) | refine want_f (fun hb => ?_) (fun hb => ?_) | refine dr_t (fun hb => ?_) (fun hb => ?_) | refine dr_f (fun hb => ?_) (fun hb => ?_)) <;> (try simp only [hb]) <;> (try simp only [hpr] at hb)) | with_reducible refine gw_draw (id := 10) [(0, []), (1, []), (2, []), (3, []), (4, []), (5, []), (6, []), (7, []), (8, []), (9, []), (10, []), (11, []), (12, []), (13, []), (14, []), (15, []), (16, []), (17, []), (18, []), (19, [1, 3, 4, 6, 8, 10, 12, 13, 15, 17]), (20, [])] [0, 1, 0, 4, 12, 0, 32, 124, 255, 0, 512, 0, 2048, 6144, 0, 16384, 63488, 130560, 262143, 0, 1048575] mixed (by kernel_rfl) ?_) <;> try simp only [gop, gyield, gLenX, gNilM, gField, gIndexV, gPart, reduceIte, seval, Int.cast_ofNat_Int, stz, stp, isEff, sgl, sty, stq, Try.underlying130, ty22, ty23, ty24, ty65, ty99, ty130, ty3, ty4, ty5, rs33, gload1 m8 sz24, gload1 m18 sz3, hgi, hgk, ei, ek, List.getElem?_cons_zero, List.getElem?_cons_succ, gBuild, lfill, lput, Shape.pl, List.all_cons, List.all_nil, isCell]))
  refine new_g fun k9 h9 m9 s9 f9 n9 => ?_
  have m19 := s9 _ _ m18
  have m89 := s9 _ _ m8
  have ei9 : gSlice Try.prog 24 h9 (.slice a6 y.1.length c6) none (some (.int .i64 vi)) none = some (.slice ai vi.toNat ci) := gSlice_any Try.underlying24 sz5 h8 h9 ei
  have ek9 : gSlice Try.prog 24 h9 (.slice b6 y.2.length d6') none (some (.int .i64 vk)) none = some (.slice ak vk.toNat ci2) := gSlice_any Try.underlying24 sz5 h8 h9 ek
  refine mk_of ?_; repeat' (first | (with_reducible first | refine gw_seq ?_ | refine gw_block ?_) | ((first | (with_reducible refine mk_to ?_) | (with_reducible first | refine gw_region ?_ | refine gw_if ?_ | refine gw_skip ?_ | refine gw_exit ?_ | refine gw_ret ?_) | ((with_reducible first | refine gif_b (fun hb => ?_) (fun hb => ?_) | refine want_t (fun hb => ?_) (fun hb => ?_) | refine want_f (fun hb => ?_) (fun hb => ?_) | refine dr_t (fun hb => ?_) (fun hb => ?_) | refine dr_f (fun hb => ?_) (fun hb => ?_)) <;> (try simp only [hb]) <;> (try simp only [hpr] at hb)) | with_reducible refine gw_draw (id := 10) [(0, []), (1, []), (2, []), (3, []), (4, []), (5, []), (6, []), (7, []), (8, []), (9, []), (10, []), (11, []), (12, []), (13, []), (14, []), (15, []), (16, []), (17, []), (18, []), (19, [1, 3, 4, 6, 8, 10, 12, 13, 15, 17]), (20, [])] [0, 1, 0, 4, 12, 0, 32, 124, 255, 0, 512, 0, 2048, 6144, 0, 16384, 63488, 130560, 262143, 0, 1048575] mixed (by kernel_rfl) ?_) <;> try simp only [gop, gyield, gLenX, gNilM, gField, gIndexV, gPart, reduceIte, seval, Int.cast_ofNat_Int, stz, stp, isEff, sgl, sty, stq, Try.underlying130, ty22, ty23, ty24, ty65, ty99, ty130, ty3, ty4, ty5, rs33, gload1 m89 sz24, gload1 m19 sz3, hgi, hgk, ei, ek, List.getElem?_cons_zero, List.getElem?_cons_succ, gBuild, lfill, lput, Shape.pl, List.all_cons, List.all_nil, isCell]))
  refine ⟨⟨ei9, ek9⟩, ?_⟩
  refine st_all m9 sz99 rfl (by decide) rfl rfl rfl fun h10 m10 f10 => ?_
  have s910 : HS h8 h10 := (HS.refl h8).upd n9 (fun j hj => (f10 j hj).trans (f9 j hj))
  have s510 : HS h5 h10 := s8.trans s910
  have m110 := s910 _ _ m18
  have ri' := ri.hs s910
  have rk' := rk.hs s910
  have m5w : m5 = w.length := by
    obtain ⟨_, _, q⟩ := o5.form
    cases q; rfl
  subst m5w
  have o10 := o5.hs s510
  have bd10 : ∀ (q : Nat) x, w[q]? = some x → Bd h10 ((es.drop (q * 2)).take 2) x := fun q x hx => (bd5 q x hx).hs s510
  have rl10 : RL 2 Bd h10 (.slice a5 w.length c5) w := o10.rl bd10
  refine mk_of ?_; repeat' (first | (with_reducible first | refine gw_seq ?_ | refine gw_block ?_) | ((first | (with_reducible refine mk_to ?_) | (with_reducible first | refine gw_region ?_ | refine gw_if ?_ | refine gw_skip ?_ | refine gw_exit ?_ | refine gw_ret ?_) | ((with_reducible first | refine gif_b (fun hb => ?_) (fun hb => ?_) | refine want_t (fun hb => ?_) (fun hb => ?_) | refine want_f (fun hb => ?_) (fun hb => ?_) | refine dr_t (fun hb => ?_) (fun hb => ?_) | refine dr_f (fun hb => ?_) (fun hb => ?_)) <;> (try simp only [hb]) <;> (try simp only [hpr] at hb)) | with_reducible refine gw_draw (id := 10) [(0, []), (1, []), (2, []), (3, []), (4, []), (5, []), (6, []), (7, []), (8, []), (9, []), (10, []), (11, []), (12, []), (13, []), (14, []), (15, []), (16, []), (17, []), (18, []), (19, [1, 3, 4, 6, 8, 10, 12, 13, 15, 17]), (20, [])] [0, 1, 0, 4, 12, 0, 32, 124, 255, 0, 512, 0, 2048, 6144, 0, 16384, 63488, 130560, 262143, 0, 1048575] mixed (by kernel_rfl) ?_) <;> try simp only [gop, gyield, gLenX, gNilM, gField, gIndexV, gPart, reduceIte, seval, Int.cast_ofNat_Int, stz, stp, isEff, sgl, sty, stq, Try.underlying130, ty22, ty23, ty24, ty65, ty99, ty130, ty3, ty4, ty5, rs33, List.map_toArray, List.map_cons, List.map_nil]))
  refine (c_cont N h10 rl10 (by omega) m10 ri').mono ?_
  rintro _ h11 ⟨rfl, s11⟩
  have m111 := s11 _ _ m110
  have s511 := s510.trans s11
  have rest : HS h3 h11 ∧ (n5 : Int) ≤ p.ch ∧ ∃ (w : List Bnd) (es : List Value), w.length ≤ 6 ∧ Once w ∧ (∀ x ∈ w, ¬ tooLong p x) ∧ n + w.length ≤ n5 ∧ OWNC 2 h3 h11 (.slice a5 w.length c5) w.length es ∧ es.all isSl = true ∧ ∀ (q : Nat) x, w[q]? = some x → Bd h11 ((es.drop (q * 2)).take 2) x :=
    ⟨s5.trans s511, hn5, w, es, hw6, ow, hwl, by omega, o5.hs s511, sl5, fun q x hx => (bd5 q x hx).hs s511⟩
  obtain ⟨r1, r2, w', es', r3⟩ := rest
  cases htw2 : (w.any fun z => y.1.take vi.toNat == z.1)
  case true =>
    refine mk_of ?_; repeat' (first | (with_reducible first | refine gw_seq ?_ | refine gw_block ?_) | ((first | (with_reducible refine mk_to ?_) | (with_reducible first | refine gw_region ?_ | refine gw_if ?_ | refine gw_skip ?_ | refine gw_exit ?_ | refine gw_ret ?_) | ((with_reducible first | refine gif_b (fun hb => ?_) (fun hb => ?_) | refine want_t (fun hb => ?_) (fun hb => ?_) | refine want_f (fun hb => ?_) (fun hb => ?_) | refine dr_t (fun hb => ?_) (fun hb => ?_) | refine dr_f (fun hb => ?_) (fun hb => ?_)) <;> (try simp only [hb]) <;> (try simp only [hpr] at hb)) | with_reducible refine gw_draw (id := 10) [(0, []), (1, []), (2, []), (3, []), (4, []), (5, []), (6, []), (7, []), (8, []), (9, []), (10, []), (11, []), (12, []), (13, []), (14, []), (15, []), (16, []), (17, []), (18, []), (19, [1, 3, 4, 6, 8, 10, 12, 13, 15, 17]), (20, [])] [0, 1, 0, 4, 12, 0, 32, 124, 255, 0, 512, 0, 2048, 6144, 0, 16384, 63488, 130560, 262143, 0, 1048575] mixed (by kernel_rfl) ?_) <;> try simp only [gop, gyield, gLenX, gNilM, gField, gIndexV, gPart, reduceIte, seval, Int.cast_ofNat_Int, stz, stp, isEff, sgl, sty, stq, Try.underlying130, ty22, ty23, ty24, ty65, ty99, ty130, ty3, ty4, ty5, rs33, Bool.not_true, gPick, wt]))
    refine ⟨_, (t + 1, n5, a5, w.length, c5), ?_, (by simp only [List.forall_mem_cons, List.not_mem_nil, false_implies, implies_true, List.map, List.cons_append, List.nil_append, lk, Nat.reduceEqDiff, reduceIte, and_true, true_and]), rfl, by simp only; omega, s5.trans s511, hn5, w, es, hw6, ow, hwl, by simp only; omega, o5.hs s511, sl5, fun q x hx => (bd5 q x hx).hs s511⟩
    simp only
    omega
  by_cases c1 : (w.length : Int) < 6
  case neg =>
    have d5 : decide ((w.length : Int) < 6) = false := decide_eq_false c1
    refine mk_of ?_; repeat' (first | (with_reducible first | refine gw_seq ?_ | refine gw_block ?_) | ((first | (with_reducible refine mk_to ?_) | (with_reducible first | refine gw_region ?_ | refine gw_if ?_ | refine gw_skip ?_ | refine gw_exit ?_ | refine gw_ret ?_) | ((with_reducible first | refine gif_b (fun hb => ?_) (fun hb => ?_) | refine want_t (fun hb => ?_) (fun hb => ?_) | refine want_f (fun hb => ?_) (fun hb => ?_) | refine dr_t (fun hb => ?_) (fun hb => ?_) | refine dr_f (fun hb => ?_) (fun hb => ?_)) <;> (try simp only [hb]) <;> (try simp only [hpr] at hb)) | with_reducible refine gw_draw (id := 10) [(0, []), (1, []), (2, []), (3, []), (4, []), (5, []), (6, []), (7, []), (8, []), (9, []), (10, []), (11, []), (12, []), (13, []), (14, []), (15, []), (16, []), (17, []), (18, []), (19, [1, 3, 4, 6, 8, 10, 12, 13, 15, 17]), (20, [])] [0, 1, 0, 4, 12, 0, 32, 124, 255, 0, 512, 0, 2048, 6144, 0, 16384, 63488, 130560, 262143, 0, 1048575] mixed (by kernel_rfl) ?_) <;> try simp only [gop, gyield, gLenX, gNilM, gField, gIndexV, gPart, reduceIte, seval, Int.cast_ofNat_Int, stz, stp, isEff, sgl, sty, stq, Try.underlying130, ty22, ty23, ty24, ty65, ty99, ty130, ty3, ty4, ty5, rs33, Bool.not_false, d5, gPick, wt]))
    refine ⟨_, (t + 1, n5, a5, w.length, c5), ?_, (by simp only [List.forall_mem_cons, List.not_mem_nil, false_implies, implies_true, List.map, List.cons_append, List.nil_append, lk, Nat.reduceEqDiff, reduceIte, and_true, true_and]), rfl, by simp only; omega, s5.trans s511, hn5, w, es, hw6, ow, hwl, by simp only; omega, o5.hs s511, sl5, fun q x hx => (bd5 q x hx).hs s511⟩
    simp only
    omega
  have d5 : decide ((w.length : Int) < 6) = true := decide_eq_true c1
  by_cases c2 : (n5 : Int) < p.ch
  case neg =>
    have d6 : decide ((n5 : Int) < p.ch) = false := decide_eq_false c2
    refine mk_of ?_; repeat' (first | (with_reducible first | refine gw_seq ?_ | refine gw_block ?_) | ((first | (with_reducible refine mk_to ?_) | (with_reducible first | refine gw_region ?_ | refine gw_if ?_ | refine gw_skip ?_ | refine gw_exit ?_ | refine gw_ret ?_) | ((with_reducible first | refine gif_b (fun hb => ?_) (fun hb => ?_) | refine want_t (fun hb => ?_) (fun hb => ?_) | refine want_f (fun hb => ?_) (fun hb => ?_) | refine dr_t (fun hb => ?_) (fun hb => ?_) | refine dr_f (fun hb => ?_) (fun hb => ?_)) <;> (try simp only [hb]) <;> (try simp only [hpr] at hb)) | with_reducible refine gw_draw (id := 10) [(0, []), (1, []), (2, []), (3, []), (4, []), (5, []), (6, []), (7, []), (8, []), (9, []), (10, []), (11, []), (12, []), (13, []), (14, []), (15, []), (16, []), (17, []), (18, []), (19, [1, 3, 4, 6, 8, 10, 12, 13, 15, 17]), (20, [])] [0, 1, 0, 4, 12, 0, 32, 124, 255, 0, 512, 0, 2048, 6144, 0, 16384, 63488, 130560, 262143, 0, 1048575] mixed (by kernel_rfl) ?_) <;> try simp only [gop, gyield, gLenX, gNilM, gField, gIndexV, gPart, reduceIte, seval, Int.cast_ofNat_Int, stz, stp, isEff, sgl, sty, stq, Try.underlying130, ty22, ty23, ty24, ty65, ty99, ty130, ty3, ty4, ty5, rs33, Bool.not_false, d5, d6, gload1 m111 sz3, gPick, wt, List.getElem?_cons_zero, List.getElem?_cons_succ]))
    refine ⟨_, (t + 1, n5, a5, w.length, c5), ?_, (by simp only [List.forall_mem_cons, List.not_mem_nil, false_implies, implies_true, List.map, List.cons_append, List.nil_append, lk, Nat.reduceEqDiff, reduceIte, and_true, true_and]), rfl, by simp only; omega, s5.trans s511, hn5, w, es, hw6, ow, hwl, by simp only; omega, o5.hs s511, sl5, fun q x hx => (bd5 q x hx).hs s511⟩
    simp only
    omega
  have d6 : decide ((n5 : Int) < p.ch) = true := decide_eq_true c2
  have wn : IntKind.i64.wrap ((n5 : Int) + 1) = ((n5 + 1 : Nat) : Int) := by rw [wrap64 (by omega) (by omega)]; omega
  have m1011 := s11 _ _ m10
  refine mk_of ?_; repeat' (first | (with_reducible first | refine gw_seq ?_ | refine gw_block ?_) | ((first | (with_reducible refine mk_to ?_) | (with_reducible first | refine gw_region ?_ | refine gw_if ?_ | refine gw_skip ?_ | refine gw_exit ?_ | refine gw_ret ?_) | ((with_reducible first | refine gif_b (fun hb => ?_) (fun hb => ?_) | refine want_t (fun hb => ?_) (fun hb => ?_) | refine want_f (fun hb => ?_) (fun hb => ?_) | refine dr_t (fun hb => ?_) (fun hb => ?_) | refine dr_f (fun hb => ?_) (fun hb => ?_)) <;> (try simp only [hb]) <;> (try simp only [hpr] at hb)) | with_reducible refine gw_draw (id := 10) [(0, []), (1, []), (2, []), (3, []), (4, []), (5, []), (6, []), (7, []), (8, []), (9, []), (10, []), (11, []), (12, []), (13, []), (14, []), (15, []), (16, []), (17, []), (18, []), (19, [1, 3, 4, 6, 8, 10, 12, 13, 15, 17]), (20, [])] [0, 1, 0, 4, 12, 0, 32, 124, 255, 0, 512, 0, 2048, 6144, 0, 16384, 63488, 130560, 262143, 0, 1048575] mixed (by kernel_rfl) ?_) <;> try simp only [gop, gyield, gLenX, gNilM, gField, gIndexV, gPart, reduceIte, seval, Int.cast_ofNat_Int, stz, stp, isEff, sgl, sty, stq, Try.underlying130, ty22, ty23, ty24, ty65, ty99, ty130, ty3, ty4, ty5, rs33, Bool.not_false, d5, d6, gload1 m111 sz3, gPick, gloadA m1011 sz99 rfl, List.getElem?_cons_zero, List.getElem?_cons_succ]))
  refine bsn1_g el23 rfl rfl (by decide) (by decide) rfl fun k12 h12 b12 s12 f12 n12 => ?_
  have s512 := s511.trans s12
  refine mk_of ?_; repeat' (first | (with_reducible first | refine gw_seq ?_ | refine gw_block ?_) | ((first | (with_reducible refine mk_to ?_) | (with_reducible first | refine gw_region ?_ | refine gw_if ?_ | refine gw_skip ?_ | refine gw_exit ?_ | refine gw_ret ?_) | ((with_reducible first | refine gif_b (fun hb => ?_) (fun hb => ?_) | refine want_t (fun hb => ?_) (fun hb => ?_) | refine want_f (fun hb => ?_) (fun hb => ?_) | refine dr_t (fun hb => ?_) (fun hb => ?_) | refine dr_f (fun hb => ?_) (fun hb => ?_)) <;> (try simp only [hb]) <;> (try simp only [hpr] at hb)) | with_reducible refine gw_draw (id := 10) [(0, []), (1, []), (2, []), (3, []), (4, []), (5, []), (6, []), (7, []), (8, []), (9, []), (10, []), (11, []), (12, []), (13, []), (14, []), (15, []), (16, []), (17, []), (18, []), (19, [1, 3, 4, 6, 8, 10, 12, 13, 15, 17]), (20, [])] [0, 1, 0, 4, 12, 0, 32, 124, 255, 0, 512, 0, 2048, 6144, 0, 16384, 63488, 130560, 262143, 0, 1048575] mixed (by kernel_rfl) ?_) <;> try simp only [gop, gyield, gLenX, gNilM, gField, gIndexV, gPart, reduceIte, seval, Int.cast_ofNat_Int, stz, stp, isEff, sgl, sty, stq, Try.underlying130, ty22, ty23, ty24, ty65, ty99, ty130, ty3, ty4, ty5, rs33]))
  refine append_ownc el23 Try.underlying23 rfl (s5.trans s512) (o5.hs s512) b12 rfl rfl (by omega) (by simp only [maxLen]; omega) fun v13 h13 s13' fr13 o13 => ?_
  obtain ⟨a13, c13, rfl⟩ := o13.form
  have u5 := isSl_u8 sl5
  have keep : ∀ {q : List Value} {ee : Bnd}, Bd h12 q ee → Bd h13 q ee := fun {q ee} w => by
    obtain ⟨a, n, c, b, m, d, e, r1, r2⟩ := w
    exact ⟨a, n, c, b, m, d, e, fr_rb fr13 u5 r1, fr_rb fr13 u5 r2⟩
  refine mk_of ?_; repeat' (first | (with_reducible first | refine gw_seq ?_ | refine gw_block ?_) | ((first | (with_reducible refine mk_to ?_) | (with_reducible first | refine gw_region ?_ | refine gw_if ?_ | refine gw_skip ?_ | refine gw_exit ?_ | refine gw_ret ?_) | ((with_reducible first | refine gif_b (fun hb => ?_) (fun hb => ?_) | refine want_t (fun hb => ?_) (fun hb => ?_) | refine want_f (fun hb => ?_) (fun hb => ?_) | refine dr_t (fun hb => ?_) (fun hb => ?_) | refine dr_f (fun hb => ?_) (fun hb => ?_)) <;> (try simp only [hb]) <;> (try simp only [hpr] at hb)) | with_reducible refine gw_draw (id := 10) [(0, []), (1, []), (2, []), (3, []), (4, []), (5, []), (6, []), (7, []), (8, []), (9, []), (10, []), (11, []), (12, []), (13, []), (14, []), (15, []), (16, []), (17, []), (18, []), (19, [1, 3, 4, 6, 8, 10, 12, 13, 15, 17]), (20, [])] [0, 1, 0, 4, 12, 0, 32, 124, 255, 0, 512, 0, 2048, 6144, 0, 16384, 63488, 130560, 262143, 0, 1048575] mixed (by kernel_rfl) ?_) <;> try simp only [gop, gyield, gLenX, gNilM, gField, gIndexV, gPart, reduceIte, seval, Int.cast_ofNat_Int, stz, stp, isEff, sgl, sty, stq, Try.underlying130, ty22, ty23, ty24, ty65, ty99, ty130, ty3, ty4, ty5, rs33, wn, wt]))
  have s1012 := s11.trans s12
  have li : (y.1.take vi.toNat).length = vi.toNat := by rw [List.length_take]; omega
  have lk' : (y.2.take vk.toNat).length = vk.toNat := by rw [List.length_take]; omega
  have newb : Bd h12 [.slice ai vi.toNat ci, .slice ak vk.toNat ci2] (y.1.take vi.toNat, y.2.take vk.toNat) := ⟨_, _, _, _, _, _, rfl, ri'.hs s1012, rk'.hs s1012⟩
  have hwl' : (w ++ [(y.1.take vi.toNat, y.2.take vk.toNat)]).length = w.length + 1 := by simp
  refine ⟨_, (t + 1, n5 + 1, a13, w.length + 1, c13), ?_, (by simp only [List.forall_mem_cons, List.not_mem_nil, false_implies, implies_true, List.map, List.cons_append, List.nil_append, lk, Nat.reduceEqDiff, reduceIte, and_true, true_and]), rfl, by simp only; omega, s13', by simp only; omega, w ++ [(y.1.take vi.toNat, y.2.take vk.toNat)], es ++ [.slice ai vi.toNat ci, .slice ak vk.toNat ci2], by rw [hwl']; omega, ?_, fun x hx => ?_, by rw [hwl']; simp only; omega, by rw [hwl']; exact o13, by rw [List.all_append, sl5]; rfl, app_el (R := Bd h13) o5.len rfl (fun q x hx => keep ((bd5 q x hx).hs s512)) (keep newb)⟩
  · simp only
    omega
  · unfold Once
    rw [List.map_append, List.map_singleton, List.nodup_append]
    refine ⟨ow, by simp, fun u hu v hv e => ?_⟩
    obtain rfl := List.mem_singleton.1 hv
    obtain ⟨z, hz, rfl⟩ := List.mem_map.1 hu
    rw [List.any_eq_false] at htw2
    have := htw2 z hz
    simp only [e, beq_self_eq_true, not_true_eq_false] at this
  · rcases List.mem_append.1 hx with hx | hx
    · exact hwl x hx
    · obtain rfl := List.mem_singleton.1 hx
      unfold tooLong
      simp only [li, lk']
      omega
end Go.Gh

/- Ideal: entries; a map of entries. -/

namespace Go.Gh
open Go Go.Proofs Go.RowKit
set_option linter.unusedVariables false
set_option linter.unusedSimpArgs false
set_option maxRecDepth 100000
set_option maxHeartbeats 4000000

/-- The first i entries. -/
def ent (B : List (List Bnd)) (i : Nat) : List (Int × List Bnd) := (List.range i).map fun k => (((10 * (k + 1) : Nat) : Int), (B[k]?).getD [])
theorem ent_succ (B : List (List Bnd)) {i : Nat} {b : List Bnd} (hb : B[i]? = some b) : ent B (i + 1) = ent B i ++ [(((10 * (i + 1) : Nat) : Int), b)] := by
  unfold ent
  rw [List.range_succ, List.map_append, List.map_singleton, hb]; rfl
theorem ent_len (B : List (List Bnd)) (i : Nat) : (ent B i).length = i := by simp [ent]
theorem ent_get {B : List (List Bnd)} {n i : Nat} {b : List Bnd} (hi : i < n) (hb : B[i]? = some b) : (ent B n)[i]? = some (((10 * (i + 1) : Nat) : Int), b) := by
  simp [ent, hi, hb]
/-- An entry in memory. -/
def En (h : GH) (cs : List Value) (x : Int × List Bnd) : Prop := ∃ a c, cs = [.int .i64 x.1, .slice a x.2.length c] ∧ RL 2 Bd h (.slice a x.2.length c) x.2
theorem En.hs {h h' : GH} (s : HS h h') {cs : List Value} {x : Int × List Bnd} (r : En h cs x) : En h' cs x := by
  obtain ⟨a, c, e, r⟩ := r
  exact ⟨a, c, e, r.bs s⟩
theorem c_Entries (N : Nat) (h : GH) {v : Value} {B : List (List Bnd)} (rl : RL 1 Bl h v B) (hB : B.length ≤ 1000) : GTri Try.prog N 66 [v] h fun v h' => RL 2 En h' v (ent B B.length) ∧ HS h h' := by
  obtain ⟨a, c, rfl, _⟩ := rl.form
  refine gtri Try.func66 rfl gf66 ok66 (by simp [Try.ntmps66]) ?_
  repeat' (first | (with_reducible first | refine gw_seq ?_ | refine gw_block ?_) | ((first | (with_reducible first | refine gw_region ?_ | refine gw_if ?_ | refine gw_skip ?_ | refine gw_exit ?_ | refine gw_ret ?_) | ((with_reducible first | refine gif_b (fun hb => ?_) (fun hb => ?_) | refine want_t (fun hb => ?_) (fun hb => ?_) | refine want_f (fun hb => ?_) (fun hb => ?_)) <;> (try simp only [hb]) <;> (try simp only [hpr] at hb))) <;> try simp only [gop, gyield, gLenX, gNilM, gField, gIndexV, gPart, reduceIte, seval, Int.cast_ofNat_Int, stz, stp, ty124, ty22, ty23, ty148, ty99, ty3, rs66]))
  refine gw_loop2 [2, 6, 7] (fun (y : Nat × (Option Addr × Nat × Nat)) => [(3, .slice y.2.1 y.2.2.1 y.2.2.2), (8, .int .i64 (y.1 : Int))])
    (fun q y h' => B.length - y.1 = q ∧ y.1 ≤ B.length ∧ HS h h' ∧ ∃ ds, OWNC 2 h h' (.slice y.2.1 y.2.2.1 y.2.2.2) (ent B y.1).length ds ∧ ∀ (q : Nat) x, (ent B y.1)[q]? = some x → ∃ a c, (ds.drop (q * 2)).take 2 = [.int .i64 x.1, .slice a x.2.length c] ∧ RL 2 Bd h (.slice a x.2.length c) x.2) B.length (0, (none, 0, 0)) (by simp [lk])
    ⟨rfl, by simp, HS.refl _, [], OWNC.nil _ _ _, fun q x hx => by simp [ent] at hx⟩ ?_
  rintro _ ⟨i, a3, n3, c3⟩ h3 ⟨rfl, hi, s3, ds, o3, r3⟩
  simp only at hi o3 r3
  by_cases hib : i < B.length
  case neg =>
    obtain rfl : i = B.length := by omega
    have d3 : decide ((B.length : Int) < (B.length : Int)) = false := decide_eq_false (by omega)
    refine mk_of ?_; repeat' (first | (with_reducible first | refine gw_seq ?_ | refine gw_block ?_) | ((first | (with_reducible refine mk_to ?_) | (with_reducible first | refine gw_region ?_ | refine gw_if ?_ | refine gw_skip ?_ | refine gw_exit ?_ | refine gw_ret ?_) | ((with_reducible first | refine gif_b (fun hb => ?_) (fun hb => ?_) | refine want_t (fun hb => ?_) (fun hb => ?_) | refine want_f (fun hb => ?_) (fun hb => ?_)) <;> (try simp only [hb]) <;> (try simp only [hpr] at hb))) <;> try simp only [gop, gyield, gLenX, gNilM, gField, gIndexV, gPart, reduceIte, seval, Int.cast_ofNat_Int, stz, stp, ty124, ty22, ty23, ty148, ty99, ty3, rs66, d3]))
    refine ⟨o3.rl fun q x hx => ?_, s3⟩
    obtain ⟨a, c, e, r⟩ := r3 q x hx
    exact ⟨a, c, e, r.bs s3⟩
  have d3 : decide ((i : Int) < (B.length : Int)) = true := decide_eq_true (by omega)
  have wi : IntKind.i64.wrap ((i : Int) + 1) = ((i + 1 : Nat) : Int) := by rw [wrap64 (by omega) (by omega)]; omega
  have w10 : IntKind.i64.wrap (10 * ((i + 1 : Nat) : Int)) = ((10 * (i + 1) : Nat) : Int) := by rw [wrap64 (by omega) (by omega)]; omega
  obtain ⟨b, hb⟩ : ∃ b, B[i]? = some b := ⟨_, List.getElem?_eq_getElem hib⟩
  obtain ⟨ad, cs2, g1, g2, a4, c4, rfl, rb⟩ := rl.at (P := Try.prog) Try.underlying22 sz23 hb
  have l1 : gLoad Try.prog 23 h3 (.pointer (some ad)) = some (.slice a4 b.length c4) := by simp only [gLoad, sz23, gread_hc s3.hc g2]; rfl
  refine mk_of ?_; repeat' (first | (with_reducible first | refine gw_seq ?_ | refine gw_block ?_) | ((first | (with_reducible refine mk_to ?_) | (with_reducible first | refine gw_region ?_ | refine gw_if ?_ | refine gw_skip ?_ | refine gw_exit ?_ | refine gw_ret ?_) | ((with_reducible first | refine gif_b (fun hb => ?_) (fun hb => ?_) | refine want_t (fun hb => ?_) (fun hb => ?_) | refine want_f (fun hb => ?_) (fun hb => ?_)) <;> (try simp only [hb]) <;> (try simp only [hpr] at hb))) <;> try simp only [gop, gyield, gLenX, gNilM, gField, gIndexV, gPart, reduceIte, seval, Int.cast_ofNat_Int, stz, stp, ty124, ty22, ty23, ty148, ty99, ty3, rs66, d3, g1, l1, wi, w10, gBuild, lfill, lput, Shape.pl, List.all_cons, List.all_nil, isCell]))
  refine bsn1_g el124 rfl rfl (by decide) (by decide) rfl fun k5 h5 b5 s5 f5 n5 => ?_
  refine mk_of ?_; repeat' (first | (with_reducible first | refine gw_seq ?_ | refine gw_block ?_) | ((first | (with_reducible refine mk_to ?_) | (with_reducible first | refine gw_region ?_ | refine gw_if ?_ | refine gw_skip ?_ | refine gw_exit ?_ | refine gw_ret ?_) | ((with_reducible first | refine gif_b (fun hb => ?_) (fun hb => ?_) | refine want_t (fun hb => ?_) (fun hb => ?_) | refine want_f (fun hb => ?_) (fun hb => ?_)) <;> (try simp only [hb]) <;> (try simp only [hpr] at hb))) <;> try simp only [gop, gyield, gLenX, gNilM, gField, gIndexV, gPart, reduceIte, seval, Int.cast_ofNat_Int, stz, stp, ty124, ty22, ty23, ty148, ty99, ty3, rs66]))
  have hl := ent_len B i
  have hds := o3.len
  refine append_ownc el124 Try.underlying124 rfl (s3.trans s5) (o3.hs s5) b5 rfl rfl (by omega) (by simp only [maxLen]; omega) fun v6 h6 s6 fr6 o6 => ?_
  obtain ⟨a6, c6, rfl⟩ := o6.form
  refine mk_of ?_; repeat' (first | (with_reducible first | refine gw_seq ?_ | refine gw_block ?_) | ((first | (with_reducible refine mk_to ?_) | (with_reducible first | refine gw_region ?_ | refine gw_if ?_ | refine gw_skip ?_ | refine gw_exit ?_ | refine gw_ret ?_) | ((with_reducible first | refine gif_b (fun hb => ?_) (fun hb => ?_) | refine want_t (fun hb => ?_) (fun hb => ?_) | refine want_f (fun hb => ?_) (fun hb => ?_)) <;> (try simp only [hb]) <;> (try simp only [hpr] at hb))) <;> try simp only [gop, gyield, gLenX, gNilM, gField, gIndexV, gPart, reduceIte, seval, Int.cast_ofNat_Int, stz, stp, ty124, ty22, ty23, ty148, ty99, ty3, rs66, wi]))
  have he := ent_succ B hb
  refine ⟨_, (i + 1, a6, (ent B i).length + 1, c6), ?_, (by simp only [List.forall_mem_cons, List.not_mem_nil, false_implies, implies_true, List.map, List.cons_append, List.nil_append, lk, Nat.reduceEqDiff, reduceIte, and_true, true_and]), rfl, by simp only; omega, s6, _, by rw [he, List.length_append]; exact o6, ?_⟩
  · simp only
    omega
  · simp only [he]
    exact app_el (R := fun cs (x : Int × List Bnd) => ∃ a c, cs = [.int .i64 x.1, .slice a x.2.length c] ∧ RL 2 Bd h (.slice a x.2.length c) x.2) hds rfl r3 ⟨a4, c4, rfl, rb⟩

theorem IS.setck {h0 h h' : GH} {k j : Nat} {p : Pm} {ew : Value} {cs l : List Value} {M : List (Int × List Bnd)} {ck ck' : Int} {n : Nat} {S : List UInt8 → List (Nat × Nat)} (x : IS h0 h k j p ew cs l M ck n S)
    (m : h' k = some ⟨[.int .i64 p.s, .int .i64 p.ht, .int .i64 p.mi, .int .i64 p.my, .int .i64 p.ch, .int .i64 p.ar, .int .i64 p.ca, .int .i64 p.pg, ew, .int .i64 ck', .int .i64 (n : Int), .map (some j)], 0, true, false⟩) (f : ∀ i, i ≠ k → h' i = h i) (hc : ck ≤ ck') : IS h0 h' k j p ew cs l M ck' n S := by
  have kj : k ≠ j + 1 := fun e => by have h1 := x.obj; rw [e, x.mp] at h1; cases h1
  obtain ⟨ae, ce, ee⟩ := x.ep.form
  have mf : MF h h' := MF.upd x.obj rfl (by rw [ee]; rfl) f
  exact ⟨m, x.nk, (f _ (Ne.symm kj)).trans x.mp, x.nj, x.ok, x.u8, x.ep.hx x.obj (by simp) (fun i B q e => (f i q).trans e), fun e b hb => by obtain ⟨v, h1, h2⟩ := x.eps e b hb; exact ⟨v, h1, h2.mf mf⟩, fun id => (x.sp id).mf1 mf, x.cu8, x.bl, x.len, x.tt, x.nch, x.may, x.ks.1, x.ks.2.1, x.ks.2.2.1, x.ks.2.2.2.1, fun y hy => Int.le_trans (x.ks.2.2.2.2 y hy) hc⟩
theorem tot_take (B : List (List Bnd)) (i : Nat) : tot (B.take i) ≤ tot B := by
  have : tot B = tot (B.take i) + tot (B.drop i) := by
    conv => lhs; rw [← List.take_append_drop i B]
    simp only [tot, List.map_append, List.sum_append]
  omega
theorem c_Of (N : Nat) (h : GH) (p : Pm) (hck : p.check = 0) (hm : p.may = true) {a : Option Addr} {c : Nat} {B : List (List Bnd)} {most : Int} (gB : Good p most B) (hB : B.length ≤ 1000) (rl : RL 2 En h (.slice a B.length c) (ent B B.length)) :
    GTri Try.prog N 67 [p.v, .slice a B.length c] h fun v h' => (∃ k j ew cs l ck, v = .tuple #[.pointer (some ⟨k, 0, none⟩), .int .i64 0] ∧ h k = none ∧ IM h h' k j p ew cs l ((0, []) :: ent B B.length) ck (tot B)) ∧ HS h h' := by
  have hmay := p.may_iff.1 hm
  have hv : p.v = .agg #[.int .i64 p.s, .int .i64 p.ht, .int .i64 p.mi, .int .i64 p.my, .int .i64 p.ch, .int .i64 p.ar, .int .i64 p.ca, .int .i64 p.pg] := rfl
  rw [hv]
  refine gtri Try.func67 rfl gf67 ok67 (by simp [Try.ntmps67]) ?_
  repeat' (first | (with_reducible first | refine gw_seq ?_ | refine gw_block ?_) | ((first | (with_reducible first | refine gw_region ?_ | refine gw_if ?_ | refine gw_skip ?_ | refine gw_exit ?_ | refine gw_ret ?_) | ((with_reducible first | refine gif_b (fun hb => ?_) (fun hb => ?_) | refine want_t (fun hb => ?_) (fun hb => ?_) | refine want_f (fun hb => ?_) (fun hb => ?_) | refine dr_t (fun hb => ?_) (fun hb => ?_) | refine dr_f (fun hb => ?_) (fun hb => ?_)) <;> (try simp only [hb]) <;> (try simp only [hpr] at hb)) | with_reducible refine gw_draw (id := 7) [(0, []), (1, []), (2, []), (3, []), (4, []), (5, []), (6, []), (7, []), (8, []), (9, []), (10, []), (11, [])] [0, 1, 0, 4, 12, 28, 63, 127, 255, 511, 1023, 2047] mixed (by kernel_rfl) ?_ | with_reducible refine gw_draw (id := 12) [(0, []), (1, []), (2, []), (3, [])] [0, 1, 0, 7] mixed (by kernel_rfl) ?_) <;> try simp only [gop, gyield, gLenX, gNilM, gField, gIndexV, gPart, reduceIte, seval, Int.cast_ofNat_Int, stz, stp, isEff, sgl, sty, stq, Try.underlying89, ty124, ty23, ty24, ty36, ty68, ty88, ty148, ty62, ty65, ty70, ty91, ty99, ty29, ty3, ty4, ty63, ty89, rs67]))
  refine box_g rfl fun k1 h1 m1 s1 f1 n1 => ?_
  refine mk_of ?_; repeat' (first | (with_reducible first | refine gw_seq ?_ | refine gw_block ?_) | ((first | (with_reducible refine mk_to ?_) | (with_reducible first | refine gw_region ?_ | refine gw_if ?_ | refine gw_skip ?_ | refine gw_exit ?_ | refine gw_ret ?_) | ((with_reducible first | refine gif_b (fun hb => ?_) (fun hb => ?_) | refine want_t (fun hb => ?_) (fun hb => ?_) | refine want_f (fun hb => ?_) (fun hb => ?_) | refine dr_t (fun hb => ?_) (fun hb => ?_) | refine dr_f (fun hb => ?_) (fun hb => ?_)) <;> (try simp only [hb]) <;> (try simp only [hpr] at hb)) | with_reducible refine gw_draw (id := 7) [(0, []), (1, []), (2, []), (3, []), (4, []), (5, []), (6, []), (7, []), (8, []), (9, []), (10, []), (11, [])] [0, 1, 0, 4, 12, 28, 63, 127, 255, 511, 1023, 2047] mixed (by kernel_rfl) ?_ | with_reducible refine gw_draw (id := 12) [(0, []), (1, []), (2, []), (3, [])] [0, 1, 0, 7] mixed (by kernel_rfl) ?_) <;> try simp only [gop, gyield, gLenX, gNilM, gField, gIndexV, gPart, reduceIte, seval, Int.cast_ofNat_Int, stz, stp, isEff, sgl, sty, stq, Try.underlying89, ty124, ty23, ty24, ty36, ty68, ty88, ty148, ty62, ty65, ty70, ty91, ty99, ty29, ty3, ty4, ty63, ty89, rs67, gloadA m1 sz65 rfl]))
  rw [← hv]
  refine (c_iNew N s1 p).mono ?_
  rintro _ h2 ⟨r2, s2⟩
  rcases r2 with ⟨q, _⟩ | ⟨_, k, j, ew, cs, rfl, hk, x2⟩
  · exact absurd hck q
  have s12 := s1.trans s2
  have z : ((0 : Int) != 0) = false := rfl
  refine mk_of ?_; repeat' (first | (with_reducible first | refine gw_seq ?_ | refine gw_block ?_) | ((first | (with_reducible refine mk_to ?_) | (with_reducible first | refine gw_region ?_ | refine gw_if ?_ | refine gw_skip ?_ | refine gw_exit ?_ | refine gw_ret ?_) | ((with_reducible first | refine gif_b (fun hb => ?_) (fun hb => ?_) | refine want_t (fun hb => ?_) (fun hb => ?_) | refine want_f (fun hb => ?_) (fun hb => ?_) | refine dr_t (fun hb => ?_) (fun hb => ?_) | refine dr_f (fun hb => ?_) (fun hb => ?_)) <;> (try simp only [hb]) <;> (try simp only [hpr] at hb)) | with_reducible refine gw_draw (id := 7) [(0, []), (1, []), (2, []), (3, []), (4, []), (5, []), (6, []), (7, []), (8, []), (9, []), (10, []), (11, [])] [0, 1, 0, 4, 12, 28, 63, 127, 255, 511, 1023, 2047] mixed (by kernel_rfl) ?_ | with_reducible refine gw_draw (id := 12) [(0, []), (1, []), (2, []), (3, [])] [0, 1, 0, 7] mixed (by kernel_rfl) ?_) <;> try simp only [gop, gyield, gLenX, gNilM, gField, gIndexV, gPart, reduceIte, seval, Int.cast_ofNat_Int, stz, stp, isEff, sgl, sty, stq, Try.underlying89, ty124, ty23, ty24, ty36, ty68, ty88, ty148, ty62, ty65, ty70, ty91, ty99, ty29, ty3, ty4, ty63, ty89, rs67, z]))
  refine gw_loop2 [6, 19, 20] (fun (i : Nat) => [(21, .int .i64 (i : Int))]) (fun q i h' => B.length - i = q ∧ i ≤ B.length ∧ HS h h' ∧ ∃ ew cs l, IM h h' k j p ew cs l ((0, []) :: ent B i) ((10 * i : Nat) : Int) (tot (B.take i))) B.length 0 (by simp [lk])
    ⟨rfl, by omega, s12, ew, cs, [], by simpa [ent, tot] using x2⟩ ?_
  rintro _ i h3 ⟨rfl, hi, s3, ew3, cs3, l3, x3⟩
  by_cases hib : i < B.length
  case neg =>
    obtain rfl : i = B.length := by omega
    have d3 : decide ((B.length : Int) < (B.length : Int)) = false := decide_eq_false (by omega)
    refine mk_of ?_; repeat' (first | (with_reducible first | refine gw_seq ?_ | refine gw_block ?_) | ((first | (with_reducible refine mk_to ?_) | (with_reducible first | refine gw_region ?_ | refine gw_if ?_ | refine gw_skip ?_ | refine gw_exit ?_ | refine gw_ret ?_) | ((with_reducible first | refine gif_b (fun hb => ?_) (fun hb => ?_) | refine want_t (fun hb => ?_) (fun hb => ?_) | refine want_f (fun hb => ?_) (fun hb => ?_) | refine dr_t (fun hb => ?_) (fun hb => ?_) | refine dr_f (fun hb => ?_) (fun hb => ?_)) <;> (try simp only [hb]) <;> (try simp only [hpr] at hb)) | with_reducible refine gw_draw (id := 7) [(0, []), (1, []), (2, []), (3, []), (4, []), (5, []), (6, []), (7, []), (8, []), (9, []), (10, []), (11, [])] [0, 1, 0, 4, 12, 28, 63, 127, 255, 511, 1023, 2047] mixed (by kernel_rfl) ?_ | with_reducible refine gw_draw (id := 12) [(0, []), (1, []), (2, []), (3, [])] [0, 1, 0, 7] mixed (by kernel_rfl) ?_) <;> try simp only [gop, gyield, gLenX, gNilM, gField, gIndexV, gPart, reduceIte, seval, Int.cast_ofNat_Int, stz, stp, isEff, sgl, sty, stq, Try.underlying89, ty124, ty23, ty24, ty36, ty68, ty88, ty148, ty62, ty65, ty70, ty91, ty99, ty29, ty3, ty4, ty63, ty89, rs67, d3]))
    rw [List.take_length] at x3
    exact ⟨⟨k, j, _, _, _, _, rfl, s1.none_of hk, x3⟩, s3⟩
  have d3 : decide ((i : Int) < (B.length : Int)) = true := decide_eq_true (by omega)
  have wi : IntKind.i64.wrap ((i : Int) + 1) = ((i + 1 : Nat) : Int) := by rw [wrap64 (by omega) (by omega)]; omega
  obtain ⟨b, hb⟩ : ∃ b, B[i]? = some b := ⟨_, List.getElem?_eq_getElem hib⟩
  have hl := ent_len B B.length
  obtain ⟨ad, cs4, g1, g2, a4, c4, rfl, rb⟩ := rl.at (P := Try.prog) (by exact Try.underlying124) sz148 (ent_get hib hb)
  have l1 : gLoad Try.prog 148 h3 (.pointer (some ad)) = some (.agg #[.int .i64 ((10 * (i + 1) : Nat) : Int), .slice a4 b.length c4]) := by simp only [gLoad, sz148, gread_hc s3.hc g2]; rfl
  refine mk_of ?_; repeat' (first | (with_reducible first | refine gw_seq ?_ | refine gw_block ?_) | ((first | (with_reducible refine mk_to ?_) | (with_reducible first | refine gw_region ?_ | refine gw_if ?_ | refine gw_skip ?_ | refine gw_exit ?_ | refine gw_ret ?_) | ((with_reducible first | refine gif_b (fun hb => ?_) (fun hb => ?_) | refine want_t (fun hb => ?_) (fun hb => ?_) | refine want_f (fun hb => ?_) (fun hb => ?_) | refine dr_t (fun hb => ?_) (fun hb => ?_) | refine dr_f (fun hb => ?_) (fun hb => ?_)) <;> (try simp only [hb]) <;> (try simp only [hpr] at hb)) | with_reducible refine gw_draw (id := 7) [(0, []), (1, []), (2, []), (3, []), (4, []), (5, []), (6, []), (7, []), (8, []), (9, []), (10, []), (11, [])] [0, 1, 0, 4, 12, 28, 63, 127, 255, 511, 1023, 2047] mixed (by kernel_rfl) ?_ | with_reducible refine gw_draw (id := 12) [(0, []), (1, []), (2, []), (3, [])] [0, 1, 0, 7] mixed (by kernel_rfl) ?_) <;> try simp only [gop, gyield, gLenX, gNilM, gField, gIndexV, gPart, reduceIte, seval, Int.cast_ofNat_Int, stz, stp, isEff, sgl, sty, stq, Try.underlying89, ty124, ty23, ty24, ty36, ty68, ty88, ty148, ty62, ty65, ty70, ty91, ty99, ty29, ty3, ty4, ty63, ty89, rs67, d3, g1, l1]))
  refine new_g fun k4 h4 m4 s4 f4 n4 => ?_
  refine mk_of ?_; repeat' (first | (with_reducible first | refine gw_seq ?_ | refine gw_block ?_) | ((first | (with_reducible refine mk_to ?_) | (with_reducible first | refine gw_region ?_ | refine gw_if ?_ | refine gw_skip ?_ | refine gw_exit ?_ | refine gw_ret ?_) | ((with_reducible first | refine gif_b (fun hb => ?_) (fun hb => ?_) | refine want_t (fun hb => ?_) (fun hb => ?_) | refine want_f (fun hb => ?_) (fun hb => ?_) | refine dr_t (fun hb => ?_) (fun hb => ?_) | refine dr_f (fun hb => ?_) (fun hb => ?_)) <;> (try simp only [hb]) <;> (try simp only [hpr] at hb)) | with_reducible refine gw_draw (id := 7) [(0, []), (1, []), (2, []), (3, []), (4, []), (5, []), (6, []), (7, []), (8, []), (9, []), (10, []), (11, [])] [0, 1, 0, 4, 12, 28, 63, 127, 255, 511, 1023, 2047] mixed (by kernel_rfl) ?_ | with_reducible refine gw_draw (id := 12) [(0, []), (1, []), (2, []), (3, [])] [0, 1, 0, 7] mixed (by kernel_rfl) ?_) <;> try simp only [gop, gyield, gLenX, gNilM, gField, gIndexV, gPart, reduceIte, seval, Int.cast_ofNat_Int, stz, stp, isEff, sgl, sty, stq, Try.underlying89, ty124, ty23, ty24, ty36, ty68, ty88, ty148, ty62, ty65, ty70, ty91, ty99, ty29, ty3, ty4, ty63, ty89, rs67]))
  refine st_all m4 sz148 rfl (by decide) rfl rfl rfl fun h5 m5 f5 => ?_
  have s5 : HS h3 h5 := (HS.refl h3).upd n4 (fun j hj => (f5 j hj).trans (f4 j hj))
  have x5 := x3.hs s5
  have t1 : decide (((10 * (i + 1) : Nat) : Int) < ((10 * i : Nat) : Int)) = false := decide_eq_false (by omega)
  have t2 : decide (((10 * (i + 1) : Nat) : Int) > 1125899906842624) = false := decide_eq_false (by omega)
  have k4k : k4 ≠ k := fun q => by subst q; rw [x3.obj] at n4; cases n4
  refine mk_of ?_; repeat' (first | (with_reducible first | refine gw_seq ?_ | refine gw_block ?_) | ((first | (with_reducible refine mk_to ?_) | (with_reducible first | refine gw_region ?_ | refine gw_if ?_ | refine gw_skip ?_ | refine gw_exit ?_ | refine gw_ret ?_) | ((with_reducible first | refine gif_b (fun hb => ?_) (fun hb => ?_) | refine want_t (fun hb => ?_) (fun hb => ?_) | refine want_f (fun hb => ?_) (fun hb => ?_) | refine dr_t (fun hb => ?_) (fun hb => ?_) | refine dr_f (fun hb => ?_) (fun hb => ?_)) <;> (try simp only [hb]) <;> (try simp only [hpr] at hb)) | with_reducible refine gw_draw (id := 7) [(0, []), (1, []), (2, []), (3, []), (4, []), (5, []), (6, []), (7, []), (8, []), (9, []), (10, []), (11, [])] [0, 1, 0, 4, 12, 28, 63, 127, 255, 511, 1023, 2047] mixed (by kernel_rfl) ?_ | with_reducible refine gw_draw (id := 12) [(0, []), (1, []), (2, []), (3, [])] [0, 1, 0, 7] mixed (by kernel_rfl) ?_) <;> try simp only [gop, gyield, gLenX, gNilM, gField, gIndexV, gPart, reduceIte, seval, Int.cast_ofNat_Int, stz, stp, isEff, sgl, sty, stq, Try.underlying89, ty124, ty23, ty24, ty36, ty68, ty88, ty148, ty62, ty65, ty70, ty91, ty99, ty29, ty3, ty4, ty63, ty89, rs67, gNil, gload1 m5 sz3, gload1 x5.obj sz3, t1, t2, gPick, List.getElem?_cons_zero, List.getElem?_cons_succ]))
  refine st_one x5.obj sz3 rfl (by simp) rfl rfl fun h6 m6 f6 => ?_
  simp only [List.set_cons_succ, List.set_cons_zero] at m6
  have x6 := x5.setck m6 f6 (by omega)
  have m56 := (f6 _ k4k).trans m5
  have s06 : HS h h6 := (s3.trans s5).upd x3.nk f6
  have hbl : b.length ≤ 32 := (chk_small hm (gB.each b (List.mem_of_getElem? hb))).2
  refine mk_of ?_; repeat' (first | (with_reducible first | refine gw_seq ?_ | refine gw_block ?_) | ((first | (with_reducible refine mk_to ?_) | (with_reducible first | refine gw_region ?_ | refine gw_if ?_ | refine gw_skip ?_ | refine gw_exit ?_ | refine gw_ret ?_) | ((with_reducible first | refine gif_b (fun hb => ?_) (fun hb => ?_) | refine want_t (fun hb => ?_) (fun hb => ?_) | refine want_f (fun hb => ?_) (fun hb => ?_) | refine dr_t (fun hb => ?_) (fun hb => ?_) | refine dr_f (fun hb => ?_) (fun hb => ?_)) <;> (try simp only [hb]) <;> (try simp only [hpr] at hb)) | with_reducible refine gw_draw (id := 7) [(0, []), (1, []), (2, []), (3, []), (4, []), (5, []), (6, []), (7, []), (8, []), (9, []), (10, []), (11, [])] [0, 1, 0, 4, 12, 28, 63, 127, 255, 511, 1023, 2047] mixed (by kernel_rfl) ?_ | with_reducible refine gw_draw (id := 12) [(0, []), (1, []), (2, []), (3, [])] [0, 1, 0, 7] mixed (by kernel_rfl) ?_) <;> try simp only [gop, gyield, gLenX, gNilM, gField, gIndexV, gPart, reduceIte, seval, Int.cast_ofNat_Int, stz, stp, isEff, sgl, sty, stq, Try.underlying89, ty124, ty23, ty24, ty36, ty68, ty88, ty148, ty62, ty65, ty70, ty91, ty99, ty29, ty3, ty4, ty63, ty89, rs67, gload1 m56 sz23, List.getElem?_cons_zero, List.getElem?_cons_succ, gBuild, lfill, lput, Shape.pl, List.all_cons, List.all_nil, isCell]))
  have rb' : RL 2 Bd h (.slice a4 b.length c4) b := rb
  refine (c_publish N s06 x6 rb' (by omega) rfl).mono ?_
  rintro _ h7 ⟨rfl, s7, r7⟩
  have htk : B.take (i + 1) = B.take i ++ [b] := by rw [List.take_add_one, hb]; rfl
  have htt : tot (B.take (i + 1)) = tot (B.take i) + b.length := by rw [htk]; simp [tot]
  have ht1 := tot_take B (i + 1)
  have hp : pubE p ((0, []) :: ent B i).length (tot (B.take i)) b = 0 := by
    unfold pubE
    rw [if_pos (gB.each b (List.mem_of_getElem? hb)), if_neg]
    have h1 := gB.tt
    have h2 : (B.length : Int) < p.eps := by
      rcases gB.eps with q | q
      · rw [q] at hib; simp at hib
      · exact q
    rw [List.length_cons, ent_len]
    omega
  rcases r7 with ⟨q, _⟩ | ⟨_, ew7, cs7, l7, x7⟩
  · exact absurd hp q
  rw [hp]
  simp only [if_true, zans]
  refine mk_of ?_; repeat' (first | (with_reducible first | refine gw_seq ?_ | refine gw_block ?_) | ((first | (with_reducible refine mk_to ?_) | (with_reducible first | refine gw_region ?_ | refine gw_if ?_ | refine gw_skip ?_ | refine gw_exit ?_ | refine gw_ret ?_) | ((with_reducible first | refine gif_b (fun hb => ?_) (fun hb => ?_) | refine want_t (fun hb => ?_) (fun hb => ?_) | refine want_f (fun hb => ?_) (fun hb => ?_) | refine dr_t (fun hb => ?_) (fun hb => ?_) | refine dr_f (fun hb => ?_) (fun hb => ?_)) <;> (try simp only [hb]) <;> (try simp only [hpr] at hb)) | with_reducible refine gw_draw (id := 7) [(0, []), (1, []), (2, []), (3, []), (4, []), (5, []), (6, []), (7, []), (8, []), (9, []), (10, []), (11, [])] [0, 1, 0, 4, 12, 28, 63, 127, 255, 511, 1023, 2047] mixed (by kernel_rfl) ?_ | with_reducible refine gw_draw (id := 12) [(0, []), (1, []), (2, []), (3, [])] [0, 1, 0, 7] mixed (by kernel_rfl) ?_) <;> try simp only [gop, gyield, gLenX, gNilM, gField, gIndexV, gPart, reduceIte, seval, Int.cast_ofNat_Int, stz, stp, isEff, sgl, sty, stq, Try.underlying89, ty124, ty23, ty24, ty36, ty68, ty88, ty148, ty62, ty65, ty70, ty91, ty99, ty29, ty3, ty4, ty63, ty89, rs67]))
  refine new_g fun k8 h8 m8 s8 f8 n8 => ?_
  refine mk_of ?_; repeat' (first | (with_reducible first | refine gw_seq ?_ | refine gw_block ?_) | ((first | (with_reducible refine mk_to ?_) | (with_reducible first | refine gw_region ?_ | refine gw_if ?_ | refine gw_skip ?_ | refine gw_exit ?_ | refine gw_ret ?_) | ((with_reducible first | refine gif_b (fun hb => ?_) (fun hb => ?_) | refine want_t (fun hb => ?_) (fun hb => ?_) | refine want_f (fun hb => ?_) (fun hb => ?_) | refine dr_t (fun hb => ?_) (fun hb => ?_) | refine dr_f (fun hb => ?_) (fun hb => ?_)) <;> (try simp only [hb]) <;> (try simp only [hpr] at hb)) | with_reducible refine gw_draw (id := 7) [(0, []), (1, []), (2, []), (3, []), (4, []), (5, []), (6, []), (7, []), (8, []), (9, []), (10, []), (11, [])] [0, 1, 0, 4, 12, 28, 63, 127, 255, 511, 1023, 2047] mixed (by kernel_rfl) ?_ | with_reducible refine gw_draw (id := 12) [(0, []), (1, []), (2, []), (3, [])] [0, 1, 0, 7] mixed (by kernel_rfl) ?_) <;> try simp only [gop, gyield, gLenX, gNilM, gField, gIndexV, gPart, reduceIte, seval, Int.cast_ofNat_Int, stz, stp, isEff, sgl, sty, stq, Try.underlying89, ty124, ty23, ty24, ty36, ty68, ty88, ty148, ty62, ty65, ty70, ty91, ty99, ty29, ty3, ty4, ty63, ty89, rs67]))
  refine st_all m8 sz70 rfl (by decide) rfl rfl rfl fun h9 m9 f9 => ?_
  have s9 : HS h7 h9 := (HS.refl h7).upd n8 (fun j hj => (f9 j hj).trans (f8 j hj))
  refine mk_of ?_; repeat' (first | (with_reducible first | refine gw_seq ?_ | refine gw_block ?_) | ((first | (with_reducible refine mk_to ?_) | (with_reducible first | refine gw_region ?_ | refine gw_if ?_ | refine gw_skip ?_ | refine gw_exit ?_ | refine gw_ret ?_) | ((with_reducible first | refine gif_b (fun hb => ?_) (fun hb => ?_) | refine want_t (fun hb => ?_) (fun hb => ?_) | refine want_f (fun hb => ?_) (fun hb => ?_) | refine dr_t (fun hb => ?_) (fun hb => ?_) | refine dr_f (fun hb => ?_) (fun hb => ?_)) <;> (try simp only [hb]) <;> (try simp only [hpr] at hb)) | with_reducible refine gw_draw (id := 7) [(0, []), (1, []), (2, []), (3, []), (4, []), (5, []), (6, []), (7, []), (8, []), (9, []), (10, []), (11, [])] [0, 1, 0, 4, 12, 28, 63, 127, 255, 511, 1023, 2047] mixed (by kernel_rfl) ?_ | with_reducible refine gw_draw (id := 12) [(0, []), (1, []), (2, []), (3, [])] [0, 1, 0, 7] mixed (by kernel_rfl) ?_) <;> try simp only [gop, gyield, gLenX, gNilM, gField, gIndexV, gPart, reduceIte, seval, Int.cast_ofNat_Int, stz, stp, isEff, sgl, sty, stq, Try.underlying89, ty124, ty23, ty24, ty36, ty68, ty88, ty148, ty62, ty65, ty70, ty91, ty99, ty29, ty3, ty4, ty63, ty89, rs67, gload1 m9 sz29, z, wi, List.getElem?_cons_zero, List.getElem?_cons_succ]))
  refine ⟨_, i + 1, ?_, (by simp only [List.forall_mem_cons, List.not_mem_nil, false_implies, implies_true, List.map, List.cons_append, List.nil_append, lk, Nat.reduceEqDiff, reduceIte, and_true, true_and]), rfl, by omega, s7.trans s9, ew7, cs7, l7, ?_⟩
  · omega
  · rw [ent_succ B hb, htt]
    exact x7.hs s9
end Go.Gh

/- Ideal: a map of batches; its epochs. -/

namespace Go.Gh
open Go Go.Proofs Go.RowKit
set_option linter.unusedVariables false
set_option linter.unusedSimpArgs false
set_option maxRecDepth 100000
set_option maxHeartbeats 4000000

def pmd : Pm := ⟨4, 5, 2, 4, 60, 4681, 1, 3⟩
theorem gret_tc {P : Program} {Q : Value → GH → Prop} {e : Env} {h : GH} (t a ty : Nat) : gretK P e h [.tmp t, .cell a ty] Q = optK ((gLoad P ty h (lk e a)).map fun v => .tuple #[lk e t, v]) h Q := by
  unfold gretK optK
  apply propext
  constructor
  · rintro ⟨l, h1, h2⟩
    simp only [gress, Option.map_some] at h1
    cases hv : gLoad P ty h (lk e a) with
    | none => rw [hv] at h1; cases h1
    | some v =>
      rw [hv] at h1
      cases h1
      exact ⟨_, rfl, h2⟩
  · rintro ⟨v, h1, h2⟩
    obtain ⟨w, hw, rfl⟩ := Option.map_eq_some_iff.1 h1
    exact ⟨[lk e t, w], by simp [gress, hw], h2⟩
theorem c_made (N : Nat) (h : GH) {a : Option Addr} {c : Nat} {l : List (List Bnd)} (rl : RL 1 Bl h (.slice a l.length c) l) (hl : l.length ≤ 140737488355328) (hll : ∀ b ∈ l, small b ∧ b.length ≤ 140737488355328) :
    GTri Try.prog N 30 [.slice a l.length c] h fun v h' => (∃ k j ew cs l ck B, v = .tuple #[.pointer (some ⟨k, 0, none⟩), pmd.v] ∧ h k = none ∧ Good pmd 25 B ∧ IM h h' k j pmd ew cs l ((0, []) :: ent B B.length) ck (tot B)) ∧ HS h h' := by
  have hv : pms.v = .agg #[.int .i64 4, .int .i64 2, .int .i64 2, .int .i64 4, .int .i64 10, .int .i64 781, .int .i64 1, .int .i64 3] := rfl
  have hd : pmd.v = .agg #[.int .i64 4, .int .i64 5, .int .i64 2, .int .i64 4, .int .i64 60, .int .i64 4681, .int .i64 1, .int .i64 3] := rfl
  have hm : pmd.may = true := by decide
  have hck : pmd.check = 0 := by decide
  have z : ((0 : Int) != 0) = false := rfl
  refine gtri Try.func30 rfl gf30 ok30 (by simp [Try.ntmps30]) ?_
  repeat' (first | (with_reducible first | refine gw_seq ?_ | refine gw_block ?_) | ((first | (with_reducible first | refine gw_region ?_ | refine gw_if ?_ | refine gw_skip ?_ | refine gw_exit ?_ | refine gw_ret ?_) | ((with_reducible first | refine gif_b (fun hb => ?_) (fun hb => ?_) | refine want_t (fun hb => ?_) (fun hb => ?_) | refine want_f (fun hb => ?_) (fun hb => ?_) | refine dr_t (fun hb => ?_) (fun hb => ?_) | refine dr_f (fun hb => ?_) (fun hb => ?_)) <;> (try simp only [hb]) <;> (try simp only [hpr] at hb)) | with_reducible refine gw_draw (id := 6) [(0, []), (1, []), (2, [])] [0, 0, 3] mixed (by kernel_rfl) ?_ | with_reducible refine gw_draw (id := 7) [(0, []), (1, []), (2, []), (3, [])] [0, 0, 1, 7] mixed (by kernel_rfl) ?_) <;> try simp only [gop, gyield, gLenX, gNilM, gField, gIndexV, gPart, reduceIte, seval, Int.cast_ofNat_Int, stz, stp, isEff, sgl, sty, stq, ty124, ty22, ty23, ty148, ty65, ty91, ty29, ty3, ty63, rs30]))
  refine new_g fun k1 h1 m1 s1 f1 n1 => ?_
  refine mk_of ?_; repeat' (first | (with_reducible first | refine gw_seq ?_ | refine gw_block ?_) | ((first | (with_reducible refine mk_to ?_) | (with_reducible first | refine gw_region ?_ | refine gw_if ?_ | refine gw_skip ?_ | refine gw_exit ?_ | refine gw_ret ?_) | ((with_reducible first | refine gif_b (fun hb => ?_) (fun hb => ?_) | refine want_t (fun hb => ?_) (fun hb => ?_) | refine want_f (fun hb => ?_) (fun hb => ?_) | refine dr_t (fun hb => ?_) (fun hb => ?_) | refine dr_f (fun hb => ?_) (fun hb => ?_)) <;> (try simp only [hb]) <;> (try simp only [hpr] at hb)) | with_reducible refine gw_draw (id := 6) [(0, []), (1, []), (2, [])] [0, 0, 3] mixed (by kernel_rfl) ?_ | with_reducible refine gw_draw (id := 7) [(0, []), (1, []), (2, []), (3, [])] [0, 0, 1, 7] mixed (by kernel_rfl) ?_) <;> try simp only [gop, gyield, gLenX, gNilM, gField, gIndexV, gPart, reduceIte, seval, Int.cast_ofNat_Int, stz, stp, isEff, sgl, sty, stq, ty124, ty22, ty23, ty148, ty65, ty91, ty29, ty3, ty63, rs30]))
  refine (c_small16 N h1).mono ?_
  rintro _ h2 ⟨rfl, s2⟩
  replace m1 := s2 _ _ m1
  rw [hv]
  refine mk_of ?_; repeat' (first | (with_reducible first | refine gw_seq ?_ | refine gw_block ?_) | ((first | (with_reducible refine mk_to ?_) | (with_reducible first | refine gw_region ?_ | refine gw_if ?_ | refine gw_skip ?_ | refine gw_exit ?_ | refine gw_ret ?_) | ((with_reducible first | refine gif_b (fun hb => ?_) (fun hb => ?_) | refine want_t (fun hb => ?_) (fun hb => ?_) | refine want_f (fun hb => ?_) (fun hb => ?_) | refine dr_t (fun hb => ?_) (fun hb => ?_) | refine dr_f (fun hb => ?_) (fun hb => ?_)) <;> (try simp only [hb]) <;> (try simp only [hpr] at hb)) | with_reducible refine gw_draw (id := 6) [(0, []), (1, []), (2, [])] [0, 0, 3] mixed (by kernel_rfl) ?_ | with_reducible refine gw_draw (id := 7) [(0, []), (1, []), (2, []), (3, [])] [0, 0, 1, 7] mixed (by kernel_rfl) ?_) <;> try simp only [gop, gyield, gLenX, gNilM, gField, gIndexV, gPart, reduceIte, seval, Int.cast_ofNat_Int, stz, stp, isEff, sgl, sty, stq, ty124, ty22, ty23, ty148, ty65, ty91, ty29, ty3, ty63, rs30]))
  refine new_g fun k3 h3 m3 s3 f3 n3 => ?_
  refine mk_of ?_; repeat' (first | (with_reducible first | refine gw_seq ?_ | refine gw_block ?_) | ((first | (with_reducible refine mk_to ?_) | (with_reducible first | refine gw_region ?_ | refine gw_if ?_ | refine gw_skip ?_ | refine gw_exit ?_ | refine gw_ret ?_) | ((with_reducible first | refine gif_b (fun hb => ?_) (fun hb => ?_) | refine want_t (fun hb => ?_) (fun hb => ?_) | refine want_f (fun hb => ?_) (fun hb => ?_) | refine dr_t (fun hb => ?_) (fun hb => ?_) | refine dr_f (fun hb => ?_) (fun hb => ?_)) <;> (try simp only [hb]) <;> (try simp only [hpr] at hb)) | with_reducible refine gw_draw (id := 6) [(0, []), (1, []), (2, [])] [0, 0, 3] mixed (by kernel_rfl) ?_ | with_reducible refine gw_draw (id := 7) [(0, []), (1, []), (2, []), (3, [])] [0, 0, 1, 7] mixed (by kernel_rfl) ?_) <;> try simp only [gop, gyield, gLenX, gNilM, gField, gIndexV, gPart, reduceIte, seval, Int.cast_ofNat_Int, stz, stp, isEff, sgl, sty, stq, ty124, ty22, ty23, ty148, ty65, ty91, ty29, ty3, ty63, rs30]))
  refine st_all m3 sz65 rfl (by decide) rfl rfl rfl fun h4 m4 f4 => ?_
  refine mk_of ?_; repeat' (first | (with_reducible first | refine gw_seq ?_ | refine gw_block ?_) | ((first | (with_reducible refine mk_to ?_) | (with_reducible first | refine gw_region ?_ | refine gw_if ?_ | refine gw_skip ?_ | refine gw_exit ?_ | refine gw_ret ?_) | ((with_reducible first | refine gif_b (fun hb => ?_) (fun hb => ?_) | refine want_t (fun hb => ?_) (fun hb => ?_) | refine want_f (fun hb => ?_) (fun hb => ?_) | refine dr_t (fun hb => ?_) (fun hb => ?_) | refine dr_f (fun hb => ?_) (fun hb => ?_)) <;> (try simp only [hb]) <;> (try simp only [hpr] at hb)) | with_reducible refine gw_draw (id := 6) [(0, []), (1, []), (2, [])] [0, 0, 3] mixed (by kernel_rfl) ?_ | with_reducible refine gw_draw (id := 7) [(0, []), (1, []), (2, []), (3, [])] [0, 0, 1, 7] mixed (by kernel_rfl) ?_) <;> try simp only [gop, gyield, gLenX, gNilM, gField, gIndexV, gPart, reduceIte, seval, Int.cast_ofNat_Int, stz, stp, isEff, sgl, sty, stq, ty124, ty22, ty23, ty148, ty65, ty91, ty29, ty3, ty63, rs30]))
  refine st_one m4 sz3 rfl (by decide) rfl rfl fun h5 m5 f5 => ?_
  refine mk_of ?_; repeat' (first | (with_reducible first | refine gw_seq ?_ | refine gw_block ?_) | ((first | (with_reducible refine mk_to ?_) | (with_reducible first | refine gw_region ?_ | refine gw_if ?_ | refine gw_skip ?_ | refine gw_exit ?_ | refine gw_ret ?_) | ((with_reducible first | refine gif_b (fun hb => ?_) (fun hb => ?_) | refine want_t (fun hb => ?_) (fun hb => ?_) | refine want_f (fun hb => ?_) (fun hb => ?_) | refine dr_t (fun hb => ?_) (fun hb => ?_) | refine dr_f (fun hb => ?_) (fun hb => ?_)) <;> (try simp only [hb]) <;> (try simp only [hpr] at hb)) | with_reducible refine gw_draw (id := 6) [(0, []), (1, []), (2, [])] [0, 0, 3] mixed (by kernel_rfl) ?_ | with_reducible refine gw_draw (id := 7) [(0, []), (1, []), (2, []), (3, [])] [0, 0, 1, 7] mixed (by kernel_rfl) ?_) <;> try simp only [gop, gyield, gLenX, gNilM, gField, gIndexV, gPart, reduceIte, seval, Int.cast_ofNat_Int, stz, stp, isEff, sgl, sty, stq, ty124, ty22, ty23, ty148, ty65, ty91, ty29, ty3, ty63, rs30]))
  refine st_one m5 sz3 rfl (by decide) rfl rfl fun h6 m6 f6 => ?_
  refine mk_of ?_; repeat' (first | (with_reducible first | refine gw_seq ?_ | refine gw_block ?_) | ((first | (with_reducible refine mk_to ?_) | (with_reducible first | refine gw_region ?_ | refine gw_if ?_ | refine gw_skip ?_ | refine gw_exit ?_ | refine gw_ret ?_) | ((with_reducible first | refine gif_b (fun hb => ?_) (fun hb => ?_) | refine want_t (fun hb => ?_) (fun hb => ?_) | refine want_f (fun hb => ?_) (fun hb => ?_) | refine dr_t (fun hb => ?_) (fun hb => ?_) | refine dr_f (fun hb => ?_) (fun hb => ?_)) <;> (try simp only [hb]) <;> (try simp only [hpr] at hb)) | with_reducible refine gw_draw (id := 6) [(0, []), (1, []), (2, [])] [0, 0, 3] mixed (by kernel_rfl) ?_ | with_reducible refine gw_draw (id := 7) [(0, []), (1, []), (2, []), (3, [])] [0, 0, 1, 7] mixed (by kernel_rfl) ?_) <;> try simp only [gop, gyield, gLenX, gNilM, gField, gIndexV, gPart, reduceIte, seval, Int.cast_ofNat_Int, stz, stp, isEff, sgl, sty, stq, ty124, ty22, ty23, ty148, ty65, ty91, ty29, ty3, ty63, rs30]))
  refine st_one m6 sz3 rfl (by decide) rfl rfl fun h7 m7 f7 => ?_
  have m7' : h7 k3 = some ⟨[.int .i64 4, .int .i64 5, .int .i64 2, .int .i64 4, .int .i64 60, .int .i64 4681, .int .i64 1, .int .i64 3], 0, true, false⟩ := m7
  have s7 : HS h2 h7 := (HS.refl h2).upd n3 (fun j hj => (f7 j hj).trans ((f6 j hj).trans ((f5 j hj).trans ((f4 j hj).trans (f3 j hj)))))
  have s07 := (s1.trans s2).trans s7
  replace m1 := s7 _ _ m1
  refine mk_of ?_; repeat' (first | (with_reducible first | refine gw_seq ?_ | refine gw_block ?_) | ((first | (with_reducible refine mk_to ?_) | (with_reducible first | refine gw_region ?_ | refine gw_if ?_ | refine gw_skip ?_ | refine gw_exit ?_ | refine gw_ret ?_) | ((with_reducible first | refine gif_b (fun hb => ?_) (fun hb => ?_) | refine want_t (fun hb => ?_) (fun hb => ?_) | refine want_f (fun hb => ?_) (fun hb => ?_) | refine dr_t (fun hb => ?_) (fun hb => ?_) | refine dr_f (fun hb => ?_) (fun hb => ?_)) <;> (try simp only [hb]) <;> (try simp only [hpr] at hb)) | with_reducible refine gw_draw (id := 6) [(0, []), (1, []), (2, [])] [0, 0, 3] mixed (by kernel_rfl) ?_ | with_reducible refine gw_draw (id := 7) [(0, []), (1, []), (2, []), (3, [])] [0, 0, 1, 7] mixed (by kernel_rfl) ?_) <;> try simp only [gop, gyield, gLenX, gNilM, gField, gIndexV, gPart, reduceIte, seval, Int.cast_ofNat_Int, stz, stp, isEff, sgl, sty, stq, ty124, ty22, ty23, ty148, ty65, ty91, ty29, ty3, ty63, rs30, gloadA m7' sz65 rfl]))
  rw [← hd]
  refine (c_Batches N h7 pmd hm (rl.hcR s07.hc fun _ _ q => q.hs s07) hl hll 25 (by decide)).mono ?_
  rintro v8 h8 ⟨⟨B, gB, rB⟩, s8⟩
  have hBl := gB.len
  refine mk_of ?_; repeat' (first | (with_reducible first | refine gw_seq ?_ | refine gw_block ?_) | ((first | (with_reducible refine mk_to ?_) | (with_reducible first | refine gw_region ?_ | refine gw_if ?_ | refine gw_skip ?_ | refine gw_exit ?_ | refine gw_ret ?_) | ((with_reducible first | refine gif_b (fun hb => ?_) (fun hb => ?_) | refine want_t (fun hb => ?_) (fun hb => ?_) | refine want_f (fun hb => ?_) (fun hb => ?_) | refine dr_t (fun hb => ?_) (fun hb => ?_) | refine dr_f (fun hb => ?_) (fun hb => ?_)) <;> (try simp only [hb]) <;> (try simp only [hpr] at hb)) | with_reducible refine gw_draw (id := 6) [(0, []), (1, []), (2, [])] [0, 0, 3] mixed (by kernel_rfl) ?_ | with_reducible refine gw_draw (id := 7) [(0, []), (1, []), (2, []), (3, [])] [0, 0, 1, 7] mixed (by kernel_rfl) ?_) <;> try simp only [gop, gyield, gLenX, gNilM, gField, gIndexV, gPart, reduceIte, seval, Int.cast_ofNat_Int, stz, stp, isEff, sgl, sty, stq, ty124, ty22, ty23, ty148, ty65, ty91, ty29, ty3, ty63, rs30]))
  refine (c_Entries N h8 rB (by omega)).mono ?_
  rintro v9 h9 ⟨rE, s9⟩
  obtain ⟨a9, c9, rfl, _⟩ := rE.form
  rw [ent_len] at rE
  have m79 := s9 _ _ (s8 _ _ m7')
  rw [ent_len]
  refine mk_of ?_; repeat' (first | (with_reducible first | refine gw_seq ?_ | refine gw_block ?_) | ((first | (with_reducible refine mk_to ?_) | (with_reducible first | refine gw_region ?_ | refine gw_if ?_ | refine gw_skip ?_ | refine gw_exit ?_ | refine gw_ret ?_) | ((with_reducible first | refine gif_b (fun hb => ?_) (fun hb => ?_) | refine want_t (fun hb => ?_) (fun hb => ?_) | refine want_f (fun hb => ?_) (fun hb => ?_) | refine dr_t (fun hb => ?_) (fun hb => ?_) | refine dr_f (fun hb => ?_) (fun hb => ?_)) <;> (try simp only [hb]) <;> (try simp only [hpr] at hb)) | with_reducible refine gw_draw (id := 6) [(0, []), (1, []), (2, [])] [0, 0, 3] mixed (by kernel_rfl) ?_ | with_reducible refine gw_draw (id := 7) [(0, []), (1, []), (2, []), (3, [])] [0, 0, 1, 7] mixed (by kernel_rfl) ?_) <;> try simp only [gop, gyield, gLenX, gNilM, gField, gIndexV, gPart, reduceIte, seval, Int.cast_ofNat_Int, stz, stp, isEff, sgl, sty, stq, ty124, ty22, ty23, ty148, ty65, ty91, ty29, ty3, ty63, rs30, gloadA m79 sz65 rfl]))
  rw [← hd]
  refine (c_Of N h9 pmd hck hm gB (by omega) rE).mono ?_
  rintro _ h10 ⟨⟨k, j, ew, cs, l', ck, rfl, hk, x⟩, s10⟩
  have m710 := s10 _ _ m79
  refine mk_of ?_; repeat' (first | (with_reducible first | refine gw_seq ?_ | refine gw_block ?_) | ((first | (with_reducible refine mk_to ?_) | (with_reducible first | refine gw_region ?_ | refine gw_if ?_ | refine gw_skip ?_ | refine gw_exit ?_ | refine gw_ret ?_) | ((with_reducible first | refine gif_b (fun hb => ?_) (fun hb => ?_) | refine want_t (fun hb => ?_) (fun hb => ?_) | refine want_f (fun hb => ?_) (fun hb => ?_) | refine dr_t (fun hb => ?_) (fun hb => ?_) | refine dr_f (fun hb => ?_) (fun hb => ?_)) <;> (try simp only [hb]) <;> (try simp only [hpr] at hb)) | with_reducible refine gw_draw (id := 6) [(0, []), (1, []), (2, [])] [0, 0, 3] mixed (by kernel_rfl) ?_ | with_reducible refine gw_draw (id := 7) [(0, []), (1, []), (2, []), (3, [])] [0, 0, 1, 7] mixed (by kernel_rfl) ?_) <;> try simp only [gop, gyield, gLenX, gNilM, gField, gIndexV, gPart, reduceIte, seval, Int.cast_ofNat_Int, stz, stp, isEff, sgl, sty, stq, ty124, ty22, ty23, ty148, ty65, ty91, ty29, ty3, ty63, rs30, z, gPick, gloadA m710 sz65 rfl]))
  rw [← hd]
  refine (c_rcheck N h10 pmd).mono ?_
  rintro _ h11 ⟨rfl, s11⟩
  rw [hck]
  have x11 := x.hs s11
  have hlen : ((((0 : Int), ([] : List Bnd)) :: ent B B.length).length - 1 : Nat) = B.length := by rw [List.length_cons, ent_len]; omega
  have s09 := (s07.trans s8).trans s9
  have m711 := s11 _ _ m710
  have m111 := s11 _ _ (s10 _ _ (s9 _ _ (s8 _ _ m1)))
  have zz : ((B.length : Int) != (B.length : Int)) = false := by simp
  refine mk_of ?_; repeat' (first | (with_reducible first | refine gw_seq ?_ | refine gw_block ?_) | ((first | (with_reducible refine mk_to ?_) | (with_reducible first | refine gw_region ?_ | refine gw_if ?_ | refine gw_skip ?_ | refine gw_exit ?_ | refine gw_ret ?_) | ((with_reducible first | refine gif_b (fun hb => ?_) (fun hb => ?_) | refine want_t (fun hb => ?_) (fun hb => ?_) | refine want_f (fun hb => ?_) (fun hb => ?_) | refine dr_t (fun hb => ?_) (fun hb => ?_) | refine dr_f (fun hb => ?_) (fun hb => ?_)) <;> (try simp only [hb]) <;> (try simp only [hpr] at hb)) | with_reducible refine gw_draw (id := 6) [(0, []), (1, []), (2, [])] [0, 0, 3] mixed (by kernel_rfl) ?_ | with_reducible refine gw_draw (id := 7) [(0, []), (1, []), (2, []), (3, [])] [0, 0, 1, 7] mixed (by kernel_rfl) ?_ | ((refine GTri.mono (c_iEpoch _ x11) ?_); rintro _ _ ⟨rfl, hh9⟩; replace hh9 := hh9.symm; subst hh9)) <;> try simp only [gop, gyield, gLenX, gNilM, gField, gIndexV, gPart, reduceIte, seval, Int.cast_ofNat_Int, stz, stp, isEff, sgl, sty, stq, ty124, ty22, ty23, ty148, ty65, ty91, ty29, ty3, ty63, rs30, z, ent_len, List.length_cons, Nat.add_sub_cancel, zz, gPick, gloadA m711 sz65 rfl]))
  refine st_all m111 sz65 rfl (by decide) rfl rfl rfl fun h12 m12 f12 => ?_
  refine mk_of ?_; repeat' (first | (with_reducible first | refine gw_seq ?_ | refine gw_block ?_) | ((first | (with_reducible refine mk_to ?_) | (with_reducible first | refine gw_region ?_ | refine gw_if ?_ | refine gw_skip ?_ | refine gw_exit ?_ | refine gw_ret ?_) | ((with_reducible first | refine gif_b (fun hb => ?_) (fun hb => ?_) | refine want_t (fun hb => ?_) (fun hb => ?_) | refine want_f (fun hb => ?_) (fun hb => ?_) | refine dr_t (fun hb => ?_) (fun hb => ?_) | refine dr_f (fun hb => ?_) (fun hb => ?_)) <;> (try simp only [hb]) <;> (try simp only [hpr] at hb)) | with_reducible refine gw_draw (id := 6) [(0, []), (1, []), (2, [])] [0, 0, 3] mixed (by kernel_rfl) ?_ | with_reducible refine gw_draw (id := 7) [(0, []), (1, []), (2, []), (3, [])] [0, 0, 1, 7] mixed (by kernel_rfl) ?_) <;> try simp only [gop, gyield, gLenX, gNilM, gField, gIndexV, gPart, reduceIte, seval, Int.cast_ofNat_Int, stz, stp, isEff, sgl, sty, stq, ty124, ty22, ty23, ty148, ty65, ty91, ty29, ty3, ty63, rs30, gret_tc, Option.map_some, gloadA m12 sz65 rfl]))
  rw [← hd]
  have nk1 : h k1 = none := n1
  have k1k : k1 ≠ k := fun q => by
    subst q
    rw [s9 _ _ (s8 _ _ m1)] at hk
    cases hk
  have k1j : k1 ≠ j + 1 := fun q => by
    have := x.nj
    rw [← q, s9 _ _ (s8 _ _ m1)] at this
    cases this
  refine ⟨⟨k, j, ew, cs, l', ck, B, rfl, s09.none_of hk, gB, (x11.weak s09).oth m111 rfl rfl f12 k1k k1j⟩, ?_⟩
  exact ((s09.trans s10).trans s11).upd nk1 f12
end Go.Gh

/- Ideal: a feed. -/

namespace Go.Gh
open Go Go.Proofs Go.RowKit
set_option linter.unusedVariables false
set_option linter.unusedSimpArgs false
set_option maxRecDepth 100000
set_option maxHeartbeats 4000000

def bOf (M : List (Int × List Bnd)) (e : Nat) : List Bnd := (M[e]?.map (·.2)).getD []
theorem bOf_get {M : List (Int × List Bnd)} {e : Nat} {y : Int × List Bnd} (h : M[e]? = some y) : bOf M e = y.2 := by unfold bOf; rw [h]; rfl
/-- An epoch's events. -/
def evs1 (e : Nat) (b : List Bnd) : List (Nat × Nat × Bnd) := (List.range b.length).map fun i => (e, i, bat1 b i)
/-- The events of c epochs from e on. -/
def evA (M : List (Int × List Bnd)) (e c : Nat) : List (Nat × Nat × Bnd) := (List.range c).flatMap fun k => evs1 (e + k) (bOf M (e + k))
theorem evs1_len (e : Nat) (b : List Bnd) : (evs1 e b).length = b.length := by simp [evs1]
theorem evs1_get {e : Nat} {b : List Bnd} {i : Nat} (h : i < b.length) : (evs1 e b)[i]? = some (e, i, bat1 b i) := by simp [evs1, h]
theorem evA_succ (M : List (Int × List Bnd)) (e c : Nat) : evA M e (c + 1) = evA M e c ++ evs1 (e + c) (bOf M (e + c)) := by
  unfold evA
  rw [List.range_succ, List.flatMap_append, List.flatMap_singleton]
theorem evA_cons (M : List (Int × List Bnd)) (e c : Nat) : evA M e (c + 1) = evs1 e (bOf M e) ++ evA M (e + 1) c := by
  unfold evA
  rw [List.range_succ_eq_map, List.flatMap_cons, List.flatMap_map, Nat.add_zero]
  congr 1
  congr 1
  funext k
  rw [show e + Nat.succ k = e + 1 + k by omega]
theorem evA_split (M : List (Int × List Bnd)) (e c d : Nat) : evA M e (c + d) = evA M e c ++ evA M (e + c) d := by
  induction c generalizing e with
  | zero => simp [evA]
  | succ c ih => rw [show c + 1 + d = (c + d) + 1 by omega, evA_cons, evA_cons, ih, List.append_assoc, show e + 1 + c = e + (c + 1) by omega]
/-- What a feed has told when it has come to the i-th of epoch e. -/
def fed (M : List (Int × List Bnd)) (ep ix e i : Nat) : List (Nat × Nat × Bnd) := (evA M ep (e - ep) ++ (evs1 e (bOf M e)).take i).drop ix

/-- Whether a feed may go on there. -/
def curOk (M : List (Int × List Bnd)) (q : Ak) : Bool := if q.fr = q.to then q.ep == q.fr + 1 && q.ix == 0 else decide (q.ep > q.fr) && decide (q.ep ≤ q.to) && decide (q.ix ≥ 0) && decide (q.ix < ((bOf M q.ep.toNat).length : Int))
theorem c_cursor (N : Nat) {h0 h : GH} {k j : Nat} {p : Pm} {ew : Value} {cs l : List Value} {M : List (Int × List Bnd)} {ck : Int} {n : Nat} (x : IM h0 h k j p ew cs l M ck n) (q : Ak) (h1 : 0 ≤ q.fr) (h2 : q.fr ≤ q.to) (h3 : q.to < (M.length : Int))
    {c1 c4 c5 c8 c9 : Value} (hc : [c1, c4, c5, c8, c9].all isCell = true) :
    GTri Try.prog N 113 [.pointer (some ⟨k, 0, none⟩), .agg #[.int .i64 q.kd, c1, .int .i64 q.fr, .int .i64 q.to, c4, c5, .int .i64 q.ep, .int .i64 q.ix, c8, c9]] h fun v h' => v = .bool (curOk M q) ∧ HS h h' := by
  have hML := x.len
  have w : IntKind.i64.wrap (q.fr + 1) = q.fr + 1 := by rw [wrap64 (by omega) (by omega)]
  obtain ⟨ae, ce, ee⟩ := x.ep.form
  refine gtri Try.func113 rfl gf113 ok113 (by simp [Try.ntmps113]) ?_
  repeat' (first | (with_reducible first | refine gw_seq ?_ | refine gw_block ?_) | ((first | (with_reducible first | refine gw_region ?_ | refine gw_if ?_ | refine gw_skip ?_ | refine gw_exit ?_ | refine gw_ret ?_) | ((with_reducible first | refine gif_b (fun hb => ?_) (fun hb => ?_) | refine want_t (fun hb => ?_) (fun hb => ?_) | refine want_f (fun hb => ?_) (fun hb => ?_) | refine dr_t (fun hb => ?_) (fun hb => ?_) | refine dr_f (fun hb => ?_) (fun hb => ?_)) <;> (try simp only [hb]) <;> (try simp only [hpr] at hb)) | with_reducible refine gw_draw (id := 3) [(0, []), (1, []), (2, []), (3, []), (4, []), (5, []), (6, []), (7, []), (8, []), (9, []), (10, []), (11, []), (12, []), (13, []), (14, []), (15, []), (16, []), (17, []), (18, []), (19, []), (20, []), (21, []), (22, []), (23, []), (24, []), (25, []), (26, []), (27, []), (28, []), (29, []), (30, []), (31, []), (32, [])] [0, 1, 0, 4, 15, 31, 63, 127, 63, 319, 1023, 2047, 4095, 8191, 16383, 32767, 65535, 131071, 262143, 524287, 262143, 1310719, 3407871, 7602175, 262143, 17039359, 66322431, 133431295, 267649023, 536084479, 1073741823, 2147483647, 4294967295] mixed (by kernel_rfl) ?_) <;> try simp only [gop, gyield, gLenX, gNilM, gField, gIndexV, gPart, reduceIte, seval, Int.cast_ofNat_Int, stz, stp, isEff, sgl, sty, stq, Try.underlying89, ty23, ty24, ty88, ty136, ty62, ty65, ty91, ty99, ty3, ty4, ty89, rs113]))
  refine box_g (by simpa [isCell] using hc) fun k1 hh1 m1 s1 f1 n1 => ?_
  have x1 := x.hs s1
  have ho := x1.obj
  rw [ee] at ho
  unfold curOk
  cases d1 : (q.fr == q.to)
  case true =>
    have e1 : q.fr = q.to := by simpa using d1
    cases d2 : (q.ep == q.fr + 1) <;> cases d3 : (q.ix == 0)
    all_goals
      refine mk_of ?_; repeat' (first | (with_reducible first | refine gw_seq ?_ | refine gw_block ?_) | ((first | (with_reducible refine mk_to ?_) | (with_reducible first | refine gw_region ?_ | refine gw_if ?_ | refine gw_skip ?_ | refine gw_exit ?_ | refine gw_ret ?_) | ((with_reducible first | refine gif_b (fun hb => ?_) (fun hb => ?_) | refine want_t (fun hb => ?_) (fun hb => ?_) | refine want_f (fun hb => ?_) (fun hb => ?_) | refine dr_t (fun hb => ?_) (fun hb => ?_) | refine dr_f (fun hb => ?_) (fun hb => ?_)) <;> (try simp only [hb]) <;> (try simp only [hpr] at hb)) | with_reducible refine gw_draw (id := 3) [(0, []), (1, []), (2, []), (3, []), (4, []), (5, []), (6, []), (7, []), (8, []), (9, []), (10, []), (11, []), (12, []), (13, []), (14, []), (15, []), (16, []), (17, []), (18, []), (19, []), (20, []), (21, []), (22, []), (23, []), (24, []), (25, []), (26, []), (27, []), (28, []), (29, []), (30, []), (31, []), (32, [])] [0, 1, 0, 4, 15, 31, 63, 127, 63, 319, 1023, 2047, 4095, 8191, 16383, 32767, 65535, 131071, 262143, 524287, 262143, 1310719, 3407871, 7602175, 262143, 17039359, 66322431, 133431295, 267649023, 536084479, 1073741823, 2147483647, 4294967295] mixed (by kernel_rfl) ?_) <;> try simp only [gop, gyield, gLenX, gNilM, gField, gIndexV, gPart, reduceIte, seval, Int.cast_ofNat_Int, stz, stp, isEff, sgl, sty, stq, Try.underlying89, ty23, ty24, ty88, ty136, ty62, ty65, ty91, ty99, ty3, ty4, ty89, rs113, gload1 m1 sz3, d1, d2, d3, w, gPick, List.getElem?_cons_zero, List.getElem?_cons_succ]))
      exact ⟨by rw [if_pos e1] <;> rfl, s1⟩
  have e1 : ¬ q.fr = q.to := by simpa using d1
  rw [if_neg e1]
  by_cases c1' : q.ep > q.fr
  case neg =>
    have d2 : decide (q.ep > q.fr) = false := decide_eq_false c1'
    cases d3 : decide (q.ep ≤ q.to) <;> cases d4 : decide (q.ix ≥ 0)
    all_goals
      refine mk_of ?_; repeat' (first | (with_reducible first | refine gw_seq ?_ | refine gw_block ?_) | ((first | (with_reducible refine mk_to ?_) | (with_reducible first | refine gw_region ?_ | refine gw_if ?_ | refine gw_skip ?_ | refine gw_exit ?_ | refine gw_ret ?_) | ((with_reducible first | refine gif_b (fun hb => ?_) (fun hb => ?_) | refine want_t (fun hb => ?_) (fun hb => ?_) | refine want_f (fun hb => ?_) (fun hb => ?_) | refine dr_t (fun hb => ?_) (fun hb => ?_) | refine dr_f (fun hb => ?_) (fun hb => ?_)) <;> (try simp only [hb]) <;> (try simp only [hpr] at hb)) | with_reducible refine gw_draw (id := 3) [(0, []), (1, []), (2, []), (3, []), (4, []), (5, []), (6, []), (7, []), (8, []), (9, []), (10, []), (11, []), (12, []), (13, []), (14, []), (15, []), (16, []), (17, []), (18, []), (19, []), (20, []), (21, []), (22, []), (23, []), (24, []), (25, []), (26, []), (27, []), (28, []), (29, []), (30, []), (31, []), (32, [])] [0, 1, 0, 4, 15, 31, 63, 127, 63, 319, 1023, 2047, 4095, 8191, 16383, 32767, 65535, 131071, 262143, 524287, 262143, 1310719, 3407871, 7602175, 262143, 17039359, 66322431, 133431295, 267649023, 536084479, 1073741823, 2147483647, 4294967295] mixed (by kernel_rfl) ?_) <;> try simp only [gop, gyield, gLenX, gNilM, gField, gIndexV, gPart, reduceIte, seval, Int.cast_ofNat_Int, stz, stp, isEff, sgl, sty, stq, Try.underlying89, ty23, ty24, ty88, ty136, ty62, ty65, ty91, ty99, ty3, ty4, ty89, rs113, gNil, gload1 m1 sz3, d1, d2, d3, d4, gPick, List.getElem?_cons_zero, List.getElem?_cons_succ]))
      exact ⟨rfl, s1⟩
  have d2 : decide (q.ep > q.fr) = true := decide_eq_true c1'
  by_cases c2' : q.ep ≤ q.to
  case neg =>
    have d3 : decide (q.ep ≤ q.to) = false := decide_eq_false c2'
    cases d4 : decide (q.ix ≥ 0)
    all_goals
      refine mk_of ?_; repeat' (first | (with_reducible first | refine gw_seq ?_ | refine gw_block ?_) | ((first | (with_reducible refine mk_to ?_) | (with_reducible first | refine gw_region ?_ | refine gw_if ?_ | refine gw_skip ?_ | refine gw_exit ?_ | refine gw_ret ?_) | ((with_reducible first | refine gif_b (fun hb => ?_) (fun hb => ?_) | refine want_t (fun hb => ?_) (fun hb => ?_) | refine want_f (fun hb => ?_) (fun hb => ?_) | refine dr_t (fun hb => ?_) (fun hb => ?_) | refine dr_f (fun hb => ?_) (fun hb => ?_)) <;> (try simp only [hb]) <;> (try simp only [hpr] at hb)) | with_reducible refine gw_draw (id := 3) [(0, []), (1, []), (2, []), (3, []), (4, []), (5, []), (6, []), (7, []), (8, []), (9, []), (10, []), (11, []), (12, []), (13, []), (14, []), (15, []), (16, []), (17, []), (18, []), (19, []), (20, []), (21, []), (22, []), (23, []), (24, []), (25, []), (26, []), (27, []), (28, []), (29, []), (30, []), (31, []), (32, [])] [0, 1, 0, 4, 15, 31, 63, 127, 63, 319, 1023, 2047, 4095, 8191, 16383, 32767, 65535, 131071, 262143, 524287, 262143, 1310719, 3407871, 7602175, 262143, 17039359, 66322431, 133431295, 267649023, 536084479, 1073741823, 2147483647, 4294967295] mixed (by kernel_rfl) ?_) <;> try simp only [gop, gyield, gLenX, gNilM, gField, gIndexV, gPart, reduceIte, seval, Int.cast_ofNat_Int, stz, stp, isEff, sgl, sty, stq, Try.underlying89, ty23, ty24, ty88, ty136, ty62, ty65, ty91, ty99, ty3, ty4, ty89, rs113, gNil, gload1 m1 sz3, d1, d2, d3, d4, gPick, List.getElem?_cons_zero, List.getElem?_cons_succ]))
      exact ⟨rfl, s1⟩
  have d3 : decide (q.ep ≤ q.to) = true := decide_eq_true c2'
  cases d4 : decide (q.ix ≥ 0)
  case false =>
    refine mk_of ?_; repeat' (first | (with_reducible first | refine gw_seq ?_ | refine gw_block ?_) | ((first | (with_reducible refine mk_to ?_) | (with_reducible first | refine gw_region ?_ | refine gw_if ?_ | refine gw_skip ?_ | refine gw_exit ?_ | refine gw_ret ?_) | ((with_reducible first | refine gif_b (fun hb => ?_) (fun hb => ?_) | refine want_t (fun hb => ?_) (fun hb => ?_) | refine want_f (fun hb => ?_) (fun hb => ?_) | refine dr_t (fun hb => ?_) (fun hb => ?_) | refine dr_f (fun hb => ?_) (fun hb => ?_)) <;> (try simp only [hb]) <;> (try simp only [hpr] at hb)) | with_reducible refine gw_draw (id := 3) [(0, []), (1, []), (2, []), (3, []), (4, []), (5, []), (6, []), (7, []), (8, []), (9, []), (10, []), (11, []), (12, []), (13, []), (14, []), (15, []), (16, []), (17, []), (18, []), (19, []), (20, []), (21, []), (22, []), (23, []), (24, []), (25, []), (26, []), (27, []), (28, []), (29, []), (30, []), (31, []), (32, [])] [0, 1, 0, 4, 15, 31, 63, 127, 63, 319, 1023, 2047, 4095, 8191, 16383, 32767, 65535, 131071, 262143, 524287, 262143, 1310719, 3407871, 7602175, 262143, 17039359, 66322431, 133431295, 267649023, 536084479, 1073741823, 2147483647, 4294967295] mixed (by kernel_rfl) ?_) <;> try simp only [gop, gyield, gLenX, gNilM, gField, gIndexV, gPart, reduceIte, seval, Int.cast_ofNat_Int, stz, stp, isEff, sgl, sty, stq, Try.underlying89, ty23, ty24, ty88, ty136, ty62, ty65, ty91, ty99, ty3, ty4, ty89, rs113, gNil, gload1 m1 sz3, d1, d2, d3, d4, gPick, List.getElem?_cons_zero, List.getElem?_cons_succ]))
    exact ⟨rfl, s1⟩
  obtain ⟨e, he⟩ : ∃ e : Nat, q.ep = (e : Int) := ⟨q.ep.toNat, by omega⟩
  have hlt : e < M.length := by omega
  obtain ⟨y, hy⟩ : ∃ y, M[e]? = some y := ⟨_, List.getElem?_eq_getElem hlt⟩
  obtain ⟨vb, hvb, bt⟩ := x1.eps _ _ hy
  have hvb1 : cs[e * 2 + 1]? = some vb := by
    have : ((cs.drop (e * 2)).take 2)[1]? = some vb := by rw [hvb]; rfl
    rw [List.getElem?_take, if_pos (by decide), List.getElem?_drop] at this
    exact this
  obtain ⟨ab, cb, eb⟩ : ∃ a c, vb = .slice a y.2.length c := by
    obtain ⟨ds, o, _⟩ := bt
    exact o.form
  subst eb
  obtain ⟨ke, tle, ge, hke⟩ := x1.ep.at (P := Try.prog) Try.underlying88 sz136 hlt
  rw [ee] at ge
  have hb : bOf M q.ep.toNat = y.2 := by rw [he]; exact bOf_get hy
  rw [hb]
  rw [he] at d2 d3
  refine mk_of ?_; repeat' (first | (with_reducible first | refine gw_seq ?_ | refine gw_block ?_) | ((first | (with_reducible refine mk_to ?_) | (with_reducible first | refine gw_region ?_ | refine gw_if ?_ | refine gw_skip ?_ | refine gw_exit ?_ | refine gw_ret ?_) | ((with_reducible first | refine gif_b (fun hb => ?_) (fun hb => ?_) | refine want_t (fun hb => ?_) (fun hb => ?_) | refine want_f (fun hb => ?_) (fun hb => ?_) | refine dr_t (fun hb => ?_) (fun hb => ?_) | refine dr_f (fun hb => ?_) (fun hb => ?_)) <;> (try simp only [hb]) <;> (try simp only [hpr] at hb)) | with_reducible refine gw_draw (id := 3) [(0, []), (1, []), (2, []), (3, []), (4, []), (5, []), (6, []), (7, []), (8, []), (9, []), (10, []), (11, []), (12, []), (13, []), (14, []), (15, []), (16, []), (17, []), (18, []), (19, []), (20, []), (21, []), (22, []), (23, []), (24, []), (25, []), (26, []), (27, []), (28, []), (29, []), (30, []), (31, []), (32, [])] [0, 1, 0, 4, 15, 31, 63, 127, 63, 319, 1023, 2047, 4095, 8191, 16383, 32767, 65535, 131071, 262143, 524287, 262143, 1310719, 3407871, 7602175, 262143, 17039359, 66322431, 133431295, 267649023, 536084479, 1073741823, 2147483647, 4294967295] mixed (by kernel_rfl) ?_) <;> try simp only [gop, gyield, gLenX, gNilM, gField, gIndexV, gPart, reduceIte, seval, Int.cast_ofNat_Int, stz, stp, isEff, sgl, sty, stq, Try.underlying89, ty23, ty24, ty88, ty136, ty62, ty65, ty91, ty99, ty3, ty4, ty89, rs113, gNil, he, gload1 m1 sz3, gload1 ho sz88, ge, gload1 hke sz23, hvb1, d1, d2, d3, d4, gPick, Bool.true_and, List.getElem?_cons_zero, List.getElem?_cons_succ]))
  exact s1

/-- What a feed answers. -/
def feedA (M : List (Int × List Bnd)) (q : Ak) : An :=
  if curOk M q = true then
    match ((evA M q.ep.toNat (q.to + 1 - q.ep).toNat).drop q.ix.toNat)[q.lm.toNat]? with
    | none => { evs := (evA M q.ep.toNat (q.to + 1 - q.ep).toNat).drop q.ix.toNat }
    | some z => { evs := ((evA M q.ep.toNat (q.to + 1 - q.ep).toNat).drop q.ix.toNat).take q.lm.toNat, more := true, ep := (z.1 : Int), si := (z.2.1 : Int) }
  else { code := 85 }
theorem fed_zero (M : List (Int × List Bnd)) (ep ix : Nat) : fed M ep ix ep 0 = [] := by simp [fed, evA]
theorem fed_next (M : List (Int × List Bnd)) {ep ix e : Nat} (h : ep ≤ e) : fed M ep ix e (bOf M e).length = fed M ep ix (e + 1) 0 := by
  unfold fed
  rw [show e + 1 - ep = (e - ep) + 1 by omega, evA_succ, List.take_zero, List.append_nil, show ep + (e - ep) = e by omega]
  rw [List.take_of_length_le (by rw [evs1_len]; exact Nat.le_refl _)]
theorem evA_len_le (M : List (Int × List Bnd)) {ep e ix : Nat} (he : ep < e) (hx : ix < (bOf M ep).length) : ix ≤ (evA M ep (e - ep)).length := by
  rw [show e - ep = (e - ep - 1) + 1 by omega, evA_cons, List.length_append, evs1_len]
  omega
theorem fed_skip (M : List (Int × List Bnd)) {ep ix i : Nat} (h : i < ix) (hx : ix < (bOf M ep).length) : fed M ep ix ep (i + 1) = fed M ep ix ep i := by
  unfold fed
  have : evA M ep (ep - ep) = [] := by simp [evA]
  rw [this, List.nil_append, List.nil_append, List.drop_eq_nil_of_le (by rw [List.length_take]; omega), List.drop_eq_nil_of_le (by rw [List.length_take]; omega)]
theorem fed_step (M : List (Int × List Bnd)) {ep ix e i : Nat} (he : ep ≤ e) (hi : i < (bOf M e).length) (h : e = ep → ix ≤ i) (hx : ix < (bOf M ep).length) : fed M ep ix e (i + 1) = fed M ep ix e i ++ [(e, i, bat1 (bOf M e) i)] := by
  unfold fed
  have hg := evs1_get (e := e) hi
  rw [List.take_add_one, hg, ← List.append_assoc, List.drop_append_of_le_length]
  · rfl
  · rw [List.length_append, List.length_take, evs1_len]
    by_cases h0 : e = ep
    · have := h h0; omega
    · have := evA_len_le M (show ep < e by omega) hx; omega
theorem fed_pre (M : List (Int × List Bnd)) {ep ix e i to : Nat} (he : ep ≤ e) (het : e ≤ to) (hi : i < (bOf M e).length) (h : e = ep → ix ≤ i) (hx : ix < (bOf M ep).length) : ∃ r, (evA M ep (to + 1 - ep)).drop ix = fed M ep ix e i ++ (e, i, bat1 (bOf M e) i) :: r := by
  have h1 : evA M ep (to + 1 - ep) = evA M ep (e - ep) ++ evA M e (to + 1 - e) := by
    rw [show to + 1 - ep = (e - ep) + (to + 1 - e) by omega, evA_split, show ep + (e - ep) = e by omega]
  have h2 : evA M e (to + 1 - e) = evs1 e (bOf M e) ++ evA M (e + 1) (to - e) := by
    rw [show to + 1 - e = (to - e) + 1 by omega, evA_cons]
  have hil : i < (evs1 e (bOf M e)).length := by rw [evs1_len]; exact hi
  have h3 : evs1 e (bOf M e) = (evs1 e (bOf M e)).take i ++ (e, i, bat1 (bOf M e) i) :: (evs1 e (bOf M e)).drop (i + 1) := by
    conv => lhs; rw [← List.take_append_drop i (evs1 e (bOf M e))]
    rw [List.drop_eq_getElem_cons hil]
    have := (List.getElem?_eq_some_iff.1 (evs1_get (e := e) hi)).2
    rw [this]
  refine ⟨(evs1 e (bOf M e)).drop (i + 1) ++ evA M (e + 1) (to - e), ?_⟩
  unfold fed
  rw [h1, h2]
  have hl : ix ≤ (evA M ep (e - ep) ++ (evs1 e (bOf M e)).take i).length := by
    rw [List.length_append, List.length_take, evs1_len]
    by_cases h0 : e = ep
    · have := h h0; omega
    · have := evA_len_le M (show ep < e by omega) hx; omega
  have hS : ∀ (A R : List (Nat × Nat × Bnd)), A ++ (evs1 e (bOf M e) ++ R) = (A ++ (evs1 e (bOf M e)).take i) ++ (e, i, bat1 (bOf M e) i) :: ((evs1 e (bOf M e)).drop (i + 1) ++ R) := fun A R => by
    conv => lhs; rw [h3]
    simp only [List.append_assoc, List.cons_append]
  rw [hS, List.drop_append_of_le_length hl]

theorem c_feed (N : Nat) {h0 h : GH} {k j : Nat} {p : Pm} {ew : Value} {cs l : List Value} {M : List (Int × List Bnd)} {ck : Int} {n : Nat} (x : IM h0 h k j p ew cs l M ck n) (q : Ak) (h1 : 0 ≤ q.fr) (h2 : q.fr ≤ q.to) (h3 : q.to < (M.length : Int)) (h4 : 1 ≤ q.lm ∧ q.lm ≤ 32)
    {c1 c4 c5 c9 : Value} (hc : [c1, c4, c5, c9].all isCell = true) :
    GTri Try.prog N 76 [.pointer (some ⟨k, 0, none⟩), .agg #[.int .i64 q.kd, c1, .int .i64 q.fr, .int .i64 q.to, c4, c5, .int .i64 q.ep, .int .i64 q.ix, .int .i64 q.lm, c9]] h fun v h' => RAn h' v (feedA M q) ∧ HS h h' := by
  have hML := x.len
  have hc' : [c1, c4, c5, .int .i64 q.lm, c9].all isCell = true := by simpa [isCell] using hc
  refine gtri Try.func76 rfl gf76 ok76 (by simp [Try.ntmps76]) ?_
  repeat' (first | (with_reducible first | refine gw_seq ?_ | refine gw_block ?_) | ((first | (with_reducible first | refine gw_region ?_ | refine gw_if ?_ | refine gw_skip ?_ | refine gw_exit ?_ | refine gw_ret ?_) | ((with_reducible first | refine gif_b (fun hb => ?_) (fun hb => ?_) | refine want_t (fun hb => ?_) (fun hb => ?_) | refine want_f (fun hb => ?_) (fun hb => ?_) | refine dr_t (fun hb => ?_) (fun hb => ?_) | refine dr_f (fun hb => ?_) (fun hb => ?_)) <;> (try simp only [hb]) <;> (try simp only [hpr] at hb)) | with_reducible refine gw_draw (id := 10) [(0, []), (1, []), (2, []), (3, []), (4, []), (5, []), (7, []), (8, []), (6, [1, 8]), (9, [1]), (10, []), (11, [1]), (12, []), (13, []), (14, [])] [0, 1, 0, 0, 0, 16, 48, 0, 128, 496, 1020, 2044, 4095, 8191, 16383] mixed (by kernel_rfl) ?_) <;> try simp only [gop, gyield, gLenX, gNilM, gField, gIndexV, gPart, reduceIte, seval, Int.cast_ofNat_Int, stz, stp, isEff, sgl, sty, stq, Try.underlying89, ty23, ty24, ty36, ty68, ty88, ty136, ty33, ty62, ty65, ty70, ty91, ty99, ty29, ty3, ty4, ty5, ty63, ty89, rs76]))
  refine box_g (by simpa [isCell] using hc) fun k1 hh1 m1 s1 f1 n1 => ?_
  refine mk_of ?_; repeat' (first | (with_reducible first | refine gw_seq ?_ | refine gw_block ?_) | ((first | (with_reducible refine mk_to ?_) | (with_reducible first | refine gw_region ?_ | refine gw_if ?_ | refine gw_skip ?_ | refine gw_exit ?_ | refine gw_ret ?_) | ((with_reducible first | refine gif_b (fun hb => ?_) (fun hb => ?_) | refine want_t (fun hb => ?_) (fun hb => ?_) | refine want_f (fun hb => ?_) (fun hb => ?_) | refine dr_t (fun hb => ?_) (fun hb => ?_) | refine dr_f (fun hb => ?_) (fun hb => ?_)) <;> (try simp only [hb]) <;> (try simp only [hpr] at hb)) | with_reducible refine gw_draw (id := 10) [(0, []), (1, []), (2, []), (3, []), (4, []), (5, []), (7, []), (8, []), (6, [1, 8]), (9, [1]), (10, []), (11, [1]), (12, []), (13, []), (14, [])] [0, 1, 0, 0, 0, 16, 48, 0, 128, 496, 1020, 2044, 4095, 8191, 16383] mixed (by kernel_rfl) ?_) <;> try simp only [gop, gyield, gLenX, gNilM, gField, gIndexV, gPart, reduceIte, seval, Int.cast_ofNat_Int, stz, stp, isEff, sgl, sty, stq, Try.underlying89, ty23, ty24, ty36, ty68, ty88, ty136, ty33, ty62, ty65, ty70, ty91, ty99, ty29, ty3, ty4, ty5, ty63, ty89, rs76]))
  refine new_g fun k2 hh2 m2 s2 f2 n2 => ?_
  replace m1 := s2 _ _ m1
  have s12 := s1.trans s2
  have n2' := s1.none_of n2
  refine mk_of ?_; repeat' (first | (with_reducible first | refine gw_seq ?_ | refine gw_block ?_) | ((first | (with_reducible refine mk_to ?_) | (with_reducible first | refine gw_region ?_ | refine gw_if ?_ | refine gw_skip ?_ | refine gw_exit ?_ | refine gw_ret ?_) | ((with_reducible first | refine gif_b (fun hb => ?_) (fun hb => ?_) | refine want_t (fun hb => ?_) (fun hb => ?_) | refine want_f (fun hb => ?_) (fun hb => ?_) | refine dr_t (fun hb => ?_) (fun hb => ?_) | refine dr_f (fun hb => ?_) (fun hb => ?_)) <;> (try simp only [hb]) <;> (try simp only [hpr] at hb)) | with_reducible refine gw_draw (id := 10) [(0, []), (1, []), (2, []), (3, []), (4, []), (5, []), (7, []), (8, []), (6, [1, 8]), (9, [1]), (10, []), (11, [1]), (12, []), (13, []), (14, [])] [0, 1, 0, 0, 0, 16, 48, 0, 128, 496, 1020, 2044, 4095, 8191, 16383] mixed (by kernel_rfl) ?_) <;> try simp only [gop, gyield, gLenX, gNilM, gField, gIndexV, gPart, reduceIte, seval, Int.cast_ofNat_Int, stz, stp, isEff, sgl, sty, stq, Try.underlying89, ty23, ty24, ty36, ty68, ty88, ty136, ty33, ty62, ty65, ty70, ty91, ty99, ty29, ty3, ty4, ty5, ty63, ty89, rs76, gloadA m1 sz62 rfl]))
  refine (c_cursor N (x.hs s12) q h1 h2 h3 hc').mono ?_
  rintro _ hh3 ⟨rfl, s3⟩
  replace m1 := s3 _ _ m1
  replace m2 := s3 _ _ m2
  have s03 := s12.trans s3
  unfold feedA
  by_cases hcu : curOk M q = true
  case neg =>
    have hcu' : curOk M q = false := by simpa using hcu
    rw [if_neg hcu]
    refine mk_of ?_; repeat' (first | (with_reducible first | refine gw_seq ?_ | refine gw_block ?_) | ((first | (with_reducible refine mk_to ?_) | (with_reducible first | refine gw_region ?_ | refine gw_if ?_ | refine gw_skip ?_ | refine gw_exit ?_ | refine gw_ret ?_) | ((with_reducible first | refine gif_b (fun hb => ?_) (fun hb => ?_) | refine want_t (fun hb => ?_) (fun hb => ?_) | refine want_f (fun hb => ?_) (fun hb => ?_) | refine dr_t (fun hb => ?_) (fun hb => ?_) | refine dr_f (fun hb => ?_) (fun hb => ?_)) <;> (try simp only [hb]) <;> (try simp only [hpr] at hb)) | with_reducible refine gw_draw (id := 10) [(0, []), (1, []), (2, []), (3, []), (4, []), (5, []), (7, []), (8, []), (6, [1, 8]), (9, [1]), (10, []), (11, [1]), (12, []), (13, []), (14, [])] [0, 1, 0, 0, 0, 16, 48, 0, 128, 496, 1020, 2044, 4095, 8191, 16383] mixed (by kernel_rfl) ?_) <;> try simp only [gop, gyield, gLenX, gNilM, gField, gIndexV, gPart, reduceIte, seval, Int.cast_ofNat_Int, stz, stp, isEff, sgl, sty, stq, Try.underlying89, ty23, ty24, ty36, ty68, ty88, ty136, ty33, ty62, ty65, ty70, ty91, ty99, ty29, ty3, ty4, ty5, ty63, ty89, rs76, hcu', Bool.not_false, gBuild, lfill, lput, Shape.pl, List.all_cons, List.all_nil, isCell]))
    refine st_all m2 sz70 rfl (by decide) rfl rfl rfl fun hh4 m4 f4 => ?_
    refine mk_of ?_; repeat' (first | (with_reducible first | refine gw_seq ?_ | refine gw_block ?_) | ((first | (with_reducible refine mk_to ?_) | (with_reducible first | refine gw_region ?_ | refine gw_if ?_ | refine gw_skip ?_ | refine gw_exit ?_ | refine gw_ret ?_) | ((with_reducible first | refine gif_b (fun hb => ?_) (fun hb => ?_) | refine want_t (fun hb => ?_) (fun hb => ?_) | refine want_f (fun hb => ?_) (fun hb => ?_) | refine dr_t (fun hb => ?_) (fun hb => ?_) | refine dr_f (fun hb => ?_) (fun hb => ?_)) <;> (try simp only [hb]) <;> (try simp only [hpr] at hb)) | with_reducible refine gw_draw (id := 10) [(0, []), (1, []), (2, []), (3, []), (4, []), (5, []), (7, []), (8, []), (6, [1, 8]), (9, [1]), (10, []), (11, [1]), (12, []), (13, []), (14, [])] [0, 1, 0, 0, 0, 16, 48, 0, 128, 496, 1020, 2044, 4095, 8191, 16383] mixed (by kernel_rfl) ?_) <;> try simp only [gop, gyield, gLenX, gNilM, gField, gIndexV, gPart, reduceIte, seval, Int.cast_ofNat_Int, stz, stp, isEff, sgl, sty, stq, Try.underlying89, ty23, ty24, ty36, ty68, ty88, ty136, ty33, ty62, ty65, ty70, ty91, ty99, ty29, ty3, ty4, ty5, ty63, ty89, rs76, gloadA m4 sz70 rfl]))
    exact ⟨RAn.zero hh4 85 0, s03.upd n2' f4⟩
  rw [if_pos hcu]
  refine mk_of ?_; repeat' (first | (with_reducible first | refine gw_seq ?_ | refine gw_block ?_) | ((first | (with_reducible refine mk_to ?_) | (with_reducible first | refine gw_region ?_ | refine gw_if ?_ | refine gw_skip ?_ | refine gw_exit ?_ | refine gw_ret ?_) | ((with_reducible first | refine gif_b (fun hb => ?_) (fun hb => ?_) | refine want_t (fun hb => ?_) (fun hb => ?_) | refine want_f (fun hb => ?_) (fun hb => ?_) | refine dr_t (fun hb => ?_) (fun hb => ?_) | refine dr_f (fun hb => ?_) (fun hb => ?_)) <;> (try simp only [hb]) <;> (try simp only [hpr] at hb)) | with_reducible refine gw_draw (id := 10) [(0, []), (1, []), (2, []), (3, []), (4, []), (5, []), (7, []), (8, []), (6, [1, 8]), (9, [1]), (10, []), (11, [1]), (12, []), (13, []), (14, [])] [0, 1, 0, 0, 0, 16, 48, 0, 128, 496, 1020, 2044, 4095, 8191, 16383] mixed (by kernel_rfl) ?_) <;> try simp only [gop, gyield, gLenX, gNilM, gField, gIndexV, gPart, reduceIte, seval, Int.cast_ofNat_Int, stz, stp, isEff, sgl, sty, stq, Try.underlying89, ty23, ty24, ty36, ty68, ty88, ty136, ty33, ty62, ty65, ty70, ty91, ty99, ty29, ty3, ty4, ty5, ty63, ty89, rs76, hcu, Bool.not_true]))
  refine new_g fun k5 hh5 m5 s5 f5 n5 => ?_
  have m15 := s5 _ _ m1
  have m25 := s5 _ _ m2
  have s05 := s03.trans s5
  have n5' := s03.none_of n5
  refine mk_of ?_; repeat' (first | (with_reducible first | refine gw_seq ?_ | refine gw_block ?_) | ((first | (with_reducible refine mk_to ?_) | (with_reducible first | refine gw_region ?_ | refine gw_if ?_ | refine gw_skip ?_ | refine gw_exit ?_ | refine gw_ret ?_) | ((with_reducible first | refine gif_b (fun hb => ?_) (fun hb => ?_) | refine want_t (fun hb => ?_) (fun hb => ?_) | refine want_f (fun hb => ?_) (fun hb => ?_) | refine dr_t (fun hb => ?_) (fun hb => ?_) | refine dr_f (fun hb => ?_) (fun hb => ?_)) <;> (try simp only [hb]) <;> (try simp only [hpr] at hb)) | with_reducible refine gw_draw (id := 10) [(0, []), (1, []), (2, []), (3, []), (4, []), (5, []), (7, []), (8, []), (6, [1, 8]), (9, [1]), (10, []), (11, [1]), (12, []), (13, []), (14, [])] [0, 1, 0, 0, 0, 16, 48, 0, 128, 496, 1020, 2044, 4095, 8191, 16383] mixed (by kernel_rfl) ?_) <;> try simp only [gop, gyield, gLenX, gNilM, gField, gIndexV, gPart, reduceIte, seval, Int.cast_ofNat_Int, stz, stp, isEff, sgl, sty, stq, Try.underlying89, ty23, ty24, ty36, ty68, ty88, ty136, ty33, ty62, ty65, ty70, ty91, ty99, ty29, ty3, ty4, ty5, ty63, ty89, rs76, gload1 m15 sz3, List.getElem?_cons_zero, List.getElem?_cons_succ]))
  obtain ⟨ep, hep⟩ : ∃ ep : Nat, q.ep = (ep : Int) := ⟨q.ep.toNat, by
    unfold curOk at hcu
    by_cases e1 : q.fr = q.to
    · rw [if_pos e1] at hcu
      simp at hcu
      omega
    · rw [if_neg e1] at hcu
      simp at hcu
      omega⟩
  obtain ⟨ix, hix⟩ : ∃ ix : Nat, q.ix = (ix : Int) := ⟨q.ix.toNat, by
    unfold curOk at hcu
    by_cases e1 : q.fr = q.to
    · rw [if_pos e1] at hcu
      simp at hcu
      omega
    · rw [if_neg e1] at hcu
      simp at hcu
      omega⟩
  obtain ⟨to, hto⟩ : ∃ to : Nat, q.to = (to : Int) := ⟨q.to.toNat, by omega⟩
  obtain ⟨lm, hlm⟩ : ∃ lm : Nat, q.lm = (lm : Int) := ⟨q.lm.toNat, by omega⟩
  have hle : ep ≤ to + 1 := by
    unfold curOk at hcu
    by_cases e1 : q.fr = q.to
    · rw [if_pos e1] at hcu
      simp at hcu
      omega
    · rw [if_neg e1] at hcu
      simp at hcu
      omega
  have hxb : ep ≤ to → ix < (bOf M ep).length := fun hle2 => by
    unfold curOk at hcu
    by_cases e1 : q.fr = q.to
    · rw [if_pos e1] at hcu
      simp at hcu
      omega
    · rw [if_neg e1, hep] at hcu
      simp at hcu
      omega
  have eto : (q.to + 1 - q.ep).toNat = to + 1 - ep := by omega
  rw [eto, hep, hix, hlm, Int.toNat_natCast, Int.toNat_natCast, Int.toNat_natCast]
  have hto' : to < M.length := by omega
  have z9 : h k1 = none := n1
  have kk : k1 ≠ k2 := fun q => by subst q; rw [m1] at m2; simp at m2
  have k5k1 : k5 ≠ k1 := fun q => by subst q; rw [m1] at n5; cases n5
  have k5k2 : k5 ≠ k2 := fun q => by subst q; rw [m2] at n5; cases n5
  have b0 : ∀ e, e ≤ to → (bOf M e).length ≤ 32 := fun e he => by
    obtain ⟨y, hy⟩ : ∃ y, M[e]? = some y := ⟨_, List.getElem?_eq_getElem (by omega)⟩
    rw [bOf_get hy]
    exact (x.bl y (List.mem_of_getElem? hy)).2
  let Iv : Nat → Nat → GH → Prop := fun e i h' => HS h h' ∧ h' k1 = hh5 k1 ∧ h' k2 = hh5 k2 ∧ (fed M ep ix e i).length ≤ lm ∧ ∃ a c, h' k5 = some ⟨[.int .i64 0, .int .i64 0, .bool false, .bool false, .slice none 0 0, .int .i64 0, .slice none 0 0, .slice a (fed M ep ix e i).length c, .bool false], 0, true, false⟩ ∧ Evs h h' (.slice a (fed M ep ix e i).length c) (fed M ep ix e i)
  have hIv : ∀ e i h', Iv e i h' = (HS h h' ∧ h' k1 = hh5 k1 ∧ h' k2 = hh5 k2 ∧ (fed M ep ix e i).length ≤ lm ∧ ∃ a c, h' k5 = some ⟨[.int .i64 0, .int .i64 0, .bool false, .bool false, .slice none 0 0, .int .i64 0, .slice none 0 0, .slice a (fed M ep ix e i).length c, .bool false], 0, true, false⟩ ∧ Evs h h' (.slice a (fed M ep ix e i).length c) (fed M ep ix e i)) := fun _ _ _ => rfl
  clear_value Iv
  refine gw_loop2 [0, 3, 4, 5] (fun (e : Nat) => [(6, .int .i64 (e : Int))]) (fun q e h' => to + 1 - e = q ∧ ep ≤ e ∧ e ≤ to + 1 ∧ Iv e 0 h') (to + 1 - ep) ep (by simp [lk]) ⟨rfl, Nat.le_refl _, hle, ?_⟩ ?_
  · rw [hIv, fed_zero]
    exact ⟨s05, rfl, rfl, by simp, none, 0, m5, [], OWNC.nil _ _ _, rfl, fun i p hp => by simp at hp⟩
  rintro _ e hh6 ⟨rfl, hepe, heto, iv⟩
  rw [hIv] at iv
  obtain ⟨s6, e16, e26, hlen, a6, c6, m56, ev6⟩ := iv
  have m16 := e16.trans m15
  have m26 := e26.trans m25
  by_cases het : e ≤ to
  case neg =>
    obtain rfl : e = to + 1 := by omega
    have d3 : decide (((to + 1 : Nat) : Int) ≤ q.to) = false := decide_eq_false (by omega)
    refine mk_of ?_; repeat' (first | (with_reducible first | refine gw_seq ?_ | refine gw_block ?_) | ((first | (with_reducible refine mk_to ?_) | (with_reducible first | refine gw_region ?_ | refine gw_if ?_ | refine gw_skip ?_ | refine gw_exit ?_ | refine gw_ret ?_) | ((with_reducible first | refine gif_b (fun hb => ?_) (fun hb => ?_) | refine want_t (fun hb => ?_) (fun hb => ?_) | refine want_f (fun hb => ?_) (fun hb => ?_) | refine dr_t (fun hb => ?_) (fun hb => ?_) | refine dr_f (fun hb => ?_) (fun hb => ?_)) <;> (try simp only [hb]) <;> (try simp only [hpr] at hb)) | with_reducible refine gw_draw (id := 10) [(0, []), (1, []), (2, []), (3, []), (4, []), (5, []), (7, []), (8, []), (6, [1, 8]), (9, [1]), (10, []), (11, [1]), (12, []), (13, []), (14, [])] [0, 1, 0, 0, 0, 16, 48, 0, 128, 496, 1020, 2044, 4095, 8191, 16383] mixed (by kernel_rfl) ?_) <;> try simp only [gop, gyield, gLenX, gNilM, gField, gIndexV, gPart, reduceIte, seval, Int.cast_ofNat_Int, stz, stp, isEff, sgl, sty, stq, Try.underlying89, ty23, ty24, ty36, ty68, ty88, ty136, ty33, ty62, ty65, ty70, ty91, ty99, ty29, ty3, ty4, ty5, ty63, ty89, rs76, gload1 m16 sz3, d3, gloadA m56 sz70 rfl, List.getElem?_cons_zero, List.getElem?_cons_succ]))
    refine st_all m26 sz70 rfl (by decide) rfl rfl rfl fun hh7 m7 f7 => ?_
    refine mk_of ?_; repeat' (first | (with_reducible first | refine gw_seq ?_ | refine gw_block ?_) | ((first | (with_reducible refine mk_to ?_) | (with_reducible first | refine gw_region ?_ | refine gw_if ?_ | refine gw_skip ?_ | refine gw_exit ?_ | refine gw_ret ?_) | ((with_reducible first | refine gif_b (fun hb => ?_) (fun hb => ?_) | refine want_t (fun hb => ?_) (fun hb => ?_) | refine want_f (fun hb => ?_) (fun hb => ?_) | refine dr_t (fun hb => ?_) (fun hb => ?_) | refine dr_f (fun hb => ?_) (fun hb => ?_)) <;> (try simp only [hb]) <;> (try simp only [hpr] at hb)) | with_reducible refine gw_draw (id := 10) [(0, []), (1, []), (2, []), (3, []), (4, []), (5, []), (7, []), (8, []), (6, [1, 8]), (9, [1]), (10, []), (11, [1]), (12, []), (13, []), (14, [])] [0, 1, 0, 0, 0, 16, 48, 0, 128, 496, 1020, 2044, 4095, 8191, 16383] mixed (by kernel_rfl) ?_) <;> try simp only [gop, gyield, gLenX, gNilM, gField, gIndexV, gPart, reduceIte, seval, Int.cast_ofNat_Int, stz, stp, isEff, sgl, sty, stq, Try.underlying89, ty23, ty24, ty36, ty68, ty88, ty136, ty33, ty62, ty65, ty70, ty91, ty99, ty29, ty3, ty4, ty5, ty63, ty89, rs76, gloadA m7 sz70 rfl]))
    have hT : fed M ep ix (to + 1) 0 = (evA M ep (to + 1 - ep)).drop ix := by unfold fed; rw [List.take_zero, List.append_nil]
    rw [hT] at hlen ev6 ⊢
    have hn : ((evA M ep (to + 1 - ep)).drop ix)[lm]? = none := List.getElem?_eq_none (by omega)
    rw [hn]
    obtain ⟨ds, o, u, r⟩ := ev6
    have hx : HX k2 hh6 hh7 := fun j B n e => (f7 j n).trans e
    have ev7 : Evs h hh7 (.slice a6 ((evA M ep (to + 1 - ep)).drop ix).length c6) ((evA M ep (to + 1 - ep)).drop ix) := ⟨ds, o.hx m26 (by simp) hx, u, fun i p hp => by
      obtain ⟨a, c, b, d, e, r1, r2⟩ := r i p hp
      exact ⟨a, c, b, d, e, r1.hx m26 rfl hx, r2.hx m26 rfl hx⟩⟩
    exact ⟨⟨none, 0, none, 0, a6, c6, rfl, RB.nil _, RL.nil _, ev7.rl⟩, s6.upd n2' f7⟩
  have d3 : decide ((e : Int) ≤ q.to) = true := decide_eq_true (by omega)
  have x6 := x.hs s6
  obtain ⟨y, hy⟩ : ∃ y, M[e]? = some y := ⟨_, List.getElem?_eq_getElem (by omega)⟩
  have hbe : bOf M e = y.2 := bOf_get hy
  have hb32 := b0 e het
  rw [hbe] at hb32
  have hxix := hxb (by omega)
  have hys := (x.bl y (List.mem_of_getElem? hy)).1
  obtain ⟨vb, hvb, bt⟩ := x6.eps _ _ hy
  have hvb1 : cs[e * 2 + 1]? = some vb := by
    have : ((cs.drop (e * 2)).take 2)[1]? = some vb := by rw [hvb]; rfl
    rw [List.getElem?_take, if_pos (by decide), List.getElem?_drop] at this
    exact this
  obtain ⟨ab, cb, eb⟩ : ∃ a c, vb = .slice a y.2.length c := by
    obtain ⟨ds, o, _⟩ := bt
    exact o.form
  subst eb
  obtain ⟨ke, tle, ge, hke⟩ := x6.ep.at (P := Try.prog) Try.underlying88 sz136 (i := e) (by omega)
  obtain ⟨ae, ce, ee⟩ := x6.ep.form
  rw [ee] at ge
  have ho6 := x6.obj
  rw [ee] at ho6
  have rlb : RL 2 Bd h (.slice ab y.2.length cb) y.2 := by
    obtain ⟨vb2, hvb2, bt2⟩ := x.eps _ _ hy
    rw [hvb] at hvb2
    cases hvb2
    exact bt2.rl
  have wE : IntKind.i64.wrap ((e : Int) + 1) = ((e + 1 : Nat) : Int) := by rw [wrap64 (by omega) (by omega)]; omega
  have iv0 : Iv e 0 hh6 := by rw [hIv]; exact ⟨s6, e16, e26, hlen, a6, c6, m56, ev6⟩
  refine mk_of ?_; repeat' (first | (with_reducible first | refine gw_seq ?_ | refine gw_block ?_) | ((first | (with_reducible refine mk_to ?_) | (with_reducible first | refine gw_region ?_ | refine gw_if ?_ | refine gw_skip ?_ | refine gw_exit ?_ | refine gw_ret ?_) | ((with_reducible first | refine gif_b (fun hb => ?_) (fun hb => ?_) | refine want_t (fun hb => ?_) (fun hb => ?_) | refine want_f (fun hb => ?_) (fun hb => ?_) | refine dr_t (fun hb => ?_) (fun hb => ?_) | refine dr_f (fun hb => ?_) (fun hb => ?_)) <;> (try simp only [hb]) <;> (try simp only [hpr] at hb)) | with_reducible refine gw_draw (id := 10) [(0, []), (1, []), (2, []), (3, []), (4, []), (5, []), (7, []), (8, []), (6, [1, 8]), (9, [1]), (10, []), (11, [1]), (12, []), (13, []), (14, [])] [0, 1, 0, 0, 0, 16, 48, 0, 128, 496, 1020, 2044, 4095, 8191, 16383] mixed (by kernel_rfl) ?_) <;> try simp only [gop, gyield, gLenX, gNilM, gField, gIndexV, gPart, reduceIte, seval, Int.cast_ofNat_Int, stz, stp, isEff, sgl, sty, stq, Try.underlying89, ty23, ty24, ty36, ty68, ty88, ty136, ty33, ty62, ty65, ty70, ty91, ty99, ty29, ty3, ty4, ty5, ty63, ty89, rs76, gNil, gload1 m16 sz3, d3, gload1 ho6 sz88, ge, gload1 hke sz23, hvb1, List.getElem?_cons_zero, List.getElem?_cons_succ]))
  refine gw_loop2 [0, 3, 4, 5, 6, 16, 17, 18, 19, 22, 23, 24, 25, 26, 27, 28, 29, 30] (fun (i : Nat) => [(31, .int .i64 (i : Int))]) (fun q i h' => y.2.length - i = q ∧ i ≤ y.2.length ∧ Iv e i h') y.2.length 0 (by simp [lk]) ⟨rfl, by omega, iv0⟩ ?_
  clear iv0
  rintro _ i hh7 ⟨rfl, hi, iv⟩
  by_cases hib : i < y.2.length
  case neg =>
    obtain rfl : i = y.2.length := by omega
    have d4 : decide ((y.2.length : Int) < (y.2.length : Int)) = false := decide_eq_false (by omega)
    refine mk_of ?_; repeat' (first | (with_reducible first | refine gw_seq ?_ | refine gw_block ?_) | ((first | (with_reducible refine mk_to ?_) | (with_reducible first | refine gw_region ?_ | refine gw_if ?_ | refine gw_skip ?_ | refine gw_exit ?_ | refine gw_ret ?_) | ((with_reducible first | refine gif_b (fun hb => ?_) (fun hb => ?_) | refine want_t (fun hb => ?_) (fun hb => ?_) | refine want_f (fun hb => ?_) (fun hb => ?_) | refine dr_t (fun hb => ?_) (fun hb => ?_) | refine dr_f (fun hb => ?_) (fun hb => ?_)) <;> (try simp only [hb]) <;> (try simp only [hpr] at hb)) | with_reducible refine gw_draw (id := 10) [(0, []), (1, []), (2, []), (3, []), (4, []), (5, []), (7, []), (8, []), (6, [1, 8]), (9, [1]), (10, []), (11, [1]), (12, []), (13, []), (14, [])] [0, 1, 0, 0, 0, 16, 48, 0, 128, 496, 1020, 2044, 4095, 8191, 16383] mixed (by kernel_rfl) ?_) <;> try simp only [gop, gyield, gLenX, gNilM, gField, gIndexV, gPart, reduceIte, seval, Int.cast_ofNat_Int, stz, stp, isEff, sgl, sty, stq, Try.underlying89, ty23, ty24, ty36, ty68, ty88, ty136, ty33, ty62, ty65, ty70, ty91, ty99, ty29, ty3, ty4, ty5, ty63, ty89, rs76, d4, wE]))
    refine ⟨_, e + 1, ?_, (by simp only [List.forall_mem_cons, List.not_mem_nil, false_implies, implies_true, List.map, List.cons_append, List.nil_append, lk, Nat.reduceEqDiff, reduceIte, and_true, true_and]), rfl, by omega, by omega, ?_⟩
    · omega
    · have := fed_next M (ix := ix) hepe
      rw [hbe] at this
      rw [hIv] at iv ⊢
      rw [this] at iv
      exact iv
  rw [hIv] at iv
  obtain ⟨s7, e17, e27, hlen7, a7, c7, m57, ev7⟩ := iv
  have m17 := e17.trans m15
  have m27 := e27.trans m25
  have d4 : decide ((i : Int) < (y.2.length : Int)) = true := decide_eq_true (by omega)
  have wi : IntKind.i64.wrap ((i : Int) + 1) = ((i + 1 : Nat) : Int) := by rw [wrap64 (by omega) (by omega)]; omega
  obtain ⟨zz, hz⟩ : ∃ z, y.2[i]? = some z := ⟨_, List.getElem?_eq_getElem hib⟩
  have hbi : bat1 (bOf M e) i = zz := by rw [hbe]; simp [bat1, hz]
  obtain ⟨ad, cs2, g1, g2, a', n', c', b', m', d', rfl, q1, q2⟩ := (rlb.bs s7).at (P := Try.prog) Try.underlying23 sz99 hz
  have l1 : gLoad Try.prog 99 hh7 (.pointer (some ad)) = some (.agg #[.slice a' n' c', .slice b' m' d']) := by simp only [gLoad, sz99, g2]; rfl
  refine mk_of ?_; repeat' (first | (with_reducible first | refine gw_seq ?_ | refine gw_block ?_) | ((first | (with_reducible refine mk_to ?_) | (with_reducible first | refine gw_region ?_ | refine gw_if ?_ | refine gw_skip ?_ | refine gw_exit ?_ | refine gw_ret ?_) | ((with_reducible first | refine gif_b (fun hb => ?_) (fun hb => ?_) | refine want_t (fun hb => ?_) (fun hb => ?_) | refine want_f (fun hb => ?_) (fun hb => ?_) | refine dr_t (fun hb => ?_) (fun hb => ?_) | refine dr_f (fun hb => ?_) (fun hb => ?_)) <;> (try simp only [hb]) <;> (try simp only [hpr] at hb)) | with_reducible refine gw_draw (id := 10) [(0, []), (1, []), (2, []), (3, []), (4, []), (5, []), (7, []), (8, []), (6, [1, 8]), (9, [1]), (10, []), (11, [1]), (12, []), (13, []), (14, [])] [0, 1, 0, 0, 0, 16, 48, 0, 128, 496, 1020, 2044, 4095, 8191, 16383] mixed (by kernel_rfl) ?_) <;> try simp only [gop, gyield, gLenX, gNilM, gField, gIndexV, gPart, reduceIte, seval, Int.cast_ofNat_Int, stz, stp, isEff, sgl, sty, stq, Try.underlying89, ty23, ty24, ty36, ty68, ty88, ty136, ty33, ty62, ty65, ty70, ty91, ty99, ty29, ty3, ty4, ty5, ty63, ty89, rs76, d4, g1, l1]))
  refine new_g fun k8 hh8 m8 s8 f8 n8 => ?_
  refine mk_of ?_; repeat' (first | (with_reducible first | refine gw_seq ?_ | refine gw_block ?_) | ((first | (with_reducible refine mk_to ?_) | (with_reducible first | refine gw_region ?_ | refine gw_if ?_ | refine gw_skip ?_ | refine gw_exit ?_ | refine gw_ret ?_) | ((with_reducible first | refine gif_b (fun hb => ?_) (fun hb => ?_) | refine want_t (fun hb => ?_) (fun hb => ?_) | refine want_f (fun hb => ?_) (fun hb => ?_) | refine dr_t (fun hb => ?_) (fun hb => ?_) | refine dr_f (fun hb => ?_) (fun hb => ?_)) <;> (try simp only [hb]) <;> (try simp only [hpr] at hb)) | with_reducible refine gw_draw (id := 10) [(0, []), (1, []), (2, []), (3, []), (4, []), (5, []), (7, []), (8, []), (6, [1, 8]), (9, [1]), (10, []), (11, [1]), (12, []), (13, []), (14, [])] [0, 1, 0, 0, 0, 16, 48, 0, 128, 496, 1020, 2044, 4095, 8191, 16383] mixed (by kernel_rfl) ?_) <;> try simp only [gop, gyield, gLenX, gNilM, gField, gIndexV, gPart, reduceIte, seval, Int.cast_ofNat_Int, stz, stp, isEff, sgl, sty, stq, Try.underlying89, ty23, ty24, ty36, ty68, ty88, ty136, ty33, ty62, ty65, ty70, ty91, ty99, ty29, ty3, ty4, ty5, ty63, ty89, rs76]))
  refine st_all m8 sz99 rfl (by decide) rfl rfl rfl fun hh9 m9 f9 => ?_
  have s9 : HS hh7 hh9 := (HS.refl hh7).upd n8 (fun j hj => (f9 j hj).trans (f8 j hj))
  have m19 := s9 _ _ m17
  have m29 := s9 _ _ m27
  have m59 := s9 _ _ m57
  have s79 := s7.trans s9
  have ev9 := ev7.hs s9
  have iv9 : Iv e i hh9 := by rw [hIv]; exact ⟨s79, by rw [m19, m15], by rw [m29, m25], hlen7, a7, c7, m59, ev9⟩
  have dE : ((e : Int) == q.ep) = decide (e = ep) := by rw [hep, Bool.eq_iff_iff]; simp only [beq_iff_eq, decide_eq_true_eq]; omega
  have dI : decide ((i : Int) < q.ix) = decide (i < ix) := by rw [hix, Bool.eq_iff_iff]; simp only [decide_eq_true_eq]; omega
  by_cases hsk : e = ep ∧ i < ix
  · obtain ⟨rfl, hlt⟩ := hsk
    have dE' : ((e : Int) == q.ep) = true := by rw [dE]; simp
    have dI' : decide ((i : Int) < q.ix) = true := by rw [dI]; simpa using hlt
    refine mk_of ?_; repeat' (first | (with_reducible first | refine gw_seq ?_ | refine gw_block ?_) | ((first | (with_reducible refine mk_to ?_) | (with_reducible first | refine gw_region ?_ | refine gw_if ?_ | refine gw_skip ?_ | refine gw_exit ?_ | refine gw_ret ?_) | ((with_reducible first | refine gif_b (fun hb => ?_) (fun hb => ?_) | refine want_t (fun hb => ?_) (fun hb => ?_) | refine want_f (fun hb => ?_) (fun hb => ?_) | refine dr_t (fun hb => ?_) (fun hb => ?_) | refine dr_f (fun hb => ?_) (fun hb => ?_)) <;> (try simp only [hb]) <;> (try simp only [hpr] at hb)) | with_reducible refine gw_draw (id := 10) [(0, []), (1, []), (2, []), (3, []), (4, []), (5, []), (7, []), (8, []), (6, [1, 8]), (9, [1]), (10, []), (11, [1]), (12, []), (13, []), (14, [])] [0, 1, 0, 0, 0, 16, 48, 0, 128, 496, 1020, 2044, 4095, 8191, 16383] mixed (by kernel_rfl) ?_) <;> try simp only [gop, gyield, gLenX, gNilM, gField, gIndexV, gPart, reduceIte, seval, Int.cast_ofNat_Int, stz, stp, isEff, sgl, sty, stq, Try.underlying89, ty23, ty24, ty36, ty68, ty88, ty136, ty33, ty62, ty65, ty70, ty91, ty99, ty29, ty3, ty4, ty5, ty63, ty89, rs76, gload1 m19 sz3, dE', dI', gPick, wi, List.getElem?_cons_zero, List.getElem?_cons_succ]))
    refine ⟨_, i + 1, ?_, (by simp only [List.forall_mem_cons, List.not_mem_nil, false_implies, implies_true, List.map, List.cons_append, List.nil_append, lk, Nat.reduceEqDiff, reduceIte, and_true, true_and]), rfl, by omega, ?_⟩
    · omega
    · have := fed_skip M hlt hxix
      rw [hIv] at iv9 ⊢
      rw [this]
      exact iv9
  have hge : e = ep → ix ≤ i := fun h => by
    rcases Nat.lt_or_ge i ix with h' | h'
    · exact absurd ⟨h, h'⟩ hsk
    · exact h'
  have hbi' : i < (bOf M e).length := by rw [hbe]; exact hib
  have dT : ∀ (b : Bool), ((e : Int) == q.ep) = b → decide ((i : Int) < q.ix) = false ∨ b = false := fun b hb => by
    rw [dE] at hb
    by_cases h : e = ep
    · exact .inl (by rw [dI]; have := hge h; simp; omega)
    · exact .inr (by rw [← hb]; simp [h])
  obtain ⟨r, hr⟩ := fed_pre M hepe het hbi' hge hxix
  by_cases hfull : (fed M ep ix e i).length = lm
  · have d5 : (((fed M ep ix e i).length : Int) == q.lm) = true := by rw [hlm]; simp [hfull]
    have hg : ((evA M ep (to + 1 - ep)).drop ix)[lm]? = some (e, i, bat1 (bOf M e) i) := by rw [hr, ← hfull, List.getElem?_append_right (Nat.le_refl _), Nat.sub_self]; rfl
    have ht : ((evA M ep (to + 1 - ep)).drop ix).take lm = fed M ep ix e i := by rw [hr, ← hfull, List.take_left]
    rw [hg]
    simp only
    rw [ht]
    have fin : ∀ {h' : GH}, HX k5 hh9 h' → h' k5 = some ⟨[.int .i64 0, .int .i64 (e : Int), .bool false, .bool false, .slice none 0 0, .int .i64 (i : Int), .slice none 0 0, .slice a7 (fed M ep ix e i).length c7, .bool true], 0, true, false⟩ → HS h h' ∧ h' k2 = hh5 k2 ∧ Evs h h' (.slice a7 (fed M ep ix e i).length c7) (fed M ep ix e i) := by
      intro h' hx m
      refine ⟨fun j B hj => hx _ _ (fun q => by subst q; rw [n5'] at hj; cases hj) (s79 _ _ hj), ?_, ?_⟩
      · rw [m25]; exact hx _ _ (Ne.symm k5k2) m29
      · obtain ⟨ds, o, u, r⟩ := ev9
        exact ⟨ds, o.hx m59 (by simp) hx, u, fun i p hp => by
          obtain ⟨a, c, b, d, e, r1, r2⟩ := r i p hp
          exact ⟨a, c, b, d, e, r1.hx m59 rfl hx, r2.hx m59 rfl hx⟩⟩
    have sel : (((e : Int) == q.ep) = false) ∨ (((e : Int) == q.ep) = true ∧ decide ((i : Int) < q.ix) = false) := by
      cases hE : ((e : Int) == q.ep) with
      | false => exact .inl rfl
      | true => exact .inr ⟨rfl, (dT true hE).resolve_right (by simp)⟩
    rcases sel with hE | ⟨hE, dI'⟩
    all_goals
      first
      | have _ := dI'
      | have dI' := hE
      refine mk_of ?_; repeat' (first | (with_reducible first | refine gw_seq ?_ | refine gw_block ?_) | ((first | (with_reducible refine mk_to ?_) | (with_reducible first | refine gw_region ?_ | refine gw_if ?_ | refine gw_skip ?_ | refine gw_exit ?_ | refine gw_ret ?_) | ((with_reducible first | refine gif_b (fun hb => ?_) (fun hb => ?_) | refine want_t (fun hb => ?_) (fun hb => ?_) | refine want_f (fun hb => ?_) (fun hb => ?_) | refine dr_t (fun hb => ?_) (fun hb => ?_) | refine dr_f (fun hb => ?_) (fun hb => ?_)) <;> (try simp only [hb]) <;> (try simp only [hpr] at hb)) | with_reducible refine gw_draw (id := 10) [(0, []), (1, []), (2, []), (3, []), (4, []), (5, []), (7, []), (8, []), (6, [1, 8]), (9, [1]), (10, []), (11, [1]), (12, []), (13, []), (14, [])] [0, 1, 0, 0, 0, 16, 48, 0, 128, 496, 1020, 2044, 4095, 8191, 16383] mixed (by kernel_rfl) ?_) <;> try simp only [gop, gyield, gLenX, gNilM, gField, gIndexV, gPart, reduceIte, seval, Int.cast_ofNat_Int, stz, stp, isEff, sgl, sty, stq, Try.underlying89, ty23, ty24, ty36, ty68, ty88, ty136, ty33, ty62, ty65, ty70, ty91, ty99, ty29, ty3, ty4, ty5, ty63, ty89, rs76, gload1 m19 sz3, gload1 m59 sz36, hE, dI', d5, gPick, List.getElem?_cons_zero, List.getElem?_cons_succ]))
      refine st_one m59 sz4 rfl (by simp) rfl rfl fun hh10 m10 f10 => ?_
      simp only [List.set_cons_succ, List.set_cons_zero] at m10
      refine mk_of ?_; repeat' (first | (with_reducible first | refine gw_seq ?_ | refine gw_block ?_) | ((first | (with_reducible refine mk_to ?_) | (with_reducible first | refine gw_region ?_ | refine gw_if ?_ | refine gw_skip ?_ | refine gw_exit ?_ | refine gw_ret ?_) | ((with_reducible first | refine gif_b (fun hb => ?_) (fun hb => ?_) | refine want_t (fun hb => ?_) (fun hb => ?_) | refine want_f (fun hb => ?_) (fun hb => ?_) | refine dr_t (fun hb => ?_) (fun hb => ?_) | refine dr_f (fun hb => ?_) (fun hb => ?_)) <;> (try simp only [hb]) <;> (try simp only [hpr] at hb)) | with_reducible refine gw_draw (id := 10) [(0, []), (1, []), (2, []), (3, []), (4, []), (5, []), (7, []), (8, []), (6, [1, 8]), (9, [1]), (10, []), (11, [1]), (12, []), (13, []), (14, [])] [0, 1, 0, 0, 0, 16, 48, 0, 128, 496, 1020, 2044, 4095, 8191, 16383] mixed (by kernel_rfl) ?_) <;> try simp only [gop, gyield, gLenX, gNilM, gField, gIndexV, gPart, reduceIte, seval, Int.cast_ofNat_Int, stz, stp, isEff, sgl, sty, stq, Try.underlying89, ty23, ty24, ty36, ty68, ty88, ty136, ty33, ty62, ty65, ty70, ty91, ty99, ty29, ty3, ty4, ty5, ty63, ty89, rs76]))
      refine st_one m10 sz3 rfl (by simp) rfl rfl fun hh11 m11 f11 => ?_
      simp only [List.set_cons_succ, List.set_cons_zero] at m11
      refine mk_of ?_; repeat' (first | (with_reducible first | refine gw_seq ?_ | refine gw_block ?_) | ((first | (with_reducible refine mk_to ?_) | (with_reducible first | refine gw_region ?_ | refine gw_if ?_ | refine gw_skip ?_ | refine gw_exit ?_ | refine gw_ret ?_) | ((with_reducible first | refine gif_b (fun hb => ?_) (fun hb => ?_) | refine want_t (fun hb => ?_) (fun hb => ?_) | refine want_f (fun hb => ?_) (fun hb => ?_) | refine dr_t (fun hb => ?_) (fun hb => ?_) | refine dr_f (fun hb => ?_) (fun hb => ?_)) <;> (try simp only [hb]) <;> (try simp only [hpr] at hb)) | with_reducible refine gw_draw (id := 10) [(0, []), (1, []), (2, []), (3, []), (4, []), (5, []), (7, []), (8, []), (6, [1, 8]), (9, [1]), (10, []), (11, [1]), (12, []), (13, []), (14, [])] [0, 1, 0, 0, 0, 16, 48, 0, 128, 496, 1020, 2044, 4095, 8191, 16383] mixed (by kernel_rfl) ?_) <;> try simp only [gop, gyield, gLenX, gNilM, gField, gIndexV, gPart, reduceIte, seval, Int.cast_ofNat_Int, stz, stp, isEff, sgl, sty, stq, Try.underlying89, ty23, ty24, ty36, ty68, ty88, ty136, ty33, ty62, ty65, ty70, ty91, ty99, ty29, ty3, ty4, ty5, ty63, ty89, rs76]))
      refine st_one m11 sz3 rfl (by simp) rfl rfl fun hh12 m12 f12 => ?_
      simp only [List.set_cons_succ, List.set_cons_zero] at m12
      have hx12 : HX k5 hh9 hh12 := fun j B n e => ((f12 j n).trans ((f11 j n).trans (f10 j n))).trans e
      obtain ⟨s12', e212, ev12⟩ := fin hx12 m12
      have m212 := e212.trans m25
      refine mk_of ?_; repeat' (first | (with_reducible first | refine gw_seq ?_ | refine gw_block ?_) | ((first | (with_reducible refine mk_to ?_) | (with_reducible first | refine gw_region ?_ | refine gw_if ?_ | refine gw_skip ?_ | refine gw_exit ?_ | refine gw_ret ?_) | ((with_reducible first | refine gif_b (fun hb => ?_) (fun hb => ?_) | refine want_t (fun hb => ?_) (fun hb => ?_) | refine want_f (fun hb => ?_) (fun hb => ?_) | refine dr_t (fun hb => ?_) (fun hb => ?_) | refine dr_f (fun hb => ?_) (fun hb => ?_)) <;> (try simp only [hb]) <;> (try simp only [hpr] at hb)) | with_reducible refine gw_draw (id := 10) [(0, []), (1, []), (2, []), (3, []), (4, []), (5, []), (7, []), (8, []), (6, [1, 8]), (9, [1]), (10, []), (11, [1]), (12, []), (13, []), (14, [])] [0, 1, 0, 0, 0, 16, 48, 0, 128, 496, 1020, 2044, 4095, 8191, 16383] mixed (by kernel_rfl) ?_) <;> try simp only [gop, gyield, gLenX, gNilM, gField, gIndexV, gPart, reduceIte, seval, Int.cast_ofNat_Int, stz, stp, isEff, sgl, sty, stq, Try.underlying89, ty23, ty24, ty36, ty68, ty88, ty136, ty33, ty62, ty65, ty70, ty91, ty99, ty29, ty3, ty4, ty5, ty63, ty89, rs76, gloadA m12 sz70 rfl]))
      refine st_all m212 sz70 rfl (by decide) rfl rfl rfl fun hh13 m13 f13 => ?_
      refine mk_of ?_; repeat' (first | (with_reducible first | refine gw_seq ?_ | refine gw_block ?_) | ((first | (with_reducible refine mk_to ?_) | (with_reducible first | refine gw_region ?_ | refine gw_if ?_ | refine gw_skip ?_ | refine gw_exit ?_ | refine gw_ret ?_) | ((with_reducible first | refine gif_b (fun hb => ?_) (fun hb => ?_) | refine want_t (fun hb => ?_) (fun hb => ?_) | refine want_f (fun hb => ?_) (fun hb => ?_) | refine dr_t (fun hb => ?_) (fun hb => ?_) | refine dr_f (fun hb => ?_) (fun hb => ?_)) <;> (try simp only [hb]) <;> (try simp only [hpr] at hb)) | with_reducible refine gw_draw (id := 10) [(0, []), (1, []), (2, []), (3, []), (4, []), (5, []), (7, []), (8, []), (6, [1, 8]), (9, [1]), (10, []), (11, [1]), (12, []), (13, []), (14, [])] [0, 1, 0, 0, 0, 16, 48, 0, 128, 496, 1020, 2044, 4095, 8191, 16383] mixed (by kernel_rfl) ?_) <;> try simp only [gop, gyield, gLenX, gNilM, gField, gIndexV, gPart, reduceIte, seval, Int.cast_ofNat_Int, stz, stp, isEff, sgl, sty, stq, Try.underlying89, ty23, ty24, ty36, ty68, ty88, ty136, ty33, ty62, ty65, ty70, ty91, ty99, ty29, ty3, ty4, ty5, ty63, ty89, rs76, gloadA m13 sz70 rfl]))
      have hx : HX k2 hh12 hh13 := fun j B n e => (f13 j n).trans e
      obtain ⟨ds, o, u, r'⟩ := ev12
      have ev13 : Evs h hh13 (.slice a7 (fed M ep ix e i).length c7) (fed M ep ix e i) := ⟨ds, o.hx m212 (by simp) hx, u, fun i p hp => by
        obtain ⟨a, c, b, d, e, r1, r2⟩ := r' i p hp
        exact ⟨a, c, b, d, e, r1.hx m212 rfl hx, r2.hx m212 rfl hx⟩⟩
      exact ⟨⟨none, 0, none, 0, a7, c7, rfl, RB.nil _, RL.nil _, ev13.rl⟩, s12'.upd n2' f13⟩
  have hlt : (fed M ep ix e i).length < lm := by omega
  have d5 : (((fed M ep ix e i).length : Int) == q.lm) = false := by rw [hlm, beq_eq_false_iff_ne]; omega
  have sel : (((e : Int) == q.ep) = false) ∨ (((e : Int) == q.ep) = true ∧ decide ((i : Int) < q.ix) = false) := by
    cases hE : ((e : Int) == q.ep) with
    | false => exact .inl rfl
    | true => exact .inr ⟨rfl, (dT true hE).resolve_right (by simp)⟩
  have hzs := hys zz (List.mem_of_getElem? hz)
  have hnext := fed_step M hepe hbi' hge hxix
  rw [hbi] at hnext
  have e1 := (q1.hs s9).len_eq
  have e2 := (q2.hs s9).len_eq
  subst e1
  subst e2
  rcases sel with hE | ⟨hE, dI'⟩
  all_goals
    first
    | have _ := dI'
    | have dI' := hE
    refine mk_of ?_; repeat' (first | (with_reducible first | refine gw_seq ?_ | refine gw_block ?_) | ((first | (with_reducible refine mk_to ?_) | (with_reducible first | refine gw_region ?_ | refine gw_if ?_ | refine gw_skip ?_ | refine gw_exit ?_ | refine gw_ret ?_) | ((with_reducible first | refine gif_b (fun hb => ?_) (fun hb => ?_) | refine want_t (fun hb => ?_) (fun hb => ?_) | refine want_f (fun hb => ?_) (fun hb => ?_) | refine dr_t (fun hb => ?_) (fun hb => ?_) | refine dr_f (fun hb => ?_) (fun hb => ?_)) <;> (try simp only [hb]) <;> (try simp only [hpr] at hb)) | with_reducible refine gw_draw (id := 10) [(0, []), (1, []), (2, []), (3, []), (4, []), (5, []), (7, []), (8, []), (6, [1, 8]), (9, [1]), (10, []), (11, [1]), (12, []), (13, []), (14, [])] [0, 1, 0, 0, 0, 16, 48, 0, 128, 496, 1020, 2044, 4095, 8191, 16383] mixed (by kernel_rfl) ?_) <;> try simp only [gop, gyield, gLenX, gNilM, gField, gIndexV, gPart, reduceIte, seval, Int.cast_ofNat_Int, stz, stp, isEff, sgl, sty, stq, Try.underlying89, ty23, ty24, ty36, ty68, ty88, ty136, ty33, ty62, ty65, ty70, ty91, ty99, ty29, ty3, ty4, ty5, ty63, ty89, rs76, gload1 m19 sz3, gload1 m59 sz36, gload1 m9 sz24, hE, dI', d5, gPick, List.getElem?_cons_zero, List.getElem?_cons_succ]))
    refine (c_BClone N hh9 (q1.hs s9) hzs.1).mono ?_
    rintro _ hh10 ⟨s10, o10⟩
    obtain ⟨a10, c10, rfl⟩ := o10.form
    refine mk_of ?_; repeat' (first | (with_reducible first | refine gw_seq ?_ | refine gw_block ?_) | ((first | (with_reducible refine mk_to ?_) | (with_reducible first | refine gw_region ?_ | refine gw_if ?_ | refine gw_skip ?_ | refine gw_exit ?_ | refine gw_ret ?_) | ((with_reducible first | refine gif_b (fun hb => ?_) (fun hb => ?_) | refine want_t (fun hb => ?_) (fun hb => ?_) | refine want_f (fun hb => ?_) (fun hb => ?_) | refine dr_t (fun hb => ?_) (fun hb => ?_) | refine dr_f (fun hb => ?_) (fun hb => ?_)) <;> (try simp only [hb]) <;> (try simp only [hpr] at hb)) | with_reducible refine gw_draw (id := 10) [(0, []), (1, []), (2, []), (3, []), (4, []), (5, []), (7, []), (8, []), (6, [1, 8]), (9, [1]), (10, []), (11, [1]), (12, []), (13, []), (14, [])] [0, 1, 0, 0, 0, 16, 48, 0, 128, 496, 1020, 2044, 4095, 8191, 16383] mixed (by kernel_rfl) ?_) <;> try simp only [gop, gyield, gLenX, gNilM, gField, gIndexV, gPart, reduceIte, seval, Int.cast_ofNat_Int, stz, stp, isEff, sgl, sty, stq, Try.underlying89, ty23, ty24, ty36, ty68, ty88, ty136, ty33, ty62, ty65, ty70, ty91, ty99, ty29, ty3, ty4, ty5, ty63, ty89, rs76, gload1 (s10 _ _ m9) sz24, gload1 (s10 _ _ m59) sz36, List.getElem?_cons_zero, List.getElem?_cons_succ]))
    refine (c_BClone N hh10 ((q2.hs s9).hs s10) hzs.2).mono ?_
    rintro _ hh11 ⟨s11, o11⟩
    obtain ⟨a11, c11, rfl⟩ := o11.form
    have s911 := s10.trans s11
    refine mk_of ?_; repeat' (first | (with_reducible first | refine gw_seq ?_ | refine gw_block ?_) | ((first | (with_reducible refine mk_to ?_) | (with_reducible first | refine gw_region ?_ | refine gw_if ?_ | refine gw_skip ?_ | refine gw_exit ?_ | refine gw_ret ?_) | ((with_reducible first | refine gif_b (fun hb => ?_) (fun hb => ?_) | refine want_t (fun hb => ?_) (fun hb => ?_) | refine want_f (fun hb => ?_) (fun hb => ?_) | refine dr_t (fun hb => ?_) (fun hb => ?_) | refine dr_f (fun hb => ?_) (fun hb => ?_)) <;> (try simp only [hb]) <;> (try simp only [hpr] at hb)) | with_reducible refine gw_draw (id := 10) [(0, []), (1, []), (2, []), (3, []), (4, []), (5, []), (7, []), (8, []), (6, [1, 8]), (9, [1]), (10, []), (11, [1]), (12, []), (13, []), (14, [])] [0, 1, 0, 0, 0, 16, 48, 0, 128, 496, 1020, 2044, 4095, 8191, 16383] mixed (by kernel_rfl) ?_) <;> try simp only [gop, gyield, gLenX, gNilM, gField, gIndexV, gPart, reduceIte, seval, Int.cast_ofNat_Int, stz, stp, isEff, sgl, sty, stq, Try.underlying89, ty23, ty24, ty36, ty68, ty88, ty136, ty33, ty62, ty65, ty70, ty91, ty99, ty29, ty3, ty4, ty5, ty63, ty89, rs76, Bool.false_and, Bool.not_false, gload1 (s911 _ _ m9) sz24, gload1 (s911 _ _ m59) sz36, List.getElem?_cons_zero, List.getElem?_cons_succ, gBuild, lfill, lput, Shape.pl, List.all_cons, List.all_nil, isCell]))
    refine bsn1_g el36 rfl rfl (by decide) (by decide) rfl fun k12 hh12 b12 s12' f12 n12 => ?_
    have s912 := s911.trans s12'
    have s712 := s79.trans s912
    obtain ⟨ds, o12, u12, r12⟩ := ev9.hs s912
    refine mk_of ?_; repeat' (first | (with_reducible first | refine gw_seq ?_ | refine gw_block ?_) | ((first | (with_reducible refine mk_to ?_) | (with_reducible first | refine gw_region ?_ | refine gw_if ?_ | refine gw_skip ?_ | refine gw_exit ?_ | refine gw_ret ?_) | ((with_reducible first | refine gif_b (fun hb => ?_) (fun hb => ?_) | refine want_t (fun hb => ?_) (fun hb => ?_) | refine want_f (fun hb => ?_) (fun hb => ?_) | refine dr_t (fun hb => ?_) (fun hb => ?_) | refine dr_f (fun hb => ?_) (fun hb => ?_)) <;> (try simp only [hb]) <;> (try simp only [hpr] at hb)) | with_reducible refine gw_draw (id := 10) [(0, []), (1, []), (2, []), (3, []), (4, []), (5, []), (7, []), (8, []), (6, [1, 8]), (9, [1]), (10, []), (11, [1]), (12, []), (13, []), (14, [])] [0, 1, 0, 0, 0, 16, 48, 0, 128, 496, 1020, 2044, 4095, 8191, 16383] mixed (by kernel_rfl) ?_) <;> try simp only [gop, gyield, gLenX, gNilM, gField, gIndexV, gPart, reduceIte, seval, Int.cast_ofNat_Int, stz, stp, isEff, sgl, sty, stq, Try.underlying89, ty23, ty24, ty36, ty68, ty88, ty136, ty33, ty62, ty65, ty70, ty91, ty99, ty29, ty3, ty4, ty5, ty63, ty89, rs76, gload1 (s912 _ _ m9) sz24, gload1 (s912 _ _ m59) sz36, List.getElem?_cons_zero, List.getElem?_cons_succ]))
    refine append_ownc el36 Try.underlying36 rfl s712 o12 b12 rfl rfl (by omega) (by simp only [maxLen]; omega) fun v13 hh13 s13 fr13 o13 => ?_
    obtain ⟨a13, c13, rfl⟩ := o13.form
    have m513 := fr_es fr13 (s912 _ _ m59) (by simp)
    have m113 := fr_es fr13 (s912 _ _ m19) (by simp)
    have m213 := fr_es fr13 (s912 _ _ m29) (by simp)
    refine mk_of ?_; repeat' (first | (with_reducible first | refine gw_seq ?_ | refine gw_block ?_) | ((first | (with_reducible refine mk_to ?_) | (with_reducible first | refine gw_region ?_ | refine gw_if ?_ | refine gw_skip ?_ | refine gw_exit ?_ | refine gw_ret ?_) | ((with_reducible first | refine gif_b (fun hb => ?_) (fun hb => ?_) | refine want_t (fun hb => ?_) (fun hb => ?_) | refine want_f (fun hb => ?_) (fun hb => ?_) | refine dr_t (fun hb => ?_) (fun hb => ?_) | refine dr_f (fun hb => ?_) (fun hb => ?_)) <;> (try simp only [hb]) <;> (try simp only [hpr] at hb)) | with_reducible refine gw_draw (id := 10) [(0, []), (1, []), (2, []), (3, []), (4, []), (5, []), (7, []), (8, []), (6, [1, 8]), (9, [1]), (10, []), (11, [1]), (12, []), (13, []), (14, [])] [0, 1, 0, 0, 0, 16, 48, 0, 128, 496, 1020, 2044, 4095, 8191, 16383] mixed (by kernel_rfl) ?_) <;> try simp only [gop, gyield, gLenX, gNilM, gField, gIndexV, gPart, reduceIte, seval, Int.cast_ofNat_Int, stz, stp, isEff, sgl, sty, stq, Try.underlying89, ty23, ty24, ty36, ty68, ty88, ty136, ty33, ty62, ty65, ty70, ty91, ty99, ty29, ty3, ty4, ty5, ty63, ty89, rs76, gload1 m513 sz36, List.getElem?_cons_zero, List.getElem?_cons_succ]))
    refine st_one m513 sz36 rfl (by simp) rfl rfl fun hh14 m14 f14 => ?_
    simp only [List.set_cons_succ, List.set_cons_zero] at m14
    refine mk_of ?_; repeat' (first | (with_reducible first | refine gw_seq ?_ | refine gw_block ?_) | ((first | (with_reducible refine mk_to ?_) | (with_reducible first | refine gw_region ?_ | refine gw_if ?_ | refine gw_skip ?_ | refine gw_exit ?_ | refine gw_ret ?_) | ((with_reducible first | refine gif_b (fun hb => ?_) (fun hb => ?_) | refine want_t (fun hb => ?_) (fun hb => ?_) | refine want_f (fun hb => ?_) (fun hb => ?_) | refine dr_t (fun hb => ?_) (fun hb => ?_) | refine dr_f (fun hb => ?_) (fun hb => ?_)) <;> (try simp only [hb]) <;> (try simp only [hpr] at hb)) | with_reducible refine gw_draw (id := 10) [(0, []), (1, []), (2, []), (3, []), (4, []), (5, []), (7, []), (8, []), (6, [1, 8]), (9, [1]), (10, []), (11, [1]), (12, []), (13, []), (14, [])] [0, 1, 0, 0, 0, 16, 48, 0, 128, 496, 1020, 2044, 4095, 8191, 16383] mixed (by kernel_rfl) ?_) <;> try simp only [gop, gyield, gLenX, gNilM, gField, gIndexV, gPart, reduceIte, seval, Int.cast_ofNat_Int, stz, stp, isEff, sgl, sty, stq, Try.underlying89, ty23, ty24, ty36, ty68, ty88, ty136, ty33, ty62, ty65, ty70, ty91, ty99, ty29, ty3, ty4, ty5, ty63, ty89, rs76, wi]))
    have hx : HX k5 hh13 hh14 := fun j B n e => (f14 j n).trans e
    have keep : ∀ {q : List Value} {ee : Nat × Nat × Bnd}, Ev hh12 q ee → Ev hh14 q ee := fun {q ee} w => by
      obtain ⟨a, c, b, d, e, r1, r2⟩ := w
      exact ⟨a, c, b, d, e, (fr_rb fr13 u12 r1).hx m513 rfl hx, (fr_rb fr13 u12 r2).hx m513 rfl hx⟩
    have newe : Ev hh12 [.int .i64 (e : Int), .int .i64 (i : Int), .slice a10 zz.1.length c10, .slice a11 zz.2.length c11] (e, i, zz) := ⟨a10, c10, a11, c11, rfl, (o10.rb.hs s11).hs s12', o11.rb.hs s12'⟩
    refine ⟨_, i + 1, ?_, (by simp only [List.forall_mem_cons, List.not_mem_nil, false_implies, implies_true, List.map, List.cons_append, List.nil_append, lk, Nat.reduceEqDiff, reduceIte, and_true, true_and]), rfl, by omega, ?_⟩
    · omega
    · rw [hIv, hnext]
      have hl1 : (fed M ep ix e i ++ [(e, i, zz)]).length = (fed M ep ix e i).length + 1 := by simp
      rw [hl1]
      refine ⟨s13.upd n5' f14, ?_, ?_, by omega, a13, c13, m14, ds ++ [.int .i64 (e : Int), .int .i64 (i : Int), .slice a10 zz.1.length c10, .slice a11 zz.2.length c11], ?_, by rw [List.all_append, u12]; rfl, ?_⟩
      · rw [f14 _ (Ne.symm k5k1), m113, m15]
      · rw [f14 _ (Ne.symm k5k2), m213, m25]
      · rw [hl1]; exact o13.hx m513 (by simp) hx
      · exact app_el (R := Ev hh14) o12.len rfl (fun i p hp => keep (r12 i p hp)) (keep newe)
end Go.Gh

/- Ideal: a map asked for a feed. -/

namespace Go.Gh
open Go Go.Proofs Go.RowKit
set_option linter.unusedVariables false
set_option linter.unusedSimpArgs false
set_option maxRecDepth 100000
set_option maxHeartbeats 4000000

/-- An answer's variable is written elsewhere. -/
theorem RAn.hxv {h h' : GH} {k : Nat} {B : GB} {v : Value} {x : An} (r : RAn h v x) (m : h k = some B) (hB : B.es = 0 ∧ B.wr = true) (hu : B.cells.all notU8 = true) (f : HX k h h') : RAn h' v x := by
  obtain ⟨a4, b4, c4', d4, e4, f4', rfl, t1, t2, t3⟩ := r
  refine ⟨_, _, _, _, _, _, rfl, t1.hx m hu f, t2.hxR m hB f fun cs y r => ?_, t3.hxR m hB f fun cs y r => ?_⟩
  · obtain ⟨a, c, b, d, e, r1, r2⟩ := r
    exact ⟨a, c, b, d, e, r1.hx m hu f, r2.hx m hu f⟩
  · obtain ⟨a, c, b, d, e, r1, r2⟩ := r
    exact ⟨a, c, b, d, e, r1.hx m hu f, r2.hx m hu f⟩
theorem wrong0 {p : Pm} {m : Nat} {q : Ak} (h : wrongF true true p m q = 0) : 0 ≤ q.fr ∧ q.fr ≤ q.to ∧ q.to < (m : Int) ∧ 1 ≤ q.lm ∧ q.lm ≤ p.pg := by
  unfold wrongF at h
  split at h
  · simp at h
  split at h
  · simp at h
  split at h
  · simp at h
  split at h
  · simp at h
  rename_i h1 h2 h3 h4
  simp only [true_and] at h1 h3 h4
  omega
theorem c_DoFeed (N : Nat) {h0 h : GH} {k j : Nat} {p : Pm} {ew : Value} {cs l : List Value} {M : List (Int × List Bnd)} {ck : Int} {n : Nat} (x : IM h0 h k j p ew cs l M ck n) {a : Option Addr} {c : Nat} (q : Ak) (hk : q.kd = 7) (hid : q.id.length ≤ 140737488355328)
    {c4 c5 c9 : Value} (hc : [c4, c5, c9].all isCell = true) :
    GTri Try.prog N 32 [.pointer (some ⟨k, 0, none⟩), .agg #[.int .i64 q.kd, .slice a q.id.length c, .int .i64 q.fr, .int .i64 q.to, c4, c5, .int .i64 q.ep, .int .i64 q.ix, .int .i64 q.lm, c9]] h fun v h' =>
      RAn h' v (if wrongF true true p M.length q = 0 then feedA M q else { code := wrongF true true p M.length q }) ∧ HS h h' := by
  have hc3 : [Value.slice a q.id.length c, c4, c5, c9].all isCell = true := by simpa [isCell] using hc
  have hc4 : [c4, c5, .int .i64 q.ep, .int .i64 q.ix, c9].all isCell = true := by simpa [isCell] using hc
  have hr : rngK q.kd = true := by rw [hk]; rfl
  have hg : pagK q.kd = true := by rw [hk]; rfl
  have hpg := p.may_iff.1 x.may
  have e1 : (q.kd == 1) = false := by rw [hk]; rfl
  have e2 : (q.kd == 2) = false := by rw [hk]; rfl
  have e8 : (q.kd == 8) = false := by rw [hk]; rfl
  have e9 : (q.kd == 9) = false := by rw [hk]; rfl
  have e3 : (q.kd == 3) = false := by rw [hk]; rfl
  have e4 : (q.kd == 4) = false := by rw [hk]; rfl
  have e5 : (q.kd == 5) = false := by rw [hk]; rfl
  have e6 : (q.kd == 6) = false := by rw [hk]; rfl
  have e7 : (q.kd == 7) = true := by rw [hk]; rfl
  refine gtri Try.func32 rfl gf32 ok32 (by simp [Try.ntmps32]) ?_
  repeat' (first | (with_reducible first | refine gw_seq ?_ | refine gw_block ?_) | ((first | (with_reducible first | refine gw_region ?_ | refine gw_if ?_ | refine gw_skip ?_ | refine gw_exit ?_ | refine gw_ret ?_) | ((with_reducible first | refine gif_b (fun hb => ?_) (fun hb => ?_) | refine want_t (fun hb => ?_) (fun hb => ?_) | refine want_f (fun hb => ?_) (fun hb => ?_)) <;> (try simp only [hb]) <;> (try simp only [hpr] at hb))) <;> try simp only [gop, gyield, gLenX, gNilM, gField, gIndexV, gPart, reduceIte, seval, Int.cast_ofNat_Int, stz, stp, ty23, ty24, ty36, ty68, ty62, ty70, ty91, ty29, ty3, ty4, ty63, rs32]))
  refine box_g (by simpa [isCell] using hc) fun k1 h1 m1 s1 f1 n1 => ?_
  refine mk_of ?_; repeat' (first | (with_reducible first | refine gw_seq ?_ | refine gw_block ?_) | ((first | (with_reducible refine mk_to ?_) | (with_reducible first | refine gw_region ?_ | refine gw_if ?_ | refine gw_skip ?_ | refine gw_exit ?_ | refine gw_ret ?_) | ((with_reducible first | refine gif_b (fun hb => ?_) (fun hb => ?_) | refine want_t (fun hb => ?_) (fun hb => ?_) | refine want_f (fun hb => ?_) (fun hb => ?_)) <;> (try simp only [hb]) <;> (try simp only [hpr] at hb))) <;> try simp only [gop, gyield, gLenX, gNilM, gField, gIndexV, gPart, reduceIte, seval, Int.cast_ofNat_Int, stz, stp, ty23, ty24, ty36, ty68, ty62, ty70, ty91, ty29, ty3, ty4, ty63, rs32]))
  refine new_g fun k2 h2 m2 s2 f2 n2 => ?_
  replace m1 := s2 _ _ m1
  have s12 := s1.trans s2
  have x2 := x.hs s12
  have n2' := s1.none_of n2
  refine mk_of ?_; repeat' (first | (with_reducible first | refine gw_seq ?_ | refine gw_block ?_) | ((first | (with_reducible refine mk_to ?_) | (with_reducible first | refine gw_region ?_ | refine gw_if ?_ | refine gw_skip ?_ | refine gw_exit ?_ | refine gw_ret ?_) | ((with_reducible first | refine gif_b (fun hb => ?_) (fun hb => ?_) | refine want_t (fun hb => ?_) (fun hb => ?_) | refine want_f (fun hb => ?_) (fun hb => ?_)) <;> (try simp only [hb]) <;> (try simp only [hpr] at hb)) | ((refine GTri.mono (c_inone _ x2) ?_); rintro _ _ ⟨rfl, hh9⟩; replace hh9 := hh9.symm; subst hh9)) <;> try simp only [gop, gyield, gLenX, gNilM, gField, gIndexV, gPart, reduceIte, seval, Int.cast_ofNat_Int, stz, stp, ty23, ty24, ty36, ty68, ty62, ty70, ty91, ty29, ty3, ty4, ty63, rs32, List.map_toArray, List.map_cons, List.map_nil, gload1 m1 sz3, e1, e2, e8, e9, e3, e4, e5, e6, e7, gloadA m1 sz62 rfl, List.getElem?_cons_zero, List.getElem?_cons_succ]))
  refine (c_wrong N x2 q hid hc4).mono ?_
  rintro _ h3 ⟨rfl, s3⟩
  rw [hr, hg]
  have m23 := s3 _ _ m2
  by_cases hw : wrongF true true p M.length q = 0
  case neg =>
    rw [if_neg hw]
    have dw : (wrongF true true p M.length q != 0) = true := by simpa using hw
    refine mk_of ?_; repeat' (first | (with_reducible first | refine gw_seq ?_ | refine gw_block ?_) | ((first | (with_reducible refine mk_to ?_) | (with_reducible first | refine gw_region ?_ | refine gw_if ?_ | refine gw_skip ?_ | refine gw_exit ?_ | refine gw_ret ?_) | ((with_reducible first | refine gif_b (fun hb => ?_) (fun hb => ?_) | refine want_t (fun hb => ?_) (fun hb => ?_) | refine want_f (fun hb => ?_) (fun hb => ?_)) <;> (try simp only [hb]) <;> (try simp only [hpr] at hb))) <;> try simp only [gop, gyield, gLenX, gNilM, gField, gIndexV, gPart, reduceIte, seval, Int.cast_ofNat_Int, stz, stp, ty23, ty24, ty36, ty68, ty62, ty70, ty91, ty29, ty3, ty4, ty63, rs32, dw, gBuild, lfill, lput, Shape.pl, List.all_cons, List.all_nil, isCell]))
    refine st_all m23 sz70 rfl (by decide) rfl rfl rfl fun h4 m4 f4 => ?_
    refine mk_of ?_; repeat' (first | (with_reducible first | refine gw_seq ?_ | refine gw_block ?_) | ((first | (with_reducible refine mk_to ?_) | (with_reducible first | refine gw_region ?_ | refine gw_if ?_ | refine gw_skip ?_ | refine gw_exit ?_ | refine gw_ret ?_) | ((with_reducible first | refine gif_b (fun hb => ?_) (fun hb => ?_) | refine want_t (fun hb => ?_) (fun hb => ?_) | refine want_f (fun hb => ?_) (fun hb => ?_)) <;> (try simp only [hb]) <;> (try simp only [hpr] at hb))) <;> try simp only [gop, gyield, gLenX, gNilM, gField, gIndexV, gPart, reduceIte, seval, Int.cast_ofNat_Int, stz, stp, ty23, ty24, ty36, ty68, ty62, ty70, ty91, ty29, ty3, ty4, ty63, rs32, gloadA m4 sz70 rfl]))
    exact ⟨RAn.zero h4 _ 0, (s12.trans s3).upd n2' f4⟩
  rw [if_pos hw]
  obtain ⟨w1, w2, w3, w4, w5⟩ := wrong0 hw
  have dw : (wrongF true true p M.length q != 0) = false := by simpa using hw
  have s03 := s12.trans s3
  refine mk_of ?_; repeat' (first | (with_reducible first | refine gw_seq ?_ | refine gw_block ?_) | ((first | (with_reducible refine mk_to ?_) | (with_reducible first | refine gw_region ?_ | refine gw_if ?_ | refine gw_skip ?_ | refine gw_exit ?_ | refine gw_ret ?_) | ((with_reducible first | refine gif_b (fun hb => ?_) (fun hb => ?_) | refine want_t (fun hb => ?_) (fun hb => ?_) | refine want_f (fun hb => ?_) (fun hb => ?_)) <;> (try simp only [hb]) <;> (try simp only [hpr] at hb))) <;> try simp only [gop, gyield, gLenX, gNilM, gField, gIndexV, gPart, reduceIte, seval, Int.cast_ofNat_Int, stz, stp, ty23, ty24, ty36, ty68, ty62, ty70, ty91, ty29, ty3, ty4, ty63, rs32, dw, gloadA (s3 _ _ m1) sz62 rfl]))
  refine (c_feed N (x.hs s03) q w1 w2 w3 (by omega) hc3).mono ?_
  rintro v4 h4 ⟨r4, s4⟩
  have r4' := r4
  obtain ⟨a4, b4, c4', d4, e4, f4', rfl, _⟩ := r4
  refine mk_of ?_; repeat' (first | (with_reducible first | refine gw_seq ?_ | refine gw_block ?_) | ((first | (with_reducible refine mk_to ?_) | (with_reducible first | refine gw_region ?_ | refine gw_if ?_ | refine gw_skip ?_ | refine gw_exit ?_ | refine gw_ret ?_) | ((with_reducible first | refine gif_b (fun hb => ?_) (fun hb => ?_) | refine want_t (fun hb => ?_) (fun hb => ?_) | refine want_f (fun hb => ?_) (fun hb => ?_)) <;> (try simp only [hb]) <;> (try simp only [hpr] at hb))) <;> try simp only [gop, gyield, gLenX, gNilM, gField, gIndexV, gPart, reduceIte, seval, Int.cast_ofNat_Int, stz, stp, ty23, ty24, ty36, ty68, ty62, ty70, ty91, ty29, ty3, ty4, ty63, rs32]))
  refine st_all (s4 _ _ m23) sz70 rfl (by decide) rfl rfl rfl fun h5 m5 f5 => ?_
  refine mk_of ?_; repeat' (first | (with_reducible first | refine gw_seq ?_ | refine gw_block ?_) | ((first | (with_reducible refine mk_to ?_) | (with_reducible first | refine gw_region ?_ | refine gw_if ?_ | refine gw_skip ?_ | refine gw_exit ?_ | refine gw_ret ?_) | ((with_reducible first | refine gif_b (fun hb => ?_) (fun hb => ?_) | refine want_t (fun hb => ?_) (fun hb => ?_) | refine want_f (fun hb => ?_) (fun hb => ?_)) <;> (try simp only [hb]) <;> (try simp only [hpr] at hb))) <;> try simp only [gop, gyield, gLenX, gNilM, gField, gIndexV, gPart, reduceIte, seval, Int.cast_ofNat_Int, stz, stp, ty23, ty24, ty36, ty68, ty62, ty70, ty91, ty29, ty3, ty4, ty63, rs32, gloadA m5 sz70 rfl]))
  exact ⟨r4'.hxv (s4 _ _ m23) ⟨rfl, rfl⟩ rfl fun j B n e => (f5 j n).trans e, (s03.trans s4).upd n2' f5⟩

theorem evA_tot (M : List (Int × List Bnd)) : ∀ (c s : Nat), s + c ≤ M.length → (evA M s c).length ≤ tot ((M.map (·.2)).drop s)
  | 0, s, _ => by simp [evA]
  | c + 1, s, h => by
    have ih := evA_tot M c (s + 1) (by omega)
    obtain ⟨y, hy⟩ : ∃ y, M[s]? = some y := ⟨_, List.getElem?_eq_getElem (by omega)⟩
    have hd : (M.map (·.2)).drop s = y.2 :: (M.map (·.2)).drop (s + 1) := by
      have hl : s < (M.map (·.2)).length := by rw [List.length_map]; omega
      rw [List.drop_eq_getElem_cons hl]
      have : (M.map (·.2))[s]? = some y.2 := by rw [List.getElem?_map, hy]; rfl
      have := (List.getElem?_eq_some_iff.1 this).2
      rw [this]
    rw [evA_cons, List.length_append, evs1_len, bOf_get hy, hd]
    simp only [tot, List.map_cons, List.sum_cons] at ih ⊢
    omega
end Go.Gh

/- Ideal: a feed read page by page. -/

namespace Go.Gh
open Go Go.Proofs Go.RowKit
set_option linter.unusedVariables false
set_option linter.unusedSimpArgs false
set_option maxRecDepth 100000
set_option maxHeartbeats 4000000

def hide (k : Nat) (h : GH) : GH := fun i => if i = k then none else h i
theorem hide_k (k : Nat) (h : GH) : hide k h k = none := by unfold hide; rw [if_pos rfl]
theorem hide_ne {k : Nat} (h : GH) : ∀ i, i ≠ k → hide k h i = h i := fun i n => by unfold hide; rw [if_neg n]
theorem hide_hs (k : Nat) (h : GH) : HS (hide k h) h := fun i B e => by
  unfold hide at e
  split at e
  · cases e
  · exact e
theorem hide_of {k : Nat} {a h : GH} (s : HS a h) (n : a k = none) : HS a (hide k h) := fun i B e => by
  rw [hide_ne h i (fun q => by rw [q, n] at e; cases e)]
  exact s _ _ e
theorem tot_drop (B : List (List Bnd)) (i : Nat) : tot (B.drop i) ≤ tot B := by
  have : tot B = tot (B.take i) + tot (B.drop i) := by
    conv => lhs; rw [← List.take_append_drop i B]
    simp only [tot, List.map_append, List.sum_append]
  omega

theorem MF.ap {h h' : GH} {s : Value} {n : Nat} {cs : List Value} (fr : ∀ j B, h j = some B → (j = j → ∀ kb c, s = .slice (some ⟨kb, 0, none⟩) n c → n ≠ 0 → h kb = some ⟨cs, 4, true, true⟩ → j ≠ kb) → h' j = some B) (hc : cs.all notU8 = true) : MF h h' := fun j B hj q => fr j B hj fun _ kb c _ _ hk e => by
  rw [e, hk] at hj
  cases hj
  rcases q with q | q | ⟨q, _⟩
  · rw [hc] at q; cases q
  · simp at q
  · simp at q
end Go.Gh

/- The sort of items, as a triple. -/

namespace Go.Gh
open Go Go.Proofs Go.RowKit Go.Sort Go.Shelf
set_option linter.unusedVariables false
set_option linter.unusedSimpArgs false
set_option maxRecDepth 100000
set_option maxHeartbeats 2000000

theorem c_icmp (N : Nat) (h : GH) {c1 c2 : List Value} {x y : Itm} (r1 : It h c1 x) (r2 : It h c2 y) : GTri Try.prog N 112 [.agg c1.toArray, .agg c2.toArray] h fun v h' => v = .int .i64 (idO x.1.1 y.1.1) := by
  obtain ⟨a, c, b, d, rfl, p1, p2⟩ := r1
  obtain ⟨a', c', b', d', rfl, q1, q2⟩ := r2
  refine gtri Try.func112 rfl gf112 ok112 (by simp [Try.ntmps112]) ?_
  repeat' (first | (with_reducible first | refine gw_seq ?_ | refine gw_block ?_) | ((first | (with_reducible first | refine gw_region ?_ | refine gw_if ?_ | refine gw_skip ?_ | refine gw_exit ?_ | refine gw_ret ?_) | ((with_reducible first | refine gif_b (fun hb => ?_) (fun hb => ?_) | refine want_t (fun hb => ?_) (fun hb => ?_) | refine want_f (fun hb => ?_) (fun hb => ?_)) <;> (try simp only [hb]) <;> (try simp only [hpr] at hb))) <;> try simp only [gop, gyield, gLenX, gNilM, gField, gIndexV, gPart, reduceIte, seval, Int.cast_ofNat_Int, stz, stp, ty24, ty97, ty3, ty5, rs112]))
  refine box_g rfl fun k1 h1 m1 s1 f1 n1 => ?_
  refine mk_of ?_; repeat' (first | (with_reducible first | refine gw_seq ?_ | refine gw_block ?_) | ((first | (with_reducible refine mk_to ?_) | (with_reducible first | refine gw_region ?_ | refine gw_if ?_ | refine gw_skip ?_ | refine gw_exit ?_ | refine gw_ret ?_) | ((with_reducible first | refine gif_b (fun hb => ?_) (fun hb => ?_) | refine want_t (fun hb => ?_) (fun hb => ?_) | refine want_f (fun hb => ?_) (fun hb => ?_)) <;> (try simp only [hb]) <;> (try simp only [hpr] at hb))) <;> try simp only [gop, gyield, gLenX, gNilM, gField, gIndexV, gPart, reduceIte, seval, Int.cast_ofNat_Int, stz, stp, ty24, ty97, ty3, ty5, rs112]))
  refine box_g rfl fun k2 h2 m2 s2 f2 n2 => ?_
  replace m1 := s2 _ _ m1
  have s3 := s1.trans s2
  refine mk_of ?_; repeat' (first | (with_reducible first | refine gw_seq ?_ | refine gw_block ?_) | ((first | (with_reducible refine mk_to ?_) | (with_reducible first | refine gw_region ?_ | refine gw_if ?_ | refine gw_skip ?_ | refine gw_exit ?_ | refine gw_ret ?_) | ((with_reducible first | refine gif_b (fun hb => ?_) (fun hb => ?_) | refine want_t (fun hb => ?_) (fun hb => ?_) | refine want_f (fun hb => ?_) (fun hb => ?_)) <;> (try simp only [hb]) <;> (try simp only [hpr] at hb))) <;> try simp only [gop, gyield, gLenX, gNilM, gField, gIndexV, gPart, reduceIte, seval, Int.cast_ofNat_Int, stz, stp, ty24, ty97, ty3, ty5, rs112, gload1 m1 sz24, gload1 m2 sz24, List.getElem?_cons_zero, List.getElem?_cons_succ]))
  refine (c_Order N h2 (p1.hs s3) (q1.hs s3) rfl rfl).mono ?_
  rintro _ h3 ⟨rfl, s4⟩
  refine mk_of ?_; repeat' (first | (with_reducible first | refine gw_seq ?_ | refine gw_block ?_) | ((first | (with_reducible refine mk_to ?_) | (with_reducible first | refine gw_region ?_ | refine gw_if ?_ | refine gw_skip ?_ | refine gw_exit ?_ | refine gw_ret ?_) | ((with_reducible first | refine gif_b (fun hb => ?_) (fun hb => ?_) | refine want_t (fun hb => ?_) (fun hb => ?_) | refine want_f (fun hb => ?_) (fun hb => ?_)) <;> (try simp only [hb]) <;> (try simp only [hpr] at hb))) <;> try simp only [gop, gyield, gLenX, gNilM, gField, gIndexV, gPart, reduceIte, seval, Int.cast_ofNat_Int, stz, stp, ty24, ty97, ty3, ty5, rs112, idO]))

theorem c_insI0 (N : Nat) (h : GH) (v f : Value) : GTri Try.prog N 148 [v, .int .i64 0, .int .i64 0, f] h fun u h' => h' = h := by
  have w1 : IntKind.i64.wrap (0 + 1) = 1 := rfl
  have d1 : decide ((1 : Int) < 0) = false := rfl
  refine gtri Try.func148 rfl gf148 ok148 (by simp [Try.ntmps148]) ?_
  repeat' (first | (with_reducible first | refine gw_seq ?_ | refine gw_block ?_) | ((first | (with_reducible first | refine gw_region ?_ | refine gw_if ?_ | refine gw_skip ?_ | refine gw_exit ?_ | refine gw_ret ?_) | ((with_reducible first | refine gif_b (fun hb => ?_) (fun hb => ?_) | refine want_t (fun hb => ?_) (fun hb => ?_) | refine want_f (fun hb => ?_) (fun hb => ?_) | refine dr_t (fun hb => ?_) (fun hb => ?_) | refine dr_f (fun hb => ?_) (fun hb => ?_)) <;> (try simp only [hb]) <;> (try simp only [hpr] at hb)) | with_reducible refine gw_draw (id := 4) [(0, []), (1, []), (2, []), (3, []), (4, []), (5, []), (6, []), (7, []), (8, []), (9, []), (10, []), (11, []), (12, []), (13, []), (14, []), (15, []), (16, [])] [0, 0, 3, 7, 15, 15, 15, 111, 239, 15, 15, 1039, 3599, 7695, 16383, 32767, 65535] mixed (by kernel_rfl) ?_ | with_reducible refine gw_draw (id := 6) [(0, []), (1, []), (2, []), (3, []), (4, []), (5, []), (6, []), (7, []), (8, []), (9, []), (10, []), (11, []), (12, []), (13, []), (14, []), (15, []), (16, []), (17, [])] [0, 0, 0, 0, 8, 0, 0, 64, 224, 480, 0, 0, 3072, 7168, 16355, 32739, 65535, 131071] mixed (by kernel_rfl) ?_) <;> try simp only [gop, gyield, gLenX, gNilM, gField, gIndexV, gPart, reduceIte, seval, Int.cast_ofNat_Int, stz, stp, isEff, sgl, sty, stq, ty24, ty68, ty97, ty3, rs148, w1]))
  refine gw_loop2 [0, 1, 2, 3] (fun (i : Unit) => [(8, .int .i64 1)]) (fun q i h' => h' = h) 0 () (by simp [lk]) rfl ?_
  rintro _ _ h3 rfl
  refine mk_of ?_; repeat' (first | (with_reducible first | refine gw_seq ?_ | refine gw_block ?_) | ((first | (with_reducible refine mk_to ?_) | (with_reducible first | refine gw_region ?_ | refine gw_if ?_ | refine gw_skip ?_ | refine gw_exit ?_ | refine gw_ret ?_) | ((with_reducible first | refine gif_b (fun hb => ?_) (fun hb => ?_) | refine want_t (fun hb => ?_) (fun hb => ?_) | refine want_f (fun hb => ?_) (fun hb => ?_) | refine dr_t (fun hb => ?_) (fun hb => ?_) | refine dr_f (fun hb => ?_) (fun hb => ?_)) <;> (try simp only [hb]) <;> (try simp only [hpr] at hb)) | with_reducible refine gw_draw (id := 4) [(0, []), (1, []), (2, []), (3, []), (4, []), (5, []), (6, []), (7, []), (8, []), (9, []), (10, []), (11, []), (12, []), (13, []), (14, []), (15, []), (16, [])] [0, 0, 3, 7, 15, 15, 15, 111, 239, 15, 15, 1039, 3599, 7695, 16383, 32767, 65535] mixed (by kernel_rfl) ?_ | with_reducible refine gw_draw (id := 6) [(0, []), (1, []), (2, []), (3, []), (4, []), (5, []), (6, []), (7, []), (8, []), (9, []), (10, []), (11, []), (12, []), (13, []), (14, []), (15, []), (16, []), (17, [])] [0, 0, 0, 0, 8, 0, 0, 64, 224, 480, 0, 0, 3072, 7168, 16355, 32739, 65535, 131071] mixed (by kernel_rfl) ?_) <;> try simp only [gop, gyield, gLenX, gNilM, gField, gIndexV, gPart, reduceIte, seval, Int.cast_ofNat_Int, stz, stp, isEff, sgl, sty, stq, ty24, ty68, ty97, ty3, rs148, d1]))
theorem c_pdqI0 (N : Nat) (h : GH) (v f : Value) (L : Int) : GTri Try.prog N 136 [v, .int .i64 0, .int .i64 0, .int .i64 L, f] h fun u h' => h' = h := by
  have w1 : IntKind.i64.wrap (0 - 0) = 0 := rfl
  have d1 : decide ((0 : Int) ≤ 12) = true := rfl
  refine gtri Try.func136 rfl gf136 ok136 (by simp [Try.ntmps136]) ?_
  repeat' (first | (with_reducible first | refine gw_seq ?_ | refine gw_block ?_) | ((first | (with_reducible first | refine gw_region ?_ | refine gw_if ?_ | refine gw_skip ?_ | refine gw_exit ?_ | refine gw_ret ?_) | ((with_reducible first | refine gif_b (fun hb => ?_) (fun hb => ?_) | refine want_t (fun hb => ?_) (fun hb => ?_) | refine want_f (fun hb => ?_) (fun hb => ?_) | refine dr_t (fun hb => ?_) (fun hb => ?_) | refine dr_f (fun hb => ?_) (fun hb => ?_)) <;> (try simp only [hb]) <;> (try simp only [hpr] at hb)) | with_reducible refine gw_draw (id := 17) [(0, []), (1, []), (2, []), (3, []), (4, []), (5, []), (6, []), (7, []), (8, []), (9, []), (10, []), (11, []), (12, []), (13, []), (14, []), (15, []), (16, [])] [0, 1, 3, 7, 7, 7, 39, 119, 247, 7, 7, 1543, 3591, 8191, 16383, 32767, 65535] mixed (by kernel_rfl) ?_) <;> try simp only [gop, gyield, gLenX, gNilM, gField, gIndexV, gPart, reduceIte, seval, Int.cast_ofNat_Int, stz, stp, isEff, sgl, sty, stq, Try.underlying157, ty24, ty68, ty97, ty157, ty164, ty3, ty4, rs136]))
  refine gw_loop2 [0, 4] (fun (i : Unit) => [(1, .int .i64 0), (2, .int .i64 0), (3, .int .i64 L), (10, .bool true), (11, .bool true)]) (fun q i h' => h' = h) 0 () (by simp [lk]) rfl ?_
  rintro _ _ h3 rfl
  refine mk_of ?_; repeat' (first | (with_reducible first | refine gw_seq ?_ | refine gw_block ?_) | ((first | (with_reducible refine mk_to ?_) | (with_reducible first | refine gw_region ?_ | refine gw_if ?_ | refine gw_skip ?_ | refine gw_exit ?_ | refine gw_ret ?_) | ((with_reducible first | refine gif_b (fun hb => ?_) (fun hb => ?_) | refine want_t (fun hb => ?_) (fun hb => ?_) | refine want_f (fun hb => ?_) (fun hb => ?_) | refine dr_t (fun hb => ?_) (fun hb => ?_) | refine dr_f (fun hb => ?_) (fun hb => ?_)) <;> (try simp only [hb]) <;> (try simp only [hpr] at hb)) | with_reducible refine gw_draw (id := 17) [(0, []), (1, []), (2, []), (3, []), (4, []), (5, []), (6, []), (7, []), (8, []), (9, []), (10, []), (11, []), (12, []), (13, []), (14, []), (15, []), (16, [])] [0, 1, 3, 7, 7, 7, 39, 119, 247, 7, 7, 1543, 3591, 8191, 16383, 32767, 65535] mixed (by kernel_rfl) ?_) <;> try simp only [gop, gyield, gLenX, gNilM, gField, gIndexV, gPart, reduceIte, seval, Int.cast_ofNat_Int, stz, stp, isEff, sgl, sty, stq, Try.underlying157, ty24, ty68, ty97, ty157, ty164, ty3, ty4, rs136, w1, d1]))
  refine (c_insI0 N h3 v f).mono ?_
  rintro _ h4 rfl
  refine mk_of ?_; repeat' (first | (with_reducible first | refine gw_seq ?_ | refine gw_block ?_) | ((first | (with_reducible refine mk_to ?_) | (with_reducible first | refine gw_region ?_ | refine gw_if ?_ | refine gw_skip ?_ | refine gw_exit ?_ | refine gw_ret ?_) | ((with_reducible first | refine gif_b (fun hb => ?_) (fun hb => ?_) | refine want_t (fun hb => ?_) (fun hb => ?_) | refine want_f (fun hb => ?_) (fun hb => ?_) | refine dr_t (fun hb => ?_) (fun hb => ?_) | refine dr_f (fun hb => ?_) (fun hb => ?_)) <;> (try simp only [hb]) <;> (try simp only [hpr] at hb)) | with_reducible refine gw_draw (id := 17) [(0, []), (1, []), (2, []), (3, []), (4, []), (5, []), (6, []), (7, []), (8, []), (9, []), (10, []), (11, []), (12, []), (13, []), (14, []), (15, []), (16, [])] [0, 1, 3, 7, 7, 7, 39, 119, 247, 7, 7, 1543, 3591, 8191, 16383, 32767, 65535] mixed (by kernel_rfl) ?_) <;> try simp only [gop, gyield, gLenX, gNilM, gField, gIndexV, gPart, reduceIte, seval, Int.cast_ofNat_Int, stz, stp, isEff, sgl, sty, stq, Try.underlying157, ty24, ty68, ty97, ty157, ty164, ty3, ty4, rs136]))
theorem c_sortI (N : Nat) {h0 h : GH} {v : Value} {l : List Itm} {cs : List Value} (o : OWNC 3 h0 h v l.length cs) (hu : cs.all notU8 = true) (hcc : cs.all isCell = true) (hR : ∀ (i : Nat) x, l[i]? = some x → It h ((cs.drop (i * 3)).take 3) x) (hl : l.length ≤ 1000000) :
    GTri Try.prog N 111 [v, .func (.func 112) #[] #[]] h fun u h' => SortR It (fun x y => idO x.1.1 y.1.1) h0 h v l h' := by
  by_cases hl0 : l = []
  · subst hl0
    have fin : SortR It (fun x y => idO x.1.1 y.1.1) h0 h v [] h := sortR0 o
    obtain ⟨a, c, rfl⟩ := o.form
    have u0 : IntKind.u64.wrap 0 = 0 := rfl
    refine gtri Try.func111 rfl gf111 ok111 (by simp [Try.ntmps111]) ?_
    refine mk_of ?_; repeat' (first | (with_reducible first | refine gw_seq ?_ | refine gw_block ?_) | ((first | (with_reducible refine mk_to ?_) | (with_reducible first | refine gw_region ?_ | refine gw_if ?_ | refine gw_skip ?_ | refine gw_exit ?_ | refine gw_ret ?_) | ((with_reducible first | refine gif_b (fun hb => ?_) (fun hb => ?_) | refine want_t (fun hb => ?_) (fun hb => ?_) | refine want_f (fun hb => ?_) (fun hb => ?_)) <;> (try simp only [hb]) <;> (try simp only [hpr] at hb)) | ((refine GTri.mono (c_blen _ _) ?_); rintro _ _ ⟨rfl, hh9⟩; replace hh9 := hh9.symm; subst hh9)) <;> try simp only [gop, gyield, gLenX, gNilM, gField, gIndexV, gPart, reduceIte, seval, Int.cast_ofNat_Int, stz, stp, Try.underlying157, cv3_56, ty68, ty97, ty157, ty3, ty56, rs111, List.length_nil, Int.natCast_zero, u0]))
    refine (c_pdqI0 N h _ _ _).mono ?_
    rintro _ h2 rfl
    refine mk_of ?_; repeat' (first | (with_reducible first | refine gw_seq ?_ | refine gw_block ?_) | ((first | (with_reducible refine mk_to ?_) | (with_reducible first | refine gw_region ?_ | refine gw_if ?_ | refine gw_skip ?_ | refine gw_exit ?_ | refine gw_ret ?_) | ((with_reducible first | refine gif_b (fun hb => ?_) (fun hb => ?_) | refine want_t (fun hb => ?_) (fun hb => ?_) | refine want_f (fun hb => ?_) (fun hb => ?_)) <;> (try simp only [hb]) <;> (try simp only [hpr] at hb))) <;> try simp only [gop, gyield, gLenX, gNilM, gField, gIndexV, gPart, reduceIte, seval, Int.cast_ofNat_Int, stz, stp, Try.underlying157, cv3_56, ty68, ty97, ty157, ty3, ty56, rs111]))
    exact fin
  · have hn0 : l.length ≠ 0 := fun q => hl0 (List.eq_nil_of_length_eq_zero q)
    rcases o with ⟨_, q, _⟩ | ⟨_, _, q, _⟩ | ⟨kb, c, rfl, m1, m2, m3, m4, m5, m6⟩
    · exact absurd q hn0
    · exact absurd q hn0
    have := sort_tri sortI_lays (K := 3) Try.isAgg97 Try.sizeOf97 (by decide) gf111 (N := N) (h := h) (R := It) (fun x y => idO x.1.1 y.1.1) (tc_id.on fun x : Itm => x.1.1).swo (g := 112) gf112 (c := c) hl0 (by omega) m5 m4 hu hcc hR
      (fun {N' φ w M ds ds'} x s r hv => by
        obtain ⟨a, c, b, d, rfl, r1, r2⟩ := r
        cases hv with
        | cons v1 hv =>
        cases hv with
        | cons v2 hv =>
        obtain ⟨a', e1⟩ := shV_sl M a x.1.1.length c
        obtain ⟨b', e2⟩ := shV_sl M b x.1.2.length d
        have q1 := sh_rb (M := M) s m5 hu v1 r1
        have q2 := sh_rb (M := M) s m5 hu v2 r2
        rw [e1] at q1
        rw [e2] at q2
        exact ⟨a', c, b', d, by simp only [List.map_cons, List.map_nil, e1, e2]; rfl, q1, q2⟩)
      (fun M h' c1 c2 x y r1 r2 => c_icmp M h' r1 r2)
    refine this.mono ?_
    rintro u h' ⟨l2, cs2, z1, z2, z3, z4, z5, z6, z7⟩
    exact sortR1 m1 m2 hl0 m5 m6 m4 hu z1 z2 z3 z4 z5 z7 fun cs x r k => by
      obtain ⟨a, c, b, d, e, r1, r2⟩ := r
      exact ⟨a, c, b, d, e, k _ _ r1, k _ _ r2⟩
end Go.Gh

/- Versions: who changed between two epochs. -/

namespace Go.Gh
open Go Go.Proofs Go.RowKit
set_option linter.unusedVariables false
set_option linter.unusedSimpArgs false
set_option maxRecDepth 100000
set_option maxHeartbeats 4000000

def kid (l : List Value) (q : Nat) : List UInt8 := ((mkeys l)[q]?.getD ByteArray.empty).data.toList
def Tx (h : GH) (cs : List Value) (x : List UInt8) : Prop := ∃ a c, cs = [.slice a x.length c] ∧ RB h (.slice a x.length c) x
theorem bstr_of (k : ByteArray) : bstr k.data.toList = k := by
  unfold bstr
  simp

theorem nodup_len : ∀ (n : Nat) (is : List Nat), is.Nodup → (∀ q ∈ is, q < n) → is.length ≤ n
  | 0, is, _, h => by
    cases is with
    | nil => simp
    | cons q is => have := h q (by simp); omega
  | n + 1, is, nd, h => by
    by_cases hn : n ∈ is
    · have := nodup_len n (is.erase n) (nd.erase n) fun q hq => by
        have h1 := (List.Nodup.mem_erase_iff nd).1 hq
        have := h q h1.2
        have := h1.1
        omega
      rw [List.length_erase_of_mem hn] at this
      omega
    · have := nodup_len n is nd fun q hq => by
        have := h q hq
        have : q ≠ n := fun e => hn (by rw [← e]; exact hq)
        omega
      omega
theorem gread_spot2 {h : GH} {a : Addr} {n : Nat} {cs : List Value} (e : gread h a n = some cs) (hn : n ≠ 0) : a.spot = none := by
  unfold gread at e
  rw [if_neg hn] at e
  split at e
  · assumption
  · cases e
end Go.Gh

/- Two lists of events, one behind the other. -/

namespace Go.Gh
open Go Go.Proofs Go.RowKit
set_option linter.unusedVariables false
set_option linter.unusedSimpArgs false
set_option maxRecDepth 100000
set_option maxHeartbeats 4000000

end Go.Gh

/- Versions: an identity's changes are all. -/

namespace Go.Gh
open Go Go.Proofs Go.RowKit
set_option linter.unusedVariables false
set_option linter.unusedSimpArgs false
set_option maxRecDepth 100000
set_option maxHeartbeats 4000000

theorem kid_inj {l : List Value} (nd : (mkeys l).Nodup) {p q : Nat} (hp : p < (mkeys l).length) (hq : q < (mkeys l).length) (e : kid l p = kid l q) : p = q := by
  unfold kid at e
  rw [List.getElem?_eq_getElem hp, List.getElem?_eq_getElem hq] at e
  simp only [Option.getD_some] at e
  have e2 : (mkeys l)[p] = (mkeys l)[q] := by
    have h1 := bstr_of (mkeys l)[p]
    have h2 := bstr_of (mkeys l)[q]
    rw [← h1, ← h2, e]
  have pw := List.pairwise_iff_getElem.1 nd
  rcases Nat.lt_trichotomy p q with h | h | h
  · exact absurd e2 (pw p q hp hq h)
  · exact h
  · exact absurd e2.symm (pw q p hq hp h)
theorem get_lt {α : Type} {l : List α} {i : Nat} (h : i < l.length) : ∃ y, l[i]? = some y := ⟨_, List.getElem?_eq_getElem h⟩
end Go.Gh

/- Versions: the document's own index. -/

namespace Go.Gh
open Go Go.Proofs Go.RowKit
set_option linter.unusedVariables false
set_option linter.unusedSimpArgs false
set_option maxRecDepth 100000
set_option maxHeartbeats 4000000

/-- The document's index in memory: the epochs' batches. -/
structure RX (h0 h : GH) (k : Nat) (bv : Value) (cs : List Value) (B : List (List Bnd)) : Prop where
  obj : h k = some ⟨[bv], 0, true, false⟩
  nk : h0 k = none
  bat : OWNC 1 h0 h bv B.length cs
  bats : ∀ (e : Nat) b, B[e]? = some b → ∃ v, cs[e]? = some v ∧ Bat h0 h v b
  cu8 : cs.all notU8 = true
  bl : ∀ b ∈ B, b.length ≤ 10 ∧ ∀ p ∈ b, p.1.length ≤ 140737488355328 ∧ p.2.length ≤ 140737488355328
theorem RX.hs {h0 h h' : GH} {k : Nat} {bv : Value} {cs : List Value} {B : List (List Bnd)} (x : RX h0 h k bv cs B) (s : HS h h') : RX h0 h' k bv cs B :=
  ⟨s _ _ x.obj, x.nk, x.bat.hs s, fun e b hb => by obtain ⟨v, h1, h2⟩ := x.bats e b hb; exact ⟨v, h1, h2.hs s⟩, x.cu8, x.bl⟩
/-- The identities of a batch are unlike. -/
def dis (b : List Bnd) : Prop := (b.map (·.1)).Nodup
instance (b : List Bnd) : Decidable (dis b) := by unfold dis; infer_instance
/-- All stays but a variable and arrays of slices. -/
def FR (k : Nat) (h h' : GH) : Prop := (∀ i B, h i = some B → i ≠ k → B.es ≠ 1 → h' i = some B) ∧ ∀ v l, RB h v l → RB h' v l
theorem FR.of {k : Nat} {h h' : GH} (s : HS h h') : FR k h h' := ⟨fun i B e _ _ => s i B e, fun v l r => r.hs s⟩
theorem dis_of {b : List Bnd} (h : ∀ (i j : Nat) (p q : Bnd), j < i → b[i]? = some p → b[j]? = some q → p.1 ≠ q.1) : dis b := by
  unfold dis
  rw [List.Nodup, List.pairwise_iff_getElem]
  intro i j hi hj hij
  simp only [List.getElem_map]
  exact (h j i _ _ hij (List.getElem?_eq_getElem (by simpa using hj)) (List.getElem?_eq_getElem (by simpa using hi))).symm

end Go.Gh

/- Versions: what the document's own index lists. -/

namespace Go.Gh
open Go Go.Proofs Go.RowKit
set_option linter.unusedVariables false
set_option linter.unusedSimpArgs false
set_option maxRecDepth 100000
set_option maxHeartbeats 4000000

/-- An identity's changes among a batch's first i. -/
def mts (e : Nat) (b : List Bnd) (id : List UInt8) : Nat → List (Nat × Nat × Bnd)
  | 0 => []
  | i + 1 => mts e b id i ++ (if (bat1 b i).1 = id then [(e, i, bat1 b i)] else [])
def batN (B : List (List Bnd)) (e : Nat) : List Bnd := (B[e]?).getD []
/-- What is listed from an epoch downwards. -/
def rls (B : List (List Bnd)) (id : List UInt8) (f : Int) : Nat → List (Nat × Nat × Bnd)
  | 0 => []
  | e + 1 => if ((e + 1 : Nat) : Int) > f then mts (e + 1) (batN B e) id (batN B e).length ++ rls B id f e else []
end Go.Gh

/- Versions: what the document's own index tells of an epoch; texts compared. -/

namespace Go.Gh
open Go Go.Proofs Go.RowKit
set_option linter.unusedVariables false
set_option linter.unusedSimpArgs false
set_option maxRecDepth 100000
set_option maxHeartbeats 4000000

theorem Tx.hs {h h' : GH} (s : HS h h') {cs : List Value} {x : List UInt8} (r : Tx h cs x) : Tx h' cs x := by
  obtain ⟨a, c, e, r⟩ := r
  exact ⟨a, c, e, r.hs s⟩
end Go.Gh

/- Versions: what is kept and what the document's own index tells are the same. Plain laws. -/

namespace Go.Gh
open Go Go.Proofs Go.RowKit
set_option linter.unusedVariables false
set_option linter.unusedSimpArgs false
set_option maxRecDepth 100000
set_option maxHeartbeats 2000000

/-! ## An identity's changes, of so many batches -/
/-! ## What is listed -/
/-! ## Whether a batch may be added -/
theorem seen_keys (b : List Bnd) : ∀ i, i ≤ b.length → (mkeys (seenN b i)).length ≤ i ∧ (∀ k, bstr k ∈ mkeys (seenN b i) ↔ ∃ j, j < i ∧ (bat1 b j).1 = k) ∧ ((mkeys (seenN b i)).length = i ↔ ∀ j z, z < j → j < i → (bat1 b j).1 ≠ (bat1 b z).1)
  | 0, _ => ⟨by simp [seenN, mkeys], fun k => by simp [seenN, mkeys], ⟨fun _ j z _ h => by omega, fun _ => rfl⟩⟩
  | i + 1, hi => by
    obtain ⟨h1, h2, h3⟩ := seen_keys b i (by omega)
    rcases mset_keys (bstr (bat1 b i).1) (.int .i64 (i : Int)) (seenN b i) (seenN_ok b i) with ⟨hm, e⟩ | ⟨hm, e⟩
    · simp only [seenN, e]
      obtain ⟨z, hz, hze⟩ := (h2 _).1 hm
      refine ⟨by omega, fun k => ?_, ⟨fun hl => by omega, fun hall => absurd hze.symm (hall i z hz (by omega))⟩⟩
      rw [h2]
      constructor
      · rintro ⟨j, hj, hk⟩; exact ⟨j, by omega, hk⟩
      · rintro ⟨j, hj, hk⟩
        rcases Nat.lt_or_ge j i with h | h
        · exact ⟨j, h, hk⟩
        · obtain rfl : j = i := by omega
          exact ⟨z, hz, hze.trans hk⟩
    · simp only [seenN, e, List.length_append, List.length_singleton]
      refine ⟨by omega, fun k => ?_, ?_⟩
      · rw [List.mem_append, h2, List.mem_singleton]
        constructor
        · rintro (⟨j, hj, hk⟩ | hk)
          · exact ⟨j, by omega, hk⟩
          · exact ⟨i, by omega, (bstr_inj hk).symm⟩
        · rintro ⟨j, hj, hk⟩
          rcases Nat.lt_or_ge j i with h | h
          · exact .inl ⟨j, h, hk⟩
          · obtain rfl : j = i := by omega
            exact .inr (by rw [hk])
      · have hn : ∀ z, z < i → (bat1 b i).1 ≠ (bat1 b z).1 := fun z hz e => hm ((h2 _).2 ⟨z, hz, e.symm⟩)
        constructor
        · intro hl j z hz hj
          rcases Nat.lt_or_ge j i with h | h
          · exact h3.1 (by omega) j z hz h
          · obtain rfl : j = i := by omega
            exact hn z hz
        · intro hall
          have := h3.2 fun j z hz hj => hall j z hz (by omega)
          omega
theorem bat1_get {b : List Bnd} {i : Nat} {p : Bnd} (h : b[i]? = some p) : bat1 b i = p := by simp [bat1, h]
end Go.Gh

/- Ideal: what a diff tells. Plain laws. -/

namespace Go.Gh
open Go Go.Proofs Go.RowKit
set_option linter.unusedVariables false
set_option linter.unusedSimpArgs false
set_option maxRecDepth 100000
set_option maxHeartbeats 2000000

theorem cb_zero : ∀ a b : List UInt8, Lib.compareBytes a b = 0 → a = b
  | [], [], _ => rfl
  | [], _ :: _, h => by simp [Lib.compareBytes] at h
  | _ :: _, [], h => by simp [Lib.compareBytes] at h
  | x :: a, y :: b, h => by
    simp only [Lib.compareBytes, u8lt] at h
    split at h
    · cases h
    · split at h
      · cases h
      · rename_i h1 h2
        have e : x = y := UInt8.toNat_inj.1 (by omega)
        rw [e, cb_zero a b h]
theorem idO_zero {x y : List UInt8} (hx : x.length ≤ 255) (hy : y.length ≤ 255) (h : idO x y = 0) : x = y := by
  have e := cb_zero _ _ h
  unfold gkey at e
  rw [List.take_of_length_le hx, List.take_of_length_le hy] at e
  injection e
/-- What a diff tells of an identity. -/
def dsel (M : List (Int × List Bnd)) (q : Ak) (id : List UInt8) : Option Itm := match atI M id q.to with
  | none => none
  | some (key, ep) => if (ep : Int) > q.fr ∧ (q.sm = true → idO id q.id > 0) then some ((id, key), ep) else none
theorem dsel_id {M : List (Int × List Bnd)} {q : Ak} {id : List UInt8} {z : Itm} (h : dsel M q id = some z) : z.1.1 = id := by
  unfold dsel at h
  split at h
  · cases h
  · split at h
    · cases h; rfl
    · cases h
structure Diff (M : List (Int × List Bnd)) (q : Ak) (L : List Itm) : Prop where
  ord : L.Pairwise fun x y => idO x.1.1 y.1.1 < 0
  mem : ∀ z, z ∈ L ↔ dsel M q z.1.1 = some z
theorem Diff.uniq {M M' : List (Int × List Bnd)} {q q' : Ak} {L L' : List Itm} (x : Diff M q L) (y : Diff M' q' L') (h : ∀ id, dsel M q id = dsel M' q' id) : L = L' := by
  have irr : ∀ z : Itm, ¬ idO z.1.1 z.1.1 < 0 := fun z => by have := tc_id.anti z.1.1 z.1.1; omega
  have nd : ∀ (L : List Itm), (L.Pairwise fun x y => idO x.1.1 y.1.1 < 0) → L.Nodup := by
    intro L p
    refine List.Pairwise.imp ?_ p
    intro a b hab e
    subst e
    exact irr a hab
  have pm : L.Perm L' := (List.perm_ext_iff_of_nodup (nd _ x.ord) (nd _ y.ord)).2 fun z => by rw [x.mem, y.mem, h]
  refine List.Perm.eq_of_pairwise (le := fun x y : Itm => idO x.1.1 y.1.1 < 0) (fun a b ha hb hab hba => ?_) x.ord y.ord pm
  have := tc_id.anti a.1.1 b.1.1
  omega
/-- Where a page ends the next one begins. -/
theorem Diff.drop {M : List (Int × List Bnd)} {q : Ak} {L : List Itm} (x : Diff M { q with sm := false } L) {z : Itm} {i : Nat} (hz : L[i]? = some z) (hs : q.sm = true) (hid : q.id = z.1.1) : Diff M q (L.drop (i + 1)) := by
  have irr : ∀ z : Itm, ¬ idO z.1.1 z.1.1 < 0 := fun z => by have := tc_id.anti z.1.1 z.1.1; omega
  refine ⟨x.ord.sublist (List.drop_sublist _ _), fun w => ?_⟩
  have hd : dsel M q w.1.1 = some w ↔ dsel M { q with sm := false } w.1.1 = some w ∧ idO w.1.1 z.1.1 > 0 := by
    unfold dsel
    simp only [hs, hid]
    cases atI M w.1.1 q.to with
    | none => simp
    | some r =>
      obtain ⟨key, ep⟩ := r
      simp only [forall_const, Bool.false_eq_true, false_implies, and_true]
      by_cases h1 : (ep : Int) > q.fr <;> by_cases h2 : idO w.1.1 z.1.1 > 0 <;> simp [h1, h2]
  rw [hd, ← x.mem]
  have pw := List.pairwise_iff_getElem.1 x.ord
  have hzl := List.getElem?_eq_some_iff.1 hz
  constructor
  · intro hw
    obtain ⟨j, hj⟩ := List.mem_iff_getElem?.1 hw
    rw [List.getElem?_drop] at hj
    have hjl := List.getElem?_eq_some_iff.1 hj
    refine ⟨List.mem_of_getElem? hj, ?_⟩
    have := pw i (i + 1 + j) hzl.1 hjl.1 (by omega)
    rw [hzl.2, hjl.2] at this
    have := tc_id.anti w.1.1 z.1.1
    omega
  · rintro ⟨hw, hgt⟩
    obtain ⟨j, hj⟩ := List.mem_iff_getElem?.1 hw
    have hjl := List.getElem?_eq_some_iff.1 hj
    rcases Nat.lt_trichotomy j i with h | h | h
    · have := pw j i hjl.1 hzl.1 h
      rw [hzl.2, hjl.2] at this
      omega
    · subst h
      rw [hz] at hj
      cases hj
      exact absurd hgt (by have := tc_id.anti z.1.1 z.1.1; omega)
    · refine List.mem_iff_getElem?.2 ⟨j - (i + 1), ?_⟩
      rw [List.getElem?_drop, show i + 1 + (j - (i + 1)) = j by omega]
      exact hj
theorem Diff.len {M : List (Int × List Bnd)} {q : Ak} {L : List Itm} (x : Diff M q L) : ∀ z ∈ L, (z.2 : Int) > q.fr ∧ atI M z.1.1 q.to = some (z.1.2, z.2) := fun z hz => by
  have h := (x.mem z).1 hz
  unfold dsel at h
  split at h
  · cases h
  · rename_i key ep e
    split at h
    · rename_i h1
      obtain ⟨⟨id, k⟩, s⟩ := z
      cases h
      exact ⟨h1.1, e⟩
    · cases h
theorem atI_sps {M : List (Int × List Bnd)} {id : List UInt8} {e : Int} {key : List UInt8} {ep : Nat} (h : atI M id e = some (key, ep)) : ∃ p ∈ sps 0 (M.map (·.2)) id, p.1 = ep ∧ (ep : Int) ≤ e := by
  unfold atI at h
  obtain ⟨ep', h1, h2⟩ := Option.map_eq_some_iff.1 h
  cases h2
  unfold atS at h1
  obtain ⟨p, hp, rfl⟩ := Option.map_eq_some_iff.1 h1
  have := List.mem_of_getLast? hp
  obtain ⟨g1, g2⟩ := List.mem_filter.1 this
  exact ⟨p, g1, rfl, by simpa using g2⟩
theorem mset_cong {s : ByteArray} {x y : Value} {l m : List Value} (hl : mok l = true) (hm : mok m = true) (e : mkeys l = mkeys m) : mkeys (mset s x l) = mkeys (mset s y m) := by
  rcases mset_keys s x l hl with ⟨h1, h2⟩ | ⟨h1, h2⟩ <;> rcases mset_keys s y m hm with ⟨h3, h4⟩ | ⟨h3, h4⟩
  · rw [h2, h4, e]
  · rw [e] at h1; exact absurd h1 h3
  · rw [e] at h1; exact absurd h3 h1
  · rw [h2, h4, e]
theorem seenC_keys (b : List Bnd) : ∀ i, mkeys (seenC b i) = mkeys (seenN b i)
  | 0 => rfl
  | i + 1 => mset_cong (seenC_ok b i) (seenN_ok b i) (seenC_keys b i)
/-- A batch that was taken: its identities are unlike, and short. -/
theorem chkB_dis {p : Pm} {b : List Bnd} (h : chkB p b = 0) : dis b ∧ ∀ x ∈ b, ¬ tooLong p x := by
  unfold chkB at h
  split at h
  · simp at h
  split at h
  · simp at h
  split at h
  · simp at h
  split at h
  · simp at h
  rename_i h1 h2 h3 h4
  refine ⟨?_, fun x hx hq => h3 ⟨x, hx, hq⟩⟩
  have hk := mkeys_len _ (seenC_ok b b.length)
  obtain ⟨g1, _, g3⟩ := seen_keys b b.length (Nat.le_refl _)
  rw [← seenC_keys] at g1 g3
  have hall := g3.1 (by omega)
  exact dis_of fun i j p q hij hp hq e => hall i j hij (List.getElem?_eq_some_iff.1 hp).1 (by rw [bat1_get hp, bat1_get hq, e])
end Go.Gh

/- Ideal: a diff, walked. -/

namespace Go.Gh
open Go Go.Proofs Go.RowKit
set_option linter.unusedVariables false
set_option linter.unusedSimpArgs false
set_option maxRecDepth 100000
set_option maxHeartbeats 4000000

theorem find_keys2 (k : ByteArray) : ∀ (l : List Value), mok l = true → mfind k l ≠ none → k ∈ mkeys l
  | [], _, h => absurd rfl h
  | [u], h, _ => by cases u <;> simp [mok] at h
  | q :: u :: l, h, e => by
    cases q with
    | string q =>
      rw [mfind] at e
      simp only [mkeys, List.mem_cons]
      by_cases hk : (k == q) = true
      · exact .inl ((MapKept.bytes_beq _ _).1 hk)
      · rw [if_neg hk] at e
        exact .inr (find_keys2 k l (by simpa [mok] using h) e)
    | _ => simp [mok] at h
section
variable {h0 h : GH} {k j : Nat} {p : Pm} {ew : Value} {cs l : List Value} {M : List (Int × List Bnd)} {ck : Int} {n : Nat}
theorem IS.key {S : List UInt8 → List (Nat × Nat)} (x : IS h0 h k j p ew cs l M ck n S) {id : List UInt8} (hs : S id ≠ []) : ∃ q, q < (mkeys l).length ∧ kid l q = id := by
  have hf : mfind (bstr id) l ≠ none := fun e => by
    have o := x.sp id
    unfold mget at o
    rw [e] at o
    obtain ⟨a, c, q⟩ := o.form
    have : (S id).length = 0 := by
      simp only [Option.getD_none] at q
      injection q with q1 q2 q3
      exact q2.symm
    exact hs (List.eq_nil_of_length_eq_zero this)
  obtain ⟨q, hq⟩ := List.mem_iff_getElem?.1 (find_keys2 _ _ x.ok hf)
  refine ⟨q, (List.getElem?_eq_some_iff.1 hq).1, ?_⟩
  unfold kid
  rw [hq]
  simp [bstr]
/-- An identity that is a key has a change. -/
theorem IM.kch (x : IM h0 h k j p ew cs l M ck n) {z : Nat} (hz : z < (mkeys l).length) : ∃ (pp : Nat × Nat) (y : Int × List Bnd) (r : List (Nat × Nat)), sps 0 (M.map (·.2)) (kid l z) = pp :: r ∧ M[pp.1]? = some y ∧ pp.2 < y.2.length ∧ (bat1 y.2 pp.2).1 = kid l z ∧ chkB p y.2 = 0 := by
  have hk : (mkeys l)[z]? = some (mkeys l)[z] := List.getElem?_eq_getElem hz
  have h1 := x.ks.2.1 _ (List.mem_of_getElem? hk)
  have hkid : kid l z = (mkeys l)[z].data.toList := by unfold kid; rw [hk]; rfl
  rw [← hkid] at h1
  cases hs : sps 0 (M.map (·.2)) (kid l z) with
  | nil => exact absurd hs h1
  | cons pp r =>
    have hm : pp ∈ sps 0 (M.map (·.2)) (kid l z) := by rw [hs]; exact List.mem_cons_self
    obtain ⟨_, _, b, hb, hl, hid⟩ := sps_mem hm
    rw [Nat.sub_zero, List.getElem?_map] at hb
    obtain ⟨y, hy, rfl⟩ := Option.map_eq_some_iff.1 hb
    refine ⟨pp, y, r, rfl, hy, hl, hid, ?_⟩
    rcases x.ks.2.2.1 y (List.mem_of_getElem? hy) with e | e
    · rw [e] at hl; simp at hl
    · exact e
theorem IM.kshort (x : IM h0 h k j p ew cs l M ck n) {z : Nat} (hz : z < (mkeys l).length) : (kid l z).length ≤ 24 := by
  obtain ⟨pp, y, r, _, hy, hl, hid, hc⟩ := x.kch hz
  have hm := p.may_iff.1 x.may
  have := (chkB_dis hc).2 (bat1 y.2 pp.2) (by
    have : y.2[pp.2]? = some (bat1 y.2 pp.2) := by simp [bat1, List.getElem?_eq_getElem hl]
    exact List.mem_of_getElem? this)
  unfold tooLong at this
  rw [hid] at this
  omega
theorem IM.klen (x : IM h0 h k j p ew cs l M ck n) : (mkeys l).length ≤ 8192 := by
  have hch : ∀ z, ∃ g : Nat, z < (mkeys l).length → ∃ (pp : Nat × Nat) (y : Int × List Bnd), g = 32 * pp.1 + pp.2 ∧ M[pp.1]? = some y ∧ pp.2 < 32 ∧ (bat1 y.2 pp.2).1 = kid l z := fun z => by
    by_cases hz : z < (mkeys l).length
    · obtain ⟨pp, y, r, _, hy, hl, hid, hc⟩ := x.kch hz
      have := (chk_small x.may hc).2
      exact ⟨_, fun _ => ⟨pp, y, rfl, hy, by omega, hid⟩⟩
    · exact ⟨0, fun q => absurd q hz⟩
  obtain ⟨g, hg⟩ := Classical.axiomOfChoice hch
  have hinj : ∀ a b, a < (mkeys l).length → b < (mkeys l).length → g a = g b → a = b := fun a b ha hb e => by
    obtain ⟨p1, y1, e1, m1, l1, i1⟩ := hg a ha
    obtain ⟨p2, y2, e2, m2, l2, i2⟩ := hg b hb
    have h1 : p1.1 = p2.1 := by omega
    have h2 : p1.2 = p2.2 := by omega
    rw [h1, m2] at m1
    cases m1
    rw [h2] at i1
    exact kid_inj x.ks.1 ha hb (i1.symm.trans i2)
  have nd : ((List.range (mkeys l).length).map g).Nodup := by
    unfold List.Nodup
    rw [List.pairwise_map]
    exact List.nodup_range.imp_of_mem fun ha hb hne e => hne (hinj _ _ (List.mem_range.1 ha) (List.mem_range.1 hb) e)
  have := nodup_len 8192 _ nd fun q hq => by
    obtain ⟨z, hz, rfl⟩ := List.mem_map.1 hq
    obtain ⟨pp, y, e, hy, hl, _⟩ := hg z (List.mem_range.1 hz)
    have := (List.getElem?_eq_some_iff.1 hy).1
    have := x.len
    omega
  rw [List.length_map, List.length_range] at this
  exact this
end
theorem RL.cut3 {α : Type} {P : Program} {es : Nat} {R : GH → List Value → α → Prop} {h : GH} {a : Option Addr} {c : Nat} {l : List α} (r : RL es R h (.slice a l.length c) l) {t e : TypeId} {b : Bool} (ht : P.underlying t = some (.slice e)) (he : gsz P e = some (b, es)) {m : Nat} (hm : m ≤ l.length) :
    ∃ a' c', (∀ h', gSlice P t h' (.slice a l.length c) none (some (.int .i64 (m : Int))) (some (.int .i64 (m : Int))) = some (.slice a' m c')) ∧ RL es R h (.slice a' m c') (l.take m) := by
  have hl : (l.take m).length = m := by simp; omega
  rcases r with ⟨c2, hv, rfl⟩ | ⟨ad, c2, cs, hv, h2, h3, h4, h5⟩
  · cases hv
    simp at hm
    subst hm
    exact ⟨none, 0, fun h' => by simp [gSlice, ht, he, gHigh, gLow, gBound], .inl ⟨0, rfl, by simp⟩⟩
  · cases hv
    have hle : m * es ≤ l.length * es := Nat.mul_le_mul_right es hm
    refine ⟨some ⟨ad.block, ad.off, ad.spot⟩, 2 * m + 1, fun h' => ?_, .inr ⟨⟨ad.block, ad.off, ad.spot⟩, 2 * m + 1, cs.take (m * es), by rw [hl], ?_, by omega, fun i x hx => ?_, ?_⟩⟩
    · have hb : 0 ≤ (m : Int) ∧ (m : Int) ≤ ((max l.length (c / 2) : Nat) : Int) := ⟨by omega, by omega⟩
      simp only [gSlice, ht, he, gBound, hb, and_self, if_true, gLow]
      simp
    · rw [hl]
      have := gread_sub h2 0 (m * es) (by omega)
      simpa using this
    · have hi : i < m := by have := (List.getElem?_eq_some_iff.1 hx).1; omega
      rw [List.getElem?_take, if_pos hi] at hx
      have hie : i * es + es ≤ m * es := by
        have := Nat.mul_le_mul_right es (show i + 1 ≤ m by omega)
        rw [Nat.add_mul, Nat.one_mul] at this; exact this
      have := h4 i x hx
      rw [List.drop_take, List.take_take, Nat.min_eq_left (by omega)]
      exact this
    · rw [hl]
      rcases h5 with h5 | h5
      · exact .inl (by omega)
      · exact .inr h5
def dL (M : List (Int × List Bnd)) (q : Ak) (l : List Value) (is : List Nat) : List Itm := is.filterMap fun z => dsel M q (kid l z)

theorem c_diff (N : Nat) {h0 h : GH} {k j : Nat} {p : Pm} {ew : Value} {cs l : List Value} {M : List (Int × List Bnd)} {ck : Int} {n : Nat} (x : IM h0 h k j p ew cs l M ck n) {a : Option Addr} {c : Nat} (q : Ak) (r : RB h (.slice a q.id.length c) q.id) (hl0 : 0 ≤ q.lm) (hl1 : q.lm ≤ 100000)
    {c0 c4 c6 c7 c9 : Value} (hc : [c0, c4, c6, c7, c9].all isCell = true) :
    GTri Try.prog N 75 [.pointer (some ⟨k, 0, none⟩), .agg #[c0, .slice a q.id.length c, .int .i64 q.fr, .int .i64 q.to, c4, .bool q.sm, c6, c7, .int .i64 q.lm, c9]] h fun v h' =>
      (∃ L, Diff M q L ∧ RAn h' v { its := L.take q.lm.toNat, more := decide (q.lm.toNat < L.length) }) ∧ HS h h' := by
  have hml := mkeys_len l x.ok
  have hkl := x.klen
  refine gtri Try.func75 rfl gf75 ok75 (by simp [Try.ntmps75]) ?_
  repeat' (first | (with_reducible first | refine gw_seq ?_ | refine gw_block ?_) | ((first | (with_reducible first | refine gw_region ?_ | refine gw_if ?_ | refine gw_skip ?_ | refine gw_exit ?_ | refine gw_ret ?_) | ((with_reducible first | refine gif_b (fun hb => ?_) (fun hb => ?_) | refine want_t (fun hb => ?_) (fun hb => ?_) | refine want_f (fun hb => ?_) (fun hb => ?_)) <;> (try simp only [hb]) <;> (try simp only [hpr] at hb))) <;> try simp only [gop, gyield, gLenX, gNilM, gField, gIndexV, gPart, reduceIte, seval, Int.cast_ofNat_Int, stz, stp, Try.underlying157, Try.underlying89, ty23, ty24, ty36, ty68, ty88, ty62, ty65, ty70, ty91, ty97, ty157, ty29, ty3, ty4, ty5, ty63, ty89, ty9, rs75]))
  refine box_g (by simpa [isCell] using hc) fun k1 h1 m1 s1 f1 n1 => ?_
  refine mk_of ?_; repeat' (first | (with_reducible first | refine gw_seq ?_ | refine gw_block ?_) | ((first | (with_reducible refine mk_to ?_) | (with_reducible first | refine gw_region ?_ | refine gw_if ?_ | refine gw_skip ?_ | refine gw_exit ?_ | refine gw_ret ?_) | ((with_reducible first | refine gif_b (fun hb => ?_) (fun hb => ?_) | refine want_t (fun hb => ?_) (fun hb => ?_) | refine want_f (fun hb => ?_) (fun hb => ?_)) <;> (try simp only [hb]) <;> (try simp only [hpr] at hb))) <;> try simp only [gop, gyield, gLenX, gNilM, gField, gIndexV, gPart, reduceIte, seval, Int.cast_ofNat_Int, stz, stp, Try.underlying157, Try.underlying89, ty23, ty24, ty36, ty68, ty88, ty62, ty65, ty70, ty91, ty97, ty157, ty29, ty3, ty4, ty5, ty63, ty89, ty9, rs75]))
  refine new_g fun k2 h2 m2 s2 f2 n2 => ?_
  replace m1 := s2 _ _ m1
  have s12 := s1.trans s2
  have x2 := x.hs s12
  have n2' := s1.none_of n2
  refine mk_of ?_; repeat' (first | (with_reducible first | refine gw_seq ?_ | refine gw_block ?_) | ((first | (with_reducible refine mk_to ?_) | (with_reducible first | refine gw_region ?_ | refine gw_if ?_ | refine gw_skip ?_ | refine gw_exit ?_ | refine gw_ret ?_) | ((with_reducible first | refine gif_b (fun hb => ?_) (fun hb => ?_) | refine want_t (fun hb => ?_) (fun hb => ?_) | refine want_f (fun hb => ?_) (fun hb => ?_)) <;> (try simp only [hb]) <;> (try simp only [hpr] at hb))) <;> try simp only [gop, gyield, gLenX, gNilM, gField, gIndexV, gPart, reduceIte, seval, Int.cast_ofNat_Int, stz, stp, Try.underlying157, Try.underlying89, ty23, ty24, ty36, ty68, ty88, ty62, ty65, ty70, ty91, ty97, ty157, ty29, ty3, ty4, ty5, ty63, ty89, ty9, rs75, gNil, gload1 x2.obj sz89, List.getElem?_cons_zero, List.getElem?_cons_succ]))
  have hmo : ∀ {h' : GH}, HS h2 h' → gMapOf h' (.map (some j)) = some l := fun {h'} s => by
    have := s _ _ x2.mp
    simp only [gMapOf, this, x.ok, if_true]
  refine ⟨_, _, j, l, Try.underlying89, rfl, hmo (HS.refl h2), fun it hi hi1 => ?_⟩
  have hdiv : l.length / 2 = (mkeys l).length := by omega
  rw [hdiv]
  generalize hh1 : hset h2 (it + 1) ⟨[IT, .map (some j), .int .i64 (((mkeys l).length : Nat) : Int)], 0, true, false⟩ = h3
  have m3 : h3 (it + 1) = some ⟨[IT, .map (some j), .int .i64 (((mkeys l).length : Nat) : Int)], 0, true, false⟩ := by rw [← hh1]; exact hset_same _ _ _
  have s3 : HS h2 h3 := by rw [← hh1]; exact HS.new hi1 _
  clear hh1
  refine mk_of ?_; repeat' (first | (with_reducible first | refine gw_seq ?_ | refine gw_block ?_) | ((first | (with_reducible refine mk_to ?_) | (with_reducible first | refine gw_region ?_ | refine gw_if ?_ | refine gw_skip ?_ | refine gw_exit ?_ | refine gw_ret ?_) | ((with_reducible first | refine gif_b (fun hb => ?_) (fun hb => ?_) | refine want_t (fun hb => ?_) (fun hb => ?_) | refine want_f (fun hb => ?_) (fun hb => ?_)) <;> (try simp only [hb]) <;> (try simp only [hpr] at hb))) <;> try simp only [gop, gyield, gLenX, gNilM, gField, gIndexV, gPart, reduceIte, seval, Int.cast_ofNat_Int, stz, stp, Try.underlying157, Try.underlying89, ty23, ty24, ty36, ty68, ty88, ty62, ty65, ty70, ty91, ty97, ty157, ty29, ty3, ty4, ty5, ty63, ty89, ty9, rs75]))
  refine gw_loop2 [0, 3, 4, 14] (fun (y : Option Addr × Nat × Nat) => [(5, .slice y.1 y.2.1 y.2.2)])
    (fun qq y h' => HS h2 h' ∧ ∃ (is : List Nat) (ds : List Value), (mkeys l).length - is.length = qq ∧ is.Nodup ∧ (∀ z ∈ is, z < (mkeys l).length) ∧ h' (it + 1) = some ⟨IT :: .map (some j) :: .int .i64 (((mkeys l).length : Nat) : Int) :: is.map (fun q : Nat => .int .i64 (q : Int)), 0, true, false⟩ ∧
      OWNC 3 h2 h' (.slice y.1 y.2.1 y.2.2) (dL M q l is).length ds ∧ ds.all notU8 = true ∧ ds.all isCell = true ∧ ∀ (i : Nat) x, (dL M q l is)[i]? = some x → It h' ((ds.drop (i * 3)).take 3) x) (mkeys l).length (none, 0, 0) (by simp [lk])
    ⟨s3, [], [], by simp, List.nodup_nil, by simp, m3, OWNC.nil _ _ _, rfl, rfl, fun i x hx => by simp [dL] at hx⟩ ?_
  clear m3 s3
  rintro _ ⟨a3, n3, c3⟩ h3 ⟨s3, is, ds, rfl, nd, lt, m3, o3, u3, ic3, r3⟩
  have x3 := x2.hs s3
  refine mk_of ?_; repeat' (first | (with_reducible first | refine gw_seq ?_ | refine gw_block ?_) | ((first | (with_reducible refine mk_to ?_) | (with_reducible first | refine gw_region ?_ | refine gw_if ?_ | refine gw_skip ?_ | refine gw_exit ?_ | refine gw_ret ?_) | ((with_reducible first | refine gif_b (fun hb => ?_) (fun hb => ?_) | refine want_t (fun hb => ?_) (fun hb => ?_) | refine want_f (fun hb => ?_) (fun hb => ?_)) <;> (try simp only [hb]) <;> (try simp only [hpr] at hb))) <;> try simp only [gop, gyield, gLenX, gNilM, gField, gIndexV, gPart, reduceIte, seval, Int.cast_ofNat_Int, stz, stp, Try.underlying157, Try.underlying89, ty23, ty24, ty36, ty68, ty88, ty62, ty65, ty70, ty91, ty97, ty157, ty29, ty3, ty4, ty5, ty63, ty89, ty9, rs75]))
  refine ⟨it, j, (mkeys l).length, is.map (fun q : Nat => .int .i64 (q : Int)), _, l, rfl, m3, rfl, hmo s3, hml, fun hall => ?_, fun z key v hq hns hkey hv => ?_⟩
  · -- all were met
    have hmem : ∀ z, z ∈ is ↔ z < (mkeys l).length := fun z => ⟨lt z, fun h => by
      obtain ⟨z', hz', e⟩ := List.mem_map.1 (hall z h)
      have : z' = z := by simp at e; omega
      subst this; exact hz'⟩
    have n3L : n3 = (dL M q l is).length := by
      obtain ⟨_, _, q⟩ := o3.form
      cases q; rfl
    subst n3L
    have hcl : (dL M q l is).length ≤ 8192 := by
      have h1 : (dL M q l is).length ≤ is.length := List.length_filterMap_le _ _
      have h2 := nodup_len _ is nd lt
      omega
    refine mk_of ?_; repeat' (first | (with_reducible first | refine gw_seq ?_ | refine gw_block ?_) | ((first | (with_reducible refine mk_to ?_) | (with_reducible first | refine gw_region ?_ | refine gw_if ?_ | refine gw_skip ?_ | refine gw_exit ?_ | refine gw_ret ?_) | ((with_reducible first | refine gif_b (fun hb => ?_) (fun hb => ?_) | refine want_t (fun hb => ?_) (fun hb => ?_) | refine want_f (fun hb => ?_) (fun hb => ?_)) <;> (try simp only [hb]) <;> (try simp only [hpr] at hb))) <;> try simp only [gop, gyield, gLenX, gNilM, gField, gIndexV, gPart, reduceIte, seval, Int.cast_ofNat_Int, stz, stp, Try.underlying157, Try.underlying89, ty23, ty24, ty36, ty68, ty88, ty62, ty65, ty70, ty91, ty97, ty157, ty29, ty3, ty4, ty5, ty63, ty89, ty9, rs75]))
    refine (c_sortI N o3 u3 ic3 r3 (by omega)).mono ?_
    rintro _ h4 ⟨l2, cs2, p4, so4, o4, u4, r4, k4, hs4⟩
    have s4 := hs4 s3
    have m14 := s4 _ _ m1
    have m24 := s4 _ _ m2
    have hl2 := p4.length_eq
    have hmd : ∀ z, z ∈ dL M q l is ↔ dsel M q z.1.1 = some z := fun z => by
      unfold dL
      rw [List.mem_filterMap]
      constructor
      · rintro ⟨i, hi, e⟩
        rw [dsel_id e]; exact e
      · intro e
        have hne : sps 0 (M.map (·.2)) z.1.1 ≠ [] := fun q0 => by
          unfold dsel atI at e
          rw [q0] at e
          simp [atS] at e
        obtain ⟨i, hi, hk⟩ := x.key hne
        exact ⟨i, (hmem i).2 hi, by rw [hk]; exact e⟩
    have D : Diff M q l2 := by
      refine ⟨?_, fun z => by rw [p4.mem_iff, hmd]⟩
      have hndM : ((dL M q l is).map (·.1.1)).Nodup := by
        have e : ∀ is : List Nat, is.Nodup → (∀ z ∈ is, z < (mkeys l).length) → ((dL M q l is).map (·.1.1)).Nodup := by
          intro is
          induction is with
          | nil => intro _ _; simp [dL]
          | cons i is ih =>
            intro n h
            have ih := ih (List.nodup_cons.1 n).2 fun z hz => h z (List.mem_cons_of_mem _ hz)
            have e : dL M q l (i :: is) = (match dsel M q (kid l i) with | some p => [p] | none => []) ++ dL M q l is := by
              unfold dL
              rw [List.filterMap_cons]
              cases dsel M q (kid l i) <;> rfl
            rw [e]
            cases hd : dsel M q (kid l i) with
            | none => exact ih
            | some p =>
              simp only [List.cons_append, List.nil_append, List.map_cons, List.nodup_cons]
              refine ⟨fun hm => ?_, ih⟩
              obtain ⟨z, hz, ez⟩ := List.mem_map.1 hm
              unfold dL at hz
              obtain ⟨i', hi', e'⟩ := List.mem_filterMap.1 hz
              have h1 := dsel_id e'
              have h2 := dsel_id hd
              have := kid_inj x.ks.1 (h i' (List.mem_cons_of_mem _ hi')) (h i List.mem_cons_self) (by rw [← h1, ← h2, ez])
              subst this
              exact (List.nodup_cons.1 n).1 hi'
        exact e is nd lt
      have hnd2 : (l2.map (·.1.1)).Nodup := ((p4.map (·.1.1)).nodup_iff).2 hndM
      have hsh : ∀ z ∈ l2, z.1.1.length ≤ 255 := fun z hz => by
        have := (p4.mem_iff.1 hz)
        unfold dL at this
        obtain ⟨i, hi, e⟩ := List.mem_filterMap.1 this
        rw [dsel_id e]
        have := x.kshort (lt i hi)
        omega
      rw [List.pairwise_iff_getElem]
      intro i j hi hj hij
      have h1 : ¬ idO l2[j].1.1 l2[i].1.1 < 0 := so4 i j _ _ hij (List.getElem?_eq_getElem hi) (List.getElem?_eq_getElem hj)
      have h2 := tc_id.anti l2[i].1.1 l2[j].1.1
      rcases Int.lt_or_eq_of_le (show idO l2[i].1.1 l2[j].1.1 ≤ 0 by omega) with h3 | h3
      · exact h3
      · exfalso
        have h4 := idO_zero (hsh _ (List.getElem_mem hi)) (hsh _ (List.getElem_mem hj)) h3
        have pw := List.pairwise_iff_getElem.1 hnd2 i j (by rw [List.length_map]; exact hi) (by rw [List.length_map]; exact hj) hij
        apply pw
        simp only [List.getElem_map]
        exact h4
    rw [← hl2] at hcl ⊢
    have o4' : OWNC 3 h2 h4 (.slice a3 l2.length c3) l2.length cs2 := by
      rw [hl2] at o4 ⊢
      exact o4
    have rl4 : RL 3 It h4 (.slice a3 l2.length c3) l2 := o4'.rl r4
    obtain ⟨lm, hlm⟩ : ∃ lm : Nat, q.lm = (lm : Int) := ⟨q.lm.toNat, by omega⟩
    have hlmt : q.lm.toNat = lm := by omega
    rw [hlm] at m14
    have mn : (if (lm : Int) < (l2.length : Int) then (lm : Int) else (l2.length : Int)) = ((min l2.length lm : Nat) : Int) := by split <;> omega
    obtain ⟨a5, c5, e5, r5⟩ := rl4.cut3 (P := Try.prog) Try.underlying68 sz97 (m := min l2.length lm) (Nat.min_le_left _ _)
    have htk : l2.take (min l2.length lm) = l2.take lm := by
      rcases Nat.le_total l2.length lm with h | h
      · rw [Nat.min_eq_left h, List.take_length, List.take_of_length_le h]
      · rw [Nat.min_eq_right h]
    have dm : decide (((min l2.length lm : Nat) : Int) < (l2.length : Int)) = decide (lm < l2.length) := by
      by_cases h : lm < l2.length
      · rw [decide_eq_true h, decide_eq_true (by omega)]
      · rw [decide_eq_false h, decide_eq_false (by omega)]
    refine mk_of ?_; repeat' (first | (with_reducible first | refine gw_seq ?_ | refine gw_block ?_) | ((first | (with_reducible refine mk_to ?_) | (with_reducible first | refine gw_region ?_ | refine gw_if ?_ | refine gw_skip ?_ | refine gw_exit ?_ | refine gw_ret ?_) | ((with_reducible first | refine gif_b (fun hb => ?_) (fun hb => ?_) | refine want_t (fun hb => ?_) (fun hb => ?_) | refine want_f (fun hb => ?_) (fun hb => ?_)) <;> (try simp only [hb]) <;> (try simp only [hpr] at hb))) <;> try simp only [gop, gyield, gLenX, gNilM, gField, gIndexV, gPart, reduceIte, seval, Int.cast_ofNat_Int, stz, stp, Try.underlying157, Try.underlying89, ty23, ty24, ty36, ty68, ty88, ty62, ty65, ty70, ty91, ty97, ty157, ty29, ty3, ty4, ty5, ty63, ty89, ty9, rs75, mn, e5, dm, gload1 m14 sz3, List.getElem?_cons_zero, List.getElem?_cons_succ, gBuild, lfill, lput, Shape.pl, List.all_cons, List.all_nil, isCell]))
    refine st_all m24 sz70 rfl (by decide) rfl rfl rfl fun h5 m5 f5 => ?_
    refine mk_of ?_; repeat' (first | (with_reducible first | refine gw_seq ?_ | refine gw_block ?_) | ((first | (with_reducible refine mk_to ?_) | (with_reducible first | refine gw_region ?_ | refine gw_if ?_ | refine gw_skip ?_ | refine gw_exit ?_ | refine gw_ret ?_) | ((with_reducible first | refine gif_b (fun hb => ?_) (fun hb => ?_) | refine want_t (fun hb => ?_) (fun hb => ?_) | refine want_f (fun hb => ?_) (fun hb => ?_)) <;> (try simp only [hb]) <;> (try simp only [hpr] at hb))) <;> try simp only [gop, gyield, gLenX, gNilM, gField, gIndexV, gPart, reduceIte, seval, Int.cast_ofNat_Int, stz, stp, Try.underlying157, Try.underlying89, ty23, ty24, ty36, ty68, ty88, ty62, ty65, ty70, ty91, ty97, ty157, ty29, ty3, ty4, ty5, ty63, ty89, ty9, rs75, gloadA m5 sz70 rfl]))
    have hx : HX k2 h4 h5 := fun j B n e => (f5 j n).trans e
    refine ⟨⟨l2, D, ?_⟩, (s12.trans s4).upd n2' f5⟩
    rw [hlmt]
    have hln : (l2.take lm).length = min l2.length lm := by rw [List.length_take, Nat.min_comm]
    rw [htk] at r5
    rw [← hln] at r5 ⊢
    refine ⟨none, 0, a5, c5, none, 0, rfl, RB.nil h5, r5.hxR m24 ⟨rfl, rfl⟩ hx fun cs y r => ?_, RL.nil h5⟩
    obtain ⟨a, c, b, d, e, r1, r2⟩ := r
    exact ⟨a, c, b, d, e, r1.hx m24 rfl hx, r2.hx m24 rfl hx⟩
  obtain ⟨kb, rfl, hkq, hfd⟩ := mat_find l z key v x.ok x.ks.1 hkey hv
  have hid : kid l z = kb.data.toList := by unfold kid; rw [hkq]; rfl
  have hshort : kb.data.toList.length ≤ 24 := by rw [← hid]; exact x.kshort hq
  generalize hh4 : hset h3 (it + 1) _ = h4
  have m4 : h4 (it + 1) = some ⟨IT :: .map (some j) :: .int .i64 (((mkeys l).length : Nat) : Int) :: (is.map (fun q : Nat => .int .i64 (q : Int)) ++ [.int .i64 (z : Int)]), 0, true, false⟩ := by rw [← hh4]; exact hset_same _ _ _
  have f4 : ∀ i, i ≠ it + 1 → h4 i = h3 i := fun i hi => by rw [← hh4]; exact hset_ne _ _ hi
  have s4 : HS h2 h4 := s3.upd hi1 f4
  clear hh4
  have x4 := x2.hs s4
  have uit : (⟨IT :: .map (some j) :: .int .i64 (((mkeys l).length : Nat) : Int) :: is.map (fun q : Nat => .int .i64 (q : Int)), 0, true, false⟩ : GB).cells.all notU8 = true := by simp [notU8]
  have hx4 : HX (it + 1) h3 h4 := fun i B n e => (f4 i n).trans e
  refine mk_of ?_; repeat' (first | (with_reducible first | refine gw_seq ?_ | refine gw_block ?_) | ((first | (with_reducible refine mk_to ?_) | (with_reducible first | refine gw_region ?_ | refine gw_if ?_ | refine gw_skip ?_ | refine gw_exit ?_ | refine gw_ret ?_) | ((with_reducible first | refine gif_b (fun hb => ?_) (fun hb => ?_) | refine want_t (fun hb => ?_) (fun hb => ?_) | refine want_f (fun hb => ?_) (fun hb => ?_)) <;> (try simp only [hb]) <;> (try simp only [hpr] at hb))) <;> try simp only [gop, gyield, gLenX, gNilM, gField, gIndexV, gPart, reduceIte, seval, Int.cast_ofNat_Int, stz, stp, Try.underlying157, Try.underlying89, ty23, ty24, ty36, ty68, ty88, ty62, ty65, ty70, ty91, ty97, ty157, ty29, ty3, ty4, ty5, ty63, ty89, ty9, rs75]))
  refine ⟨it, j, (mkeys l).length, z, is.map (fun q : Nat => .int .i64 (q : Int)), _, l, .string kb, v, rfl, m4, rfl, hmo s4, hml, hkey, hv, ?_⟩
  have nd' : (is ++ [z]).Nodup := by
    rw [List.nodup_append]
    refine ⟨nd, by simp, fun a ha b hb e => hns ?_⟩
    obtain rfl := List.mem_singleton.1 hb
    rw [← e]
    exact List.mem_map.2 ⟨a, ha, rfl⟩
  have lt' : ∀ y ∈ is ++ [z], y < (mkeys l).length := fun y hy => by
    rcases List.mem_append.1 hy with hy | hy
    · exact lt y hy
    · obtain rfl := List.mem_singleton.1 hy; exact hq
  have hlen' := nodup_len _ _ nd' lt'
  rw [List.length_append, List.length_singleton] at hlen'
  have mm4 : h4 (it + 1) = some ⟨IT :: .map (some j) :: .int .i64 (((mkeys l).length : Nat) : Int) :: (is ++ [z]).map (fun q : Nat => .int .i64 (q : Int)), 0, true, false⟩ := by rw [m4, List.map_append]; rfl
  have o4 : OWNC 3 h2 h4 (.slice a3 n3 c3) (dL M q l is).length ds := o3.hx m3 (by simp) hx4
  have n3L : n3 = (dL M q l is).length := by
    obtain ⟨_, _, q⟩ := o3.form
    cases q; rfl
  subst n3L
  have hdl : (dL M q l is).length ≤ is.length := List.length_filterMap_le _ _
  have fr4 : ∀ {q : List Value} {ee : Itm}, It h3 q ee → It h4 q ee := fun {q ee} w => by
    obtain ⟨a, c, b, d, e, r1, r2⟩ := w
    exact ⟨a, c, b, d, e, r1.hx m3 uit hx4, r2.hx m3 uit hx4⟩
  have fr45 : ∀ {h' : GH} (s : HS h4 h') {q : List Value} {ee : Itm}, It h3 q ee → It h' q ee := fun {h'} s {q ee} w => (fr4 w).hs s
  have hch : ∀ o, dsel M q kb.data.toList = o → dL M q l (is ++ [z]) = dL M q l is ++ (match o with | some p => [p] | none => []) := fun o ho => by
    unfold dL
    rw [List.filterMap_append]
    congr 1
    simp only [List.filterMap_cons, List.filterMap_nil, hid, ho]
    cases o <;> rfl
  have skip : dsel M q kb.data.toList = none → ∀ h', HS h4 h' → HS h2 h' ∧ ∃ (is' : List Nat) (ds' : List Value), (mkeys l).length - is'.length < (mkeys l).length - is.length ∧ is'.Nodup ∧ (∀ q ∈ is', q < (mkeys l).length) ∧ h' (it + 1) = some ⟨IT :: .map (some j) :: .int .i64 (((mkeys l).length : Nat) : Int) :: is'.map (fun q : Nat => .int .i64 (q : Int)), 0, true, false⟩ ∧
      OWNC 3 h2 h' (.slice a3 (dL M q l is).length c3) (dL M q l is').length ds' ∧ ds'.all notU8 = true ∧ ds'.all isCell = true ∧ ∀ (i : Nat) x, (dL M q l is')[i]? = some x → It h' ((ds'.drop (i * 3)).take 3) x := fun hno h' s => by
    have e := hch _ hno
    simp only [List.append_nil] at e
    refine ⟨s4.trans s, is ++ [z], ds, by rw [List.length_append, List.length_singleton]; omega, nd', lt', s _ _ mm4, by rw [e]; exact o4.hs s, u3, ic3, fun i x hx => ?_⟩
    rw [e] at hx
    exact fr45 s (r3 i x hx)
  have m14 := s4 _ _ m1
  simp only [gop, gyield, gLenX, gNilM, gField, gIndexV, gPart, reduceIte, seval, Int.cast_ofNat_Int, stz, stp, Try.underlying157, Try.underlying89, ty23, ty24, ty36, ty68, ty88, ty62, ty65, ty70, ty91, ty97, ty157, ty29, ty3, ty4, ty5, ty63, ty89, ty9, rs75]
  refine gw_seq ?_
  refine gr_of ?_
  refine gr_cut 2 ?_
  simp only [gop, gyield, gLenX, gNilM, gField, gIndexV, gPart, reduceIte, seval, Int.cast_ofNat_Int, stz, stp, Try.underlying157, Try.underlying89, ty23, ty24, ty36, ty68, ty88, ty62, ty65, ty70, ty91, ty97, ty157, ty29, ty3, ty4, ty5, ty63, ty89, ty9, rs75]
  refine gr_sb Try.underlying9 Try.underlying24 Try.underlying5 rfl fun k6 h6 m6 s6' f6 n6 => ?_
  have m16 := s6' _ _ m14
  refine gr_end ?_
  simp only [eput]
  refine mk_of ?_; repeat' (first | (with_reducible first | refine gw_seq ?_ | refine gw_block ?_) | ((first | (with_reducible refine mk_to ?_) | (with_reducible first | refine gw_region ?_ | refine gw_if ?_ | refine gw_skip ?_ | refine gw_exit ?_ | refine gw_ret ?_) | ((with_reducible first | refine gif_b (fun hb => ?_) (fun hb => ?_) | refine want_t (fun hb => ?_) (fun hb => ?_) | refine want_f (fun hb => ?_) (fun hb => ?_)) <;> (try simp only [hb]) <;> (try simp only [hpr] at hb))) <;> try simp only [gop, gyield, gLenX, gNilM, gField, gIndexV, gPart, reduceIte, seval, Int.cast_ofNat_Int, stz, stp, Try.underlying157, Try.underlying89, ty23, ty24, ty36, ty68, ty88, ty62, ty65, ty70, ty91, ty97, ty157, ty29, ty3, ty4, ty5, ty63, ty89, ty9, rs75, gload1 m16 sz3, List.getElem?_cons_zero, List.getElem?_cons_succ]))
  refine (c_iat N (x4.hs s6') (bytes_rb m6) (by omega) q.to).mono ?_
  rintro v7 h7 ⟨at7, s7⟩
  have m17 := s7 _ _ m16
  have s47 := s6'.trans s7
  cases hA : atI M kb.data.toList q.to with
  | none =>
    rw [hA] at at7
    simp only [AtV] at at7
    subst at7
    have hno : dsel M q kb.data.toList = none := by unfold dsel; rw [hA]
    refine mk_of ?_; repeat' (first | (with_reducible first | refine gw_seq ?_ | refine gw_block ?_) | ((first | (with_reducible refine mk_to ?_) | (with_reducible first | refine gw_region ?_ | refine gw_if ?_ | refine gw_skip ?_ | refine gw_exit ?_ | refine gw_ret ?_) | ((with_reducible first | refine gif_b (fun hb => ?_) (fun hb => ?_) | refine want_t (fun hb => ?_) (fun hb => ?_) | refine want_f (fun hb => ?_) (fun hb => ?_)) <;> (try simp only [hb]) <;> (try simp only [hpr] at hb))) <;> try simp only [gop, gyield, gLenX, gNilM, gField, gIndexV, gPart, reduceIte, seval, Int.cast_ofNat_Int, stz, stp, Try.underlying157, Try.underlying89, ty23, ty24, ty36, ty68, ty88, ty62, ty65, ty70, ty91, ty97, ty157, ty29, ty3, ty4, ty5, ty63, ty89, ty9, rs75]))
    refine new_g fun k8 h8 m8 s8 f8 n8 => ?_
    refine mk_of ?_; repeat' (first | (with_reducible first | refine gw_seq ?_ | refine gw_block ?_) | ((first | (with_reducible refine mk_to ?_) | (with_reducible first | refine gw_region ?_ | refine gw_if ?_ | refine gw_skip ?_ | refine gw_exit ?_ | refine gw_ret ?_) | ((with_reducible first | refine gif_b (fun hb => ?_) (fun hb => ?_) | refine want_t (fun hb => ?_) (fun hb => ?_) | refine want_f (fun hb => ?_) (fun hb => ?_)) <;> (try simp only [hb]) <;> (try simp only [hpr] at hb))) <;> try simp only [gop, gyield, gLenX, gNilM, gField, gIndexV, gPart, reduceIte, seval, Int.cast_ofNat_Int, stz, stp, Try.underlying157, Try.underlying89, ty23, ty24, ty36, ty68, ty88, ty62, ty65, ty70, ty91, ty97, ty157, ty29, ty3, ty4, ty5, ty63, ty89, ty9, rs75]))
    refine st_all m8 sz97 rfl (by decide) rfl rfl rfl fun h9 m9 f9 => ?_
    have s9 : HS h7 h9 := (HS.refl h7).upd n8 (fun j hj => (f9 j hj).trans (f8 j hj))
    refine mk_of ?_; repeat' (first | (with_reducible first | refine gw_seq ?_ | refine gw_block ?_) | ((first | (with_reducible refine mk_to ?_) | (with_reducible first | refine gw_region ?_ | refine gw_if ?_ | refine gw_skip ?_ | refine gw_exit ?_ | refine gw_ret ?_) | ((with_reducible first | refine gif_b (fun hb => ?_) (fun hb => ?_) | refine want_t (fun hb => ?_) (fun hb => ?_) | refine want_f (fun hb => ?_) (fun hb => ?_)) <;> (try simp only [hb]) <;> (try simp only [hpr] at hb))) <;> try simp only [gop, gyield, gLenX, gNilM, gField, gIndexV, gPart, reduceIte, seval, Int.cast_ofNat_Int, stz, stp, Try.underlying157, Try.underlying89, ty23, ty24, ty36, ty68, ty88, ty62, ty65, ty70, ty91, ty97, ty157, ty29, ty3, ty4, ty5, ty63, ty89, ty9, rs75, gPick, gload1 m9 sz3, List.getElem?_cons_zero, List.getElem?_cons_succ]))
    obtain ⟨z0, is', ds', z1, z2⟩ := skip hno h9 (s47.trans s9)
    exact ⟨_, (a3, (dL M q l is).length, c3), z1, (by simp only [List.forall_mem_cons, List.not_mem_nil, false_implies, implies_true, List.map, List.cons_append, List.nil_append, lk, Nat.reduceEqDiff, reduceIte, and_true, true_and]), z0, is', ds', rfl, z2⟩
  | some pr =>
    obtain ⟨key', ep⟩ := pr
    rw [hA] at at7
    simp only [AtV] at at7
    obtain ⟨a7, c7, b7, d7, rfl, r7, r8⟩ := at7
    refine mk_of ?_; repeat' (first | (with_reducible first | refine gw_seq ?_ | refine gw_block ?_) | ((first | (with_reducible refine mk_to ?_) | (with_reducible first | refine gw_region ?_ | refine gw_if ?_ | refine gw_skip ?_ | refine gw_exit ?_ | refine gw_ret ?_) | ((with_reducible first | refine gif_b (fun hb => ?_) (fun hb => ?_) | refine want_t (fun hb => ?_) (fun hb => ?_) | refine want_f (fun hb => ?_) (fun hb => ?_)) <;> (try simp only [hb]) <;> (try simp only [hpr] at hb))) <;> try simp only [gop, gyield, gLenX, gNilM, gField, gIndexV, gPart, reduceIte, seval, Int.cast_ofNat_Int, stz, stp, Try.underlying157, Try.underlying89, ty23, ty24, ty36, ty68, ty88, ty62, ty65, ty70, ty91, ty97, ty157, ty29, ty3, ty4, ty5, ty63, ty89, ty9, rs75]))
    refine new_g fun k8 h8 m8 s8 f8 n8 => ?_
    refine mk_of ?_; repeat' (first | (with_reducible first | refine gw_seq ?_ | refine gw_block ?_) | ((first | (with_reducible refine mk_to ?_) | (with_reducible first | refine gw_region ?_ | refine gw_if ?_ | refine gw_skip ?_ | refine gw_exit ?_ | refine gw_ret ?_) | ((with_reducible first | refine gif_b (fun hb => ?_) (fun hb => ?_) | refine want_t (fun hb => ?_) (fun hb => ?_) | refine want_f (fun hb => ?_) (fun hb => ?_)) <;> (try simp only [hb]) <;> (try simp only [hpr] at hb))) <;> try simp only [gop, gyield, gLenX, gNilM, gField, gIndexV, gPart, reduceIte, seval, Int.cast_ofNat_Int, stz, stp, Try.underlying157, Try.underlying89, ty23, ty24, ty36, ty68, ty88, ty62, ty65, ty70, ty91, ty97, ty157, ty29, ty3, ty4, ty5, ty63, ty89, ty9, rs75]))
    refine st_all m8 sz97 rfl (by decide) rfl rfl rfl fun h9 m9 f9 => ?_
    have s9 : HS h7 h9 := (HS.refl h7).upd n8 (fun j hj => (f9 j hj).trans (f8 j hj))
    have m19 := s9 _ _ m17
    by_cases hf : (ep : Int) > q.fr
    case neg =>
      have d1 : decide ((ep : Int) > q.fr) = false := decide_eq_false hf
      have hno : dsel M q kb.data.toList = none := by unfold dsel; rw [hA]; simp only; rw [if_neg (fun z => hf z.1)]
      refine mk_of ?_; repeat' (first | (with_reducible first | refine gw_seq ?_ | refine gw_block ?_) | ((first | (with_reducible refine mk_to ?_) | (with_reducible first | refine gw_region ?_ | refine gw_if ?_ | refine gw_skip ?_ | refine gw_exit ?_ | refine gw_ret ?_) | ((with_reducible first | refine gif_b (fun hb => ?_) (fun hb => ?_) | refine want_t (fun hb => ?_) (fun hb => ?_) | refine want_f (fun hb => ?_) (fun hb => ?_)) <;> (try simp only [hb]) <;> (try simp only [hpr] at hb))) <;> try simp only [gop, gyield, gLenX, gNilM, gField, gIndexV, gPart, reduceIte, seval, Int.cast_ofNat_Int, stz, stp, Try.underlying157, Try.underlying89, ty23, ty24, ty36, ty68, ty88, ty62, ty65, ty70, ty91, ty97, ty157, ty29, ty3, ty4, ty5, ty63, ty89, ty9, rs75, gPick, d1, gload1 m9 sz3, gload1 m19 sz3, List.getElem?_cons_zero, List.getElem?_cons_succ]))
      obtain ⟨z0, is', ds', z1, z2⟩ := skip hno h9 (s47.trans s9)
      exact ⟨_, (a3, (dL M q l is).length, c3), z1, (by simp only [List.forall_mem_cons, List.not_mem_nil, false_implies, implies_true, List.map, List.cons_append, List.nil_append, lk, Nat.reduceEqDiff, reduceIte, and_true, true_and]), z0, is', ds', rfl, z2⟩
    have d1 : decide ((ep : Int) > q.fr) = true := decide_eq_true hf
    cases hsm : q.sm with
    | false =>
      have hyes : dsel M q kb.data.toList = some ((kb.data.toList, key'), ep) := by unfold dsel; rw [hA]; simp only; rw [if_pos ⟨hf, fun z => by rw [hsm] at z; cases z⟩]
      rw [hsm] at m19
      refine mk_of ?_; repeat' (first | (with_reducible first | refine gw_seq ?_ | refine gw_block ?_) | ((first | (with_reducible refine mk_to ?_) | (with_reducible first | refine gw_region ?_ | refine gw_if ?_ | refine gw_skip ?_ | refine gw_exit ?_ | refine gw_ret ?_) | ((with_reducible first | refine gif_b (fun hb => ?_) (fun hb => ?_) | refine want_t (fun hb => ?_) (fun hb => ?_) | refine want_f (fun hb => ?_) (fun hb => ?_)) <;> (try simp only [hb]) <;> (try simp only [hpr] at hb))) <;> try simp only [gop, gyield, gLenX, gNilM, gField, gIndexV, gPart, reduceIte, seval, Int.cast_ofNat_Int, stz, stp, Try.underlying157, Try.underlying89, ty23, ty24, ty36, ty68, ty88, ty62, ty65, ty70, ty91, ty97, ty157, ty29, ty3, ty4, ty5, ty63, ty89, ty9, rs75, gPick, d1, gloadA m9 sz97 rfl, gload1 m9 sz3, gload1 m19 sz3, gload1 m19 sz4, List.getElem?_cons_zero, List.getElem?_cons_succ]))
      refine bsn1_g el68 rfl rfl (by decide) (by decide) rfl fun k12 h12 b12 s12' f12 n12 => ?_
      have s412 := (s6'.trans s7).trans ((s9).trans s12')
      refine mk_of ?_; repeat' (first | (with_reducible first | refine gw_seq ?_ | refine gw_block ?_) | ((first | (with_reducible refine mk_to ?_) | (with_reducible first | refine gw_region ?_ | refine gw_if ?_ | refine gw_skip ?_ | refine gw_exit ?_ | refine gw_ret ?_) | ((with_reducible first | refine gif_b (fun hb => ?_) (fun hb => ?_) | refine want_t (fun hb => ?_) (fun hb => ?_) | refine want_f (fun hb => ?_) (fun hb => ?_)) <;> (try simp only [hb]) <;> (try simp only [hpr] at hb))) <;> try simp only [gop, gyield, gLenX, gNilM, gField, gIndexV, gPart, reduceIte, seval, Int.cast_ofNat_Int, stz, stp, Try.underlying157, Try.underlying89, ty23, ty24, ty36, ty68, ty88, ty62, ty65, ty70, ty91, ty97, ty157, ty29, ty3, ty4, ty5, ty63, ty89, ty9, rs75]))
      refine append_ownc el68 Try.underlying68 rfl (s4.trans s412) (o4.hs s412) b12 rfl rfl (by omega) (by simp only [maxLen]; omega) fun v13 h13 s13 fr13 o13 => ?_
      obtain ⟨a13, c13, rfl⟩ := o13.form
      refine mk_of ?_; repeat' (first | (with_reducible first | refine gw_seq ?_ | refine gw_block ?_) | ((first | (with_reducible refine mk_to ?_) | (with_reducible first | refine gw_region ?_ | refine gw_if ?_ | refine gw_skip ?_ | refine gw_exit ?_ | refine gw_ret ?_) | ((with_reducible first | refine gif_b (fun hb => ?_) (fun hb => ?_) | refine want_t (fun hb => ?_) (fun hb => ?_) | refine want_f (fun hb => ?_) (fun hb => ?_)) <;> (try simp only [hb]) <;> (try simp only [hpr] at hb))) <;> try simp only [gop, gyield, gLenX, gNilM, gField, gIndexV, gPart, reduceIte, seval, Int.cast_ofNat_Int, stz, stp, Try.underlying157, Try.underlying89, ty23, ty24, ty36, ty68, ty88, ty62, ty65, ty70, ty91, ty97, ty157, ty29, ty3, ty4, ty5, ty63, ty89, ty9, rs75]))
      have e := hch _ hyes
      have m12 := s412 _ _ mm4
      have keep : ∀ {q : List Value} {ee : Itm}, It h12 q ee → It h13 q ee := fun {q ee} w => by
        obtain ⟨a, c, b, d, e, r1, r2⟩ := w
        exact ⟨a, c, b, d, e, fr_rb fr13 u3 r1, fr_rb fr13 u3 r2⟩
      refine ⟨_, (a13, (dL M q l is).length + 1, c13), ?_, (by simp only [List.forall_mem_cons, List.not_mem_nil, false_implies, implies_true, List.map, List.cons_append, List.nil_append, lk, Nat.reduceEqDiff, reduceIte, and_true, true_and]), s13, is ++ [z], _, rfl, nd', lt', fr_es fr13 m12 (by simp), by rw [e, List.length_append]; exact o13, by rw [List.all_append, u3]; rfl, by rw [List.all_append, ic3]; rfl, ?_⟩
      · rw [List.length_append, List.length_singleton]; omega
      · rw [e]
        refine app_el (R := It h13) o3.len rfl (fun i x hx => keep (fr45 s412 (r3 i x hx))) (keep ⟨a7, c7, b7, d7, rfl, (r7.hs (s9)).hs s12', (r8.hs (s9)).hs s12'⟩)
    | true =>
      rw [hsm] at m19
      refine mk_of ?_; repeat' (first | (with_reducible first | refine gw_seq ?_ | refine gw_block ?_) | ((first | (with_reducible refine mk_to ?_) | (with_reducible first | refine gw_region ?_ | refine gw_if ?_ | refine gw_skip ?_ | refine gw_exit ?_ | refine gw_ret ?_) | ((with_reducible first | refine gif_b (fun hb => ?_) (fun hb => ?_) | refine want_t (fun hb => ?_) (fun hb => ?_) | refine want_f (fun hb => ?_) (fun hb => ?_)) <;> (try simp only [hb]) <;> (try simp only [hpr] at hb))) <;> try simp only [gop, gyield, gLenX, gNilM, gField, gIndexV, gPart, reduceIte, seval, Int.cast_ofNat_Int, stz, stp, Try.underlying157, Try.underlying89, ty23, ty24, ty36, ty68, ty88, ty62, ty65, ty70, ty91, ty97, ty157, ty29, ty3, ty4, ty5, ty63, ty89, ty9, rs75, gPick, d1, gload1 m9 sz3, gload1 m9 sz24, gload1 m19 sz3, gload1 m19 sz4, gload1 m19 sz24, List.getElem?_cons_zero, List.getElem?_cons_succ]))
      have s49 := s47.trans s9
      refine (c_Order N h9 (r7.hs s9) (((r.hs s12).hs (s4.trans s49))) rfl rfl).mono ?_
      rintro _ h10 ⟨rfl, s10⟩
      have m910 := s10 _ _ m9
      by_cases hgt : Lib.compareBytes (gkey kb.data.toList) (gkey q.id) > 0
      case neg =>
        have d2 : decide (Lib.compareBytes (gkey kb.data.toList) (gkey q.id) > 0) = false := decide_eq_false hgt
        have hno : dsel M q kb.data.toList = none := by unfold dsel; rw [hA]; simp only; rw [if_neg (fun z => hgt (z.2 hsm))]
        refine mk_of ?_; repeat' (first | (with_reducible first | refine gw_seq ?_ | refine gw_block ?_) | ((first | (with_reducible refine mk_to ?_) | (with_reducible first | refine gw_region ?_ | refine gw_if ?_ | refine gw_skip ?_ | refine gw_exit ?_ | refine gw_ret ?_) | ((with_reducible first | refine gif_b (fun hb => ?_) (fun hb => ?_) | refine want_t (fun hb => ?_) (fun hb => ?_) | refine want_f (fun hb => ?_) (fun hb => ?_)) <;> (try simp only [hb]) <;> (try simp only [hpr] at hb))) <;> try simp only [gop, gyield, gLenX, gNilM, gField, gIndexV, gPart, reduceIte, seval, Int.cast_ofNat_Int, stz, stp, Try.underlying157, Try.underlying89, ty23, ty24, ty36, ty68, ty88, ty62, ty65, ty70, ty91, ty97, ty157, ty29, ty3, ty4, ty5, ty63, ty89, ty9, rs75, gPick, d2]))
        obtain ⟨z0, is', ds', z1, z2⟩ := skip hno h10 (s49.trans s10)
        exact ⟨_, (a3, (dL M q l is).length, c3), z1, (by simp only [List.forall_mem_cons, List.not_mem_nil, false_implies, implies_true, List.map, List.cons_append, List.nil_append, lk, Nat.reduceEqDiff, reduceIte, and_true, true_and]), z0, is', ds', rfl, z2⟩
      have d2 : decide (Lib.compareBytes (gkey kb.data.toList) (gkey q.id) > 0) = true := decide_eq_true hgt
      have hyes : dsel M q kb.data.toList = some ((kb.data.toList, key'), ep) := by unfold dsel; rw [hA]; simp only; rw [if_pos ⟨hf, fun _ => hgt⟩]
      refine mk_of ?_; repeat' (first | (with_reducible first | refine gw_seq ?_ | refine gw_block ?_) | ((first | (with_reducible refine mk_to ?_) | (with_reducible first | refine gw_region ?_ | refine gw_if ?_ | refine gw_skip ?_ | refine gw_exit ?_ | refine gw_ret ?_) | ((with_reducible first | refine gif_b (fun hb => ?_) (fun hb => ?_) | refine want_t (fun hb => ?_) (fun hb => ?_) | refine want_f (fun hb => ?_) (fun hb => ?_)) <;> (try simp only [hb]) <;> (try simp only [hpr] at hb))) <;> try simp only [gop, gyield, gLenX, gNilM, gField, gIndexV, gPart, reduceIte, seval, Int.cast_ofNat_Int, stz, stp, Try.underlying157, Try.underlying89, ty23, ty24, ty36, ty68, ty88, ty62, ty65, ty70, ty91, ty97, ty157, ty29, ty3, ty4, ty5, ty63, ty89, ty9, rs75, gPick, d2, gloadA m910 sz97 rfl]))
      refine bsn1_g el68 rfl rfl (by decide) (by decide) rfl fun k12 h12 b12 s12' f12 n12 => ?_
      have s412 := (s6'.trans s7).trans ((s9.trans s10).trans s12')
      refine mk_of ?_; repeat' (first | (with_reducible first | refine gw_seq ?_ | refine gw_block ?_) | ((first | (with_reducible refine mk_to ?_) | (with_reducible first | refine gw_region ?_ | refine gw_if ?_ | refine gw_skip ?_ | refine gw_exit ?_ | refine gw_ret ?_) | ((with_reducible first | refine gif_b (fun hb => ?_) (fun hb => ?_) | refine want_t (fun hb => ?_) (fun hb => ?_) | refine want_f (fun hb => ?_) (fun hb => ?_)) <;> (try simp only [hb]) <;> (try simp only [hpr] at hb))) <;> try simp only [gop, gyield, gLenX, gNilM, gField, gIndexV, gPart, reduceIte, seval, Int.cast_ofNat_Int, stz, stp, Try.underlying157, Try.underlying89, ty23, ty24, ty36, ty68, ty88, ty62, ty65, ty70, ty91, ty97, ty157, ty29, ty3, ty4, ty5, ty63, ty89, ty9, rs75]))
      refine append_ownc el68 Try.underlying68 rfl (s4.trans s412) (o4.hs s412) b12 rfl rfl (by omega) (by simp only [maxLen]; omega) fun v13 h13 s13 fr13 o13 => ?_
      obtain ⟨a13, c13, rfl⟩ := o13.form
      refine mk_of ?_; repeat' (first | (with_reducible first | refine gw_seq ?_ | refine gw_block ?_) | ((first | (with_reducible refine mk_to ?_) | (with_reducible first | refine gw_region ?_ | refine gw_if ?_ | refine gw_skip ?_ | refine gw_exit ?_ | refine gw_ret ?_) | ((with_reducible first | refine gif_b (fun hb => ?_) (fun hb => ?_) | refine want_t (fun hb => ?_) (fun hb => ?_) | refine want_f (fun hb => ?_) (fun hb => ?_)) <;> (try simp only [hb]) <;> (try simp only [hpr] at hb))) <;> try simp only [gop, gyield, gLenX, gNilM, gField, gIndexV, gPart, reduceIte, seval, Int.cast_ofNat_Int, stz, stp, Try.underlying157, Try.underlying89, ty23, ty24, ty36, ty68, ty88, ty62, ty65, ty70, ty91, ty97, ty157, ty29, ty3, ty4, ty5, ty63, ty89, ty9, rs75]))
      have e := hch _ hyes
      have m12 := s412 _ _ mm4
      have keep : ∀ {q : List Value} {ee : Itm}, It h12 q ee → It h13 q ee := fun {q ee} w => by
        obtain ⟨a, c, b, d, e, r1, r2⟩ := w
        exact ⟨a, c, b, d, e, fr_rb fr13 u3 r1, fr_rb fr13 u3 r2⟩
      refine ⟨_, (a13, (dL M q l is).length + 1, c13), ?_, (by simp only [List.forall_mem_cons, List.not_mem_nil, false_implies, implies_true, List.map, List.cons_append, List.nil_append, lk, Nat.reduceEqDiff, reduceIte, and_true, true_and]), s13, is ++ [z], _, rfl, nd', lt', fr_es fr13 m12 (by simp), by rw [e, List.length_append]; exact o13, by rw [List.all_append, u3]; rfl, by rw [List.all_append, ic3]; rfl, ?_⟩
      · rw [List.length_append, List.length_singleton]; omega
      · rw [e]
        refine app_el (R := It h13) o3.len rfl (fun i x hx => keep (fr45 s412 (r3 i x hx))) (keep ⟨a7, c7, b7, d7, rfl, (r7.hs (s9.trans s10)).hs s12', (r8.hs (s9.trans s10)).hs s12'⟩)
end Go.Gh

/- Ideal: a map asked for a diff. -/

namespace Go.Gh
open Go Go.Proofs Go.RowKit
set_option linter.unusedVariables false
set_option linter.unusedSimpArgs false
set_option maxRecDepth 100000
set_option maxHeartbeats 4000000

def diffA (q : Ak) (L : List Itm) : An := { its := L.take q.lm.toNat, more := decide (q.lm.toNat < L.length) }
theorem c_DoDiff (N : Nat) {h0 h : GH} {k j : Nat} {p : Pm} {ew : Value} {cs l : List Value} {M : List (Int × List Bnd)} {ck : Int} {n : Nat} (x : IM h0 h k j p ew cs l M ck n) {a : Option Addr} {c : Nat} (q : Ak) (hk : q.kd = 6) (r : RB h (.slice a q.id.length c) q.id) (hid : q.id.length ≤ 140737488355328)
    {c4 c6 c7 c9 : Value} (hc : [c4, c6, c7, c9].all isCell = true) :
    GTri Try.prog N 32 [.pointer (some ⟨k, 0, none⟩), .agg #[.int .i64 q.kd, .slice a q.id.length c, .int .i64 q.fr, .int .i64 q.to, c4, .bool q.sm, c6, c7, .int .i64 q.lm, c9]] h fun v h' =>
      (wrongF true true p M.length q ≠ 0 ∧ RAn h' v { code := wrongF true true p M.length q } ∨ wrongF true true p M.length q = 0 ∧ ∃ L, Diff M q L ∧ RAn h' v (diffA q L)) ∧ HS h h' := by
  have hc3 : [Value.int .i64 q.kd, c4, c6, c7, c9].all isCell = true := by simpa [isCell] using hc
  have hc4 : [c4, .bool q.sm, c6, c7, c9].all isCell = true := by simpa [isCell] using hc
  have hr : rngK q.kd = true := by rw [hk]; rfl
  have hg : pagK q.kd = true := by rw [hk]; rfl
  have hpg := p.may_iff.1 x.may
  have e1 : (q.kd == 1) = false := by rw [hk]; rfl
  have e2 : (q.kd == 2) = false := by rw [hk]; rfl
  have e8 : (q.kd == 8) = false := by rw [hk]; rfl
  have e9 : (q.kd == 9) = false := by rw [hk]; rfl
  have e3 : (q.kd == 3) = false := by rw [hk]; rfl
  have e4 : (q.kd == 4) = false := by rw [hk]; rfl
  have e5 : (q.kd == 5) = false := by rw [hk]; rfl
  have e6 : (q.kd == 6) = true := by rw [hk]; rfl
  refine gtri Try.func32 rfl gf32 ok32 (by simp [Try.ntmps32]) ?_
  repeat' (first | (with_reducible first | refine gw_seq ?_ | refine gw_block ?_) | ((first | (with_reducible first | refine gw_region ?_ | refine gw_if ?_ | refine gw_skip ?_ | refine gw_exit ?_ | refine gw_ret ?_) | ((with_reducible first | refine gif_b (fun hb => ?_) (fun hb => ?_) | refine want_t (fun hb => ?_) (fun hb => ?_) | refine want_f (fun hb => ?_) (fun hb => ?_)) <;> (try simp only [hb]) <;> (try simp only [hpr] at hb))) <;> try simp only [gop, gyield, gLenX, gNilM, gField, gIndexV, gPart, reduceIte, seval, Int.cast_ofNat_Int, stz, stp, ty23, ty24, ty36, ty68, ty62, ty70, ty91, ty29, ty3, ty4, ty63, rs32]))
  refine box_g (by simpa [isCell] using hc) fun k1 h1 m1 s1 f1 n1 => ?_
  refine mk_of ?_; repeat' (first | (with_reducible first | refine gw_seq ?_ | refine gw_block ?_) | ((first | (with_reducible refine mk_to ?_) | (with_reducible first | refine gw_region ?_ | refine gw_if ?_ | refine gw_skip ?_ | refine gw_exit ?_ | refine gw_ret ?_) | ((with_reducible first | refine gif_b (fun hb => ?_) (fun hb => ?_) | refine want_t (fun hb => ?_) (fun hb => ?_) | refine want_f (fun hb => ?_) (fun hb => ?_)) <;> (try simp only [hb]) <;> (try simp only [hpr] at hb))) <;> try simp only [gop, gyield, gLenX, gNilM, gField, gIndexV, gPart, reduceIte, seval, Int.cast_ofNat_Int, stz, stp, ty23, ty24, ty36, ty68, ty62, ty70, ty91, ty29, ty3, ty4, ty63, rs32]))
  refine new_g fun k2 h2 m2 s2 f2 n2 => ?_
  replace m1 := s2 _ _ m1
  have s12 := s1.trans s2
  have x2 := x.hs s12
  have n2' := s1.none_of n2
  refine mk_of ?_; repeat' (first | (with_reducible first | refine gw_seq ?_ | refine gw_block ?_) | ((first | (with_reducible refine mk_to ?_) | (with_reducible first | refine gw_region ?_ | refine gw_if ?_ | refine gw_skip ?_ | refine gw_exit ?_ | refine gw_ret ?_) | ((with_reducible first | refine gif_b (fun hb => ?_) (fun hb => ?_) | refine want_t (fun hb => ?_) (fun hb => ?_) | refine want_f (fun hb => ?_) (fun hb => ?_)) <;> (try simp only [hb]) <;> (try simp only [hpr] at hb)) | ((refine GTri.mono (c_inone _ x2) ?_); rintro _ _ ⟨rfl, hh9⟩; replace hh9 := hh9.symm; subst hh9)) <;> try simp only [gop, gyield, gLenX, gNilM, gField, gIndexV, gPart, reduceIte, seval, Int.cast_ofNat_Int, stz, stp, ty23, ty24, ty36, ty68, ty62, ty70, ty91, ty29, ty3, ty4, ty63, rs32, List.map_toArray, List.map_cons, List.map_nil, gload1 m1 sz3, e1, e2, e8, e9, e3, e4, e5, e6, gloadA m1 sz62 rfl, List.getElem?_cons_zero, List.getElem?_cons_succ]))
  refine (c_wrong N x2 q hid hc4).mono ?_
  rintro _ h3 ⟨rfl, s3⟩
  rw [hr, hg]
  have m23 := s3 _ _ m2
  by_cases hw : wrongF true true p M.length q = 0
  case neg =>
    have dw : (wrongF true true p M.length q != 0) = true := by simpa using hw
    refine mk_of ?_; repeat' (first | (with_reducible first | refine gw_seq ?_ | refine gw_block ?_) | ((first | (with_reducible refine mk_to ?_) | (with_reducible first | refine gw_region ?_ | refine gw_if ?_ | refine gw_skip ?_ | refine gw_exit ?_ | refine gw_ret ?_) | ((with_reducible first | refine gif_b (fun hb => ?_) (fun hb => ?_) | refine want_t (fun hb => ?_) (fun hb => ?_) | refine want_f (fun hb => ?_) (fun hb => ?_)) <;> (try simp only [hb]) <;> (try simp only [hpr] at hb))) <;> try simp only [gop, gyield, gLenX, gNilM, gField, gIndexV, gPart, reduceIte, seval, Int.cast_ofNat_Int, stz, stp, ty23, ty24, ty36, ty68, ty62, ty70, ty91, ty29, ty3, ty4, ty63, rs32, dw, gBuild, lfill, lput, Shape.pl, List.all_cons, List.all_nil, isCell]))
    refine st_all m23 sz70 rfl (by decide) rfl rfl rfl fun h4 m4 f4 => ?_
    refine mk_of ?_; repeat' (first | (with_reducible first | refine gw_seq ?_ | refine gw_block ?_) | ((first | (with_reducible refine mk_to ?_) | (with_reducible first | refine gw_region ?_ | refine gw_if ?_ | refine gw_skip ?_ | refine gw_exit ?_ | refine gw_ret ?_) | ((with_reducible first | refine gif_b (fun hb => ?_) (fun hb => ?_) | refine want_t (fun hb => ?_) (fun hb => ?_) | refine want_f (fun hb => ?_) (fun hb => ?_)) <;> (try simp only [hb]) <;> (try simp only [hpr] at hb))) <;> try simp only [gop, gyield, gLenX, gNilM, gField, gIndexV, gPart, reduceIte, seval, Int.cast_ofNat_Int, stz, stp, ty23, ty24, ty36, ty68, ty62, ty70, ty91, ty29, ty3, ty4, ty63, rs32, gloadA m4 sz70 rfl]))
    exact ⟨.inl ⟨hw, RAn.zero h4 _ 0⟩, (s12.trans s3).upd n2' f4⟩
  obtain ⟨w1, w2, w3, w4, w5⟩ := wrong0 hw
  have dw : (wrongF true true p M.length q != 0) = false := by simpa using hw
  have s03 := s12.trans s3
  refine mk_of ?_; repeat' (first | (with_reducible first | refine gw_seq ?_ | refine gw_block ?_) | ((first | (with_reducible refine mk_to ?_) | (with_reducible first | refine gw_region ?_ | refine gw_if ?_ | refine gw_skip ?_ | refine gw_exit ?_ | refine gw_ret ?_) | ((with_reducible first | refine gif_b (fun hb => ?_) (fun hb => ?_) | refine want_t (fun hb => ?_) (fun hb => ?_) | refine want_f (fun hb => ?_) (fun hb => ?_)) <;> (try simp only [hb]) <;> (try simp only [hpr] at hb))) <;> try simp only [gop, gyield, gLenX, gNilM, gField, gIndexV, gPart, reduceIte, seval, Int.cast_ofNat_Int, stz, stp, ty23, ty24, ty36, ty68, ty62, ty70, ty91, ty29, ty3, ty4, ty63, rs32, dw, gloadA (s3 _ _ m1) sz62 rfl]))
  refine (c_diff N (x.hs s03) q (r.hs s03) (by omega) (by omega) hc3).mono ?_
  rintro v4 h4 ⟨⟨L, D, r4⟩, s4⟩
  have r4' : RAn h4 v4 (diffA q L) := r4
  obtain ⟨a4, b4, c4', d4, e4, f4', rfl, _⟩ := r4
  refine mk_of ?_; repeat' (first | (with_reducible first | refine gw_seq ?_ | refine gw_block ?_) | ((first | (with_reducible refine mk_to ?_) | (with_reducible first | refine gw_region ?_ | refine gw_if ?_ | refine gw_skip ?_ | refine gw_exit ?_ | refine gw_ret ?_) | ((with_reducible first | refine gif_b (fun hb => ?_) (fun hb => ?_) | refine want_t (fun hb => ?_) (fun hb => ?_) | refine want_f (fun hb => ?_) (fun hb => ?_)) <;> (try simp only [hb]) <;> (try simp only [hpr] at hb))) <;> try simp only [gop, gyield, gLenX, gNilM, gField, gIndexV, gPart, reduceIte, seval, Int.cast_ofNat_Int, stz, stp, ty23, ty24, ty36, ty68, ty62, ty70, ty91, ty29, ty3, ty4, ty63, rs32]))
  refine st_all (s4 _ _ m23) sz70 rfl (by decide) rfl rfl rfl fun h5 m5 f5 => ?_
  refine mk_of ?_; repeat' (first | (with_reducible first | refine gw_seq ?_ | refine gw_block ?_) | ((first | (with_reducible refine mk_to ?_) | (with_reducible first | refine gw_region ?_ | refine gw_if ?_ | refine gw_skip ?_ | refine gw_exit ?_ | refine gw_ret ?_) | ((with_reducible first | refine gif_b (fun hb => ?_) (fun hb => ?_) | refine want_t (fun hb => ?_) (fun hb => ?_) | refine want_f (fun hb => ?_) (fun hb => ?_)) <;> (try simp only [hb]) <;> (try simp only [hpr] at hb))) <;> try simp only [gop, gyield, gLenX, gNilM, gField, gIndexV, gPart, reduceIte, seval, Int.cast_ofNat_Int, stz, stp, ty23, ty24, ty36, ty68, ty62, ty70, ty91, ty29, ty3, ty4, ty63, rs32, gloadA m5 sz70 rfl]))
  exact ⟨.inr ⟨hw, L, D, r4'.hxv (s4 _ _ m23) ⟨rfl, rfl⟩ rfl fun j B n e => (f5 j n).trans e⟩, (s03.trans s4).upd n2' f5⟩
end Go.Gh

/- Ideal: a diff read page by page. -/

namespace Go.Gh
open Go Go.Proofs Go.RowKit
set_option linter.unusedVariables false
set_option linter.unusedSimpArgs false
set_option maxRecDepth 100000
set_option maxHeartbeats 4000000

end Go.Gh

/- Ideal: pages of a diff. Plain laws. -/

namespace Go.Gh
open Go Go.Proofs Go.RowKit
set_option linter.unusedVariables false
set_option linter.unusedSimpArgs false
set_option maxRecDepth 100000
set_option maxHeartbeats 2000000

theorem idO_irr (x : List UInt8) : ¬ idO x x < 0 := by have := tc_id.anti x x; omega
theorem Diff.nodup {M : List (Int × List Bnd)} {q : Ak} {L : List Itm} (x : Diff M q L) : (L.map (·.1.1)).Nodup := by
  unfold List.Nodup
  rw [List.pairwise_map]
  refine List.Pairwise.imp ?_ x.ord
  intro a b hab e
  rw [e] at hab
  exact idO_irr _ hab
theorem evA_mem {M : List (Int × List Bnd)} {e i : Nat} : ∀ {c s : Nat}, s ≤ e → e < s + c → i < (bOf M e).length → (e, i, bat1 (bOf M e) i) ∈ evA M s c := fun {c s} h1 h2 h3 => by
  unfold evA
  rw [List.mem_flatMap]
  refine ⟨e - s, List.mem_range.2 (by omega), ?_⟩
  rw [show s + (e - s) = e by omega]
  exact List.mem_of_getElem? (evs1_get h3)
theorem Diff.lens {M : List (Int × List Bnd)} {q : Ak} {L : List Itm} (x : Diff M q L) : L.length ≤ tot (M.map (·.2)) := by
  have hall : (evA M 0 M.length).length ≤ tot (M.map (·.2)) := by
    have := evA_tot M M.length 0 (by omega)
    rwa [List.drop_zero] at this
  have hch : ∀ id : List UInt8, ∃ g : Nat, id ∈ L.map (·.1.1) → ∃ v, (evA M 0 M.length)[g]? = some v ∧ v.2.2.1 = id := fun id => by
    by_cases h : id ∈ L.map (·.1.1)
    · obtain ⟨z, hz, rfl⟩ := List.mem_map.1 h
      obtain ⟨_, hat⟩ := x.len z hz
      obtain ⟨pp, hp, _, _⟩ := atI_sps hat
      obtain ⟨_, hl, b, hb, hi, hid⟩ := sps_mem hp
      rw [Nat.sub_zero, List.getElem?_map] at hb
      obtain ⟨y, hy, rfl⟩ := Option.map_eq_some_iff.1 hb
      have hbo := bOf_get hy
      rw [Nat.zero_add, List.length_map] at hl
      have hm := evA_mem (M := M) (e := pp.1) (i := pp.2) (s := 0) (c := M.length) (Nat.zero_le _) (by omega) (by rw [hbo]; exact hi)
      obtain ⟨g, hg⟩ := List.mem_iff_getElem?.1 hm
      exact ⟨g, fun _ => ⟨_, hg, by rw [hbo]; exact hid⟩⟩
    · exact ⟨0, fun q => absurd q h⟩
  obtain ⟨g, hg⟩ := Classical.axiomOfChoice hch
  have nd : ((L.map (·.1.1)).map g).Nodup := by
    unfold List.Nodup
    rw [List.pairwise_map]
    refine List.Pairwise.imp_of_mem ?_ x.nodup
    intro a b ha hb hne e
    obtain ⟨v, h1, h2⟩ := hg a ha
    obtain ⟨w, h3, h4⟩ := hg b hb
    rw [e, h3] at h1
    cases h1
    exact hne (h2.symm.trans h4)
  have := nodup_len (evA M 0 M.length).length _ nd fun q hq => by
    obtain ⟨id, hid, rfl⟩ := List.mem_map.1 hq
    obtain ⟨v, h1, _⟩ := hg id hid
    exact (List.getElem?_eq_some_iff.1 h1).1
  rw [List.length_map, List.length_map] at this
  omega
/-- Where one is among the pages. -/
def PG (M : List (Int × List Bnd)) (q0 : Ak) (sm : Bool) (id : List UInt8) (got : List Itm) : Prop :=
  (got = [] ∧ sm = false) ∨ ∃ L i z, Diff M q0 L ∧ L[i]? = some z ∧ sm = true ∧ id = z.1.1 ∧ got = L.take (i + 1)
theorem PG.page {M : List (Int × List Bnd)} {q0 : Ak} {sm : Bool} {id : List UInt8} {got L2 : List Itm} (x : PG M { q0 with sm := false } sm id got) (D : Diff M { q0 with sm := sm, id := id } L2) : ∃ L pos, Diff M { q0 with sm := false } L ∧ L2 = L.drop pos ∧ got = L.take pos ∧ pos ≤ L.length := by
  rcases x with ⟨rfl, rfl⟩ | ⟨L, i, z, D0, hz, rfl, rfl, rfl⟩
  · refine ⟨L2, 0, ⟨D.ord, fun z => ?_⟩, rfl, by simp, by omega⟩
    rw [D.mem]
    have : dsel M { q0 with sm := false, id := id } z.1.1 = dsel M { q0 with sm := false } z.1.1 := by
      unfold dsel
      simp
    rw [this]
  · have D1 : Diff M { q0 with sm := false, id := z.1.1 } L := ⟨D0.ord, fun w => by
      rw [D0.mem]
      have : dsel M { q0 with sm := false, id := z.1.1 } w.1.1 = dsel M { q0 with sm := false } w.1.1 := by
        unfold dsel
        simp
      rw [this]⟩
    have h1 := Diff.drop (q := { q0 with sm := true, id := z.1.1 }) D1 hz rfl rfl
    exact ⟨L, i + 1, D0, (D.uniq h1 fun _ => rfl), rfl, (List.getElem?_eq_some_iff.1 hz).1⟩
end Go.Gh

/- Ideal: a diff read page by page: the law. -/

namespace Go.Gh
open Go Go.Proofs Go.RowKit
set_option linter.unusedVariables false
set_option linter.unusedSimpArgs false
set_option maxRecDepth 100000
set_option maxHeartbeats 4000000

def Its (h0 h : GH) (v : Value) (L : List Itm) : Prop := ∃ ds, OWNC 3 h0 h v L.length ds ∧ ds.all notU8 = true ∧ ∀ (i : Nat) x, L[i]? = some x → It h ((ds.drop (i * 3)).take 3) x
theorem Its.hs {h0 h h' : GH} {v : Value} {L : List Itm} (x : Its h0 h v L) (s : HS h h') : Its h0 h' v L := by
  obtain ⟨ds, o, u, r⟩ := x
  exact ⟨ds, o.hs s, u, fun i p hp => (r i p hp).hs s⟩
theorem Its.rl {h0 h : GH} {v : Value} {L : List Itm} (x : Its h0 h v L) : RL 3 It h v L := by
  obtain ⟨ds, o, u, r⟩ := x
  exact o.rl r
theorem It.cells {h : GH} {cs : List Value} {e : Itm} (r : It h cs e) : cs.length = 3 ∧ cs.all isCell = true ∧ cs.all notU8 = true ∧ vcells (.agg cs.toArray) = cs := by
  obtain ⟨a, c, b, d, rfl, _⟩ := r
  exact ⟨rfl, rfl, rfl, rfl⟩
/-- Who has a key is no longer than may be. -/
theorem IM.short {h0 h : GH} {k j : Nat} {p : Pm} {ew : Value} {cs l : List Value} {M : List (Int × List Bnd)} {ck : Int} {n : Nat} (x : IM h0 h k j p ew cs l M ck n) {id key : List UInt8} {e : Int} {ep : Nat} (hat : atI M id e = some (key, ep)) : (id.length : Int) ≤ p.mi := by
  obtain ⟨pp, hp, _, _⟩ := atI_sps hat
  obtain ⟨_, hl, b, hb, hi, hid⟩ := sps_mem hp
  rw [Nat.sub_zero, List.getElem?_map] at hb
  obtain ⟨y, hy, rfl⟩ := Option.map_eq_some_iff.1 hb
  rcases x.ks.2.2.1 y (List.mem_of_getElem? hy) with e | e
  · rw [e] at hi; simp at hi
  · have := (chkB_dis e).2 (bat1 y.2 pp.2) (by
      have : y.2[pp.2]? = some (bat1 y.2 pp.2) := by simp [bat1, List.getElem?_eq_getElem hi]
      exact List.mem_of_getElem? this)
    unfold tooLong at this
    rw [hid] at this
    omega
end Go.Gh

/- A range over slices.Backward. -/

namespace Go.Gh
open Go Go.Proofs Go.RowKit
set_option linter.unusedVariables false
set_option linter.unusedSimpArgs false
set_option maxRecDepth 100000
set_option maxHeartbeats 2000000

theorem c_Bwd (N : Nat) (h : GH) (a : Option Addr) (n c : Nat) : GTri Try.prog N 114 [.slice a n c] h fun u h' => (∃ kb, u = .func (.func 137) #[] #[.pointer (some ⟨kb, 0, none⟩)] ∧ h' kb = some ⟨[.slice a n c], 0, true, false⟩ ∧ h kb = none) ∧ HS h h' := by
  refine gtri Try.func114 rfl gf114 ok114 (by simp [Try.ntmps114]) ?_
  repeat' (first | (with_reducible first | refine gw_seq ?_ | refine gw_block ?_) | ((first | (with_reducible first | refine gw_region ?_ | refine gw_if ?_ | refine gw_skip ?_ | refine gw_exit ?_ | refine gw_ret ?_) | ((with_reducible first | refine gif_b (fun hb => ?_) (fun hb => ?_) | refine want_t (fun hb => ?_) (fun hb => ?_) | refine want_f (fun hb => ?_) (fun hb => ?_)) <;> (try simp only [hb]) <;> (try simp only [hpr] at hb))) <;> try simp only [gop, gyield, gLenX, gNilM, gField, gIndexV, gPart, reduceIte, seval, Int.cast_ofNat_Int, stz, stp, ty83, ty3, rs114]))
  refine box_g rfl fun k1 h1 m1 s1 f1 n1 => ?_
  refine mk_of ?_; repeat' (first | (with_reducible first | refine gw_seq ?_ | refine gw_block ?_) | ((first | (with_reducible refine mk_to ?_) | (with_reducible first | refine gw_region ?_ | refine gw_if ?_ | refine gw_skip ?_ | refine gw_exit ?_ | refine gw_ret ?_) | ((with_reducible first | refine gif_b (fun hb => ?_) (fun hb => ?_) | refine want_t (fun hb => ?_) (fun hb => ?_) | refine want_f (fun hb => ?_) (fun hb => ?_)) <;> (try simp only [hb]) <;> (try simp only [hpr] at hb))) <;> try simp only [gop, gyield, gLenX, gNilM, gField, gIndexV, gPart, reduceIte, seval, Int.cast_ofNat_Int, stz, stp, ty83, ty3, rs114, List.map_toArray, List.map_cons, List.map_nil]))
  exact ⟨⟨k1, rfl, m1, n1⟩, s1⟩
theorem c_bwd1 (N l : Nat) (r : LRec) {h : GH} {kb : Nat} {a : Option Addr} {c : Nat} {s : List (Nat × Nat)} (hs : s.length ≤ 1000000) (I : Nat → GH → Prop) (h0 : I s.length h)
    (hb : ∀ i h', I i h' → h' kb = some ⟨[.slice a s.length c], 0, true, false⟩ ∧ RL 1 Ep1 h' (.slice a s.length c) s)
    (y : ∀ i h', i < s.length → I (i + 1) h' → YTri Try.prog N l r [.int .i64 (i : Int), .int .i64 (((s[i]?).getD (0, 0)).1 : Int)] h' (I i)) :
    GTrio l r Try.prog N 137 [.func (.yield l) #[] #[], .pointer (some ⟨kb, 0, none⟩)] h (I 0) := by
  
  refine gtrio Try.func137 rfl gf137 ok137 rs137 (by simp [Try.ntmps137]) ?_
  obtain ⟨m0, r0⟩ := hb _ _ h0
  have w0 : IntKind.i64.wrap ((s.length : Int) - 1) = (s.length : Int) - 1 := by rw [wrap64 (by omega) (by omega)]
  simp only [gop, gyield, gLenX, gNilM, gField, gIndexV, gPart, reduceIte, seval, Int.cast_ofNat_Int, stz, stp, ty83, ty3, ty4, rs137]
  refine gwo_seq ?_
  refine gwo_of (gw_region ?_)
  simp only [gop, gyield, gLenX, gNilM, gField, gIndexV, gPart, reduceIte, seval, Int.cast_ofNat_Int, stz, stp, ty83, ty3, ty4, rs137, gload1 m0 sz83, w0, List.getElem?_cons_zero, List.getElem?_cons_succ]
  refine gwo_block ?_
  refine gwo_loop (fun m e' h' => m ≤ s.length ∧ e' = [(0, .func (.yield l) #[] #[]), (1, .pointer (some ⟨kb, 0, none⟩)), (3, .int .i64 ((m : Int) - 1))] ∧ I m h') s.length
    (e0 := [(0, .func (.yield l) #[] #[]), (1, .pointer (some ⟨kb, 0, none⟩)), (3, .int .i64 ((s.length : Int) - 1))]) ?_ ⟨Nat.le_refl _, rfl, h0⟩ ?_
  · exact (sub_of (by simp only [List.forall_mem_cons, List.not_mem_nil, false_implies, implies_true, lk, Nat.reduceEqDiff, reduceIte, and_true, true_and]))
  rintro m e' h' ⟨hm, rfl, hI⟩
  obtain ⟨m1, r1⟩ := hb _ _ hI
  refine gwo_seq ?_
  refine gwo_seq ?_
  refine gwo_of (gw_region ?_)
  by_cases hm0 : m = 0
  · have d : decide ((m : Int) - 1 ≥ 0) = false := decide_eq_false (by omega)
    simp only [gop, gyield, gLenX, gNilM, gField, gIndexV, gPart, reduceIte, seval, Int.cast_ofNat_Int, stz, stp, ty83, ty3, ty4, rs137, d]
    refine gwo_if ?_
    simp only [gop, gyield, gLenX, gNilM, gField, gIndexV, gPart, reduceIte, seval, Int.cast_ofNat_Int, stz, stp, ty83, ty3, ty4, rs137, gif_f]
    refine gwo_of (gw_exit ?_)
    simp only [gop, gyield, gLenX, gNilM, gField, gIndexV, gPart, reduceIte, seval, Int.cast_ofNat_Int, stz, stp, ty83, ty3, ty4, rs137]
    subst hm0
    exact ⟨.inl trivial, hI⟩
  obtain ⟨i, rfl⟩ : ∃ i, m = i + 1 := ⟨m - 1, by omega⟩
  have e1 : ((i + 1 : Nat) : Int) - 1 = (i : Int) := by omega
  rw [e1]
  have d : decide ((i : Int) ≥ 0) = true := decide_eq_true (by omega)
  simp only [gop, gyield, gLenX, gNilM, gField, gIndexV, gPart, reduceIte, seval, Int.cast_ofNat_Int, stz, stp, ty83, ty3, ty4, rs137, d]
  refine gwo_if ?_
  simp only [gop, gyield, gLenX, gNilM, gField, gIndexV, gPart, reduceIte, seval, Int.cast_ofNat_Int, stz, stp, ty83, ty3, ty4, rs137, gif_t]
  refine gwo_of (gw_skip ?_)
  simp only [gop, gyield, gLenX, gNilM, gField, gIndexV, gPart, reduceIte, seval, Int.cast_ofNat_Int, stz, stp, ty83, ty3, ty4, rs137]
  refine gwo_seq ?_
  refine gwo_block ?_
  refine gwo_seq ?_
  obtain ⟨x, hx⟩ := get_lt (show i < s.length by omega)
  obtain ⟨ad, cs2, g1, g2, g3⟩ := r1.at (P := Try.prog) Try.underlying83 sz3 hx
  unfold Ep1 at g3
  subst g3
  have l4 : gLoad Try.prog 3 h' (.pointer (some ad)) = some (.int .i64 x.1) := by simp only [gLoad, sz3, g2]; rfl
  refine gro_of ?_
  refine gro_cut 6 ?_
  simp only [gop, gyield, gLenX, gNilM, gField, gIndexV, gPart, reduceIte, seval, Int.cast_ofNat_Int, stz, stp, ty83, ty3, ty4, rs137, gload1 m1 sz83, g1, l4, List.getElem?_cons_zero, List.getElem?_cons_succ, List.drop_succ_cons, List.drop_zero, List.take_succ_cons, List.take_zero]
  refine gro_yield rfl ?_
  simp only [gop, gyield, gLenX, gNilM, gField, gIndexV, gPart, reduceIte, seval, Int.cast_ofNat_Int, stz, stp, ty83, ty3, ty4, rs137]
  have yy := y i h' (by omega) hI
  rw [hx] at yy
  simp only [Option.getD_some] at yy
  intro hG φ w args' sm hv hlo
  obtain ⟨fn, tmps, assign, body, q1, q2⟩ := yy hG φ w args' sm hv hlo
  refine ⟨fn, tmps, assign, body, q1, q2.mono ?_⟩
  rintro e w' ⟨φ', h2, p1, p2, p3, p4, p5⟩
  refine ⟨φ', h2, p1, p2, p3, p4, ?_⟩
  refine gro_end ?_
  simp only [gop, gyield, gLenX, gNilM, gField, gIndexV, gPart, reduceIte, seval, Int.cast_ofNat_Int, stz, stp, ty83, ty3, ty4, rs137, eput]
  refine gwo_if ?_
  simp only [gop, gyield, gLenX, gNilM, gField, gIndexV, gPart, reduceIte, seval, Int.cast_ofNat_Int, stz, stp, ty83, ty3, ty4, rs137, gif_f, Bool.not_true]
  refine gwo_of (gw_skip ?_)
  simp only [gop, gyield, gLenX, gNilM, gField, gIndexV, gPart, reduceIte, seval, Int.cast_ofNat_Int, stz, stp, ty83, ty3, ty4, rs137]
  refine gwo_of (gw_region ?_)
  have w1 : IntKind.i64.wrap ((i : Int) - 1) = (i : Int) - 1 := by rw [wrap64 (by omega) (by omega)]
  simp only [gop, gyield, gLenX, gNilM, gField, gIndexV, gPart, reduceIte, seval, Int.cast_ofNat_Int, stz, stp, ty83, ty3, ty4, rs137, w1]
  exact ⟨i, _, by omega, (sub_of (by simp only [List.forall_mem_cons, List.not_mem_nil, false_implies, implies_true, lk, Nat.reduceEqDiff, reduceIte, and_true, true_and])), by omega, rfl, p5⟩
end Go.Gh

