/- Parts of this claim's proof, 12. No statement of the claim stands here. -/
import Derived.Test.YtbaikgnddebkjaaP11
namespace Go.Gh
open Go Go.Proofs Go.RowKit
set_option linter.unusedVariables false
set_option linter.unusedSimpArgs false
set_option maxRecDepth 100000
set_option maxHeartbeats 4000000
theorem pG : type_of% (And.intro wT (And.intro vY (And.intro wZ rs110))) := And.intro wT (And.intro vY (And.intro wZ rs110))
theorem kM : type_of% (And.intro lL (And.intro qN0 (And.intro wT (And.intro jA (And.intro vY (And.intro wZ (And.intro zB9 rs109))))))) := And.intro lL (And.intro qN0 (And.intro wT (And.intro jA (And.intro vY (And.intro wZ (And.intro zB9 rs109))))))
theorem uE : type_of% (And.intro Try.underlying155 (And.intro Try.underlying89 (And.intro wT (And.intro wN (And.intro yX (And.intro yB (And.intro jA (And.intro vY (And.intro yW (And.intro wM (And.intro yV (And.intro vQ (And.intro ty155 (And.intro yL (And.intro wZ (And.intro uP (And.intro yK (And.intro jJ rs73)))))))))))))))))) := And.intro Try.underlying155 (And.intro Try.underlying89 (And.intro wT (And.intro wN (And.intro yX (And.intro yB (And.intro jA (And.intro vY (And.intro yW (And.intro wM (And.intro yV (And.intro vQ (And.intro ty155 (And.intro yL (And.intro wZ (And.intro uP (And.intro yK (And.intro jJ rs73)))))))))))))))))
def wU : Nat → List (Nat × List Nat) × List Nat
  | 1 => ([(0, []), (1, []), (2, []), (3, []), (4, []), (5, []), (6, []), (7, []), (8, []), (9, []), (10, []), (11, []), (12, []), (13, []), (14, []), (15, [])], [0, 1, 3, 7, 0, 16, 48, 127, 0, 256, 1023, 2047, 4095, 4095, 8191, 32767])
  | _ => ([], [])
theorem uU : type_of% (And.intro wT (And.intro wN (And.intro yX (And.intro yB (And.intro yW (And.intro yV (And.intro vQ (And.intro yL (And.intro wZ (And.intro uP (And.intro yK rs74))))))))))) := And.intro wT (And.intro wN (And.intro yX (And.intro yB (And.intro yW (And.intro yV (And.intro vQ (And.intro yL (And.intro wZ (And.intro uP (And.intro yK rs74))))))))))
def Ep2 (_ : GH) (cs : List Value) (x : Int × List Bnd) : Prop := ∃ a c, cs = [.int .i64 x.1, .slice a x.2.length c]
theorem IM.rle {h0 h : GH} {k j : Nat} {p : Pm} {ew : Value} {cs l : List Value} {M : List (Int × List Bnd)} {ck : Int} {n : Nat} (x : IM h0 h k j p ew cs l M ck n) : RL 2 Ep2 h ew M := by
  obtain ⟨kb, c, tl, h1, h2, h3, h4, h5, h6⟩ := x.ep
  refine .inr ⟨_, c, cs, h1, vA h4 (o := 0) (by rw [List.drop_zero]; exact List.take_of_length_le (by show cs.length ≤ _; omega)) h3, by omega, fun i y hy => ?_, .inr ⟨_, h4, .inl (by show 2 ≠ 0; decide)⟩⟩
  obtain ⟨v, e, bt⟩ := x.eps i y hy
  obtain ⟨ds, o, _⟩ := bt
  obtain ⟨a, c, rfl⟩ := o.form
  exact ⟨a, c, e⟩
def WU (s : List (Int × List Bnd)) (t : Int) (n : Nat) : Prop := n ≤ s.length ∧ ∀ (i : Nat) (p : Int × List Bnd), s[i]? = some p → (i < n ↔ p.1 ≤ t)
theorem WU.uniq {s : List (Int × List Bnd)} {t : Int} {n m : Nat} (a : WU s t n) (b : WU s t m) : n = m := by
  have key : ∀ {n m : Nat}, WU s t n → WU s t m → ¬ n < m := fun {n m} a b hlt => by
    have hn : n < s.length := Nat.lt_of_lt_of_le hlt b.1
    have hx : s[n]? = some s[n] := List.getElem?_eq_getElem hn
    have h1 := (b.2 n _ hx).1 hlt
    have := (a.2 n _ hx).2 h1
    omega
  have h1 := key a b
  have h2 := key b a
  omega
theorem pw_le {s : List (Int × List Bnd)} (hs : s.Pairwise fun a b => a.1 ≤ b.1) {i j : Nat} {p q : Int × List Bnd} (hij : i ≤ j) (hp : s[i]? = some p) (hq : s[j]? = some q) : p.1 ≤ q.1 := by
  have h1 := List.getElem?_eq_some_iff.1 hp
  have h2 := List.getElem?_eq_some_iff.1 hq
  rcases Nat.lt_or_ge i j with h | h
  · have := List.pairwise_iff_getElem.1 hs i j h1.1 h2.1 h
    rw [h1.2, h2.2] at this
    exact this
  · obtain rfl : i = j := by omega
    rw [hp] at hq; cases hq
    exact Int.le_refl _
theorem zA6 (N : Nat) (h : GH) (t : Int) (a : Option Addr) (n c : Nat) (e : Int) : GTri Try.prog N 110 [.agg #[.int .i64 t, .slice a n c], .int .i64 e] h fun v h' => v = .int .i64 (if t ≤ e then -1 else 1) ∧ HS h h' := by
  refine wQ Try.func110 rfl gf110 ok110 (by simp [Try.ntmps110]) ?_
  repeat' (first | (with_reducible first | apply qH | apply qB) | ((first | (with_reducible first | apply qA | apply qP | apply qD | apply qE | apply qK) | ((with_reducible first | apply qQ | apply qI | apply qJ) <;> intro hb <;> (try simp only [hb]) <;> (try simp only [zF] at hb))) <;> try simp only [qV, qF, qL, qN, qG, qC, qM, reduceIte, seval, Int.cast_ofNat_Int, qY, qZ, pG]))
  refine wY rfl fun k1 h1 m1 s1 f1 n1 => ?_
  by_cases hae : t ≤ e
  · have d : decide (t ≤ e) = true := decide_eq_true hae
    refine qS ?_; repeat' (first | (with_reducible first | apply qH | apply qB) | ((first | (with_reducible apply qR) | (with_reducible first | apply qA | apply qP | apply qD | apply qE | apply qK) | ((with_reducible first | apply qQ | apply qI | apply qJ) <;> intro hb <;> (try simp only [hb]) <;> (try simp only [zF] at hb))) <;> try simp only [qV, qF, qL, qN, qG, qC, qM, reduceIte, seval, Int.cast_ofNat_Int, qY, qZ, pG, qT m1 wL, d, List.getElem?_cons_zero]))
    exact ⟨by rw [if_pos hae], s1⟩
  · have d : decide (t ≤ e) = false := decide_eq_false hae
    refine qS ?_; repeat' (first | (with_reducible first | apply qH | apply qB) | ((first | (with_reducible apply qR) | (with_reducible first | apply qA | apply qP | apply qD | apply qE | apply qK) | ((with_reducible first | apply qQ | apply qI | apply qJ) <;> intro hb <;> (try simp only [hb]) <;> (try simp only [zF] at hb))) <;> try simp only [qV, qF, qL, qN, qG, qC, qM, reduceIte, seval, Int.cast_ofNat_Int, qY, qZ, pG, qT m1 wL, d, List.getElem?_cons_zero]))
    exact ⟨by rw [if_neg hae], s1⟩
theorem c_bse (N : Nat) (h : GH) {v : Value} {s : List (Int × List Bnd)} (r : RL 2 Ep2 h v s) (hl : s.length ≤ 140737488355328) (hs : s.Pairwise fun a b => a.1 ≤ b.1) (e : Int) : GTri Try.prog N 109 [v, .int .i64 e, .func (.func 110) #[] #[]] h fun v h' =>
    (∃ (n : Nat) (b : Bool), v = .tuple #[.int .i64 (n : Int), .bool b] ∧ WU s e n) ∧ HS h h' := by
  obtain ⟨a, c, rfl, _⟩ := r.form
  refine wQ Try.func109 rfl gf109 ok109 (by simp [Try.ntmps109]) ?_
  repeat' (first | (with_reducible first | apply qH | apply qB) | ((first | (with_reducible first | apply qA | apply qP | apply qD | apply qE | apply qK) | ((with_reducible first | apply qQ | apply qI | apply qJ) <;> intro hb <;> (try simp only [hb]) <;> (try simp only [zF] at hb))) <;> try simp only [qV, qF, qL, qN, qG, qC, qM, reduceIte, seval, Int.cast_ofNat_Int, qY, qZ, kM]))
  refine wI [0, 1, 2, 6, 7, 8] (fun (x : Nat × Nat) => [(9, .int .i64 (x.1 : Int)), (10, .int .i64 (x.2 : Int))])
    (fun q x h' => x.2 - x.1 = q ∧ x.1 ≤ x.2 ∧ x.2 ≤ s.length ∧ HS h h' ∧ (∀ (i : Nat) (p : Int × List Bnd), s[i]? = some p → i < x.1 → p.1 ≤ e) ∧ (∀ (i : Nat) (p : Int × List Bnd), s[i]? = some p → x.2 ≤ i → ¬ p.1 ≤ e)) s.length (0, s.length) (by simp [lk])
    ⟨by simp, by simp, by simp, HS.refl h, (fun i p _ hi => by simp at hi), fun i p hi hl => by have := (List.getElem?_eq_some_iff.1 hi).1; simp only at hl; omega⟩ ?_
  rintro _ ⟨i, j⟩ h1 ⟨rfl, hij, hj, s1, lo, hi⟩
  simp only at hij hj lo hi
  by_cases hlt : i < j
  case neg =>
    obtain rfl : i = j := by omega
    have d : decide ((i : Int) < (i : Int)) = false := decide_eq_false (by omega)
    have up : WU s e i := ⟨hj, fun q p hq => ⟨fun h => lo q p hq h, fun h => by
      rcases Nat.lt_or_ge q i with h' | h'
      · exact h'
      · exact absurd h (hi q p hq h')⟩⟩
    by_cases hil : i < s.length
    · have d2 : decide ((i : Int) < (s.length : Int)) = true := decide_eq_true (by omega)
      obtain ⟨p, hp⟩ : ∃ p, s[i]? = some p := ⟨_, List.getElem?_eq_getElem hil⟩
      obtain ⟨ad, cs2, g1, g2, ay, cy, rfl⟩ := (r.hcR s1.hc (fun _ _ h => h)).at (P := Try.prog) Try.underlying88 fI hp
      have l4 : xM Try.prog 136 h1 (.pointer (some ad)) = some (.agg #[.int .i64 p.1, .slice ay p.2.length cy]) := by simp only [xM, fI, g2]; rfl
      refine qS ?_; repeat' (first | (with_reducible first | apply qH | apply qB) | ((first | (with_reducible apply qR) | (with_reducible first | apply qA | apply qP | apply qD | apply qE | apply qK) | ((with_reducible first | apply qQ | apply qI | apply qJ) <;> intro hb <;> (try simp only [hb]) <;> (try simp only [zF] at hb))) <;> try simp only [qV, qF, qL, qN, qG, qC, qM, reduceIte, seval, Int.cast_ofNat_Int, qY, qZ, kM, d, d2, g1, l4, gPick]))
      refine (zA6 N h1 p.1 ay p.2.length cy e).mono ?_
      rintro _ h2 ⟨rfl, s2⟩
      refine qS ?_; repeat' (first | (with_reducible first | apply qH | apply qB) | ((first | (with_reducible apply qR) | (with_reducible first | apply qA | apply qP | apply qD | apply qE | apply qK) | ((with_reducible first | apply qQ | apply qI | apply qJ) <;> intro hb <;> (try simp only [hb]) <;> (try simp only [zF] at hb))) <;> try simp only [qV, qF, qL, qN, qG, qC, qM, reduceIte, seval, Int.cast_ofNat_Int, qY, qZ, kM, gPick]))
      exact ⟨⟨i, _, rfl, up⟩, s1.trans s2⟩
    · have d2 : decide ((i : Int) < (s.length : Int)) = false := decide_eq_false (by omega)
      refine qS ?_; repeat' (first | (with_reducible first | apply qH | apply qB) | ((first | (with_reducible apply qR) | (with_reducible first | apply qA | apply qP | apply qD | apply qE | apply qK) | ((with_reducible first | apply qQ | apply qI | apply qJ) <;> intro hb <;> (try simp only [hb]) <;> (try simp only [zF] at hb))) <;> try simp only [qV, qF, qL, qN, qG, qC, qM, reduceIte, seval, Int.cast_ofNat_Int, qY, qZ, kM, d, d2, gPick]))
      exact ⟨⟨i, _, rfl, up⟩, s1⟩
  have d : decide ((i : Int) < (j : Int)) = true := decide_eq_true (by omega)
  have w1 : IntKind.i64.wrap ((i : Int) + (j : Int)) = ((i + j : Nat) : Int) := by rw [wrap64 (by omega) (by omega)]; omega
  have w2 : IntKind.u64.wrap ((i + j : Nat) : Int) = ((i + j : Nat) : Int) := qJ7 (by omega) (by omega)
  have w3 : IntKind.i64.wrap (((i + j) / 2 : Nat) : Int) = (((i + j) / 2 : Nat) : Int) := wrap64 (by omega) (by omega)
  have w4 : IntKind.i64.wrap ((((i + j) / 2 : Nat) : Int) + 1) = (((i + j) / 2 + 1 : Nat) : Int) := by rw [wrap64 (by omega) (by omega)]; omega
  have sh := shr1 (i + j) IntKind.u64.bits rfl
  have hm : (i + j) / 2 < s.length := by omega
  obtain ⟨p, hp⟩ : ∃ p, s[(i + j) / 2]? = some p := ⟨_, List.getElem?_eq_getElem hm⟩
  obtain ⟨ad, cs2, g1, g2, ay, cy, rfl⟩ := (r.hcR s1.hc (fun _ _ h => h)).at (P := Try.prog) Try.underlying88 fI hp
  have l4 : xM Try.prog 136 h1 (.pointer (some ad)) = some (.agg #[.int .i64 p.1, .slice ay p.2.length cy]) := by simp only [xM, fI, g2]; rfl
  refine qS ?_; repeat' (first | (with_reducible first | apply qH | apply qB) | ((first | (with_reducible apply qR) | (with_reducible first | apply qA | apply qP | apply qD | apply qE | apply qK) | ((with_reducible first | apply qQ | apply qI | apply qJ) <;> intro hb <;> (try simp only [hb]) <;> (try simp only [zF] at hb))) <;> try simp only [qV, qF, qL, qN, qG, qC, qM, reduceIte, seval, Int.cast_ofNat_Int, qY, qZ, kM, d, w1, w2, w3, sh, g1, l4]))
  refine (zA6 N h1 p.1 ay p.2.length cy e).mono ?_
  rintro _ h2 ⟨rfl, s2⟩
  by_cases hpe : p.1 ≤ e
  · have d3 : decide ((-1 : Int) < 0) = true := rfl
    refine qS ?_; repeat' (first | (with_reducible first | apply qH | apply qB) | ((first | (with_reducible apply qR) | (with_reducible first | apply qA | apply qP | apply qD | apply qE | apply qK) | ((with_reducible first | apply qQ | apply qI | apply qJ) <;> intro hb <;> (try simp only [hb]) <;> (try simp only [zF] at hb))) <;> try simp only [qV, qF, qL, qN, qG, qC, qM, reduceIte, seval, Int.cast_ofNat_Int, qY, qZ, kM, if_pos hpe, d3, w4]))
    refine ⟨_, ((i + j) / 2 + 1, j), ?_, (by simp only [List.forall_mem_cons, List.not_mem_nil, false_implies, implies_true, List.map, List.cons_append, List.nil_append, lk, Nat.reduceEqDiff, reduceIte, and_true, true_and]), rfl, by omega, hj, s1.trans s2, fun q p' hq hlt' => ?_, hi⟩
    · simp only; omega
    · have := pw_le hs (i := q) (j := (i + j) / 2) (by simp only at hlt'; omega) hq hp
      omega
  · have d3 : decide ((1 : Int) < 0) = false := rfl
    refine qS ?_; repeat' (first | (with_reducible first | apply qH | apply qB) | ((first | (with_reducible apply qR) | (with_reducible first | apply qA | apply qP | apply qD | apply qE | apply qK) | ((with_reducible first | apply qQ | apply qI | apply qJ) <;> intro hb <;> (try simp only [hb]) <;> (try simp only [zF] at hb))) <;> try simp only [qV, qF, qL, qN, qG, qC, qM, reduceIte, seval, Int.cast_ofNat_Int, qY, qZ, kM, if_neg hpe, d3]))
    refine ⟨_, (i, (i + j) / 2), ?_, (by simp only [List.forall_mem_cons, List.not_mem_nil, false_implies, implies_true, List.map, List.cons_append, List.nil_append, lk, Nat.reduceEqDiff, reduceIte, and_true, true_and]), rfl, by omega, by omega, s1.trans s2, lo, fun q p' hq hle => ?_⟩
    · simp only; omega
    · have := pw_le hs (i := (i + j) / 2) (j := q) hle hp hq
      omega
def qS5 (M : List (Int × List Bnd)) (q : Ak) (A : An) : Prop := ∃ n, WU (M.take (q.to.toNat + 1)) q.tm n ∧ A = if n = 0 then { code := 86 } else { vZ M q.id ((n - 1 : Nat) : Int) with ep := ((n - 1 : Nat) : Int) }
theorem c_when (N : Nat) {h0 h : GH} {k j : Nat} {p : Pm} {ew : Value} {cs l : List Value} {M : List (Int × List Bnd)} {ck : Int} {n : Nat} (x : IM h0 h k j p ew cs l M ck n) {a : Option Addr} {c : Nat} (q : Ak) (r : RB h (.slice a q.id.length c) q.id) (hid : q.id.length ≤ 140737488355328) (ht0 : 0 ≤ q.to) (ht1 : q.to < (M.length : Int))
    {c0 c2 c5 c6 c7 c8 c9 : Value} (hc : [c0, c2, c5, c6, c7, c8, c9].all zA = true) :
    GTri Try.prog N 73 [.pointer (some ⟨k, 0, none⟩), .agg #[c0, .slice a q.id.length c, c2, .int .i64 q.to, .int .i64 q.tm, c5, c6, c7, c8, c9]] h fun v h' => (∃ A, qS5 M q A ∧ RAn h' v A) ∧ HS h h' := by
  have hML := x.len
  obtain ⟨to, hto⟩ : ∃ to : Nat, q.to = (to : Int) := ⟨q.to.toNat, by omega⟩
  have htn : q.to.toNat = to := by omega
  obtain ⟨ae, ce, ee⟩ := x.ep.form
  refine wQ Try.func73 rfl gf73 ok73 (by simp [Try.ntmps73]) ?_
  repeat' (first | (with_reducible first | apply qH | apply qB) | ((first | (with_reducible first | apply qA | apply qP | apply qD | apply qE | apply qK) | ((with_reducible first | apply qQ | apply qI | apply qJ | apply qW | apply qX) <;> intro hb <;> (try simp only [hb]) <;> (try simp only [zF] at hb)) | with_reducible refine qO wU mixed (by kernel_rfl) ?_) <;> try simp only [qV, qF, qL, qN, qG, qC, qM, reduceIte, seval, Int.cast_ofNat_Int, qY, qZ, qU, zR, zT, zU, uE, wU]))
  refine wY (by simpa [zA] using hc) fun k3 h3 m3 s3 f3 n3 => ?_
  refine qS ?_; repeat' (first | (with_reducible first | apply qH | apply qB) | ((first | (with_reducible apply qR) | (with_reducible first | apply qA | apply qP | apply qD | apply qE | apply qK) | ((with_reducible first | apply qQ | apply qI | apply qJ | apply qW | apply qX) <;> intro hb <;> (try simp only [hb]) <;> (try simp only [zF] at hb)) | with_reducible refine qO wU mixed (by kernel_rfl) ?_) <;> try simp only [qV, qF, qL, qN, qG, qC, qM, reduceIte, seval, Int.cast_ofNat_Int, qY, qZ, qU, zR, zT, zU, uE, wU]))
  refine xW fun k4 h4 m4 s4 f4 n4 => ?_
  replace m3 := s4 _ _ m3
  have s14 := s3.trans s4
  have x4 := x.hs s14
  have n4h := s3.none_of n4
  have ho := x4.obj
  rw [ee] at ho
  have rle := IM.rle x4
  rw [ee] at rle
  obtain ⟨a5, c5', e5, r5⟩ := rle.cut (P := Try.prog) Try.underlying88 fI (m := to + 1) (by omega)
  have e5' := fun h' => qU9 (P := Try.prog) Try.underlying88 fI h4 h' e5
  have w1 : IntKind.i64.wrap ((to : Int) + 1) = ((to + 1 : Nat) : Int) := by rw [wrap64 (by omega) (by omega)]; omega
  have hlt : (M.take (to + 1)).length = to + 1 := by rw [List.length_take]; omega
  rw [hto] at m3
  refine qS ?_; repeat' (first | (with_reducible first | apply qH | apply qB) | ((first | (with_reducible apply qR) | (with_reducible first | apply qA | apply qP | apply qD | apply qE | apply qK) | ((with_reducible first | apply qQ | apply qI | apply qJ | apply qW | apply qX) <;> intro hb <;> (try simp only [hb]) <;> (try simp only [zF] at hb)) | with_reducible refine qO wU mixed (by kernel_rfl) ?_) <;> try simp only [qV, qF, qL, qN, qG, qC, qM, reduceIte, seval, Int.cast_ofNat_Int, qY, qZ, qU, zR, zT, zU, uE, wU, gNil, qT ho gJ, qT m3 wL, w1, e5']))
  have pw := x.ks.2.2.2.1.sublist (List.take_sublist (to + 1) M)
  refine (c_bse N h4 (v := .slice a5 (to + 1) c5') r5 (by omega) pw q.tm).mono ?_
  rintro _ h6 ⟨⟨n6, b6, rfl, wu⟩, s6⟩
  have m36 := s6 _ _ m3
  have m46 := s6 _ _ m4
  have hwr : ∀ A, A = (if n6 = 0 then { code := 86 } else { vZ M q.id ((n6 - 1 : Nat) : Int) with ep := ((n6 - 1 : Nat) : Int) } : An) → qS5 M q A := fun A e => ⟨n6, by rw [htn]; exact wu, e⟩
  by_cases hn : n6 = 0
  · subst hn
    have d0 : (((0 : Nat) : Int) == 0) = true := rfl
    refine qS ?_; repeat' (first | (with_reducible first | apply qH | apply qB) | ((first | (with_reducible apply qR) | (with_reducible first | apply qA | apply qP | apply qD | apply qE | apply qK) | ((with_reducible first | apply qQ | apply qI | apply qJ | apply qW | apply qX) <;> intro hb <;> (try simp only [hb]) <;> (try simp only [zF] at hb)) | with_reducible refine qO wU mixed (by kernel_rfl) ?_) <;> try simp only [qV, qF, qL, qN, qG, qC, qM, reduceIte, seval, Int.cast_ofNat_Int, qY, qZ, qU, zR, zT, zU, uE, wU, d0, xL, xT, vB, Shape.pl, List.all_cons, List.all_nil, zA]))
    refine zM m46 xG rfl (by decide) rfl rfl rfl fun h7 m7 f7 => ?_
    refine qS ?_; repeat' (first | (with_reducible first | apply qH | apply qB) | ((first | (with_reducible apply qR) | (with_reducible first | apply qA | apply qP | apply qD | apply qE | apply qK) | ((with_reducible first | apply qQ | apply qI | apply qJ | apply qW | apply qX) <;> intro hb <;> (try simp only [hb]) <;> (try simp only [zF] at hb)) | with_reducible refine qO wU mixed (by kernel_rfl) ?_) <;> try simp only [qV, qF, qL, qN, qG, qC, qM, reduceIte, seval, Int.cast_ofNat_Int, qY, qZ, qU, zR, zT, zU, uE, wU, zI m7 xG rfl]))
    exact ⟨⟨_, hwr _ rfl, RAn.zero h7 86 0⟩, (s14.trans s6).upd n4h f7⟩
  have d0 : ((n6 : Int) == 0) = false := by rw [beq_eq_false_iff_ne]; omega
  have hn6 := wu.1
  have w2 : IntKind.i64.wrap ((n6 : Int) - 1) = ((n6 - 1 : Nat) : Int) := by rw [wrap64 (by omega) (by omega)]; omega
  refine qS ?_; repeat' (first | (with_reducible first | apply qH | apply qB) | ((first | (with_reducible apply qR) | (with_reducible first | apply qA | apply qP | apply qD | apply qE | apply qK) | ((with_reducible first | apply qQ | apply qI | apply qJ | apply qW | apply qX) <;> intro hb <;> (try simp only [hb]) <;> (try simp only [zF] at hb)) | with_reducible refine qO wU mixed (by kernel_rfl) ?_) <;> try simp only [qV, qF, qL, qN, qG, qC, qM, reduceIte, seval, Int.cast_ofNat_Int, qY, qZ, qU, zR, zT, zU, uE, wU, d0, w2]))
  refine vN m36 wL rfl (by simp) rfl rfl fun h7 m7 f7 => ?_
  simp only [List.set_cons_succ, List.set_cons_zero] at m7
  have n3h : h k3 = none := n3
  have k34 : k4 ≠ k3 := fun z => by subst z; rw [m3] at *; simp_all
  have s17 : HS h h7 := (s14.trans s6).upd n3h f7
  have m47 := (f7 _ k34).trans m46
  refine qS ?_; repeat' (first | (with_reducible first | apply qH | apply qB) | ((first | (with_reducible apply qR) | (with_reducible first | apply qA | apply qP | apply qD | apply qE | apply qK) | ((with_reducible first | apply qQ | apply qI | apply qJ | apply qW | apply qX) <;> intro hb <;> (try simp only [hb]) <;> (try simp only [zF] at hb)) | with_reducible refine qO wU mixed (by kernel_rfl) ?_) <;> try simp only [qV, qF, qL, qN, qG, qC, qM, reduceIte, seval, Int.cast_ofNat_Int, qY, qZ, qU, zR, zT, zU, uE, wU, zI m7 uO rfl]))
  refine (qX2 N (x.hs s17) (r.hs s17) hid ((n6 - 1 : Nat) : Int) (by simpa [zA] using hc)).mono ?_
  rintro v8 h8 ⟨r8, s8⟩
  obtain ⟨t1, t2, t3, t4, t5, t6, rfl, q1, q2, q3⟩ := r8
  refine qS ?_; repeat' (first | (with_reducible first | apply qH | apply qB) | ((first | (with_reducible apply qR) | (with_reducible first | apply qA | apply qP | apply qD | apply qE | apply qK) | ((with_reducible first | apply qQ | apply qI | apply qJ | apply qW | apply qX) <;> intro hb <;> (try simp only [hb]) <;> (try simp only [zF] at hb)) | with_reducible refine qO wU mixed (by kernel_rfl) ?_) <;> try simp only [qV, qF, qL, qN, qG, qC, qM, reduceIte, seval, Int.cast_ofNat_Int, qY, qZ, qU, zR, zT, zU, uE, wU]))
  refine xW fun k9 h9 m9 s9 f9 n9 => ?_
  refine qS ?_; repeat' (first | (with_reducible first | apply qH | apply qB) | ((first | (with_reducible apply qR) | (with_reducible first | apply qA | apply qP | apply qD | apply qE | apply qK) | ((with_reducible first | apply qQ | apply qI | apply qJ | apply qW | apply qX) <;> intro hb <;> (try simp only [hb]) <;> (try simp only [zF] at hb)) | with_reducible refine qO wU mixed (by kernel_rfl) ?_) <;> try simp only [qV, qF, qL, qN, qG, qC, qM, reduceIte, seval, Int.cast_ofNat_Int, qY, qZ, qU, zR, zT, zU, uE, wU]))
  refine zM m9 xG rfl (by decide) rfl rfl rfl fun h10 m10 f10 => ?_
  have s10 : HS h8 h10 := (HS.refl h8).upd n9 (fun j hj => (f10 j hj).trans (f9 j hj))
  have m710 := s10 _ _ (s8 _ _ m7)
  have m410 := s10 _ _ (s8 _ _ m47)
  refine qS ?_; repeat' (first | (with_reducible first | apply qH | apply qB) | ((first | (with_reducible apply qR) | (with_reducible first | apply qA | apply qP | apply qD | apply qE | apply qK) | ((with_reducible first | apply qQ | apply qI | apply qJ | apply qW | apply qX) <;> intro hb <;> (try simp only [hb]) <;> (try simp only [zF] at hb)) | with_reducible refine qO wU mixed (by kernel_rfl) ?_) <;> try simp only [qV, qF, qL, qN, qG, qC, qM, reduceIte, seval, Int.cast_ofNat_Int, qY, qZ, qU, zR, zT, zU, uE, wU, qT m710 wL]))
  refine vN m10 wL rfl (by simp [vcells]) rfl rfl fun h11 m11 f11 => ?_
  have hA : vZ M q.id ((n6 - 1 : Nat) : Int) = vZ M q.id ((n6 - 1 : Nat) : Int) := rfl
  generalize vZ M q.id ((n6 - 1 : Nat) : Int) = A at q1 q2 q3 m9 m10 m11 hwr ⊢
  have m11' : h11 k9 = some ⟨[.int .i64 A.code, .int .i64 ((n6 - 1 : Nat) : Int), .bool A.pr, .bool A.sm, .slice t1 A.key.length t2, .int .i64 A.si, .slice t3 A.its.length t4, .slice t5 A.evs.length t6, .bool A.more], 0, true, false⟩ := m11
  have k94 : k4 ≠ k9 := fun z => by subst z; rw [s8 _ _ m47] at n9; cases n9
  have m411 := (f11 _ k94).trans m410
  refine qS ?_; repeat' (first | (with_reducible first | apply qH | apply qB) | ((first | (with_reducible apply qR) | (with_reducible first | apply qA | apply qP | apply qD | apply qE | apply qK) | ((with_reducible first | apply qQ | apply qI | apply qJ | apply qW | apply qX) <;> intro hb <;> (try simp only [hb]) <;> (try simp only [zF] at hb)) | with_reducible refine qO wU mixed (by kernel_rfl) ?_) <;> try simp only [qV, qF, qL, qN, qG, qC, qM, reduceIte, seval, Int.cast_ofNat_Int, qY, qZ, qU, zR, zT, zU, uE, wU, zI m11' xG rfl]))
  refine zM m411 xG rfl (by decide) rfl rfl rfl fun h12 m12 f12 => ?_
  refine qS ?_; repeat' (first | (with_reducible first | apply qH | apply qB) | ((first | (with_reducible apply qR) | (with_reducible first | apply qA | apply qP | apply qD | apply qE | apply qK) | ((with_reducible first | apply qQ | apply qI | apply qJ | apply qW | apply qX) <;> intro hb <;> (try simp only [hb]) <;> (try simp only [zF] at hb)) | with_reducible refine qO wU mixed (by kernel_rfl) ?_) <;> try simp only [qV, qF, qL, qN, qG, qC, qM, reduceIte, seval, Int.cast_ofNat_Int, qY, qZ, qU, zR, zT, zU, uE, wU, zI m12 xG rfl]))
  have r10 : RAn h10 (.agg #[.int .i64 A.code, .int .i64 A.ep, .bool A.pr, .bool A.sm, .slice t1 A.key.length t2, .int .i64 A.si, .slice t3 A.its.length t4, .slice t5 A.evs.length t6, .bool A.more]) A := RAn.hs s10 ⟨t1, t2, t3, t4, t5, t6, rfl, q1, q2, q3⟩
  have r11 := r10.hxv m10 ⟨rfl, rfl⟩ rfl fun j B n e => (f11 j n).trans e
  have r12 := r11.hxv m411 ⟨rfl, rfl⟩ rfl fun j B n e => (f12 j n).trans e
  obtain ⟨u1, u2, u3, u4, u5, u6, e12, g1, g2, g3⟩ := r12
  injection e12 with e12
  simp only [Array.mk.injEq, List.cons.injEq, Value.slice.injEq, and_true, true_and] at e12
  obtain ⟨⟨rfl, rfl⟩, ⟨rfl, rfl⟩, rfl, rfl⟩ := e12
  refine ⟨⟨{ A with ep := ((n6 - 1 : Nat) : Int) }, hwr _ (by rw [if_neg hn]), _, _, _, _, _, _, rfl, g1, g2, g3⟩, ?_⟩
  have s0 : HS h h11 := ((s17.trans s8).trans s10).upd (s17.none_of (s8.none_of n9)) f11
  exact s0.upd n4h f12
theorem qX1 (N : Nat) {h0 h : GH} {k j : Nat} {p : Pm} {ew : Value} {cs l : List Value} {M : List (Int × List Bnd)} {ck : Int} {n : Nat} (x : IM h0 h k j p ew cs l M ck n) {a : Option Addr} {c : Nat} (q : Ak) (r : RB h (.slice a q.id.length c) q.id) (hid : q.id.length ≤ 140737488355328)
    {c0 c4 c5 c6 c7 c8 c9 : Value} (hc : [c0, c4, c5, c6, c7, c8, c9].all zA = true) :
    GTri Try.prog N 74 [.pointer (some ⟨k, 0, none⟩), .agg #[c0, .slice a q.id.length c, .int .i64 q.fr, .int .i64 q.to, c4, c5, c6, c7, c8, c9]] h fun v h' => RAn h' v { vZ M q.id q.to with sm := !(vZ M q.id q.to).pr || decide ((vZ M q.id q.to).si ≤ q.fr) } ∧ HS h h' := by
  refine wQ Try.func74 rfl gf74 ok74 (by simp [Try.ntmps74]) ?_
  repeat' (first | (with_reducible first | apply qH | apply qB) | ((first | (with_reducible first | apply qA | apply qP | apply qD | apply qE | apply qK) | ((with_reducible first | apply qQ | apply qI | apply qJ) <;> intro hb <;> (try simp only [hb]) <;> (try simp only [zF] at hb))) <;> try simp only [qV, qF, qL, qN, qG, qC, qM, reduceIte, seval, Int.cast_ofNat_Int, qY, qZ, uU]))
  refine wY (by simpa [zA] using hc) fun k3 h3 m3 s3 f3 n3 => ?_
  refine qS ?_; repeat' (first | (with_reducible first | apply qH | apply qB) | ((first | (with_reducible apply qR) | (with_reducible first | apply qA | apply qP | apply qD | apply qE | apply qK) | ((with_reducible first | apply qQ | apply qI | apply qJ) <;> intro hb <;> (try simp only [hb]) <;> (try simp only [zF] at hb))) <;> try simp only [qV, qF, qL, qN, qG, qC, qM, reduceIte, seval, Int.cast_ofNat_Int, qY, qZ, uU]))
  refine xW fun k4 h4 m4 s4 f4 n4 => ?_
  replace m3 := s4 _ _ m3
  have s14 := s3.trans s4
  have n4h := s3.none_of n4
  refine qS ?_; repeat' (first | (with_reducible first | apply qH | apply qB) | ((first | (with_reducible apply qR) | (with_reducible first | apply qA | apply qP | apply qD | apply qE | apply qK) | ((with_reducible first | apply qQ | apply qI | apply qJ) <;> intro hb <;> (try simp only [hb]) <;> (try simp only [zF] at hb))) <;> try simp only [qV, qF, qL, qN, qG, qC, qM, reduceIte, seval, Int.cast_ofNat_Int, qY, qZ, uU, zI m3 uO rfl]))
  refine (qX2 N (x.hs s14) (r.hs s14) hid q.to (by simpa [zA] using hc)).mono ?_
  rintro v8 h8 ⟨r8, s8⟩
  generalize vZ M q.id q.to = A at r8 ⊢
  obtain ⟨t1, t2, t3, t4, t5, t6, rfl, q1, q2, q3⟩ := r8
  refine qS ?_; repeat' (first | (with_reducible first | apply qH | apply qB) | ((first | (with_reducible apply qR) | (with_reducible first | apply qA | apply qP | apply qD | apply qE | apply qK) | ((with_reducible first | apply qQ | apply qI | apply qJ) <;> intro hb <;> (try simp only [hb]) <;> (try simp only [zF] at hb))) <;> try simp only [qV, qF, qL, qN, qG, qC, qM, reduceIte, seval, Int.cast_ofNat_Int, qY, qZ, uU]))
  refine xW fun k9 h9 m9 s9 f9 n9 => ?_
  refine qS ?_; repeat' (first | (with_reducible first | apply qH | apply qB) | ((first | (with_reducible apply qR) | (with_reducible first | apply qA | apply qP | apply qD | apply qE | apply qK) | ((with_reducible first | apply qQ | apply qI | apply qJ) <;> intro hb <;> (try simp only [hb]) <;> (try simp only [zF] at hb))) <;> try simp only [qV, qF, qL, qN, qG, qC, qM, reduceIte, seval, Int.cast_ofNat_Int, qY, qZ, uU]))
  refine zM m9 xG rfl (by decide) rfl rfl rfl fun h10 m10 f10 => ?_
  have s10 : HS h8 h10 := (HS.refl h8).upd n9 (fun j hj => (f10 j hj).trans (f9 j hj))
  have m310 := s10 _ _ (s8 _ _ m3)
  have m410 := s10 _ _ (s8 _ _ m4)
  have m10' : h10 k9 = some ⟨[.int .i64 A.code, .int .i64 A.ep, .bool A.pr, .bool A.sm, .slice t1 A.key.length t2, .int .i64 A.si, .slice t3 A.its.length t4, .slice t5 A.evs.length t6, .bool A.more], 0, true, false⟩ := m10
  have r10 : RAn h10 (.agg #[.int .i64 A.code, .int .i64 A.ep, .bool A.pr, .bool A.sm, .slice t1 A.key.length t2, .int .i64 A.si, .slice t3 A.its.length t4, .slice t5 A.evs.length t6, .bool A.more]) A := RAn.hs s10 ⟨t1, t2, t3, t4, t5, t6, rfl, q1, q2, q3⟩
  have k94 : k4 ≠ k9 := fun z => by subst z; rw [s8 _ _ m4] at n9; cases n9
  have n9h : h k9 = none := s14.none_of (s8.none_of n9)
  have fin : ∀ {b : Bool} {h11 h12 : GH}, b = (!A.pr || decide (A.si ≤ q.fr)) → h11 k9 = some ⟨[.int .i64 A.code, .int .i64 A.ep, .bool A.pr, .bool b, .slice t1 A.key.length t2, .int .i64 A.si, .slice t3 A.its.length t4, .slice t5 A.evs.length t6, .bool A.more], 0, true, false⟩ → (∀ j, j ≠ k9 → h11 j = h10 j) → (∀ j, j ≠ k4 → h12 j = h11 j) →
      RAn h12 (.agg #[.int .i64 A.code, .int .i64 A.ep, .bool A.pr, .bool b, .slice t1 A.key.length t2, .int .i64 A.si, .slice t3 A.its.length t4, .slice t5 A.evs.length t6, .bool A.more]) { A with sm := !A.pr || decide (A.si ≤ q.fr) } ∧ HS h h12 := by
    intro b h11 h12 hb m11 f11 f12
    subst hb
    have r11 := r10.hxv m10 ⟨rfl, rfl⟩ rfl fun j B n e => (f11 j n).trans e
    have r12 := r11.hxv ((f11 _ k94).trans m410) ⟨rfl, rfl⟩ rfl fun j B n e => (f12 j n).trans e
    obtain ⟨u1, u2, u3, u4, u5, u6, e12, g1, g2, g3⟩ := r12
    injection e12 with e12
    simp only [Array.mk.injEq, List.cons.injEq, Value.slice.injEq, and_true, true_and] at e12
    obtain ⟨⟨rfl, rfl⟩, ⟨rfl, rfl⟩, rfl, rfl⟩ := e12
    exact ⟨⟨_, _, _, _, _, _, rfl, g1, g2, g3⟩, (((s14.trans s8).trans s10).upd n9h f11).upd n4h f12⟩
  cases zF : A.pr
  · rw [zF] at m10' fin
    refine qS ?_; repeat' (first | (with_reducible first | apply qH | apply qB) | ((first | (with_reducible apply qR) | (with_reducible first | apply qA | apply qP | apply qD | apply qE | apply qK) | ((with_reducible first | apply qQ | apply qI | apply qJ) <;> intro hb <;> (try simp only [hb]) <;> (try simp only [zF] at hb))) <;> try simp only [qV, qF, qL, qN, qG, qC, qM, reduceIte, seval, Int.cast_ofNat_Int, qY, qZ, uU, gPick, Bool.not_false, qT m10' qH2]))
    refine vN m10' qH2 rfl (by simp) rfl rfl fun h11 m11 f11 => ?_
    simp only [List.set_cons_succ, List.set_cons_zero] at m11
    have m411 := (f11 _ k94).trans m410
    refine qS ?_; repeat' (first | (with_reducible first | apply qH | apply qB) | ((first | (with_reducible apply qR) | (with_reducible first | apply qA | apply qP | apply qD | apply qE | apply qK) | ((with_reducible first | apply qQ | apply qI | apply qJ) <;> intro hb <;> (try simp only [hb]) <;> (try simp only [zF] at hb))) <;> try simp only [qV, qF, qL, qN, qG, qC, qM, reduceIte, seval, Int.cast_ofNat_Int, qY, qZ, uU, zI m11 xG rfl]))
    refine zM m411 xG rfl (by decide) rfl rfl rfl fun h12 m12 f12 => ?_
    refine qS ?_; repeat' (first | (with_reducible first | apply qH | apply qB) | ((first | (with_reducible apply qR) | (with_reducible first | apply qA | apply qP | apply qD | apply qE | apply qK) | ((with_reducible first | apply qQ | apply qI | apply qJ) <;> intro hb <;> (try simp only [hb]) <;> (try simp only [zF] at hb))) <;> try simp only [qV, qF, qL, qN, qG, qC, qM, reduceIte, seval, Int.cast_ofNat_Int, qY, qZ, uU, zI m12 xG rfl]))
    exact fin (by simp) m11 f11 f12
  · rw [zF] at m10' fin
    refine qS ?_; repeat' (first | (with_reducible first | apply qH | apply qB) | ((first | (with_reducible apply qR) | (with_reducible first | apply qA | apply qP | apply qD | apply qE | apply qK) | ((with_reducible first | apply qQ | apply qI | apply qJ) <;> intro hb <;> (try simp only [hb]) <;> (try simp only [zF] at hb))) <;> try simp only [qV, qF, qL, qN, qG, qC, qM, reduceIte, seval, Int.cast_ofNat_Int, qY, qZ, uU, gPick, Bool.not_true, qT m10' qH2, qT m10' wL, qT m310 wL]))
    refine vN m10' qH2 rfl (by simp) rfl rfl fun h11 m11 f11 => ?_
    simp only [List.set_cons_succ, List.set_cons_zero] at m11
    have m411 := (f11 _ k94).trans m410
    refine qS ?_; repeat' (first | (with_reducible first | apply qH | apply qB) | ((first | (with_reducible apply qR) | (with_reducible first | apply qA | apply qP | apply qD | apply qE | apply qK) | ((with_reducible first | apply qQ | apply qI | apply qJ) <;> intro hb <;> (try simp only [hb]) <;> (try simp only [zF] at hb))) <;> try simp only [qV, qF, qL, qN, qG, qC, qM, reduceIte, seval, Int.cast_ofNat_Int, qY, qZ, uU, zI m11 xG rfl]))
    refine zM m411 xG rfl (by decide) rfl rfl rfl fun h12 m12 f12 => ?_
    refine qS ?_; repeat' (first | (with_reducible first | apply qH | apply qB) | ((first | (with_reducible apply qR) | (with_reducible first | apply qA | apply qP | apply qD | apply qE | apply qK) | ((with_reducible first | apply qQ | apply qI | apply qJ) <;> intro hb <;> (try simp only [hb]) <;> (try simp only [zF] at hb))) <;> try simp only [qV, qF, qL, qN, qG, qC, qM, reduceIte, seval, Int.cast_ofNat_Int, qY, qZ, uU, zI m12 xG rfl]))
    exact fin (by simp) m11 f11 f12
theorem xV : type_of% (And.intro wT (And.intro wN (And.intro yX (And.intro yB (And.intro yW (And.intro yV (And.intro vQ (And.intro yL (And.intro wZ (And.intro uP (And.intro yK qH3))))))))))) := And.intro wT (And.intro wN (And.intro yX (And.intro yB (And.intro yW (And.intro yV (And.intro vQ (And.intro yL (And.intro wZ (And.intro uP (And.intro yK qH3))))))))))
theorem sZ {r g : Bool} {p : Pm} {m : Nat} {q : Ak} (h : xQ r g p m q = 0) : (q.id.length : Int) ≤ p.mi ∧ 0 ≤ q.to ∧ q.to < (m : Int) ∧ (r = true → 0 ≤ q.fr ∧ q.fr ≤ q.to) ∧ (g = true → 1 ≤ q.lm ∧ q.lm ≤ p.pg) := by
  unfold xQ at h
  split at h
  · simp at h
  split at h
  · simp at h
  split at h
  · simp at h
  split at h
  · simp at h
  rename_i h1 h2 h3 h4
  refine ⟨by omega, by omega, by omega, fun hr => ?_, fun hg => ?_⟩
  · subst hr; simp only [true_and] at h1 h3; omega
  · subst hg; simp only [true_and] at h4; omega
theorem c_DoW (N : Nat) {h0 h : GH} {k j : Nat} {p : Pm} {ew : Value} {cs l : List Value} {M : List (Int × List Bnd)} {ck : Int} {n : Nat} (x : IM h0 h k j p ew cs l M ck n) {a : Option Addr} {c : Nat} (q : Ak) (hk : q.kd = 4) (r : RB h (.slice a q.id.length c) q.id) (hid : q.id.length ≤ 140737488355328)
    {c9 : Value} (hc : zA c9 = true) :
    GTri Try.prog N 32 [.pointer (some ⟨k, 0, none⟩), .agg #[.int .i64 q.kd, .slice a q.id.length c, .int .i64 q.fr, .int .i64 q.to, .int .i64 q.tm, .bool q.sm, .int .i64 q.ep, .int .i64 q.ix, .int .i64 q.lm, c9]] h fun v h' =>
      (xQ false false p M.length q ≠ 0 ∧ RAn h' v { code := xQ false false p M.length q } ∨ xQ false false p M.length q = 0 ∧ ∃ A, qS5 M q A ∧ RAn h' v A) ∧ HS h h' := by
  have hcc : [Value.int .i64 q.tm, .bool q.sm, .int .i64 q.ep, .int .i64 q.ix, c9].all zA = true := by simpa [zA] using hc
  have hr : kA q.kd = false := by rw [hk]; rfl
  have hg : kY q.kd = false := by rw [hk]; rfl
  have hpg := p.may_iff.1 x.may
  have e1 : (q.kd == 1) = false := by rw [hk]; rfl
  have e2 : (q.kd == 2) = false := by rw [hk]; rfl
  have e8 : (q.kd == 8) = false := by rw [hk]; rfl
  have e9 : (q.kd == 9) = false := by rw [hk]; rfl
  have e3 : (q.kd == 3) = false := by rw [hk]; rfl
  have e4 : (q.kd == 4) = true := by rw [hk]; rfl
  refine wQ Try.func32 rfl qL2 qK5 (by simp [Try.ntmps32]) ?_
  repeat' (first | (with_reducible first | apply qH | apply qB) | ((first | (with_reducible first | apply qA | apply qP | apply qD | apply qE | apply qK) | ((with_reducible first | apply qQ | apply qI | apply qJ) <;> intro hb <;> (try simp only [hb]) <;> (try simp only [zF] at hb))) <;> try simp only [qV, qF, qL, qN, qG, qC, qM, reduceIte, seval, Int.cast_ofNat_Int, qY, qZ, xV]))
  refine wY (by simpa [zA] using hc) fun k1 h1 m1 s1 f1 n1 => ?_
  refine qS ?_; repeat' (first | (with_reducible first | apply qH | apply qB) | ((first | (with_reducible apply qR) | (with_reducible first | apply qA | apply qP | apply qD | apply qE | apply qK) | ((with_reducible first | apply qQ | apply qI | apply qJ) <;> intro hb <;> (try simp only [hb]) <;> (try simp only [zF] at hb))) <;> try simp only [qV, qF, qL, qN, qG, qC, qM, reduceIte, seval, Int.cast_ofNat_Int, qY, qZ, xV]))
  refine xW fun k2 h2 m2 s2 f2 n2 => ?_
  replace m1 := s2 _ _ m1
  have s12 := s1.trans s2
  have x2 := x.hs s12
  have n2' := s1.none_of n2
  refine qS ?_; repeat' (first | (with_reducible first | apply qH | apply qB) | ((first | (with_reducible apply qR) | (with_reducible first | apply qA | apply qP | apply qD | apply qE | apply qK) | ((with_reducible first | apply qQ | apply qI | apply qJ) <;> intro hb <;> (try simp only [hb]) <;> (try simp only [zF] at hb)) | ((refine GTri.mono (yU _ x2) ?_); rintro _ _ ⟨rfl, hh9⟩; replace hh9 := hh9.symm; subst hh9)) <;> try simp only [qV, qF, qL, qN, qG, qC, qM, reduceIte, seval, Int.cast_ofNat_Int, qY, qZ, xV, List.map_toArray, List.map_cons, List.map_nil, qT m1 wL, e1, e2, e8, e9, e3, e4, zI m1 uO rfl]))
  refine (sS N x2 q hid hcc).mono ?_
  rintro _ h3 ⟨rfl, s3⟩
  rw [hr, hg]
  have m23 := s3 _ _ m2
  by_cases hw : xQ false false p M.length q = 0
  case neg =>
    have dw : (xQ false false p M.length q != 0) = true := by simpa using hw
    refine qS ?_; repeat' (first | (with_reducible first | apply qH | apply qB) | ((first | (with_reducible apply qR) | (with_reducible first | apply qA | apply qP | apply qD | apply qE | apply qK) | ((with_reducible first | apply qQ | apply qI | apply qJ) <;> intro hb <;> (try simp only [hb]) <;> (try simp only [zF] at hb))) <;> try simp only [qV, qF, qL, qN, qG, qC, qM, reduceIte, seval, Int.cast_ofNat_Int, qY, qZ, xV, dw, xL, xT, vB, Shape.pl, List.all_cons, List.all_nil, zA]))
    refine zM m23 xG rfl (by decide) rfl rfl rfl fun h4 m4 f4 => ?_
    refine qS ?_; repeat' (first | (with_reducible first | apply qH | apply qB) | ((first | (with_reducible apply qR) | (with_reducible first | apply qA | apply qP | apply qD | apply qE | apply qK) | ((with_reducible first | apply qQ | apply qI | apply qJ) <;> intro hb <;> (try simp only [hb]) <;> (try simp only [zF] at hb))) <;> try simp only [qV, qF, qL, qN, qG, qC, qM, reduceIte, seval, Int.cast_ofNat_Int, qY, qZ, xV, zI m4 xG rfl]))
    exact ⟨.inl ⟨hw, RAn.zero h4 _ 0⟩, (s12.trans s3).upd n2' f4⟩
  obtain ⟨w1, w2, w3, w4, w5⟩ := sZ hw
  have dw : (xQ false false p M.length q != 0) = false := by simpa using hw
  have s03 := s12.trans s3
  refine qS ?_; repeat' (first | (with_reducible first | apply qH | apply qB) | ((first | (with_reducible apply qR) | (with_reducible first | apply qA | apply qP | apply qD | apply qE | apply qK) | ((with_reducible first | apply qQ | apply qI | apply qJ) <;> intro hb <;> (try simp only [hb]) <;> (try simp only [zF] at hb))) <;> try simp only [qV, qF, qL, qN, qG, qC, qM, reduceIte, seval, Int.cast_ofNat_Int, qY, qZ, xV, dw, zI (s3 _ _ m1) uO rfl]))
  refine (c_when N (x.hs s03) q (r.hs s03) hid w2 w3 (by simpa [zA] using hc)).mono ?_
  rintro v4 h4 ⟨⟨A, hA, r4⟩, s4⟩
  have r4' := r4
  obtain ⟨a4, b4, c4', d4, e4', f4', rfl, _⟩ := r4
  refine qS ?_; repeat' (first | (with_reducible first | apply qH | apply qB) | ((first | (with_reducible apply qR) | (with_reducible first | apply qA | apply qP | apply qD | apply qE | apply qK) | ((with_reducible first | apply qQ | apply qI | apply qJ) <;> intro hb <;> (try simp only [hb]) <;> (try simp only [zF] at hb))) <;> try simp only [qV, qF, qL, qN, qG, qC, qM, reduceIte, seval, Int.cast_ofNat_Int, qY, qZ, xV]))
  refine zM (s4 _ _ m23) xG rfl (by decide) rfl rfl rfl fun h5 m5 f5 => ?_
  refine qS ?_; repeat' (first | (with_reducible first | apply qH | apply qB) | ((first | (with_reducible apply qR) | (with_reducible first | apply qA | apply qP | apply qD | apply qE | apply qK) | ((with_reducible first | apply qQ | apply qI | apply qJ) <;> intro hb <;> (try simp only [hb]) <;> (try simp only [zF] at hb))) <;> try simp only [qV, qF, qL, qN, qG, qC, qM, reduceIte, seval, Int.cast_ofNat_Int, qY, qZ, xV, zI m5 xG rfl]))
  exact ⟨.inr ⟨hw, _, hA, r4'.hxv (s4 _ _ m23) ⟨rfl, rfl⟩ rfl fun j B n e => (f5 j n).trans e⟩, (s03.trans s4).upd n2' f5⟩
theorem c_DoI (N : Nat) {h0 h : GH} {k j : Nat} {p : Pm} {ew : Value} {cs l : List Value} {M : List (Int × List Bnd)} {ck : Int} {n : Nat} (x : IM h0 h k j p ew cs l M ck n) {a : Option Addr} {c : Nat} (q : Ak) (hk : q.kd = 5) (r : RB h (.slice a q.id.length c) q.id) (hid : q.id.length ≤ 140737488355328)
    {c9 : Value} (hc : zA c9 = true) :
    GTri Try.prog N 32 [.pointer (some ⟨k, 0, none⟩), .agg #[.int .i64 q.kd, .slice a q.id.length c, .int .i64 q.fr, .int .i64 q.to, .int .i64 q.tm, .bool q.sm, .int .i64 q.ep, .int .i64 q.ix, .int .i64 q.lm, c9]] h fun v h' =>
      (xQ true false p M.length q ≠ 0 ∧ RAn h' v { code := xQ true false p M.length q } ∨ xQ true false p M.length q = 0 ∧ ∃ A, A = { vZ M q.id q.to with sm := !(vZ M q.id q.to).pr || decide ((vZ M q.id q.to).si ≤ q.fr) } ∧ RAn h' v A) ∧ HS h h' := by
  have hcc : [Value.int .i64 q.tm, .bool q.sm, .int .i64 q.ep, .int .i64 q.ix, c9].all zA = true := by simpa [zA] using hc
  have hr : kA q.kd = true := by rw [hk]; rfl
  have hg : kY q.kd = false := by rw [hk]; rfl
  have hpg := p.may_iff.1 x.may
  have e1 : (q.kd == 1) = false := by rw [hk]; rfl
  have e2 : (q.kd == 2) = false := by rw [hk]; rfl
  have e8 : (q.kd == 8) = false := by rw [hk]; rfl
  have e9 : (q.kd == 9) = false := by rw [hk]; rfl
  have e3 : (q.kd == 3) = false := by rw [hk]; rfl
  have e4 : (q.kd == 4) = false := by rw [hk]; rfl
  have e5 : (q.kd == 5) = true := by rw [hk]; rfl
  refine wQ Try.func32 rfl qL2 qK5 (by simp [Try.ntmps32]) ?_
  repeat' (first | (with_reducible first | apply qH | apply qB) | ((first | (with_reducible first | apply qA | apply qP | apply qD | apply qE | apply qK) | ((with_reducible first | apply qQ | apply qI | apply qJ) <;> intro hb <;> (try simp only [hb]) <;> (try simp only [zF] at hb))) <;> try simp only [qV, qF, qL, qN, qG, qC, qM, reduceIte, seval, Int.cast_ofNat_Int, qY, qZ, xV]))
  refine wY (by simpa [zA] using hc) fun k1 h1 m1 s1 f1 n1 => ?_
  refine qS ?_; repeat' (first | (with_reducible first | apply qH | apply qB) | ((first | (with_reducible apply qR) | (with_reducible first | apply qA | apply qP | apply qD | apply qE | apply qK) | ((with_reducible first | apply qQ | apply qI | apply qJ) <;> intro hb <;> (try simp only [hb]) <;> (try simp only [zF] at hb))) <;> try simp only [qV, qF, qL, qN, qG, qC, qM, reduceIte, seval, Int.cast_ofNat_Int, qY, qZ, xV]))
  refine xW fun k2 h2 m2 s2 f2 n2 => ?_
  replace m1 := s2 _ _ m1
  have s12 := s1.trans s2
  have x2 := x.hs s12
  have n2' := s1.none_of n2
  refine qS ?_; repeat' (first | (with_reducible first | apply qH | apply qB) | ((first | (with_reducible apply qR) | (with_reducible first | apply qA | apply qP | apply qD | apply qE | apply qK) | ((with_reducible first | apply qQ | apply qI | apply qJ) <;> intro hb <;> (try simp only [hb]) <;> (try simp only [zF] at hb)) | ((refine GTri.mono (yU _ x2) ?_); rintro _ _ ⟨rfl, hh9⟩; replace hh9 := hh9.symm; subst hh9)) <;> try simp only [qV, qF, qL, qN, qG, qC, qM, reduceIte, seval, Int.cast_ofNat_Int, qY, qZ, xV, List.map_toArray, List.map_cons, List.map_nil, qT m1 wL, e1, e2, e8, e9, e3, e4, e5, zI m1 uO rfl]))
  refine (sS N x2 q hid hcc).mono ?_
  rintro _ h3 ⟨rfl, s3⟩
  rw [hr, hg]
  have m23 := s3 _ _ m2
  by_cases hw : xQ true false p M.length q = 0
  case neg =>
    have dw : (xQ true false p M.length q != 0) = true := by simpa using hw
    refine qS ?_; repeat' (first | (with_reducible first | apply qH | apply qB) | ((first | (with_reducible apply qR) | (with_reducible first | apply qA | apply qP | apply qD | apply qE | apply qK) | ((with_reducible first | apply qQ | apply qI | apply qJ) <;> intro hb <;> (try simp only [hb]) <;> (try simp only [zF] at hb))) <;> try simp only [qV, qF, qL, qN, qG, qC, qM, reduceIte, seval, Int.cast_ofNat_Int, qY, qZ, xV, dw, xL, xT, vB, Shape.pl, List.all_cons, List.all_nil, zA]))
    refine zM m23 xG rfl (by decide) rfl rfl rfl fun h4 m4 f4 => ?_
    refine qS ?_; repeat' (first | (with_reducible first | apply qH | apply qB) | ((first | (with_reducible apply qR) | (with_reducible first | apply qA | apply qP | apply qD | apply qE | apply qK) | ((with_reducible first | apply qQ | apply qI | apply qJ) <;> intro hb <;> (try simp only [hb]) <;> (try simp only [zF] at hb))) <;> try simp only [qV, qF, qL, qN, qG, qC, qM, reduceIte, seval, Int.cast_ofNat_Int, qY, qZ, xV, zI m4 xG rfl]))
    exact ⟨.inl ⟨hw, RAn.zero h4 _ 0⟩, (s12.trans s3).upd n2' f4⟩
  obtain ⟨w1, w2, w3, w4, w5⟩ := sZ hw
  have dw : (xQ true false p M.length q != 0) = false := by simpa using hw
  have s03 := s12.trans s3
  refine qS ?_; repeat' (first | (with_reducible first | apply qH | apply qB) | ((first | (with_reducible apply qR) | (with_reducible first | apply qA | apply qP | apply qD | apply qE | apply qK) | ((with_reducible first | apply qQ | apply qI | apply qJ) <;> intro hb <;> (try simp only [hb]) <;> (try simp only [zF] at hb))) <;> try simp only [qV, qF, qL, qN, qG, qC, qM, reduceIte, seval, Int.cast_ofNat_Int, qY, qZ, xV, dw, zI (s3 _ _ m1) uO rfl]))
  refine (qX1 N (x.hs s03) q (r.hs s03) hid (by simpa [zA] using hc)).mono ?_
  rintro v4 h4 ⟨r4, s4⟩
  have r4' := r4
  obtain ⟨a4, b4, c4', d4, e4', f4', rfl, _⟩ := r4
  refine qS ?_; repeat' (first | (with_reducible first | apply qH | apply qB) | ((first | (with_reducible apply qR) | (with_reducible first | apply qA | apply qP | apply qD | apply qE | apply qK) | ((with_reducible first | apply qQ | apply qI | apply qJ) <;> intro hb <;> (try simp only [hb]) <;> (try simp only [zF] at hb))) <;> try simp only [qV, qF, qL, qN, qG, qC, qM, reduceIte, seval, Int.cast_ofNat_Int, qY, qZ, xV]))
  refine zM (s4 _ _ m23) xG rfl (by decide) rfl rfl rfl fun h5 m5 f5 => ?_
  refine qS ?_; repeat' (first | (with_reducible first | apply qH | apply qB) | ((first | (with_reducible apply qR) | (with_reducible first | apply qA | apply qP | apply qD | apply qE | apply qK) | ((with_reducible first | apply qQ | apply qI | apply qJ) <;> intro hb <;> (try simp only [hb]) <;> (try simp only [zF] at hb))) <;> try simp only [qV, qF, qL, qN, qG, qC, qM, reduceIte, seval, Int.cast_ofNat_Int, qY, qZ, xV, zI m5 xG rfl]))
  exact ⟨.inr ⟨hw, _, rfl, r4'.hxv (s4 _ _ m23) ⟨rfl, rfl⟩ rfl fun j B n e => (f5 j n).trans e⟩, (s03.trans s4).upd n2' f5⟩
theorem c_DoV (N : Nat) {h0 h : GH} {k j : Nat} {p : Pm} {ew : Value} {cs l : List Value} {M : List (Int × List Bnd)} {ck : Int} {n : Nat} (x : IM h0 h k j p ew cs l M ck n) {a : Option Addr} {c : Nat} (q : Ak) (hk : q.kd = 10) (r : RB h (.slice a q.id.length c) q.id) (hid : q.id.length ≤ 140737488355328)
    {c9 : Value} (hc : zA c9 = true) :
    GTri Try.prog N 32 [.pointer (some ⟨k, 0, none⟩), .agg #[.int .i64 q.kd, .slice a q.id.length c, .int .i64 q.fr, .int .i64 q.to, .int .i64 q.tm, .bool q.sm, .int .i64 q.ep, .int .i64 q.ix, .int .i64 q.lm, c9]] h fun v h' =>
      (xQ true true p M.length q ≠ 0 ∧ RAn h' v { code := xQ true true p M.length q } ∨ xQ true true p M.length q = 0 ∧ ∃ A, A = fJ q (fU M q) ∧ RAn h' v A) ∧ HS h h' := by
  have hcc : [Value.int .i64 q.tm, .bool q.sm, .int .i64 q.ep, .int .i64 q.ix, c9].all zA = true := by simpa [zA] using hc
  have hr : kA q.kd = true := by rw [hk]; rfl
  have hg : kY q.kd = true := by rw [hk]; rfl
  have hpg := p.may_iff.1 x.may
  have e1 : (q.kd == 1) = false := by rw [hk]; rfl
  have e2 : (q.kd == 2) = false := by rw [hk]; rfl
  have e8 : (q.kd == 8) = false := by rw [hk]; rfl
  have e9 : (q.kd == 9) = false := by rw [hk]; rfl
  have e3 : (q.kd == 3) = false := by rw [hk]; rfl
  have e4 : (q.kd == 4) = false := by rw [hk]; rfl
  have e5 : (q.kd == 5) = false := by rw [hk]; rfl
  have e6 : (q.kd == 6) = false := by rw [hk]; rfl
  have e7 : (q.kd == 7) = false := by rw [hk]; rfl
  have e10 : (q.kd == 10) = true := by rw [hk]; rfl
  refine wQ Try.func32 rfl qL2 qK5 (by simp [Try.ntmps32]) ?_
  repeat' (first | (with_reducible first | apply qH | apply qB) | ((first | (with_reducible first | apply qA | apply qP | apply qD | apply qE | apply qK) | ((with_reducible first | apply qQ | apply qI | apply qJ) <;> intro hb <;> (try simp only [hb]) <;> (try simp only [zF] at hb))) <;> try simp only [qV, qF, qL, qN, qG, qC, qM, reduceIte, seval, Int.cast_ofNat_Int, qY, qZ, xV]))
  refine wY (by simpa [zA] using hc) fun k1 h1 m1 s1 f1 n1 => ?_
  refine qS ?_; repeat' (first | (with_reducible first | apply qH | apply qB) | ((first | (with_reducible apply qR) | (with_reducible first | apply qA | apply qP | apply qD | apply qE | apply qK) | ((with_reducible first | apply qQ | apply qI | apply qJ) <;> intro hb <;> (try simp only [hb]) <;> (try simp only [zF] at hb))) <;> try simp only [qV, qF, qL, qN, qG, qC, qM, reduceIte, seval, Int.cast_ofNat_Int, qY, qZ, xV]))
  refine xW fun k2 h2 m2 s2 f2 n2 => ?_
  replace m1 := s2 _ _ m1
  have s12 := s1.trans s2
  have x2 := x.hs s12
  have n2' := s1.none_of n2
  refine qS ?_; repeat' (first | (with_reducible first | apply qH | apply qB) | ((first | (with_reducible apply qR) | (with_reducible first | apply qA | apply qP | apply qD | apply qE | apply qK) | ((with_reducible first | apply qQ | apply qI | apply qJ) <;> intro hb <;> (try simp only [hb]) <;> (try simp only [zF] at hb)) | ((refine GTri.mono (yU _ x2) ?_); rintro _ _ ⟨rfl, hh9⟩; replace hh9 := hh9.symm; subst hh9)) <;> try simp only [qV, qF, qL, qN, qG, qC, qM, reduceIte, seval, Int.cast_ofNat_Int, qY, qZ, xV, List.map_toArray, List.map_cons, List.map_nil, qT m1 wL, e1, e2, e8, e9, e3, e4, e5, e6, e7, e10, zI m1 uO rfl]))
  refine (sS N x2 q hid hcc).mono ?_
  rintro _ h3 ⟨rfl, s3⟩
  rw [hr, hg]
  have m23 := s3 _ _ m2
  by_cases hw : xQ true true p M.length q = 0
  case neg =>
    have dw : (xQ true true p M.length q != 0) = true := by simpa using hw
    refine qS ?_; repeat' (first | (with_reducible first | apply qH | apply qB) | ((first | (with_reducible apply qR) | (with_reducible first | apply qA | apply qP | apply qD | apply qE | apply qK) | ((with_reducible first | apply qQ | apply qI | apply qJ) <;> intro hb <;> (try simp only [hb]) <;> (try simp only [zF] at hb))) <;> try simp only [qV, qF, qL, qN, qG, qC, qM, reduceIte, seval, Int.cast_ofNat_Int, qY, qZ, xV, dw, xL, xT, vB, Shape.pl, List.all_cons, List.all_nil, zA]))
    refine zM m23 xG rfl (by decide) rfl rfl rfl fun h4 m4 f4 => ?_
    refine qS ?_; repeat' (first | (with_reducible first | apply qH | apply qB) | ((first | (with_reducible apply qR) | (with_reducible first | apply qA | apply qP | apply qD | apply qE | apply qK) | ((with_reducible first | apply qQ | apply qI | apply qJ) <;> intro hb <;> (try simp only [hb]) <;> (try simp only [zF] at hb))) <;> try simp only [qV, qF, qL, qN, qG, qC, qM, reduceIte, seval, Int.cast_ofNat_Int, qY, qZ, xV, zI m4 xG rfl]))
    exact ⟨.inl ⟨hw, RAn.zero h4 _ 0⟩, (s12.trans s3).upd n2' f4⟩
  obtain ⟨w1, w2, w3, w4, w5⟩ := sZ hw
  have dw : (xQ true true p M.length q != 0) = false := by simpa using hw
  have s03 := s12.trans s3
  refine qS ?_; repeat' (first | (with_reducible first | apply qH | apply qB) | ((first | (with_reducible apply qR) | (with_reducible first | apply qA | apply qP | apply qD | apply qE | apply qK) | ((with_reducible first | apply qQ | apply qI | apply qJ) <;> intro hb <;> (try simp only [hb]) <;> (try simp only [zF] at hb))) <;> try simp only [qV, qF, qL, qN, qG, qC, qM, reduceIte, seval, Int.cast_ofNat_Int, qY, qZ, xV, dw, zI (s3 _ _ m1) uO rfl]))
  refine (qW7 N (x.hs s03) q (r.hs s03) hid (by have := w5 rfl; omega) (by have := w5 rfl; omega) (by simpa [zA] using hc)).mono ?_
  rintro v4 h4 ⟨r4, s4⟩
  have r4' := r4
  obtain ⟨a4, b4, c4', d4, e4', f4', rfl, _⟩ := r4
  refine qS ?_; repeat' (first | (with_reducible first | apply qH | apply qB) | ((first | (with_reducible apply qR) | (with_reducible first | apply qA | apply qP | apply qD | apply qE | apply qK) | ((with_reducible first | apply qQ | apply qI | apply qJ) <;> intro hb <;> (try simp only [hb]) <;> (try simp only [zF] at hb))) <;> try simp only [qV, qF, qL, qN, qG, qC, qM, reduceIte, seval, Int.cast_ofNat_Int, qY, qZ, xV]))
  refine zM (s4 _ _ m23) xG rfl (by decide) rfl rfl rfl fun h5 m5 f5 => ?_
  refine qS ?_; repeat' (first | (with_reducible first | apply qH | apply qB) | ((first | (with_reducible apply qR) | (with_reducible first | apply qA | apply qP | apply qD | apply qE | apply qK) | ((with_reducible first | apply qQ | apply qI | apply qJ) <;> intro hb <;> (try simp only [hb]) <;> (try simp only [zF] at hb))) <;> try simp only [qV, qF, qL, qN, qG, qC, qM, reduceIte, seval, Int.cast_ofNat_Int, qY, qZ, xV, zI m5 xG rfl]))
  exact ⟨.inr ⟨hw, _, rfl, r4'.hxv (s4 _ _ m23) ⟨rfl, rfl⟩ rfl fun j B n e => (f5 j n).trans e⟩, (s03.trans s4).upd n2' f5⟩
def AnsR (p : Pm) (M : List (Int × List Bnd)) (q : Ak) (A : An) : Prop :=
  if q.kd = 8 ∨ q.kd = 9 then A = {} else if q.kd = 3 ∨ q.kd = 4 ∨ q.kd = 5 ∨ q.kd = 6 ∨ q.kd = 7 ∨ q.kd = 10 then
    if xQ (kA q.kd) (kY q.kd) p M.length q ≠ 0 then A = { code := xQ (kA q.kd) (kY q.kd) p M.length q }
    else if q.kd = 3 then A = vZ M q.id q.to
    else if q.kd = 4 then qS5 M q A
    else if q.kd = 5 then A = { vZ M q.id q.to with sm := !(vZ M q.id q.to).pr || decide ((vZ M q.id q.to).si ≤ q.fr) }
    else if q.kd = 6 then ∃ L, Diff M q L ∧ A = fJ q L
    else if q.kd = 7 then A = sY M q
    else A = fJ q (fU M q)
  else A = { code := 87 }
theorem c_DoQ (N : Nat) {h0 h : GH} {k j : Nat} {p : Pm} {ew : Value} {cs l : List Value} {M : List (Int × List Bnd)} {ck : Int} {n : Nat} (x : IM h0 h k j p ew cs l M ck n) {a : Option Addr} {c : Nat} (q : Ak) (h1 : q.kd ≠ 1) (h2 : q.kd ≠ 2) (r : RB h (.slice a q.id.length c) q.id) (hid : q.id.length ≤ 140737488355328)
    {c9 : Value} (hc : zA c9 = true) :
    GTri Try.prog N 32 [.pointer (some ⟨k, 0, none⟩), .agg #[.int .i64 q.kd, .slice a q.id.length c, .int .i64 q.fr, .int .i64 q.to, .int .i64 q.tm, .bool q.sm, .int .i64 q.ep, .int .i64 q.ix, .int .i64 q.lm, c9]] h fun v h' => (∃ A, AnsR p M q A ∧ RAn h' v A) ∧ HS h h' := by
  by_cases k3 : q.kd = 3
  · have e : kA q.kd = false ∧ kY q.kd = false := by rw [k3]; exact ⟨rfl, rfl⟩
    refine (qS3 N x q k3 r hid (by simpa [zA] using hc)).mono ?_
    rintro v h' ⟨r', s'⟩
    refine ⟨⟨_, ?_, r'⟩, s'⟩
    unfold AnsR
    rw [e.1, e.2, if_neg (by omega), if_pos (.inl k3)]
    by_cases hw : xQ false false p M.length q = 0
    · rw [if_pos hw, if_neg (fun z => z hw), if_pos k3]
    · rw [if_neg hw, if_pos hw]
  by_cases k4 : q.kd = 4
  · have e : kA q.kd = false ∧ kY q.kd = false := by rw [k4]; exact ⟨rfl, rfl⟩
    refine (c_DoW N x q k4 r hid hc).mono ?_
    rintro v h' ⟨r', s'⟩
    rcases r' with ⟨hw, r'⟩ | ⟨hw, A, hA, r'⟩ <;> refine ⟨⟨_, ?_, r'⟩, s'⟩ <;> unfold AnsR <;> rw [e.1, e.2, if_neg (by omega), if_pos (by omega)]
    · rw [if_pos hw]
    · rw [if_neg (fun z => z hw), if_neg k3, if_pos k4]; exact hA
  by_cases k5 : q.kd = 5
  · have e : kA q.kd = true ∧ kY q.kd = false := by rw [k5]; exact ⟨rfl, rfl⟩
    refine (c_DoI N x q k5 r hid hc).mono ?_
    rintro v h' ⟨r', s'⟩
    rcases r' with ⟨hw, r'⟩ | ⟨hw, A, hA, r'⟩ <;> refine ⟨⟨_, ?_, r'⟩, s'⟩ <;> unfold AnsR <;> rw [e.1, e.2, if_neg (by omega), if_pos (by omega)]
    · rw [if_pos hw]
    · rw [if_neg (fun z => z hw), if_neg k3, if_neg k4, if_pos k5]; exact hA
  by_cases k6 : q.kd = 6
  · have e : kA q.kd = true ∧ kY q.kd = true := by rw [k6]; exact ⟨rfl, rfl⟩
    refine (c_DoDiff N x q k6 r hid (by simpa [zA] using hc)).mono ?_
    rintro v h' ⟨r', s'⟩
    rcases r' with ⟨hw, r'⟩ | ⟨hw, L, D, r'⟩ <;> refine ⟨⟨_, ?_, r'⟩, s'⟩ <;> unfold AnsR <;> rw [e.1, e.2, if_neg (by omega), if_pos (by omega)]
    · rw [if_pos hw]
    · rw [if_neg (fun z => z hw), if_neg k3, if_neg k4, if_neg k5, if_pos k6]; exact ⟨L, D, rfl⟩
  by_cases k7 : q.kd = 7
  · have e : kA q.kd = true ∧ kY q.kd = true := by rw [k7]; exact ⟨rfl, rfl⟩
    refine (c_DoFeed N x q k7 hid (by simpa [zA] using hc)).mono ?_
    rintro v h' ⟨r', s'⟩
    refine ⟨⟨_, ?_, r'⟩, s'⟩
    unfold AnsR
    rw [e.1, e.2, if_neg (by omega), if_pos (by omega)]
    by_cases hw : xQ true true p M.length q = 0
    · rw [if_pos hw, if_neg (fun z => z hw), if_neg k3, if_neg k4, if_neg k5, if_neg k6, if_pos k7]
    · rw [if_neg hw, if_pos hw]
  by_cases k10 : q.kd = 10
  · have e : kA q.kd = true ∧ kY q.kd = true := by rw [k10]; exact ⟨rfl, rfl⟩
    refine (c_DoV N x q k10 r hid hc).mono ?_
    rintro v h' ⟨r', s'⟩
    rcases r' with ⟨hw, r'⟩ | ⟨hw, A, hA, r'⟩ <;> refine ⟨⟨_, ?_, r'⟩, s'⟩ <;> unfold AnsR <;> rw [e.1, e.2, if_neg (by omega), if_pos (by omega)]
    · rw [if_pos hw]
    · rw [if_neg (fun z => z hw), if_neg k3, if_neg k4, if_neg k5, if_neg k6, if_neg k7]; exact hA
  have e1 : (q.kd == 1) = false := by simpa using h1
  have e2 : (q.kd == 2) = false := by simpa using h2
  have e3 : (q.kd == 3) = false := by simpa using k3
  have e4 : (q.kd == 4) = false := by simpa using k4
  have e5 : (q.kd == 5) = false := by simpa using k5
  have e6 : (q.kd == 6) = false := by simpa using k6
  have e7 : (q.kd == 7) = false := by simpa using k7
  have e10 : (q.kd == 10) = false := by simpa using k10
  refine wQ Try.func32 rfl qL2 qK5 (by simp [Try.ntmps32]) ?_
  repeat' (first | (with_reducible first | apply qH | apply qB) | ((first | (with_reducible first | apply qA | apply qP | apply qD | apply qE | apply qK) | ((with_reducible first | apply qQ | apply qI | apply qJ) <;> intro hb <;> (try simp only [hb]) <;> (try simp only [zF] at hb))) <;> try simp only [qV, qF, qL, qN, qG, qC, qM, reduceIte, seval, Int.cast_ofNat_Int, qY, qZ, xV]))
  refine wY (by simpa [zA] using hc) fun kb1 hb1 m1 s1 f1 n1 => ?_
  refine qS ?_; repeat' (first | (with_reducible first | apply qH | apply qB) | ((first | (with_reducible apply qR) | (with_reducible first | apply qA | apply qP | apply qD | apply qE | apply qK) | ((with_reducible first | apply qQ | apply qI | apply qJ) <;> intro hb <;> (try simp only [hb]) <;> (try simp only [zF] at hb))) <;> try simp only [qV, qF, qL, qN, qG, qC, qM, reduceIte, seval, Int.cast_ofNat_Int, qY, qZ, xV]))
  refine xW fun kb2 hb2 m2 s2 f2 n2 => ?_
  replace m1 := s2 _ _ m1
  have s12 := s1.trans s2
  have x2 := x.hs s12
  have n2' := s1.none_of n2
  by_cases k8 : q.kd = 8
  · have e8 : (q.kd == 8) = true := by rw [k8]; rfl
    refine qS ?_; repeat' (first | (with_reducible first | apply qH | apply qB) | ((first | (with_reducible apply qR) | (with_reducible first | apply qA | apply qP | apply qD | apply qE | apply qK) | ((with_reducible first | apply qQ | apply qI | apply qJ) <;> intro hb <;> (try simp only [hb]) <;> (try simp only [zF] at hb)) | ((refine GTri.mono (yU _ x2) ?_); rintro _ _ ⟨rfl, hh9⟩; replace hh9 := hh9.symm; subst hh9)) <;> try simp only [qV, qF, qL, qN, qG, qC, qM, reduceIte, seval, Int.cast_ofNat_Int, qY, qZ, xV, List.map_toArray, List.map_cons, List.map_nil, qT m1 wL, e1, e2, e8, xL, xT, vB, Shape.pl, List.all_cons, List.all_nil, zA]))
    refine zM m2 xG rfl (by decide) rfl rfl rfl fun h4 m4 f4 => ?_
    refine qS ?_; repeat' (first | (with_reducible first | apply qH | apply qB) | ((first | (with_reducible apply qR) | (with_reducible first | apply qA | apply qP | apply qD | apply qE | apply qK) | ((with_reducible first | apply qQ | apply qI | apply qJ) <;> intro hb <;> (try simp only [hb]) <;> (try simp only [zF] at hb))) <;> try simp only [qV, qF, qL, qN, qG, qC, qM, reduceIte, seval, Int.cast_ofNat_Int, qY, qZ, xV, zI m4 xG rfl]))
    exact ⟨⟨{}, by unfold AnsR; rw [if_pos (.inl k8)], RAn.zero h4 0 0⟩, s12.upd n2' f4⟩
  have e8 : (q.kd == 8) = false := by simpa using k8
  by_cases k9 : q.kd = 9
  · have e9 : (q.kd == 9) = true := by rw [k9]; rfl
    refine qS ?_; repeat' (first | (with_reducible first | apply qH | apply qB) | ((first | (with_reducible apply qR) | (with_reducible first | apply qA | apply qP | apply qD | apply qE | apply qK) | ((with_reducible first | apply qQ | apply qI | apply qJ) <;> intro hb <;> (try simp only [hb]) <;> (try simp only [zF] at hb)) | ((refine GTri.mono (yU _ x2) ?_); rintro _ _ ⟨rfl, hh9⟩; replace hh9 := hh9.symm; subst hh9)) <;> try simp only [qV, qF, qL, qN, qG, qC, qM, reduceIte, seval, Int.cast_ofNat_Int, qY, qZ, xV, List.map_toArray, List.map_cons, List.map_nil, qT m1 wL, e1, e2, e8, e9, xL, xT, vB, Shape.pl, List.all_cons, List.all_nil, zA]))
    refine zM m2 xG rfl (by decide) rfl rfl rfl fun h4 m4 f4 => ?_
    refine qS ?_; repeat' (first | (with_reducible first | apply qH | apply qB) | ((first | (with_reducible apply qR) | (with_reducible first | apply qA | apply qP | apply qD | apply qE | apply qK) | ((with_reducible first | apply qQ | apply qI | apply qJ) <;> intro hb <;> (try simp only [hb]) <;> (try simp only [zF] at hb))) <;> try simp only [qV, qF, qL, qN, qG, qC, qM, reduceIte, seval, Int.cast_ofNat_Int, qY, qZ, xV, zI m4 xG rfl]))
    exact ⟨⟨{}, by unfold AnsR; rw [if_pos (.inr k9)], RAn.zero h4 0 0⟩, s12.upd n2' f4⟩
  have e9 : (q.kd == 9) = false := by simpa using k9
  refine qS ?_; repeat' (first | (with_reducible first | apply qH | apply qB) | ((first | (with_reducible apply qR) | (with_reducible first | apply qA | apply qP | apply qD | apply qE | apply qK) | ((with_reducible first | apply qQ | apply qI | apply qJ) <;> intro hb <;> (try simp only [hb]) <;> (try simp only [zF] at hb)) | ((refine GTri.mono (yU _ x2) ?_); rintro _ _ ⟨rfl, hh9⟩; replace hh9 := hh9.symm; subst hh9)) <;> try simp only [qV, qF, qL, qN, qG, qC, qM, reduceIte, seval, Int.cast_ofNat_Int, qY, qZ, xV, List.map_toArray, List.map_cons, List.map_nil, qT m1 wL, e1, e2, e8, e9, e3, e4, e5, e6, e7, e10, xL, xT, vB, Shape.pl, List.all_cons, List.all_nil, zA]))
  refine zM m2 xG rfl (by decide) rfl rfl rfl fun h4 m4 f4 => ?_
  refine qS ?_; repeat' (first | (with_reducible first | apply qH | apply qB) | ((first | (with_reducible apply qR) | (with_reducible first | apply qA | apply qP | apply qD | apply qE | apply qK) | ((with_reducible first | apply qQ | apply qI | apply qJ) <;> intro hb <;> (try simp only [hb]) <;> (try simp only [zF] at hb))) <;> try simp only [qV, qF, qL, qN, qG, qC, qM, reduceIte, seval, Int.cast_ofNat_Int, qY, qZ, xV, zI m4 xG rfl]))
  exact ⟨⟨{ code := 87 }, by unfold AnsR; rw [if_neg (by omega), if_neg (by omega)], RAn.zero h4 87 0⟩, s12.upd n2' f4⟩
theorem vX : type_of% (And.intro wN (And.intro yX (And.intro yB (And.intro zC0 (And.intro yV (And.intro gH (And.intro yL (And.intro wZ (And.intro uP (And.intro jV (And.intro lU rs34))))))))))) := And.intro wN (And.intro yX (And.intro yB (And.intro zC0 (And.intro yV (And.intro gH (And.intro yL (And.intro wZ (And.intro uP (And.intro jV (And.intro lU rs34))))))))))
theorem zA8 (N : Nat) (h : GH) {v w : Value} {A : An} (r1 : RAn h v A) (r2 : RAn h w A) (hi : A.its.length ≤ 1000000) (he : A.evs.length ≤ 1000000) :
    GTri Try.prog N 34 [v, w] h fun u h' => u = .bool true ∧ HS h h' := by
  obtain ⟨a1, a2, a3, a4, a5, a6, rfl, k1, i1, e1⟩ := r1
  obtain ⟨b1, b2, b3, b4, b5, b6, rfl, k2, i2, e2⟩ := r2
  refine wQ Try.func34 rfl gf34 ok34 (by simp [Try.ntmps34]) ?_
  repeat' (first | (with_reducible first | apply qH | apply qB) | ((first | (with_reducible first | apply qA | apply qP | apply qD | apply qE | apply qK) | ((with_reducible first | apply qQ | apply qI | apply qJ) <;> intro hb <;> (try simp only [hb]) <;> (try simp only [zF] at hb))) <;> try simp only [qV, qF, qL, qN, qG, qC, qM, reduceIte, seval, Int.cast_ofNat_Int, qY, qZ, vX]))
  refine wY rfl fun kb1 h1 m1 s1 f1 n1 => ?_
  refine qS ?_; repeat' (first | (with_reducible first | apply qH | apply qB) | ((first | (with_reducible apply qR) | (with_reducible first | apply qA | apply qP | apply qD | apply qE | apply qK) | ((with_reducible first | apply qQ | apply qI | apply qJ) <;> intro hb <;> (try simp only [hb]) <;> (try simp only [zF] at hb))) <;> try simp only [qV, qF, qL, qN, qG, qC, qM, reduceIte, seval, Int.cast_ofNat_Int, qY, qZ, vX]))
  refine wY rfl fun kb2 h2 m2 s2 f2 n2 => ?_
  replace m1 := s2 _ _ m1
  have s12 := s1.trans s2
  have cv1 := (k1.hs s12).conv Try.underlying24 Try.underlying5 Try.underlying9
  have cv2 := (k2.hs s12).conv Try.underlying24 Try.underlying5 Try.underlying9
  refine qS ?_; repeat' (first | (with_reducible first | apply qH | apply qB) | ((first | (with_reducible apply qR) | (with_reducible first | apply qA | apply qP | apply qD | apply qE | apply qK) | ((with_reducible first | apply qQ | apply qI | apply qJ) <;> intro hb <;> (try simp only [hb]) <;> (try simp only [zF] at hb))) <;> try simp only [qV, qF, qL, qN, qG, qC, qM, reduceIte, seval, Int.cast_ofNat_Int, qY, qZ, vX]))
  simp only [List.append_eq, List.cons_append, List.nil_append]
  refine qS ?_; repeat' (first | (with_reducible first | apply qH | apply qB) | ((first | (with_reducible apply qR) | (with_reducible first | apply qA | apply qP | apply qD | apply qE | apply qK) | ((with_reducible first | apply qQ | apply qI | apply qJ) <;> intro hb <;> (try simp only [hb]) <;> (try simp only [zF] at hb))) <;> try simp only [qV, qF, qL, qN, qG, qC, qM, reduceIte, seval, Int.cast_ofNat_Int, qY, qZ, vX, qT m1 sz29, qT m1 wL, qT m1 qH2, qT m1 wK, qT m1 qH1, qT m1 dJ, qT m2 sz29, qT m2 wL, qT m2 qH2, qT m2 wK, qT m2 qH1, qT m2 dJ, cv1, cv2, bne_self_eq_false, gPick]))
  all_goals try exact absurd trivial hb
  have i1' := i1.hcR s12.hc fun _ _ q => (q.hs s12 : It h2 _ _)
  have i2' := i2.hcR s12.hc fun _ _ q => (q.hs s12 : It h2 _ _)
  have e1' := e1.hcR s12.hc fun _ _ q => (q.hs s12 : Ev h2 _ _)
  have e2' := e2.hcR s12.hc fun _ _ q => (q.hs s12 : Ev h2 _ _)
  refine wI [2, 3, 79, 80] (fun (i : Nat) => [(81, .int .i64 (i : Int))])
    (fun q i h' => A.its.length - i = q ∧ i ≤ A.its.length ∧ HS h2 h') A.its.length 0 (by simp [lk]) ⟨rfl, by omega, HS.refl _⟩ ?_
  rintro _ i h3 ⟨rfl, hi3, s3⟩
  have m13 := s3 _ _ m1
  have m23 := s3 _ _ m2
  by_cases hil : i < A.its.length
  · have d3 : decide ((i : Int) < (A.its.length : Int)) = true := decide_eq_true (by omega)
    have wi : IntKind.i64.wrap ((i : Int) + 1) = ((i + 1 : Nat) : Int) := by rw [wrap64 (by omega) (by omega)]; omega
    obtain ⟨y, hy⟩ := vC hil
    obtain ⟨ad, cy, g1, g2, p1, p2, p3, p4, rfl, p5, p6⟩ := (i1'.hcR s3.hc fun _ _ q => (q.hs s3 : It h3 _ _)).at (P := Try.prog) Try.underlying68 yY hy
    have l1 : xM Try.prog 97 h3 (.pointer (some ad)) = some (.agg #[.slice p1 y.1.1.length p2, .slice p3 y.1.2.length p4, .int .i64 (y.2 : Int)]) := by simp only [xM, yY, g2]; rfl
    refine qS ?_; repeat' (first | (with_reducible first | apply qH | apply qB) | ((first | (with_reducible apply qR) | (with_reducible first | apply qA | apply qP | apply qD | apply qE | apply qK) | ((with_reducible first | apply qQ | apply qI | apply qJ) <;> intro hb <;> (try simp only [hb]) <;> (try simp only [zF] at hb))) <;> try simp only [qV, qF, qL, qN, qG, qC, qM, reduceIte, seval, Int.cast_ofNat_Int, qY, qZ, vX, d3, g1, l1]))
    refine xW fun k4 h4 m4 s4 f4 n4 => ?_
    refine qS ?_; repeat' (first | (with_reducible first | apply qH | apply qB) | ((first | (with_reducible apply qR) | (with_reducible first | apply qA | apply qP | apply qD | apply qE | apply qK) | ((with_reducible first | apply qQ | apply qI | apply qJ) <;> intro hb <;> (try simp only [hb]) <;> (try simp only [zF] at hb))) <;> try simp only [qV, qF, qL, qN, qG, qC, qM, reduceIte, seval, Int.cast_ofNat_Int, qY, qZ, vX]))
    refine zM m4 yY rfl (by decide) rfl rfl rfl fun h5 m5 f5 => ?_
    have s5 : HS h3 h5 := (HS.refl h3).upd n4 (fun j hj => (f5 j hj).trans (f4 j hj))
    have s25 := s3.trans s5
    have m25 := s5 _ _ m23
    obtain ⟨ad2, cy2, g3, g4, q1, q2, q3, q4, rfl, q5, q6⟩ := (i2'.hcR s25.hc fun _ _ q => (q.hs s25 : It h5 _ _)).at (P := Try.prog) Try.underlying68 yY hy
    have l2 : xM Try.prog 97 h5 (.pointer (some ad2)) = some (.agg #[.slice q1 y.1.1.length q2, .slice q3 y.1.2.length q4, .int .i64 (y.2 : Int)]) := by simp only [xM, yY, g4]; rfl
    refine qS ?_; repeat' (first | (with_reducible first | apply qH | apply qB) | ((first | (with_reducible apply qR) | (with_reducible first | apply qA | apply qP | apply qD | apply qE | apply qK) | ((with_reducible first | apply qQ | apply qI | apply qJ) <;> intro hb <;> (try simp only [hb]) <;> (try simp only [zF] at hb))) <;> try simp only [qV, qF, qL, qN, qG, qC, qM, reduceIte, seval, Int.cast_ofNat_Int, qY, qZ, vX, g3, l2, qT m25 qH1]))
    refine xW fun k6 h6 m6 s6 f6 n6 => ?_
    refine qS ?_; repeat' (first | (with_reducible first | apply qH | apply qB) | ((first | (with_reducible apply qR) | (with_reducible first | apply qA | apply qP | apply qD | apply qE | apply qK) | ((with_reducible first | apply qQ | apply qI | apply qJ) <;> intro hb <;> (try simp only [hb]) <;> (try simp only [zF] at hb))) <;> try simp only [qV, qF, qL, qN, qG, qC, qM, reduceIte, seval, Int.cast_ofNat_Int, qY, qZ, vX]))
    refine zM m6 yY rfl (by decide) rfl rfl rfl fun h7 m7 f7 => ?_
    have s7 : HS h5 h7 := (HS.refl h5).upd n6 (fun j hj => (f7 j hj).trans (f6 j hj))
    have m57 := s7 _ _ m5
    have ca := ((p5.hs s5).hs s7).conv Try.underlying24 Try.underlying5 Try.underlying9
    have cb := ((p6.hs s5).hs s7).conv Try.underlying24 Try.underlying5 Try.underlying9
    have cc := (q5.hs s7).conv Try.underlying24 Try.underlying5 Try.underlying9
    have cd := (q6.hs s7).conv Try.underlying24 Try.underlying5 Try.underlying9
    refine qS ?_; repeat' (first | (with_reducible first | apply qH | apply qB) | ((first | (with_reducible apply qR) | (with_reducible first | apply qA | apply qP | apply qD | apply qE | apply qK) | ((with_reducible first | apply qQ | apply qI | apply qJ) <;> intro hb <;> (try simp only [hb]) <;> (try simp only [zF] at hb))) <;> try simp only [qV, qF, qL, qN, qG, qC, qM, reduceIte, seval, Int.cast_ofNat_Int, qY, qZ, vX, qT m57 wK, qT m57 wL, qT m7 wK, qT m7 wL, ca, cb, cc, cd, bne_self_eq_false, gPick, wi]))
    all_goals try exact absurd trivial hb
    exact ⟨_, i + 1, by omega, (by simp only [List.forall_mem_cons, List.not_mem_nil, false_implies, implies_true, List.map, List.cons_append, List.nil_append, lk, Nat.reduceEqDiff, reduceIte, and_true, true_and]), rfl, by omega, s25.trans s7⟩
  have d3 : decide ((i : Int) < (A.its.length : Int)) = false := decide_eq_false (by omega)
  refine qS ?_; repeat' (first | (with_reducible first | apply qH | apply qB) | ((first | (with_reducible apply qR) | (with_reducible first | apply qA | apply qP | apply qD | apply qE | apply qK) | ((with_reducible first | apply qQ | apply qI | apply qJ) <;> intro hb <;> (try simp only [hb]) <;> (try simp only [zF] at hb))) <;> try simp only [qV, qF, qL, qN, qG, qC, qM, reduceIte, seval, Int.cast_ofNat_Int, qY, qZ, vX, d3, qT m13 dJ]))
  refine wI [3, 116, 117] (fun (i : Nat) => [(118, .int .i64 (i : Int))])
    (fun q i h' => A.evs.length - i = q ∧ i ≤ A.evs.length ∧ HS h3 h') A.evs.length 0 (by simp [lk]) ⟨rfl, by omega, HS.refl _⟩ ?_
  clear hil hi3 d3
  rintro _ i h3' ⟨rfl, hi3, s3'⟩
  have s23 := s3.trans s3'
  have m23 := s23 _ _ m2
  by_cases hil : i < A.evs.length
  · have d3 : decide ((i : Int) < (A.evs.length : Int)) = true := decide_eq_true (by omega)
    have wi : IntKind.i64.wrap ((i : Int) + 1) = ((i + 1 : Nat) : Int) := by rw [wrap64 (by omega) (by omega)]; omega
    obtain ⟨y, hy⟩ := vC hil
    obtain ⟨ad, cy, g1, g2, p1, p2, p3, p4, rfl, p5, p6⟩ := (e1'.hcR s23.hc fun _ _ q => (q.hs s23 : Ev h3' _ _)).at (P := Try.prog) Try.underlying36 qT5 hy
    have l1 : xM Try.prog 33 h3' (.pointer (some ad)) = some (.agg #[.int .i64 (y.1 : Int), .int .i64 (y.2.1 : Int), .slice p1 y.2.2.1.length p2, .slice p3 y.2.2.2.length p4]) := by simp only [xM, qT5, g2]; rfl
    refine qS ?_; repeat' (first | (with_reducible first | apply qH | apply qB) | ((first | (with_reducible apply qR) | (with_reducible first | apply qA | apply qP | apply qD | apply qE | apply qK) | ((with_reducible first | apply qQ | apply qI | apply qJ) <;> intro hb <;> (try simp only [hb]) <;> (try simp only [zF] at hb))) <;> try simp only [qV, qF, qL, qN, qG, qC, qM, reduceIte, seval, Int.cast_ofNat_Int, qY, qZ, vX, d3, g1, l1]))
    refine xW fun k4 h4 m4 s4 f4 n4 => ?_
    refine qS ?_; repeat' (first | (with_reducible first | apply qH | apply qB) | ((first | (with_reducible apply qR) | (with_reducible first | apply qA | apply qP | apply qD | apply qE | apply qK) | ((with_reducible first | apply qQ | apply qI | apply qJ) <;> intro hb <;> (try simp only [hb]) <;> (try simp only [zF] at hb))) <;> try simp only [qV, qF, qL, qN, qG, qC, qM, reduceIte, seval, Int.cast_ofNat_Int, qY, qZ, vX]))
    refine zM m4 qT5 rfl (by decide) rfl rfl rfl fun h5 m5 f5 => ?_
    have s5 : HS h3' h5 := (HS.refl h3').upd n4 (fun j hj => (f5 j hj).trans (f4 j hj))
    have s25 := s23.trans s5
    have m25 := s5 _ _ m23
    obtain ⟨ad2, cy2, g3, g4, q1, q2, q3, q4, rfl, q5, q6⟩ := (e2'.hcR s25.hc fun _ _ q => (q.hs s25 : Ev h5 _ _)).at (P := Try.prog) Try.underlying36 qT5 hy
    have l2 : xM Try.prog 33 h5 (.pointer (some ad2)) = some (.agg #[.int .i64 (y.1 : Int), .int .i64 (y.2.1 : Int), .slice q1 y.2.2.1.length q2, .slice q3 y.2.2.2.length q4]) := by simp only [xM, qT5, g4]; rfl
    refine qS ?_; repeat' (first | (with_reducible first | apply qH | apply qB) | ((first | (with_reducible apply qR) | (with_reducible first | apply qA | apply qP | apply qD | apply qE | apply qK) | ((with_reducible first | apply qQ | apply qI | apply qJ) <;> intro hb <;> (try simp only [hb]) <;> (try simp only [zF] at hb))) <;> try simp only [qV, qF, qL, qN, qG, qC, qM, reduceIte, seval, Int.cast_ofNat_Int, qY, qZ, vX, g3, l2, qT m25 dJ]))
    refine xW fun k6 h6 m6 s6 f6 n6 => ?_
    refine qS ?_; repeat' (first | (with_reducible first | apply qH | apply qB) | ((first | (with_reducible apply qR) | (with_reducible first | apply qA | apply qP | apply qD | apply qE | apply qK) | ((with_reducible first | apply qQ | apply qI | apply qJ) <;> intro hb <;> (try simp only [hb]) <;> (try simp only [zF] at hb))) <;> try simp only [qV, qF, qL, qN, qG, qC, qM, reduceIte, seval, Int.cast_ofNat_Int, qY, qZ, vX]))
    refine zM m6 qT5 rfl (by decide) rfl rfl rfl fun h7 m7 f7 => ?_
    have s7 : HS h5 h7 := (HS.refl h5).upd n6 (fun j hj => (f7 j hj).trans (f6 j hj))
    have m57 := s7 _ _ m5
    have ca := ((p5.hs s5).hs s7).conv Try.underlying24 Try.underlying5 Try.underlying9
    have cb := ((p6.hs s5).hs s7).conv Try.underlying24 Try.underlying5 Try.underlying9
    have cc := (q5.hs s7).conv Try.underlying24 Try.underlying5 Try.underlying9
    have cd := (q6.hs s7).conv Try.underlying24 Try.underlying5 Try.underlying9
    refine qS ?_; repeat' (first | (with_reducible first | apply qH | apply qB) | ((first | (with_reducible apply qR) | (with_reducible first | apply qA | apply qP | apply qD | apply qE | apply qK) | ((with_reducible first | apply qQ | apply qI | apply qJ) <;> intro hb <;> (try simp only [hb]) <;> (try simp only [zF] at hb))) <;> try simp only [qV, qF, qL, qN, qG, qC, qM, reduceIte, seval, Int.cast_ofNat_Int, qY, qZ, vX, qT m57 wK, qT m57 wL, qT m7 wK, qT m7 wL, ca, cb, cc, cd, bne_self_eq_false, gPick, wi]))
    all_goals try exact absurd trivial hb
    exact ⟨_, i + 1, by omega, (by simp only [List.forall_mem_cons, List.not_mem_nil, false_implies, implies_true, List.map, List.cons_append, List.nil_append, lk, Nat.reduceEqDiff, reduceIte, and_true, true_and]), rfl, by omega, s3'.trans (s5.trans s7)⟩
  have d3 : decide ((i : Int) < (A.evs.length : Int)) = false := decide_eq_false (by omega)
  refine qS ?_; repeat' (first | (with_reducible first | apply qH | apply qB) | ((first | (with_reducible apply qR) | (with_reducible first | apply qA | apply qP | apply qD | apply qE | apply qK) | ((with_reducible first | apply qQ | apply qI | apply qJ) <;> intro hb <;> (try simp only [hb]) <;> (try simp only [zF] at hb))) <;> try simp only [qV, qF, qL, qN, qG, qC, qM, reduceIte, seval, Int.cast_ofNat_Int, qY, qZ, vX, d3]))
  exact s12.trans s23
def fF (ks : List Nat) (h : GH) : GH := fun i => if i ∈ ks then none else h i
theorem qY3 (ks : List Nat) (h : GH) : HS (fF ks h) h := fun i B e => by
  unfold fF at e
  split at e
  · cases e
  · exact e
theorem dO {ks : List Nat} {h : GH} {i : Nat} {B : GB} (e : h i = some B) (n : i ∉ ks) : fF ks h i = some B := by
  unfold fF
  rw [if_neg n]; exact e
section
variable {h0 h : GH} {k j : Nat} {p : Pm} {ew : Value} {cs l : List Value} {M : List (Int × List Bnd)} {ck : Int} {n : Nat} {S : List UInt8 → List (Nat × Nat)}
theorem IS.only (x : IS h0 h k j p ew cs l M ck n S) : ∃ kb tl, h kb = some ⟨cs, 2, true, tl⟩ ∧ h0 kb = none ∧ IS (fF [k, j + 1, kb] h) h k j p ew cs l M ck n S := by
  obtain ⟨kb, c, tl, g1, g2, g3, g4, g5, g6⟩ := x.ep
  refine ⟨kb, tl, g4, g5, x.obj, by simp [fF], x.mp, by simp [fF], x.ok, x.u8, ⟨kb, c, tl, g1, g2, g3, g4, by simp [fF], g6⟩, x.eps, x.sp, x.cu8, x.bl, x.len, x.tt, x.nch, x.may, x.ks⟩
theorem IS.off (x : IS h0 h k j p ew cs l M ck n S) {kb : Nat} {tl : Bool} (hkb : h kb = some ⟨cs, 2, true, tl⟩) : MF h (fF [k, j + 1, kb] h) := fun i B e q => by
  refine dO e fun hm => ?_
  obtain ⟨ae, ce, ee⟩ := x.ep.form
  simp only [List.mem_cons, List.not_mem_nil, or_false] at hm
  rcases hm with rfl | rfl | rfl
  · rw [x.obj, ee] at e
    cases e
    rcases q with q | q | ⟨q, _⟩ <;> simp [wX] at q
  · rw [x.mp] at e
    cases e
    rcases q with q | q | ⟨q, _⟩
    · simp only [List.all_cons, x.u8, Bool.and_true] at q; cases q
    · simp at q
    · simp at q
  · rw [hkb] at e
    cases e
    rcases q with q | q | ⟨_, a, b, c, r, q⟩
    · rw [x.cu8] at q; cases q
    · simp at q
    · obtain ⟨t, r', e'⟩ := x.first
      rw [e'] at q; cases q
def isS : Value → Bool
  | .slice .. => true
  | _ => false
end
theorem qX8 (id : List UInt8) (B : List (List Bnd)) : ∀ (A : List (List Bnd)) (e : Nat), uZ e (A ++ B) id = uZ e A id ++ uZ (e + A.length) B id
  | [], e => by simp [uZ]
  | b :: A, e => by
    simp only [List.cons_append, uZ, qX8 id B A (e + 1), List.append_assoc, List.length_cons]
    rw [show e + 1 + A.length = e + (A.length + 1) by omega]
section
variable {M E : List (Int × List Bnd)}
theorem qX7 (id : List UInt8) : ∃ r, uZ 0 ((M ++ E).map (·.2)) id = uZ 0 (M.map (·.2)) id ++ r ∧ ∀ p ∈ r, M.length ≤ p.1 := by
  refine ⟨_, by rw [List.map_append, qX8], fun p hp => ?_⟩
  have := (jS hp).1
  rw [List.length_map] at this
  omega
theorem qB0 {e : Nat} (h : e < M.length) : jI (M ++ E) e = jI M e := by unfold jI; rw [List.getElem?_append_left h]
theorem zB3 (id : List UInt8) {t : Int} (h : t < (M.length : Int)) : dY (M ++ E) id t = dY M id t := by
  obtain ⟨r, e, hr⟩ := qX7 (M := M) (E := E) id
  have hS : qN7 (uZ 0 ((M ++ E).map (·.2)) id) t = qN7 (uZ 0 (M.map (·.2)) id) t := by
    unfold qN7
    rw [e, List.filter_append]
    have : r.filter (fun p => decide ((p.1 : Int) ≤ t)) = [] := by
      rw [List.filter_eq_nil_iff]
      intro p hp
      have := hr p hp
      simp only [decide_eq_true_eq]
      omega
    rw [this, List.append_nil]
  unfold dY
  rw [hS]
  cases hA : qN7 (uZ 0 (M.map (·.2)) id) t with
  | none => rfl
  | some ep =>
    have : ep < M.length := by
      unfold qN7 at hA
      obtain ⟨w, hw, rfl⟩ := Option.map_eq_some_iff.1 hA
      have h1 := (List.mem_filter.1 (List.mem_of_getLast? hw)).1
      have := (jS h1).2.1
      rw [List.length_map] at this
      omega
    simp only [Option.map_some]
    rw [List.getElem?_append_left this]
theorem zA2 : ∀ (c s : Nat), s + c ≤ M.length → gL (M ++ E) s c = gL M s c
  | 0, _, _ => rfl
  | c + 1, s, h => by
    rw [dG, dG, zA2 c (s + 1) (by omega), qB0 (by omega)]
theorem dsel_ext (q : Ak) (id : List UInt8) (h : q.to < (M.length : Int)) : jY (M ++ E) q id = jY M q id := by
  unfold jY
  rw [zB3 id h]
theorem lO (id : List UInt8) {t : Int} (h : t < (M.length : Int)) : vZ (M ++ E) id t = vZ M id t := by
  unfold vZ
  rw [zB3 id h]
theorem zB7 (q : Ak) (h : q.to < (M.length : Int)) : fU (M ++ E) q = fU M q := by
  obtain ⟨r, e, hr⟩ := qX7 (M := M) (E := E) q.id
  unfold fU sU
  rw [e, List.drop_zero, List.drop_zero, List.filter_append]
  have : r.filter (qB2 q) = [] := by
    rw [List.filter_eq_nil_iff]
    intro p hp
    have := hr p hp
    unfold qB2
    simp only [Bool.and_eq_true, decide_eq_true_eq]
    omega
  rw [this, List.append_nil]
  refine List.map_congr_left fun p hp => ?_
  have h1 := (List.mem_filter.1 (List.mem_reverse.1 hp)).1
  have := (jS h1).2.1
  rw [List.length_map] at this
  unfold vit
  rw [qB0 (by omega)]
theorem zE5 (q : Ak) (h0 : 0 ≤ q.to) (h : q.to < (M.length : Int)) : jH (M ++ E) q = jH M q := by
  unfold jH
  split
  · rfl
  · by_cases he : q.ep ≤ q.to
    · rw [qB0 (by omega)]
    · rw [decide_eq_false he]; simp
theorem zE2 (q : Ak) (h0 : 0 ≤ q.to) (hf : 0 ≤ q.fr) (h : q.to < (M.length : Int)) : sY (M ++ E) q = sY M q := by
  unfold sY
  rw [zE5 q h0 h]
  by_cases hc : jH M q = true
  · rw [if_pos hc, if_pos hc]
    have hep : 0 ≤ q.ep := by
      unfold jH at hc
      split at hc
      · simp only [Bool.and_eq_true, beq_iff_eq] at hc
        omega
      · simp only [Bool.and_eq_true, decide_eq_true_eq] at hc
        omega
    by_cases he : q.ep ≤ q.to
    · rw [zA2 _ _ (by omega)]
    · have : (q.to + 1 - q.ep).toNat = 0 := by omega
      rw [this]
      rfl
  · rw [if_neg hc, if_neg hc]
theorem qS9 (r g : Bool) (p : Pm) (q : Ak) (h : q.to < (M.length : Int)) : xQ r g p (M ++ E).length q = xQ r g p M.length q := by
  unfold xQ
  have e1 : ¬ q.to ≥ ((M ++ E).length : Int) := by rw [List.length_append]; omega
  have e2 : ¬ q.to ≥ (M.length : Int) := by omega
  rw [if_neg e1, if_neg e2]
theorem AnsR.ext {p : Pm} {q : Ak} {A A' : An} (h0 : 0 ≤ q.to) (h : q.to < (M.length : Int)) (h1 : AnsR p M q A) (h2 : AnsR p (M ++ E) q A') : A' = A := by
  unfold AnsR at h1 h2
  rw [qS9 _ _ _ _ h] at h2
  split at h1
  · rename_i c; rw [if_pos c] at h2; rw [h1, h2]
  rename_i c1
  rw [if_neg c1] at h2
  split at h1
  case isFalse c => rw [if_neg c] at h2; rw [h1, h2]
  rename_i c2
  rw [if_pos c2] at h2
  split at h1
  · rename_i c; rw [if_pos c] at h2; rw [h1, h2]
  rename_i c3
  rw [if_neg c3] at h2
  have hw := sZ (by simpa using c3)
  split at h1
  · rename_i c; rw [if_pos c] at h2; rw [h1, h2, lO q.id h]
  rename_i c4
  rw [if_neg c4] at h2
  split at h1
  · rename_i c
    rw [if_pos c] at h2
    obtain ⟨n, wu, rfl⟩ := h1
    obtain ⟨n', wu', rfl⟩ := h2
    rw [List.take_append_of_le_length (by omega)] at wu'
    obtain rfl := wu'.uniq wu
    by_cases hn : n' = 0
    · rw [if_pos hn, if_pos hn]
    · rw [if_neg hn, if_neg hn]
      have := wu.1
      rw [List.length_take] at this
      rw [lO q.id (by omega)]
  rename_i c5
  rw [if_neg c5] at h2
  split at h1
  · rename_i c; rw [if_pos c] at h2; rw [h1, h2, lO q.id h]
  rename_i c6
  rw [if_neg c6] at h2
  split at h1
  · rename_i c
    rw [if_pos c] at h2
    obtain ⟨L, D, rfl⟩ := h1
    obtain ⟨L', D', rfl⟩ := h2
    rw [D'.uniq D fun id => dsel_ext q id h]
  rename_i c7
  rw [if_neg c7] at h2
  split at h1
  · rename_i c
    rw [if_pos c] at h2
    have hr : kA q.kd = true := by rw [c]; rfl
    rw [h1, h2, zE2 q h0 (hw.2.2.2.1 hr).1 h]
  · rename_i c
    rw [if_neg c] at h2
    rw [h1, h2, zB7 q h]
theorem AnsR.lens {h0 h : GH} {k j : Nat} {p : Pm} {ew : Value} {cs l : List Value} {ck : Int} {n : Nat} (x : IM h0 h k j p ew cs l M ck n) {q : Ak} {A : An} (r : AnsR p M q A) : A.its.length ≤ 1000000 ∧ A.evs.length ≤ 1000000 := by
  have hn4 := x.n4
  have htt := x.tt
  have has : ∀ id t, (vZ M id t).its = [] ∧ (vZ M id t).evs = [] := fun id t => by unfold vZ; split <;> exact ⟨rfl, rfl⟩
  unfold AnsR at r
  split at r
  · rw [r]; simp
  split at r
  case isFalse => rw [r]; simp
  split at r
  · rw [r]; simp
  rename_i c3
  have hw := sZ (by simpa using c3)
  split at r
  · rw [r, (has _ _).1, (has _ _).2]; simp
  split at r
  · obtain ⟨n, _, rfl⟩ := r
    split
    · simp
    · simp only [(has _ _).1, (has _ _).2]; simp
  split at r
  · rw [r]; simp only [(has _ _).1, (has _ _).2]; simp
  split at r
  · obtain ⟨L, D, rfl⟩ := r
    have := D.lens
    unfold fJ
    simp only [List.length_take, List.length_nil]
    omega
  split at r
  · rename_i c7
    have hr : kA q.kd = true := by rw [c7]; rfl
    have hf := (hw.2.2.2.1 hr)
    rw [r]
    unfold sY
    split
    · rename_i hc
      have hl : (gL M q.ep.toNat (q.to + 1 - q.ep).toNat).length ≤ 4096 := by
        by_cases he : q.ep ≤ q.to
        · have hep : 0 ≤ q.ep := by
            unfold jH at hc
            split at hc
            · simp only [Bool.and_eq_true, beq_iff_eq] at hc
              omega
            · simp only [Bool.and_eq_true, decide_eq_true_eq] at hc
              omega
          have h1 := qM7 M (q.to + 1 - q.ep).toNat q.ep.toNat (by omega)
          have h2 := tot_drop (M.map (·.2)) q.ep.toNat
          omega
        · have : (q.to + 1 - q.ep).toNat = 0 := by omega
          rw [this]
          simp [gL]
      split
      · simp only [List.length_drop, List.length_nil]
        omega
      · simp only [List.length_take, List.length_drop, List.length_nil]
        omega
    · simp
  · rw [r]
    have h1 := qB3 M q (uZ 0 (M.map (·.2)) q.id) 0
    have h2 := sG q.id (M.map (·.2)) 0
    unfold fJ
    have e : (fU M q).length = (sU M q (uZ 0 (M.map (·.2)) q.id) 0).length := rfl
    simp only [List.length_take, List.length_nil]
    omega
end
theorem OWNC.hi1 {P : Program} {t e es : Nat} {b : Bool} {h0 h : GH} {v : Value} {n : Nat} {cs : List Value} (o : OWNC es h0 h v n cs) (ht : P.underlying t = some (.slice e)) (he : yH P e = some (b, es)) {m : Nat} (hm : m ≤ n) :
    ∃ v', ∀ h', HS h h' → vO P t h' v none (some (.int .i64 (m : Int))) none = some v' ∧ jM h' es v' = some (m, cs.take (m * es)) := by
  rcases o with ⟨rfl, rfl, rfl⟩ | ⟨a, rfl, rfl, rfl⟩ | ⟨k, c, rfl, h1, h2, h3, h4, h5, h6⟩
  · obtain rfl : m = 0 := by omega
    exact ⟨.slice none 0 0, fun h' s => ⟨by simp [vO, ht, he, gD, fB, uB], by simp [jM]⟩⟩
  · obtain rfl : m = 0 := by omega
    exact ⟨.slice (some ⟨a.block, a.off, a.spot⟩) 0 1, fun h' s => ⟨by simp [vO, ht, he, gD, fB, uB], by simp [jM, xX]⟩⟩
  · have hb : 0 ≤ (m : Int) ∧ (m : Int) ≤ ((max n (c / 2) : Nat) : Int) := ⟨by omega, by omega⟩
    have hle : m * es ≤ n * es := Nat.mul_le_mul_right es hm
    refine ⟨.slice (some ⟨k, 0, none⟩) m c, fun h' s => ⟨?_, ?_⟩⟩
    · simp only [vO, ht, he, gD, uB, hb, and_self, if_true, fB]
      simp
    · simp only [jM]
      rw [vA (o := 0) (n := m * es) (cs := cs.take (m * es)) (s _ _ h5) (by rw [List.drop_zero]) (by rw [List.length_take, h4, Nat.min_eq_left hle])]
      rfl
theorem OWNC.lo1 {P : Program} {t e es : Nat} {b : Bool} {h0 h : GH} {v : Value} {n : Nat} {cs : List Value} (o : OWNC es h0 h v n cs) (ht : P.underlying t = some (.slice e)) (he : yH P e = some (b, es)) {m : Nat} (hm : m ≤ n) :
    ∃ v', ∀ h', HS h h' → vO P t h' v (some (.int .i64 (m : Int))) none none = some v' ∧ jM h' es v' = some (n - m, cs.drop (m * es)) := by
  rcases o with ⟨rfl, rfl, rfl⟩ | ⟨a, rfl, rfl, rfl⟩ | ⟨k, c, rfl, h1, h2, h3, h4, h5, h6⟩
  · obtain rfl : m = 0 := by omega
    exact ⟨.slice none 0 0, fun h' s => ⟨by simp [vO, ht, he, gD, fB, uB], by simp [jM]⟩⟩
  · obtain rfl : m = 0 := by omega
    exact ⟨.slice (some ⟨a.block, a.off, a.spot⟩) 0 1, fun h' s => ⟨by simp [vO, ht, he, gD, fB, uB], by simp [jM, xX]⟩⟩
  · have hb : 0 ≤ (m : Int) ∧ (m : Int) ≤ (n : Int) := ⟨by omega, by omega⟩
    have hle : m * es ≤ n * es := Nat.mul_le_mul_right es hm
    refine ⟨.slice (some ⟨k, m * es, none⟩) (n - m) (c - 2 * m), fun h' s => ⟨?_, ?_⟩⟩
    · have hok : esOk h' ⟨k, 0, none⟩ es = true := by unfold esOk; simp only [s _ _ h5]; simp
      have hmx : n ≤ max n (c / 2) := by omega
      have hmn : ((m : Int) ≤ (n : Int)) := by omega
      simp only [vO, ht, he, gD, fB, uB, hb, and_self, if_true, hok, or_true, Int.toNat_natCast, Nat.zero_add, hmx, hmn, true_and, Int.natCast_nonneg]
    · simp only [jM]
      rw [vA (o := m * es) (n := (n - m) * es) (cs := cs.drop (m * es)) (s _ _ h5) (by rw [Nat.sub_mul]; exact List.take_of_length_le (by rw [List.length_drop, h4]; omega)) (by rw [List.length_drop, h4, Nat.sub_mul])]
      rfl
structure J (h h' hx hr : GH) : Prop where
  sx : HS hx h'
  sr : HS hr h'
  bx : HS h hx
  br : HS h hr
  or : ∀ i, h' i ≠ none → hx i ≠ none ∨ hr i ≠ none
theorem fxRfA_42 : type_of% (And.intro gY (And.intro uN (And.intro wM (And.intro jZ (And.intro wZ rs42))))) := And.intro gY (And.intro uN (And.intro wM (And.intro jZ (And.intro wZ rs42))))
theorem qE8 : type_of% (And.intro gY (And.intro wT (And.intro uN (And.intro wM (And.intro jZ (And.intro uM (And.intro wZ rs94))))))) := And.intro gY (And.intro wT (And.intro uN (And.intro wM (And.intro jZ (And.intro uM (And.intro wZ rs94))))))
theorem yA : type_of% (And.intro gY (And.intro wT (And.intro wN (And.intro uN (And.intro wM (And.intro jZ (And.intro gH (And.intro uM (And.intro wZ (And.intro jV (And.intro lU rs120))))))))))) := And.intro gY (And.intro wT (And.intro wN (And.intro uN (And.intro wM (And.intro jZ (And.intro gH (And.intro uM (And.intro wZ (And.intro jV (And.intro lU rs120))))))))))
def xY : Nat → List (Nat × List Nat) × List Nat
  | 8 => ([(0, []), (1, []), (2, []), (4, []), (5, []), (6, []), (8, []), (3, [6]), (7, []), (9, []), (10, []), (11, [])], [0, 0, 2, 7, 0, 0, 32, 127, 0, 511, 1023, 2047])
  | _ => ([], [])
theorem sps_in {id : List UInt8} : ∀ (Ms : List (List Bnd)) (s e i : Nat) (b : List Bnd), s ≤ e → Ms[e - s]? = some b → i < b.length → (vI b i).1 = id → (e, i) ∈ uZ s Ms id
  | [], s, e, i, b, _, hb, _, _ => by simp at hb
  | c :: Ms, s, e, i, b, hs, hb, hi, hid => by
    simp only [uZ, List.mem_append]
    by_cases h : e = s
    · subst h
      rw [Nat.sub_self] at hb
      simp only [List.getElem?_cons_zero, Option.some.injEq] at hb
      subst hb
      exact .inl (newsp_iff.2 ⟨rfl, hi, hid⟩)
    · refine .inr (sps_in Ms (s + 1) e i b (by omega) ?_ hi hid)
      rw [show e - s = e - (s + 1) + 1 by omega, List.getElem?_cons_succ] at hb
      exact hb
theorem atI_hit {M : List (Int × List Bnd)} {id : List UInt8} {e i : Nat} {y : Int × List Bnd} (hy : M[e]? = some y) (hi : i < y.2.length) (hid : (vI y.2 i).1 = id) : dY M id (e : Int) = some (rC y.2 id, e) := by
  have hm : (e, i) ∈ uZ 0 (M.map (·.2)) id := sps_in _ 0 e i y.2 (Nat.zero_le _) (by rw [Nat.sub_zero, List.getElem?_map, hy]; rfl) hi hid
  have := atI_at hm
  rw [uJ hy] at this
  exact this
theorem atI_skip {M : List (Int × List Bnd)} {id : List UInt8} {e : Nat} {y : Int × List Bnd} (hy : M[e]? = some y) (hn : ∀ i, i < y.2.length → (vI y.2 i).1 ≠ id) : dY M id (e : Int) = dY M id ((e : Int) - 1) := by
  unfold dY qN7
  have : (uZ 0 (M.map (·.2)) id).filter (fun p => decide ((p.1 : Int) ≤ (e : Int))) = (uZ 0 (M.map (·.2)) id).filter (fun p => decide ((p.1 : Int) ≤ (e : Int) - 1)) := by
    refine List.filter_congr fun p hp => ?_
    obtain ⟨_, _, b, h1, h2, h3⟩ := jS hp
    have hne : p.1 ≠ e := fun q => by
      rw [q, Nat.sub_zero, List.getElem?_map, hy] at h1
      cases h1
      exact hn _ h2 h3
    rw [decide_eq_decide]
    omega
  rw [this]
theorem atI_low {M : List (Int × List Bnd)} {id : List UInt8} {t : Int} (ht : t ≤ 0) (z0 : jI M 0 = []) : dY M id t = none := by
  unfold dY
  rw [qS4]
  · rfl
  · intro p hp hle
    obtain ⟨_, h4, b, h1, h2, _⟩ := jS hp
    have h0 : p.1 = 0 := by omega
    rw [h0, Nat.sub_zero, List.getElem?_map] at h1
    obtain ⟨y, hy, e⟩ := Option.map_eq_some_iff.1 h1
    rw [uJ hy] at z0
    rw [← e, z0] at h2
    simp at h2
def OWX (h0 h : GH) (v : Value) (n : Nat) (cs : List Value) : Prop :=
  ∃ kb c tl, v = .slice (some ⟨kb, 0, none⟩) n c ∧ n ≠ 0 ∧ cs.length = n * 1 ∧ h kb = some ⟨cs, 1, true, tl⟩ ∧ h0 kb = none ∧ (tl = true ∧ c % 2 = 0 ∧ 2 * n ≤ c ∨ tl = false ∧ c = 2 * n + 1)
section
variable {h0 h h' : GH} {v : Value} {n : Nat} {cs : List Value}
theorem OWX.hs (o : OWX h0 h v n cs) (s : HS h h') : OWX h0 h' v n cs := by
  obtain ⟨kb, c, tl, h1, h2, h3, h4, h5⟩ := o
  exact ⟨kb, c, tl, h1, h2, h3, s _ _ h4, h5⟩
theorem OWX.hx (o : OWX h0 h v n cs) {k : Nat} {B : GB} (hk : h k = some B) (he : B.es ≠ 1) (x : HX k h h') : OWX h0 h' v n cs := by
  obtain ⟨kb, c, tl, h1, h2, h3, h4, h5⟩ := o
  exact ⟨kb, c, tl, h1, h2, h3, x _ _ (fun e => by rw [e, hk] at h4; cases h4; exact he rfl) h4, h5⟩
theorem OWX.form (o : OWX h0 h v n cs) : ∃ a c, v = .slice a n c := by
  obtain ⟨kb, c, tl, h1, _⟩ := o
  exact ⟨_, _, h1⟩
theorem OWX.len (o : OWX h0 h v n cs) : cs.length = n * 1 := by
  obtain ⟨kb, c, tl, _, _, h3, _⟩ := o
  exact h3
theorem OWX.at {P : Program} {t e : Nat} {b : Bool} (o : OWX h0 h v n cs) (ht : P.underlying t = some (.slice e)) (he : yH P e = some (b, 1)) {i : Nat} (hi : i < n) :
    ∃ k tl, jN P t v (i : Int) = some (.pointer (some ⟨k, i * 1, none⟩)) ∧ h k = some ⟨cs, 1, true, tl⟩ := by
  obtain ⟨kb, c, tl, rfl, h2, h3, h4, h5⟩ := o
  exact ⟨kb, tl, qD7 ht he hi, h4⟩
theorem OWX.by {h1 : GH} (key : ∀ i B, h i = some B → h0 i = none → h' i = some B ∧ h1 i = none) (o : OWX h0 h v n cs) : OWX h1 h' v n cs := by
  obtain ⟨kb, c, tl, h1, h2, h3, h4, h5, h6⟩ := o
  obtain ⟨z1, z2⟩ := key _ _ h4 h5
  exact ⟨kb, c, tl, h1, h2, h3, z1, z2, h6⟩
theorem OWX.weak {ha : GH} (s : HS ha h0) (o : OWX h0 h v n cs) : OWX ha h v n cs := by
  obtain ⟨kb, c, tl, h1, h2, h3, h4, h5, h6⟩ := o
  exact ⟨kb, c, tl, h1, h2, h3, h4, s.none_of h5, h6⟩
theorem OWX.mf1 (o : OWX h0 h v n cs) (f : MF h h') : OWX h0 h' v n cs := by
  obtain ⟨kb, c, tl, h1, h2, h3, h4, h5, h6⟩ := o
  exact ⟨kb, c, tl, h1, h2, h3, f _ _ h4 (.inr (.inl rfl)), h5, h6⟩
end
theorem tF {P : Program} {t u e by_ : Nat} {z : Value} {du : TypeDesc} {h0 h : GH} {s x : Value} {n : Nat} {cs xs : List Value} {K : Value → GH → Prop} (hel : rI P t = some (e, 1, by_, z)) (hu : P.underlying u = some du) (hni : rR du = true)
    (hs0 : HS h0 h) (o : OWX h0 h s n cs) (hsrc : jM h 1 x = some (1, xs)) (hxl : xs.length = 1) (hcell : xs.all zA = true) (hsz : (n + 1) * by_ ≤ 140737488355328) (hml : n + 1 ≤ maxLen)
    (k : ∀ v h', HS h0 h' → (∀ j B, h j = some B → (∀ tl, B ≠ ⟨cs, 1, true, tl⟩) → h' j = some B) → OWX h0 h' v (n + 1) (cs ++ xs) → K v h') : jO P t u h s x K := by
  obtain ⟨kb, c, tl, rfl, hn, hcl, hkb, hk0, ⟨rfl, hc1, hc2⟩ | ⟨rfl, rfl⟩⟩ := o
  · refine wJ hel hu hni hs0 (.inr (.inr ⟨kb, c, rfl, hc1, hc2, hn, hcl, hkb, hk0⟩)) hsrc (by omega) hcell hsz hml fun v h' s' fr o' => ?_
    refine k v h' s' (fun j B hj hne => fr j B hj fun _ kb' c' e _ hk e2 => ?_) ?_
    · rw [e2, hk] at hj
      cases hj
      exact hne true rfl
    · rcases o' with ⟨_, q, _⟩ | ⟨_, _, q, _⟩ | ⟨k2, c2, h1, h2, h3, h4, h5, h6, h7⟩
      · omega
      · omega
      · exact ⟨k2, c2, true, h1, h4, h5, h6, h7, .inl ⟨rfl, h2, h3⟩⟩
  · refine .inl ⟨du, e, 1, by_, z, 1, xs, hu, hni, hel, hsrc, e, 1, by_, z, hel, by omega, hcell, ?_⟩
    refine .inr ⟨by omega, hml, hsz, .inl ⟨cs, vA hkb (by rw [List.drop_zero]; exact List.take_of_length_le (by show cs.length ≤ _; omega)) hcl, by omega, by omega, fun k0 hk0' => ?_⟩⟩
    have hS := HS.new hk0' ⟨cs ++ xs, 1, true, true⟩
    exact k _ _ (hs0.trans hS) (fun j B hj _ => hS j B hj) ⟨k0, 2 * (n + 1), true, rfl, by omega, by rw [List.length_append, hcl, hxl]; omega, by rw [zV], hs0.none_of hk0', .inl ⟨rfl, by omega, by omega⟩⟩
structure RM (h0 h : GH) (k : Nat) (p : Pm) (tv bv : Value) (ts cs : List Value) (M : List (Int × List Bnd)) (ck : Int) : Prop where
  obj : h k = some ⟨[.int .i64 p.s, .int .i64 p.ht, .int .i64 p.mi, .int .i64 p.my, .int .i64 p.ch, .int .i64 p.ar, .int .i64 p.ca, .int .i64 p.pg, tv, bv, .int .i64 ck], 0, true, false⟩
  nk : h0 k = none
  tm : OWX h0 h tv M.length ts
  tms : ts = M.map fun x => .int .i64 x.1
  bat : OWX h0 h bv M.length cs
  bats : ∀ (e : Nat) x, M[e]? = some x → ∃ v, cs[e]? = some v ∧ Bat H0 h v x.2
  cu8 : cs.all wX = true
  bl : ∀ x ∈ M, qO0 x.2 ∧ x.2.length ≤ 32
  len : M.length ≤ 256
  pos : M.length ≠ 0
  z0 : jI M 0 = []
  tt : gZ (M.map (·.2)) ≤ 4096
  may : p.may = true
  ri : M.Pairwise (fun a b => a.1 ≤ b.1)
  rc : ∀ x ∈ M, x.1 ≤ ck
  di : ∀ x ∈ M, x.2 = [] ∨ jR p x.2 = 0
theorem RM.hs {h0 h h' : GH} {k : Nat} {p : Pm} {tv bv : Value} {ts cs : List Value} {M : List (Int × List Bnd)} {ck : Int} (x : RM h0 h k p tv bv ts cs M ck) (s : HS h h') : RM h0 h' k p tv bv ts cs M ck :=
  ⟨s _ _ x.obj, x.nk, x.tm.hs s, x.tms, x.bat.hs s, fun e b hb => by obtain ⟨v, h1, h2⟩ := x.bats e b hb; exact ⟨v, h1, h2.hs s⟩, x.cu8, x.bl, x.len, x.pos, x.z0, x.tt, x.may, x.ri, x.rc, x.di⟩
section
variable {h0 h : GH} {k : Nat} {p : Pm} {tv bv : Value} {ts cs : List Value} {M : List (Int × List Bnd)} {ck : Int}
theorem tD (N : Nat) (x : RM h0 h k p tv bv ts cs M ck) : GTri Try.prog N 42 [.pointer (some ⟨k, 0, none⟩)] h fun v h' => v = .int .i64 ((M.length - 1 : Nat) : Int) ∧ h' = h := by
  obtain ⟨a, c, e⟩ := x.tm.form
  subst e
  have ho := x.obj
  have hp := x.pos
  have hl := x.len
  have w : IntKind.i64.wrap ((M.length : Int) - 1) = ((M.length - 1 : Nat) : Int) := by rw [wrap64 (by omega) (by omega)]; omega
  refine wQ Try.func42 rfl gf42 ok42 (by simp [Try.ntmps42]) ?_
  refine qS ?_; repeat' (first | (with_reducible first | apply qH | apply qB) | ((first | (with_reducible apply qR) | (with_reducible first | apply qA | apply qP | apply qD | apply qE | apply qK) | ((with_reducible first | apply qQ | apply qI | apply qJ) <;> intro hb <;> (try simp only [hb]) <;> (try simp only [zF] at hb))) <;> try simp only [qV, qF, qL, qN, qG, qC, qM, reduceIte, seval, Int.cast_ofNat_Int, qY, qZ, fxRfA_42, gNil, qT ho kV, w]))
theorem qN9 : ∀ (B : List (List Bnd)) (i : Nat) (b : List Bnd), B[i]? = some b → gZ (B.take (i + 1)) = gZ (B.take i) + b.length
  | [], i, b, h => by simp at h
  | c :: B, 0, b, h => by simp at h; subst h; simp [gZ]
  | c :: B, i + 1, b, h => by
    rw [List.getElem?_cons_succ] at h
    have := qN9 B i b h
    simp only [List.take_succ_cons, gZ, List.map_cons, List.sum_cons] at *
    omega
theorem qG3 (N : Nat) (x : RM h0 h k p tv bv ts cs M ck) : GTri Try.prog N 94 [.pointer (some ⟨k, 0, none⟩)] h fun v h' => v = .int .i64 (gZ (M.map (·.2)) : Int) ∧ HS h h' := by
  obtain ⟨a, c, e⟩ := x.bat.form
  subst e
  have ho := x.obj
  have hl := x.len
  have ht := x.tt
  refine wQ Try.func94 rfl gf94 ok94 (by simp [Try.ntmps94]) ?_
  refine qS ?_; repeat' (first | (with_reducible first | apply qH | apply qB) | ((first | (with_reducible apply qR) | (with_reducible first | apply qA | apply qP | apply qD | apply qE | apply qK) | ((with_reducible first | apply qQ | apply qI | apply qJ) <;> intro hb <;> (try simp only [hb]) <;> (try simp only [zF] at hb))) <;> try simp only [qV, qF, qL, qN, qG, qC, qM, reduceIte, seval, Int.cast_ofNat_Int, qY, qZ, qE8, gNil, qT ho kX]))
  refine wI [2, 9, 10] (fun (i : Nat) => [(3, .int .i64 (gZ ((M.map (·.2)).take i) : Int)), (11, .int .i64 (i : Int))])
    (fun q i h' => M.length - i = q ∧ i ≤ M.length ∧ HS h h') M.length 0 (by simp [lk, gZ]) ⟨rfl, by omega, HS.refl _⟩ ?_
  rintro _ i h3 ⟨rfl, hi, s3⟩
  by_cases hil : i < M.length
  case neg =>
    obtain rfl : i = M.length := by omega
    have d3 : decide ((M.length : Int) < (M.length : Int)) = false := decide_eq_false (by omega)
    refine qS ?_; repeat' (first | (with_reducible first | apply qH | apply qB) | ((first | (with_reducible apply qR) | (with_reducible first | apply qA | apply qP | apply qD | apply qE | apply qK) | ((with_reducible first | apply qQ | apply qI | apply qJ) <;> intro hb <;> (try simp only [hb]) <;> (try simp only [zF] at hb))) <;> try simp only [qV, qF, qL, qN, qG, qC, qM, reduceIte, seval, Int.cast_ofNat_Int, qY, qZ, qE8, d3]))
    refine ⟨?_, s3⟩
    rw [List.take_of_length_le (by rw [List.length_map]; exact Nat.le_refl _)]
  have d3 : decide ((i : Int) < (M.length : Int)) = true := decide_eq_true (by omega)
  have wi : IntKind.i64.wrap ((i : Int) + 1) = ((i + 1 : Nat) : Int) := by rw [wrap64 (by omega) (by omega)]; omega
  obtain ⟨y, hy⟩ := vC hil
  have hyl := (x.bl y (List.mem_of_getElem? hy)).2
  obtain ⟨vb, hv, bt⟩ := x.bats i y hy
  obtain ⟨a4, c4, rfl, _⟩ := bt.rl.form
  obtain ⟨k5, tl5, i5, m5⟩ := (x.bat.hs s3).at (P := Try.prog) Try.underlying22 jX (i := i) hil
  have l5 : xM Try.prog 23 h3 (.pointer (some ⟨k5, i * 1, none⟩)) = some (.slice a4 y.2.length c4) := by rw [qT m5 jX, Nat.mul_one]; exact hv
  have h1 := qN9 (M.map (·.2)) i y.2 (by rw [List.getElem?_map, hy]; rfl)
  have h2 := tot_take (M.map (·.2)) (i + 1)
  have ws : IntKind.i64.wrap ((gZ ((M.map (·.2)).take i) : Int) + (y.2.length : Int)) = (gZ ((M.map (·.2)).take (i + 1)) : Int) := by rw [wrap64 (by omega) (by omega), h1]; omega
  refine qS ?_; repeat' (first | (with_reducible first | apply qH | apply qB) | ((first | (with_reducible apply qR) | (with_reducible first | apply qA | apply qP | apply qD | apply qE | apply qK) | ((with_reducible first | apply qQ | apply qI | apply qJ) <;> intro hb <;> (try simp only [hb]) <;> (try simp only [zF] at hb))) <;> try simp only [qV, qF, qL, qN, qG, qC, qM, reduceIte, seval, Int.cast_ofNat_Int, qY, qZ, qE8, d3, i5, l5, ws, wi]))
  exact ⟨_, i + 1, by omega, (by simp only [List.forall_mem_cons, List.not_mem_nil, false_implies, implies_true, List.map, List.cons_append, List.nil_append, lk, Nat.reduceEqDiff, reduceIte, and_true, true_and]), rfl, by omega, s3⟩
def AtT (h : GH) (v : Value) (M : List (Int × List Bnd)) (id : List UInt8) (e : Int) : Prop := match dY M id e with
  | none => v = .tuple #[.agg #[.slice none 0 0, .slice none 0 0, .int .i64 0], .bool false]
  | some (key, ep) => ∃ a b c d, v = .tuple #[.agg #[.slice a id.length b, .slice c key.length d, .int .i64 (ep : Int)], .bool true] ∧ RB h (.slice a id.length b) id ∧ RB h (.slice c key.length d) key
theorem zC7 {b : List Bnd} {id : List UInt8} {i : Nat} {z : Bnd} (hz : b[i]? = some z) (hid : z.1 = id) (hn : ∀ j, j < i → (vI b j).1 ≠ id) : rC b id = z.2 := by
  have : b.find? (fun z => z.1 == id) = some z := by
    rw [List.find?_eq_some_iff_getElem]
    have h1 := List.getElem?_eq_some_iff.1 hz
    refine ⟨by simpa using hid, i, h1.1, h1.2, fun j hj => ?_⟩
    have h2 := hn j hj
    have h3 := h1.1
    rw [dH (List.getElem?_eq_getElem (show j < b.length by omega))] at h2
    simpa using h2
  unfold rC
  rw [this]; rfl
theorem qN2 (N : Nat) (x : RM h0 h k p tv bv ts cs M ck) {a : Option Addr} {c : Nat} {id : List UInt8} (r : RB h (.slice a id.length c) id) (e : Int) (he : e < (M.length : Int)) :
    GTri Try.prog N 120 [.pointer (some ⟨k, 0, none⟩), .slice a id.length c, .int .i64 e] h fun v h' => AtT h' v M id e ∧ HS h h' := by
  obtain ⟨ab, cb, eb⟩ := x.bat.form
  subst eb
  have ho := x.obj
  have hML := x.len
  refine wQ Try.func120 rfl gf120 ok120 (by simp [Try.ntmps120]) ?_
  repeat' (first | (with_reducible first | apply qH | apply qB) | ((first | (with_reducible first | apply qA | apply qP | apply qD | apply qE | apply qK) | ((with_reducible first | apply qQ | apply qI | apply qJ | apply qW | apply qX) <;> intro hb <;> (try simp only [hb]) <;> (try simp only [zF] at hb)) | with_reducible refine qO xY mixed (by kernel_rfl) ?_) <;> try simp only [qV, qF, qL, qN, qG, qC, qM, reduceIte, seval, Int.cast_ofNat_Int, qY, qZ, qU, zR, zT, zU, yA, xY]))
  refine xW fun k1 h1 m1 s1 f1 n1 => ?_
  have k1k : k1 ≠ k := fun q => by subst q; rw [x.obj] at n1; cases n1
  refine qS ?_; repeat' (first | (with_reducible first | apply qH | apply qB) | ((first | (with_reducible apply qR) | (with_reducible first | apply qA | apply qP | apply qD | apply qE | apply qK) | ((with_reducible first | apply qQ | apply qI | apply qJ | apply qW | apply qX) <;> intro hb <;> (try simp only [hb]) <;> (try simp only [zF] at hb)) | with_reducible refine qO xY mixed (by kernel_rfl) ?_) <;> try simp only [qV, qF, qL, qN, qG, qC, qM, reduceIte, seval, Int.cast_ofNat_Int, qY, qZ, qU, zR, zT, zU, yA, xY]))
  refine wI [0, 1, 6] (fun (t : Int) => [(8, .int .i64 t)])
    (fun q t h' => t.toNat = q ∧ t ≤ e ∧ HS h1 h' ∧ dY M id e = dY M id t) e.toNat e (by simp [lk]) ⟨rfl, Int.le_refl _, HS.refl _, rfl⟩ ?_
  rintro _ t h2 ⟨rfl, hte, s2, ht⟩
  by_cases h0t : t > 0
  case neg =>
    have d1 : decide (t > 0) = false := decide_eq_false h0t
    refine qS ?_; repeat' (first | (with_reducible first | apply qH | apply qB) | ((first | (with_reducible apply qR) | (with_reducible first | apply qA | apply qP | apply qD | apply qE | apply qK) | ((with_reducible first | apply qQ | apply qI | apply qJ | apply qW | apply qX) <;> intro hb <;> (try simp only [hb]) <;> (try simp only [zF] at hb)) | with_reducible refine qO xY mixed (by kernel_rfl) ?_) <;> try simp only [qV, qF, qL, qN, qG, qC, qM, reduceIte, seval, Int.cast_ofNat_Int, qY, qZ, qU, zR, zT, zU, yA, xY, d1, xL, xT, vB, Shape.pl, List.all_cons, List.all_nil, zA]))
    refine zM (s2 _ _ m1) yY rfl (by decide) rfl rfl rfl fun h3 m3 f3 => ?_
    refine qS ?_; repeat' (first | (with_reducible first | apply qH | apply qB) | ((first | (with_reducible apply qR) | (with_reducible first | apply qA | apply qP | apply qD | apply qE | apply qK) | ((with_reducible first | apply qQ | apply qI | apply qJ | apply qW | apply qX) <;> intro hb <;> (try simp only [hb]) <;> (try simp only [zF] at hb)) | with_reducible refine qO xY mixed (by kernel_rfl) ?_) <;> try simp only [qV, qF, qL, qN, qG, qC, qM, reduceIte, seval, Int.cast_ofNat_Int, qY, qZ, qU, zR, zT, zU, yA, xY, qK9, Option.map_some, zI m3 yY rfl]))
    refine ⟨?_, (s1.trans s2).upd n1 f3⟩
    unfold AtT
    rw [ht, atI_low (by omega) x.z0]
  have d1 : decide (t > 0) = true := decide_eq_true h0t
  obtain ⟨m, rfl⟩ : ∃ m : Nat, t = (m : Int) := ⟨t.toNat, by omega⟩
  have hmM : m < M.length := by omega
  have wm : IntKind.i64.wrap ((m : Int) - 1) = (m : Int) - 1 := by rw [wrap64 (by omega) (by omega)]
  obtain ⟨y, hy⟩ := vC hmM
  obtain ⟨hys, hyl⟩ := x.bl y (List.mem_of_getElem? hy)
  obtain ⟨vb, hv, bt⟩ := x.bats m y hy
  obtain ⟨a4, c4, rfl, _⟩ := bt.rl.form
  have s12 := s1.trans s2
  have x2 := x.hs s12
  have ho2 := x2.obj
  obtain ⟨k5, tl5, i5, m5⟩ := x2.bat.at (P := Try.prog) Try.underlying22 jX (i := m) hmM
  have l5 : xM Try.prog 23 h2 (.pointer (some ⟨k5, m * 1, none⟩)) = some (.slice a4 y.2.length c4) := by rw [qT m5 jX, Nat.mul_one]; exact hv
  refine qS ?_; repeat' (first | (with_reducible first | apply qH | apply qB) | ((first | (with_reducible apply qR) | (with_reducible first | apply qA | apply qP | apply qD | apply qE | apply qK) | ((with_reducible first | apply qQ | apply qI | apply qJ | apply qW | apply qX) <;> intro hb <;> (try simp only [hb]) <;> (try simp only [zF] at hb)) | with_reducible refine qO xY mixed (by kernel_rfl) ?_) <;> try simp only [qV, qF, qL, qN, qG, qC, qM, reduceIte, seval, Int.cast_ofNat_Int, qY, qZ, qU, zR, zT, zU, yA, xY, d1, gNil, qT ho2 kX, i5, l5]))
  refine wI [0, 1, 6, 8, 12, 13, 16, 17, 18, 19, 20, 21, 22, 23] (fun (i : Nat) => [(24, .int .i64 (i : Int))])
    (fun q i h' => y.2.length - i = q ∧ i ≤ y.2.length ∧ HS h2 h' ∧ ∀ j, j < i → (vI y.2 j).1 ≠ id) y.2.length 0 (by simp [lk]) ⟨rfl, by omega, HS.refl _, fun j hj => by omega⟩ ?_
  rintro _ i h6 ⟨rfl, hi, s6, un⟩
  by_cases hib : i < y.2.length
  case neg =>
    obtain rfl : i = y.2.length := by omega
    have d3 : decide ((y.2.length : Int) < (y.2.length : Int)) = false := decide_eq_false (by omega)
    refine qS ?_; repeat' (first | (with_reducible first | apply qH | apply qB) | ((first | (with_reducible apply qR) | (with_reducible first | apply qA | apply qP | apply qD | apply qE | apply qK) | ((with_reducible first | apply qQ | apply qI | apply qJ | apply qW | apply qX) <;> intro hb <;> (try simp only [hb]) <;> (try simp only [zF] at hb)) | with_reducible refine qO xY mixed (by kernel_rfl) ?_) <;> try simp only [qV, qF, qL, qN, qG, qC, qM, reduceIte, seval, Int.cast_ofNat_Int, qY, qZ, qU, zR, zT, zU, yA, xY, d3, wm]))
    exact ⟨_, (m : Int) - 1, by omega, (by simp only [List.forall_mem_cons, List.not_mem_nil, false_implies, implies_true, List.map, List.cons_append, List.nil_append, lk, Nat.reduceEqDiff, reduceIte, and_true, true_and]), rfl, by omega, s2.trans s6, by rw [ht, atI_skip hy un]⟩
  have d3 : decide ((i : Int) < (y.2.length : Int)) = true := decide_eq_true (by omega)
  have wi : IntKind.i64.wrap ((i : Int) + 1) = ((i + 1 : Nat) : Int) := by rw [wrap64 (by omega) (by omega)]; omega
  obtain ⟨z, hz⟩ := vC hib
  have hby : vI y.2 i = z := by simp [vI, hz]
  have hzl := hys z (List.mem_of_getElem? hz)
  obtain ⟨ad, cs2, g1, g2, a', n', c', b', m', d', rfl, q1, q2⟩ := (bt.hs (s12.trans s6)).rl.at (P := Try.prog) Try.underlying23 uQ hz
  have l6 : xM Try.prog 99 h6 (.pointer (some ad)) = some (.agg #[.slice a' n' c', .slice b' m' d']) := by simp only [xM, uQ, g2]; rfl
  refine qS ?_; repeat' (first | (with_reducible first | apply qH | apply qB) | ((first | (with_reducible apply qR) | (with_reducible first | apply qA | apply qP | apply qD | apply qE | apply qK) | ((with_reducible first | apply qQ | apply qI | apply qJ | apply qW | apply qX) <;> intro hb <;> (try simp only [hb]) <;> (try simp only [zF] at hb)) | with_reducible refine qO xY mixed (by kernel_rfl) ?_) <;> try simp only [qV, qF, qL, qN, qG, qC, qM, reduceIte, seval, Int.cast_ofNat_Int, qY, qZ, qU, zR, zT, zU, yA, xY, d3, g1, l6]))
  refine xW fun k7 h7 m7 s7 f7 n7 => ?_
  refine qS ?_; repeat' (first | (with_reducible first | apply qH | apply qB) | ((first | (with_reducible apply qR) | (with_reducible first | apply qA | apply qP | apply qD | apply qE | apply qK) | ((with_reducible first | apply qQ | apply qI | apply qJ | apply qW | apply qX) <;> intro hb <;> (try simp only [hb]) <;> (try simp only [zF] at hb)) | with_reducible refine qO xY mixed (by kernel_rfl) ?_) <;> try simp only [qV, qF, qL, qN, qG, qC, qM, reduceIte, seval, Int.cast_ofNat_Int, qY, qZ, qU, zR, zT, zU, yA, xY]))
  refine zM m7 uQ rfl (by decide) rfl rfl rfl fun h8 m8 f8 => ?_
  have s8 : HS h6 h8 := (HS.refl h6).upd n7 (fun j hj => (f8 j hj).trans (f7 j hj))
  have s18 := (s12.trans s6).trans s8
  have cv1 := (q1.hs s8).conv Try.underlying24 Try.underlying5 Try.underlying9
  have cv2 := (r.hs s18).conv Try.underlying24 Try.underlying5 Try.underlying9
  by_cases hpq : z.1 = id
  case neg =>
    have e1 : (z.1 == id) = false := by simpa using hpq
    refine qS ?_; repeat' (first | (with_reducible first | apply qH | apply qB) | ((first | (with_reducible apply qR) | (with_reducible first | apply qA | apply qP | apply qD | apply qE | apply qK) | ((with_reducible first | apply qQ | apply qI | apply qJ | apply qW | apply qX) <;> intro hb <;> (try simp only [hb]) <;> (try simp only [zF] at hb)) | with_reducible refine qO xY mixed (by kernel_rfl) ?_) <;> try simp only [qV, qF, qL, qN, qG, qC, qM, reduceIte, seval, Int.cast_ofNat_Int, qY, qZ, qU, zR, zT, zU, yA, xY, qT m8 wK, cv1, cv2, sT, e1, wi]))
    refine ⟨_, i + 1, by omega, (by simp only [List.forall_mem_cons, List.not_mem_nil, false_implies, implies_true, List.map, List.cons_append, List.nil_append, lk, Nat.reduceEqDiff, reduceIte, and_true, true_and]), rfl, by omega, s6.trans s8, fun j hj => ?_⟩
    rcases Nat.lt_or_ge j i with h | h
    · exact un j h
    · obtain rfl : j = i := by omega
      rw [hby]; exact hpq
  have e1 : (z.1 == id) = true := by simpa using hpq
  have iz : (!(#[] : Array (Nat × Operand)).size == 0) = false := rfl
  refine qS ?_; repeat' (first | (with_reducible first | apply qH | apply qB) | ((first | (with_reducible apply qR) | (with_reducible first | apply qA | apply qP | apply qD | apply qE | apply qK) | ((with_reducible first | apply qQ | apply qI | apply qJ | apply qW | apply qX) <;> intro hb <;> (try simp only [hb]) <;> (try simp only [zF] at hb)) | with_reducible refine qO xY mixed (by kernel_rfl) ?_) <;> try simp only [qV, qF, qL, qN, qG, qC, qM, reduceIte, seval, Int.cast_ofNat_Int, qY, qZ, qU, zR, zT, zU, yA, xY, qT m8 wK, cv1, cv2, sT, e1, iz]))
  refine tH fG rfl ?_
  refine qS ?_; repeat' (first | (with_reducible first | apply qH | apply qB) | ((first | (with_reducible apply qR) | (with_reducible first | apply qA | apply qP | apply qD | apply qE | apply qK) | ((with_reducible first | apply qQ | apply qI | apply qJ | apply qW | apply qX) <;> intro hb <;> (try simp only [hb]) <;> (try simp only [zF] at hb)) | with_reducible refine qO xY mixed (by kernel_rfl) ?_) <;> try simp only [qV, qF, qL, qN, qG, qC, qM, reduceIte, seval, Int.cast_ofNat_Int, qY, qZ, qU, zR, zT, zU, yA, xY, iz, qT m8 wK]))
  refine tH fG rfl ?_
  refine qS ?_; repeat' (first | (with_reducible first | apply qH | apply qB) | ((first | (with_reducible apply qR) | (with_reducible first | apply qA | apply qP | apply qD | apply qE | apply qK) | ((with_reducible first | apply qQ | apply qI | apply qJ | apply qW | apply qX) <;> intro hb <;> (try simp only [hb]) <;> (try simp only [zF] at hb)) | with_reducible refine qO xY mixed (by kernel_rfl) ?_) <;> try simp only [qV, qF, qL, qN, qG, qC, qM, reduceIte, seval, Int.cast_ofNat_Int, qY, qZ, qU, zR, zT, zU, yA, xY, iz, qT m8 wK]))
  refine kN fG Try.underlying24 rfl (HS.refl h8) (OWN.zero _ _ _) (q1.hs s8).src (by simpa using hzl.1) fun v10 h10 s10 _ o10 => ?_
  rw [List.nil_append] at o10
  obtain ⟨a10, c10, rfl⟩ := o10.form
  have m10 := s10 _ _ m8
  refine qS ?_; repeat' (first | (with_reducible first | apply qH | apply qB) | ((first | (with_reducible apply qR) | (with_reducible first | apply qA | apply qP | apply qD | apply qE | apply qK) | ((with_reducible first | apply qQ | apply qI | apply qJ | apply qW | apply qX) <;> intro hb <;> (try simp only [hb]) <;> (try simp only [zF] at hb)) | with_reducible refine qO xY mixed (by kernel_rfl) ?_) <;> try simp only [qV, qF, qL, qN, qG, qC, qM, reduceIte, seval, Int.cast_ofNat_Int, qY, qZ, qU, zR, zT, zU, yA, xY, iz, qT m10 wK]))
  refine kN fG Try.underlying24 rfl (HS.refl h10) (OWN.zero _ _ _) ((q2.hs s8).hs s10).src (by simpa using hzl.2) fun v11 h11 s11 _ o11 => ?_
  rw [List.nil_append] at o11
  obtain ⟨a11, c11, rfl⟩ := o11.form
  have s111 := ((s12.trans s6).trans s8).trans (s10.trans s11)
  have m111 := ((s2.trans s6).trans s8) _ _ m1
  refine qS ?_; repeat' (first | (with_reducible first | apply qH | apply qB) | ((first | (with_reducible apply qR) | (with_reducible first | apply qA | apply qP | apply qD | apply qE | apply qK) | ((with_reducible first | apply qQ | apply qI | apply qJ | apply qW | apply qX) <;> intro hb <;> (try simp only [hb]) <;> (try simp only [zF] at hb)) | with_reducible refine qO xY mixed (by kernel_rfl) ?_) <;> try simp only [qV, qF, qL, qN, qG, qC, qM, reduceIte, seval, Int.cast_ofNat_Int, qY, qZ, qU, zR, zT, zU, yA, xY, xL, xT, vB, Shape.pl, List.all_cons, List.all_nil, zA, Bool.false_and, Bool.not_false]))
  refine zM (s11 _ _ (s10 _ _ m111)) yY rfl (by decide) rfl rfl rfl fun h12 m12 f12 => ?_
  refine qS ?_; repeat' (first | (with_reducible first | apply qH | apply qB) | ((first | (with_reducible apply qR) | (with_reducible first | apply qA | apply qP | apply qD | apply qE | apply qK) | ((with_reducible first | apply qQ | apply qI | apply qJ | apply qW | apply qX) <;> intro hb <;> (try simp only [hb]) <;> (try simp only [zF] at hb)) | with_reducible refine qO xY mixed (by kernel_rfl) ?_) <;> try simp only [qV, qF, qL, qN, qG, qC, qM, reduceIte, seval, Int.cast_ofNat_Int, qY, qZ, qU, zR, zT, zU, yA, xY, qK9, Option.map_some, zI m12 yY rfl]))
  have m1' := (s11 _ _ (s10 _ _ m111))
  have hx : HX k1 h11 h12 := fun j B n e => (f12 j n).trans e
  refine ⟨?_, s111.upd n1 f12⟩
  unfold AtT
  have hid : (vI y.2 i).1 = id := by rw [hby]; exact hpq
  rw [ht, atI_hit hy hib hid, zC7 hz hpq un]
  subst hpq
  exact ⟨_, _, _, _, rfl, (o10.rb.hs s11).hx m1' rfl hx, o11.rb.hx m1' rfl hx⟩
end
theorem vG : type_of% (And.intro wT (And.intro wN (And.intro wM (And.intro uM (And.intro wZ (And.intro jV (And.intro lU rs118))))))) := And.intro wT (And.intro wN (And.intro wM (And.intro uM (And.intro wZ (And.intro jV (And.intro lU rs118))))))
theorem kD : type_of% (And.intro wN (And.intro yX (And.intro yB (And.intro yV (And.intro jZ (And.intro gH (And.intro yL (And.intro wZ (And.intro uP (And.intro jV (And.intro dZ rs89))))))))))) := And.intro wN (And.intro yX (And.intro yB (And.intro yV (And.intro jZ (And.intro gH (And.intro yL (And.intro wZ (And.intro uP (And.intro jV (And.intro dZ rs89))))))))))
theorem chk80 {p : Pm} {b : List Bnd} (h0 : b ≠ []) (h1 : b.length ≤ 32) (h2 : ∀ x ∈ b, ¬ jC p x) (h3 : ¬ dis b) : jR p b = 80 := by
  have hn : jR p b ≠ 0 := fun e => h3 (mJ e).1
  unfold jR at hn ⊢
  rw [if_neg h0, if_neg (by omega), if_neg (fun ⟨x, hx, hq⟩ => h2 x hx hq)] at hn ⊢
  split
  · rfl
  · rename_i c
    rw [if_neg c] at hn
    exact absurd rfl hn
theorem qX0 (N : Nat) (h : GH) (p : Pm) {a : Option Addr} {c : Nat} {b : List Bnd} (rl : RL 2 Bd h (.slice a b.length c) b) (hbl : b.length ≤ 140737488355328) :
    GTri Try.prog N 118 [p.v, .slice a b.length c] h fun v h' => v = .int .i64 (jR p b) ∧ HS h h' := by
  obtain ⟨p0, p1, p2, p3, p4, p5, p6, p7⟩ := p
  refine wQ Try.func118 rfl gf118 ok118 (by simp [Try.ntmps118]) ?_
  repeat' (first | (with_reducible first | apply qH | apply qB) | ((first | (with_reducible first | apply qA | apply qP | apply qD | apply qE | apply qK) | ((with_reducible first | apply qQ | apply qI | apply qJ) <;> intro hb <;> (try simp only [hb]) <;> (try simp only [zF] at hb))) <;> try simp only [qV, qF, qL, qN, qG, qC, qM, reduceIte, seval, Int.cast_ofNat_Int, qY, qZ, vG, Pm.v]))
  refine wY rfl fun k1 h1 m1 s1 f1 n1 => ?_
  by_cases hbe : b = []
  · subst hbe
    have d0 : ((0 : Int) == 0) = true := rfl
    refine qS ?_; repeat' (first | (with_reducible first | apply qH | apply qB) | ((first | (with_reducible apply qR) | (with_reducible first | apply qA | apply qP | apply qD | apply qE | apply qK) | ((with_reducible first | apply qQ | apply qI | apply qJ) <;> intro hb <;> (try simp only [hb]) <;> (try simp only [zF] at hb))) <;> try simp only [qV, qF, qL, qN, qG, qC, qM, reduceIte, seval, Int.cast_ofNat_Int, qY, qZ, vG, List.length_nil, Int.cast_ofNat_Int, d0]))
    exact ⟨by simp [jR], s1⟩
  have d0 : ((b.length : Int) == 0) = false := by simpa using hbe
  by_cases h32 : 32 < b.length
  · have d1 : decide ((b.length : Int) > 32) = true := decide_eq_true (by omega)
    refine qS ?_; repeat' (first | (with_reducible first | apply qH | apply qB) | ((first | (with_reducible apply qR) | (with_reducible first | apply qA | apply qP | apply qD | apply qE | apply qK) | ((with_reducible first | apply qQ | apply qI | apply qJ) <;> intro hb <;> (try simp only [hb]) <;> (try simp only [zF] at hb))) <;> try simp only [qV, qF, qL, qN, qG, qC, qM, reduceIte, seval, Int.cast_ofNat_Int, qY, qZ, vG, d0, d1]))
    exact ⟨by simp [jR, hbe, h32], s1⟩
  have d1 : decide ((b.length : Int) > 32) = false := decide_eq_false (by omega)
  refine qS ?_; repeat' (first | (with_reducible first | apply qH | apply qB) | ((first | (with_reducible apply qR) | (with_reducible first | apply qA | apply qP | apply qD | apply qE | apply qK) | ((with_reducible first | apply qQ | apply qI | apply qJ) <;> intro hb <;> (try simp only [hb]) <;> (try simp only [zF] at hb))) <;> try simp only [qV, qF, qL, qN, qG, qC, qM, reduceIte, seval, Int.cast_ofNat_Int, qY, qZ, vG, d0, d1]))
  refine wI [1, 2, 17, 18] (fun (i : Nat) => [(19, .int .i64 (i : Int))]) (fun q i h' => b.length - i = q ∧ i ≤ b.length ∧ HS h1 h' ∧ ∀ x ∈ b.take i, ¬ jC ⟨p0, p1, p2, p3, p4, p5, p6, p7⟩ x) b.length 0 (by simp [lk]) ⟨rfl, by omega, HS.refl _, by simp⟩ ?_
  rintro _ i h3 ⟨rfl, hi, s3, nl⟩
  have m13 := s3 _ _ m1
  have s13 := s1.trans s3
  by_cases hib : i < b.length
  · have d3 : decide ((i : Int) < (b.length : Int)) = true := decide_eq_true (by omega)
    have wi : IntKind.i64.wrap ((i : Int) + 1) = ((i + 1 : Nat) : Int) := by rw [wrap64 (by omega) (by omega)]; omega
    obtain ⟨x, hx⟩ := vC hib
    obtain ⟨ad, cs2, g1, g2, a', n', c', b', m', d', rfl, q1, q2⟩ := (rl.bs s13).at (P := Try.prog) Try.underlying23 uQ hx
    have l1 : xM Try.prog 99 h3 (.pointer (some ad)) = some (.agg #[.slice a' n' c', .slice b' m' d']) := by simp only [xM, uQ, g2]; rfl
    have e1 := q1.len_eq
    have e2 := q2.len_eq
    subst e1
    subst e2
    refine qS ?_; repeat' (first | (with_reducible first | apply qH | apply qB) | ((first | (with_reducible apply qR) | (with_reducible first | apply qA | apply qP | apply qD | apply qE | apply qK) | ((with_reducible first | apply qQ | apply qI | apply qJ) <;> intro hb <;> (try simp only [hb]) <;> (try simp only [zF] at hb))) <;> try simp only [qV, qF, qL, qN, qG, qC, qM, reduceIte, seval, Int.cast_ofNat_Int, qY, qZ, vG, d3, g1, l1]))
    refine xW fun k7 h7 m7 s7 f7 n7 => ?_
    refine qS ?_; repeat' (first | (with_reducible first | apply qH | apply qB) | ((first | (with_reducible apply qR) | (with_reducible first | apply qA | apply qP | apply qD | apply qE | apply qK) | ((with_reducible first | apply qQ | apply qI | apply qJ) <;> intro hb <;> (try simp only [hb]) <;> (try simp only [zF] at hb))) <;> try simp only [qV, qF, qL, qN, qG, qC, qM, reduceIte, seval, Int.cast_ofNat_Int, qY, qZ, vG]))
    refine zM m7 uQ rfl (by decide) rfl rfl rfl fun h8 m8 f8 => ?_
    have s8 : HS h3 h8 := (HS.refl h3).upd n7 (fun j hj => (f8 j hj).trans (f7 j hj))
    have m18 := s8 _ _ m13
    by_cases h1' : (x.1.length : Int) > p2
    · have d4 : decide ((x.1.length : Int) > p2) = true := decide_eq_true h1'
      refine qS ?_; repeat' (first | (with_reducible first | apply qH | apply qB) | ((first | (with_reducible apply qR) | (with_reducible first | apply qA | apply qP | apply qD | apply qE | apply qK) | ((with_reducible first | apply qQ | apply qI | apply qJ) <;> intro hb <;> (try simp only [hb]) <;> (try simp only [zF] at hb))) <;> try simp only [qV, qF, qL, qN, qG, qC, qM, reduceIte, seval, Int.cast_ofNat_Int, qY, qZ, vG, d4, qT m8 wK, qT m18 wL, gPick]))
      exact ⟨by unfold jR; rw [if_neg hbe, if_neg h32, if_pos ⟨x, List.mem_of_getElem? hx, .inl h1'⟩], s13.trans s8⟩
    have d4 : decide ((x.1.length : Int) > p2) = false := decide_eq_false h1'
    by_cases h2' : (x.2.length : Int) > p3
    · have d5 : decide ((x.2.length : Int) > p3) = true := decide_eq_true h2'
      refine qS ?_; repeat' (first | (with_reducible first | apply qH | apply qB) | ((first | (with_reducible apply qR) | (with_reducible first | apply qA | apply qP | apply qD | apply qE | apply qK) | ((with_reducible first | apply qQ | apply qI | apply qJ) <;> intro hb <;> (try simp only [hb]) <;> (try simp only [zF] at hb))) <;> try simp only [qV, qF, qL, qN, qG, qC, qM, reduceIte, seval, Int.cast_ofNat_Int, qY, qZ, vG, d4, d5, qT m8 wK, qT m18 wL, gPick]))
      exact ⟨by unfold jR; rw [if_neg hbe, if_neg h32, if_pos ⟨x, List.mem_of_getElem? hx, .inr h2'⟩], s13.trans s8⟩
    have d5 : decide ((x.2.length : Int) > p3) = false := decide_eq_false h2'
    refine qS ?_; repeat' (first | (with_reducible first | apply qH | apply qB) | ((first | (with_reducible apply qR) | (with_reducible first | apply qA | apply qP | apply qD | apply qE | apply qK) | ((with_reducible first | apply qQ | apply qI | apply qJ) <;> intro hb <;> (try simp only [hb]) <;> (try simp only [zF] at hb))) <;> try simp only [qV, qF, qL, qN, qG, qC, qM, reduceIte, seval, Int.cast_ofNat_Int, qY, qZ, vG, d4, d5, wi, qT m8 wK, qT m18 wL, gPick]))
    refine ⟨_, i + 1, by omega, (by simp only [List.forall_mem_cons, List.not_mem_nil, false_implies, implies_true, List.map, List.cons_append, List.nil_append, lk, Nat.reduceEqDiff, reduceIte, and_true, true_and]), rfl, by omega, s3.trans s8, fun z hz => ?_⟩
    rw [List.take_add_one, hx] at hz
    rcases List.mem_append.1 hz with hz | hz
    · exact nl z hz
    · obtain rfl : z = x := by simpa using hz
      rintro (hq | hq)
      · exact h1' hq
      · exact h2' hq
  obtain rfl : i = b.length := by omega
  rw [List.take_length] at nl
  have hne : ¬ ∃ x ∈ b, jC ⟨p0, p1, p2, p3, p4, p5, p6, p7⟩ x := fun ⟨x, hx, hq⟩ => nl x hx hq
  have d3 : decide ((b.length : Int) < (b.length : Int)) = false := decide_eq_false (by omega)
  refine qS ?_; repeat' (first | (with_reducible first | apply qH | apply qB) | ((first | (with_reducible apply qR) | (with_reducible first | apply qA | apply qP | apply qD | apply qE | apply qK) | ((with_reducible first | apply qQ | apply qI | apply qJ) <;> intro hb <;> (try simp only [hb]) <;> (try simp only [zF] at hb))) <;> try simp only [qV, qF, qL, qN, qG, qC, qM, reduceIte, seval, Int.cast_ofNat_Int, qY, qZ, vG, d3]))
  refine wI [1, 38, 39] (fun (i : Nat) => [(40, .int .i64 (i : Int))]) (fun q i h' => b.length - i = q ∧ i ≤ b.length ∧ HS h3 h' ∧ ∀ (i' j : Nat) (p q : Bnd), j < i' → i' < i → b[i']? = some p → b[j]? = some q → p.1 ≠ q.1) b.length 0 (by simp [lk]) ⟨rfl, by omega, HS.refl _, fun i j p q _ h => by omega⟩ ?_
  clear hi d3
  rintro _ i h4 ⟨rfl, hi, s4, ds4⟩
  have s14 := s13.trans s4
  by_cases hib : i < b.length
  case neg =>
    obtain rfl : i = b.length := by omega
    have d3 : decide ((b.length : Int) < (b.length : Int)) = false := decide_eq_false (by omega)
    have hdis : dis b := dis_of fun i j p q hij hp hq => ds4 i j p q hij (List.getElem?_eq_some_iff.1 hp).1 hp hq
    refine qS ?_; repeat' (first | (with_reducible first | apply qH | apply qB) | ((first | (with_reducible apply qR) | (with_reducible first | apply qA | apply qP | apply qD | apply qE | apply qK) | ((with_reducible first | apply qQ | apply qI | apply qJ) <;> intro hb <;> (try simp only [hb]) <;> (try simp only [zF] at hb))) <;> try simp only [qV, qF, qL, qN, qG, qC, qM, reduceIte, seval, Int.cast_ofNat_Int, qY, qZ, vG, d3]))
    exact ⟨by rw [chk_ok hbe (by omega) nl hdis], s14⟩
  have d3 : decide ((i : Int) < (b.length : Int)) = true := decide_eq_true (by omega)
  have wi : IntKind.i64.wrap ((i : Int) + 1) = ((i + 1 : Nat) : Int) := by rw [wrap64 (by omega) (by omega)]; omega
  obtain ⟨x, hx⟩ := vC hib
  obtain ⟨ad, cs2, g1, g2, a', n', c', b', m', d', rfl, q1, q2⟩ := (rl.bs s14).at (P := Try.prog) Try.underlying23 uQ hx
  have l1 : xM Try.prog 99 h4 (.pointer (some ad)) = some (.agg #[.slice a' n' c', .slice b' m' d']) := by simp only [xM, uQ, g2]; rfl
  refine qS ?_; repeat' (first | (with_reducible first | apply qH | apply qB) | ((first | (with_reducible apply qR) | (with_reducible first | apply qA | apply qP | apply qD | apply qE | apply qK) | ((with_reducible first | apply qQ | apply qI | apply qJ) <;> intro hb <;> (try simp only [hb]) <;> (try simp only [zF] at hb))) <;> try simp only [qV, qF, qL, qN, qG, qC, qM, reduceIte, seval, Int.cast_ofNat_Int, qY, qZ, vG, d3, g1, l1]))
  refine xW fun k7 h7 m7 s7 f7 n7 => ?_
  refine qS ?_; repeat' (first | (with_reducible first | apply qH | apply qB) | ((first | (with_reducible apply qR) | (with_reducible first | apply qA | apply qP | apply qD | apply qE | apply qK) | ((with_reducible first | apply qQ | apply qI | apply qJ) <;> intro hb <;> (try simp only [hb]) <;> (try simp only [zF] at hb))) <;> try simp only [qV, qF, qL, qN, qG, qC, qM, reduceIte, seval, Int.cast_ofNat_Int, qY, qZ, vG]))
  refine zM m7 uQ rfl (by decide) rfl rfl rfl fun h8 m8 f8 => ?_
  have s8 : HS h4 h8 := (HS.refl h4).upd n7 (fun j hj => (f8 j hj).trans (f7 j hj))
  obtain ⟨a4, c4, e4, r4⟩ := ((rl.bs s14).bs s8).cut Try.underlying23 uQ (Nat.le_of_lt hib)
  have hlt : (b.take i).length = i := by rw [List.length_take]; omega
  refine qS ?_; repeat' (first | (with_reducible first | apply qH | apply qB) | ((first | (with_reducible apply qR) | (with_reducible first | apply qA | apply qP | apply qD | apply qE | apply qK) | ((with_reducible first | apply qQ | apply qI | apply qJ) <;> intro hb <;> (try simp only [hb]) <;> (try simp only [zF] at hb))) <;> try simp only [qV, qF, qL, qN, qG, qC, qM, reduceIte, seval, Int.cast_ofNat_Int, qY, qZ, vG, e4]))
  refine wI [1, 7, 8, 38, 39, 40, 41, 42, 43, 44, 45, 46, 47, 48] (fun (j : Nat) => [(49, .int .i64 (j : Int))])
    (fun q j h' => i - j = q ∧ j ≤ i ∧ HS h8 h' ∧ ∀ (z : Nat) q, z < j → b[z]? = some q → x.1 ≠ q.1) i 0 (by simp [lk]) ⟨rfl, by omega, HS.refl _, fun z q h => by omega⟩ ?_
  rintro _ j h9 ⟨rfl, hj, s9, un⟩
  have m9 := s9 _ _ m8
  by_cases hjn : j < i
  case neg =>
    obtain rfl : j = i := by omega
    have d4 : decide ((j : Int) < (j : Int)) = false := decide_eq_false (by omega)
    refine qS ?_; repeat' (first | (with_reducible first | apply qH | apply qB) | ((first | (with_reducible apply qR) | (with_reducible first | apply qA | apply qP | apply qD | apply qE | apply qK) | ((with_reducible first | apply qQ | apply qI | apply qJ) <;> intro hb <;> (try simp only [hb]) <;> (try simp only [zF] at hb))) <;> try simp only [qV, qF, qL, qN, qG, qC, qM, reduceIte, seval, Int.cast_ofNat_Int, qY, qZ, vG, d4, wi]))
    refine ⟨_, j + 1, by omega, (by simp only [List.forall_mem_cons, List.not_mem_nil, false_implies, implies_true, List.map, List.cons_append, List.nil_append, lk, Nat.reduceEqDiff, reduceIte, and_true, true_and]), rfl, by omega, (s4.trans s8).trans s9, fun i' z p' q hz hi' hp' hq => ?_⟩
    rcases Nat.lt_or_ge i' j with h | h
    · exact ds4 i' z p' q hz h hp' hq
    · obtain rfl : i' = j := by omega
      rw [hx] at hp'; cases hp'
      exact un z q hz hq
  have d4 : decide ((j : Int) < (i : Int)) = true := decide_eq_true (by omega)
  have wj : IntKind.i64.wrap ((j : Int) + 1) = ((j + 1 : Nat) : Int) := by rw [wrap64 (by omega) (by omega)]; omega
  obtain ⟨q, hq⟩ := vC (show j < b.length by omega)
  have hqt : (b.take i)[j]? = some q := by rw [List.getElem?_take, if_pos hjn]; exact hq
  have r49 : RL 2 Bd h9 (.slice a4 (b.take i).length c4) (b.take i) := by rw [hlt]; exact r4.bs s9
  obtain ⟨ad2, cs3, g3, g4, a'', n'', c'', b'', m'', d'', rfl, q3, q4⟩ := r49.at (P := Try.prog) Try.underlying23 uQ hqt
  have l2 : xM Try.prog 99 h9 (.pointer (some ad2)) = some (.agg #[.slice a'' n'' c'', .slice b'' m'' d'']) := by simp only [xM, uQ, g4]; rfl
  rw [hlt] at g3
  refine qS ?_; repeat' (first | (with_reducible first | apply qH | apply qB) | ((first | (with_reducible apply qR) | (with_reducible first | apply qA | apply qP | apply qD | apply qE | apply qK) | ((with_reducible first | apply qQ | apply qI | apply qJ) <;> intro hb <;> (try simp only [hb]) <;> (try simp only [zF] at hb))) <;> try simp only [qV, qF, qL, qN, qG, qC, qM, reduceIte, seval, Int.cast_ofNat_Int, qY, qZ, vG, d4, g3, l2]))
  refine xW fun k10 h10 m10 s10 f10 n10 => ?_
  refine qS ?_; repeat' (first | (with_reducible first | apply qH | apply qB) | ((first | (with_reducible apply qR) | (with_reducible first | apply qA | apply qP | apply qD | apply qE | apply qK) | ((with_reducible first | apply qQ | apply qI | apply qJ) <;> intro hb <;> (try simp only [hb]) <;> (try simp only [zF] at hb))) <;> try simp only [qV, qF, qL, qN, qG, qC, qM, reduceIte, seval, Int.cast_ofNat_Int, qY, qZ, vG]))
  refine zM m10 uQ rfl (by decide) rfl rfl rfl fun h11 m11 f11 => ?_
  have s11 : HS h9 h11 := (HS.refl h9).upd n10 (fun j hj => (f11 j hj).trans (f10 j hj))
  have m911 := s11 _ _ m9
  have cv1 := (((q1.hs s8).hs s9).hs s11).conv Try.underlying24 Try.underlying5 Try.underlying9
  have cv2 := (q3.hs s11).conv Try.underlying24 Try.underlying5 Try.underlying9
  by_cases hpq : x.1 = q.1
  · have e1 : (x.1 == q.1) = true := by simpa using hpq
    refine qS ?_; repeat' (first | (with_reducible first | apply qH | apply qB) | ((first | (with_reducible apply qR) | (with_reducible first | apply qA | apply qP | apply qD | apply qE | apply qK) | ((with_reducible first | apply qQ | apply qI | apply qJ) <;> intro hb <;> (try simp only [hb]) <;> (try simp only [zF] at hb))) <;> try simp only [qV, qF, qL, qN, qG, qC, qM, reduceIte, seval, Int.cast_ofNat_Int, qY, qZ, vG, qT m911 wK, qT m11 wK, cv1, cv2, sT, e1]))
    exact ⟨by rw [chk80 hbe (by omega) nl (qF5 hjn hx hq hpq)], ((s14.trans s8).trans s9).trans s11⟩
  · have e1 : (x.1 == q.1) = false := by simpa using hpq
    refine qS ?_; repeat' (first | (with_reducible first | apply qH | apply qB) | ((first | (with_reducible apply qR) | (with_reducible first | apply qA | apply qP | apply qD | apply qE | apply qK) | ((with_reducible first | apply qQ | apply qI | apply qJ) <;> intro hb <;> (try simp only [hb]) <;> (try simp only [zF] at hb))) <;> try simp only [qV, qF, qL, qN, qG, qC, qM, reduceIte, seval, Int.cast_ofNat_Int, qY, qZ, vG, qT m911 wK, qT m11 wK, cv1, cv2, sT, e1, wj]))
    refine ⟨_, j + 1, by omega, (by simp only [List.forall_mem_cons, List.not_mem_nil, false_implies, implies_true, List.map, List.cons_append, List.nil_append, lk, Nat.reduceEqDiff, reduceIte, and_true, true_and]), rfl, by omega, s9.trans s11, fun z q' hz hq' => ?_⟩
    rcases Nat.lt_or_ge z j with h | h
    · exact un z q' h hq'
    · obtain rfl : z = j := by omega
      rw [hq] at hq'; cases hq'
      exact hpq
section
variable {h0 h : GH} {k : Nat} {p : Pm} {tv bv : Value} {ts cs : List Value} {M : List (Int × List Bnd)} {ck : Int}
theorem qW8 (N : Nat) (x : RM h0 h k p tv bv ts cs M ck) {a : Option Addr} {c : Nat} {id : List UInt8} (r : RB h (.slice a id.length c) id) (e : Int) (he : e < (M.length : Int)) :
    GTri Try.prog N 89 [.pointer (some ⟨k, 0, none⟩), .slice a id.length c, .int .i64 e] h fun v h' => RAn h' v (vZ M id e) ∧ HS h h' := by
  refine wQ Try.func89 rfl gf89 ok89 (by simp [Try.ntmps89]) ?_
  repeat' (first | (with_reducible first | apply qH | apply qB) | ((first | (with_reducible first | apply qA | apply qP | apply qD | apply qE | apply qK) | ((with_reducible first | apply qQ | apply qI | apply qJ) <;> intro hb <;> (try simp only [hb]) <;> (try simp only [zF] at hb))) <;> try simp only [qV, qF, qL, qN, qG, qC, qM, reduceIte, seval, Int.cast_ofNat_Int, qY, qZ, kD]))
  refine xW fun k1 h1 m1 s1 f1 n1 => ?_
  refine qS ?_; repeat' (first | (with_reducible first | apply qH | apply qB) | ((first | (with_reducible apply qR) | (with_reducible first | apply qA | apply qP | apply qD | apply qE | apply qK) | ((with_reducible first | apply qQ | apply qI | apply qJ) <;> intro hb <;> (try simp only [hb]) <;> (try simp only [zF] at hb))) <;> try simp only [qV, qF, qL, qN, qG, qC, qM, reduceIte, seval, Int.cast_ofNat_Int, qY, qZ, kD]))
  refine (qN2 N (x.hs s1) (r.hs s1) e he).mono ?_
  rintro v2 h2 ⟨r2, s2⟩
  unfold AtT at r2
  unfold vZ
  cases hA : dY M id e with
  | none =>
    rw [hA] at r2
    simp only at r2
    subst r2
    refine qS ?_; repeat' (first | (with_reducible first | apply qH | apply qB) | ((first | (with_reducible apply qR) | (with_reducible first | apply qA | apply qP | apply qD | apply qE | apply qK) | ((with_reducible first | apply qQ | apply qI | apply qJ) <;> intro hb <;> (try simp only [hb]) <;> (try simp only [zF] at hb))) <;> try simp only [qV, qF, qL, qN, qG, qC, qM, reduceIte, seval, Int.cast_ofNat_Int, qY, qZ, kD]))
    refine xW fun k3 h3 m3 s3 f3 n3 => ?_
    refine qS ?_; repeat' (first | (with_reducible first | apply qH | apply qB) | ((first | (with_reducible apply qR) | (with_reducible first | apply qA | apply qP | apply qD | apply qE | apply qK) | ((with_reducible first | apply qQ | apply qI | apply qJ) <;> intro hb <;> (try simp only [hb]) <;> (try simp only [zF] at hb))) <;> try simp only [qV, qF, qL, qN, qG, qC, qM, reduceIte, seval, Int.cast_ofNat_Int, qY, qZ, kD]))
    refine zM m3 yY rfl (by decide) rfl rfl rfl fun h4 m4 f4 => ?_
    have s4 : HS h2 h4 := (HS.refl h2).upd n3 (fun j hj => (f4 j hj).trans (f3 j hj))
    refine qS ?_; repeat' (first | (with_reducible first | apply qH | apply qB) | ((first | (with_reducible apply qR) | (with_reducible first | apply qA | apply qP | apply qD | apply qE | apply qK) | ((with_reducible first | apply qQ | apply qI | apply qJ) <;> intro hb <;> (try simp only [hb]) <;> (try simp only [zF] at hb))) <;> try simp only [qV, qF, qL, qN, qG, qC, qM, reduceIte, seval, Int.cast_ofNat_Int, qY, qZ, kD, qT m4 wK, qT m4 wL, xL, xT, vB, Shape.pl, List.all_cons, List.all_nil, zA]))
    refine zM (s4 _ _ (s2 _ _ m1)) xG rfl (by decide) rfl rfl rfl fun h5 m5 f5 => ?_
    refine qS ?_; repeat' (first | (with_reducible first | apply qH | apply qB) | ((first | (with_reducible apply qR) | (with_reducible first | apply qA | apply qP | apply qD | apply qE | apply qK) | ((with_reducible first | apply qQ | apply qI | apply qJ) <;> intro hb <;> (try simp only [hb]) <;> (try simp only [zF] at hb))) <;> try simp only [qV, qF, qL, qN, qG, qC, qM, reduceIte, seval, Int.cast_ofNat_Int, qY, qZ, kD, zI m5 xG rfl]))
    exact ⟨RAn.zero h5 0 0, ((s1.trans s2).trans s4).upd n1 f5⟩
  | some q =>
    obtain ⟨key, ep⟩ := q
    rw [hA] at r2
    simp only at r2
    obtain ⟨a3, b3, c3, d3, rfl, r3, r4⟩ := r2
    refine qS ?_; repeat' (first | (with_reducible first | apply qH | apply qB) | ((first | (with_reducible apply qR) | (with_reducible first | apply qA | apply qP | apply qD | apply qE | apply qK) | ((with_reducible first | apply qQ | apply qI | apply qJ) <;> intro hb <;> (try simp only [hb]) <;> (try simp only [zF] at hb))) <;> try simp only [qV, qF, qL, qN, qG, qC, qM, reduceIte, seval, Int.cast_ofNat_Int, qY, qZ, kD]))
    refine xW fun k3 h3 m3 s3 f3 n3 => ?_
    refine qS ?_; repeat' (first | (with_reducible first | apply qH | apply qB) | ((first | (with_reducible apply qR) | (with_reducible first | apply qA | apply qP | apply qD | apply qE | apply qK) | ((with_reducible first | apply qQ | apply qI | apply qJ) <;> intro hb <;> (try simp only [hb]) <;> (try simp only [zF] at hb))) <;> try simp only [qV, qF, qL, qN, qG, qC, qM, reduceIte, seval, Int.cast_ofNat_Int, qY, qZ, kD]))
    refine zM m3 yY rfl (by decide) rfl rfl rfl fun h4 m4 f4 => ?_
    have s4 : HS h2 h4 := (HS.refl h2).upd n3 (fun j hj => (f4 j hj).trans (f3 j hj))
    have m14 := s4 _ _ (s2 _ _ m1)
    refine qS ?_; repeat' (first | (with_reducible first | apply qH | apply qB) | ((first | (with_reducible apply qR) | (with_reducible first | apply qA | apply qP | apply qD | apply qE | apply qK) | ((with_reducible first | apply qQ | apply qI | apply qJ) <;> intro hb <;> (try simp only [hb]) <;> (try simp only [zF] at hb))) <;> try simp only [qV, qF, qL, qN, qG, qC, qM, reduceIte, seval, Int.cast_ofNat_Int, qY, qZ, kD, qT m4 wK, qT m4 wL, xL, xT, vB, Shape.pl, List.all_cons, List.all_nil, zA]))
    refine zM m14 xG rfl (by decide) rfl rfl rfl fun h5 m5 f5 => ?_
    refine qS ?_; repeat' (first | (with_reducible first | apply qH | apply qB) | ((first | (with_reducible apply qR) | (with_reducible first | apply qA | apply qP | apply qD | apply qE | apply qK) | ((with_reducible first | apply qQ | apply qI | apply qJ) <;> intro hb <;> (try simp only [hb]) <;> (try simp only [zF] at hb))) <;> try simp only [qV, qF, qL, qN, qG, qC, qM, reduceIte, seval, Int.cast_ofNat_Int, qY, qZ, kD, zI m5 xG rfl]))
    exact ⟨⟨c3, d3, none, 0, none, 0, rfl, (r4.hs s4).hx m14 rfl (fun j B n e => (f5 j n).trans e), RL.nil h5, RL.nil h5⟩, ((s1.trans s2).trans s4).upd n1 f5⟩
end
theorem qQ6 : type_of% (And.intro gY (And.intro wT (And.intro wN (And.intro uN (And.intro yW (And.intro wM (And.intro jZ (And.intro wZ (And.intro uP (And.intro jV (And.intro dZ rs84))))))))))) := And.intro gY (And.intro wT (And.intro wN (And.intro uN (And.intro yW (And.intro wM (And.intro jZ (And.intro wZ (And.intro uP (And.intro jV (And.intro dZ rs84))))))))))
def pO : Nat → List (Nat × List Nat) × List Nat
  | 3 => ([(0, []), (1, []), (2, []), (3, []), (4, []), (5, []), (6, []), (7, []), (8, []), (9, []), (10, []), (11, []), (12, []), (13, []), (14, []), (15, []), (16, []), (17, []), (18, []), (19, []), (20, []), (21, []), (22, [])], [0, 1, 3, 0, 8, 24, 56, 120, 255, 511, 1023, 2047, 4095, 8191, 16383, 32767, 65535, 131071, 262143, 524287, 1048575, 2097151, 4194303])
  | 5 => ([(0, []), (1, []), (2, []), (3, [1]), (4, []), (5, [])], [0, 1, 0, 4, 15, 31])
  | 9 => ([(0, []), (1, []), (2, []), (3, []), (4, []), (5, []), (6, []), (7, []), (8, []), (9, []), (10, []), (11, []), (12, []), (13, []), (14, []), (15, []), (16, [])], [0, 1, 3, 7, 15, 31, 63, 127, 63, 319, 831, 1855, 3903, 8191, 16383, 32767, 65535])
  | _ => ([], [])
theorem uI : type_of% (And.intro gY (And.intro wT (And.intro wN (And.intro yX (And.intro yB (And.intro uN (And.intro yW (And.intro wM (And.intro yV (And.intro jZ (And.intro yL (And.intro wZ (And.intro uP (And.intro jV (And.intro dZ rs85))))))))))))))) := And.intro gY (And.intro wT (And.intro wN (And.intro yX (And.intro yB (And.intro uN (And.intro yW (And.intro wM (And.intro yV (And.intro jZ (And.intro yL (And.intro wZ (And.intro uP (And.intro jV (And.intro dZ rs85))))))))))))))
def wW : Nat → List (Nat × List Nat) × List Nat
  | 1 => ([(0, []), (1, []), (2, []), (3, []), (4, []), (5, []), (6, []), (7, []), (8, [])], [0, 1, 0, 4, 12, 28, 60, 124, 255])
  | 7 => ([(0, []), (1, []), (2, []), (3, []), (4, []), (5, []), (6, []), (7, []), (8, []), (9, []), (10, []), (11, []), (12, []), (13, []), (14, []), (15, [])], [0, 0, 2, 7, 15, 31, 63, 127, 255, 31, 1023, 2047, 31, 4127, 16383, 32767])
  | _ => ([], [])
section
variable {h0 h : GH} {k : Nat} {p : Pm} {tv bv : Value} {ts cs : List Value} {M : List (Int × List Bnd)} {ck : Int}
theorem c_rWrong (N : Nat) (x : RM h0 h k p tv bv ts cs M ck) {a : Option Addr} {c : Nat} (q : Ak) (hid : q.id.length ≤ 140737488355328)
    {c4 c5 c6 c7 c9 : Value} (hc : [c4, c5, c6, c7, c9].all zA = true) :
    GTri Try.prog N 84 [.pointer (some ⟨k, 0, none⟩), .agg #[.int .i64 q.kd, .slice a q.id.length c, .int .i64 q.fr, .int .i64 q.to, c4, c5, c6, c7, .int .i64 q.lm, c9]] h fun v h' => v = .int .i64 (xQ (kA q.kd) (kY q.kd) p M.length q) ∧ HS h h' := by
  have cases5 : ∃ b6 b7 b10 b5 : Bool, (q.kd == 6) = b6 ∧ (q.kd == 7) = b7 ∧ (q.kd == 10) = b10 ∧ (q.kd == 5) = b5 ∧ kA q.kd = (b6 || b7 || b10 || b5) ∧ kY q.kd = (b6 || b7 || b10) ∧
      ((b6 = true ∧ b7 = false ∧ b10 = false ∧ b5 = false) ∨ (b6 = false ∧ b7 = true ∧ b10 = false ∧ b5 = false) ∨ (b6 = false ∧ b7 = false ∧ b10 = true ∧ b5 = false) ∨ (b6 = false ∧ b7 = false ∧ b10 = false ∧ b5 = true) ∨ (b6 = false ∧ b7 = false ∧ b10 = false ∧ b5 = false)) := by
    refine ⟨_, _, _, _, rfl, rfl, rfl, rfl, rfl, rfl, ?_⟩
    by_cases h6 : q.kd = 6
    · left; simp [h6]
    by_cases h7 : q.kd = 7
    · right; left; simp [h7]
    by_cases h10 : q.kd = 10
    · right; right; left; simp [h10]
    by_cases h5 : q.kd = 5
    · right; right; right; left; simp [h5]
    · right; right; right; right; simp [h6, h7, h10, h5]
  obtain ⟨b6, b7, b10, b5, e6, e7, e10, e5, hR, hG, hb⟩ := cases5
  rw [hR, hG]
  have hpos := x.pos
  refine wQ Try.func84 rfl gf84 ok84 (by simp [Try.ntmps84]) ?_
  repeat' (first | (with_reducible first | apply qH | apply qB) | ((first | (with_reducible first | apply qA | apply qP | apply qD | apply qE | apply qK) | ((with_reducible first | apply qQ | apply qI | apply qJ | apply qW | apply qX) <;> intro hb <;> (try simp only [hb]) <;> (try simp only [zF] at hb)) | with_reducible refine qO pO mixed (by kernel_rfl) ?_) <;> try simp only [qV, qF, qL, qN, qG, qC, qM, reduceIte, seval, Int.cast_ofNat_Int, qY, qZ, qU, zR, zT, zU, qQ6, pO]))
  refine wY (by simpa [zA] using hc) fun k1 h1 m1 s1 f1 n1 => ?_
  have x1 := x.hs s1
  have ho := x1.obj
  have d4' : decide (q.to > ((M.length - 1 : Nat) : Int)) = decide (q.to ≥ (M.length : Int)) := by rw [decide_eq_decide]; omega
  rcases hb with ⟨rfl, rfl, rfl, rfl⟩ | ⟨rfl, rfl, rfl, rfl⟩ | ⟨rfl, rfl, rfl, rfl⟩ | ⟨rfl, rfl, rfl, rfl⟩ | ⟨rfl, rfl, rfl, rfl⟩
  all_goals
    refine qS ?_; repeat' (first | (with_reducible first | apply qH | apply qB) | ((first | (with_reducible apply qR) | (with_reducible first | apply qA | apply qP | apply qD | apply qE | apply qK) | ((with_reducible first | apply qQ | apply qI | apply qJ | apply qW | apply qX) <;> intro hb <;> (try simp only [hb]) <;> (try simp only [zF] at hb)) | with_reducible refine qO pO mixed (by kernel_rfl) ?_ | ((refine GTri.mono (tD _ x1) ?_); rintro _ _ ⟨rfl, hh9⟩; replace hh9 := hh9.symm; subst hh9)) <;> try simp only [qV, qF, qL, qN, qG, qC, qM, reduceIte, seval, Int.cast_ofNat_Int, qY, qZ, qU, zR, zT, zU, qQ6, pO, gNil, qT m1 wL, qT m1 wK, qT ho wL, e6, e7, e10, e5, gPick, Bool.or_true, Bool.or_false, Bool.true_or, Bool.false_or]))
  all_goals
    refine ⟨?_, s1⟩
    unfold xQ
    simp only [true_and, Bool.false_eq_true, false_and, or_false, if_false]
    repeat' split
    all_goals first
      | rfl
      | (exfalso; omega)
theorem RM.rlt (x : RM h0 h k p tv bv ts cs M ck) {e : Nat} {y : Int × List Bnd} (hy : M[e]? = some y) : ∃ a c k5, tv = .slice a M.length c ∧ jN Try.prog 83 tv (e : Int) = some (.pointer (some ⟨k5, e, none⟩)) ∧ xM Try.prog 3 h (.pointer (some ⟨k5, e, none⟩)) = some (.int .i64 y.1) := by
  obtain ⟨a, c, e1⟩ := x.tm.form
  subst e1
  obtain ⟨k5, tl5, i5, m5⟩ := x.tm.at (P := Try.prog) Try.underlying83 wL (i := e) (List.getElem?_eq_some_iff.1 hy).1
  refine ⟨a, c, k5, rfl, by rw [i5, Nat.mul_one], ?_⟩
  rw [qT m5 wL, x.tms, List.getElem?_map, hy]; rfl
theorem WU.take_le (ri : M.Pairwise (fun a b => a.1 ≤ b.1)) {i : Nat} {y : Int × List Bnd} (hy : M[i]? = some y) {t : Int} (hle : y.1 ≤ t) : WU (M.take (i + 1)) t (i + 1) := by
  have hi := List.getElem?_eq_some_iff.1 hy
  have hi1 := hi.1
  refine ⟨by rw [List.length_take]; omega, fun j z hz => ?_⟩
  rw [List.getElem?_take] at hz
  split at hz
  · rename_i hj
    refine ⟨fun _ => ?_, fun _ => hj⟩
    have hz' := List.getElem?_eq_some_iff.1 hz
    by_cases e : j = i
    · subst e; rw [hy] at hz; cases hz; exact hle
    · have := List.pairwise_iff_getElem.1 ri j i hz'.1 hi.1 (by omega)
      rw [hz'.2, hi.2] at this
      omega
  · cases hz
theorem WU.take_gt {i : Nat} {y : Int × List Bnd} (hy : M[i]? = some y) {t : Int} (hgt : t < y.1) {n : Nat} (w : WU (M.take i) t n) : WU (M.take (i + 1)) t n := by
  have hi1 := (List.getElem?_eq_some_iff.1 hy).1
  obtain ⟨w1, w2⟩ := w
  rw [List.length_take] at w1
  refine ⟨by rw [List.length_take]; omega, fun j z hz => ?_⟩
  rw [List.getElem?_take] at hz
  split at hz
  · rename_i hj
    by_cases e : j = i
    · subst e; rw [hy] at hz; cases hz; omega
    · exact w2 j z (by rw [List.getElem?_take, if_pos (by omega)]; exact hz)
  · cases hz
theorem c_rWhen (N : Nat) (x : RM h0 h k p tv bv ts cs M ck) {a : Option Addr} {c : Nat} (q : Ak) (r : RB h (.slice a q.id.length c) q.id) (ht0 : 0 ≤ q.to) (ht1 : q.to < (M.length : Int))
    {c0 c2 c5 c6 c7 c8 c9 : Value} (hc : [c0, c2, c5, c6, c7, c8, c9].all zA = true) :
    GTri Try.prog N 85 [.pointer (some ⟨k, 0, none⟩), .agg #[c0, .slice a q.id.length c, c2, .int .i64 q.to, .int .i64 q.tm, c5, c6, c7, c8, c9]] h fun v h' => (∃ A, qS5 M q A ∧ RAn h' v A) ∧ HS h h' := by
  have hML := x.len
  have hpos := x.pos
  obtain ⟨to, hto⟩ : ∃ to : Nat, q.to = (to : Int) := ⟨q.to.toNat, by omega⟩
  have htn : q.to.toNat = to := by omega
  have pw := List.pairwise_iff_getElem.1 x.ri
  obtain ⟨y0, hy0⟩ := vC (show 0 < M.length by omega)
  refine wQ Try.func85 rfl gf85 ok85 (by simp [Try.ntmps85]) ?_
  repeat' (first | (with_reducible first | apply qH | apply qB) | ((first | (with_reducible first | apply qA | apply qP | apply qD | apply qE | apply qK) | ((with_reducible first | apply qQ | apply qI | apply qJ | apply qW | apply qX) <;> intro hb <;> (try simp only [hb]) <;> (try simp only [zF] at hb)) | with_reducible refine qO wW mixed (by kernel_rfl) ?_) <;> try simp only [qV, qF, qL, qN, qG, qC, qM, reduceIte, seval, Int.cast_ofNat_Int, qY, qZ, qU, zR, zT, zU, uI, wW]))
  refine wY (by simpa [zA] using hc) fun k1 h1 m1 s1 f1 n1 => ?_
  refine qS ?_; repeat' (first | (with_reducible first | apply qH | apply qB) | ((first | (with_reducible apply qR) | (with_reducible first | apply qA | apply qP | apply qD | apply qE | apply qK) | ((with_reducible first | apply qQ | apply qI | apply qJ | apply qW | apply qX) <;> intro hb <;> (try simp only [hb]) <;> (try simp only [zF] at hb)) | with_reducible refine qO wW mixed (by kernel_rfl) ?_) <;> try simp only [qV, qF, qL, qN, qG, qC, qM, reduceIte, seval, Int.cast_ofNat_Int, qY, qZ, qU, zR, zT, zU, uI, wW]))
  refine xW fun k2 h2 m2 s2 f2 n2 => ?_
  replace m1 := s2 _ _ m1
  have s12 := s1.trans s2
  have n2' := s1.none_of n2
  have x2 := x.hs s12
  have ho := x2.obj
  obtain ⟨at', ct', k5, et, g5, l5⟩ := x2.rlt hy0
  subst et
  rw [Int.natCast_zero] at g5
  by_cases hearly : q.tm < y0.1
  · have d1 : decide (q.tm < y0.1) = true := decide_eq_true hearly
    refine qS ?_; repeat' (first | (with_reducible first | apply qH | apply qB) | ((first | (with_reducible apply qR) | (with_reducible first | apply qA | apply qP | apply qD | apply qE | apply qK) | ((with_reducible first | apply qQ | apply qI | apply qJ | apply qW | apply qX) <;> intro hb <;> (try simp only [hb]) <;> (try simp only [zF] at hb)) | with_reducible refine qO wW mixed (by kernel_rfl) ?_) <;> try simp only [qV, qF, qL, qN, qG, qC, qM, reduceIte, seval, Int.cast_ofNat_Int, qY, qZ, qU, zR, zT, zU, uI, wW, gNil, qT m1 wL, qT ho kV, g5, l5, d1, xL, xT, vB, Shape.pl, List.all_cons, List.all_nil, zA]))
    refine zM m2 xG rfl (by decide) rfl rfl rfl fun h3 m3 f3 => ?_
    refine qS ?_; repeat' (first | (with_reducible first | apply qH | apply qB) | ((first | (with_reducible apply qR) | (with_reducible first | apply qA | apply qP | apply qD | apply qE | apply qK) | ((with_reducible first | apply qQ | apply qI | apply qJ | apply qW | apply qX) <;> intro hb <;> (try simp only [hb]) <;> (try simp only [zF] at hb)) | with_reducible refine qO wW mixed (by kernel_rfl) ?_) <;> try simp only [qV, qF, qL, qN, qG, qC, qM, reduceIte, seval, Int.cast_ofNat_Int, qY, qZ, qU, zR, zT, zU, uI, wW, zI m3 xG rfl]))
    refine ⟨⟨_, ⟨0, ⟨by omega, fun i z hz => ⟨fun h => by omega, fun h => ?_⟩⟩, by rw [if_pos rfl]⟩, RAn.zero h3 _ 0⟩, s12.upd n2' f3⟩
    rw [List.getElem?_take] at hz
    split at hz
    · have hz' := List.getElem?_eq_some_iff.1 hz
      have hy' := List.getElem?_eq_some_iff.1 hy0
      by_cases e : i = 0
      · subst e; rw [hy0] at hz; cases hz; omega
      · have := pw 0 i hy'.1 hz'.1 (by omega)
        rw [hz'.2, hy'.2] at this
        omega
    · cases hz
  have d1 : decide (q.tm < y0.1) = false := decide_eq_false hearly
  refine qS ?_; repeat' (first | (with_reducible first | apply qH | apply qB) | ((first | (with_reducible apply qR) | (with_reducible first | apply qA | apply qP | apply qD | apply qE | apply qK) | ((with_reducible first | apply qQ | apply qI | apply qJ | apply qW | apply qX) <;> intro hb <;> (try simp only [hb]) <;> (try simp only [zF] at hb)) | with_reducible refine qO wW mixed (by kernel_rfl) ?_) <;> try simp only [qV, qF, qL, qN, qG, qC, qM, reduceIte, seval, Int.cast_ofNat_Int, qY, qZ, qU, zR, zT, zU, uI, wW, gNil, qT m1 wL, qT ho kV, g5, l5, d1]))
  refine wI [0, 3, 4, 22] (fun (y : Nat × Nat) => [(5, .int .i64 (y.2 : Int)), (23, .int .i64 (y.1 : Int))])
    (fun w y h' => M.length - y.1 = w ∧ y.1 ≤ M.length ∧ HS h2 h' ∧ ((y.1 = 0 ∧ y.2 = 0) ∨ (0 < y.1 ∧ WU (M.take (min y.1 (to + 1))) q.tm (y.2 + 1)))) M.length (0, 0) (by simp [lk]) ⟨rfl, by simp, HS.refl _, .inl ⟨rfl, rfl⟩⟩ ?_
  rintro _ ⟨i, e⟩ h3 ⟨rfl, hi, s3, hw⟩
  simp only at hi hw
  have m13 := s3 _ _ m1
  have x3 := x2.hs s3
  have ho3 := x3.obj
  by_cases hil : i < M.length
  case neg =>
    obtain rfl : i = M.length := by omega
    have d3 : decide ((M.length : Int) < (M.length : Int)) = false := decide_eq_false (by omega)
    have hw' : WU (M.take (to + 1)) q.tm (e + 1) := by
      rcases hw with hw | ⟨_, hw⟩
      · omega
      · rw [show min M.length (to + 1) = to + 1 by omega] at hw; exact hw
    have hel : (e : Int) < (M.length : Int) := by
      have := hw'.1
      rw [List.length_take] at this
      omega
    refine qS ?_; repeat' (first | (with_reducible first | apply qH | apply qB) | ((first | (with_reducible apply qR) | (with_reducible first | apply qA | apply qP | apply qD | apply qE | apply qK) | ((with_reducible first | apply qQ | apply qI | apply qJ | apply qW | apply qX) <;> intro hb <;> (try simp only [hb]) <;> (try simp only [zF] at hb)) | with_reducible refine qO wW mixed (by kernel_rfl) ?_) <;> try simp only [qV, qF, qL, qN, qG, qC, qM, reduceIte, seval, Int.cast_ofNat_Int, qY, qZ, qU, zR, zT, zU, uI, wW, d3, qT m13 wK]))
    refine (qW8 N x3 (r.hs (s12.trans s3)) (e : Int) hel).mono ?_
    rintro v4 h4 ⟨r4, s4⟩
    obtain ⟨a4, b4, c4', d4', e4, f4', rfl, t1, t2, t3⟩ := r4
    refine qS ?_; repeat' (first | (with_reducible first | apply qH | apply qB) | ((first | (with_reducible apply qR) | (with_reducible first | apply qA | apply qP | apply qD | apply qE | apply qK) | ((with_reducible first | apply qQ | apply qI | apply qJ | apply qW | apply qX) <;> intro hb <;> (try simp only [hb]) <;> (try simp only [zF] at hb)) | with_reducible refine qO wW mixed (by kernel_rfl) ?_) <;> try simp only [qV, qF, qL, qN, qG, qC, qM, reduceIte, seval, Int.cast_ofNat_Int, qY, qZ, qU, zR, zT, zU, uI, wW]))
    refine xW fun k6 h6 m6 s6 f6 n6 => ?_
    refine qS ?_; repeat' (first | (with_reducible first | apply qH | apply qB) | ((first | (with_reducible apply qR) | (with_reducible first | apply qA | apply qP | apply qD | apply qE | apply qK) | ((with_reducible first | apply qQ | apply qI | apply qJ | apply qW | apply qX) <;> intro hb <;> (try simp only [hb]) <;> (try simp only [zF] at hb)) | with_reducible refine qO wW mixed (by kernel_rfl) ?_) <;> try simp only [qV, qF, qL, qN, qG, qC, qM, reduceIte, seval, Int.cast_ofNat_Int, qY, qZ, qU, zR, zT, zU, uI, wW]))
    refine zM m6 xG rfl (by decide) rfl rfl rfl fun h7 m7 f7 => ?_
    refine qS ?_; repeat' (first | (with_reducible first | apply qH | apply qB) | ((first | (with_reducible apply qR) | (with_reducible first | apply qA | apply qP | apply qD | apply qE | apply qK) | ((with_reducible first | apply qQ | apply qI | apply qJ | apply qW | apply qX) <;> intro hb <;> (try simp only [hb]) <;> (try simp only [zF] at hb)) | with_reducible refine qO wW mixed (by kernel_rfl) ?_) <;> try simp only [qV, qF, qL, qN, qG, qC, qM, reduceIte, seval, Int.cast_ofNat_Int, qY, qZ, qU, zR, zT, zU, uI, wW]))
    refine vN m7 wL rfl (by simp [vcells]) rfl rfl fun h8 m8 f8 => ?_
    have s8 : HS h4 h8 := (HS.refl h4).upd n6 (fun i hi => (f8 i hi).trans ((f7 i hi).trans (f6 i hi)))
    have m28 := s8 _ _ (s4 _ _ (s3 _ _ m2))
    refine qS ?_; repeat' (first | (with_reducible first | apply qH | apply qB) | ((first | (with_reducible apply qR) | (with_reducible first | apply qA | apply qP | apply qD | apply qE | apply qK) | ((with_reducible first | apply qQ | apply qI | apply qJ | apply qW | apply qX) <;> intro hb <;> (try simp only [hb]) <;> (try simp only [zF] at hb)) | with_reducible refine qO wW mixed (by kernel_rfl) ?_) <;> try simp only [qV, qF, qL, qN, qG, qC, qM, reduceIte, seval, Int.cast_ofNat_Int, qY, qZ, qU, zR, zT, zU, uI, wW, zI m8 xG rfl]))
    refine zM m28 xG rfl (by decide) rfl rfl rfl fun h9 m9 f9 => ?_
    refine qS ?_; repeat' (first | (with_reducible first | apply qH | apply qB) | ((first | (with_reducible apply qR) | (with_reducible first | apply qA | apply qP | apply qD | apply qE | apply qK) | ((with_reducible first | apply qQ | apply qI | apply qJ | apply qW | apply qX) <;> intro hb <;> (try simp only [hb]) <;> (try simp only [zF] at hb)) | with_reducible refine qO wW mixed (by kernel_rfl) ?_) <;> try simp only [qV, qF, qL, qN, qG, qC, qM, reduceIte, seval, Int.cast_ofNat_Int, qY, qZ, qU, zR, zT, zU, uI, wW, zI m9 xG rfl]))
    have s48 := s4.trans s8
    have s28 := (s12.trans s3).trans s48
    have hx : HX k2 h8 h9 := fun j B n e => (f9 j n).trans e
    have key := (t1.hs s8).hx m28 rfl hx
    have i1 : RL 3 It h9 _ _ := (t2.hcR s8.hc fun _ _ q => (q.hs s8 : It h8 _ _)).hxR m28 ⟨rfl, rfl⟩ hx fun cs y r => by
      obtain ⟨a, c, b, d, e, r1, r2⟩ := r
      exact ⟨a, c, b, d, e, r1.hx m28 rfl hx, r2.hx m28 rfl hx⟩
    have i2 : RL 4 Ev h9 _ _ := (t3.hcR s8.hc fun _ _ q => (q.hs s8 : Ev h8 _ _)).hxR m28 ⟨rfl, rfl⟩ hx fun cs y r => by
      obtain ⟨a, c, b, d, e, r1, r2⟩ := r
      exact ⟨a, c, b, d, e, r1.hx m28 rfl hx, r2.hx m28 rfl hx⟩
    refine ⟨⟨{ vZ M q.id (e : Int) with ep := (e : Int) }, ⟨e + 1, by rw [htn]; exact hw', by rw [if_neg (by omega)]; rfl⟩, _, _, _, _, _, _, rfl, key, i1, i2⟩, s28.upd n2' f9⟩
  have d3 : decide ((i : Int) < (M.length : Int)) = true := decide_eq_true (by omega)
  have wi : IntKind.i64.wrap ((i : Int) + 1) = ((i + 1 : Nat) : Int) := by rw [wrap64 (by omega) (by omega)]; omega
  obtain ⟨y, hy⟩ := vC hil
  obtain ⟨at3, ct3, k53, et3, g53, l53⟩ := x3.rlt hy
  by_cases hit : i ≤ to
  case neg =>
    have d4 : decide ((i : Int) ≤ q.to) = false := decide_eq_false (by omega)
    refine qS ?_; repeat' (first | (with_reducible first | apply qH | apply qB) | ((first | (with_reducible apply qR) | (with_reducible first | apply qA | apply qP | apply qD | apply qE | apply qK) | ((with_reducible first | apply qQ | apply qI | apply qJ | apply qW | apply qX) <;> intro hb <;> (try simp only [hb]) <;> (try simp only [zF] at hb)) | with_reducible refine qO wW mixed (by kernel_rfl) ?_) <;> try simp only [qV, qF, qL, qN, qG, qC, qM, reduceIte, seval, Int.cast_ofNat_Int, qY, qZ, qU, zR, zT, zU, uI, wW, d3, d4, qT m13 wL, gPick, wi]))
    refine ⟨_, (i + 1, e), by simp only; omega, (by simp only [List.forall_mem_cons, List.not_mem_nil, false_implies, implies_true, List.map, List.cons_append, List.nil_append, lk, Nat.reduceEqDiff, reduceIte, and_true, true_and]), rfl, by simp only; omega, s3, .inr ⟨by simp, ?_⟩⟩
    rcases hw with hw | ⟨_, hw⟩
    · omega
    · simp only
      rw [show min (i + 1) (to + 1) = min i (to + 1) by omega]; exact hw
  have d4 : decide ((i : Int) ≤ q.to) = true := decide_eq_true (by omega)
  have hmin : min (i + 1) (to + 1) = i + 1 := by omega
  by_cases hyt : y.1 ≤ q.tm
  · have d5 : decide (y.1 ≤ q.tm) = true := decide_eq_true hyt
    refine qS ?_; repeat' (first | (with_reducible first | apply qH | apply qB) | ((first | (with_reducible apply qR) | (with_reducible first | apply qA | apply qP | apply qD | apply qE | apply qK) | ((with_reducible first | apply qQ | apply qI | apply qJ | apply qW | apply qX) <;> intro hb <;> (try simp only [hb]) <;> (try simp only [zF] at hb)) | with_reducible refine qO wW mixed (by kernel_rfl) ?_) <;> try simp only [qV, qF, qL, qN, qG, qC, qM, reduceIte, seval, Int.cast_ofNat_Int, qY, qZ, qU, zR, zT, zU, uI, wW, d3, d4, d5, gNil, g53, l53, qT m13 wL, qT ho3 kV, gPick, wi]))
    exact ⟨_, (i + 1, i), by simp only; omega, (by simp only [List.forall_mem_cons, List.not_mem_nil, false_implies, implies_true, List.map, List.cons_append, List.nil_append, lk, Nat.reduceEqDiff, reduceIte, and_true, true_and]), rfl, by simp only; omega, s3, .inr ⟨by simp, by simp only; rw [hmin]; exact WU.take_le x.ri hy hyt⟩⟩
  · have d5 : decide (y.1 ≤ q.tm) = false := decide_eq_false hyt
    refine qS ?_; repeat' (first | (with_reducible first | apply qH | apply qB) | ((first | (with_reducible apply qR) | (with_reducible first | apply qA | apply qP | apply qD | apply qE | apply qK) | ((with_reducible first | apply qQ | apply qI | apply qJ | apply qW | apply qX) <;> intro hb <;> (try simp only [hb]) <;> (try simp only [zF] at hb)) | with_reducible refine qO wW mixed (by kernel_rfl) ?_) <;> try simp only [qV, qF, qL, qN, qG, qC, qM, reduceIte, seval, Int.cast_ofNat_Int, qY, qZ, qU, zR, zT, zU, uI, wW, d3, d4, d5, gNil, g53, l53, qT m13 wL, qT ho3 kV, gPick, wi]))
    refine ⟨_, (i + 1, e), by simp only; omega, (by simp only [List.forall_mem_cons, List.not_mem_nil, false_implies, implies_true, List.map, List.cons_append, List.nil_append, lk, Nat.reduceEqDiff, reduceIte, and_true, true_and]), rfl, by simp only; omega, s3, .inr ⟨by simp, ?_⟩⟩
    simp only
    rw [hmin]
    rcases hw with ⟨hw, _⟩ | ⟨_, hw⟩
    · subst hw
      rw [hy0] at hy
      cases hy
      omega
    · rw [show min i (to + 1) = i by omega] at hw
      exact WU.take_gt hy (by omega) hw
end
theorem xU : type_of% (And.intro gY (And.intro wT (And.intro wN (And.intro yX (And.intro yB (And.intro uN (And.intro zC0 (And.intro yW (And.intro wM (And.intro yV (And.intro jZ (And.intro uM (And.intro yL (And.intro wZ (And.intro uP (And.intro jV rs87)))))))))))))))) := And.intro gY (And.intro wT (And.intro wN (And.intro yX (And.intro yB (And.intro uN (And.intro zC0 (And.intro yW (And.intro wM (And.intro yV (And.intro jZ (And.intro uM (And.intro yL (And.intro wZ (And.intro uP (And.intro jV rs87)))))))))))))))
def zN : Nat → List (Nat × List Nat) × List Nat
  | 5 => ([(0, []), (1, []), (2, []), (3, []), (4, []), (5, []), (6, []), (7, []), (8, []), (9, []), (10, []), (11, []), (12, []), (13, []), (14, []), (15, []), (16, []), (17, []), (18, []), (19, []), (20, []), (21, []), (22, []), (23, []), (24, []), (25, []), (26, []), (27, []), (28, []), (29, []), (30, [])], [0, 1, 0, 4, 15, 31, 63, 127, 63, 319, 1023, 2047, 4095, 8191, 16383, 32767, 65535, 131071, 262143, 524287, 262143, 1310719, 3407871, 7602175, 262143, 17039359, 66322431, 133431295, 267649023, 536870911, 1073741823])
  | 18 => ([(0, []), (1, []), (2, []), (3, []), (4, []), (5, []), (6, []), (8, []), (9, []), (10, []), (7, [1, 10]), (11, [1]), (12, []), (13, [1]), (14, []), (15, []), (16, [])], [0, 1, 0, 0, 0, 0, 32, 112, 0, 0, 512, 2032, 4092, 8188, 16383, 32767, 65535])
  | _ => ([], [])
theorem zB5 {e f : Int} (h : (Lit.int .i64 e).wf = true) (h0 : 0 ≤ f) (h1 : f ≤ 1000) : (IntKind.i64.wrap (e - 1) == f) = (e == f + 1) := by
  have hb := bounds_i64 h
  by_cases c : e = -9223372036854775808
  · subst c
    have : IntKind.i64.wrap (-9223372036854775808 - 1) = 9223372036854775807 := by decide
    rw [this, Bool.eq_iff_iff, beq_iff_eq, beq_iff_eq]
    omega
  · rw [wrap64 (by omega) (by omega), Bool.eq_iff_iff, beq_iff_eq, beq_iff_eq]
    omega
section
variable {h0 h : GH} {k : Nat} {p : Pm} {tv bv : Value} {ts cs : List Value} {M : List (Int × List Bnd)} {ck : Int}
theorem RM.rlb (x : RM h0 h k p tv bv ts cs M ck) {e : Nat} {y : Int × List Bnd} (hy : M[e]? = some y) : ∃ a c k5 a4 c4, bv = .slice a M.length c ∧ jN Try.prog 22 bv (e : Int) = some (.pointer (some ⟨k5, e, none⟩)) ∧ xM Try.prog 23 h (.pointer (some ⟨k5, e, none⟩)) = some (.slice a4 y.2.length c4) ∧ RL 2 Bd h (.slice a4 y.2.length c4) y.2 := by
  obtain ⟨a, c, e1⟩ := x.bat.form
  subst e1
  obtain ⟨vb, hv, bt⟩ := x.bats e y hy
  obtain ⟨a4, c4, rfl, _⟩ := bt.rl.form
  obtain ⟨k5, tl5, i5, m5⟩ := x.bat.at (P := Try.prog) Try.underlying22 jX (i := e) (List.getElem?_eq_some_iff.1 hy).1
  exact ⟨a, c, k5, a4, c4, rfl, by rw [i5, Nat.mul_one], by rw [qT m5 jX]; exact hv, bt.rl⟩
theorem c_rFeed (N : Nat) (x : RM h0 h k p tv bv ts cs M ck) (q : Ak) (hqe : (Lit.int .i64 q.ep).wf = true) (h1 : 0 ≤ q.fr) (h2 : q.fr ≤ q.to) (h3 : q.to < (M.length : Int)) (h4 : 1 ≤ q.lm ∧ q.lm ≤ 32)
    {c1 c4 c5 c9 : Value} (hc : [c1, c4, c5, c9].all zA = true) :
    GTri Try.prog N 87 [.pointer (some ⟨k, 0, none⟩), .agg #[.int .i64 q.kd, c1, .int .i64 q.fr, .int .i64 q.to, c4, c5, .int .i64 q.ep, .int .i64 q.ix, .int .i64 q.lm, c9]] h fun v h' => RAn h' v (sY M q) ∧ HS h h' := by
  have hML := x.len
  refine wQ Try.func87 rfl gf87 ok87 (by simp [Try.ntmps87]) ?_
  repeat' (first | (with_reducible first | apply qH | apply qB) | ((first | (with_reducible first | apply qA | apply qP | apply qD | apply qE | apply qK) | ((with_reducible first | apply qQ | apply qI | apply qJ | apply qW | apply qX) <;> intro hb <;> (try simp only [hb]) <;> (try simp only [zF] at hb)) | with_reducible refine qO zN mixed (by kernel_rfl) ?_) <;> try simp only [qV, qF, qL, qN, qG, qC, qM, reduceIte, seval, Int.cast_ofNat_Int, qY, qZ, qU, zR, zT, zU, xU, zN]))
  refine wY (by simpa [zA] using hc) fun k1 hh1 m1 s1 f1 n1 => ?_
  refine qS ?_; repeat' (first | (with_reducible first | apply qH | apply qB) | ((first | (with_reducible apply qR) | (with_reducible first | apply qA | apply qP | apply qD | apply qE | apply qK) | ((with_reducible first | apply qQ | apply qI | apply qJ | apply qW | apply qX) <;> intro hb <;> (try simp only [hb]) <;> (try simp only [zF] at hb)) | with_reducible refine qO zN mixed (by kernel_rfl) ?_) <;> try simp only [qV, qF, qL, qN, qG, qC, qM, reduceIte, seval, Int.cast_ofNat_Int, qY, qZ, qU, zR, zT, zU, xU, zN]))
  refine xW fun k2 hh2 m2 s2 f2 n2 => ?_
  replace m1 := s2 _ _ m1
  have s12 := s1.trans s2
  have n2' := s1.none_of n2
  have x2 := x.hs s12
  have ho := x2.obj
  unfold sY
  have bad : ∀ {h' : GH} {v : Value}, jH M q = false → RAn h' v { code := 85 } ∧ HS h h' → RAn h' v (if jH M q = true then (match ((gL M q.ep.toNat (q.to + 1 - q.ep).toNat).drop q.ix.toNat)[q.lm.toNat]? with
    | none => { evs := (gL M q.ep.toNat (q.to + 1 - q.ep).toNat).drop q.ix.toNat }
    | some z => { evs := ((gL M q.ep.toNat (q.to + 1 - q.ep).toNat).drop q.ix.toNat).take q.lm.toNat, more := true, ep := (z.1 : Int), si := (z.2.1 : Int) }) else { code := 85 }) ∧ HS h h' := fun hcu r => by
    rw [if_neg (by rw [hcu]; simp)]; exact r
  by_cases e1 : q.fr = q.to
  · have d1 : (q.fr == q.to) = true := by simpa using e1
    have wp := zB5 hqe h1 (show q.fr ≤ 1000 by omega)
    cases d2 : (q.ep == q.fr + 1)
    · rw [d2] at wp
      have d3 : (IntKind.i64.wrap (q.ep - 1) != q.fr) = true := by rw [bne, wp]; rfl
      refine qS ?_; repeat' (first | (with_reducible first | apply qH | apply qB) | ((first | (with_reducible apply qR) | (with_reducible first | apply qA | apply qP | apply qD | apply qE | apply qK) | ((with_reducible first | apply qQ | apply qI | apply qJ | apply qW | apply qX) <;> intro hb <;> (try simp only [hb]) <;> (try simp only [zF] at hb)) | with_reducible refine qO zN mixed (by kernel_rfl) ?_) <;> try simp only [qV, qF, qL, qN, qG, qC, qM, reduceIte, seval, Int.cast_ofNat_Int, qY, qZ, qU, zR, zT, zU, xU, zN, qT m1 wL, d1, d3, gPick, xL, xT, vB, Shape.pl, List.all_cons, List.all_nil, zA]))
      refine zM m2 xG rfl (by decide) rfl rfl rfl fun hh4 m4 f4 => ?_
      refine qS ?_; repeat' (first | (with_reducible first | apply qH | apply qB) | ((first | (with_reducible apply qR) | (with_reducible first | apply qA | apply qP | apply qD | apply qE | apply qK) | ((with_reducible first | apply qQ | apply qI | apply qJ | apply qW | apply qX) <;> intro hb <;> (try simp only [hb]) <;> (try simp only [zF] at hb)) | with_reducible refine qO zN mixed (by kernel_rfl) ?_) <;> try simp only [qV, qF, qL, qN, qG, qC, qM, reduceIte, seval, Int.cast_ofNat_Int, qY, qZ, qU, zR, zT, zU, xU, zN, zI m4 xG rfl]))
      exact bad (by unfold jH; rw [if_pos e1, d2]; rfl) ⟨RAn.zero hh4 85 0, s12.upd n2' f4⟩
    rw [d2] at wp
    have d3 : (IntKind.i64.wrap (q.ep - 1) != q.fr) = false := by rw [bne, wp]; rfl
    cases d4 : (q.ix == 0)
    · have d5 : (q.ix != 0) = true := by rw [bne, d4]; rfl
      refine qS ?_; repeat' (first | (with_reducible first | apply qH | apply qB) | ((first | (with_reducible apply qR) | (with_reducible first | apply qA | apply qP | apply qD | apply qE | apply qK) | ((with_reducible first | apply qQ | apply qI | apply qJ | apply qW | apply qX) <;> intro hb <;> (try simp only [hb]) <;> (try simp only [zF] at hb)) | with_reducible refine qO zN mixed (by kernel_rfl) ?_) <;> try simp only [qV, qF, qL, qN, qG, qC, qM, reduceIte, seval, Int.cast_ofNat_Int, qY, qZ, qU, zR, zT, zU, xU, zN, qT m1 wL, d1, d3, d5, gPick, xL, xT, vB, Shape.pl, List.all_cons, List.all_nil, zA]))
      refine zM m2 xG rfl (by decide) rfl rfl rfl fun hh4 m4 f4 => ?_
      refine qS ?_; repeat' (first | (with_reducible first | apply qH | apply qB) | ((first | (with_reducible apply qR) | (with_reducible first | apply qA | apply qP | apply qD | apply qE | apply qK) | ((with_reducible first | apply qQ | apply qI | apply qJ | apply qW | apply qX) <;> intro hb <;> (try simp only [hb]) <;> (try simp only [zF] at hb)) | with_reducible refine qO zN mixed (by kernel_rfl) ?_) <;> try simp only [qV, qF, qL, qN, qG, qC, qM, reduceIte, seval, Int.cast_ofNat_Int, qY, qZ, qU, zR, zT, zU, xU, zN, zI m4 xG rfl]))
      exact bad (by unfold jH; rw [if_pos e1, d2, d4]; rfl) ⟨RAn.zero hh4 85 0, s12.upd n2' f4⟩
    have d5 : (q.ix != 0) = false := by rw [bne, d4]; rfl
    refine qS ?_; repeat' (first | (with_reducible first | apply qH | apply qB) | ((first | (with_reducible apply qR) | (with_reducible first | apply qA | apply qP | apply qD | apply qE | apply qK) | ((with_reducible first | apply qQ | apply qI | apply qJ | apply qW | apply qX) <;> intro hb <;> (try simp only [hb]) <;> (try simp only [zF] at hb)) | with_reducible refine qO zN mixed (by kernel_rfl) ?_) <;> try simp only [qV, qF, qL, qN, qG, qC, qM, reduceIte, seval, Int.cast_ofNat_Int, qY, qZ, qU, zR, zT, zU, xU, zN, qT m1 wL, d1, d3, d5, gPick, xL, xT, vB, Shape.pl, List.all_cons, List.all_nil, zA]))
    refine zM m2 xG rfl (by decide) rfl rfl rfl fun hh4 m4 f4 => ?_
    refine qS ?_; repeat' (first | (with_reducible first | apply qH | apply qB) | ((first | (with_reducible apply qR) | (with_reducible first | apply qA | apply qP | apply qD | apply qE | apply qK) | ((with_reducible first | apply qQ | apply qI | apply qJ | apply qW | apply qX) <;> intro hb <;> (try simp only [hb]) <;> (try simp only [zF] at hb)) | with_reducible refine qO zN mixed (by kernel_rfl) ?_) <;> try simp only [qV, qF, qL, qN, qG, qC, qM, reduceIte, seval, Int.cast_ofNat_Int, qY, qZ, qU, zR, zT, zU, xU, zN, zI m4 xG rfl]))
    have hcu : jH M q = true := by unfold jH; rw [if_pos e1, d2, d4]; rfl
    have hep : q.ep = q.fr + 1 := by simpa using d2
    have hz : (q.to + 1 - q.ep).toNat = 0 := by omega
    rw [if_pos hcu, hz]
    have he : (gL M q.ep.toNat 0).drop q.ix.toNat = [] := by simp [gL]
    rw [he]
    exact ⟨RAn.zero hh4 0 0, s12.upd n2' f4⟩
  have d1 : (q.fr == q.to) = false := by simpa using e1
  have hcu : jH M q = (decide (q.ep > q.fr) && decide (q.ep ≤ q.to) && decide (q.ix ≥ 0) && decide (q.ix < ((jI M q.ep.toNat).length : Int))) := by unfold jH; rw [if_neg e1]
  by_cases c1' : q.ep ≤ q.fr
  · have d2 : decide (q.ep ≤ q.fr) = true := decide_eq_true c1'
    refine qS ?_; repeat' (first | (with_reducible first | apply qH | apply qB) | ((first | (with_reducible apply qR) | (with_reducible first | apply qA | apply qP | apply qD | apply qE | apply qK) | ((with_reducible first | apply qQ | apply qI | apply qJ | apply qW | apply qX) <;> intro hb <;> (try simp only [hb]) <;> (try simp only [zF] at hb)) | with_reducible refine qO zN mixed (by kernel_rfl) ?_) <;> try simp only [qV, qF, qL, qN, qG, qC, qM, reduceIte, seval, Int.cast_ofNat_Int, qY, qZ, qU, zR, zT, zU, xU, zN, qT m1 wL, d1, d2, gPick, xL, xT, vB, Shape.pl, List.all_cons, List.all_nil, zA]))
    refine zM m2 xG rfl (by decide) rfl rfl rfl fun hh4 m4 f4 => ?_
    refine qS ?_; repeat' (first | (with_reducible first | apply qH | apply qB) | ((first | (with_reducible apply qR) | (with_reducible first | apply qA | apply qP | apply qD | apply qE | apply qK) | ((with_reducible first | apply qQ | apply qI | apply qJ | apply qW | apply qX) <;> intro hb <;> (try simp only [hb]) <;> (try simp only [zF] at hb)) | with_reducible refine qO zN mixed (by kernel_rfl) ?_) <;> try simp only [qV, qF, qL, qN, qG, qC, qM, reduceIte, seval, Int.cast_ofNat_Int, qY, qZ, qU, zR, zT, zU, xU, zN, zI m4 xG rfl]))
    exact bad (by rw [hcu, decide_eq_false (show ¬ q.ep > q.fr by omega)]; rfl) ⟨RAn.zero hh4 85 0, s12.upd n2' f4⟩
  have d2 : decide (q.ep ≤ q.fr) = false := decide_eq_false c1'
  by_cases c2' : q.ep > q.to
  · have d3 : decide (q.ep > q.to) = true := decide_eq_true c2'
    refine qS ?_; repeat' (first | (with_reducible first | apply qH | apply qB) | ((first | (with_reducible apply qR) | (with_reducible first | apply qA | apply qP | apply qD | apply qE | apply qK) | ((with_reducible first | apply qQ | apply qI | apply qJ | apply qW | apply qX) <;> intro hb <;> (try simp only [hb]) <;> (try simp only [zF] at hb)) | with_reducible refine qO zN mixed (by kernel_rfl) ?_) <;> try simp only [qV, qF, qL, qN, qG, qC, qM, reduceIte, seval, Int.cast_ofNat_Int, qY, qZ, qU, zR, zT, zU, xU, zN, qT m1 wL, d1, d2, d3, gPick, xL, xT, vB, Shape.pl, List.all_cons, List.all_nil, zA]))
    refine zM m2 xG rfl (by decide) rfl rfl rfl fun hh4 m4 f4 => ?_
    refine qS ?_; repeat' (first | (with_reducible first | apply qH | apply qB) | ((first | (with_reducible apply qR) | (with_reducible first | apply qA | apply qP | apply qD | apply qE | apply qK) | ((with_reducible first | apply qQ | apply qI | apply qJ | apply qW | apply qX) <;> intro hb <;> (try simp only [hb]) <;> (try simp only [zF] at hb)) | with_reducible refine qO zN mixed (by kernel_rfl) ?_) <;> try simp only [qV, qF, qL, qN, qG, qC, qM, reduceIte, seval, Int.cast_ofNat_Int, qY, qZ, qU, zR, zT, zU, xU, zN, zI m4 xG rfl]))
    exact bad (by rw [hcu, decide_eq_false (show ¬ q.ep ≤ q.to by omega), Bool.and_false]; rfl) ⟨RAn.zero hh4 85 0, s12.upd n2' f4⟩
  have d3 : decide (q.ep > q.to) = false := decide_eq_false c2'
  by_cases c3' : q.ix < 0
  · have d4 : decide (q.ix < 0) = true := decide_eq_true c3'
    refine qS ?_; repeat' (first | (with_reducible first | apply qH | apply qB) | ((first | (with_reducible apply qR) | (with_reducible first | apply qA | apply qP | apply qD | apply qE | apply qK) | ((with_reducible first | apply qQ | apply qI | apply qJ | apply qW | apply qX) <;> intro hb <;> (try simp only [hb]) <;> (try simp only [zF] at hb)) | with_reducible refine qO zN mixed (by kernel_rfl) ?_) <;> try simp only [qV, qF, qL, qN, qG, qC, qM, reduceIte, seval, Int.cast_ofNat_Int, qY, qZ, qU, zR, zT, zU, xU, zN, qT m1 wL, d1, d2, d3, d4, gPick, xL, xT, vB, Shape.pl, List.all_cons, List.all_nil, zA]))
    refine zM m2 xG rfl (by decide) rfl rfl rfl fun hh4 m4 f4 => ?_
    refine qS ?_; repeat' (first | (with_reducible first | apply qH | apply qB) | ((first | (with_reducible apply qR) | (with_reducible first | apply qA | apply qP | apply qD | apply qE | apply qK) | ((with_reducible first | apply qQ | apply qI | apply qJ | apply qW | apply qX) <;> intro hb <;> (try simp only [hb]) <;> (try simp only [zF] at hb)) | with_reducible refine qO zN mixed (by kernel_rfl) ?_) <;> try simp only [qV, qF, qL, qN, qG, qC, qM, reduceIte, seval, Int.cast_ofNat_Int, qY, qZ, qU, zR, zT, zU, xU, zN, zI m4 xG rfl]))
    exact bad (by rw [hcu, decide_eq_false (show ¬ q.ix ≥ 0 by omega), Bool.and_false]; rfl) ⟨RAn.zero hh4 85 0, s12.upd n2' f4⟩
  have d4 : decide (q.ix < 0) = false := decide_eq_false c3'
  obtain ⟨ep, hep⟩ : ∃ ep : Nat, q.ep = (ep : Int) := ⟨q.ep.toNat, by omega⟩
  obtain ⟨ix, hix⟩ : ∃ ix : Nat, q.ix = (ix : Int) := ⟨q.ix.toNat, by omega⟩
  obtain ⟨to, hto⟩ : ∃ to : Nat, q.to = (to : Int) := ⟨q.to.toNat, by omega⟩
  obtain ⟨lm, hlm⟩ : ∃ lm : Nat, q.lm = (lm : Int) := ⟨q.lm.toNat, by omega⟩
  obtain ⟨y0, hy0⟩ := vC (show ep < M.length by omega)
  obtain ⟨ab, cb, kb, a4, c4', rfl, g5, l5, rl5⟩ := x2.rlb hy0
  have hbe0 : jI M q.ep.toNat = y0.2 := by rw [hep]; exact uJ hy0
  rw [← hep] at g5
  by_cases c4 : q.ix ≥ (y0.2.length : Int)
  · have d5 : decide (q.ix ≥ (y0.2.length : Int)) = true := decide_eq_true c4
    refine qS ?_; repeat' (first | (with_reducible first | apply qH | apply qB) | ((first | (with_reducible apply qR) | (with_reducible first | apply qA | apply qP | apply qD | apply qE | apply qK) | ((with_reducible first | apply qQ | apply qI | apply qJ | apply qW | apply qX) <;> intro hb <;> (try simp only [hb]) <;> (try simp only [zF] at hb)) | with_reducible refine qO zN mixed (by kernel_rfl) ?_) <;> try simp only [qV, qF, qL, qN, qG, qC, qM, reduceIte, seval, Int.cast_ofNat_Int, qY, qZ, qU, zR, zT, zU, xU, zN, gNil, qT m1 wL, qT ho kX, g5, l5, d1, d2, d3, d4, d5, gPick, xL, xT, vB, Shape.pl, List.all_cons, List.all_nil, zA]))
    refine zM m2 xG rfl (by decide) rfl rfl rfl fun hh4 m4 f4 => ?_
    refine qS ?_; repeat' (first | (with_reducible first | apply qH | apply qB) | ((first | (with_reducible apply qR) | (with_reducible first | apply qA | apply qP | apply qD | apply qE | apply qK) | ((with_reducible first | apply qQ | apply qI | apply qJ | apply qW | apply qX) <;> intro hb <;> (try simp only [hb]) <;> (try simp only [zF] at hb)) | with_reducible refine qO zN mixed (by kernel_rfl) ?_) <;> try simp only [qV, qF, qL, qN, qG, qC, qM, reduceIte, seval, Int.cast_ofNat_Int, qY, qZ, qU, zR, zT, zU, xU, zN, zI m4 xG rfl]))
    exact bad (by rw [hcu, hbe0, decide_eq_false (show ¬ q.ix < (y0.2.length : Int) by omega), Bool.and_false]) ⟨RAn.zero hh4 85 0, s12.upd n2' f4⟩
  have d5 : decide (q.ix ≥ (y0.2.length : Int)) = false := decide_eq_false c4
  have hcu' : jH M q = true := by
    rw [hcu, hbe0, decide_eq_true (show q.ep > q.fr by omega), decide_eq_true (show q.ep ≤ q.to by omega), decide_eq_true (show q.ix ≥ 0 by omega), decide_eq_true (show q.ix < (y0.2.length : Int) by omega)]; rfl
  clear bad
  rw [if_pos hcu']
  have hle : ep ≤ to := by omega
  have hxix : ix < (jI M ep).length := by rw [uJ hy0]; omega
  have eto : (q.to + 1 - q.ep).toNat = to + 1 - ep := by omega
  rw [eto, hep, hix, hlm, Int.toNat_natCast, Int.toNat_natCast, Int.toNat_natCast]
  have n5o : h k = some _ := x.obj
  refine qS ?_; repeat' (first | (with_reducible first | apply qH | apply qB) | ((first | (with_reducible apply qR) | (with_reducible first | apply qA | apply qP | apply qD | apply qE | apply qK) | ((with_reducible first | apply qQ | apply qI | apply qJ | apply qW | apply qX) <;> intro hb <;> (try simp only [hb]) <;> (try simp only [zF] at hb)) | with_reducible refine qO zN mixed (by kernel_rfl) ?_) <;> try simp only [qV, qF, qL, qN, qG, qC, qM, reduceIte, seval, Int.cast_ofNat_Int, qY, qZ, qU, zR, zT, zU, xU, zN, gNil, qT m1 wL, qT ho kX, g5, l5, d1, d2, d3, d4, d5, gPick, xL, xT, vB, Shape.pl, List.all_cons, List.all_nil, zA]))
  refine xW fun k5 hh4 m4 s4 f4 n4 => ?_
  refine qS ?_; repeat' (first | (with_reducible first | apply qH | apply qB) | ((first | (with_reducible apply qR) | (with_reducible first | apply qA | apply qP | apply qD | apply qE | apply qK) | ((with_reducible first | apply qQ | apply qI | apply qJ | apply qW | apply qX) <;> intro hb <;> (try simp only [hb]) <;> (try simp only [zF] at hb)) | with_reducible refine qO zN mixed (by kernel_rfl) ?_) <;> try simp only [qV, qF, qL, qN, qG, qC, qM, reduceIte, seval, Int.cast_ofNat_Int, qY, qZ, qU, zR, zT, zU, xU, zN, xL, xT, vB, Shape.pl, List.all_cons, List.all_nil, zA]))
  refine zM m4 xG rfl (by decide) rfl rfl rfl fun hh5 m5 f5 => ?_
  have s5 : HS hh2 hh5 := (HS.refl hh2).upd n4 (fun j hj => (f5 j hj).trans (f4 j hj))
  have m15 := s5 _ _ m1
  have m25 := s5 _ _ m2
  have s05 := s12.trans s5
  have n5' := s12.none_of n4
  have hto' : to < M.length := by omega
  have k5k1 : k5 ≠ k1 := fun q => by subst q; rw [m1] at n4; cases n4
  have k5k2 : k5 ≠ k2 := fun q => by subst q; rw [m2] at n4; cases n4
  have b0 : ∀ e, e ≤ to → (jI M e).length ≤ 32 := fun e he => by
    obtain ⟨y, hy⟩ : ∃ y, M[e]? = some y := ⟨_, List.getElem?_eq_getElem (by omega)⟩
    rw [uJ hy]
    exact (x.bl y (List.mem_of_getElem? hy)).2
  let Iv : Nat → Nat → GH → Prop := fun e i h' => HS h h' ∧ h' k1 = hh5 k1 ∧ h' k2 = hh5 k2 ∧ (gG M ep ix e i).length ≤ lm ∧ ∃ a c, h' k5 = some ⟨[.int .i64 0, .int .i64 0, .bool false, .bool false, .slice none 0 0, .int .i64 0, .slice none 0 0, .slice a (gG M ep ix e i).length c, .bool false], 0, true, false⟩ ∧ Evs h h' (.slice a (gG M ep ix e i).length c) (gG M ep ix e i)
  have hIv : ∀ e i h', Iv e i h' = (HS h h' ∧ h' k1 = hh5 k1 ∧ h' k2 = hh5 k2 ∧ (gG M ep ix e i).length ≤ lm ∧ ∃ a c, h' k5 = some ⟨[.int .i64 0, .int .i64 0, .bool false, .bool false, .slice none 0 0, .int .i64 0, .slice none 0 0, .slice a (gG M ep ix e i).length c, .bool false], 0, true, false⟩ ∧ Evs h h' (.slice a (gG M ep ix e i).length c) (gG M ep ix e i)) := fun _ _ _ => rfl
  clear_value Iv
  have fz : gG M ep ix ep ix = [] := by
    unfold gG
    have : gL M ep (ep - ep) = [] := by simp [gL]
    rw [this, List.nil_append, List.drop_eq_nil_of_le (by rw [List.length_take]; omega)]
  refine qS ?_; repeat' (first | (with_reducible first | apply qH | apply qB) | ((first | (with_reducible apply qR) | (with_reducible first | apply qA | apply qP | apply qD | apply qE | apply qK) | ((with_reducible first | apply qQ | apply qI | apply qJ | apply qW | apply qX) <;> intro hb <;> (try simp only [hb]) <;> (try simp only [zF] at hb)) | with_reducible refine qO zN mixed (by kernel_rfl) ?_) <;> try simp only [qV, qF, qL, qN, qG, qC, qM, reduceIte, seval, Int.cast_ofNat_Int, qY, qZ, qU, zR, zT, zU, xU, zN, qT m15 wL, hep, hix]))
  refine wI [0, 3, 4, 5] (fun (y : Nat × Nat) => [(6, .int .i64 (y.2 : Int)), (7, .int .i64 (y.1 : Int))])
    (fun w y h' => to + 1 - y.1 = w ∧ ep ≤ y.1 ∧ y.1 ≤ to + 1 ∧ (y.1 = ep → y.2 = ix) ∧ (y.1 ≠ ep → y.2 = 0) ∧ Iv y.1 y.2 h') (to + 1 - ep) (ep, ix) (by simp [lk]) ⟨rfl, Nat.le_refl _, by simp only; omega, fun _ => rfl, fun h => absurd rfl h, ?_⟩ ?_
  · rw [hIv]
    simp only
    rw [fz]
    exact ⟨s05, by trivial, by trivial, by simp, none, 0, m5, [], OWNC.nil _ _ _, rfl, fun i p hp => by simp at hp⟩
  rintro _ ⟨e, i0⟩ hh6 ⟨rfl, hepe, heto, hi1, hi2, iv⟩
  simp only at hepe heto hi1 hi2 iv
  rw [hIv] at iv
  obtain ⟨s6, e16, e26, hlen, a6, c6, m56, ev6⟩ := iv
  have m16 := e16.trans m15
  have m26 := e26.trans m25
  by_cases het : e ≤ to
  case neg =>
    obtain rfl : e = to + 1 := by omega
    obtain rfl : i0 = 0 := hi2 (by omega)
    have d3 : decide (((to + 1 : Nat) : Int) ≤ q.to) = false := decide_eq_false (by omega)
    refine qS ?_; repeat' (first | (with_reducible first | apply qH | apply qB) | ((first | (with_reducible apply qR) | (with_reducible first | apply qA | apply qP | apply qD | apply qE | apply qK) | ((with_reducible first | apply qQ | apply qI | apply qJ | apply qW | apply qX) <;> intro hb <;> (try simp only [hb]) <;> (try simp only [zF] at hb)) | with_reducible refine qO zN mixed (by kernel_rfl) ?_) <;> try simp only [qV, qF, qL, qN, qG, qC, qM, reduceIte, seval, Int.cast_ofNat_Int, qY, qZ, qU, zR, zT, zU, xU, zN, qT m16 wL, d3, zI m56 xG rfl]))
    refine zM m26 xG rfl (by decide) rfl rfl rfl fun hh7 m7 f7 => ?_
    refine qS ?_; repeat' (first | (with_reducible first | apply qH | apply qB) | ((first | (with_reducible apply qR) | (with_reducible first | apply qA | apply qP | apply qD | apply qE | apply qK) | ((with_reducible first | apply qQ | apply qI | apply qJ | apply qW | apply qX) <;> intro hb <;> (try simp only [hb]) <;> (try simp only [zF] at hb)) | with_reducible refine qO zN mixed (by kernel_rfl) ?_) <;> try simp only [qV, qF, qL, qN, qG, qC, qM, reduceIte, seval, Int.cast_ofNat_Int, qY, qZ, qU, zR, zT, zU, xU, zN, zI m7 xG rfl]))
    have hT : gG M ep ix (to + 1) 0 = (gL M ep (to + 1 - ep)).drop ix := by unfold gG; rw [List.take_zero, List.append_nil]
    rw [hT] at hlen ev6 ⊢
    have hn : ((gL M ep (to + 1 - ep)).drop ix)[lm]? = none := List.getElem?_eq_none (by omega)
    rw [hn]
    obtain ⟨ds, o, u, r⟩ := ev6
    have hx : HX k2 hh6 hh7 := fun j B n e => (f7 j n).trans e
    have ev7 : Evs h hh7 (.slice a6 ((gL M ep (to + 1 - ep)).drop ix).length c6) ((gL M ep (to + 1 - ep)).drop ix) := ⟨ds, o.hx m26 (by simp) hx, u, fun i p hp => by
      obtain ⟨a, c, b, d, e, r1, r2⟩ := r i p hp
      exact ⟨a, c, b, d, e, r1.hx m26 rfl hx, r2.hx m26 rfl hx⟩⟩
    exact ⟨⟨none, 0, none, 0, a6, c6, rfl, RB.nil _, RL.nil _, ev7.rl⟩, s6.upd n2' f7⟩
  have d6 : decide ((e : Int) ≤ q.to) = true := decide_eq_true (by omega)
  obtain ⟨y, hy⟩ := vC (show e < M.length by omega)
  have hbe : jI M e = y.2 := uJ hy
  have hb32 := b0 e het
  rw [hbe] at hb32
  have hys := (x.bl y (List.mem_of_getElem? hy)).1
  have wE : IntKind.i64.wrap ((e : Int) + 1) = ((e + 1 : Nat) : Int) := by rw [wrap64 (by omega) (by omega)]; omega
  have hi0 : i0 ≤ y.2.length := by
    by_cases c : e = ep
    · have := hi1 c
      subst c
      rw [hbe] at hxix
      omega
    · have := hi2 c
      omega
  refine qS ?_; repeat' (first | (with_reducible first | apply qH | apply qB) | ((first | (with_reducible apply qR) | (with_reducible first | apply qA | apply qP | apply qD | apply qE | apply qK) | ((with_reducible first | apply qQ | apply qI | apply qJ | apply qW | apply qX) <;> intro hb <;> (try simp only [hb]) <;> (try simp only [zF] at hb)) | with_reducible refine qO zN mixed (by kernel_rfl) ?_) <;> try simp only [qV, qF, qL, qN, qG, qC, qM, reduceIte, seval, Int.cast_ofNat_Int, qY, qZ, qU, zR, zT, zU, xU, zN, qT m16 wL, d6]))
  refine wI [0, 3, 4, 5, 7, 64, 65, 66, 67] (fun (i : Nat) => [(6, .int .i64 (i : Int))]) (fun w i h' => y.2.length - i = w ∧ i ≤ y.2.length ∧ (e = ep → ix ≤ i) ∧ Iv e i h') (y.2.length - i0) i0 (by simp [lk]) ⟨rfl, hi0, fun c => by have := hi1 c; omega, by rw [hIv]; exact ⟨s6, e16, e26, hlen, a6, c6, m56, ev6⟩⟩ ?_
  rintro _ i hh7 ⟨rfl, hi, hge, iv⟩
  rw [hIv] at iv
  obtain ⟨s7, e17, e27, hlen7, a7, c7, m57, ev7⟩ := iv
  have m17 := e17.trans m15
  have m27 := e27.trans m25
  have x7 := x.hs s7
  have ho7 := x7.obj
  obtain ⟨ab7, cb7, kb7, a47, c47, eb7, g57, l57, rl7⟩ := x7.rlb hy
  rw [eb7] at ho7 g57
  by_cases hib : i < y.2.length
  case neg =>
    obtain rfl : i = y.2.length := by omega
    have d4 : decide ((y.2.length : Int) < (y.2.length : Int)) = false := decide_eq_false (by omega)
    refine qS ?_; repeat' (first | (with_reducible first | apply qH | apply qB) | ((first | (with_reducible apply qR) | (with_reducible first | apply qA | apply qP | apply qD | apply qE | apply qK) | ((with_reducible first | apply qQ | apply qI | apply qJ | apply qW | apply qX) <;> intro hb <;> (try simp only [hb]) <;> (try simp only [zF] at hb)) | with_reducible refine qO zN mixed (by kernel_rfl) ?_) <;> try simp only [qV, qF, qL, qN, qG, qC, qM, reduceIte, seval, Int.cast_ofNat_Int, qY, qZ, qU, zR, zT, zU, xU, zN, gNil, qT ho7 kX, g57, l57, d4, wE]))
    refine ⟨_, (e + 1, 0), by simp only; omega, (by simp [lk]), rfl, by simp only; omega, by simp only; omega, fun h => by simp only at h; omega, fun _ => rfl, ?_⟩
    have := qR2 M (ix := ix) hepe
    rw [hbe] at this
    rw [hIv]
    simp only
    rw [← this]
    exact ⟨s7, e17, e27, hlen7, a7, c7, m57, ev7⟩
  have d4' : decide ((i : Int) < (y.2.length : Int)) = true := decide_eq_true (by omega)
  have wi : IntKind.i64.wrap ((i : Int) + 1) = ((i + 1 : Nat) : Int) := by rw [wrap64 (by omega) (by omega)]; omega
  obtain ⟨zz, hz⟩ := vC hib
  have hbi : vI (jI M e) i = zz := by rw [hbe]; simp [vI, hz]
  have hbi' : i < (jI M e).length := by rw [hbe]; exact hib
  obtain ⟨r, hr⟩ := zA1 M hepe het hbi' hge hxix
  by_cases hfull : (gG M ep ix e i).length = lm
  · have d5' : (((gG M ep ix e i).length : Int) == q.lm) = true := by rw [hlm]; simp [hfull]
    have hg : ((gL M ep (to + 1 - ep)).drop ix)[lm]? = some (e, i, vI (jI M e) i) := by rw [hr, ← hfull, List.getElem?_append_right (Nat.le_refl _), Nat.sub_self]; rfl
    have ht : ((gL M ep (to + 1 - ep)).drop ix).take lm = gG M ep ix e i := by rw [hr, ← hfull, List.take_left]
    rw [hg]
    simp only
    rw [ht]
    refine qS ?_; repeat' (first | (with_reducible first | apply qH | apply qB) | ((first | (with_reducible apply qR) | (with_reducible first | apply qA | apply qP | apply qD | apply qE | apply qK) | ((with_reducible first | apply qQ | apply qI | apply qJ | apply qW | apply qX) <;> intro hb <;> (try simp only [hb]) <;> (try simp only [zF] at hb)) | with_reducible refine qO zN mixed (by kernel_rfl) ?_) <;> try simp only [qV, qF, qL, qN, qG, qC, qM, reduceIte, seval, Int.cast_ofNat_Int, qY, qZ, qU, zR, zT, zU, xU, zN, gNil, qT ho7 kX, g57, l57, d4', d5', qT m17 wL, qT m57 dJ]))
    refine vN m57 qH2 rfl (by simp) rfl rfl fun hh10 m10 f10 => ?_
    simp only [List.set_cons_succ, List.set_cons_zero] at m10
    refine qS ?_; repeat' (first | (with_reducible first | apply qH | apply qB) | ((first | (with_reducible apply qR) | (with_reducible first | apply qA | apply qP | apply qD | apply qE | apply qK) | ((with_reducible first | apply qQ | apply qI | apply qJ | apply qW | apply qX) <;> intro hb <;> (try simp only [hb]) <;> (try simp only [zF] at hb)) | with_reducible refine qO zN mixed (by kernel_rfl) ?_) <;> try simp only [qV, qF, qL, qN, qG, qC, qM, reduceIte, seval, Int.cast_ofNat_Int, qY, qZ, qU, zR, zT, zU, xU, zN]))
    refine vN m10 wL rfl (by simp) rfl rfl fun hh11 m11 f11 => ?_
    simp only [List.set_cons_succ, List.set_cons_zero] at m11
    refine qS ?_; repeat' (first | (with_reducible first | apply qH | apply qB) | ((first | (with_reducible apply qR) | (with_reducible first | apply qA | apply qP | apply qD | apply qE | apply qK) | ((with_reducible first | apply qQ | apply qI | apply qJ | apply qW | apply qX) <;> intro hb <;> (try simp only [hb]) <;> (try simp only [zF] at hb)) | with_reducible refine qO zN mixed (by kernel_rfl) ?_) <;> try simp only [qV, qF, qL, qN, qG, qC, qM, reduceIte, seval, Int.cast_ofNat_Int, qY, qZ, qU, zR, zT, zU, xU, zN]))
    refine vN m11 wL rfl (by simp) rfl rfl fun hh12 m12 f12 => ?_
    simp only [List.set_cons_succ, List.set_cons_zero] at m12
    have hx12 : HX k5 hh7 hh12 := fun j B n e => ((f12 j n).trans ((f11 j n).trans (f10 j n))).trans e
    have s12' : HS h hh12 := s7.upd n5' fun j hj => (f12 j hj).trans ((f11 j hj).trans (f10 j hj))
    have m212 := hx12 _ _ (Ne.symm k5k2) m27
    have ev12 : Evs h hh12 (.slice a7 (gG M ep ix e i).length c7) (gG M ep ix e i) := by
      obtain ⟨ds, o, u, r⟩ := ev7
      exact ⟨ds, o.hx m57 (by simp) hx12, u, fun i p hp => by
        obtain ⟨a, c, b, d, e, r1, r2⟩ := r i p hp
        exact ⟨a, c, b, d, e, r1.hx m57 rfl hx12, r2.hx m57 rfl hx12⟩⟩
    refine qS ?_; repeat' (first | (with_reducible first | apply qH | apply qB) | ((first | (with_reducible apply qR) | (with_reducible first | apply qA | apply qP | apply qD | apply qE | apply qK) | ((with_reducible first | apply qQ | apply qI | apply qJ | apply qW | apply qX) <;> intro hb <;> (try simp only [hb]) <;> (try simp only [zF] at hb)) | with_reducible refine qO zN mixed (by kernel_rfl) ?_) <;> try simp only [qV, qF, qL, qN, qG, qC, qM, reduceIte, seval, Int.cast_ofNat_Int, qY, qZ, qU, zR, zT, zU, xU, zN, zI m12 xG rfl]))
    refine zM m212 xG rfl (by decide) rfl rfl rfl fun hh13 m13 f13 => ?_
    refine qS ?_; repeat' (first | (with_reducible first | apply qH | apply qB) | ((first | (with_reducible apply qR) | (with_reducible first | apply qA | apply qP | apply qD | apply qE | apply qK) | ((with_reducible first | apply qQ | apply qI | apply qJ | apply qW | apply qX) <;> intro hb <;> (try simp only [hb]) <;> (try simp only [zF] at hb)) | with_reducible refine qO zN mixed (by kernel_rfl) ?_) <;> try simp only [qV, qF, qL, qN, qG, qC, qM, reduceIte, seval, Int.cast_ofNat_Int, qY, qZ, qU, zR, zT, zU, xU, zN, zI m13 xG rfl]))
    have hx : HX k2 hh12 hh13 := fun j B n e => (f13 j n).trans e
    obtain ⟨ds, o, u, r'⟩ := ev12
    have ev13 : Evs h hh13 (.slice a7 (gG M ep ix e i).length c7) (gG M ep ix e i) := ⟨ds, o.hx m212 (by simp) hx, u, fun i p hp => by
      obtain ⟨a, c, b, d, e, r1, r2⟩ := r' i p hp
      exact ⟨a, c, b, d, e, r1.hx m212 rfl hx, r2.hx m212 rfl hx⟩⟩
    exact ⟨⟨none, 0, none, 0, a7, c7, rfl, RB.nil _, RL.nil _, ev13.rl⟩, s12'.upd n2' f13⟩
  have hlt : (gG M ep ix e i).length < lm := by omega
  have d5' : (((gG M ep ix e i).length : Int) == q.lm) = false := by rw [hlm, beq_eq_false_iff_ne]; omega
  have hzs := hys zz (List.mem_of_getElem? hz)
  have hnext := qR1 M hepe hbi' hge hxix
  rw [hbi] at hnext
  obtain ⟨ad, cs2, g1, g2, a', n', c', b', m', d', rfl, q1, q2⟩ := rl7.at (P := Try.prog) Try.underlying23 uQ hz
  have l1 : xM Try.prog 99 hh7 (.pointer (some ad)) = some (.agg #[.slice a' n' c', .slice b' m' d']) := by simp only [xM, uQ, g2]; rfl
  have e1' := q1.len_eq
  have e2' := q2.len_eq
  subst e1'
  subst e2'
  refine qS ?_; repeat' (first | (with_reducible first | apply qH | apply qB) | ((first | (with_reducible apply qR) | (with_reducible first | apply qA | apply qP | apply qD | apply qE | apply qK) | ((with_reducible first | apply qQ | apply qI | apply qJ | apply qW | apply qX) <;> intro hb <;> (try simp only [hb]) <;> (try simp only [zF] at hb)) | with_reducible refine qO zN mixed (by kernel_rfl) ?_) <;> try simp only [qV, qF, qL, qN, qG, qC, qM, reduceIte, seval, Int.cast_ofNat_Int, qY, qZ, qU, zR, zT, zU, xU, zN, gNil, qT ho7 kX, g57, l57, d4', d5', g1, l1, qT m17 wL, qT m57 dJ]))
  refine xW fun k8 hh8 m8 s8 f8 n8 => ?_
  refine qS ?_; repeat' (first | (with_reducible first | apply qH | apply qB) | ((first | (with_reducible apply qR) | (with_reducible first | apply qA | apply qP | apply qD | apply qE | apply qK) | ((with_reducible first | apply qQ | apply qI | apply qJ | apply qW | apply qX) <;> intro hb <;> (try simp only [hb]) <;> (try simp only [zF] at hb)) | with_reducible refine qO zN mixed (by kernel_rfl) ?_) <;> try simp only [qV, qF, qL, qN, qG, qC, qM, reduceIte, seval, Int.cast_ofNat_Int, qY, qZ, qU, zR, zT, zU, xU, zN]))
  refine zM m8 uQ rfl (by decide) rfl rfl rfl fun hh9 m9 f9 => ?_
  have s9 : HS hh7 hh9 := (HS.refl hh7).upd n8 (fun j hj => (f9 j hj).trans (f8 j hj))
  have m59 := s9 _ _ m57
  have iz : (!(#[] : Array (Nat × Operand)).size == 0) = false := rfl
  refine qS ?_; repeat' (first | (with_reducible first | apply qH | apply qB) | ((first | (with_reducible apply qR) | (with_reducible first | apply qA | apply qP | apply qD | apply qE | apply qK) | ((with_reducible first | apply qQ | apply qI | apply qJ | apply qW | apply qX) <;> intro hb <;> (try simp only [hb]) <;> (try simp only [zF] at hb)) | with_reducible refine qO zN mixed (by kernel_rfl) ?_) <;> try simp only [qV, qF, qL, qN, qG, qC, qM, reduceIte, seval, Int.cast_ofNat_Int, qY, qZ, qU, zR, zT, zU, xU, zN, iz, qT m9 wK, qT m59 dJ]))
  refine tH fG rfl ?_
  refine qS ?_; repeat' (first | (with_reducible first | apply qH | apply qB) | ((first | (with_reducible apply qR) | (with_reducible first | apply qA | apply qP | apply qD | apply qE | apply qK) | ((with_reducible first | apply qQ | apply qI | apply qJ | apply qW | apply qX) <;> intro hb <;> (try simp only [hb]) <;> (try simp only [zF] at hb)) | with_reducible refine qO zN mixed (by kernel_rfl) ?_) <;> try simp only [qV, qF, qL, qN, qG, qC, qM, reduceIte, seval, Int.cast_ofNat_Int, qY, qZ, qU, zR, zT, zU, xU, zN, iz, qT m9 wK, qT m59 dJ]))
  refine tH fG rfl ?_
  refine qS ?_; repeat' (first | (with_reducible first | apply qH | apply qB) | ((first | (with_reducible apply qR) | (with_reducible first | apply qA | apply qP | apply qD | apply qE | apply qK) | ((with_reducible first | apply qQ | apply qI | apply qJ | apply qW | apply qX) <;> intro hb <;> (try simp only [hb]) <;> (try simp only [zF] at hb)) | with_reducible refine qO zN mixed (by kernel_rfl) ?_) <;> try simp only [qV, qF, qL, qN, qG, qC, qM, reduceIte, seval, Int.cast_ofNat_Int, qY, qZ, qU, zR, zT, zU, xU, zN, iz, qT m9 wK, qT m59 dJ]))
  refine kN fG Try.underlying24 rfl (HS.refl hh9) (OWN.zero _ _ _) (q1.hs s9).src (by simpa using hzs.1) fun v10 hh10 s10 _ o10 => ?_
  rw [List.nil_append] at o10
  obtain ⟨a10, c10, rfl⟩ := o10.form
  refine qS ?_; repeat' (first | (with_reducible first | apply qH | apply qB) | ((first | (with_reducible apply qR) | (with_reducible first | apply qA | apply qP | apply qD | apply qE | apply qK) | ((with_reducible first | apply qQ | apply qI | apply qJ | apply qW | apply qX) <;> intro hb <;> (try simp only [hb]) <;> (try simp only [zF] at hb)) | with_reducible refine qO zN mixed (by kernel_rfl) ?_) <;> try simp only [qV, qF, qL, qN, qG, qC, qM, reduceIte, seval, Int.cast_ofNat_Int, qY, qZ, qU, zR, zT, zU, xU, zN, iz, qT (s10 _ _ m9) wK, qT (s10 _ _ m59) dJ]))
  refine kN fG Try.underlying24 rfl (HS.refl hh10) (OWN.zero _ _ _) ((q2.hs s9).hs s10).src (by simpa using hzs.2) fun v11 hh11 s11 _ o11 => ?_
  rw [List.nil_append] at o11
  obtain ⟨a11, c11, rfl⟩ := o11.form
  have s911 := s10.trans s11
  refine qS ?_; repeat' (first | (with_reducible first | apply qH | apply qB) | ((first | (with_reducible apply qR) | (with_reducible first | apply qA | apply qP | apply qD | apply qE | apply qK) | ((with_reducible first | apply qQ | apply qI | apply qJ | apply qW | apply qX) <;> intro hb <;> (try simp only [hb]) <;> (try simp only [zF] at hb)) | with_reducible refine qO zN mixed (by kernel_rfl) ?_) <;> try simp only [qV, qF, qL, qN, qG, qC, qM, reduceIte, seval, Int.cast_ofNat_Int, qY, qZ, qU, zR, zT, zU, xU, zN, iz, Bool.false_and, Bool.not_false, qT (s911 _ _ m9) wK, qT (s911 _ _ m59) dJ, xL, xT, vB, Shape.pl, List.all_cons, List.all_nil, zA]))
  refine fH el36 rfl rfl (by decide) (by decide) rfl fun k12 hh12 b12 s12' f12 n12 => ?_
  have s912 := s911.trans s12'
  have s712 := (s7.trans s9).trans s912
  obtain ⟨ds, o12, u12, r12⟩ := (ev7.hs s9).hs s912
  refine qS ?_; repeat' (first | (with_reducible first | apply qH | apply qB) | ((first | (with_reducible apply qR) | (with_reducible first | apply qA | apply qP | apply qD | apply qE | apply qK) | ((with_reducible first | apply qQ | apply qI | apply qJ | apply qW | apply qX) <;> intro hb <;> (try simp only [hb]) <;> (try simp only [zF] at hb)) | with_reducible refine qO zN mixed (by kernel_rfl) ?_) <;> try simp only [qV, qF, qL, qN, qG, qC, qM, reduceIte, seval, Int.cast_ofNat_Int, qY, qZ, qU, zR, zT, zU, xU, zN, qT (s912 _ _ m9) wK, qT (s912 _ _ m59) dJ]))
  refine wJ el36 Try.underlying36 rfl s712 o12 b12 rfl rfl (by omega) (by simp only [maxLen]; omega) fun v13 hh13 s13 fr13 o13 => ?_
  obtain ⟨a13, c13, rfl⟩ := o13.form
  have m513 := tV fr13 (s912 _ _ m59) (by simp)
  have m113 := tV fr13 (s912 _ _ (s9 _ _ m17)) (by simp)
  have m213 := tV fr13 (s912 _ _ (s9 _ _ m27)) (by simp)
  refine qS ?_; repeat' (first | (with_reducible first | apply qH | apply qB) | ((first | (with_reducible apply qR) | (with_reducible first | apply qA | apply qP | apply qD | apply qE | apply qK) | ((with_reducible first | apply qQ | apply qI | apply qJ | apply qW | apply qX) <;> intro hb <;> (try simp only [hb]) <;> (try simp only [zF] at hb)) | with_reducible refine qO zN mixed (by kernel_rfl) ?_) <;> try simp only [qV, qF, qL, qN, qG, qC, qM, reduceIte, seval, Int.cast_ofNat_Int, qY, qZ, qU, zR, zT, zU, xU, zN, qT m513 dJ]))
  refine vN m513 dJ rfl (by simp) rfl rfl fun hh14 m14 f14 => ?_
  simp only [List.set_cons_succ, List.set_cons_zero] at m14
  refine qS ?_; repeat' (first | (with_reducible first | apply qH | apply qB) | ((first | (with_reducible apply qR) | (with_reducible first | apply qA | apply qP | apply qD | apply qE | apply qK) | ((with_reducible first | apply qQ | apply qI | apply qJ | apply qW | apply qX) <;> intro hb <;> (try simp only [hb]) <;> (try simp only [zF] at hb)) | with_reducible refine qO zN mixed (by kernel_rfl) ?_) <;> try simp only [qV, qF, qL, qN, qG, qC, qM, reduceIte, seval, Int.cast_ofNat_Int, qY, qZ, qU, zR, zT, zU, xU, zN, wi]))
  have hx : HX k5 hh13 hh14 := fun j B n e => (f14 j n).trans e
  have keep : ∀ {q : List Value} {ee : Nat × Nat × Bnd}, Ev hh12 q ee → Ev hh14 q ee := fun {q ee} w => by
    obtain ⟨a, c, b, d, e, r1, r2⟩ := w
    exact ⟨a, c, b, d, e, (jW fr13 u12 r1).hx m513 rfl hx, (jW fr13 u12 r2).hx m513 rfl hx⟩
  have newe : Ev hh12 [.int .i64 (e : Int), .int .i64 (i : Int), .slice a10 zz.1.length c10, .slice a11 zz.2.length c11] (e, i, zz) := ⟨a10, c10, a11, c11, rfl, (o10.rb.hs s11).hs s12', o11.rb.hs s12'⟩
  refine ⟨_, i + 1, by omega, (by simp only [List.forall_mem_cons, List.not_mem_nil, false_implies, implies_true, List.map, List.cons_append, List.nil_append, lk, Nat.reduceEqDiff, reduceIte, and_true, true_and]), rfl, by omega, fun h => by have := hge h; omega, ?_⟩
  rw [hIv, hnext]
  have hl1 : (gG M ep ix e i ++ [(e, i, zz)]).length = (gG M ep ix e i).length + 1 := by simp
  rw [hl1]
  refine ⟨s13.upd n5' f14, ?_, ?_, by omega, a13, c13, m14, ds ++ [.int .i64 (e : Int), .int .i64 (i : Int), .slice a10 zz.1.length c10, .slice a11 zz.2.length c11], ?_, by rw [List.all_append, u12]; rfl, ?_⟩
  · rw [f14 _ (Ne.symm k5k1), m113, m15]
  · rw [f14 _ (Ne.symm k5k2), m213, m25]
  · rw [hl1]; exact o13.hx m513 (by simp) hx
  · exact dX (R := Ev hh14) o12.len rfl (fun i p hp => keep (r12 i p hp)) (keep newe)
end
theorem vE : type_of% (And.intro wT (And.intro wN (And.intro yX (And.intro yB (And.intro yW (And.intro yV (And.intro jZ (And.intro gH (And.intro yL (And.intro wZ (And.intro uP (And.intro jV (And.intro dZ rs88))))))))))))) := And.intro wT (And.intro wN (And.intro yX (And.intro yB (And.intro yW (And.intro yV (And.intro jZ (And.intro gH (And.intro yL (And.intro wZ (And.intro uP (And.intro jV (And.intro dZ rs88))))))))))))
theorem sps_up (id : List UInt8) : ∀ (Ms : List (List Bnd)) (s : Nat), (∀ b ∈ Ms, dis b) → (uZ s Ms id).Pairwise fun a b => a.1 < b.1
  | [], s, _ => by simp [uZ]
  | c :: Ms, s, hd => by
    simp only [uZ, List.pairwise_append]
    refine ⟨?_, sps_up id Ms (s + 1) fun b hb => hd b (List.mem_cons_of_mem _ hb), fun a ha b hb => ?_⟩
    · rcases qI6 (hd c List.mem_cons_self) id c.length (Nat.le_refl _) (ep := s) with h | ⟨p, h⟩
      · rw [h]; exact List.Pairwise.nil
      · rw [h]; exact List.pairwise_singleton _ _
    · have h1 := (fR ha).1
      have h2 := (jS hb).1
      omega
theorem zB2 {s : List (Nat × Nat)} (r : tG s) {e : Int} {ep : Nat} (h : qN7 s e = some ep) : ∀ q ∈ s, (q.1 : Int) ≤ e → q.1 ≤ ep := fun q hq hqe => by
  unfold qN7 at h
  obtain ⟨p, h1, h2⟩ := Option.map_eq_some_iff.1 h
  obtain ⟨ys, hy⟩ := List.getLast?_eq_some_iff.1 h1
  have hm : q ∈ s.filter fun p => decide ((p.1 : Int) ≤ e) := List.mem_filter.2 ⟨hq, decide_eq_true hqe⟩
  have pw : (s.filter fun p => decide ((p.1 : Int) ≤ e)).Pairwise fun a b => a.1 ≤ b.1 := List.Pairwise.sublist List.filter_sublist (ris_pw r)
  rw [hy] at hm pw
  rcases List.mem_append.1 hm with hm | hm
  · have := (List.pairwise_append.1 pw).2.2 q hm p (by simp)
    omega
  · obtain rfl := List.mem_singleton.1 hm
    omega
def tN (M : List (Int × List Bnd)) (q : Ak) (e : Int) : List Itm := (((uZ 0 (M.map (·.2)) q.id).filter fun p => decide ((p.1 : Int) > q.fr) && decide ((p.1 : Int) ≤ e)).reverse).map (vit M q.id)
theorem versT_to (M : List (Int × List Bnd)) (q : Ak) : tN M q q.to = fU M q := by
  unfold tN fU sU
  rw [List.drop_zero]; rfl
section
variable {M : List (Int × List Bnd)} {q : Ak} {e : Int}
theorem mR (h : ∀ p ∈ uZ 0 (M.map (·.2)) q.id, (p.1 : Int) > q.fr → ¬ (p.1 : Int) ≤ e) : tN M q e = [] := by
  unfold tN
  rw [List.filter_eq_nil_iff.2 fun p hp => ?_]
  · rfl
  · simp only [Bool.and_eq_true, decide_eq_true_eq, not_and]
    exact h p hp
theorem qT3 (h : dY M q.id e = none) : tN M q e = [] := mR fun p hp _ hle => by
  unfold dY at h
  rw [Option.map_eq_none_iff] at h
  unfold qN7 at h
  rw [Option.map_eq_none_iff, List.getLast?_eq_none_iff, List.filter_eq_nil_iff] at h
  exact h p hp (decide_eq_true hle)
theorem zB6 {key : List UInt8} {ep : Nat} (h : dY M q.id e = some (key, ep)) (hf : (ep : Int) ≤ q.fr) : tN M q e = [] := mR fun p hp h1 h2 => by
  unfold dY at h
  obtain ⟨ep', g1, g2⟩ := Option.map_eq_some_iff.1 h
  cases g2
  have := zB2 (sD _ _ 0) g1 p hp h2
  omega
theorem qT2 (hd : ∀ b ∈ M.map (·.2), dis b) {key : List UInt8} {ep : Nat} (h : dY M q.id e = some (key, ep)) (hf : ¬ (ep : Int) ≤ q.fr) : tN M q e = ((q.id, key), ep) :: tN M q ((ep : Int) - 1) := by
  obtain ⟨pp, hpp, hpe, hle⟩ := mN h
  have hk : key = rC (jI M ep) q.id := by
    unfold dY at h
    obtain ⟨ep', g1, g2⟩ := Option.map_eq_some_iff.1 h
    cases g2
    rfl
  have mx : ∀ z ∈ uZ 0 (M.map (·.2)) q.id, (z.1 : Int) ≤ e → z.1 ≤ ep := by
    unfold dY at h
    obtain ⟨ep', g1, g2⟩ := Option.map_eq_some_iff.1 h
    cases g2
    exact zB2 (sD _ _ 0) g1
  have up := sps_up q.id (M.map (·.2)) 0 hd
  unfold tN
  generalize uZ 0 (M.map (·.2)) q.id = s at hpp mx up
  obtain ⟨s1, s2, rfl⟩ := List.append_of_mem hpp
  rw [List.pairwise_append, List.pairwise_cons] at up
  obtain ⟨u1, ⟨u2, u3⟩, u4⟩ := up
  rw [List.filter_append, List.filter_append, List.filter_cons, List.filter_cons]
  have c1 : (decide ((pp.1 : Int) > q.fr) && decide ((pp.1 : Int) ≤ e)) = true := by rw [decide_eq_true (show (pp.1 : Int) > q.fr by omega), decide_eq_true (show (pp.1 : Int) ≤ e by omega)]; rfl
  have c2 : ¬ (decide ((pp.1 : Int) > q.fr) && decide ((pp.1 : Int) ≤ (ep : Int) - 1)) = true := by rw [decide_eq_false (show ¬ (pp.1 : Int) ≤ (ep : Int) - 1 by omega), Bool.and_false]; simp
  rw [if_pos c1, if_neg c2]
  have e2 : ∀ t : Int, t ≤ e → (s2.filter fun p => decide ((p.1 : Int) > q.fr) && decide ((p.1 : Int) ≤ t)) = [] := fun t ht => List.filter_eq_nil_iff.2 fun z hz => by
    have h1 := u2 z hz
    have h2 := mx z (by simp [hz])
    simp only [Bool.and_eq_true, decide_eq_true_eq, not_and]
    omega
  rw [e2 e (Int.le_refl _), e2 ((ep : Int) - 1) (by omega), List.append_nil]
  have e1 : (s1.filter fun p => decide ((p.1 : Int) > q.fr) && decide ((p.1 : Int) ≤ e)) = s1.filter fun p => decide ((p.1 : Int) > q.fr) && decide ((p.1 : Int) ≤ (ep : Int) - 1) := by
    refine List.filter_congr fun z hz => ?_
    have h1 := u4 z hz pp (by simp)
    congr 1
    rw [decide_eq_decide]
    omega
  rw [e1, List.reverse_append, List.map_append]
  have : vit M q.id pp = ((q.id, key), ep) := by unfold vit; rw [hk, hpe]
  rw [List.reverse_singleton, List.map_singleton, this]; rfl
end
section
variable {h0 h : GH} {k : Nat} {p : Pm} {tv bv : Value} {ts cs : List Value} {M : List (Int × List Bnd)} {ck : Int}
theorem RM.dis (x : RM h0 h k p tv bv ts cs M ck) : ∀ b ∈ M.map (·.2), Go.Gh.dis b := fun b hb => by
  obtain ⟨y, hy, rfl⟩ := List.mem_map.1 hb
  rcases x.di y hy with h | h
  · rw [h]; exact List.Pairwise.nil
  · exact (mJ h).1
theorem qR9 (N : Nat) (x : RM h0 h k p tv bv ts cs M ck) {a : Option Addr} {c : Nat} (q : Ak) (r : RB h (.slice a q.id.length c) q.id) (h1 : 0 ≤ q.fr) (h2 : q.fr ≤ q.to) (h3 : q.to < (M.length : Int)) (h4 : 1 ≤ q.lm ∧ q.lm ≤ 32)
    {c0 c4 c5 c6 c7 c9 : Value} (hc : [c0, c4, c5, c6, c7, c9].all zA = true) :
    GTri Try.prog N 88 [.pointer (some ⟨k, 0, none⟩), .agg #[c0, .slice a q.id.length c, .int .i64 q.fr, .int .i64 q.to, c4, c5, c6, c7, .int .i64 q.lm, c9]] h fun v h' => RAn h' v (fJ q (fU M q)) ∧ HS h h' := by
  have hML := x.len
  obtain ⟨lm, hlm⟩ : ∃ lm : Nat, q.lm = (lm : Int) := ⟨q.lm.toNat, by omega⟩
  have hlmt : q.lm.toNat = lm := by omega
  refine wQ Try.func88 rfl gf88 ok88 (by simp [Try.ntmps88]) ?_
  repeat' (first | (with_reducible first | apply qH | apply qB) | ((first | (with_reducible first | apply qA | apply qP | apply qD | apply qE | apply qK) | ((with_reducible first | apply qQ | apply qI | apply qJ) <;> intro hb <;> (try simp only [hb]) <;> (try simp only [zF] at hb))) <;> try simp only [qV, qF, qL, qN, qG, qC, qM, reduceIte, seval, Int.cast_ofNat_Int, qY, qZ, vE]))
  refine wY (by simpa [zA] using hc) fun k1 hh1 m1 s1 f1 n1 => ?_
  refine qS ?_; repeat' (first | (with_reducible first | apply qH | apply qB) | ((first | (with_reducible apply qR) | (with_reducible first | apply qA | apply qP | apply qD | apply qE | apply qK) | ((with_reducible first | apply qQ | apply qI | apply qJ) <;> intro hb <;> (try simp only [hb]) <;> (try simp only [zF] at hb))) <;> try simp only [qV, qF, qL, qN, qG, qC, qM, reduceIte, seval, Int.cast_ofNat_Int, qY, qZ, vE]))
  refine xW fun k2 hh2 m2 s2 f2 n2 => ?_
  replace m1 := s2 _ _ m1
  have s12 := s1.trans s2
  have n2' := s1.none_of n2
  refine qS ?_; repeat' (first | (with_reducible first | apply qH | apply qB) | ((first | (with_reducible apply qR) | (with_reducible first | apply qA | apply qP | apply qD | apply qE | apply qK) | ((with_reducible first | apply qQ | apply qI | apply qJ) <;> intro hb <;> (try simp only [hb]) <;> (try simp only [zF] at hb))) <;> try simp only [qV, qF, qL, qN, qG, qC, qM, reduceIte, seval, Int.cast_ofNat_Int, qY, qZ, vE, xL, xT, vB, Shape.pl, List.all_cons, List.all_nil, zA]))
  refine xW fun k5 hh4 m4 s4 f4 n4 => ?_
  refine qS ?_; repeat' (first | (with_reducible first | apply qH | apply qB) | ((first | (with_reducible apply qR) | (with_reducible first | apply qA | apply qP | apply qD | apply qE | apply qK) | ((with_reducible first | apply qQ | apply qI | apply qJ) <;> intro hb <;> (try simp only [hb]) <;> (try simp only [zF] at hb))) <;> try simp only [qV, qF, qL, qN, qG, qC, qM, reduceIte, seval, Int.cast_ofNat_Int, qY, qZ, vE, xL, xT, vB, Shape.pl, List.all_cons, List.all_nil, zA]))
  refine zM m4 xG rfl (by decide) rfl rfl rfl fun hh5 m5 f5 => ?_
  have s5 : HS hh2 hh5 := (HS.refl hh2).upd n4 (fun j hj => (f5 j hj).trans (f4 j hj))
  have m15 := s5 _ _ m1
  have m25 := s5 _ _ m2
  have s05 := s12.trans s5
  have n5' := s12.none_of n4
  have k5k1 : k5 ≠ k1 := fun q => by subst q; rw [m1] at n4; cases n4
  have k5k2 : k5 ≠ k2 := fun q => by subst q; rw [m2] at n4; cases n4
  have hbn : tI k5 hh5 k5 = none := hide_k k5 hh5
  have sb : HS h (tI k5 hh5) := qA7 s05 n5'
  have b1 : tI k5 hh5 k1 = _ := (qA7 s5 n4) _ _ m1
  have b2 : tI k5 hh5 k2 = _ := (qA7 s5 n4) _ _ m2
  have sb5 : HS (tI k5 hh5) hh5 := qY9 k5 hh5
  generalize hbd : tI k5 hh5 = hb at *
  have xb := x.hs sb
  have rb' := r.hs sb
  refine qS ?_; repeat' (first | (with_reducible first | apply qH | apply qB) | ((first | (with_reducible apply qR) | (with_reducible first | apply qA | apply qP | apply qD | apply qE | apply qK) | ((with_reducible first | apply qQ | apply qI | apply qJ) <;> intro hb <;> (try simp only [hb]) <;> (try simp only [zF] at hb))) <;> try simp only [qV, qF, qL, qN, qG, qC, qM, reduceIte, seval, Int.cast_ofNat_Int, qY, qZ, vE, qT m15 wL]))
  refine wI [0, 3, 4, 5] (fun (e : Int) => [(6, .int .i64 e)])
    (fun w e h' => e.toNat = w ∧ e ≤ q.to ∧ HS hb h' ∧ ∃ (got : List Itm) (a5 : Option Addr) (c5 : Nat), fU M q = got ++ tN M q e ∧ got.length ≤ lm ∧ h' k5 = some ⟨[.int .i64 0, .int .i64 0, .bool false, .bool false, .slice none 0 0, .int .i64 0, .slice a5 got.length c5, .slice none 0 0, .bool false], 0, true, false⟩ ∧ Its hb h' (.slice a5 got.length c5) got) q.to.toNat q.to (by simp [lk])
    ⟨rfl, Int.le_refl _, sb5, [], none, 0, by rw [versT_to]; rfl, by simp, m5, [], OWNC.nil _ _ _, rfl, fun i p hp => by simp at hp⟩ ?_
  rintro _ e hh6 ⟨rfl, het, s6, got, a5, c5, hL, hgl, m56, ig6⟩
  have m16 := s6 _ _ b1
  have m26 := s6 _ _ b2
  have fin : ∀ {hA h' : GH}, HS hh6 hA → (∀ j, j ≠ k2 → h' j = hA j) → HS h h' ∧ RL 3 It h' (.slice a5 got.length c5) got := fun {hA h'} sA f => by
    have hx : HX k2 hA h' := fun j B n e => (f j n).trans e
    have mA := sA _ _ m26
    obtain ⟨ds, o, u, r'⟩ := ig6.hs sA
    refine ⟨((sb.trans s6).trans sA).upd n2' f, ?_⟩
    have ig' : Its hb h' (.slice a5 got.length c5) got := ⟨ds, o.hx mA (by simp) hx, u, fun i p hp => by
      obtain ⟨a, c, b, d, e, r1, r2⟩ := r' i p hp
      exact ⟨a, c, b, d, e, r1.hx mA rfl hx, r2.hx mA rfl hx⟩⟩
    exact ig'.rl
  have done : tN M q e = [] → fJ q (fU M q) = { its := got } := fun hn => by
    rw [hn, List.append_nil] at hL
    rw [hL]
    unfold fJ
    rw [hlmt, List.take_of_length_le hgl, decide_eq_false (by omega)]
  by_cases hef : e > q.fr
  case neg =>
    have d1 : decide (e > q.fr) = false := decide_eq_false hef
    refine qS ?_; repeat' (first | (with_reducible first | apply qH | apply qB) | ((first | (with_reducible apply qR) | (with_reducible first | apply qA | apply qP | apply qD | apply qE | apply qK) | ((with_reducible first | apply qQ | apply qI | apply qJ) <;> intro hb <;> (try simp only [hb]) <;> (try simp only [zF] at hb))) <;> try simp only [qV, qF, qL, qN, qG, qC, qM, reduceIte, seval, Int.cast_ofNat_Int, qY, qZ, vE, d1, qT m16 wL, zI m56 xG rfl]))
    refine zM m26 xG rfl (by decide) rfl rfl rfl fun hh7 m7 f7 => ?_
    refine qS ?_; repeat' (first | (with_reducible first | apply qH | apply qB) | ((first | (with_reducible apply qR) | (with_reducible first | apply qA | apply qP | apply qD | apply qE | apply qK) | ((with_reducible first | apply qQ | apply qI | apply qJ) <;> intro hb <;> (try simp only [hb]) <;> (try simp only [zF] at hb))) <;> try simp only [qV, qF, qL, qN, qG, qC, qM, reduceIte, seval, Int.cast_ofNat_Int, qY, qZ, vE, zI m7 xG rfl]))
    obtain ⟨z1, z2⟩ := fin (HS.refl _) f7
    rw [done (mR fun p _ g1 g2 => by omega)]
    exact ⟨⟨none, 0, a5, c5, none, 0, rfl, RB.nil _, z2, RL.nil _⟩, z1⟩
  have d1 : decide (e > q.fr) = true := decide_eq_true hef
  refine qS ?_; repeat' (first | (with_reducible first | apply qH | apply qB) | ((first | (with_reducible apply qR) | (with_reducible first | apply qA | apply qP | apply qD | apply qE | apply qK) | ((with_reducible first | apply qQ | apply qI | apply qJ) <;> intro hb <;> (try simp only [hb]) <;> (try simp only [zF] at hb))) <;> try simp only [qV, qF, qL, qN, qG, qC, qM, reduceIte, seval, Int.cast_ofNat_Int, qY, qZ, vE, d1, qT m16 wL, qT m16 wK]))
  refine (qN2 N (xb.hs s6) (rb'.hs s6) e (by omega)).mono ?_
  rintro v7 hh7 ⟨r7, s7⟩
  unfold AtT at r7
  have m17 := s7 _ _ m16
  have m27 := s7 _ _ m26
  have m57 := s7 _ _ m56
  cases hA : dY M q.id e with
  | none =>
    rw [hA] at r7
    simp only at r7
    subst r7
    refine qS ?_; repeat' (first | (with_reducible first | apply qH | apply qB) | ((first | (with_reducible apply qR) | (with_reducible first | apply qA | apply qP | apply qD | apply qE | apply qK) | ((with_reducible first | apply qQ | apply qI | apply qJ) <;> intro hb <;> (try simp only [hb]) <;> (try simp only [zF] at hb))) <;> try simp only [qV, qF, qL, qN, qG, qC, qM, reduceIte, seval, Int.cast_ofNat_Int, qY, qZ, vE]))
    refine xW fun k8 hh8 m8 s8 f8 n8 => ?_
    refine qS ?_; repeat' (first | (with_reducible first | apply qH | apply qB) | ((first | (with_reducible apply qR) | (with_reducible first | apply qA | apply qP | apply qD | apply qE | apply qK) | ((with_reducible first | apply qQ | apply qI | apply qJ) <;> intro hb <;> (try simp only [hb]) <;> (try simp only [zF] at hb))) <;> try simp only [qV, qF, qL, qN, qG, qC, qM, reduceIte, seval, Int.cast_ofNat_Int, qY, qZ, vE]))
    refine zM m8 yY rfl (by decide) rfl rfl rfl fun hh9 m9 f9 => ?_
    have s9 : HS hh7 hh9 := (HS.refl hh7).upd n8 (fun j hj => (f9 j hj).trans (f8 j hj))
    refine qS ?_; repeat' (first | (with_reducible first | apply qH | apply qB) | ((first | (with_reducible apply qR) | (with_reducible first | apply qA | apply qP | apply qD | apply qE | apply qK) | ((with_reducible first | apply qQ | apply qI | apply qJ) <;> intro hb <;> (try simp only [hb]) <;> (try simp only [zF] at hb))) <;> try simp only [qV, qF, qL, qN, qG, qC, qM, reduceIte, seval, Int.cast_ofNat_Int, qY, qZ, vE, gPick, Bool.not_false, zI (s9 _ _ m57) xG rfl]))
    refine zM (s9 _ _ m27) xG rfl (by decide) rfl rfl rfl fun hh10 m10 f10 => ?_
    refine qS ?_; repeat' (first | (with_reducible first | apply qH | apply qB) | ((first | (with_reducible apply qR) | (with_reducible first | apply qA | apply qP | apply qD | apply qE | apply qK) | ((with_reducible first | apply qQ | apply qI | apply qJ) <;> intro hb <;> (try simp only [hb]) <;> (try simp only [zF] at hb))) <;> try simp only [qV, qF, qL, qN, qG, qC, qM, reduceIte, seval, Int.cast_ofNat_Int, qY, qZ, vE, zI m10 xG rfl]))
    obtain ⟨z1, z2⟩ := fin (s7.trans s9) f10
    rw [done (qT3 hA)]
    exact ⟨⟨none, 0, a5, c5, none, 0, rfl, RB.nil _, z2, RL.nil _⟩, z1⟩
  | some z =>
    obtain ⟨key, ep⟩ := z
    rw [hA] at r7
    simp only at r7
    obtain ⟨ai, ci, ak, ck', rfl, r8, r9⟩ := r7
    refine qS ?_; repeat' (first | (with_reducible first | apply qH | apply qB) | ((first | (with_reducible apply qR) | (with_reducible first | apply qA | apply qP | apply qD | apply qE | apply qK) | ((with_reducible first | apply qQ | apply qI | apply qJ) <;> intro hb <;> (try simp only [hb]) <;> (try simp only [zF] at hb))) <;> try simp only [qV, qF, qL, qN, qG, qC, qM, reduceIte, seval, Int.cast_ofNat_Int, qY, qZ, vE]))
    refine xW fun k8 hh8 m8 s8 f8 n8 => ?_
    refine qS ?_; repeat' (first | (with_reducible first | apply qH | apply qB) | ((first | (with_reducible apply qR) | (with_reducible first | apply qA | apply qP | apply qD | apply qE | apply qK) | ((with_reducible first | apply qQ | apply qI | apply qJ) <;> intro hb <;> (try simp only [hb]) <;> (try simp only [zF] at hb))) <;> try simp only [qV, qF, qL, qN, qG, qC, qM, reduceIte, seval, Int.cast_ofNat_Int, qY, qZ, vE]))
    refine zM m8 yY rfl (by decide) rfl rfl rfl fun hh9 m9 f9 => ?_
    have s9 : HS hh7 hh9 := (HS.refl hh7).upd n8 (fun j hj => (f9 j hj).trans (f8 j hj))
    have m19 := s9 _ _ m17
    have m59 := s9 _ _ m57
    have m29 := s9 _ _ m27
    have s69 := s7.trans s9
    by_cases hold : (ep : Int) ≤ q.fr
    · have d2 : decide ((ep : Int) ≤ q.fr) = true := decide_eq_true hold
      refine qS ?_; repeat' (first | (with_reducible first | apply qH | apply qB) | ((first | (with_reducible apply qR) | (with_reducible first | apply qA | apply qP | apply qD | apply qE | apply qK) | ((with_reducible first | apply qQ | apply qI | apply qJ) <;> intro hb <;> (try simp only [hb]) <;> (try simp only [zF] at hb))) <;> try simp only [qV, qF, qL, qN, qG, qC, qM, reduceIte, seval, Int.cast_ofNat_Int, qY, qZ, vE, d2, gPick, Bool.not_true, qT m9 wL, qT m19 wL, zI m59 xG rfl]))
      refine zM m29 xG rfl (by decide) rfl rfl rfl fun hh10 m10 f10 => ?_
      refine qS ?_; repeat' (first | (with_reducible first | apply qH | apply qB) | ((first | (with_reducible apply qR) | (with_reducible first | apply qA | apply qP | apply qD | apply qE | apply qK) | ((with_reducible first | apply qQ | apply qI | apply qJ) <;> intro hb <;> (try simp only [hb]) <;> (try simp only [zF] at hb))) <;> try simp only [qV, qF, qL, qN, qG, qC, qM, reduceIte, seval, Int.cast_ofNat_Int, qY, qZ, vE, zI m10 xG rfl]))
      obtain ⟨z1, z2⟩ := fin s69 f10
      rw [done (zB6 hA hold)]
      exact ⟨⟨none, 0, a5, c5, none, 0, rfl, RB.nil _, z2, RL.nil _⟩, z1⟩
    have d2 : decide ((ep : Int) ≤ q.fr) = false := decide_eq_false hold
    have hst := qT2 x.dis hA hold
    obtain ⟨_, _, _, hep⟩ := mN hA
    by_cases hfull : got.length = lm
    · have d5 : ((got.length : Int) == q.lm) = true := by rw [hlm]; simp [hfull]
      refine qS ?_; repeat' (first | (with_reducible first | apply qH | apply qB) | ((first | (with_reducible apply qR) | (with_reducible first | apply qA | apply qP | apply qD | apply qE | apply qK) | ((with_reducible first | apply qQ | apply qI | apply qJ) <;> intro hb <;> (try simp only [hb]) <;> (try simp only [zF] at hb))) <;> try simp only [qV, qF, qL, qN, qG, qC, qM, reduceIte, seval, Int.cast_ofNat_Int, qY, qZ, vE, d2, d5, gPick, Bool.not_true, qT m9 wL, qT m19 wL, qT m59 qH1]))
      refine vN m59 qH2 rfl (by simp) rfl rfl fun hh10 m10 f10 => ?_
      simp only [List.set_cons_succ, List.set_cons_zero] at m10
      refine qS ?_; repeat' (first | (with_reducible first | apply qH | apply qB) | ((first | (with_reducible apply qR) | (with_reducible first | apply qA | apply qP | apply qD | apply qE | apply qK) | ((with_reducible first | apply qQ | apply qI | apply qJ) <;> intro hb <;> (try simp only [hb]) <;> (try simp only [zF] at hb))) <;> try simp only [qV, qF, qL, qN, qG, qC, qM, reduceIte, seval, Int.cast_ofNat_Int, qY, qZ, vE, zI m10 xG rfl]))
      have m210 := (f10 k2 (Ne.symm k5k2)).trans m29
      refine zM m210 xG rfl (by decide) rfl rfl rfl fun hh11 m11 f11 => ?_
      refine qS ?_; repeat' (first | (with_reducible first | apply qH | apply qB) | ((first | (with_reducible apply qR) | (with_reducible first | apply qA | apply qP | apply qD | apply qE | apply qK) | ((with_reducible first | apply qQ | apply qI | apply qJ) <;> intro hb <;> (try simp only [hb]) <;> (try simp only [zF] at hb))) <;> try simp only [qV, qF, qL, qN, qG, qC, qM, reduceIte, seval, Int.cast_ofNat_Int, qY, qZ, vE, zI m11 xG rfl]))
      have hx10 : HX k5 hh9 hh10 := fun j B n e => (f10 j n).trans e
      have hx11 : HX k2 hh10 hh11 := fun j B n e => (f11 j n).trans e
      obtain ⟨ds, o, u, r'⟩ := ig6.hs s69
      have ig' : Its hb hh11 (.slice a5 got.length c5) got := ⟨ds, (o.hx m59 (by simp) hx10).hx m210 (by simp) hx11, u, fun i p hp => by
        obtain ⟨a, c, b, d, e, r1, r2⟩ := r' i p hp
        exact ⟨a, c, b, d, e, (r1.hx m59 rfl hx10).hx m210 rfl hx11, (r2.hx m59 rfl hx10).hx m210 rfl hx11⟩⟩
      have hA' : fJ q (fU M q) = { its := got, more := true } := by
        rw [hL, hst]
        unfold fJ
        rw [hlmt, ← hfull, List.take_left, decide_eq_true (by rw [List.length_append, List.length_cons]; omega)]
      rw [hA']
      have sh10 : HS h hh10 := ((sb.trans s6).trans s69).upd n5' f10
      exact ⟨⟨none, 0, a5, c5, none, 0, rfl, RB.nil _, ig'.rl, RL.nil _⟩, sh10.upd n2' f11⟩
    have hlt : got.length < lm := by omega
    have d5 : ((got.length : Int) == q.lm) = false := by rw [hlm, beq_eq_false_iff_ne]; omega
    have we : IntKind.i64.wrap ((ep : Int) - 1) = (ep : Int) - 1 := by rw [wrap64 (by omega) (by omega)]
    refine qS ?_; repeat' (first | (with_reducible first | apply qH | apply qB) | ((first | (with_reducible apply qR) | (with_reducible first | apply qA | apply qP | apply qD | apply qE | apply qK) | ((with_reducible first | apply qQ | apply qI | apply qJ) <;> intro hb <;> (try simp only [hb]) <;> (try simp only [zF] at hb))) <;> try simp only [qV, qF, qL, qN, qG, qC, qM, reduceIte, seval, Int.cast_ofNat_Int, qY, qZ, vE, d2, d5, gPick, Bool.not_true, qT m9 wL, qT m19 wL, qT m59 qH1, zI m9 yY rfl]))
    refine fH tK rfl rfl (by decide) (by decide) rfl fun k12 h12 b12 s12' f12 n12 => ?_
    have s612 := s69.trans s12'
    obtain ⟨ds, o7, u7, e7⟩ := ig6
    refine qS ?_; repeat' (first | (with_reducible first | apply qH | apply qB) | ((first | (with_reducible apply qR) | (with_reducible first | apply qA | apply qP | apply qD | apply qE | apply qK) | ((with_reducible first | apply qQ | apply qI | apply qJ) <;> intro hb <;> (try simp only [hb]) <;> (try simp only [zF] at hb))) <;> try simp only [qV, qF, qL, qN, qG, qC, qM, reduceIte, seval, Int.cast_ofNat_Int, qY, qZ, vE]))
    refine wJ tK Try.underlying68 rfl (s6.trans s612) (o7.hs s612) b12 rfl rfl (by omega) (by simp only [maxLen]; omega) fun v13 h13 s13 fr13 o13 => ?_
    obtain ⟨a13, c13, rfl⟩ := o13.form
    have m513 := tV fr13 (s612 _ _ m56) (by simp)
    have m913 := tV fr13 (s12' _ _ m9) (by simp)
    refine qS ?_; repeat' (first | (with_reducible first | apply qH | apply qB) | ((first | (with_reducible apply qR) | (with_reducible first | apply qA | apply qP | apply qD | apply qE | apply qK) | ((with_reducible first | apply qQ | apply qI | apply qJ) <;> intro hb <;> (try simp only [hb]) <;> (try simp only [zF] at hb))) <;> try simp only [qV, qF, qL, qN, qG, qC, qM, reduceIte, seval, Int.cast_ofNat_Int, qY, qZ, vE]))
    refine vN m513 qH1 rfl (by simp) rfl rfl fun h14 m14 f14 => ?_
    simp only [List.set_cons_succ, List.set_cons_zero] at m14
    have k85 : k8 ≠ k5 := fun q => by subst q; rw [m57] at n8; cases n8
    have m914 := (f14 k8 k85).trans m913
    refine qS ?_; repeat' (first | (with_reducible first | apply qH | apply qB) | ((first | (with_reducible apply qR) | (with_reducible first | apply qA | apply qP | apply qD | apply qE | apply qK) | ((with_reducible first | apply qQ | apply qI | apply qJ) <;> intro hb <;> (try simp only [hb]) <;> (try simp only [zF] at hb))) <;> try simp only [qV, qF, qL, qN, qG, qC, qM, reduceIte, seval, Int.cast_ofNat_Int, qY, qZ, vE, we, qT m914 wL]))
    have hx : HX k5 h13 h14 := fun j B n e => (f14 j n).trans e
    have keep : ∀ {z : List Value} {ee : Itm}, It h12 z ee → It h14 z ee := fun {z ee} w => by
      obtain ⟨a, c, b, d, e, r1, r2⟩ := w
      exact ⟨a, c, b, d, e, (jW fr13 u7 r1).hx m513 rfl hx, (jW fr13 u7 r2).hx m513 rfl hx⟩
    have hl1 : (got ++ [((q.id, key), ep)]).length = got.length + 1 := by simp
    refine ⟨_, (ep : Int) - 1, by omega, (by simp only [List.forall_mem_cons, List.not_mem_nil, false_implies, implies_true, List.map, List.cons_append, List.nil_append, lk, Nat.reduceEqDiff, reduceIte, and_true, true_and]), rfl, by omega, s13.upd hbn f14, got ++ [((q.id, key), ep)], a13, c13, by rw [hL, hst, List.append_assoc]; rfl, by omega, by rw [hl1]; exact m14, ds ++ [.slice ai q.id.length ci, .slice ak key.length ck', .int .i64 (ep : Int)], by rw [hl1]; exact o13.hx m513 (by simp) hx, by rw [List.all_append, u7]; rfl, ?_⟩
    exact dX (R := It h14) o7.len rfl (fun i p hp => keep ((e7 i p hp).hs s612)) (keep ⟨ai, ci, ak, ck', rfl, r8.hs (s9.trans s12'), r9.hs (s9.trans s12')⟩)
end
theorem ins_pw {L : List Itm} {x : Itm} {w : Nat} (pw : L.Pairwise fun a b => idO a.1.1 b.1.1 < 0) (hw : w ≤ L.length) (lo : w = 0 ∨ ∃ z, L[w - 1]? = some z ∧ idO z.1.1 x.1.1 ≤ 0) (up : ∀ z ∈ L.drop w, 0 < idO z.1.1 x.1.1) (ne : ∀ z ∈ L, idO z.1.1 x.1.1 ≠ 0) :
    (L.take w ++ x :: L.drop w).Pairwise fun a b => idO a.1.1 b.1.1 < 0 := by
  have pw0 := pw
  rw [← List.take_append_drop w L, List.pairwise_append] at pw
  obtain ⟨p1, p2, p3⟩ := pw
  rw [List.pairwise_append, List.pairwise_cons]
  refine ⟨p1, ⟨fun z hz => ?_, p2⟩, fun a ha b hb => ?_⟩
  · have h1 := up z hz
    have h2 := tc_id.anti x.1.1 z.1.1
    omega
  · rcases List.mem_cons.1 hb with rfl | hb
    · have hn := ne a (List.mem_of_mem_take ha)
      obtain ⟨i, hi⟩ := List.mem_iff_getElem?.1 ha
      rw [List.getElem?_take] at hi
      split at hi
      · rename_i hiw
        rcases lo with rfl | ⟨z, hz, hle⟩
        · omega
        · by_cases e : i = w - 1
          · subst e; rw [hz] at hi; cases hi; omega
          · have g1 := List.getElem?_eq_some_iff.1 hi
            have g2 := List.getElem?_eq_some_iff.1 hz
            have := List.pairwise_iff_getElem.1 pw0 i (w - 1) g1.1 g2.1 (by omega)
            rw [g1.2, g2.2] at this
            have := tc_id.tr a.1.1 z.1.1 b.1.1 (by omega) hle
            omega
      · cases hi
    · exact p3 a ha b hb
theorem ins_mem {L : List Itm} {x z : Itm} {w : Nat} : z ∈ L.take w ++ x :: L.drop w ↔ z = x ∨ z ∈ L := by
  have h : z ∈ L ↔ z ∈ L.take w ∨ z ∈ L.drop w := by
    conv => lhs; rw [← List.take_append_drop w L]
    exact List.mem_append
  rw [List.mem_append, List.mem_cons, h]
  constructor
  · rintro (h | h | h)
    · exact .inr (.inl h)
    · exact .inl h
    · exact .inr (.inr h)
  · rintro (h | h | h)
    · exact .inr (.inl h)
    · exact .inl h
    · exact .inr (.inr h)
structure DI (M : List (Int × List Bnd)) (q : Ak) (e i : Nat) (L : List Itm) : Prop where
  ord : L.Pairwise fun a b => idO a.1.1 b.1.1 < 0
  mem : ∀ z, z ∈ L ↔ (jY M q z.1.1 = some z ∧ (z.2 < e ∨ (z.2 = e ∧ ∃ j, j < i ∧ (vI (jI M e) j).1 = z.1.1)))
theorem mD {M : List (Int × List Bnd)} {q : Ak} {id : List UInt8} {z : Itm} (h : jY M q id = some z) : ∃ key, dY M id q.to = some (key, z.2) ∧ z = ((id, key), z.2) ∧ (z.2 : Int) > q.fr ∧ (z.2 : Int) ≤ q.to := by
  unfold jY at h
  split at h
  · cases h
  · rename_i key ep hA
    split at h
    · rename_i c
      cases h
      obtain ⟨_, _, _, hle⟩ := mN hA
      exact ⟨key, hA, rfl, c.1, hle⟩
    · cases h
theorem qX4 {M : List (Int × List Bnd)} {id key : List UInt8} {t : Int} {ep : Nat} (h : dY M id t = some (key, ep)) : ep < M.length ∧ ∃ j, j < (jI M ep).length ∧ (vI (jI M ep) j).1 = id := by
  obtain ⟨pp, hp, rfl, _⟩ := mN h
  obtain ⟨_, h2, b, h3, h4, h5⟩ := jS hp
  rw [Nat.sub_zero, List.getElem?_map] at h3
  obtain ⟨y, hy, rfl⟩ := Option.map_eq_some_iff.1 h3
  rw [uJ hy]
  rw [List.length_map] at h2
  exact ⟨by omega, _, h4, h5⟩
section
variable {M : List (Int × List Bnd)} {q : Ak} {e i : Nat} {L : List Itm}
theorem DI.start (z0 : jI M 0 = []) : DI M q 1 0 [] := ⟨List.Pairwise.nil, fun z => ⟨fun h => by simp at h, fun ⟨h1, h2⟩ => by
  obtain ⟨key, hA, _⟩ := mD h1
  obtain ⟨_, j, hj, _⟩ := qX4 hA
  rcases h2 with h2 | ⟨_, j', hj', _⟩
  · have : z.2 = 0 := by omega
    rw [this, z0] at hj
    simp at hj
  · omega⟩⟩
theorem DI.next (x : DI M q e (jI M e).length L) : DI M q (e + 1) 0 L := ⟨x.ord, fun z => by
  rw [x.mem z]
  constructor
  · rintro ⟨h1, h2 | ⟨h2, _⟩⟩
    · exact ⟨h1, .inl (by omega)⟩
    · exact ⟨h1, .inl (by omega)⟩
  · rintro ⟨h1, h2 | ⟨_, j, hj, _⟩⟩
    · refine ⟨h1, ?_⟩
      rcases Nat.lt_or_ge z.2 e with h | h
      · exact .inl h
      · have h3 : z.2 = e := by omega
        obtain ⟨key, hA, _⟩ := mD h1
        obtain ⟨_, j, hj, hb⟩ := qX4 hA
        rw [h3] at hj hb
        exact .inr ⟨h3, j, hj, hb⟩
    · omega⟩
theorem DI.skip (x : DI M q e i L) {id : List UInt8} (hid : (vI (jI M e) i).1 = id) (hs : ∀ key, dY M id q.to = some (key, e) → ¬ (e : Int) > q.fr) : DI M q e (i + 1) L := ⟨x.ord, fun z => by
  rw [x.mem z]
  constructor
  · rintro ⟨h1, h2 | ⟨h2, j, hj, hb⟩⟩
    · exact ⟨h1, .inl h2⟩
    · exact ⟨h1, .inr ⟨h2, j, by omega, hb⟩⟩
  · rintro ⟨h1, h2 | ⟨h2, j, hj, hb⟩⟩
    · exact ⟨h1, .inl h2⟩
    · by_cases hji : j = i
      · subst hji
        rw [hid] at hb
        subst hb
        obtain ⟨key, hA, _, h3, _⟩ := mD h1
        rw [h2] at hA h3
        exact absurd h3 (hs key hA)
      · exact ⟨h1, .inr ⟨h2, j, by omega, hb⟩⟩⟩
theorem DI.ins (x : DI M q e i L) {id key : List UInt8} {w : Nat} (hq : q.sm = false) (hid : (vI (jI M e) i).1 = id) (hA : dY M id q.to = some (key, e)) (hf : (e : Int) > q.fr) (un : ∀ j, j < i → (vI (jI M e) j).1 ≠ id)
    (hsh : ∀ z ∈ L, z.1.1.length ≤ 255) (hil : id.length ≤ 255) (hw : w ≤ L.length) (lo : w = 0 ∨ ∃ z, L[w - 1]? = some z ∧ idO z.1.1 id ≤ 0) (up : ∀ z ∈ L.drop w, 0 < idO z.1.1 id) : DI M q e (i + 1) (L.take w ++ ((id, key), e) :: L.drop w) := by
  have hds : jY M q id = some ((id, key), e) := by
    unfold jY
    rw [hA]
    simp only
    rw [if_pos ⟨hf, fun h => by rw [hq] at h; cases h⟩]
  refine ⟨ins_pw x.ord hw lo up fun z hz h0 => ?_, fun z => ?_⟩
  · have he := qO8 (hsh z hz) hil h0
    obtain ⟨h1, h2⟩ := (x.mem z).1 hz
    rw [he, hds] at h1
    cases h1
    rcases h2 with h2 | ⟨_, j, hj, hb⟩
    · simp only at h2; omega
    · exact un j hj hb
  · rw [ins_mem, x.mem z]
    constructor
    · rintro (rfl | ⟨h1, h2 | ⟨h2, j, hj, hb⟩⟩)
      · exact ⟨hds, .inr ⟨rfl, i, by omega, hid⟩⟩
      · exact ⟨h1, .inl h2⟩
      · exact ⟨h1, .inr ⟨h2, j, by omega, hb⟩⟩
    · rintro ⟨h1, h2 | ⟨h2, j, hj, hb⟩⟩
      · exact .inr ⟨h1, .inl h2⟩
      · by_cases hji : j = i
        · subst hji
          rw [hid] at hb
          rw [← hb, hds] at h1
          cases h1
          exact .inl rfl
        · exact .inr ⟨h1, .inr ⟨h2, j, by omega, hb⟩⟩
theorem DI.done {to : Nat} (x : DI M q (to + 1) 0 L) (hto : q.to = (to : Int)) : Diff M q L := ⟨x.ord, fun z => by
  rw [x.mem z]
  constructor
  · exact fun h => h.1
  · intro h
    obtain ⟨_, _, _, _, hle⟩ := mD h
    exact ⟨h, .inl (by omega)⟩⟩
end
theorem take_elE {α : Type} {es : Nat} {R : List Value → α → Prop} {L : List α} {ds : List Value} {w : Nat} (r : ∀ (i : Nat) x, L[i]? = some x → R ((ds.drop (i * es)).take es) x) : ∀ (i : Nat) x, (L.take w)[i]? = some x → R (((ds.take (w * es)).drop (i * es)).take es) x := fun i x hx => by
  rw [List.getElem?_take] at hx
  split at hx
  · rename_i hi
    have : (i + 1) * es ≤ w * es := Nat.mul_le_mul_right es hi
    rw [Nat.add_mul, Nat.one_mul] at this
    rw [List.drop_take, List.take_take, Nat.min_eq_left (by omega)]
    exact r i x hx
  · cases hx
theorem drop_elE {α : Type} {es : Nat} {R : List Value → α → Prop} {L : List α} {ds : List Value} {w : Nat} (r : ∀ (i : Nat) x, L[i]? = some x → R ((ds.drop (i * es)).take es) x) : ∀ (i : Nat) x, (L.drop w)[i]? = some x → R (((ds.drop (w * es)).drop (i * es)).take es) x := fun i x hx => by
  rw [List.getElem?_drop] at hx
  rw [List.drop_drop, ← Nat.add_mul]
  exact r _ x hx
def Itc (h0 h : GH) (v : Value) (L : List Itm) : Prop := ∃ ds, OWNC 3 h0 h v L.length ds ∧ ds.all wX = true ∧ ds.all zA = true ∧ ∀ (i : Nat) x, L[i]? = some x → It h ((ds.drop (i * 3)).take 3) x
theorem Itc.hs {h0 h h' : GH} {v : Value} {L : List Itm} (x : Itc h0 h v L) (s : HS h h') : Itc h0 h' v L := by
  obtain ⟨ds, o, u, c, r⟩ := x
  exact ⟨ds, o.hs s, u, c, fun i p hp => (r i p hp).hs s⟩
theorem Itc.rl {h0 h : GH} {v : Value} {L : List Itm} (x : Itc h0 h v L) : RL 3 It h v L := by
  obtain ⟨ds, o, u, c, r⟩ := x
  exact o.rl r
end Go.Gh
