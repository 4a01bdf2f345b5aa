/- Parts of this claim's proof, 13. No statement of the claim stands here. -/
import Derived.Test.YtkifgpomablpiaaGreatDoorP12
namespace Go.Gh
open Go Go.Proofs Go.RowKit
set_option linter.unusedVariables false
set_option linter.unusedSimpArgs false
set_option maxRecDepth 100000
set_option maxHeartbeats 4000000
theorem dC : type_of% (And.intro zF (And.intro wS (And.intro wR (And.intro xB (And.intro uI rs29))))) := And.intro zF (And.intro wS (And.intro wR (And.intro xB (And.intro uI rs29))))
theorem yQ : type_of% (And.intro Tryz.underlying80 (And.intro zF (And.intro wS (And.intro wR (And.intro xB (And.intro wF (And.intro ty80 rs70))))))) := And.intro Tryz.underlying80 (And.intro zF (And.intro wS (And.intro wR (And.intro xB (And.intro wF (And.intro ty80 rs70))))))
theorem pO : type_of% (And.intro zF (And.intro wS (And.intro wR (And.intro xB (And.intro mP rs25))))) := And.intro zF (And.intro wS (And.intro wR (And.intro xB (And.intro mP rs25))))
def qF3 (size : Int) (n : Nat) (p : Pn (Pd n)) : Bool := !(decide (size < 1) || decide (size > 32)) && !decide ((gH n p : Int) > 4096) && wY size n p
def qQ0 (size : Int) (n : Nat) (p : Pn (Pd n)) : List UInt8 := if qF3 size n p = true then kN size n p else []
theorem qY8 {size : Int} {n : Nat} {p : Pn (Pd n)} (h : qF3 size n p = true) : 1 ≤ size ∧ size ≤ 32 ∧ wY size n p = true := by
  unfold qF3 at h
  simp only [Bool.and_eq_true, Bool.not_eq_true', Bool.or_eq_false_iff, decide_eq_false_iff_not] at h
  exact ⟨by omega, by omega, h.2⟩
theorem zQ3 {α : Type} {f : α → Bool} : ∀ {l : List α} {i : Nat} {v : α}, l.all f = true → f v = true → (l.set i v).all f = true
  | [], _, _, h, _ => h
  | x :: l, 0, v, h, hv => by
    simp only [List.all_cons, Bool.and_eq_true] at h
    simp [List.set_cons_zero, hv, h.2]
  | x :: l, i + 1, v, h, hv => by
    simp only [List.all_cons, Bool.and_eq_true] at h
    simp [List.set_cons_succ, h.1, zQ3 h.2 hv]
theorem lT {size : Int} {n : Nat} {p : Pn (Pd (n + 1))} (h : wY size (n + 1) p = true) (h3 : p.kd = 3) : ∃ a b : Pn (Pd n), p.kids = [a, b] ∧ kG p 0 a = true ∧ wY size n a = true ∧ kG p 1 b = true ∧ wY size n b = true ∧ max (max 0 a.newest) b.newest = p.nw := by
  simp only [wY, h3, beq_self_eq_true, Bool.not_true, Bool.false_or, Bool.and_eq_true] at h
  obtain ⟨_, h⟩ := h
  split at h
  · rename_i a b hk
    simp only [Bool.and_eq_true, beq_iff_eq] at h
    obtain ⟨⟨⟨h1, h2⟩, h4, h5⟩, h6⟩ := h
    exact ⟨a, b, hk, h1, h2, h4, h5, h6⟩
  · cases h
theorem lJ {size : Int} (hs : size ≤ 32) {n : Nat} {p : Pn (Pd n)} (h : wY size n p = true) : (kN size n p).length ≤ 1000 ∧ kN size n p ≠ [] := by
  have hr := gB h
  by_cases h3 : p.kd = 3
  · obtain ⟨k, a, b, _, ho, _⟩ := may_open h h3
    rw [qK1 h3 ho]
    have fk : p.frk = true := by rcases p.kinds hr with q | q | q <;> first | omega | exact q.2
    have fk := p.frk_ok fk
    have := qT2 p.dp.toNat p.pf p.nw.toNat (vS size (kN size k a)) (vS size (kN size k b))
    have := sD size (kN size k a)
    have := sD size (kN size k b)
    exact ⟨by omega, by simp [vQ, yX]⟩
  · rw [lI h3]
    exact ⟨zL7 hr hs, zU4 p⟩
theorem qN9 (N : Nat) (size : Int) (n : Nat) {h : GH} {cs : List Value} {p : Pn (Pd n)} (r : RPn (RPd n) h cs p) (hk : Pn.bulk (Pd.bulk n) p ≤ 100000000) :
    GTri Tryz.prog N 29 [.int .i64 size, .agg cs.toArray] h fun v h' => v = .int .i64 (cond (qF3 size n p) 0 95) ∧ HS h h' := by
  have hcs := r.len
  unfold qF3
  refine zU Tryz.func29 rfl gf29 ok29 (by simp [Tryz.ntmps29]) ?_
  repeat' (first | with_reducible apply qK | ((with_reducible apply qB) <;> try simp only [qN, qC, qE, qG, qD, qA, qF, seval, qQ, qO, qP, dC]))
  refine wP hcs.2.1 fun k1 h1 m1 s1 f1 n1 => ?_
  have ld := zI (P := Tryz.prog) (t := 26) m1 xX hcs.1
  cases z0 : decide (size < 1)
  case true =>
    refine qJ ?_; repeat' (first | with_reducible apply qK | ((with_reducible first | apply qI | apply qB | apply qR | apply qM) <;> try simp only [qN, qC, qE, qG, qD, qA, qF, seval, qQ, qO, qP, dC, z0, gPick]))
    exact ⟨by first | rfl | simp, s1⟩
  cases z1 : decide (size > 32)
  case true =>
    refine qJ ?_; repeat' (first | with_reducible apply qK | ((with_reducible first | apply qI | apply qB | apply qR | apply qM) <;> try simp only [qN, qC, qE, qG, qD, qA, qF, seval, qQ, qO, qP, dC, z0, z1, gPick]))
    exact ⟨by first | rfl | simp, s1⟩
  simp only [Bool.or_false, Bool.not_false, Bool.true_and]
  refine qJ ?_; repeat' (first | with_reducible apply qK | ((with_reducible first | apply qI | apply qB) <;> try simp only [qN, qC, qE, qG, qD, qA, qF, seval, qQ, qO, qP, dC, z0, z1, gPick, ld]))
  refine (qZ5 N n (r.hs s1 (fun cs x r => RPd.hs s1 n r)) hk).mono ?_
  rintro _ h2 ⟨rfl, s2⟩
  have S2 := s1.trans s2
  cases z2 : decide ((gH n p : Int) > 4096)
  case true =>
    refine qJ ?_; repeat' (first | with_reducible apply qK | ((with_reducible first | apply qI | apply qB | apply qR | apply qM) <;> try simp only [qN, qC, qE, qG, qD, qA, qF, seval, qQ, qO, qP, dC, z2, gPick]))
    exact ⟨by first | rfl | simp, S2⟩
  simp only [Bool.not_false, Bool.true_and]
  have ld2 := yO s2 ld
  refine qJ ?_; repeat' (first | ((with_reducible apply qI) <;> try simp only [qN, qC, qE, qG, qD, qA, qF, seval, qQ, qO, qP, dC, z2, gPick, ld2]))
  refine (c_may N size n (r.hs S2 (fun cs x r => RPd.hs S2 n r)) hk).mono ?_
  rintro _ h3 ⟨rfl, s3⟩
  have S3 := S2.trans s3
  cases hm : wY size n p
  case false =>
    refine qJ ?_; repeat' (first | with_reducible apply qK | ((with_reducible first | apply qI | apply qB | apply qR | apply qM) <;> try simp only [qN, qC, qE, qG, qD, qA, qF, seval, qQ, qO, qP, dC, gPick]))
    exact ⟨by first | rfl | simp, S3⟩
  refine qJ ?_; repeat' (first | with_reducible apply qK | ((with_reducible first | apply qI | apply qB | apply qR | apply qT | apply qM) <;> try simp only [qN, qC, qE, qG, qD, qA, qF, seval, qQ, qO, qP, dC, gPick]))
  exact ⟨by first | rfl | simp, S3⟩
theorem c_stext (N : Nat) {size : Int} (hs : size ≤ 32) : ∀ (n : Nat) {h : GH} (t : TK h) {cs : List Value} {p : Pn (Pd n)} (r : RPn (RPd n) h cs p) (hm : wY size n p = true) (hk : Pn.bulk (Pd.bulk n) p ≤ 100000000),
    GTri Tryz.prog N 70 [.int .i64 size, .agg cs.toArray] h fun v h' => HS h h' ∧ ∃ a c, v = .slice a (kN size n p).length c ∧ RB h' (.slice a (kN size n p).length c) (kN size n p) ∧ SL h' (.slice a (kN size n p).length c) := by
  intro n
  induction n with
  | zero =>
    intro h t cs p r hm hk
    have hr := gB hm
    have k3 : p.kd ≠ 3 := fun q => by
      obtain ⟨a, b, e⟩ := tP hr q
      exact nomatch (show Empty from a)
    have r0 := r
    have hcs := r.len
    have e3' : (p.kd != 3) = true := by simp [k3]
    rw [lI k3]
    refine zU Tryz.func70 rfl gf70 ok70 (by simp [Tryz.ntmps70]) ?_
    repeat' (first | with_reducible apply qK | ((with_reducible apply qB) <;> try simp only [qN, qC, qE, qG, qD, qA, qF, seval, qQ, qO, qP, yQ]))
    refine wP hcs.2.1 fun k1 h1 m1 s1 f1 n1 => ?_
    have ld := zI (P := Tryz.prog) (t := 26) m1 xX hcs.1
    have m1' := m1
    obtain ⟨a1, c1, a2, c2, a3, c3, a4, c4, a5, c5, a6, c6, ecs, _⟩ := r
    rw [ecs] at m1'
    simp only [Pn.cs] at m1'
    refine qJ ?_; repeat' (first | with_reducible apply qK | ((with_reducible first | apply qI | apply qB | apply qR) <;> try simp only [qN, qC, qE, qG, qD, qA, qF, seval, qQ, qO, qP, yQ, qH m1' zS, e3', ld]))
    refine (zQ1 N (RPn.hs s1 (fun cs x r => RPd.hs s1 0 r) r0) hr hs).mono ?_
    rintro _ h2 ⟨s2, a7, c7, rfl, q1, q2⟩
    refine qJ ?_; repeat' (first | ((with_reducible first | apply qI | apply qM) <;> try simp only [qN, qC, qE, qG, qD, qA, qF, seval, qQ, qO, qP, yQ]))
    exact ⟨s1.trans s2, a7, c7, rfl, q1, q2⟩
  | succ n ih =>
    intro h t cs p r hm hk
    have hr := gB hm
    by_cases k3 : p.kd = 3
    case neg =>
      have r0 := r
      have hcs := r.len
      have e3' : (p.kd != 3) = true := by simp [k3]
      rw [lI k3]
      refine zU Tryz.func70 rfl gf70 ok70 (by simp [Tryz.ntmps70]) ?_
      repeat' (first | with_reducible apply qK | ((with_reducible apply qB) <;> try simp only [qN, qC, qE, qG, qD, qA, qF, seval, qQ, qO, qP, yQ]))
      refine wP hcs.2.1 fun k1 h1 m1 s1 f1 n1 => ?_
      have ld := zI (P := Tryz.prog) (t := 26) m1 xX hcs.1
      have m1' := m1
      obtain ⟨a1, c1, a2, c2, a3, c3, a4, c4, a5, c5, a6, c6, ecs, _⟩ := r
      rw [ecs] at m1'
      simp only [Pn.cs] at m1'
      refine qJ ?_; repeat' (first | with_reducible apply qK | ((with_reducible first | apply qI | apply qB | apply qR) <;> try simp only [qN, qC, qE, qG, qD, qA, qF, seval, qQ, qO, qP, yQ, qH m1' zS, e3', ld]))
      refine (zQ1 N (RPn.hs s1 (fun cs x r => RPd.hs s1 (n + 1) r) r0) hr hs).mono ?_
      rintro _ h2 ⟨s2, a7, c7, rfl, q1, q2⟩
      refine qJ ?_; repeat' (first | ((with_reducible first | apply qI | apply qM) <;> try simp only [qN, qC, qE, qG, qD, qA, qF, seval, qQ, qO, qP, yQ]))
      exact ⟨s1.trans s2, a7, c7, rfl, q1, q2⟩
    have r0 := r
    have hbp := Pn.bulk_parts p
    obtain ⟨a1, c1, a2, c2, a3, c3, a4, c4, a5, c5, a6, c6, rfl, r1, r2, r3, r4, r5, r6⟩ := r
    have e3' : (p.kd != 3) = false := by simp [k3]
    obtain ⟨a, b, hkids, _, ma, _, mb, _⟩ := lT hm k3
    have fk : p.frk = true := by rcases p.kinds hr with q | q | q <;> first | omega | exact q.2
    have fk := p.frk_ok fk
    obtain ⟨dp, hdp⟩ : ∃ w : Nat, p.dp = (w : Int) := ⟨p.dp.toNat, by omega⟩
    obtain ⟨nw, hnw⟩ : ∃ w : Nat, p.nw = (w : Int) := ⟨p.nw.toNat, by omega⟩
    have hkl : p.kids.length = 2 := by rw [hkids]; rfl
    rw [qK1 (n := n + 1) (a := a) (b := b) k3 ⟨rfl, hkids⟩, hdp, hnw, Int.toNat_natCast, Int.toNat_natCast]
    refine zU Tryz.func70 rfl gf70 ok70 (by simp [Tryz.ntmps70]) ?_
    repeat' (first | with_reducible apply qK | ((with_reducible apply qB) <;> try simp only [qN, qC, qE, qG, qD, qA, qF, seval, qQ, qO, qP, yQ]))
    refine wP rfl fun k1 h1 m1 s1 f1 n1 => ?_
    simp only [Pn.cs] at m1
    rw [hkl] at m1
    refine qJ ?_; repeat' (first | with_reducible apply qK | ((with_reducible first | apply qI | apply qB | apply qR | apply qT) <;> try simp only [qN, qC, qE, qG, qD, qA, qF, seval, qQ, qO, qP, yQ, qH m1 zS, e3']))
    refine xE fun k5 h5 m5 s5 f5 n5 => ?_
    have S5 := s1.trans s5
    have m15 := s5 _ _ m1
    have k15 : k1 ≠ k5 := yA m1 n5
    have n5h : h k5 = none := s1.none_of n5
    have sb : HS h (kP k5 h5) := rW S5 n5h
    have sb5 : HS (kP k5 h5) h5 := rX k5 h5
    have m1b := (lV h5 _ k15).trans m15
    have nb5 : kP k5 h5 k5 = none := qC9 k5 h5
    generalize kP k5 h5 = hb at sb sb5 m1b nb5
    refine qJ ?_; repeat' (first | (with_reducible first | apply qK | apply qS) | ((with_reducible first | apply qI | apply qB) <;> try simp only [qN, qC, qE, qG, qD, qA, qF, seval, qQ, qO, qP, yQ, qH m15 wO]))
    refine xR [0, 3, 4, 5, 14, 15] (fun (j : Nat) => [(16, .int .i64 (j : Int))]) (fun q j h' => 2 - j = q ∧ j ≤ 2 ∧ HS hb h' ∧ ∃ L : List Value, L.length = 2 ∧ h' k5 = some ⟨L, 0, true, false⟩ ∧ L.all vO = true ∧ ∀ (i : Nat) (x : Pn (Pd n)), i < j → p.kids[i]? = some x → ∃ a c, L[i]? = some (.slice a (vS size (kN size n x)).length c) ∧ RB h' (.slice a (vS size (kN size n x)).length c) (vS size (kN size n x))) 2 0 (by simp [lk]) ⟨rfl, by omega, sb5, _, rfl, m5, rfl, fun i x hi => by omega⟩ ?_
    rintro _ j h6 ⟨rfl, hj, s6, L, hL, m6, hu, hel⟩
    have S6 := sb.trans s6
    have m16 := s6 _ _ m1b
    by_cases hj2 : j = 2
    · subst hj2
      obtain ⟨a7, c7, g7, q7⟩ := hel 0 a (by omega) (by rw [hkids]; rfl)
      obtain ⟨a8, c8, g8, q8⟩ := hel 1 b (by omega) (by rw [hkids]; rfl)
      have gi0 : zJ Tryz.prog 80 (.pointer (some ⟨k5, 0, none⟩)) 0 = some (.pointer (some ⟨k5, 0, none⟩)) := gi80 (i := 0) (by omega)
      have gi1 : zJ Tryz.prog 80 (.pointer (some ⟨k5, 0, none⟩)) 1 = some (.pointer (some ⟨k5, 1, none⟩)) := gi80 (i := 1) (by omega)
      have l0 : wZ Tryz.prog 22 h6 (.pointer (some ⟨k5, 0, none⟩)) = _ := (qH (P := Tryz.prog) (t := 22) m6 zD).trans g7
      have l1 : wZ Tryz.prog 22 h6 (.pointer (some ⟨k5, 1, none⟩)) = _ := (qH (P := Tryz.prog) (t := 22) m6 zD).trans g8
      have la := sD size (kN size n a)
      have lb := sD size (kN size n b)
      refine qJ ?_; repeat' (first | with_reducible apply qK | ((with_reducible first | apply qI | apply qB | apply qR | apply xT) <;> try simp only [qN, qC, qE, qG, qD, qA, qF, seval, qQ, qO, qP, yQ, qH m16 zS, qH m16 zD, gi0, gi1, l0, l1, hdp, hnw]))
      refine (c_Fork N (d := dp) (w := nw) (by omega) (by omega) (r3.hs S6) q7 q8 (by omega) (by omega) (by omega)).mono ?_
      rintro _ h7 ⟨s7, a9, c9, rfl, q9, sl9⟩
      refine qJ ?_; repeat' (first | ((with_reducible first | apply qI | apply qM) <;> try simp only [qN, qC, qE, qG, qD, qA, qF, seval, qQ, qO, qP, yQ]))
      exact ⟨S6.trans s7, a9, c9, rfl, q9, sl9⟩
    have d0 : decide ((j : Int) < 2) = true := decide_eq_true (by omega)
    have wj : IntKind.i64.wrap ((j : Int) + 1) = ((j + 1 : Nat) : Int) := by rw [wrap64 (by omega) (by omega)]; omega
    obtain ⟨x, hx, mx⟩ : ∃ x : Pn (Pd n), p.kids[j]? = some x ∧ wY size n x = true := by
      have : j = 0 ∨ j = 1 := by omega
      rcases this with rfl | rfl
      · exact ⟨a, by rw [hkids]; rfl, ma⟩
      · exact ⟨b, by rw [hkids]; rfl, mb⟩
    have hxb := Pn.kids_bulk (p := p) (x := x) (List.mem_of_getElem? hx)
    obtain ⟨ad, cs5, g1, g2, e1⟩ := RL.at (P := Tryz.prog) (RL.hs S6 (fun cs x r => RPd.hs S6 (n + 1) r) r6) Tryz.underlying24 xX hx
    rw [hkl] at g1
    have e1' : RPn (RPd n) h6 cs5 x := e1
    have hc := RPd.cells e1
    have tl := lJ hs mx
    refine qJ ?_; repeat' (first | (with_reducible first | apply qK | apply qS) | ((with_reducible first | apply qI | apply qB | apply qR | apply qT) <;> try simp only [qN, qC, qE, qG, qD, qA, qF, seval, qQ, qO, qP, yQ, d0, g1, gK xX g2]))
    refine xE fun k7 h7 m7 s7 f7 n7 => ?_
    refine qJ ?_; repeat' (first | ((with_reducible apply qI) <;> try simp only [qN, qC, qE, qG, qD, qA, qF, seval, qQ, qO, qP, yQ]))
    refine xY m7 xX rfl (by decide) hc.2 rfl hc.1 fun h8 m8 f8 => ?_
    have s68 := s7.upd n7 f8
    have ld8 := zI (P := Tryz.prog) (t := 26) m8 xX hc.2
    refine qJ ?_; repeat' (first | ((with_reducible first | apply qI | apply qB) <;> try simp only [qN, qC, qE, qG, qD, qA, qF, seval, qQ, qO, qP, yQ, ld8]))
    refine (ih (t.hs (S6.trans s68)) (e1'.hs s68 (fun cs x r => RPd.hs s68 n r)) mx (by omega)).mono ?_
    rintro _ h9 ⟨s9, a10, c10, rfl, q10, sl10⟩
    refine qJ ?_; repeat' (first | ((with_reducible apply qI) <;> try simp only [qN, qC, qE, qG, qD, qA, qF, seval, qQ, qO, qP, yQ]))
    refine (c_Cut N (t.hs ((S6.trans s68).trans s9)) q10 sl10 (by omega) size).mono ?_
    rintro _ h10 ⟨s10, a11, c11, rfl, q11, _⟩
    have s6_10 := (s68.trans s9).trans s10
    have m6_10 := s6_10 _ _ m6
    have gij : zJ Tryz.prog 80 (.pointer (some ⟨k5, 0, none⟩)) (j : Int) = some (.pointer (some ⟨k5, j, none⟩)) := gi80 (by omega)
    refine qJ ?_; repeat' (first | ((with_reducible apply qI) <;> try simp only [qN, qC, qE, qG, qD, qA, qF, seval, qQ, qO, qP, yQ, gij]))
    refine zW m6_10 zD rfl (by simp only [hL]; omega) rfl rfl fun h11 m11 f11 => ?_
    refine qJ ?_; repeat' (first | ((with_reducible first | apply qI | apply qB) <;> try simp only [qN, qC, qE, qG, qD, qA, qF, seval, qQ, qO, qP, yQ, wj]))
    refine ⟨_, j + 1, by omega, (by simp only [List.forall_mem_cons, List.not_mem_nil, false_implies, implies_true, List.map, List.cons_append, List.nil_append, lk, Nat.reduceEqDiff, reduceIte, and_true, true_and]), rfl, by omega, (s6.trans s6_10).upd nb5 f11, L.set j (.slice a11 (vS size (kN size n x)).length c11), by rw [List.length_set, hL], m11, zQ3 hu rfl, fun i z hi hz => ?_⟩
    by_cases hij : i = j
    · subst hij
      rw [hx] at hz
      cases hz
      exact ⟨a11, c11, by rw [List.getElem?_set_self (by omega)], q11.hx m6_10 hu (zH f11)⟩
    · obtain ⟨a12, c12, g12, q12⟩ := hel i z (by omega) hz
      exact ⟨a12, c12, by rw [List.getElem?_set_ne (by omega)]; exact g12, (q12.hs s6_10).hx m6_10 hu (zH f11)⟩
theorem c_SText (N : Nat) (size : Int) (n : Nat) {h : GH} (t : TK h) {cs : List Value} {p : Pn (Pd n)} (r : RPn (RPd n) h cs p) (hk : Pn.bulk (Pd.bulk n) p ≤ 100000000) :
    GTri Tryz.prog N 25 [.int .i64 size, .agg cs.toArray] h fun v h' => HS h h' ∧ ∃ a c, v = .slice a (qQ0 size n p).length c ∧ RB h' (.slice a (qQ0 size n p).length c) (qQ0 size n p) ∧ SL h' (.slice a (qQ0 size n p).length c) ∧ a.isNone = !qF3 size n p := by
  have hcs := r.len
  unfold qQ0
  refine zU Tryz.func25 rfl gf25 ok25 (by simp [Tryz.ntmps25]) ?_
  repeat' (first | with_reducible apply qK | ((with_reducible apply qB) <;> try simp only [qN, qC, qE, qG, qD, qA, qF, seval, qQ, qO, qP, pO]))
  refine wP hcs.2.1 fun k1 h1 m1 s1 f1 n1 => ?_
  have ld := zI (P := Tryz.prog) (t := 26) m1 xX hcs.1
  refine qJ ?_; repeat' (first | with_reducible apply qK | ((with_reducible first | apply qI | apply qB) <;> try simp only [qN, qC, qE, qG, qD, qA, qF, seval, qQ, qO, qP, pO, ld]))
  refine (qN9 N size n (r.hs s1 (fun cs x r => RPd.hs s1 n r)) hk).mono ?_
  rintro _ h2 ⟨rfl, s2⟩
  have S2 := s1.trans s2
  cases hck : qF3 size n p
  case false =>
    rw [if_neg (by decide)]
    refine qJ ?_; repeat' (first | with_reducible apply qK | ((with_reducible first | apply qI | apply qB | apply qR | apply qM) <;> try simp only [qN, qC, qE, qG, qD, qA, qF, seval, qQ, qO, qP, pO, cond]))
    exact ⟨S2, none, 0, rfl, RB.nil _, SL.nil _ _ _, rfl⟩
  rw [if_pos rfl]
  obtain ⟨hs1, hs2, hm⟩ := qY8 hck
  have ld2 := yO s2 ld
  refine qJ ?_; repeat' (first | with_reducible apply qK | ((with_reducible first | apply qI | apply qB | apply qR | apply qT) <;> try simp only [qN, qC, qE, qG, qD, qA, qF, seval, qQ, qO, qP, pO, cond, ld2]))
  refine (c_stext N hs2 n (t.hs S2) (r.hs S2 (fun cs x r => RPd.hs S2 n r)) hm hk).mono ?_
  rintro _ h3 ⟨s3, a3, c3, rfl, q1, q2⟩
  refine qJ ?_; repeat' (first | ((with_reducible first | apply qI | apply qM) <;> try simp only [qN, qC, qE, qG, qD, qA, qF, seval, qQ, qO, qP, pO]))
  refine ⟨S2.trans s3, a3, c3, rfl, q1, q2, ?_⟩
  cases ha : a3.isNone
  · rfl
  · exact absurd (q1.isnil ha) (lJ hs2 hm).2
theorem zS4 : type_of% (And.intro zF (And.intro lH (And.intro gY (And.intro qH9 (And.intro xB (And.intro uI rs116)))))) := And.intro zF (And.intro lH (And.intro gY (And.intro qH9 (And.intro xB (And.intro uI rs116)))))
def qR0 : Nat → List (Nat × List Nat) × List Nat
  | 1 => ([(0, []), (1, []), (2, []), (3, []), (4, []), (5, []), (6, []), (7, []), (8, []), (9, []), (10, [])], [0, 1, 3, 7, 15, 0, 32, 96, 224, 511, 1023])
  | _ => ([], [])
theorem pW : type_of% (And.intro zF (And.intro wS (And.intro lH (And.intro gY (And.intro wR (And.intro xB (And.intro uI (And.intro wF rs115)))))))) := And.intro zF (And.intro wS (And.intro lH (And.intro gY (And.intro wR (And.intro xB (And.intro uI (And.intro wF rs115)))))))
def fB : Nat → List (Nat × List Nat) × List Nat
  | 1 => ([(0, []), (1, []), (2, []), (3, []), (4, []), (5, []), (6, []), (7, []), (8, []), (9, []), (10, []), (11, []), (12, []), (13, []), (14, []), (15, []), (16, []), (17, []), (18, []), (19, []), (20, []), (21, []), (22, []), (23, []), (24, []), (25, [])], [0, 1, 0, 4, 12, 28, 63, 127, 255, 511, 1023, 2047, 4095, 8191, 16383, 8191, 40959, 8191, 139263, 401407, 925695, 2097151, 4194303, 8388607, 16777215, 33554431])
  | _ => ([], [])
theorem yH : type_of% (And.intro zF (And.intro wS (And.intro lH (And.intro gY (And.intro wR (And.intro qH9 (And.intro sX (And.intro xB (And.intro uI (And.intro wF rs114)))))))))) := And.intro zF (And.intro wS (And.intro lH (And.intro gY (And.intro wR (And.intro qH9 (And.intro sX (And.intro xB (And.intro uI (And.intro wF rs114)))))))))
def wV : Nat → List (Nat × List Nat) × List Nat
  | 2 => ([(0, []), (1, []), (2, []), (3, []), (4, []), (5, []), (6, []), (7, [])], [0, 1, 0, 4, 12, 28, 63, 127])
  | 3 => ([(0, []), (1, []), (2, []), (3, []), (4, []), (5, []), (6, []), (8, []), (9, []), (10, []), (11, []), (7, [11]), (12, []), (13, []), (14, []), (15, [])], [0, 1, 3, 7, 15, 31, 63, 127, 31, 287, 799, 1823, 4095, 8191, 16383, 32767])
  | 1 => ([(0, []), (1, []), (2, []), (3, []), (4, []), (5, []), (6, []), (8, []), (9, []), (11, []), (12, []), (7, [4, 9, 12]), (10, [4, 12]), (13, []), (14, [4]), (15, []), (16, []), (17, []), (18, [])], [0, 0, 2, 6, 14, 0, 32, 96, 0, 256, 992, 0, 2048, 8160, 16352, 32766, 65535, 131071, 262143])
  | _ => ([], [])
structure QP (hb h : GH) (k : Nat) (q : Pq) (s : St) (ar : Option Addr) (cr : Nat) (v : Value) (cells : List Value) : Prop where
  obj : h k = some ⟨[.int .i64 q.fr, .bool q.sm, .slice ar q.row.length cr, .int .i64 q.lim, v, .bool s.2], 0, true, false⟩
  nk : hb k = none
  row : RB hb (.slice ar q.row.length cr) q.row
  hs : HS hb h
  own : OWNC 3 hb h v s.1.length cells
  u8 : cells.all vO = true
  el : ∀ (i : Nat) x, s.1[i]? = some x → RPut h ((cells.drop (i * 3)).take 3) x
section
variable {hb h h' : GH} {k : Nat} {q : Pq} {s : St} {ar : Option Addr} {cr : Nat} {v : Value} {cells : List Value}
theorem QP.keep (x : QP hb h k q s ar cr v cells) (y : HS h h') : QP hb h' k q s ar cr v cells :=
  ⟨y _ _ x.obj, x.nk, x.row, x.hs.trans y, x.own.hs y, x.u8, fun i z hz => (x.el i z hz).hs y⟩
theorem QP.upd (x : QP hb h k q s ar cr v cells) {j : Nat} {B : GB} (m : h j = some B) (hu : B.cells.all vO = true) (he : B.es = 0) (hn : k ≠ j) (hbj : hb j = none) (f : ∀ i, i ≠ j → h' i = h i) : QP hb h' k q s ar cr v cells :=
  ⟨by rw [f k hn]; exact x.obj, x.nk, x.row, x.hs.upd hbj f, x.own.by5 m f (by rw [he]; decide), x.u8, fun i z hz => by
    obtain ⟨a, c, b, d, e, r1, r2⟩ := x.el i z hz
    exact ⟨a, c, b, d, e, r1.hx m hu (zH f), r2.hx m hu (zH f)⟩⟩
theorem qB5 (N : Nat) (x : QP hb h k q s ar cr v cells) : GTri Tryz.prog N 116 [.pointer (some ⟨k, 0, none⟩)] h fun u h' => u = .bool (q.full s) ∧ h' = h := by
  obtain ⟨a, c, rfl⟩ := x.own.form
  have m := x.obj
  unfold Pq.full
  refine zU Tryz.func116 rfl gf116 ok116 (by simp [Tryz.ntmps116]) ?_
  repeat' (first | with_reducible apply qK | ((first | (with_reducible first | apply qB | apply qM) | with_reducible refine zE qR0 xC (by kernel_rfl) ?_) <;> try simp only [qN, qC, qE, qG, qD, qA, qF, seval, qQ, qO, qP, qL, qY, qZ, zC, zS4, qR0, qH m qV3, qH m zS]))
theorem qZ1 (N : Nat) (x : QP hb h k q s ar cr v cells) {K : Type} {R : GH → List Value → K → Prop} {cs : List Value} {p : Pn K} (r : RPn R h cs p) (hl : p.pf.length ≤ 100000000) (hq : q.row.length ≤ 100000000) : GTri Tryz.prog N 115 [.pointer (some ⟨k, 0, none⟩), .agg cs.toArray] h fun u h' => u = .bool (q.idle p) ∧ HS h h' := by
  obtain ⟨a1, c1, a2, c2, a3, c3, a4, c4, a5, c5, a6, c6, rfl, r1, r2, r3, r4, r5, r6⟩ := r
  unfold Pq.idle
  refine zU Tryz.func115 rfl gf115 ok115 (by simp [Tryz.ntmps115]) ?_
  repeat' (first | with_reducible apply qK | ((with_reducible apply qB) <;> try simp only [qN, qC, qE, qG, qD, qA, qF, seval, qQ, qO, qP, qL, qY, qZ, zC, pW, fB]))
  refine wP rfl fun k1 h1 m1 s1 f1 n1 => ?_
  simp only [Pn.cs] at m1
  have mq := s1 _ _ x.obj
  have rq := x.row.hs (x.hs.trans s1)
  have rp := r3.hs s1
  cases z0 : decide (p.nw ≤ q.fr)
  case true =>
    refine qJ ?_; repeat' (first | with_reducible apply qK | ((first | (with_reducible first | apply qI | apply qM) | with_reducible refine zE fB xC (by kernel_rfl) ?_) <;> try simp only [qN, qC, qE, qG, qD, qA, qF, seval, qQ, qO, qP, qL, qY, qZ, zC, pW, fB, z0, qH m1 zS, qH mq zS, qH mq gV, qH mq zD, qH m1 zD, gPick]))
    first | exact s1 | exact ⟨by simp, s1⟩
  cases z1 : q.sm
  case false =>
    rw [z1] at mq
    refine qJ ?_; repeat' (first | with_reducible apply qK | ((first | (with_reducible first | apply qI | apply qM) | with_reducible refine zE fB xC (by kernel_rfl) ?_) <;> try simp only [qN, qC, qE, qG, qD, qA, qF, seval, qQ, qO, qP, qL, qY, qZ, zC, pW, fB, z0, qH m1 zS, qH mq zS, qH mq gV, qH mq zD, qH m1 zD, gPick]))
    first | exact s1 | exact ⟨by simp, s1⟩
  rw [z1] at mq
  refine qJ ?_; repeat' (first | with_reducible apply qK | ((first | (with_reducible first | apply qI | apply qM) | with_reducible refine zE fB xC (by kernel_rfl) ?_ | ((refine GTri.mono (c_Side _ _ rp rq (by omega) (by omega) _) ?_); rintro _ _ ⟨rfl, hh9⟩; replace hh9 := hh9.symm; subst hh9)) <;> try simp only [qN, qC, qE, qG, qD, qA, qF, seval, qQ, qO, qP, qL, qY, qZ, zC, pW, fB, z0, qH m1 zS, qH mq zS, qH mq gV, qH mq zD, qH m1 zD, gPick]))
  first | exact s1 | exact ⟨by simp, s1⟩
theorem FR.upd {e k j : Nat} {a b c : GH} (x : FR e k a b) (n : a j = none) (f : ∀ i, i ≠ j → c i = b i) : FR e k a c := fun i B m q => by
  rw [f i (fun e' => by rw [e', n] at m; cases m)]
  exact x i B m q
theorem FR.at {e k : Nat} {a b c : GH} (x : FR e k a b) {B : GB} (m : b k = some B) (hB : B.cells.all vO = true) (f : ∀ i, i ≠ k → c i = b i) (hk : ∀ B', a k = some B' → B'.cells.all vO = true) : FR e k a c := fun i C m' q' => by
  by_cases hi : i = k
  · subst hi
    rcases q' with q' | q'
    · rw [hk _ m'] at q'; cases q'
    · exact absurd rfl q'.1
  · rw [f i hi]
    exact x i C m' q'
theorem zL4 (N : Nat) (x : QP hb h k q s ar cr v cells) {K : Type} {R : GH → List Value → K → Prop} {cs : List Value} {p : Pn K} (r : RPn R h cs p) (hid : p.id.length ≤ 100000000) (hky : p.ky.length ≤ 100000000) (hs : s.1.length ≤ 2000000) : GTri Tryz.prog N 114 [.pointer (some ⟨k, 0, none⟩), .agg cs.toArray] h fun _ h' => FR 3 k h h' ∧ ∃ v' cells', QP hb h' k q (q.see p s) ar cr v' cells' := by
  obtain ⟨a1, c1, a2, c2, a3, c3, a4, c4, a5, c5, a6, c6, rfl, r1, r2, r3, r4, r5, r6⟩ := r
  obtain ⟨av, cv, rfl⟩ := x.own.form
  have huk : ∀ B', h k = some B' → B'.cells.all vO = true := fun B' m => by rw [x.obj] at m; cases m; rfl
  refine zU Tryz.func114 rfl gf114 ok114 (by simp [Tryz.ntmps114]) ?_
  repeat' (first | with_reducible apply qK | ((with_reducible apply qB) <;> try simp only [qN, qC, qE, qG, qD, qA, qF, seval, qQ, qO, qP, qL, qY, qZ, zC, yH, wV]))
  refine wP rfl fun k1 h1 m1 s1 f1 n1 => ?_
  simp only [Pn.cs] at m1
  have x1 := x.keep s1
  have mq := x1.obj
  have no : q.has p.id p.si = false → ∀ {h' : GH}, HS h h' → FR 3 k h h' ∧ ∃ v' cells', QP hb h' k q (q.see p s) ar cr v' cells' := fun hh h' s' => by
    unfold Pq.see
    rw [hh, if_neg (by decide)]
    exact ⟨.of s', _, _, x.keep s'⟩
  cases z0 : decide (p.si ≤ q.fr)
  case true =>
    have hh : q.has p.id p.si = false := by
      unfold Pq.has
      have : ¬ p.si > q.fr := by have := of_decide_eq_true z0; omega
      rw [decide_eq_false this]; rfl
    refine qJ ?_; repeat' (first | (with_reducible first | apply qK | apply qS) | ((first | (with_reducible first | apply qI | apply qR | apply qT) | with_reducible refine zE wV xC (by kernel_rfl) ?_) <;> try simp only [qN, qC, qE, qG, qD, qA, qF, seval, qQ, qO, qP, qL, qY, qZ, zC, yH, wV, z0, qH m1 zS, qH mq zS]))
    exact no hh s1
  have z0' : decide (p.si > q.fr) = true := by have := of_decide_eq_false z0; exact decide_eq_true (by omega)
  refine qJ ?_; iterate 5 (first | (with_reducible first | apply qK | apply qS) | ((first | (with_reducible first | apply qI | apply qR) | with_reducible refine zE wV xC (by kernel_rfl) ?_) <;> try simp only [qN, qC, qE, qG, qD, qA, qF, seval, qQ, qO, qP, qL, qY, qZ, zC, yH, wV, z0, qH m1 zS, qH mq zS]))
  refine qK ?_
  refine GW.mono (Q := fun z e' h' => z = .normal ∧ HS h1 h' ∧ lk e' 0 = .pointer (some ⟨k, 0, none⟩) ∧ lk e' 3 = .pointer (some ⟨k1, 0, none⟩) ∧ lk e' 30 = .bool (q.sm && decide (Lib.compareBytes (zL p.id) q.row ≤ 0))) ?_ ?_
  · cases z1 : q.sm
    case false =>
      rw [z1] at mq
      refine qJ ?_; repeat' (first | ((first | (with_reducible apply qI) | with_reducible refine zE wV xC (by kernel_rfl) ?_) <;> try simp only [qN, qC, qE, qG, qD, qA, qF, seval, qQ, qO, qP, qL, qY, qZ, zC, yH, wV, qH m1 zS, qH m1 zD, qH mq zS, qH mq gV, qH mq zD, gPick]))
      all_goals first | exact HS.refl _ | exact ⟨HS.refl _, rfl⟩ | exact ⟨HS.refl _, by simp⟩
    rw [z1] at mq
    refine qJ ?_; repeat' (first | ((first | (with_reducible apply qI) | with_reducible refine zE wV xC (by kernel_rfl) ?_) <;> try simp only [qN, qC, qE, qG, qD, qA, qF, seval, qQ, qO, qP, qL, qY, qZ, zC, yH, wV, qH m1 zS, qH m1 zD, qH mq zS, qH mq gV, qH mq zD, gPick]))
    refine (qO1 N h1 (r1.hs s1) rfl).mono ?_
    rintro _ h2 ⟨s2, a7, c7, rfl, r7, _⟩
    have mq2 := s2 _ _ mq
    have m12 := s2 _ _ m1
    have rq := x.row.hs (x1.hs.trans s2)
    refine qJ ?_; repeat' (first | ((first | (with_reducible apply qI) | ((refine GTri.mono (zT7 _ _ r7 rq) ?_); rintro _ _ ⟨rfl, hh9⟩; replace hh9 := hh9.symm; subst hh9)) <;> try simp only [qN, qC, qE, qG, qD, qA, qF, seval, qQ, qO, qP, qL, qY, qZ, zC, yH, wV, qH m12 zS, qH m12 zD, qH mq2 zS, qH mq2 gV, qH mq2 zD, gPick]))
    all_goals first | exact s2 | exact ⟨s2, rfl⟩ | exact ⟨s2, by simp⟩
  rintro _ e' h2 ⟨rfl, s12, q0, q3, q30⟩
  rw [jV]
  refine dH [(0, .pointer (some ⟨k, 0, none⟩)), (3, .pointer (some ⟨k1, 0, none⟩)), (30, .bool (q.sm && decide (Lib.compareBytes (zL p.id) q.row ≤ 0)))] (by simp [q0, q3, q30]) ?_
  clear q0 q3 q30
  have S2 := s1.trans s12
  have x2 := x1.keep s12
  have m2 := s12 _ _ m1
  cases z1 : (q.sm && decide (Lib.compareBytes (zL p.id) q.row ≤ 0))
  case true =>
    have hh : q.has p.id p.si = false := by
      simp only [Bool.and_eq_true, decide_eq_true_eq] at z1
      unfold Pq.has
      rw [z1.1, decide_eq_false (p := Lib.compareBytes (zL p.id) q.row > 0) (by omega)]
      simp
    refine qJ ?_; repeat' (first | ((with_reducible first | apply qI | apply qR | apply qT) <;> try simp only [qN, qC, qE, qG, qD, qA, qF, seval, qQ, qO, qP, qL, qY, qZ, zC, yH, wV]))
    exact no hh S2
  have hh : q.has p.id p.si = true := by
    unfold Pq.has
    rw [z0']
    cases hsm : q.sm
    · rfl
    · rw [hsm, Bool.true_and, decide_eq_false_iff_not] at z1
      rw [decide_eq_true (p := Lib.compareBytes (zL p.id) q.row > 0) (by omega)]
      rfl
  have mq2 := x2.obj
  unfold Pq.see
  rw [if_pos hh]
  cases z3 : q.full s
  case true =>
    rw [if_pos rfl]
    refine qJ ?_; repeat' (first | with_reducible apply qK | ((first | (with_reducible first | apply qI | apply qB | apply qR) | ((refine GTri.mono (qB5 _ x2) ?_); rintro _ _ ⟨rfl, hh9⟩; replace hh9 := hh9.symm; subst hh9)) <;> try simp only [qN, qC, qE, qG, qD, qA, qF, seval, qQ, qO, qP, qL, qY, qZ, zC, yH, wV, z3, qH mq2 zS]))
    refine zW mq2 gV rfl (by simp) rfl rfl fun h3 m3 f3 => ?_
    simp only [List.set_cons_zero, List.set_cons_succ] at m3
    refine qJ ?_; repeat' (first | ((with_reducible apply qI) <;> try simp only [qN, qC, qE, qG, qD, qA, qF, seval, qQ, qO, qP, qL, qY, qZ, zC, yH, wV]))
    have hu2 : ∀ B', h2 k = some B' → B'.cells.all vO = true := fun B' m => by rw [mq2] at m; cases m; rfl
    refine ⟨(FR.of S2).at mq2 rfl f3 huk, _, _, m3, x.nk, x.row, x2.hs.upd x.nk f3, x2.own.by5 mq2 f3, x.u8, fun i z hz => ?_⟩
    obtain ⟨a, c, b, d, e, r1, r2⟩ := x2.el i z hz
    exact ⟨a, c, b, d, e, r1.hx mq2 rfl (zH f3), r2.hx mq2 rfl (zH f3)⟩
  rw [if_neg (by decide)]
  refine qJ ?_; repeat' (first | with_reducible apply qK | ((first | (with_reducible first | apply qI | apply qB | apply qR) | with_reducible refine zE wV xC (by kernel_rfl) ?_ | ((refine GTri.mono (qB5 _ x2) ?_); rintro _ _ ⟨rfl, hh9⟩; replace hh9 := hh9.symm; subst hh9)) <;> try simp only [qN, qC, qE, qG, qD, qA, qF, seval, qQ, qO, qP, qL, qY, qZ, zC, yH, wV, z3, qH mq2 qV3, qH m2 zD, qH m2 zS]))
  refine (zH0 N h2 (r1.hs S2) (by omega)).mono ?_
  rintro _ h3 ⟨s3, o3⟩
  obtain ⟨a8, c8, rfl⟩ := o3.form
  have mq3 := s3 _ _ mq2
  have m3 := s3 _ _ m2
  refine qJ ?_; repeat' (first | ((with_reducible apply qI) <;> try simp only [qN, qC, qE, qG, qD, qA, qF, seval, qQ, qO, qP, qL, qY, qZ, zC, yH, wV, qH mq3 qV3, qH m3 zD, qH m3 zS]))
  refine (zH0 N h3 ((r2.hs S2).hs s3) (by omega)).mono ?_
  rintro _ h4 ⟨s4, o4⟩
  obtain ⟨a9, c9, rfl⟩ := o4.form
  have s24 := s3.trans s4
  have mq4 := s24 _ _ mq2
  have m4 := s24 _ _ m2
  refine qJ ?_; repeat' (first | ((with_reducible apply qI) <;> try simp only [qN, qC, qE, qG, qD, qA, qF, seval, qQ, qO, qP, qL, qY, qZ, zC, yH, wV, qH mq4 qV3, qH m4 zD, qH m4 zS, xP, xZ, vY, Shape.pl, List.all_cons, List.all_nil, zK]))
  refine qO4 el65 rfl rfl (by decide) (by decide) rfl fun k5 h5 b5 s5 f5 n5 => ?_
  have s25 := s24.trans s5
  have mq5 := s25 _ _ mq2
  have m5 := s25 _ _ m2
  have x5 := x2.keep s25
  refine qJ ?_; repeat' (first | ((with_reducible apply qI) <;> try simp only [qN, qC, qE, qG, qD, qA, qF, seval, qQ, qO, qP, qL, qY, qZ, zC, yH, wV, qH mq5 qV3, qH m5 zD, qH m5 zS]))
  refine gG el65 Tryz.underlying65 rfl x5.hs x5.own b5 rfl rfl (by omega) (by simp only [maxLen]; omega) fun v6 h6 s6 fr6 o6 => ?_
  obtain ⟨a6', c6', rfl⟩ := o6.form
  have mq6 := qH1 fr6 mq5 (by simp)
  refine qJ ?_; repeat' (first | ((with_reducible apply qI) <;> try simp only [qN, qC, qE, qG, qD, qA, qF, seval, qQ, qO, qP, qL, qY, qZ, zC, yH, wV, qH mq6 qV3]))
  refine zW mq6 qV3 rfl (by simp) rfl rfl fun h7 m7 f7 => ?_
  simp only [List.set_cons_zero, List.set_cons_succ] at m7
  refine qJ ?_; repeat' (first | ((with_reducible apply qI) <;> try simp only [qN, qC, qE, qG, qD, qA, qF, seval, qQ, qO, qP, qL, qY, qZ, zC, yH, wV]))
  have zz : ∀ {v l}, RB h5 v l → RB h7 v l := fun r => (fr_rb fr6 x.u8 r).hx mq6 rfl (zH f7)
  have zp : ∀ {cs z}, RPut h5 cs z → RPut h7 cs z := fun ⟨a, c, b, d, e, r1, r2⟩ => ⟨a, c, b, d, e, zz r1, zz r2⟩
  have S5 := S2.trans s25
  have fr6' : FR 3 k h h6 := fun j B m q' => fr6 j B (S5 _ _ m) fun _ kb c e1 e2 hk2 e3 => by
    have h5j := S5 _ _ m
    rw [e3, hk2] at h5j
    cases h5j
    rcases q' with q' | q'
    · rw [x.u8] at q'; cases q'
    · exact q'.2 rfl
  refine ⟨fr6'.at mq6 rfl f7 huk, _, cells ++ [.slice a8 p.id.length c8, .slice a9 p.ky.length c9, .int .i64 p.si], m7, x.nk, x.row, s6.upd x.nk f7, ?_, ?_, fun i z hz => ?_⟩
  · have := o6.by5 mq6 f7
    rw [List.length_append]; exact this
  · rw [List.all_append, x.u8]; rfl
  · have ej := x.own.len
    by_cases hi : i < s.1.length
    · rw [List.getElem?_append_left hi] at hz
      rw [List.drop_append_of_le_length (by omega), List.take_append_of_le_length (by rw [List.length_drop]; omega)]
      exact zp (x5.el i z hz)
    · have hl := (List.getElem?_eq_some_iff.1 hz).1
      simp only [List.length_append, List.length_singleton] at hl
      obtain rfl : i = s.1.length := by omega
      rw [List.getElem?_append_right (by omega), Nat.sub_self] at hz
      cases hz
      rw [← ej, List.drop_left]
      exact ⟨a8, c8, a9, c9, rfl, zz ((o3.rb.hs s4).hs s5), zz (o4.rb.hs s5)⟩
end
theorem vI : type_of% (And.intro zF (And.intro wS (And.intro lH (And.intro gY (And.intro wR (And.intro sX (And.intro xB (And.intro uI rs74)))))))) := And.intro zF (And.intro wS (And.intro lH (And.intro gY (And.intro wR (And.intro sX (And.intro xB (And.intro uI rs74)))))))
theorem zM9 {K : Type} (q : Pq) (p : Pn K) (s : St) : (q.see p s).1.length ≤ s.1.length + 1 := by
  unfold Pq.see
  split
  · split <;> simp
  · omega
theorem zN3 {K : Type} (q : Pq) (p : Pn K) (s : St) : (zH8 q p s).2.1.length ≤ s.1.length + 1 := by
  unfold zH8
  split
  · exact zM9 q p s
  · split
    · split <;> simp
    · simp
theorem zF3 {n : Nat} {p : Pn (Pd (n + 1))} {a b : Pn (Pd n)} (h3 : p.kd = 3) (hk : p.kids = [a, b]) : gH (n + 1) p = 1 + (gH n a + gH n b) := by
  show 1 + (if p.kd = 3 then (@List.map (Pd (n + 1)) Nat (gH n) p.kids).sum else 0) = _
  rw [if_pos h3, hk]
  show 1 + (gH n a + (gH n b + 0)) = _
  omega
theorem qL6 {size : Int} (q : Pq) : ∀ (n : Nat) (p : Pn (Pd n)), wY size n p = true → ∀ s, (gZ q n p s).2.1.length ≤ s.1.length + gH n p
  | 0, p, _, s => by
    have := zN3 q p s
    unfold gZ gH
    exact this
  | n + 1, p, hm, s => by
    by_cases h3 : p.kd = 3
    · obtain ⟨a, b, hk, _, ma, _, mb, _⟩ := lT hm h3
      rw [qR5 (n := n + 1) (a := a) (b := b) h3 ⟨rfl, hk⟩]
      have ha := qL6 q n a ma s
      have e := zF3 h3 hk
      rw [e]
      generalize hz : gZ q n a s = z at ha
      obtain ⟨_ | _, s1⟩ := z
      · simp only at ha ⊢; omega
      · have hb := qL6 q n b mb s1
        simp only at ha ⊢; omega
    · rw [qL5 h3]
      have := zN3 q p s
      have e : gH (n + 1) p = 1 := by unfold gH; rw [if_neg h3]
      omega
theorem c_plist (N : Nat) {size : Int} {q : Pq} (hq : q.row.length ≤ 100000000) : ∀ (n : Nat) {hb h : GH} {k : Nat} {s : St} {ar : Option Addr} {cr : Nat} {v : Value} {cells : List Value} (x : QP hb h k q s ar cr v cells) {cs : List Value} {p : Pn (Pd n)} (r : RPn (RPd n) hb cs p) (hm : wY size n p = true) (hk : Pn.bulk (Pd.bulk n) p ≤ 100000000) (hs : s.1.length + gH n p ≤ 2000000),
    GTri Tryz.prog N 74 [.pointer (some ⟨k, 0, none⟩), .agg cs.toArray] h fun u h' => u = .bool (gZ q n p s).1 ∧ FR 3 k h h' ∧ ∃ v' cells', QP hb h' k q (gZ q n p s).2 ar cr v' cells' := by
  intro n
  induction n with
  | zero =>
    intro hb h k s ar cr v cells x cs p r hm hk hs
    have hr := gB hm
    have k3 : p.kd ≠ 3 := fun q => by
      obtain ⟨a, b, e⟩ := tP hr q
      exact nomatch (show Empty from a)
    have hc1 : gH 0 p = 1 := rfl
    have r0 := r
    have hbp := Pn.bulk_parts p
    have hcs := r.len
    have e3 : (p.kd == 3) = false := by simp [k3]
    rw [qL5 k3]
    unfold zH8
    refine zU Tryz.func74 rfl gf74 ok74 (by simp [Tryz.ntmps74]) ?_
    repeat' (first | with_reducible apply qK | ((with_reducible apply qB) <;> try simp only [qN, qC, qE, qG, qD, qA, qF, seval, qQ, qO, qP, vI]))
    refine wP hcs.2.1 fun k1 h1 m1 s1 f1 n1 => ?_
    have x1 := x.keep s1
    have ld := zI (P := Tryz.prog) (t := 26) m1 xX hcs.1
    have m1' := m1
    obtain ⟨a1, c1, a2, c2, a3, c3, a4, c4, a5, c5, a6, c6, ecs, _⟩ := r
    rw [ecs] at m1'
    simp only [Pn.cs] at m1'
    have r1 := r0.hs x1.hs (fun cs x r => RPd.hs x1.hs 0 r)
    by_cases h1' : p.kd = 1
    · have e1 : (p.kd == 1) = true := by simp [h1']
      rw [if_pos h1']
      refine qJ ?_; repeat' (first | (with_reducible first | apply qK | apply qS) | ((with_reducible first | apply qI | apply qB | apply qR) <;> try simp only [qN, qC, qE, qG, qD, qA, qF, seval, qQ, qO, qP, vI, qH m1' zS, e1, ld]))
      refine (zL4 N x1 r1 (by omega) (by omega) (by omega)).mono ?_
      rintro _ h2 ⟨fr, v', cells', x2⟩
      refine qJ ?_; repeat' (first | with_reducible apply qK | ((with_reducible first | apply qI | apply qB | apply qM) <;> try simp only [qN, qC, qE, qG, qD, qA, qF, seval, qQ, qO, qP, vI]))
      first | exact ⟨(FR.of s1).trans fr, v', cells', x2⟩ | exact ⟨rfl, (FR.of s1).trans fr, v', cells', x2⟩
    have e1 : (p.kd == 1) = false := by simp [h1']
    rw [if_neg h1']
    by_cases h2' : p.kd = 2
    · have e2 : (p.kd == 2) = true := by simp [h2']
      rw [if_pos h2']
      refine qJ ?_; repeat' (first | (with_reducible first | apply qK | apply qS) | ((with_reducible first | apply qI | apply qB | apply qR) <;> try simp only [qN, qC, qE, qG, qD, qA, qF, seval, qQ, qO, qP, vI, qH m1' zS, e1, e2, ld]))
      refine (qZ1 N x1 r1 (by omega) hq).mono ?_
      rintro _ h2 ⟨rfl, s2⟩
      have S2 := s1.trans s2
      have x2 := x.keep S2
      cases hi : q.idle p
      case true =>
        rw [if_pos rfl]
        refine qJ ?_; repeat' (first | with_reducible apply qK | ((with_reducible first | apply qI | apply qB | apply qR | apply qM) <;> try simp only [qN, qC, qE, qG, qD, qA, qF, seval, qQ, qO, qP, vI]))
        first | exact ⟨.of S2, _, _, x2⟩ | exact ⟨rfl, .of S2, _, _, x2⟩
      rw [if_neg (by decide)]
      have mq2 := x2.obj
      refine qJ ?_; repeat' (first | with_reducible apply qK | ((with_reducible first | apply qI | apply qB | apply qR | apply qT) <;> try simp only [qN, qC, qE, qG, qD, qA, qF, seval, qQ, qO, qP, vI, qH mq2 gV]))
      refine zW mq2 gV rfl (by simp) rfl rfl fun h3 m3 f3 => ?_
      simp only [List.set_cons_zero, List.set_cons_succ] at m3
      have huk : ∀ B', h k = some B' → B'.cells.all vO = true := fun B' m => by
        obtain ⟨_, _, e⟩ := x.own.form
        have := x.obj
        rw [e] at this
        rw [this] at m; cases m; rfl
      have hu2 : [Value.int .i64 q.fr, .bool q.sm, .slice ar q.row.length cr, .int .i64 q.lim, v, .bool s.2].all vO = true := by
        obtain ⟨_, _, e⟩ := x.own.form
        rw [e]; rfl
      have x3 : QP hb h3 k q (s.1, true) ar cr v cells := ⟨m3, x.nk, x.row, x2.hs.upd x.nk f3, x2.own.by5 mq2 f3, x.u8, fun i z hz => by
        obtain ⟨a, c, b, d, e, r1, r2⟩ := x2.el i z hz
        exact ⟨a, c, b, d, e, r1.hx mq2 hu2 (zH f3), r2.hx mq2 hu2 (zH f3)⟩⟩
      have efu : q.full (s.1, true) = q.full s := rfl
      refine qJ ?_; repeat' (first | with_reducible apply qK | ((first | (with_reducible first | apply qI | apply qB | apply qM) | ((refine GTri.mono (qB5 _ x3) ?_); rintro _ _ ⟨rfl, hh9⟩; replace hh9 := hh9.symm; subst hh9)) <;> try simp only [qN, qC, qE, qG, qD, qA, qF, seval, qQ, qO, qP, vI, efu]))
      have fr3 := (FR.of (e := 3) (k := k) S2).at mq2 hu2 f3 huk
      first | exact ⟨fr3, _, _, x3⟩ | exact ⟨rfl, fr3, _, _, x3⟩
    have e2 : (p.kd == 2) = false := by simp [h2']
    rw [if_neg h2']
    refine qJ ?_; repeat' (first | (with_reducible first | apply qK | apply qS) | ((with_reducible first | apply qI | apply qB | apply qR | apply qT | apply qM) <;> try simp only [qN, qC, qE, qG, qD, qA, qF, seval, qQ, qO, qP, vI, qH m1' zS, e1, e2, e3, ld]))
    first | exact ⟨.of s1, _, _, x1⟩ | exact ⟨rfl, .of s1, _, _, x1⟩
  | succ n ih =>
    intro hb h k s ar cr v cells x cs p r hm hk hs
    have hr := gB hm
    by_cases k3 : p.kd = 3
    case neg =>
      have hc1 : gH (n + 1) p = 1 := by unfold gH; rw [if_neg k3]
      have r0 := r
      have hbp := Pn.bulk_parts p
      have hcs := r.len
      have e3 : (p.kd == 3) = false := by simp [k3]
      rw [qL5 k3]
      unfold zH8
      refine zU Tryz.func74 rfl gf74 ok74 (by simp [Tryz.ntmps74]) ?_
      repeat' (first | with_reducible apply qK | ((with_reducible apply qB) <;> try simp only [qN, qC, qE, qG, qD, qA, qF, seval, qQ, qO, qP, vI]))
      refine wP hcs.2.1 fun k1 h1 m1 s1 f1 n1 => ?_
      have x1 := x.keep s1
      have ld := zI (P := Tryz.prog) (t := 26) m1 xX hcs.1
      have m1' := m1
      obtain ⟨a1, c1, a2, c2, a3, c3, a4, c4, a5, c5, a6, c6, ecs, _⟩ := r
      rw [ecs] at m1'
      simp only [Pn.cs] at m1'
      have r1 := r0.hs x1.hs (fun cs x r => RPd.hs x1.hs (n + 1) r)
      by_cases h1' : p.kd = 1
      · have e1 : (p.kd == 1) = true := by simp [h1']
        rw [if_pos h1']
        refine qJ ?_; repeat' (first | (with_reducible first | apply qK | apply qS) | ((with_reducible first | apply qI | apply qB | apply qR) <;> try simp only [qN, qC, qE, qG, qD, qA, qF, seval, qQ, qO, qP, vI, qH m1' zS, e1, ld]))
        refine (zL4 N x1 r1 (by omega) (by omega) (by omega)).mono ?_
        rintro _ h2 ⟨fr, v', cells', x2⟩
        refine qJ ?_; repeat' (first | with_reducible apply qK | ((with_reducible first | apply qI | apply qB | apply qM) <;> try simp only [qN, qC, qE, qG, qD, qA, qF, seval, qQ, qO, qP, vI]))
        first | exact ⟨(FR.of s1).trans fr, v', cells', x2⟩ | exact ⟨rfl, (FR.of s1).trans fr, v', cells', x2⟩
      have e1 : (p.kd == 1) = false := by simp [h1']
      rw [if_neg h1']
      by_cases h2' : p.kd = 2
      · have e2 : (p.kd == 2) = true := by simp [h2']
        rw [if_pos h2']
        refine qJ ?_; repeat' (first | (with_reducible first | apply qK | apply qS) | ((with_reducible first | apply qI | apply qB | apply qR) <;> try simp only [qN, qC, qE, qG, qD, qA, qF, seval, qQ, qO, qP, vI, qH m1' zS, e1, e2, ld]))
        refine (qZ1 N x1 r1 (by omega) hq).mono ?_
        rintro _ h2 ⟨rfl, s2⟩
        have S2 := s1.trans s2
        have x2 := x.keep S2
        cases hi : q.idle p
        case true =>
          rw [if_pos rfl]
          refine qJ ?_; repeat' (first | with_reducible apply qK | ((with_reducible first | apply qI | apply qB | apply qR | apply qM) <;> try simp only [qN, qC, qE, qG, qD, qA, qF, seval, qQ, qO, qP, vI]))
          first | exact ⟨.of S2, _, _, x2⟩ | exact ⟨rfl, .of S2, _, _, x2⟩
        rw [if_neg (by decide)]
        have mq2 := x2.obj
        refine qJ ?_; repeat' (first | with_reducible apply qK | ((with_reducible first | apply qI | apply qB | apply qR | apply qT) <;> try simp only [qN, qC, qE, qG, qD, qA, qF, seval, qQ, qO, qP, vI, qH mq2 gV]))
        refine zW mq2 gV rfl (by simp) rfl rfl fun h3 m3 f3 => ?_
        simp only [List.set_cons_zero, List.set_cons_succ] at m3
        have huk : ∀ B', h k = some B' → B'.cells.all vO = true := fun B' m => by
          obtain ⟨_, _, e⟩ := x.own.form
          have := x.obj
          rw [e] at this
          rw [this] at m; cases m; rfl
        have hu2 : [Value.int .i64 q.fr, .bool q.sm, .slice ar q.row.length cr, .int .i64 q.lim, v, .bool s.2].all vO = true := by
          obtain ⟨_, _, e⟩ := x.own.form
          rw [e]; rfl
        have x3 : QP hb h3 k q (s.1, true) ar cr v cells := ⟨m3, x.nk, x.row, x2.hs.upd x.nk f3, x2.own.by5 mq2 f3, x.u8, fun i z hz => by
          obtain ⟨a, c, b, d, e, r1, r2⟩ := x2.el i z hz
          exact ⟨a, c, b, d, e, r1.hx mq2 hu2 (zH f3), r2.hx mq2 hu2 (zH f3)⟩⟩
        have efu : q.full (s.1, true) = q.full s := rfl
        refine qJ ?_; repeat' (first | with_reducible apply qK | ((first | (with_reducible first | apply qI | apply qB | apply qM) | ((refine GTri.mono (qB5 _ x3) ?_); rintro _ _ ⟨rfl, hh9⟩; replace hh9 := hh9.symm; subst hh9)) <;> try simp only [qN, qC, qE, qG, qD, qA, qF, seval, qQ, qO, qP, vI, efu]))
        have fr3 := (FR.of (e := 3) (k := k) S2).at mq2 hu2 f3 huk
        first | exact ⟨fr3, _, _, x3⟩ | exact ⟨rfl, fr3, _, _, x3⟩
      have e2 : (p.kd == 2) = false := by simp [h2']
      rw [if_neg h2']
      refine qJ ?_; repeat' (first | (with_reducible first | apply qK | apply qS) | ((with_reducible first | apply qI | apply qB | apply qR | apply qT | apply qM) <;> try simp only [qN, qC, qE, qG, qD, qA, qF, seval, qQ, qO, qP, vI, qH m1' zS, e1, e2, e3, ld]))
      first | exact ⟨.of s1, _, _, x1⟩ | exact ⟨rfl, .of s1, _, _, x1⟩
    have r0 := r
    have hbp := Pn.bulk_parts p
    obtain ⟨a1, c1, a2, c2, a3, c3, a4, c4, a5, c5, a6, c6, rfl, r1, r2, r3, r4, r5, r6⟩ := r
    obtain ⟨a, b, hkids, _, ma, _, mb, _⟩ := lT hm k3
    have hkl : p.kids.length = 2 := by rw [hkids]; rfl
    have ecn := zF3 k3 hkids
    have hab := Pn.kids_bulk (p := p) (x := a) (by rw [hkids]; exact List.mem_cons_self ..)
    have hbb := Pn.kids_bulk (p := p) (x := b) (by rw [hkids]; exact List.mem_cons_of_mem _ (List.mem_cons_self ..))
    rw [qR5 (n := n + 1) (a := a) (b := b) k3 ⟨rfl, hkids⟩]
    have e1 : (p.kd == 1) = false := by simp [k3]
    have e2 : (p.kd == 2) = false := by simp [k3]
    have e3 : (p.kd == 3) = true := by simp [k3]
    refine zU Tryz.func74 rfl gf74 ok74 (by simp [Tryz.ntmps74]) ?_
    repeat' (first | with_reducible apply qK | ((with_reducible apply qB) <;> try simp only [qN, qC, qE, qG, qD, qA, qF, seval, qQ, qO, qP, vI]))
    refine wP rfl fun k1 h1 m1 s1 f1 n1 => ?_
    simp only [Pn.cs] at m1
    rw [hkl] at m1
    have x1 := x.keep s1
    have at0 : ∀ {h2 : GH} (s : HS hb h2) (i : Nat) (y : Pn (Pd n)), p.kids[i]? = some y → ∃ ad cs5, zJ Tryz.prog 24 (.slice a6 2 c6) (i : Int) = some (.pointer (some ad)) ∧ wZ Tryz.prog 26 h2 (.pointer (some ad)) = some (.agg cs5.toArray) ∧ RPn (RPd n) hb cs5 y := fun {h2} s i y hy => by
      obtain ⟨ad, cs5, g1, g2, e⟩ := RL.at (P := Tryz.prog) r6 Tryz.underlying24 xX hy
      rw [hkl] at g1
      exact ⟨ad, cs5, g1, yO s (gK xX g2), e⟩
    obtain ⟨ad, cs5, g1, g2, y1⟩ := at0 x1.hs 0 a (by rw [hkids]; rfl)
    have g1' : zJ Tryz.prog 24 (.slice a6 2 c6) 0 = some (.pointer (some ad)) := g1
    refine qJ ?_; repeat' (first | (with_reducible first | apply qK | apply qS) | ((with_reducible first | apply qI | apply qB | apply qR) <;> try simp only [qN, qC, qE, qG, qD, qA, qF, seval, qQ, qO, qP, vI, qH m1 zS, qH m1 wO, e1, e2, e3, g1', g2]))
    refine (ih x1 y1 ma (by omega) (by omega)).mono ?_
    rintro _ h2 ⟨rfl, fr2, v2, cells2, x2⟩
    have ll := qL6 q n a ma s
    generalize hz : gZ q n a s = z at x2 ll ⊢
    obtain ⟨b1, s1'⟩ := z
    simp only at x2 ll
    have k1k : k1 ≠ k := fun e => by rw [e, x.obj] at n1; cases n1
    have m2 := fr2 _ _ m1 (.inr ⟨k1k, by simp⟩)
    have f02 := (FR.of (e := 3) (k := k) s1).trans fr2
    cases b1
    case false =>
      refine qJ ?_; repeat' (first | ((with_reducible first | apply qI | apply qM) <;> try simp only [qN, qC, qE, qG, qD, qA, qF, seval, qQ, qO, qP, vI, gPick]))
      first | exact ⟨f02, v2, cells2, x2⟩ | exact ⟨rfl, f02, v2, cells2, x2⟩
    obtain ⟨ad', cs6, g3, g4, y2⟩ := at0 x2.hs 1 b (by rw [hkids]; rfl)
    have g3' : zJ Tryz.prog 24 (.slice a6 2 c6) 1 = some (.pointer (some ad')) := g3
    refine qJ ?_; repeat' (first | ((with_reducible apply qI) <;> try simp only [qN, qC, qE, qG, qD, qA, qF, seval, qQ, qO, qP, vI, gPick, qH m2 wO, g3', g4]))
    refine (ih x2 y2 mb (by omega) (by omega)).mono ?_
    rintro _ h3 ⟨rfl, fr3, v3, cells3, x3⟩
    refine qJ ?_; repeat' (first | ((with_reducible first | apply qI | apply qM) <;> try simp only [qN, qC, qE, qG, qD, qA, qF, seval, qQ, qO, qP, vI, gPick]))
    first | exact ⟨f02.trans fr3, v3, cells3, x3⟩ | exact ⟨rfl, f02.trans fr3, v3, cells3, x3⟩
theorem qM6 : type_of% (And.intro zF (And.intro lH (And.intro gY (And.intro xB (And.intro uI (And.intro wF rs67)))))) := And.intro zF (And.intro lH (And.intro gY (And.intro xB (And.intro uI (And.intro wF rs67)))))
theorem rF : type_of% (And.intro zF (And.intro wS (And.intro lH (And.intro gY (And.intro wR (And.intro qH9 (And.intro sX (And.intro xB (And.intro mP (And.intro uI (And.intro wF rs33))))))))))) := And.intro zF (And.intro wS (And.intro lH (And.intro gY (And.intro wR (And.intro qH9 (And.intro sX (And.intro xB (And.intro mP (And.intro uI (And.intro wF rs33))))))))))
def fQ : Nat → List (Nat × List Nat) × List Nat
  | 4 => ([(0, []), (1, []), (2, []), (3, []), (4, []), (5, []), (6, []), (7, []), (8, []), (9, []), (10, [])], [0, 1, 3, 7, 0, 16, 48, 112, 15, 511, 1023])
  | _ => ([], [])
theorem zP8 (N : Nat) {h : GH} (fr : Int) (sm : Bool) (lim : Int) {a : Option Addr} {c : Nat} {id : List UInt8} (ri : RB h (.slice a id.length c) id) :
    GTri Tryz.prog N 67 [.int .i64 fr, .bool sm, .slice a id.length c, .int .i64 lim] h fun u h' => HS h h' ∧ ∃ k ar cr hb, u = .pointer (some ⟨k, 0, none⟩) ∧ QP hb h' k ⟨fr, sm, zL id, lim⟩ ([], false) ar cr (.slice none 0 0) [] ∧ HS h hb ∧ h k = none := by
  refine zU Tryz.func67 rfl gf67 ok67 (by simp [Tryz.ntmps67]) ?_
  repeat' (first | with_reducible apply qK | ((with_reducible apply qB) <;> try simp only [qN, qC, qE, qG, qD, qA, qF, seval, qQ, qO, qP, qM6]))
  refine (qO1 N h ri rfl).mono ?_
  rintro _ h1 ⟨s1, ar, cr, rfl, rr, _⟩
  refine qJ ?_; repeat' (first | ((with_reducible apply qI) <;> try simp only [qN, qC, qE, qG, qD, qA, qF, seval, qQ, qO, qP, qM6, xP, xZ, vY, Shape.pl, List.all_cons, List.all_nil, zK]))
  refine wP rfl fun k1 h2 m2 s2 f2 n2 => ?_
  refine qJ ?_; repeat' (first | ((with_reducible first | apply qI | apply qM) <;> try simp only [qN, qC, qE, qG, qD, qA, qF, seval, qQ, qO, qP, qM6]))
  have S2 := s1.trans s2
  have n2h : h k1 = none := s1.none_of n2
  exact ⟨S2, k1, ar, cr, kP k1 h2, rfl, ⟨m2, qC9 k1 h2, rr.hs (rW s2 n2), rX k1 h2, OWNC.nil _ _ _, rfl, fun i z hz => by simp at hz⟩, rW S2 n2h, n2h⟩
def zL8 (size : Int) (q : Pq) (n : Nat) (p : Pn (Pd n)) : St × Int := if qF3 size n p = true then (if (gZ q n p ([], false)).1 = true then ((gZ q n p ([], false)).2, 0) else (([], false), 95)) else (([], false), 95)
theorem c_SList (N : Nat) (size : Int) (n : Nat) {h : GH} (fr : Int) (sm : Bool) (lim : Int) {a : Option Addr} {c : Nat} {id : List UInt8} (ri : RB h (.slice a id.length c) id) {cs : List Value} {p : Pn (Pd n)} (r : RPn (RPd n) h cs p) (hk : Pn.bulk (Pd.bulk n) p ≤ 2000000) :
    GTri Tryz.prog N 33 [.int .i64 size, .agg cs.toArray, .int .i64 fr, .bool sm, .slice a id.length c, .int .i64 lim] h fun u h' => HS h h' ∧ ∃ ai ci, u = .tuple #[.slice ai (zL8 size ⟨fr, sm, zL id, lim⟩ n p).1.1.length ci, .bool (zL8 size ⟨fr, sm, zL id, lim⟩ n p).1.2, .int .i64 (zL8 size ⟨fr, sm, zL id, lim⟩ n p).2] ∧ RL 3 RPut h' (.slice ai (zL8 size ⟨fr, sm, zL id, lim⟩ n p).1.1.length ci) (zL8 size ⟨fr, sm, zL id, lim⟩ n p).1.1 := by
  have hcs := r.len
  have hkl := vV id
  have hcb := qB1 n p
  unfold zL8
  refine zU Tryz.func33 rfl gf33 ok33 (by simp [Tryz.ntmps33]) ?_
  repeat' (first | with_reducible apply qK | ((with_reducible apply qB) <;> try simp only [qN, qC, qE, qG, qD, qA, qF, seval, qQ, qO, qP, qL, qY, qZ, zC, rF, fQ]))
  refine wP hcs.2.1 fun k7 h1 m1 s1 f1 n1 => ?_
  have ld := zI (P := Tryz.prog) (t := 26) m1 xX hcs.1
  refine qJ ?_; repeat' (first | with_reducible apply qK | ((with_reducible first | apply qI | apply qB) <;> try simp only [qN, qC, qE, qG, qD, qA, qF, seval, qQ, qO, qP, qL, qY, qZ, zC, rF, fQ]))
  refine (zP8 N fr sm lim (ri.hs s1)).mono ?_
  rintro _ h2 ⟨s2, k, ar, cr, hb, rfl, x2, sb, nk⟩
  have S2 := s1.trans s2
  have ld2 := yO s2 ld
  refine qJ ?_; repeat' (first | with_reducible apply qK | ((with_reducible first | apply qI | apply qB) <;> try simp only [qN, qC, qE, qG, qD, qA, qF, seval, qQ, qO, qP, qL, qY, qZ, zC, rF, fQ, ld2]))
  refine (qN9 N size n (r.hs S2 (fun cs x r => RPd.hs S2 n r)) (by omega)).mono ?_
  rintro _ h3 ⟨rfl, s3⟩
  have S3 := S2.trans s3
  cases hck : qF3 size n p
  case false =>
    rw [if_neg (by decide)]
    refine qJ ?_; repeat' (first | with_reducible apply qK | ((with_reducible first | apply qI | apply qB | apply qR | apply qM) <;> try simp only [qN, qC, qE, qG, qD, qA, qF, seval, qQ, qO, qP, qL, qY, qZ, zC, rF, fQ, cond, gPick]))
    exact ⟨S3, none, 0, rfl, RL.nil _⟩
  rw [if_pos rfl]
  obtain ⟨hs1, hs2, hm⟩ := qY8 hck
  have x3 := x2.keep s3
  have ld3 := yO s3 ld2
  have Sb : HS h hb := s1.trans sb
  refine qJ ?_; repeat' (first | ((with_reducible apply qI) <;> try simp only [qN, qC, qE, qG, qD, qA, qF, seval, qQ, qO, qP, qL, qY, qZ, zC, rF, fQ, cond, gPick, ld3]))
  refine (c_plist N (by simp only; omega) n x3 (r.hs Sb (fun cs x r => RPd.hs Sb n r)) hm (by omega) (by simp only [List.length_nil]; omega)).mono ?_
  rintro _ h4 ⟨rfl, _, v4, cells4, x4⟩
  have S4 : HS h h4 := Sb.trans x4.hs
  have m4 := x4.obj
  generalize gZ ⟨fr, sm, zL id, lim⟩ n p ([], false) = z at *
  obtain ⟨b1, s4⟩ := z
  simp only at x4 m4
  obtain ⟨av, cv, rfl⟩ := x4.own.form
  cases b1
  case false =>
    rw [if_neg (by simp)]
    refine qJ ?_; repeat' (first | with_reducible apply qK | ((with_reducible first | apply qI | apply qB | apply qR | apply qM) <;> try simp only [qN, qC, qE, qG, qD, qA, qF, seval, qQ, qO, qP, qL, qY, qZ, zC, rF, fQ, gPick]))
    exact ⟨S4, none, 0, rfl, RL.nil _⟩
  rw [if_pos rfl]
  refine qJ ?_; repeat' (first | with_reducible apply qK | ((first | (with_reducible first | apply qI | apply qR | apply qT | apply qM) | with_reducible refine zE fQ xC (by kernel_rfl) ?_) <;> try simp only [qN, qC, qE, qG, qD, qA, qF, seval, qQ, qO, qP, qL, qY, qZ, zC, rF, fQ, gPick, qH m4 qV3, qH m4 gV]))
  exact ⟨S4, av, cv, rfl, OWNC.rl (R := RPut) (l := s4.1) x4.own x4.el⟩
section
variable {K : Type} {R : GH → List Value → K → Prop}
end
def SPn : (n : Nat) → GH → List Value → Pn (Pd n) → Prop
  | 0, h, cs, p => RPn (RPd 0) h cs p ∧ p.kids = []
  | n + 1, h, cs, p => (RPn (RPd (n + 1)) h cs p ∧ p.kids = []) ∨ ∃ (a b : Pn (Pd n)) (kb c : Nat) (tl : Bool) (ca cb : List Value) (v1 v2 v3 v4 v5 : Value),
      p.kids = [a, b] ∧ cs = p.cs v1 v2 v3 v4 v5 (.slice (some ⟨kb, 0, none⟩) 2 c) ∧ (∃ a1 c1, v1 = .slice a1 p.id.length c1 ∧ RB h v1 p.id) ∧ (∃ a1 c1, v2 = .slice a1 p.ky.length c1 ∧ RB h v2 p.ky) ∧ (∃ a1 c1, v3 = .slice a1 p.pf.length c1 ∧ RB h v3 p.pf) ∧ (∃ a1 c1, v4 = .slice a1 p.lf.length c1 ∧ RB h v4 p.lf) ∧ (∃ a1 c1, v5 = .slice a1 p.rt.length c1 ∧ RB h v5 p.rt) ∧
      h kb = some ⟨ca ++ cb, 10, true, tl⟩ ∧ ca.length = 10 ∧ cb.length = 10 ∧ 4 ≤ c ∧ SPn n h ca a ∧ SPn n h cb b
theorem SPn.rpn : ∀ {n : Nat} {h : GH} {cs : List Value} {p : Pn (Pd n)}, SPn n h cs p → RPn (RPd n) h cs p
  | 0, _, _, _, r => r.1
  | n + 1, h, cs, p, r => by
    rcases r with r | ⟨a, b, kb, c, tl, ca, cb, v1, v2, v3, v4, v5, hk, rfl, ⟨a1, c1, rfl, r1⟩, ⟨a2, c2, rfl, r2⟩, ⟨a3, c3, rfl, r3⟩, ⟨a4, c4, rfl, r4⟩, ⟨a5, c5, rfl, r5⟩, m, la, lb, hc, ra, rb⟩
    · exact r.1
    · refine ⟨a1, c1, a2, c2, a3, c3, a4, c4, a5, c5, some ⟨kb, 0, none⟩, c, by rw [hk]; rfl, r1, r2, r3, r4, r5, ?_⟩
      rw [hk]
      refine .inr ⟨⟨kb, 0, none⟩, c, ca ++ cb, rfl, yF m (by rw [List.drop_zero]; exact List.take_of_length_le (by show (ca ++ cb).length ≤ 20; simp [la, lb])) (by show (ca ++ cb).length = 20; simp [la, lb]), (show 4 ≤ c from hc), fun i x hx => ?_, .inr ⟨_, m, .inl (by simp)⟩⟩
      rcases i with _ | _ | i
      · cases hx
        rw [Nat.zero_mul, List.drop_zero, List.take_left' la]
        exact ra.rpn
      · cases hx
        rw [Nat.zero_add, Nat.one_mul, List.drop_left' la, List.take_of_length_le (by omega)]
        exact rb.rpn
      · exact nomatch (show (none : Option (Pn (Pd n))) = some x from hx)
theorem SPn.fr {k : Nat} : ∀ {n : Nat} {h h' : GH} (f : FR 3 k h h') (hk : ∃ B, h k = some B ∧ B.es = 0) {cs : List Value} {p : Pn (Pd n)}, SPn n h cs p → SPn n h' cs p
  | 0, h, h', f, hk, cs, p, r => by
    obtain ⟨⟨a1, c1, a2, c2, a3, c3, a4, c4, a5, c5, a6, c6, rfl, r1, r2, r3, r4, r5, r6⟩, hn⟩ := r
    refine ⟨⟨a1, c1, a2, c2, a3, c3, a4, c4, a5, c5, a6, c6, rfl, r1.fr f, r2.fr f, r3.fr f, r4.fr f, r5.fr f, ?_⟩, hn⟩
    rw [hn] at r6 ⊢
    exact r6.nilk
  | n + 1, h, h', f, hk, cs, p, r => by
    rcases r with ⟨⟨a1, c1, a2, c2, a3, c3, a4, c4, a5, c5, a6, c6, rfl, r1, r2, r3, r4, r5, r6⟩, hn⟩ | ⟨a, b, kb, c, tl, ca, cb, v1, v2, v3, v4, v5, hkd, rfl, ⟨a1, c1, rfl, r1⟩, ⟨a2, c2, rfl, r2⟩, ⟨a3, c3, rfl, r3⟩, ⟨a4, c4, rfl, r4⟩, ⟨a5, c5, rfl, r5⟩, m, la, lb, hc, ra, rb⟩
    · refine .inl ⟨⟨a1, c1, a2, c2, a3, c3, a4, c4, a5, c5, a6, c6, rfl, r1.fr f, r2.fr f, r3.fr f, r4.fr f, r5.fr f, ?_⟩, hn⟩
      rw [hn] at r6 ⊢
      exact r6.nilk
    · obtain ⟨B, hB, he⟩ := hk
      have hne : kb ≠ k := fun e => by
        rw [e, hB] at m
        cases m
        cases he
      exact .inr ⟨a, b, kb, c, tl, ca, cb, _, _, _, _, _, hkd, rfl, ⟨a1, c1, rfl, r1.fr f⟩, ⟨a2, c2, rfl, r2.fr f⟩, ⟨a3, c3, rfl, r3.fr f⟩, ⟨a4, c4, rfl, r4.fr f⟩, ⟨a5, c5, rfl, r5.fr f⟩, f _ _ m (.inr ⟨hne, by simp⟩), la, lb, hc, SPn.fr f ⟨B, hB, he⟩ ra, SPn.fr f ⟨B, hB, he⟩ rb⟩
theorem SPn.none {n : Nat} {h : GH} {cs : List Value} {p : Pn (Pd n)} (r : RPn (RPd n) h cs p) (hk : p.kids = []) : SPn n h cs p := by
  cases n with
  | zero => exact ⟨r, hk⟩
  | succ n => exact .inl ⟨r, hk⟩
theorem SPn.hs {n : Nat} {h h' : GH} (s : HS h h') {cs : List Value} {p : Pn (Pd n)} (r : SPn n h cs p) : SPn n h' cs p := by
  induction n generalizing cs with
  | zero => exact ⟨r.1.hs s (fun cs x r => RPd.hs s 0 r), r.2⟩
  | succ n ih =>
    rcases r with r | ⟨a, b, kb, c, tl, ca, cb, v1, v2, v3, v4, v5, hkd, rfl, ⟨a1, c1, rfl, r1⟩, ⟨a2, c2, rfl, r2⟩, ⟨a3, c3, rfl, r3⟩, ⟨a4, c4, rfl, r4⟩, ⟨a5, c5, rfl, r5⟩, m, la, lb, hc, ra, rb⟩
    · exact .inl ⟨r.1.hs s (fun cs x r => RPd.hs s (n + 1) r), r.2⟩
    · exact .inr ⟨a, b, kb, c, tl, ca, cb, _, _, _, _, _, hkd, rfl, ⟨a1, c1, rfl, r1.hs s⟩, ⟨a2, c2, rfl, r2.hs s⟩, ⟨a3, c3, rfl, r3.hs s⟩, ⟨a4, c4, rfl, r4.hs s⟩, ⟨a5, c5, rfl, r5.hs s⟩, s _ _ m, la, lb, hc, ih ra, ih rb⟩
theorem SPn.len {n : Nat} {h : GH} {cs : List Value} {p : Pn (Pd n)} (r : SPn n h cs p) : cs.length = 10 ∧ cs.all zK = true ∧ cs.all vO = true := r.rpn.len
def zF4 (q : Pq) (nd : Nd) (c : Nat) : Nat := if q.has nd.id nd.si = true then c + 1 else c
def qF2 (q : Pq) (nd : Nd) (c : Nat) : Bool := (decide ((nd.nw : Int) ≤ q.fr) || (q.sm && decide (pH nd.pf (nd.dp : Int) q.row < 0))) || decide ((c : Int) ≥ q.lim)
def jO (M : List Nd) (q : Pq) : (n : Nat) → Nat → Nat → Pn (Pd n) × Nat
  | 0, i, c => (lE M (uR M i), if (uR M i).lf = true then zF4 q (uR M i) c else c)
  | n + 1, i, c => if (uR M i).lf = true then (lE M (uR M i), zF4 q (uR M i) c) else if qF2 q (uR M i) c = true then (lE M (uR M i), c) else
      (⟨3, 0, (uR M i).dp, (uR M i).nw, [], [], (uR M i).pf, [], [], [(jO M q n (uR M i).l c).1, (jO M q n (uR M i).r (jO M q n (uR M i).l c).2).1]⟩, (jO M q n (uR M i).r (jO M q n (uR M i).l c).2).2)
def Jn (q : Pq) (s : St) (c : Nat) : Prop := s.1.length = c ∨ (q.lim ≤ (s.1.length : Int) ∧ q.lim ≤ (c : Int))
theorem Jn.full {q : Pq} {s : St} {c : Nat} (j : Jn q s c) : q.full s = decide ((c : Int) ≥ q.lim) := by
  unfold Pq.full
  rw [decide_eq_decide]
  rcases j with j | j
  · rw [j]
  · constructor <;> intro <;> omega
theorem Jn.see {K : Type} {q : Pq} {s : St} {nd : Nd} {c : Nat} {p : Pn K} (j : Jn q s c) (h1 : p.id = nd.id) (h2 : p.si = nd.si) : Jn q (q.see p s) (zF4 q nd c) := by
  unfold Pq.see zF4
  rw [h1, h2]
  cases q.has nd.id nd.si
  · exact j
  · rw [if_pos rfl, if_pos rfl, j.full]
    cases hf : decide ((c : Int) ≥ q.lim)
    · rw [if_neg (by decide)]
      have := of_decide_eq_false hf
      rcases j with j | j
      · left; simp [j]
      · omega
    · rw [if_pos rfl]
      have := of_decide_eq_true hf
      rcases j with j | j
      · right; simp only; omega
      · right; simp only; omega
def qI3 (M : List Nd) : Nat → Nat → List Nat
  | 0, i => [i]
  | n + 1, i => if (uR M i).lf = true then [i] else qI3 M n (uR M i).l ++ qI3 M n (uR M i).r
def dqt (nd : Nd) : Nat := if nd.lf = true then 8 * (zL nd.id).length else nd.dp
theorem qU3 {nd : Nd} (h : nd.lf = true) : uU nd = zL nd.id := by unfold uU; rw [h]; rfl
theorem yrow_fk {nd : Nd} (h : nd.lf = false) : uU nd = nd.pf := by unfold uU; rw [h]; rfl
theorem qk_ok {x y : Nd} {s : Int} (q : Qk x y s) (hs : 0 ≤ s) : Sm x.dp (uU y) x.pf ∧ xA (uU y) x.dp = s ∧ x.dp < dqt y := by
  obtain ⟨q1, q2, q3⟩ := q
  refine ⟨(fZ _ _ _).1 q1, q2, ?_⟩
  have h5 := gbit_nonneg.1 (show 0 ≤ xA (uU y) x.dp by omega)
  unfold dqt
  cases hl : y.lf
  · rw [if_neg (by decide)]
    exact q3 hl
  · rw [if_pos rfl, ← qU3 hl]; exact h5
theorem zI2 {M : List Nd} (ti : TI M) : ∀ (n i : Nat) (nd : Nd), M[i]? = some nd → i ≤ n → (qI3 M n i).Nodup ∧ ∀ p ∈ qI3 M n i, p < M.length ∧ ∃ y, M[p]? = some y ∧ y.lf = true ∧ Sm (dqt nd) (zL y.id) (uU nd)
  | 0, i, nd, hi, hn => by
    obtain rfl : i = 0 := by omega
    have hl : nd.lf = true := by
      cases h : nd.lf
      · have := (ti.fork 0 nd hi h).l; omega
      · rfl
    refine ⟨by simp [qI3], fun p hp => ?_⟩
    simp only [qI3, List.mem_singleton] at hp
    subst hp
    refine ⟨(List.getElem?_eq_some_iff.1 hi).1, nd, hi, hl, ?_⟩
    unfold dqt
    rw [if_pos hl, qU3 hl]
    exact Sm.self (Nat.le_refl _)
  | n + 1, i, nd, hi, hn => by
    have e := wT hi
    unfold qI3
    rw [e]
    cases hl : nd.lf
    case true =>
      rw [if_pos rfl]
      refine ⟨by simp, fun p hp => ?_⟩
      simp only [List.mem_singleton] at hp
      subst hp
      refine ⟨(List.getElem?_eq_some_iff.1 hi).1, nd, hi, hl, ?_⟩
      unfold dqt
      rw [if_pos hl, qU3 hl]
      exact Sm.self (Nat.le_refl _)
    rw [if_neg (by decide)]
    have fi := ti.fork i nd hi hl
    have fl := fi.l
    have fr := fi.r
    obtain ⟨yl, hyl, ql⟩ := fi.kl
    obtain ⟨yr, hyr, qr⟩ := fi.kr
    obtain ⟨l1, l2, l3⟩ := qk_ok ql (by decide)
    obtain ⟨r1, r2, r3⟩ := qk_ok qr (by decide)
    obtain ⟨nl, al⟩ := zI2 ti n nd.l yl hyl (by omega)
    obtain ⟨nr, ar⟩ := zI2 ti n nd.r yr hyr (by omega)
    have ed : dqt nd = nd.dp := by unfold dqt; rw [hl]; rfl
    rw [ed, yrow_fk hl]
    refine ⟨List.nodup_append.2 ⟨nl, nr, fun p hp p' hp' hpp => ?_⟩, fun p hp => ?_⟩
    · subst hpp
      obtain ⟨_, y, hy, _, sy⟩ := al p hp
      obtain ⟨_, y', hy', _, sy'⟩ := ar p hp'
      rw [hy] at hy'
      cases hy'
      have a1 := sy nd.dp l3
      have a2 := sy' nd.dp r3
      omega
    · rcases List.mem_append.1 hp with hp | hp
      · obtain ⟨a, y, hy, hf, sy⟩ := al p hp
        exact ⟨a, y, hy, hf, (sy.le (by omega)).trans l1⟩
      · obtain ⟨a, y, hy, hf, sy⟩ := ar p hp
        exact ⟨a, y, hy, hf, (sy.le (by omega)).trans r1⟩
theorem qL0 : ∀ (n : Nat) (l : List Nat), l.Nodup → (∀ x ∈ l, x < n) → l.length ≤ n
  | 0, l, _, h => by
    cases l with
    | nil => simp
    | cons a l => have := h a (List.mem_cons_self ..); omega
  | n + 1, l, hd, h => by
    by_cases hm : n ∈ l
    · have h1 := qL0 n (l.erase n) (hd.erase n) (fun x hx => by
        have h2 := (List.Nodup.mem_erase_iff hd).1 hx
        have := h x h2.2
        omega)
      have h2 := List.length_erase_of_mem hm
      omega
    · have := qL0 n l hd (fun x hx => by
        have h1 := h x hx
        have : x ≠ n := fun e => hm (e ▸ hx)
        omega)
      omega
theorem qW2 {M : List Nd} (ti : TI M) {n i : Nat} {nd : Nd} (hi : M[i]? = some nd) (hn : i ≤ n) : (qI3 M n i).length ≤ M.length := by
  obtain ⟨a, b⟩ := zI2 ti n i nd hi hn
  exact qL0 _ _ a fun x hx => (b x hx).1
theorem fill2 {es : Nat} {z x y : Value} (hl : (vcells x).length = es) (hl2 : (vcells y).length = es) (hc : (vcells x).all zK = true) (hc2 : (vcells y).all zK = true) : xZ (Shape.elems es).pl (uT z (2 * es)) [(0, x), (1, y)] = some (vcells x ++ vcells y) := by
  have hzl := jU z (2 * es)
  have hp : (Shape.elems es).pl 0 = some (0, es) := by simp [Shape.pl]
  have hp1 : (Shape.elems es).pl 1 = some (es, es) := by simp [Shape.pl]
  obtain ⟨A, B, eAB, hA, hB⟩ : ∃ A B, uT z (2 * es) = A ++ B ∧ A.length = es ∧ B.length = es := ⟨(uT z (2 * es)).take es, (uT z (2 * es)).drop es, (List.take_append_drop _ _).symm, by rw [List.length_take]; omega, by rw [List.length_drop]; omega⟩
  have step : ∀ (l cs pre post : List Value), l.length = cs.length → vY (pre ++ (cs ++ post)) pre.length l = pre ++ (l ++ post) := by
    intro l
    induction l with
    | nil =>
      intro cs pre post h
      have : cs = [] := List.eq_nil_of_length_eq_zero h.symm
      subst this; rfl
    | cons v l ih =>
      intro cs pre post h
      cases cs with
      | nil => simp at h
      | cons c cs =>
        simp only [vY]
        have e : (pre ++ (c :: cs ++ post)).set pre.length v = (pre ++ [v]) ++ (cs ++ post) := by simp
        rw [e]
        have := ih cs (pre ++ [v]) post (by simpa using h)
        simpa using this
  have s1 := step (vcells x) A [] B (by omega)
  have s2 := step (vcells y) B (vcells x) [] (by omega)
  simp only [List.nil_append, List.length_nil, List.append_nil] at s1 s2
  simp only [xZ, hp, hp1, eAB, s1]
  rw [if_pos ⟨hl, by simp [hA, hB, hl], hc⟩, if_pos ⟨hl2, by simp [hB, hl, hl2], hc2⟩]
  rw [hl] at s2
  rw [s2]
theorem ofN_eq {K : Type} (M : List Nd) {nd : Nd} (h : nd.lf = true) : (zQ9 nd : Pn K) = lE M nd := by unfold zQ9 lE; rw [if_pos h, if_pos h]
theorem ofN_kids {K : Type} (nd : Nd) : (zQ9 nd : Pn K).kids = [] := by unfold zQ9; split <;> rfl
theorem tY : type_of% (And.intro zF (And.intro wS (And.intro wR (And.intro vU (And.intro xB (And.intro uI (And.intro wF rs51))))))) := And.intro zF (And.intro wS (And.intro wR (And.intro vU (And.intro xB (And.intro uI (And.intro wF rs51))))))
theorem wB : type_of% (And.intro zF (And.intro wS (And.intro gY (And.intro vT (And.intro wR (And.intro vU (And.intro sX (And.intro xB (And.intro uI (And.intro jJ (And.intro wF rs68))))))))))) := And.intro zF (And.intro wS (And.intro gY (And.intro vT (And.intro wR (And.intro vU (And.intro sX (And.intro xB (And.intro uI (And.intro jJ (And.intro wF rs68))))))))))
def xU : Nat → List (Nat × List Nat) × List Nat
  | 11 => ([(0, []), (1, []), (2, []), (4, []), (5, []), (6, []), (3, [6]), (8, []), (7, []), (9, []), (10, []), (11, [])], [0, 0, 2, 7, 0, 0, 32, 127, 15, 511, 1023, 2047])
  | 7 => ([(0, []), (1, []), (2, []), (3, []), (4, []), (5, []), (6, []), (7, [1, 2]), (8, [1]), (9, []), (10, []), (11, [])], [0, 1, 0, 0, 0, 0, 32, 120, 252, 511, 1023, 2047])
  | _ => ([], [])
def PrS (M : List Nd) (q : Pq) (n i c : Nat) (hb h : GH) (kq : Nat) (s : St) (ar : Option Addr) (cr : Nat) (u : Value) (h' : GH) : Prop :=
  FR 3 kq h h' ∧ (∃ s' v' cells', QP hb h' kq q s' ar cr v' cells' ∧ Jn q s' (jO M q n i c).2 ∧ s'.1.length ≤ s.1.length + (qI3 M n i).length) ∧ ∃ cs, u = .agg cs.toArray ∧ SPn n h' cs (jO M q n i c).1
theorem tL {M : List Nd} {q : Pq} {n i c : Nat} {nd : Nd} (hi : M[i]? = some nd) (h : nd.lf = true) : jO M q n i c = (lE M nd, zF4 q nd c) := by
  cases n with
  | zero => simp only [jO, wT hi, h, if_true]
  | succ n => simp only [jO, wT hi, h, if_true]
theorem tM {M : List Nd} {q : Pq} {n i c : Nat} {nd : Nd} (hi : M[i]? = some nd) (h : nd.lf = false) (hc : qF2 q nd c = true) : jO M q n i c = (lE M nd, c) := by
  cases n with
  | zero => simp only [jO, wT hi, h, Bool.false_eq_true, if_false]
  | succ n => simp only [jO, wT hi, h, Bool.false_eq_true, if_false, hc, if_true]
theorem dS {M : List Nd} {q : Pq} {n i c : Nat} {nd : Nd} (hi : M[i]? = some nd) (h : nd.lf = false) (hc : qF2 q nd c = false) : jO M q (n + 1) i c = (⟨3, 0, nd.dp, nd.nw, [], [], nd.pf, [], [], [(jO M q n nd.l c).1, (jO M q n nd.r (jO M q n nd.l c).2).1]⟩, (jO M q n nd.r (jO M q n nd.l c).2).2) := by
  simp only [jO, wT hi, h, Bool.false_eq_true, if_false, hc]
theorem lU {M : List Nd} {n i : Nat} {nd : Nd} (hi : M[i]? = some nd) (h : nd.lf = true) : qI3 M n i = [i] := by
  cases n with
  | zero => rfl
  | succ n => simp only [qI3, wT hi, h, if_true]
theorem pG {M : List Nd} {n i : Nat} {nd : Nd} (hi : M[i]? = some nd) (h : nd.lf = false) : qI3 M (n + 1) i = qI3 M n nd.l ++ qI3 M n nd.r := by
  simp only [qI3, wT hi, h, Bool.false_eq_true, if_false]
theorem c_OfX {K : Type} {R : GH → List Value → K → Prop} {h : GH} (N : Nat) {cn : List Value} {nd : Nd} (r : RNd h cn nd) : GTri Tryz.prog N 51 [.agg cn.toArray] h fun u h' => HS h h' ∧ ∃ cs, u = .agg cs.toArray ∧ RPn R h' cs (zQ9 nd) ∧ cs[9]? = some (.slice none 0 0) := by
  obtain ⟨a1, c1, a2, c2, a3, c3, a4, c4, rfl, r1, r2, r3, r4⟩ := r
  unfold zQ9
  refine zU Tryz.func51 rfl gf51 ok51 (by simp [Tryz.ntmps51]) ?_
  repeat' (first | with_reducible apply qK | ((with_reducible apply qB) <;> try simp only [qN, qC, qE, qG, qD, qA, qF, seval, qQ, qO, qP, tY]))
  refine wP rfl fun k1 h1 m1 s1 f1 n1 => ?_
  simp only [Nd.cs] at m1
  refine qJ ?_; repeat' (first | ((with_reducible apply qI) <;> try simp only [qN, qC, qE, qG, qD, qA, qF, seval, qQ, qO, qP, tY]))
  refine xE fun k2 h2 m2 s2 f2 n2 => ?_
  have m12 := s2 _ _ m1
  have S2 := s1.trans s2
  have n2h : h k2 = none := s1.none_of n2
  cases hlf : nd.lf
  · rw [hlf] at m12
    rw [if_neg (by decide)]
    refine qJ ?_; repeat' (first | with_reducible apply qK | ((with_reducible first | apply qI | apply qB | apply qR | apply qT) <;> try simp only [qN, qC, qE, qG, qD, qA, qF, seval, qQ, qO, qP, tY, qH m12 gV, qH m12 zD, qH m12 zS, xP, xZ, vY, Shape.pl, List.all_cons, List.all_nil, zK]))
    refine wL m2 xX rfl (by decide) rfl rfl rfl fun h3 m3 f3 => ?_
    simp only [vcells] at m3
    have ld := zI (P := Tryz.prog) (t := 26) m3 xX rfl
    refine qJ ?_; repeat' (first | ((with_reducible first | apply qI | apply qM) <;> try simp only [qN, qC, qE, qG, qD, qA, qF, seval, qQ, qO, qP, tY, uW, ld]))
    exact ⟨S2.upd n2h f3, _, rfl, ⟨none, 0, none, 0, a3, c3, none, 0, none, 0, none, 0, rfl, RB.nil _, RB.nil _, (r3.hs S2).hx m2 rfl (zH f3), RB.nil _, RB.nil _, RL.nil _⟩, rfl⟩
  · rw [hlf] at m12
    rw [if_pos rfl]
    refine qJ ?_; repeat' (first | with_reducible apply qK | ((with_reducible first | apply qI | apply qB | apply qR) <;> try simp only [qN, qC, qE, qG, qD, qA, qF, seval, qQ, qO, qP, tY, qH m12 gV, qH m12 zD, qH m12 zS, xP, xZ, vY, Shape.pl, List.all_cons, List.all_nil, zK]))
    refine wL m2 xX rfl (by decide) rfl rfl rfl fun h3 m3 f3 => ?_
    simp only [vcells] at m3
    have ld := zI (P := Tryz.prog) (t := 26) m3 xX rfl
    refine qJ ?_; repeat' (first | ((with_reducible first | apply qI | apply qM) <;> try simp only [qN, qC, qE, qG, qD, qA, qF, seval, qQ, qO, qP, tY, uW, ld]))
    exact ⟨S2.upd n2h f3, _, rfl, ⟨a1, c1, a2, c2, none, 0, none, 0, none, 0, none, 0, rfl, (r1.hs S2).hx m2 rfl (zH f3), (r2.hs S2).hx m2 rfl (zH f3), RB.nil _, RB.nil _, RB.nil _, RL.nil _⟩, rfl⟩
theorem FR.one {e j : Nat} {h h' : GH} {B : GB} (m : h j = some B) (hu : B.cells.all vO = true) (f : ∀ i, i ≠ j → h' i = h i) : FR e j h h' := fun i C m' q' => by
  by_cases hi : i = j
  · subst hi
    rw [m] at m'; cases m'
    rcases q' with q' | q'
    · rw [hu] at q'; cases q'
    · exact absurd rfl q'.1
  · rw [f i hi]; exact m'
theorem qU1 (N : Nat) {q : Pq} (hq : q.row.length ≤ 100000000) {M : List Nd} (ti : TI M) (n : Nat)
    (IH : ∀ m, n = m + 1 → ∀ {hb h ha : GH} {kq ka : Nat} {s : St} {ar : Option Addr} {cr : Nat} {v va : Value} {cells ca : List Value} (x : QP hb h kq q s ar cr v cells) (A : AA ha h ka va ca M) (hne : ka ≠ kq) {i : Nat} {nd : Nd} (hi : M[i]? = some nd) (hn : i ≤ m) {c : Nat} (J : Jn q s c) (hs : s.1.length + (qI3 M m i).length ≤ 1000000),
      GTri Tryz.prog N 68 [.pointer (some ⟨kq, 0, none⟩), .pointer (some ⟨ka, 0, none⟩), .int .i64 (i : Int)] h (PrS M q m i c hb h kq s ar cr))
    {hb h ha : GH} {kq ka : Nat} {s : St} {ar : Option Addr} {cr : Nat} {v va : Value} {cells ca : List Value} (x : QP hb h kq q s ar cr v cells) (A : AA ha h ka va ca M) (hne : ka ≠ kq) {i : Nat} {nd : Nd} (hi : M[i]? = some nd) (hn : i ≤ n) {c : Nat} (J : Jn q s c) (hs : s.1.length + (qI3 M n i).length ≤ 1000000) :
    GTri Tryz.prog N 68 [.pointer (some ⟨kq, 0, none⟩), .pointer (some ⟨ka, 0, none⟩), .int .i64 (i : Int)] h (PrS M q n i c hb h kq s ar cr) := by
  have okn := A.arr.ok.ok i nd hi
  have hpf := okn.pf
  refine zU Tryz.func68 rfl gf68 ok68 (by simp [Tryz.ntmps68]) ?_
  repeat' (first | with_reducible apply qK | ((with_reducible apply qB) <;> try simp only [qN, qC, qE, qG, qD, qA, qF, seval, qQ, qO, qP, qL, qY, qZ, zC, wB, xU]))
  refine xE fun k6 h1 m1 s1 f1 n1 => ?_
  refine qJ ?_; repeat' (first | with_reducible apply qK | ((with_reducible first | apply qI | apply qB) <;> try simp only [qN, qC, qE, qG, qD, qA, qF, seval, qQ, qO, qP, qL, qY, qZ, zC, wB, xU]))
  refine (c_Node N (A.hs s1) hi).mono ?_
  rintro _ h2 ⟨s2, cn, rfl, r2⟩
  have S2 := s1.trans s2
  obtain ⟨a1, c1, a2, c2, a3, c3, a4, c4, rfl, r21, r22, r23, r24⟩ := r2
  refine qJ ?_; repeat' (first | ((with_reducible apply qI) <;> try simp only [qN, qC, qE, qG, qD, qA, qF, seval, qQ, qO, qP, qL, qY, qZ, zC, wB, xU]))
  refine xE fun k7 h3 m3 s3 f3 n3 => ?_
  refine qJ ?_; repeat' (first | ((with_reducible apply qI) <;> try simp only [qN, qC, qE, qG, qD, qA, qF, seval, qQ, qO, qP, qL, qY, qZ, zC, wB, xU]))
  refine xY m3 wE rfl (by decide) rfl rfl rfl fun h4 m4 f4 => ?_
  have ld4 := zI (P := Tryz.prog) (t := 92) m4 wE rfl
  have s24 := s3.upd n3 f4
  have S4 := S2.trans s24
  have rn4 : RNd h4 (nd.cs (.slice a1 nd.id.length c1) (.slice a2 nd.ky.length c2) (.slice a3 nd.pf.length c3) (.slice a4 nd.hs.length c4)) nd := ⟨a1, c1, a2, c2, a3, c3, a4, c4, rfl, r21.hs s24, r22.hs s24, r23.hs s24, r24.hs s24⟩
  simp only [Nd.cs] at m4
  refine qJ ?_; repeat' (first | with_reducible apply qK | ((with_reducible first | apply qI | apply qB | apply qR | apply qT) <;> try simp only [qN, qC, qE, qG, qD, qA, qF, seval, qQ, qO, qP, qL, qY, qZ, zC, wB, xU, ld4]))
  refine (c_OfX (R := RPd n) N rn4).mono ?_
  rintro _ h5 ⟨s5, c5, rfl, r5, nl5⟩
  have hc5 := r5.len
  refine qJ ?_; repeat' (first | ((with_reducible apply qI) <;> try simp only [qN, qC, qE, qG, qD, qA, qF, seval, qQ, qO, qP, qL, qY, qZ, zC, wB, xU]))
  refine xE fun k9 h6 m6 s6 f6 n6 => ?_
  refine qJ ?_; repeat' (first | ((with_reducible apply qI) <;> try simp only [qN, qC, qE, qG, qD, qA, qF, seval, qQ, qO, qP, qL, qY, qZ, zC, wB, xU]))
  refine xY m6 xX rfl (by decide) hc5.1 rfl hc5.2.1 fun h7 m7 f7 => ?_
  have s57 := s6.upd n6 f7
  have S5 := S4.trans s5
  have S7 := S5.trans s57
  have n9h : h k9 = none := S5.none_of n6
  have m47 := s57 _ _ (s5 _ _ m4)
  have m17 := s57 _ _ (s5 _ _ (s24 _ _ (s2 _ _ m1)))
  have r7 := r5.hs s57 (fun cs x r => RPd.hs s57 n r)
  have ld7 := zI (P := Tryz.prog) (t := 26) m7 xX hc5.1
  have x7 := x.keep S7
  have A7 := A.hs S7
  have k6q : k6 ≠ kq := fun e => by rw [e, x.obj] at n1; cases n1
  have k9q : k9 ≠ kq := fun e => by rw [e, x.obj] at n9h; cases n9h
  have k7q : k7 ≠ kq := fun e => by rw [e] at n3; rw [S2 _ _ x.obj] at n3; cases n3
  have k69 : k6 ≠ k9 := yA (s5 _ _ (s24 _ _ (s2 _ _ m1))) n6
  have k79 : k7 ≠ k9 := yA (s5 _ _ m4) n6
  have kq6 : ∀ B', h kq = some B' → B'.es = 0 := fun B' m => by rw [x.obj] at m; cases m; rfl
  cases hlf : nd.lf
  case true =>
    rw [hlf] at m47
    refine qJ ?_; repeat' (first | (with_reducible first | apply qK | apply qS) | ((with_reducible first | apply qI | apply qB | apply qR) <;> try simp only [qN, qC, qE, qG, qD, qA, qF, seval, qQ, qO, qP, qL, qY, qZ, zC, wB, xU, qH m47 gV, ld7]))
    have eid : (zQ9 nd : Pn (Pd n)).id = nd.id ∧ (zQ9 nd : Pn (Pd n)).si = nd.si ∧ (zQ9 nd : Pn (Pd n)).ky = nd.ky := by unfold zQ9; rw [if_pos hlf]; exact ⟨rfl, rfl, rfl⟩
    have okid := okn.id
    have okky := okn.ky
    rw [lU hi hlf] at hs
    simp only [List.length_singleton] at hs
    refine (zL4 N x7 r7 (by rw [eid.1]; omega) (by rw [eid.2.2]; omega) (by omega)).mono ?_
    rintro _ h8 ⟨fr8, v8, cells8, x8⟩
    have m98 := fr8 _ _ m7 (.inr ⟨k9q, by simp⟩)
    have m18 := fr8 _ _ m17 (.inr ⟨k6q, by simp⟩)
    have ld8 := zI (P := Tryz.prog) (t := 26) m98 xX hc5.1
    refine qJ ?_; repeat' (first | with_reducible apply qK | ((with_reducible first | apply qI | apply qB) <;> try simp only [qN, qC, qE, qG, qD, qA, qF, seval, qQ, qO, qP, qL, qY, qZ, zC, wB, xU, ld8]))
    refine xY m18 xX rfl (by decide) hc5.1 rfl hc5.2.1 fun h9 m9 f9 => ?_
    have ld9 := zI (P := Tryz.prog) (t := 26) m9 xX hc5.1
    refine qJ ?_; repeat' (first | ((with_reducible first | apply qI | apply qM) <;> try simp only [qN, qC, qE, qG, qD, qA, qF, seval, qQ, qO, qP, qL, qY, qZ, zC, wB, xU, uW, ld9]))
    have F8 := (FR.of (e := 3) (k := kq) S7).trans fr8
    have F9 := F8.upd n1 f9
    have b6 : hb k6 = none := x.hs.none_of n1
    refine ⟨F9, ⟨q.see (zQ9 nd : Pn (Pd n)) s, v8, cells8, x8.upd m18 rfl rfl k6q.symm b6 f9, ?_, ?_⟩, c5, rfl, ?_⟩
    · rw [tL hi hlf]
      exact J.see eid.1 eid.2.1
    · rw [lU hi hlf]
      exact zM9 _ _ _
    · rw [tL hi hlf, ← ofN_eq M hlf]
      exact SPn.fr (FR.one m18 rfl f9) ⟨_, m18, rfl⟩ (SPn.fr fr8 ⟨_, x7.obj, rfl⟩ (SPn.none r7 (ofN_kids nd)))
  obtain ⟨m, rfl⟩ : ∃ m, n = m + 1 := ⟨n - 1, by have := (ti.fork i nd hi hlf).l; omega⟩
  have ih := @IH m rfl
  have fi := ti.fork i nd hi hlf
  have fl := fi.l
  have frr := fi.r
  obtain ⟨yl, hyl, _⟩ := fi.kl
  obtain ⟨yr, hyr, _⟩ := fi.kr
  have eof : (zQ9 nd : Pn (Pd (m + 1))) = ⟨2, 0, nd.dp, nd.nw, [], [], nd.pf, [], [], []⟩ := by unfold zQ9; rw [hlf]; rfl
  have eend : (lE M nd : Pn (Pd (m + 1))) = ⟨2, 0, nd.dp, nd.nw, [], [], nd.pf, yl.hs, yr.hs, []⟩ := by unfold lE; rw [hlf, wT hyl, wT hyr]; rfl
  rw [eof] at r7
  rw [hlf] at m47
  refine qJ ?_; iterate 6 (first | (with_reducible first | apply qK | apply qS) | ((with_reducible first | apply qI | apply qB | apply qR) <;> try simp only [qN, qC, qE, qG, qD, qA, qF, seval, qQ, qO, qP, qL, qY, qZ, zC, wB, xU, qH m47 gV]))
  refine qK ?_
  refine GW.mono (Q := fun z e' h' => z = .normal ∧ HS h7 h' ∧ lk e' 0 = .pointer (some ⟨kq, 0, none⟩) ∧ lk e' 1 = .pointer (some ⟨ka, 0, none⟩) ∧ lk e' 6 = .pointer (some ⟨k6, 0, none⟩) ∧ lk e' 7 = .pointer (some ⟨k7, 0, none⟩) ∧ lk e' 9 = .pointer (some ⟨k9, 0, none⟩) ∧ lk e' 45 = .bool (qF2 q nd c)) ?_ ?_
  · have ecut : qF2 q nd c = (q.idle (⟨2, 0, nd.dp, nd.nw, [], [], nd.pf, [], [], []⟩ : Pn (Pd (m + 1))) || q.full s) := by rw [J.full]; rfl
    rw [ecut]
    refine qJ ?_; repeat' (first | ((with_reducible first | apply qI | apply qB) <;> try simp only [qN, qC, qE, qG, qD, qA, qF, seval, qQ, qO, qP, qL, qY, qZ, zC, wB, xU, ld7]))
    refine (qZ1 N x7 r7 (by simp only; omega) hq).mono ?_
    rintro _ h8 ⟨rfl, s8⟩
    have x8 := x7.keep s8
    cases hidl : q.idle (⟨2, 0, nd.dp, nd.nw, [], [], nd.pf, [], [], []⟩ : Pn (Pd (m + 1)))
    case true =>
      refine qJ ?_; repeat' (first | ((with_reducible apply qI) <;> try simp only [qN, qC, qE, qG, qD, qA, qF, seval, qQ, qO, qP, qL, qY, qZ, zC, wB, xU, gPick]))
      first | exact s8 | exact ⟨s8, by simp⟩
    refine qJ ?_; repeat' (first | ((first | (with_reducible apply qI) | ((refine GTri.mono (qB5 _ x8) ?_); rintro _ _ ⟨rfl, hh9⟩; replace hh9 := hh9.symm; subst hh9)) <;> try simp only [qN, qC, qE, qG, qD, qA, qF, seval, qQ, qO, qP, qL, qY, qZ, zC, wB, xU, gPick]))
    first | exact s8 | exact ⟨s8, by simp⟩
  rintro _ e' h8 ⟨rfl, s8, q0, q1, q6, q7, q9, q45⟩
  rw [jV]
  refine dH [(0, .pointer (some ⟨kq, 0, none⟩)), (1, .pointer (some ⟨ka, 0, none⟩)), (6, .pointer (some ⟨k6, 0, none⟩)), (7, .pointer (some ⟨k7, 0, none⟩)), (9, .pointer (some ⟨k9, 0, none⟩)), (45, .bool (qF2 q nd c))] (by simp [q0, q1, q6, q7, q9, q45]) ?_
  clear q0 q1 q6 q7 q9 q45
  have S8 := S7.trans s8
  have x8 := x.keep S8
  have A8 := A.hs S8
  have m78 := s8 _ _ m47
  have m98 := s8 _ _ m7
  have m18 := s8 _ _ m17
  have r8 := r7.hs s8 (fun cs x r => RPd.hs s8 (m + 1) r)
  obtain ⟨e1, d1, e2, d2, e3, d3, e4, d4, e5, d5, e6, d6, ec5, y1, y2, y3, y4, y5, y6⟩ := r8
  rw [ec5] at m98 hc5 nl5
  obtain ⟨rfl, rfl⟩ : e6 = none ∧ d6 = 0 := by simpa [Pn.cs] using nl5
  simp only [Pn.cs] at m98
  have b6 : hb k6 = none := x.hs.none_of n1
  have b9 : hb k9 = none := x.hs.none_of n9h
  cases hcut : qF2 q nd c
  case true =>
    refine qJ ?_; repeat' (first | ((first | (with_reducible first | apply qI | apply qR) | with_reducible refine zE xU xC (by kernel_rfl) ?_) <;> try simp only [qN, qC, qE, qG, qD, qA, qF, seval, qQ, qO, qP, qL, qY, qZ, zC, wB, xU, qH m78 zS]))
    refine (qZ3 N A8 hyl).mono ?_
    rintro _ h9 ⟨s9, al, cl, rfl, rl⟩
    have m79 := s9 _ _ m78
    refine qJ ?_; repeat' (first | ((with_reducible apply qI) <;> try simp only [qN, qC, qE, qG, qD, qA, qF, seval, qQ, qO, qP, qL, qY, qZ, zC, wB, xU, qH m79 zS]))
    refine (qZ3 N (A8.hs s9) hyr).mono ?_
    rintro _ h10 ⟨s10, al2, cl2, rfl, rr⟩
    have s8_10 := s9.trans s10
    have m910 := s8_10 _ _ m98
    have m110 := s8_10 _ _ m18
    refine qJ ?_; repeat' (first | ((with_reducible apply qI) <;> try simp only [qN, qC, qE, qG, qD, qA, qF, seval, qQ, qO, qP, qL, qY, qZ, zC, wB, xU]))
    refine zW m910 zD rfl (by simp) rfl rfl fun h11 m11 f11 => ?_
    simp only [List.set_cons_zero, List.set_cons_succ] at m11
    refine qJ ?_; repeat' (first | ((with_reducible apply qI) <;> try simp only [qN, qC, qE, qG, qD, qA, qF, seval, qQ, qO, qP, qL, qY, qZ, zC, wB, xU]))
    refine zW m11 zD rfl (by simp) rfl rfl fun h12 m12 f12 => ?_
    simp only [List.set_cons_zero, List.set_cons_succ] at m12
    have ld12 := zI (P := Tryz.prog) (t := 26) m12 xX rfl
    have m112 : h12 k6 = _ := (f12 k6 k69).trans ((f11 k6 k69).trans m110)
    refine qJ ?_; repeat' (first | with_reducible apply qK | ((with_reducible first | apply qI | apply qB) <;> try simp only [qN, qC, qE, qG, qD, qA, qF, seval, qQ, qO, qP, qL, qY, qZ, zC, wB, xU, ld12]))
    refine xY m112 xX rfl (by decide) rfl rfl rfl fun h13 m13 f13 => ?_
    have ld13 := zI (P := Tryz.prog) (t := 26) m13 xX rfl
    refine qJ ?_; repeat' (first | ((with_reducible first | apply qI | apply qM) <;> try simp only [qN, qC, qE, qG, qD, qA, qF, seval, qQ, qO, qP, qL, qY, qZ, zC, wB, xU, uW, ld13]))
    have S10 := S8.trans s8_10
    have x10 := x.keep S10
    have F13 : FR 3 kq h h13 := (((FR.of (e := 3) (k := kq) S10).upd n9h f11).upd n9h f12).upd n1 f13
    have zc : ∀ {v l}, RB h10 v l → RB h13 v l := fun r => ((r.hx m910 rfl (zH f11)).hx m11 rfl (zH f12)).hx m112 rfl (zH f13)
    refine ⟨F13, ⟨s, v, cells, ((x10.upd m910 rfl rfl k9q.symm b9 f11).upd m11 rfl rfl k9q.symm b9 f12).upd m112 rfl rfl k6q.symm b6 f13, ?_, by omega⟩, _, rfl, ?_⟩
    · rw [tM hi hlf hcut]
      exact J
    · rw [tM hi hlf hcut]
      simp only
      rw [eend]
      exact SPn.none ⟨e1, d1, e2, d2, e3, d3, al, cl, al2, cl2, none, 0, rfl, zc (y1.hs s8_10), zc (y2.hs s8_10), zc (y3.hs s8_10), zc (rl.hs s10), zc rr, y6.nilk⟩ rfl
  rw [pG hi hlf, List.length_append] at hs
  refine qJ ?_; repeat' (first | with_reducible apply qK | ((with_reducible first | apply qI | apply qB | apply qR) <;> try simp only [qN, qC, qE, qG, qD, qA, qF, seval, qQ, qO, qP, qL, qY, qZ, zC, wB, xU]))
  refine zW m98 zS rfl (by simp) rfl rfl fun h9 m9 f9 => ?_
  simp only [List.set_cons_zero, List.set_cons_succ] at m9
  have x9 := x8.upd m98 rfl rfl k9q.symm b9 f9
  have kaq9 : ka ≠ k9 := fun e => by
    have := A.obj
    rw [e, n9h] at this; cases this
  have A9 := A8.upd m98 rfl kaq9 f9
  have m79 := (f9 k7 k79).trans m78
  have m19 := (f9 k6 k69).trans m18
  have S9 : HS h h9 := S8.upd n9h f9
  refine qJ ?_; repeat' (first | with_reducible apply qK | ((with_reducible first | apply qI | apply qB) <;> try simp only [qN, qC, qE, qG, qD, qA, qF, seval, qQ, qO, qP, qL, qY, qZ, zC, wB, xU, qH m79 zS]))
  refine (ih x9 A9 hne hyl (by omega) J (by omega)).mono ?_
  rintro _ h10 ⟨fr10, ⟨s10, v10, cells10, x10, J10, l10⟩, c10, rfl, p10⟩
  have hc10 := p10.len
  have m910 := fr10 _ _ m9 (.inr ⟨k9q, by simp⟩)
  have m710 := fr10 _ _ m79 (.inr ⟨k7q, by simp⟩)
  have m110 := fr10 _ _ m19 (.inr ⟨k6q, by simp⟩)
  have A10 := A9.fr fr10 x9.obj rfl hne (by decide) (by decide)
  refine qJ ?_; repeat' (first | ((with_reducible apply qI) <;> try simp only [qN, qC, qE, qG, qD, qA, qF, seval, qQ, qO, qP, qL, qY, qZ, zC, wB, xU]))
  refine xE fun k10 h11 m11 s11 f11 n11 => ?_
  refine qJ ?_; repeat' (first | ((with_reducible apply qI) <;> try simp only [qN, qC, qE, qG, qD, qA, qF, seval, qQ, qO, qP, qL, qY, qZ, zC, wB, xU]))
  refine xY m11 xX rfl (by decide) hc10.1 rfl hc10.2.1 fun h12 m12 f12 => ?_
  have s10_12 := s11.upd n11 f12
  have x12 := x10.keep s10_12
  have A12 := A10.hs s10_12
  have m912 := s10_12 _ _ m910
  have m712 := s10_12 _ _ m710
  have m112 := s10_12 _ _ m110
  have p12 := p10.hs s10_12
  have k10q : k10 ≠ kq := fun e => by rw [e, x10.obj] at n11; cases n11
  have k910 : k9 ≠ k10 := yA m910 n11
  have ld12 := zI (P := Tryz.prog) (t := 26) m12 xX hc10.1
  refine qJ ?_; repeat' (first | ((first | (with_reducible apply qI) | with_reducible refine zE xU xC (by kernel_rfl) ?_) <;> try simp only [qN, qC, qE, qG, qD, qA, qF, seval, qQ, qO, qP, qL, qY, qZ, zC, wB, xU, ld12, qH m712 zS, qH m912 wO]))
  refine (ih x12 A12 hne hyr (by omega) J10 (by omega)).mono ?_
  rintro _ h13 ⟨fr13, ⟨s13, v13, cells13, x13, J13, l13⟩, c13, rfl, p13⟩
  have hc13 := p13.len
  have m913 := fr13 _ _ m912 (.inr ⟨k9q, by simp⟩)
  have m113 := fr13 _ _ m112 (.inr ⟨k6q, by simp⟩)
  have m1013 := fr13 _ _ m12 (.inr ⟨k10q, by simp⟩)
  have p1213 := SPn.fr fr13 ⟨_, x12.obj, rfl⟩ p12
  have ld13 := zI (P := Tryz.prog) (t := 26) m1013 xX hc10.1
  refine qJ ?_; repeat' (first | ((with_reducible apply qI) <;> try simp only [qN, qC, qE, qG, qD, qA, qF, seval, qQ, qO, qP, qL, qY, qZ, zC, wB, xU, ld13, qH m913 wO]))
  have F2 : ∀ z, xZ (Shape.elems 10).pl (uT z (2 * 10)) [(0, .agg c10.toArray), (1, .agg c13.toArray)] = some (c10 ++ c13) := fun z => fill2 (es := 10) (x := .agg c10.toArray) (y := .agg c13.toArray) (by simpa [vcells] using hc10.1) (by simpa [vcells] using hc13.1) (by simpa [vcells] using hc10.2.1) (by simpa [vcells] using hc13.2.1)
  refine fJ (cs := c10 ++ c13) el24 rfl (by decide) (by decide) (F2 _) (by rw [List.all_append, hc10.2.1, hc13.2.1]; rfl) fun k14 h14 m14 s14 f14 n14 => ?_
  have m914 := s14 _ _ m913
  have m114 := s14 _ _ m113
  have src14 : mR h14 10 (.slice (some ⟨k14, 0, none⟩) 2 5) = some (2, c10 ++ c13) := by
    have := yF (n := 20) (cs := c10 ++ c13) m14 (by rw [List.drop_zero]; exact List.take_of_length_le (by simp [hc10.1, hc13.1])) (by simp [hc10.1, hc13.1])
    simp [mR, this]
  refine qJ ?_; repeat' (first | ((with_reducible apply qI) <;> try simp only [qN, qC, qE, qG, qD, qA, qF, seval, qQ, qO, qP, qL, qY, qZ, zC, wB, xU, qH m914 wO]))
  refine gG el24 Tryz.underlying24 rfl (HS.refl h14) (OWNC.nil _ _ _) src14 (by simp [hc10.1, hc13.1]) (by rw [List.all_append, hc10.2.1, hc13.2.1]; rfl) (by omega) (by simp only [maxLen]; omega) fun v15 h15 s15 fr15 o15 => ?_
  rw [List.nil_append] at o15
  obtain ⟨q15, _⟩ | ⟨_, q15, _⟩ | ⟨kb, ckb, rfl, ev1, ev2, _, _, mb15, nb15⟩ := o15
  · omega
  · omega
  have m915 := s15 _ _ m914
  have m115 := s15 _ _ m114
  refine qJ ?_; repeat' (first | ((with_reducible apply qI) <;> try simp only [qN, qC, qE, qG, qD, qA, qF, seval, qQ, qO, qP, qL, qY, qZ, zC, wB, xU, qH m915 wO]))
  refine zW m915 wO rfl (by simp) rfl rfl fun h16 m16 f16 => ?_
  simp only [List.set_cons_zero, List.set_cons_succ] at m16
  have ld16 := zI (P := Tryz.prog) (t := 26) m16 xX rfl
  have m116 : h16 k6 = _ := (f16 k6 k69).trans m115
  refine qJ ?_; repeat' (first | with_reducible apply qK | ((with_reducible first | apply qI | apply qB) <;> try simp only [qN, qC, qE, qG, qD, qA, qF, seval, qQ, qO, qP, qL, qY, qZ, zC, wB, xU, ld16]))
  refine xY m116 xX rfl (by decide) rfl rfl rfl fun h17 m17 f17 => ?_
  have ld17 := zI (P := Tryz.prog) (t := 26) m17 xX rfl
  refine qJ ?_; repeat' (first | ((with_reducible first | apply qI | apply qM) <;> try simp only [qN, qC, qE, qG, qD, qA, qF, seval, qQ, qO, qP, qL, qY, qZ, zC, wB, xU, uW, ld17]))
  have s1315 := s14.trans s15
  have F9 : FR 3 kq h h9 := (FR.of (e := 3) (k := kq) S8).upd n9h f9
  have F15 : FR 3 kq h h15 := (((F9.trans fr10).trans (.of s10_12)).trans fr13).trans (.of s1315)
  have F17 : FR 3 kq h h17 := (F15.upd n9h f16).upd n1 f17
  have x15 := x13.keep s1315
  have x17 := (x15.upd m915 rfl rfl k9q.symm b9 f16).upd m116 rfl rfl k6q.symm b6 f17
  have zc : ∀ {v l}, RB h8 v l → RB h17 v l := fun r => ((((((r.hx m98 rfl (zH f9)).fr fr10).hs s10_12).fr fr13).hs s1315).hx m915 rfl (zH f16)).hx m116 rfl (zH f17)
  have zp : ∀ {cs p}, SPn m h13 cs p → SPn m h17 cs p := fun r => SPn.fr (FR.one m116 rfl f17) ⟨_, m116, rfl⟩ (SPn.fr (FR.one m915 rfl f16) ⟨_, m915, rfl⟩ (r.hs s1315))
  have kb9 : kb ≠ k9 := fun e => by rw [e, m915] at mb15; exact absurd (congrArg GB.es (Option.some.inj mb15)) (by simp)
  have kb6 : kb ≠ k6 := fun e => by rw [e, m115] at mb15; exact absurd (congrArg GB.es (Option.some.inj mb15)) (by simp)
  have mb17 := (f17 kb kb6).trans ((f16 kb kb9).trans mb15)
  refine ⟨F17, ⟨s13, v13, cells13, x17, ?_, ?_⟩, _, rfl, ?_⟩
  · rw [dS hi hlf hcut]
    exact J13
  · rw [pG hi hlf, List.length_append]; omega
  · rw [dS hi hlf hcut]
    exact .inr ⟨_, _, kb, ckb, true, c10, c13, .slice e1 0 d1, .slice e2 0 d2, .slice e3 nd.pf.length d3, .slice e4 0 d4, .slice e5 0 d5, rfl, rfl, ⟨e1, d1, rfl, zc y1⟩, ⟨e2, d2, rfl, zc y2⟩, ⟨e3, d3, rfl, zc y3⟩, ⟨e4, d4, rfl, zc y4⟩, ⟨e5, d5, rfl, zc y5⟩, mb17, hc10.1, hc13.1, by omega, zp p1213, zp p13⟩
theorem zG6 (N : Nat) {q : Pq} (hq : q.row.length ≤ 100000000) {M : List Nd} (ti : TI M) : ∀ (n : Nat) {hb h ha : GH} {kq ka : Nat} {s : St} {ar : Option Addr} {cr : Nat} {v va : Value} {cells ca : List Value} (x : QP hb h kq q s ar cr v cells) (A : AA ha h ka va ca M) (hne : ka ≠ kq) {i : Nat} {nd : Nd} (hi : M[i]? = some nd) (hn : i ≤ n) {c : Nat} (J : Jn q s c) (hs : s.1.length + (qI3 M n i).length ≤ 1000000),
    GTri Tryz.prog N 68 [.pointer (some ⟨kq, 0, none⟩), .pointer (some ⟨ka, 0, none⟩), .int .i64 (i : Int)] h (PrS M q n i c hb h kq s ar cr)
  | 0, _, _, _, _, _, _, _, _, _, _, _, _, x, A, hne, _, _, hi, hn, _, J, hs => qU1 N hq ti 0 (fun m e => by omega) x A hne hi hn J hs
  | n + 1, _, _, _, _, _, _, _, _, _, _, _, _, x, A, hne, _, _, hi, hn, _, J, hs => qU1 N hq ti (n + 1) (fun m e => by
      obtain rfl : n = m := by omega
      exact zG6 N hq ti n) x A hne hi hn J hs
theorem tX : type_of% (And.intro zF (And.intro wS (And.intro gY (And.intro vT (And.intro wR (And.intro vU (And.intro sX (And.intro xB (And.intro uI (And.intro jJ (And.intro wF rs68))))))))))) := And.intro zF (And.intro wS (And.intro gY (And.intro vT (And.intro wR (And.intro vU (And.intro sX (And.intro xB (And.intro uI (And.intro jJ (And.intro wF rs68))))))))))
def tH : Nat → List (Nat × List Nat) × List Nat
  | 11 => ([(0, []), (1, []), (2, []), (4, []), (5, []), (6, []), (3, [6]), (8, []), (7, []), (9, []), (10, []), (11, [])], [0, 0, 2, 7, 0, 0, 32, 127, 15, 511, 1023, 2047])
  | 7 => ([(0, []), (1, []), (2, []), (3, []), (4, []), (5, []), (6, []), (7, [1, 2]), (8, [1]), (9, []), (10, []), (11, [])], [0, 1, 0, 0, 0, 0, 32, 120, 252, 511, 1023, 2047])
  | _ => ([], [])
theorem dB : type_of% (And.intro zF (And.intro wS (And.intro gY (And.intro vT (And.intro wR (And.intro sX (And.intro xB (And.intro uI (And.intro jJ (And.intro wF rs22)))))))))) := And.intro zF (And.intro wS (And.intro gY (And.intro vT (And.intro wR (And.intro sX (And.intro xB (And.intro uI (And.intro jJ (And.intro wF rs22)))))))))
theorem zT4 (N : Nat) {q : Pq} {M : List Nd} {hb h ha : GH} {kq ka : Nat} {s : St} {ar : Option Addr} {cr : Nat} {v va : Value} {cells ca : List Value} (x : QP hb h kq q s ar cr v cells) (A : AA ha h ka va ca M) {i : Int} (hi : i < 0 ∨ (M.length : Int) ≤ i) {K : Type} (R : GH → List Value → K → Prop) :
    GTri Tryz.prog N 68 [.pointer (some ⟨kq, 0, none⟩), .pointer (some ⟨ka, 0, none⟩), .int .i64 i] h fun u h' => HS h h' ∧ ∃ cs, u = .agg cs.toArray ∧ RPn R h' cs noPart := by
  refine zU Tryz.func68 rfl gf68 ok68 (by simp [Tryz.ntmps68]) ?_
  repeat' (first | with_reducible apply qK | ((with_reducible apply qB) <;> try simp only [qN, qC, qE, qG, qD, qA, qF, seval, qQ, qO, qP, qL, qY, qZ, zC, tX, tH]))
  refine xE fun k6 h1 m1 s1 f1 n1 => ?_
  refine qJ ?_; repeat' (first | with_reducible apply qK | ((with_reducible first | apply qI | apply qB) <;> try simp only [qN, qC, qE, qG, qD, qA, qF, seval, qQ, qO, qP, qL, qY, qZ, zC, tX, tH]))
  refine (zQ0 N (A.hs s1) hi).mono ?_
  rintro _ h2 ⟨s2, rfl⟩
  simp only [zN]
  refine qJ ?_; repeat' (first | ((with_reducible apply qI) <;> try simp only [qN, qC, qE, qG, qD, qA, qF, seval, qQ, qO, qP, qL, qY, qZ, zC, tX, tH]))
  refine xE fun k7 h3 m3 s3 f3 n3 => ?_
  refine qJ ?_; repeat' (first | ((with_reducible apply qI) <;> try simp only [qN, qC, qE, qG, qD, qA, qF, seval, qQ, qO, qP, qL, qY, qZ, zC, tX, tH]))
  refine wL m3 wE rfl (by decide) rfl rfl rfl fun h4 m4 f4 => ?_
  have S4 := (s1.trans s2).trans (s3.upd n3 f4)
  have m14 := (s3.upd n3 f4) _ _ (s2 _ _ m1)
  refine qJ ?_; repeat' (first | with_reducible apply qK | ((with_reducible first | apply qI | apply qB | apply qR) <;> try simp only [qN, qC, qE, qG, qD, qA, qF, seval, qQ, qO, qP, qL, qY, qZ, zC, tX, tH, xP, xZ, vY, Shape.pl, List.all_cons, List.all_nil, zK]))
  refine wL m14 xX rfl (by decide) rfl rfl rfl fun h5 m5 f5 => ?_
  simp only [vcells] at m5
  have ld := zI (P := Tryz.prog) (t := 26) m5 xX rfl
  refine qJ ?_; repeat' (first | ((with_reducible first | apply qI | apply qM) <;> try simp only [qN, qC, qE, qG, qD, qA, qF, seval, qQ, qO, qP, qL, qY, qZ, zC, tX, tH, uW, ld]))
  exact ⟨S4.upd n1 f5, _, rfl, zB1 R _⟩
def qQ1 (M : List Nd) (q : Pq) (rt : Int) : Pn (Pd M.length) := if rt < 0 then noPart else (jO M q M.length rt.toNat 0).1
theorem pS (N : Nat) {h ha : GH} {ka : Nat} {va : Value} {ca : List Value} {M : List Nd} (A : AA ha h ka va ca M) (ti : TI M) (hML : M.length ≤ 10000) {rt : Int} (ro : zU5 M rt) (fr : Int) (sm : Bool) (lim : Int) {a : Option Addr} {c : Nat} {id : List UInt8} (ri : RB h (.slice a id.length c) id) :
    GTri Tryz.prog N 22 [.pointer (some ⟨ka, 0, none⟩), .int .i64 rt, .int .i64 fr, .bool sm, .slice a id.length c, .int .i64 lim] h fun u h' => HS h h' ∧ ∃ cs, u = .agg cs.toArray ∧ RPn (RPd M.length) h' cs (qQ1 M ⟨fr, sm, zL id, lim⟩ rt) := by
  have hkl := vV id
  unfold qQ1
  refine zU Tryz.func22 rfl gf22 ok22 (by simp [Tryz.ntmps22]) ?_
  repeat' (first | with_reducible apply qK | ((with_reducible apply qB) <;> try simp only [qN, qC, qE, qG, qD, qA, qF, seval, qQ, qO, qP, dB]))
  refine xE fun k12 h1 m1 s1 f1 n1 => ?_
  refine qJ ?_; repeat' (first | with_reducible apply qK | ((with_reducible first | apply qI | apply qB) <;> try simp only [qN, qC, qE, qG, qD, qA, qF, seval, qQ, qO, qP, dB]))
  refine (zP8 N fr sm lim (ri.hs s1)).mono ?_
  rintro _ h2 ⟨s2, k, ar, cr, hb, rfl, x2, sb, nk⟩
  have S2 := s1.trans s2
  have A2 := A.hs S2
  have hne : ka ≠ k := fun e => by
    have := A.obj
    rw [← e, s1 _ _ this] at nk; cases nk
  have m12 := s2 _ _ m1
  have Sb := s1.trans sb
  rcases ro with ⟨rfl, rfl⟩ | ⟨r, rfl, hr⟩
  · rw [if_pos (by decide)]
    refine qJ ?_; repeat' (first | ((with_reducible apply qI) <;> try simp only [qN, qC, qE, qG, qD, qA, qF, seval, qQ, qO, qP, dB]))
    refine (zT4 N x2 A2 (.inl (by decide)) (RPd 0)).mono ?_
    rintro _ h3 ⟨s3, cs, rfl, r3⟩
    have m13 := s3 _ _ m12
    have hc := r3.len
    refine qJ ?_; repeat' (first | ((with_reducible apply qI) <;> try simp only [qN, qC, qE, qG, qD, qA, qF, seval, qQ, qO, qP, dB]))
    refine xY m13 xX rfl (by decide) hc.1 rfl hc.2.1 fun h4 m4 f4 => ?_
    have ld := zI (P := Tryz.prog) (t := 26) m4 xX hc.1
    refine qJ ?_; repeat' (first | ((with_reducible first | apply qI | apply qM) <;> try simp only [qN, qC, qE, qG, qD, qA, qF, seval, qQ, qO, qP, dB, uW, ld]))
    exact ⟨(S2.trans s3).upd n1 f4, cs, rfl, RPn.bx (fun r => r.hx m13 rfl (zH f4)) rfl r3⟩
  · obtain ⟨nd, hnd⟩ := jP hr
    have hl := qW2 ti hnd (Nat.le_of_lt hr)
    rw [if_neg (by omega), Int.toNat_natCast]
    refine qJ ?_; repeat' (first | ((with_reducible apply qI) <;> try simp only [qN, qC, qE, qG, qD, qA, qF, seval, qQ, qO, qP, dB]))
    refine (zG6 N (q := ⟨fr, sm, zL id, lim⟩) (by simp only; omega) ti M.length x2 A2 hne hnd (Nat.le_of_lt hr) (c := 0) (.inl rfl) (by simp only [List.length_nil]; omega)).mono ?_
    rintro _ h3 ⟨fr3, ⟨s3', v3, cells3, x3, _, _⟩, cs, rfl, p3⟩
    have k12k : k12 ≠ k := fun e => by rw [e, nk] at m1; cases m1
    have m13 := fr3 _ _ m12 (.inr ⟨k12k, by simp⟩)
    have hc := p3.len
    refine qJ ?_; repeat' (first | ((with_reducible apply qI) <;> try simp only [qN, qC, qE, qG, qD, qA, qF, seval, qQ, qO, qP, dB]))
    refine xY m13 xX rfl (by decide) hc.1 rfl hc.2.1 fun h4 m4 f4 => ?_
    have ld := zI (P := Tryz.prog) (t := 26) m4 xX hc.1
    refine qJ ?_; repeat' (first | ((with_reducible first | apply qI | apply qM) <;> try simp only [qN, qC, qE, qG, qD, qA, qF, seval, qQ, qO, qP, dB, uW, ld]))
    have b12 : h k12 = none := n1
    exact ⟨(Sb.trans x3.hs).upd n1 f4, cs, rfl, (SPn.fr (FR.one m13 rfl f4) ⟨_, m13, rfl⟩ p3).rpn⟩
theorem fF : type_of% (And.intro zF (And.intro wS (And.intro zQ4 (And.intro lH (And.intro qQ8 (And.intro vT (And.intro wR (And.intro qH9 (And.intro xB (And.intro mP (And.intro uI (And.intro jJ (And.intro wF rs31))))))))))))) := And.intro zF (And.intro wS (And.intro zQ4 (And.intro lH (And.intro qQ8 (And.intro vT (And.intro wR (And.intro qH9 (And.intro xB (And.intro mP (And.intro uI (And.intro jJ (And.intro wF rs31))))))))))))
theorem lst_a : zL8 4 ⟨2, false, zL [], 1⟩ 1 (qQ1 [vZ [97] [] 3] ⟨2, false, zL [], 1⟩ 0) = (([(([97], []), 3)], false), 0) := by decide +kernel
theorem zT5 (N : Nat) {h : GH} (t : TK h) : GTri Tryz.prog N 31 [] h fun v h' => v = .bool true ∧ HS h h' := by
  refine zU Tryz.func31 rfl gf31 ok31 (by simp [Tryz.ntmps31]) ?_
  refine qJ ?_; repeat' (first | with_reducible apply qK | ((with_reducible first | apply qI | apply qB) <;> try simp only [qN, qC, qE, qG, qD, qA, qF, seval, qQ, qO, qP, fF]))
  refine fJ (cs := [.int .u8 97]) vA rfl (by decide) (by decide) (by rw [wD _ rfl]; rfl) rfl fun k1 h1 m1 s1 f1 n1 => ?_
  refine qJ ?_; repeat' (first | ((with_reducible apply qI) <;> try simp only [qN, qC, qE, qG, qD, qA, qF, seval, qQ, qO, qP, fF]))
  refine mark_g Tryz.underlying22 Tryz.underlying5 m1 rfl (by decide) fun h1b m1b f1b => ?_
  have s1b : HS h h1b := s1.upd n1 f1b
  refine qJ ?_; repeat' (first | ((with_reducible apply qI) <;> try simp only [qN, qC, qE, qG, qD, qA, qF, seval, qQ, qO, qP, fF, xP, xZ, vY, Shape.pl, List.all_cons, List.all_nil, zK]))
  refine fJ (cs := [.slice (some ⟨k1, 0, none⟩) 1 3, .slice none 0 0, .int .i64 3]) el52 rfl (by decide) (by decide) (fill1 rfl rfl) rfl fun k2 h2 m2 s2 f2 n2 => ?_
  have S2 := s1b.trans s2
  have rb1 : RB h1b (.slice (some ⟨k1, 0, none⟩) ([97] : List UInt8).length 3) [97] := .inr ⟨⟨k1, 0, none⟩, 3, rfl, yF m1b rfl rfl, by decide⟩
  have rp : RL 3 RPut h2 (.slice (some ⟨k2, 0, none⟩) ([(([97], []), 3)] : List Pt).length 3) [(([97], []), 3)] := .inr ⟨⟨k2, 0, none⟩, 3, _, rfl, yF m2 rfl rfl, by decide, fun i x hx => by
    rcases i with _ | i
    · cases hx
      exact ⟨_, _, _, _, rfl, rb1.hs s2, RB.nil _⟩
    · simp at hx, .inr ⟨_, m2, .inl (by simp)⟩⟩
  refine qJ ?_; repeat' (first | ((with_reducible apply qI) <;> try simp only [qN, qC, qE, qG, qD, qA, qF, seval, qQ, qO, qP, fF]))
  refine (zF5 N (t.hs S2) rp (by simp) (by simp)).mono ?_
  rintro _ h3 ⟨s3, k, kq, M, rt, v, cs, v2, cs2, rfl, _, x3, y3, ti, ro, hone, _⟩
  obtain ⟨eM, ert⟩ := hone _ rfl
  have es : zA7 3 = 3 := by decide
  simp only [es] at eM
  have eM' : M = [vZ [97] [] 3] := eM
  subst eM'
  subst ert
  have S3 := S2.trans s3
  refine qJ ?_; repeat' (first | with_reducible apply qK | ((with_reducible first | apply qI | apply qB | apply qR | apply qT) <;> try simp only [qN, qC, qE, qG, qD, qA, qF, seval, qQ, qO, qP, fF, gPick]))
  refine (pS N x3 ti (by simp) ro 2 false 1 (id := []) (a := none) (c := 0) (RB.nil _)).mono ?_
  rintro _ h4 ⟨s4, cs4, rfl, r4⟩
  have S4 := S3.trans s4
  refine qJ ?_; repeat' (first | ((with_reducible apply qI) <;> try simp only [qN, qC, qE, qG, qD, qA, qF, seval, qQ, qO, qP, fF, gPick]))
  refine (c_SList N 4 1 2 false 1 (id := []) (a := none) (c := 0) (RB.nil _) r4 (by decide +kernel)).mono ?_
  rintro _ h5 ⟨s5, ai, ci, rfl, rl⟩
  rw [lst_a] at rl ⊢
  simp only at rl ⊢
  obtain ⟨ad, cs6, g1, g2, a7, c7, b7, d7, rfl, _⟩ := RL.at (P := Tryz.prog) rl Tryz.underlying65 qI0 (i := 0) (x := (([97], []), 3)) rfl
  have g1' : zJ Tryz.prog 65 (.slice ai 1 ci) 0 = some (.pointer (some ad)) := g1
  have g3 := lZ (P := Tryz.prog) (t := 3) zS (qS2 g2 (i := 2) (v := .int .i64 3) rfl)
  refine qJ ?_; repeat' (first | with_reducible apply qK | ((with_reducible first | apply qI | apply qB | apply qM) <;> try simp only [qN, qC, qE, qG, qD, qA, qF, seval, qQ, qO, qP, fF, gPick, g1', g3, List.drop_succ_cons, List.drop_zero, List.take_succ_cons, List.take_zero]))
  exact S4.trans s5
theorem yG : type_of% (And.intro zF (And.intro wS (And.intro wR (And.intro xB (And.intro wF rs120))))) := And.intro zF (And.intro wS (And.intro wR (And.intro xB (And.intro wF rs120))))
theorem xF : type_of% (And.intro zF (And.intro wS (And.intro wR (And.intro xB (And.intro uI (And.intro wF rs73)))))) := And.intro zF (And.intro wS (And.intro wR (And.intro xB (And.intro uI (And.intro wF rs73)))))
def xD : Nat → List (Nat × List Nat) × List Nat
  | 11 => ([(0, []), (1, []), (2, []), (3, []), (4, []), (5, []), (6, []), (7, []), (8, []), (9, []), (10, []), (11, []), (12, []), (13, []), (14, []), (15, []), (16, []), (17, []), (18, []), (19, []), (20, []), (21, []), (22, []), (24, []), (25, []), (26, []), (27, []), (23, [18, 25, 27]), (28, [18]), (29, []), (30, []), (31, []), (32, [])], [0, 0, 0, 4, 12, 28, 63, 127, 255, 255, 255, 1279, 3327, 7423, 16383, 32767, 65535, 131071, 262143, 131071, 655359, 1703935, 3801087, 7995391, 131071, 16908287, 50462719, 117571583, 268042239, 536477695, 1073741823, 2147483647, 4294967295])
  | _ => ([], [])
theorem dA : type_of% (And.intro zF (And.intro wS (And.intro wR (And.intro xB (And.intro uI rs30))))) := And.intro zF (And.intro wS (And.intro wR (And.intro xB (And.intro uI rs30))))
theorem c_rkid (N : Nat) (size : Int) {n : Nat} {L : Type} {R' : GH → List Value → L → Prop} {h : GH} {cu cp : List Value} {up : Pn L} {p : Pn (Pd n)} (ru : RPn R' h cu up) (r : RPn (RPd n) h cp p) (hk : Pn.bulk (Pd.bulk n) p ≤ 100000000) (fk : up.frk = true) {s : Int}
    (ih : ∀ {h2 : GH}, HS h h2 → GTri Tryz.prog N 73 [.int .i64 size, .agg cp.toArray] h2 fun v h' => v = .bool (wY size n p) ∧ HS h2 h') :
    GTri Tryz.prog N 120 [.int .i64 size, .agg cu.toArray, .agg cp.toArray, .int .i64 s] h fun v h' => v = .bool (kG up s p && wY size n p) ∧ HS h h' := by
  have hbp := Pn.bulk_parts p
  have hcs := r.len
  have fk' := up.frk_ok fk
  obtain ⟨a1, c1, a2, c2, a3, c3, a4, c4, a5, c5, a6, c6, rfl, r1, r2, r3, r4, r5, r6⟩ := ru
  have r0 := r
  obtain ⟨b1, d1, b2, d2, b3, d3, b4, d4, b5, d5, b6, d6, rfl, q1, q2, q3, q4, q5, q6⟩ := r
  obtain ⟨dp, hdp⟩ : ∃ w : Nat, up.dp = (w : Int) := ⟨up.dp.toNat, by omega⟩
  have hbl : p.bits.length ≤ 100000000 := by
    unfold Pn.bits
    split
    · rw [vV]; omega
    · omega
  unfold kG
  rw [hdp, Int.toNat_natCast]
  refine zU Tryz.func120 rfl gf120 ok120 (by simp [Tryz.ntmps120]) ?_
  repeat' (first | with_reducible apply qK | ((with_reducible apply qB) <;> try simp only [qN, qC, qE, qG, qD, qA, qF, seval, qQ, qO, qP, yG]))
  refine wP rfl fun k5 h1 m1 s1 f1 n1 => ?_
  refine qJ ?_; repeat' (first | ((with_reducible apply qI) <;> try simp only [qN, qC, qE, qG, qD, qA, qF, seval, qQ, qO, qP, yG]))
  refine wP rfl fun k6 h2 m2 s2 f2 n2 => ?_
  have S2 := s1.trans s2
  have m12 := s2 _ _ m1
  have ld := zI (P := Tryz.prog) (t := 26) m2 xX rfl
  simp only [Pn.cs] at m12 m2 ld
  refine qJ ?_; repeat' (first | with_reducible apply qK | ((with_reducible first | apply qI | apply qB) <;> try simp only [qN, qC, qE, qG, qD, qA, qF, seval, qQ, qO, qP, yG, ld]))
  refine (c_rBits N (r0.hs S2 (fun cs x r => RPd.hs S2 n r)) (by omega)).mono ?_
  rintro _ h3 ⟨s3, a7, c7, rfl, r7⟩
  have S3 := S2.trans s3
  have m13 := s3 _ _ m12
  have m23 := s3 _ _ m2
  have ld3 := yO s3 ld
  cases w0 : (p.kd != 0)
  case false =>
    have e0 : p.kd = 0 := by simpa using w0
    have w1 : (p.kd == 1) = false := by rw [e0]; rfl
    cases w2 : decide (p.dp > (dp : Int))
    all_goals
      refine qJ ?_; repeat' (first | with_reducible apply qK | ((with_reducible first | apply qI | apply qB | apply qM) <;> try simp only [qN, qC, qE, qG, qD, qA, qF, seval, qQ, qO, qP, yG, w0, w1, w2, hdp, qH m13 zS, qH m13 zD, qH m23 zS, gPick]))
      first | exact S3 | exact ⟨by simp, S3⟩
  cases w1 : (p.kd == 1)
  case false =>
    cases w2 : decide (p.dp > (dp : Int))
    case false =>
      refine qJ ?_; repeat' (first | with_reducible apply qK | ((with_reducible first | apply qI | apply qB | apply qM) <;> try simp only [qN, qC, qE, qG, qD, qA, qF, seval, qQ, qO, qP, yG, w0, w1, w2, hdp, qH m13 zS, qH m13 zD, qH m23 zS, gPick]))
      first | exact S3 | exact ⟨by simp, S3⟩
    refine qJ ?_; repeat' (first | with_reducible apply qK | ((with_reducible first | apply qI | apply qB) <;> try simp only [qN, qC, qE, qG, qD, qA, qF, seval, qQ, qO, qP, yG, w0, w1, w2, hdp, qH m13 zS, qH m13 zD, qH m23 zS, gPick]))
    refine (mN N h3 r7 (r3.hs S3) (by omega) (by omega) _ (WalkArith.wf_i64 (by omega))).mono ?_
    rintro _ h4 ⟨rfl, s4⟩
    have S4 := S3.trans s4
    have m14 := s4 _ _ m13
    cases y1 : tV p.bits up.pf (dp : Int)
    case false =>
      refine qJ ?_; repeat' (first | ((with_reducible first | apply qI | apply qM) <;> try simp only [qN, qC, qE, qG, qD, qA, qF, seval, qQ, qO, qP, yG, gPick]))
      first | exact S4 | exact ⟨by simp, S4⟩
    have ld4 := yO s4 ld3
    cases y2 : (xA p.bits dp == s)
    case false =>
      refine qJ ?_; repeat' (first | ((first | (with_reducible first | apply qI | apply qM) | ((refine GTri.mono (jK _ _ (r7.hs s4) dp (by omega)) ?_); rintro _ _ ⟨rfl, hh9⟩; replace hh9 := hh9.symm; subst hh9)) <;> try simp only [qN, qC, qE, qG, qD, qA, qF, seval, qQ, qO, qP, yG, hdp, y2, qH m14 zS, gPick]))
      first | exact S4 | exact ⟨by simp, S4⟩
    refine qJ ?_; repeat' (first | ((first | (with_reducible apply qI) | ((refine GTri.mono (jK _ _ (r7.hs s4) dp (by omega)) ?_); rintro _ _ ⟨rfl, hh9⟩; replace hh9 := hh9.symm; subst hh9)) <;> try simp only [qN, qC, qE, qG, qD, qA, qF, seval, qQ, qO, qP, yG, hdp, y2, ld4, qH m14 zS, gPick]))
    refine (ih S4).mono ?_
    rintro _ h5 ⟨rfl, s5⟩
    refine qJ ?_; repeat' (first | ((with_reducible first | apply qI | apply qM) <;> try simp only [qN, qC, qE, qG, qD, qA, qF, seval, qQ, qO, qP, yG, gPick]))
    first | exact S4.trans s5 | exact ⟨by simp, S4.trans s5⟩
  refine qJ ?_; repeat' (first | with_reducible apply qK | ((with_reducible first | apply qI | apply qB) <;> try simp only [qN, qC, qE, qG, qD, qA, qF, seval, qQ, qO, qP, yG, w0, w1, hdp, qH m13 zS, qH m13 zD, qH m23 zS, gPick]))
  refine (mN N h3 r7 (r3.hs S3) (by omega) (by omega) _ (WalkArith.wf_i64 (by omega))).mono ?_
  rintro _ h4 ⟨rfl, s4⟩
  have S4 := S3.trans s4
  have m14 := s4 _ _ m13
  cases y1 : tV p.bits up.pf (dp : Int)
  case false =>
    refine qJ ?_; repeat' (first | ((with_reducible first | apply qI | apply qM) <;> try simp only [qN, qC, qE, qG, qD, qA, qF, seval, qQ, qO, qP, yG, gPick]))
    first | exact S4 | exact ⟨by simp, S4⟩
  have ld4 := yO s4 ld3
  cases y2 : (xA p.bits dp == s)
  case false =>
    refine qJ ?_; repeat' (first | ((first | (with_reducible first | apply qI | apply qM) | ((refine GTri.mono (jK _ _ (r7.hs s4) dp (by omega)) ?_); rintro _ _ ⟨rfl, hh9⟩; replace hh9 := hh9.symm; subst hh9)) <;> try simp only [qN, qC, qE, qG, qD, qA, qF, seval, qQ, qO, qP, yG, hdp, y2, qH m14 zS, gPick]))
    first | exact S4 | exact ⟨by simp, S4⟩
  refine qJ ?_; repeat' (first | ((first | (with_reducible apply qI) | ((refine GTri.mono (jK _ _ (r7.hs s4) dp (by omega)) ?_); rintro _ _ ⟨rfl, hh9⟩; replace hh9 := hh9.symm; subst hh9)) <;> try simp only [qN, qC, qE, qG, qD, qA, qF, seval, qQ, qO, qP, yG, hdp, y2, ld4, qH m14 zS, gPick]))
  refine (ih S4).mono ?_
  rintro _ h5 ⟨rfl, s5⟩
  refine qJ ?_; repeat' (first | ((with_reducible first | apply qI | apply qM) <;> try simp only [qN, qC, qE, qG, qD, qA, qF, seval, qQ, qO, qP, yG, gPick]))
  first | exact S4.trans s5 | exact ⟨by simp, S4.trans s5⟩
theorem c_rmay (N : Nat) (size : Int) : ∀ (n : Nat) {h : GH} {cs : List Value} {p : Pn (Pd n)} (r : RPn (RPd n) h cs p) (hk : Pn.bulk (Pd.bulk n) p ≤ 100000000),
    GTri Tryz.prog N 73 [.int .i64 size, .agg cs.toArray] h fun v h' => v = .bool (wY size n p) ∧ HS h h' := by
  intro n
  induction n with
  | zero =>
    intro h cs p r hk
    have hbp := Pn.bulk_parts p
    have r0 := r
    have hcs := r.len
    obtain ⟨a1, c1, a2, c2, a3, c3, a4, c4, a5, c5, a6, c6, rfl, r1, r2, r3, r4, r5, r6⟩ := r
    have hmv : wY size 0 p = (p.right size && !(p.kd == 3)) := rfl
    have ekd : p.kids.length = 0 := by rw [tQ p]; rfl
    refine zU Tryz.func73 rfl gf73 ok73 (by simp [Tryz.ntmps73]) ?_
    repeat' (first | with_reducible apply qK | ((with_reducible apply qB) <;> try simp only [qN, qC, qE, qG, qD, qA, qF, seval, qQ, qO, qP, qL, qY, qZ, zC, xF, xD]))
    refine wP rfl fun k1 h1 m1 s1 f1 n1 => ?_
    have q0 := r0.hs s1 (fun cs x r => RPd.hs s1 0 r)
    have ld := zI (P := Tryz.prog) (t := 26) m1 xX rfl
    simp only [Pn.cs] at m1
    by_cases k0 : p.kd = 0
    · have e0 : (p.kd == 0) = true := by simp [k0]
      have e3 : (p.kd == 3) = false := by rw [k0]; rfl
      have ev : wY size 0 p = p.rnoth := by
        rw [p.rnoth_eq, e0, Bool.true_and]
        have e1 : p.right size = p.blank false false := by unfold Pn.right; rw [if_pos k0]
        simp only [wY, e1, e3, Bool.not_false, Bool.and_true, Bool.true_or]
      rw [ev]
      refine qJ ?_; repeat' (first | (with_reducible first | apply qK | apply qS) | ((with_reducible first | apply qI | apply qB | apply qR) <;> try simp only [qN, qC, qE, qG, qD, qA, qF, seval, qQ, qO, qP, qL, qY, qZ, zC, xF, xD, qH m1 zS, e0, ld]))
      refine (qH5 N q0).mono ?_
      rintro _ h2 ⟨rfl, s2⟩
      refine qJ ?_; repeat' (first | ((with_reducible first | apply qI | apply qM) <;> try simp only [qN, qC, qE, qG, qD, qA, qF, seval, qQ, qO, qP, qL, qY, qZ, zC, xF, xD]))
      first | exact s1.trans s2 | exact ⟨rfl, s1.trans s2⟩
    have e0 : (p.kd == 0) = false := by simp [k0]
    by_cases k1' : p.kd = 1
    · have e1 : (p.kd == 1) = true := by simp [k1']
      have e3 : (p.kd == 3) = false := by rw [k1']; rfl
      have ev : wY size 0 p = p.rleaf := by
        rw [p.rleaf_eq]
        have e1 : p.right size = (p.blank true false && zE8 p.si && decide ((p.id.length : Int) ≤ 255) && decide ((p.ky.length : Int) ≤ 48)) := by unfold Pn.right; rw [if_neg k0, if_pos k1']
        simp only [wY, e1, e3, Bool.not_false, Bool.and_true, Bool.true_or]
      rw [ev]
      refine qJ ?_; repeat' (first | (with_reducible first | apply qK | apply qS) | ((with_reducible first | apply qI | apply qB | apply qR) <;> try simp only [qN, qC, qE, qG, qD, qA, qF, seval, qQ, qO, qP, qL, qY, qZ, zC, xF, xD, qH m1 zS, e0, e1, ld]))
      refine (zG3 N q0).mono ?_
      rintro _ h2 ⟨rfl, s2⟩
      refine qJ ?_; repeat' (first | ((with_reducible first | apply qI | apply qM) <;> try simp only [qN, qC, qE, qG, qD, qA, qF, seval, qQ, qO, qP, qL, qY, qZ, zC, xF, xD]))
      first | exact s1.trans s2 | exact ⟨rfl, s1.trans s2⟩
    have e1 : (p.kd == 1) = false := by simp [k1']
    by_cases k2' : p.kd = 2
    · have e2 : (p.kd == 2) = true := by simp [k2']
      have e3 : (p.kd == 3) = false := by rw [k2']; rfl
      have ev : wY size 0 p = (p.rfork && ((p.lf.length : Int) == size) && ((p.rt.length : Int) == size) && ((p.kids.length : Int) == 0)) := by
        rw [p.rfork_eq]
        have e1 : p.right size = (p.frk && p.hsh size && ((p.kids.length : Int) == 0)) := by unfold Pn.right; rw [if_neg k0, if_neg k1', if_pos k2']
        simp only [wY, e1, e3, Bool.not_false, Bool.and_true, Bool.true_or, Pn.hsh, Bool.and_assoc]
      rw [ev]
      refine qJ ?_; repeat' (first | (with_reducible first | apply qK | apply qS) | ((with_reducible first | apply qI | apply qB | apply qR) <;> try simp only [qN, qC, qE, qG, qD, qA, qF, seval, qQ, qO, qP, qL, qY, qZ, zC, xF, xD, qH m1 zS, e0, e1, e2, ld]))
      refine (qJ7 N q0 (by omega)).mono ?_
      rintro _ h2 ⟨rfl, s2⟩
      have S2 := s1.trans s2
      have m2 := s2 _ _ m1
      cases zf : p.rfork
      case false =>
        refine qJ ?_; repeat' (first | ((with_reducible first | apply qI | apply qM) <;> try simp only [qN, qC, qE, qG, qD, qA, qF, seval, qQ, qO, qP, qL, qY, qZ, zC, xF, xD, gPick]))
        first | exact S2 | exact ⟨by simp, S2⟩
      cases z0 : ((p.lf.length : Int) == size)
      case false =>
        refine qJ ?_; repeat' (first | ((with_reducible first | apply qI | apply qM) <;> try simp only [qN, qC, qE, qG, qD, qA, qF, seval, qQ, qO, qP, qL, qY, qZ, zC, xF, xD, z0, qH m2 zD, qH m2 wO, gPick]))
        first | exact S2 | exact ⟨by simp, S2⟩
      cases z1 : ((p.rt.length : Int) == size)
      case false =>
        refine qJ ?_; repeat' (first | ((with_reducible first | apply qI | apply qM) <;> try simp only [qN, qC, qE, qG, qD, qA, qF, seval, qQ, qO, qP, qL, qY, qZ, zC, xF, xD, z0, z1, qH m2 zD, qH m2 wO, gPick]))
        first | exact S2 | exact ⟨by simp, S2⟩
      refine qJ ?_; repeat' (first | ((with_reducible first | apply qI | apply qM) <;> try simp only [qN, qC, qE, qG, qD, qA, qF, seval, qQ, qO, qP, qL, qY, qZ, zC, xF, xD, z0, z1, qH m2 zD, qH m2 wO, gPick]))
      first | exact S2 | exact ⟨by simp, S2⟩
    have e2 : (p.kd == 2) = false := by simp [k2']
    by_cases k3 : p.kd = 3
    case neg =>
      have e3 : (p.kd == 3) = false := by simp [k3]
      have ev : wY size 0 p = false := by
        rw [hmv]
        have : p.right size = false := by unfold Pn.right; rw [if_neg k0, if_neg k1', if_neg k2', if_neg k3]
        rw [this]; rfl
      rw [ev]
      refine qJ ?_; repeat' (first | (with_reducible first | apply qK | apply qS) | ((with_reducible first | apply qI | apply qB | apply qR | apply qT | apply qM) <;> try simp only [qN, qC, qE, qG, qD, qA, qF, seval, qQ, qO, qP, qL, qY, qZ, zC, xF, xD, qH m1 zS, e0, e1, e2, e3, ld]))
      first | exact s1 | exact ⟨rfl, s1⟩
    have e3 : (p.kd == 3) = true := by simp [k3]
    have ev : wY size 0 p = false := by rw [hmv, e3]; simp
    rw [ev]
    refine qJ ?_; repeat' (first | (with_reducible first | apply qK | apply qS) | ((with_reducible first | apply qI | apply qB | apply qR) <;> try simp only [qN, qC, qE, qG, qD, qA, qF, seval, qQ, qO, qP, qL, qY, qZ, zC, xF, xD, qH m1 zS, e0, e1, e2, e3, ld]))
    refine (qJ7 N q0 (by omega)).mono ?_
    rintro _ h2 ⟨rfl, s2⟩
    have m2 := s2 _ _ m1
    have z2 : ((p.kids.length : Int) != 2) = true := by rw [ekd]; rfl
    cases zf : p.rfork
    case false =>
      refine qJ ?_; repeat' (first | with_reducible apply qK | ((with_reducible first | apply qI | apply qB | apply qR | apply qM) <;> try simp only [qN, qC, qE, qG, qD, qA, qF, seval, qQ, qO, qP, qL, qY, qZ, zC, xF, xD, gPick, Bool.not_false]))
      first | exact s1.trans s2 | exact ⟨by simp, s1.trans s2⟩
    cases z0 : decide ((p.lf.length : Int) > 0)
    case true =>
      refine qJ ?_; repeat' (first | with_reducible apply qK | ((with_reducible first | apply qI | apply qB | apply qR | apply qM) <;> try simp only [qN, qC, qE, qG, qD, qA, qF, seval, qQ, qO, qP, qL, qY, qZ, zC, xF, xD, z0, qH m2 zD, qH m2 wO, gPick, Bool.not_true]))
      first | exact s1.trans s2 | exact ⟨by simp, s1.trans s2⟩
    cases z1 : decide ((p.rt.length : Int) > 0)
    case true =>
      refine qJ ?_; repeat' (first | with_reducible apply qK | ((with_reducible first | apply qI | apply qB | apply qR | apply qM) <;> try simp only [qN, qC, qE, qG, qD, qA, qF, seval, qQ, qO, qP, qL, qY, qZ, zC, xF, xD, z0, z1, qH m2 zD, qH m2 wO, gPick, Bool.not_true]))
      first | exact s1.trans s2 | exact ⟨by simp, s1.trans s2⟩
    refine qJ ?_; repeat' (first | with_reducible apply qK | ((with_reducible first | apply qI | apply qB | apply qR | apply qM) <;> try simp only [qN, qC, qE, qG, qD, qA, qF, seval, qQ, qO, qP, qL, qY, qZ, zC, xF, xD, z0, z1, z2, qH m2 zD, qH m2 wO, gPick, Bool.not_true]))
    first | exact s1.trans s2 | exact ⟨by simp, s1.trans s2⟩
  | succ n ih =>
    intro h cs p r hk
    have hbp := Pn.bulk_parts p
    have r0 := r
    have hcs := r.len
    obtain ⟨a1, c1, a2, c2, a3, c3, a4, c4, a5, c5, a6, c6, rfl, r1, r2, r3, r4, r5, r6⟩ := r
    refine zU Tryz.func73 rfl gf73 ok73 (by simp [Tryz.ntmps73]) ?_
    repeat' (first | with_reducible apply qK | ((with_reducible apply qB) <;> try simp only [qN, qC, qE, qG, qD, qA, qF, seval, qQ, qO, qP, qL, qY, qZ, zC, xF, xD]))
    refine wP rfl fun k1 h1 m1 s1 f1 n1 => ?_
    have q0 := r0.hs s1 (fun cs x r => RPd.hs s1 (n + 1) r)
    have ld := zI (P := Tryz.prog) (t := 26) m1 xX rfl
    simp only [Pn.cs] at m1
    by_cases k0 : p.kd = 0
    · have e0 : (p.kd == 0) = true := by simp [k0]
      have e3 : (p.kd == 3) = false := by rw [k0]; rfl
      have ev : wY size (n + 1) p = p.rnoth := by
        rw [p.rnoth_eq, e0, Bool.true_and]
        have e1 : p.right size = p.blank false false := by unfold Pn.right; rw [if_pos k0]
        simp only [wY, e1, e3, Bool.not_false, Bool.and_true, Bool.true_or]
      rw [ev]
      refine qJ ?_; repeat' (first | (with_reducible first | apply qK | apply qS) | ((with_reducible first | apply qI | apply qB | apply qR) <;> try simp only [qN, qC, qE, qG, qD, qA, qF, seval, qQ, qO, qP, qL, qY, qZ, zC, xF, xD, qH m1 zS, e0, ld]))
      refine (qH5 N q0).mono ?_
      rintro _ h2 ⟨rfl, s2⟩
      refine qJ ?_; repeat' (first | ((with_reducible first | apply qI | apply qM) <;> try simp only [qN, qC, qE, qG, qD, qA, qF, seval, qQ, qO, qP, qL, qY, qZ, zC, xF, xD]))
      first | exact s1.trans s2 | exact ⟨rfl, s1.trans s2⟩
    have e0 : (p.kd == 0) = false := by simp [k0]
    by_cases k1' : p.kd = 1
    · have e1 : (p.kd == 1) = true := by simp [k1']
      have e3 : (p.kd == 3) = false := by rw [k1']; rfl
      have ev : wY size (n + 1) p = p.rleaf := by
        rw [p.rleaf_eq]
        have e1 : p.right size = (p.blank true false && zE8 p.si && decide ((p.id.length : Int) ≤ 255) && decide ((p.ky.length : Int) ≤ 48)) := by unfold Pn.right; rw [if_neg k0, if_pos k1']
        simp only [wY, e1, e3, Bool.not_false, Bool.and_true, Bool.true_or]
      rw [ev]
      refine qJ ?_; repeat' (first | (with_reducible first | apply qK | apply qS) | ((with_reducible first | apply qI | apply qB | apply qR) <;> try simp only [qN, qC, qE, qG, qD, qA, qF, seval, qQ, qO, qP, qL, qY, qZ, zC, xF, xD, qH m1 zS, e0, e1, ld]))
      refine (zG3 N q0).mono ?_
      rintro _ h2 ⟨rfl, s2⟩
      refine qJ ?_; repeat' (first | ((with_reducible first | apply qI | apply qM) <;> try simp only [qN, qC, qE, qG, qD, qA, qF, seval, qQ, qO, qP, qL, qY, qZ, zC, xF, xD]))
      first | exact s1.trans s2 | exact ⟨rfl, s1.trans s2⟩
    have e1 : (p.kd == 1) = false := by simp [k1']
    by_cases k2' : p.kd = 2
    · have e2 : (p.kd == 2) = true := by simp [k2']
      have e3 : (p.kd == 3) = false := by rw [k2']; rfl
      have ev : wY size (n + 1) p = (p.rfork && ((p.lf.length : Int) == size) && ((p.rt.length : Int) == size) && ((p.kids.length : Int) == 0)) := by
        rw [p.rfork_eq]
        have e1 : p.right size = (p.frk && p.hsh size && ((p.kids.length : Int) == 0)) := by unfold Pn.right; rw [if_neg k0, if_neg k1', if_pos k2']
        simp only [wY, e1, e3, Bool.not_false, Bool.and_true, Bool.true_or, Pn.hsh, Bool.and_assoc]
      rw [ev]
      refine qJ ?_; repeat' (first | (with_reducible first | apply qK | apply qS) | ((with_reducible first | apply qI | apply qB | apply qR) <;> try simp only [qN, qC, qE, qG, qD, qA, qF, seval, qQ, qO, qP, qL, qY, qZ, zC, xF, xD, qH m1 zS, e0, e1, e2, ld]))
      refine (qJ7 N q0 (by omega)).mono ?_
      rintro _ h2 ⟨rfl, s2⟩
      have S2 := s1.trans s2
      have m2 := s2 _ _ m1
      cases zf : p.rfork
      case false =>
        refine qJ ?_; repeat' (first | ((with_reducible first | apply qI | apply qM) <;> try simp only [qN, qC, qE, qG, qD, qA, qF, seval, qQ, qO, qP, qL, qY, qZ, zC, xF, xD, gPick]))
        first | exact S2 | exact ⟨by simp, S2⟩
      cases z0 : ((p.lf.length : Int) == size)
      case false =>
        refine qJ ?_; repeat' (first | ((with_reducible first | apply qI | apply qM) <;> try simp only [qN, qC, qE, qG, qD, qA, qF, seval, qQ, qO, qP, qL, qY, qZ, zC, xF, xD, z0, qH m2 zD, qH m2 wO, gPick]))
        first | exact S2 | exact ⟨by simp, S2⟩
      cases z1 : ((p.rt.length : Int) == size)
      case false =>
        refine qJ ?_; repeat' (first | ((with_reducible first | apply qI | apply qM) <;> try simp only [qN, qC, qE, qG, qD, qA, qF, seval, qQ, qO, qP, qL, qY, qZ, zC, xF, xD, z0, z1, qH m2 zD, qH m2 wO, gPick]))
        first | exact S2 | exact ⟨by simp, S2⟩
      refine qJ ?_; repeat' (first | ((with_reducible first | apply qI | apply qM) <;> try simp only [qN, qC, qE, qG, qD, qA, qF, seval, qQ, qO, qP, qL, qY, qZ, zC, xF, xD, z0, z1, qH m2 zD, qH m2 wO, gPick]))
      first | exact S2 | exact ⟨by simp, S2⟩
    have e2 : (p.kd == 2) = false := by simp [k2']
    by_cases k3 : p.kd = 3
    case neg =>
      have hmv : wY size (n + 1) p = (p.right size && !(p.kd == 3)) := by
        have e3 : (p.kd == 3) = false := by simp [k3]
        simp only [wY, e3, Bool.not_false, Bool.true_or]
      have e3 : (p.kd == 3) = false := by simp [k3]
      have ev : wY size (n + 1) p = false := by
        rw [hmv]
        have : p.right size = false := by unfold Pn.right; rw [if_neg k0, if_neg k1', if_neg k2', if_neg k3]
        rw [this]; rfl
      rw [ev]
      refine qJ ?_; repeat' (first | (with_reducible first | apply qK | apply qS) | ((with_reducible first | apply qI | apply qB | apply qR | apply qT | apply qM) <;> try simp only [qN, qC, qE, qG, qD, qA, qF, seval, qQ, qO, qP, qL, qY, qZ, zC, xF, xD, qH m1 zS, e0, e1, e2, e3, ld]))
      first | exact s1 | exact ⟨rfl, s1⟩
    have e3 : (p.kd == 3) = true := by simp [k3]
    have erb : p.right size = (p.rfork && (((p.lf.length : Int) == 0) && ((p.rt.length : Int) == 0)) && ((p.kids.length : Int) == 2)) := by
      rw [p.rfork_eq]
      unfold Pn.right Pn.hsh
      rw [if_neg (by omega), if_neg (by omega), if_neg (by omega), if_pos k3]
    have nomay : p.right size = false → wY size (n + 1) p = false := fun e => by simp only [wY, e, Bool.false_and]
    refine qJ ?_; repeat' (first | (with_reducible first | apply qK | apply qS) | ((with_reducible first | apply qI | apply qB | apply qR) <;> try simp only [qN, qC, qE, qG, qD, qA, qF, seval, qQ, qO, qP, qL, qY, qZ, zC, xF, xD, qH m1 zS, e0, e1, e2, e3, ld]))
    refine (qJ7 N q0 (by omega)).mono ?_
    rintro _ h2 ⟨rfl, s2⟩
    have S2 := s1.trans s2
    have m2 := s2 _ _ m1
    cases zf : p.rfork
    case false =>
      rw [nomay (by rw [erb, zf]; rfl)]
      refine qJ ?_; repeat' (first | with_reducible apply qK | ((with_reducible first | apply qI | apply qB | apply qR | apply qM) <;> try simp only [qN, qC, qE, qG, qD, qA, qF, seval, qQ, qO, qP, qL, qY, qZ, zC, xF, xD, gPick, Bool.not_false]))
      first | exact S2 | exact ⟨by simp, S2⟩
    cases z0 : decide ((p.lf.length : Int) > 0)
    case true =>
      rw [nomay (by rw [erb, show ((p.lf.length : Int) == 0) = false by have := of_decide_eq_true z0; rw [beq_eq_false_iff_ne]; omega]; simp)]
      refine qJ ?_; repeat' (first | with_reducible apply qK | ((with_reducible first | apply qI | apply qB | apply qR | apply qM) <;> try simp only [qN, qC, qE, qG, qD, qA, qF, seval, qQ, qO, qP, qL, qY, qZ, zC, xF, xD, z0, qH m2 zD, qH m2 wO, gPick, Bool.not_true]))
      first | exact S2 | exact ⟨by simp, S2⟩
    cases z1 : decide ((p.rt.length : Int) > 0)
    case true =>
      rw [nomay (by rw [erb, show ((p.rt.length : Int) == 0) = false by have := of_decide_eq_true z1; rw [beq_eq_false_iff_ne]; omega]; simp)]
      refine qJ ?_; repeat' (first | with_reducible apply qK | ((with_reducible first | apply qI | apply qB | apply qR | apply qM) <;> try simp only [qN, qC, qE, qG, qD, qA, qF, seval, qQ, qO, qP, qL, qY, qZ, zC, xF, xD, z0, z1, qH m2 zD, qH m2 wO, gPick, Bool.not_true]))
      first | exact S2 | exact ⟨by simp, S2⟩
    cases z2 : ((p.kids.length : Int) != 2)
    case true =>
      rw [nomay (by rw [erb, show ((p.kids.length : Int) == 2) = false by simpa using z2]; simp)]
      refine qJ ?_; repeat' (first | with_reducible apply qK | ((with_reducible first | apply qI | apply qB | apply qR | apply qM) <;> try simp only [qN, qC, qE, qG, qD, qA, qF, seval, qQ, qO, qP, qL, qY, qZ, zC, xF, xD, z0, z1, z2, qH m2 zD, qH m2 wO, gPick, Bool.not_true]))
      first | exact S2 | exact ⟨by simp, S2⟩
    have hright : p.right size = true := by
      have q1 := of_decide_eq_false z0
      have q2 := of_decide_eq_false z1
      have q3 : (p.kids.length : Int) = 2 := by simpa using z2
      rw [erb, zf, show ((p.lf.length : Int) == 0) = true from beq_iff_eq.2 (by omega), show ((p.rt.length : Int) == 0) = true from beq_iff_eq.2 (by omega), show ((p.kids.length : Int) == 2) = true by simp [q3]]
      rfl
    have fk : p.frk = true := by rw [← p.rfork_eq]; exact zf
    obtain ⟨a, b, hkids⟩ := tP hright k3
    have hkl : p.kids.length = 2 := by rw [hkids]; rfl
    have hab := Pn.kids_bulk (p := p) (x := a) (by rw [hkids]; exact List.mem_cons_self ..)
    have hbb := Pn.kids_bulk (p := p) (x := b) (by rw [hkids]; exact List.mem_cons_of_mem _ (List.mem_cons_self ..))
    have emv : wY size (n + 1) p = ((kG p 0 (show Pn (Pd n) from a) && wY size n a) && (kG p 1 (show Pn (Pd n) from b) && wY size n b) && (max (max 0 (Pn.newest (show Pn (Pd n) from a))) (Pn.newest (show Pn (Pd n) from b)) == p.nw)) := by
      simp only [wY, hright, e3, hkids, Bool.true_and, Bool.not_true, Bool.false_or]
    have at0 : ∀ {h3 : GH} (s : HS h h3) (i : Nat) (y : Pn (Pd n)), p.kids[i]? = some y → ∃ ad cs5, zJ Tryz.prog 24 (.slice a6 p.kids.length c6) (i : Int) = some (.pointer (some ad)) ∧ (∀ {h4 : GH}, HS h h4 → wZ Tryz.prog 26 h4 (.pointer (some ad)) = some (.agg cs5.toArray)) ∧ RPn (RPd n) h cs5 y := fun {h3} s i y hy => by
      obtain ⟨ad, cs5, g1, g2, e⟩ := RL.at (P := Tryz.prog) r6 Tryz.underlying24 xX hy
      exact ⟨ad, cs5, g1, fun s4 => yO s4 (gK xX g2), e⟩
    obtain ⟨ad, ca, g1, g2, ya⟩ := at0 S2 0 a (by rw [hkids]; rfl)
    obtain ⟨ad', cb, g3, g4, yb⟩ := at0 S2 1 b (by rw [hkids]; rfl)
    have g1' : zJ Tryz.prog 24 (.slice a6 p.kids.length c6) 0 = some (.pointer (some ad)) := g1
    have g3' : zJ Tryz.prog 24 (.slice a6 p.kids.length c6) 1 = some (.pointer (some ad')) := g3
    have ld2 := yO s2 ld
    have ru : ∀ {h4 : GH}, HS h h4 → RPn (RPd (n + 1)) h4 (p.cs (.slice a1 p.id.length c1) (.slice a2 p.ky.length c2) (.slice a3 p.pf.length c3) (.slice a4 p.lf.length c4) (.slice a5 p.rt.length c5) (.slice a6 p.kids.length c6)) p := fun s => r0.hs s (fun cs x r => RPd.hs s (n + 1) r)
    have ra : ∀ {h4 : GH}, HS h h4 → RPn (RPd n) h4 ca a := fun s => ya.hs s (fun cs x r => RPd.hs s n r)
    have rb : ∀ {h4 : GH}, HS h h4 → RPn (RPd n) h4 cb b := fun s => yb.hs s (fun cs x r => RPd.hs s n r)
    simp only [Pn.cs] at ld2 ru
    refine qJ ?_; repeat' (first | with_reducible apply qK | ((first | (with_reducible first | apply qI | apply qR | apply qT) | with_reducible refine zE xD xC (by kernel_rfl) ?_) <;> try simp only [qN, qC, qE, qG, qD, qA, qF, seval, qQ, qO, qP, qL, qY, qZ, zC, xF, xD, z0, z1, z2, g1', g2 S2, g3', g4 S2, ld2, qH m2 zS, qH m2 zD, qH m2 wO, gPick, Bool.not_true]))
    refine (c_rkid N size (s := 0) (ru S2) (ra S2) (by omega) fk (fun s => ih (ra (S2.trans s)) (by omega))).mono ?_
    rintro _ h3 ⟨rfl, s3⟩
    have S3 := S2.trans s3
    have m3 := s3 _ _ m2
    have ld3 := yO s3 ld2
    rw [emv]
    cases zA : (kG p 0 (show Pn (Pd n) from a) && wY size n a)
    case false =>
      refine qJ ?_; repeat' (first | ((with_reducible first | apply qI | apply qM) <;> try simp only [qN, qC, qE, qG, qD, qA, qF, seval, qQ, qO, qP, qL, qY, qZ, zC, xF, xD, gPick]))
      first | exact S3 | exact ⟨by simp, S3⟩
    refine qJ ?_; repeat' (first | ((with_reducible apply qI) <;> try simp only [qN, qC, qE, qG, qD, qA, qF, seval, qQ, qO, qP, qL, qY, qZ, zC, xF, xD, g1', g2 S3, g3', g4 S3, ld3, qH m3 zS, qH m3 wO, gPick]))
    refine (c_rkid N size (s := 1) (ru S3) (rb S3) (by omega) fk (fun s => ih (rb (S3.trans s)) (by omega))).mono ?_
    rintro _ h4 ⟨rfl, s4⟩
    have S4 := S3.trans s4
    have m4 := s4 _ _ m3
    cases zB : (kG p 1 (show Pn (Pd n) from b) && wY size n b)
    case false =>
      refine qJ ?_; repeat' (first | ((with_reducible first | apply qI | apply qM) <;> try simp only [qN, qC, qE, qG, qD, qA, qF, seval, qQ, qO, qP, qL, qY, qZ, zC, xF, xD, gPick]))
      first | exact S4 | exact ⟨by simp, S4⟩
    refine qJ ?_; repeat' (first | ((with_reducible apply qI) <;> try simp only [qN, qC, qE, qG, qD, qA, qF, seval, qQ, qO, qP, qL, qY, qZ, zC, xF, xD, g1', g2 S4, g3', g4 S4, qH m4 zS, qH m4 wO, gPick]))
    refine (qT7 N (ra S4)).mono ?_
    rintro _ h5 ⟨rfl, s5⟩
    have S5 := S4.trans s5
    have m5 := s5 _ _ m4
    refine qJ ?_; repeat' (first | ((with_reducible apply qI) <;> try simp only [qN, qC, qE, qG, qD, qA, qF, seval, qQ, qO, qP, qL, qY, qZ, zC, xF, xD, g1', g2 S5, g3', g4 S5, qH m5 zS, qH m5 wO, gPick]))
    refine (qT7 N (rb S5)).mono ?_
    rintro _ h6 ⟨rfl, s6⟩
    have S6 := S5.trans s6
    have m6 := s6 _ _ m5
    simp only [Bool.and_eq_true] at zA
    have fk' := p.frk_ok fk
    have pa := zH9 (gB zA.2) (kid_ok zA.1 (by omega) (by decide)).1
    have emx : (max (max 0 (Pn.newest (show Pn (Pd n) from a))) (Pn.newest (show Pn (Pd n) from b)) == p.nw) = (p.nw == max (Pn.newest (show Pn (Pd n) from a)) (Pn.newest (show Pn (Pd n) from b))) := by
      rw [show max 0 (Pn.newest (show Pn (Pd n) from a)) = Pn.newest (show Pn (Pd n) from a) from by have : 0 ≤ Pn.newest (show Pn (Pd n) from a) := pa; omega, Bool.beq_comm]
    rw [emx]
    refine qJ ?_; repeat' (first | ((with_reducible first | apply qI | apply qM) <;> try simp only [qN, qC, qE, qG, qD, qA, qF, seval, qQ, qO, qP, qL, qY, qZ, zC, xF, xD, max_if, qH m6 zS, gPick]))
    first | exact S6 | exact ⟨by simp, S6⟩
theorem qT8 (N : Nat) (size : Int) (n : Nat) {h : GH} {cs : List Value} {p : Pn (Pd n)} (r : RPn (RPd n) h cs p) (hk : Pn.bulk (Pd.bulk n) p ≤ 100000000) :
    GTri Tryz.prog N 30 [.int .i64 size, .agg cs.toArray] h fun v h' => v = .int .i64 (cond (qF3 size n p) 0 95) ∧ HS h h' := by
  have hcs := r.len
  unfold qF3
  refine zU Tryz.func30 rfl gf30 ok30 (by simp [Tryz.ntmps30]) ?_
  repeat' (first | with_reducible apply qK | ((with_reducible apply qB) <;> try simp only [qN, qC, qE, qG, qD, qA, qF, seval, qQ, qO, qP, dA]))
  refine wP hcs.2.1 fun k1 h1 m1 s1 f1 n1 => ?_
  have ld := zI (P := Tryz.prog) (t := 26) m1 xX hcs.1
  cases z0 : decide (size < 1)
  case true =>
    refine qJ ?_; repeat' (first | with_reducible apply qK | ((with_reducible first | apply qI | apply qB | apply qR | apply qM) <;> try simp only [qN, qC, qE, qG, qD, qA, qF, seval, qQ, qO, qP, dA, z0, gPick]))
    exact ⟨by first | rfl | simp, s1⟩
  cases z1 : decide (size > 32)
  case true =>
    refine qJ ?_; repeat' (first | with_reducible apply qK | ((with_reducible first | apply qI | apply qB | apply qR | apply qM) <;> try simp only [qN, qC, qE, qG, qD, qA, qF, seval, qQ, qO, qP, dA, z0, z1, gPick]))
    exact ⟨by first | rfl | simp, s1⟩
  simp only [Bool.or_false, Bool.not_false, Bool.true_and]
  refine qJ ?_; repeat' (first | with_reducible apply qK | ((with_reducible first | apply qI | apply qB) <;> try simp only [qN, qC, qE, qG, qD, qA, qF, seval, qQ, qO, qP, dA, z0, z1, gPick, ld]))
  refine (qN8 N n (r.hs s1 (fun cs x r => RPd.hs s1 n r)) hk).mono ?_
  rintro _ h2 ⟨rfl, s2⟩
  have S2 := s1.trans s2
  cases z2 : decide ((gH n p : Int) > 4096)
  case true =>
    refine qJ ?_; repeat' (first | with_reducible apply qK | ((with_reducible first | apply qI | apply qB | apply qR | apply qM) <;> try simp only [qN, qC, qE, qG, qD, qA, qF, seval, qQ, qO, qP, dA, z2, gPick]))
    exact ⟨by first | rfl | simp, S2⟩
  simp only [Bool.not_false, Bool.true_and]
  have ld2 := yO s2 ld
  refine qJ ?_; repeat' (first | ((with_reducible apply qI) <;> try simp only [qN, qC, qE, qG, qD, qA, qF, seval, qQ, qO, qP, dA, z2, gPick, ld2]))
  refine (c_rmay N size n (r.hs S2 (fun cs x r => RPd.hs S2 n r)) hk).mono ?_
  rintro _ h3 ⟨rfl, s3⟩
  have S3 := S2.trans s3
  cases hm : wY size n p
  case false =>
    refine qJ ?_; repeat' (first | with_reducible apply qK | ((with_reducible first | apply qI | apply qB | apply qR | apply qM) <;> try simp only [qN, qC, qE, qG, qD, qA, qF, seval, qQ, qO, qP, dA, gPick]))
    exact ⟨by first | rfl | simp, S3⟩
  refine qJ ?_; repeat' (first | with_reducible apply qK | ((with_reducible first | apply qI | apply qB | apply qR | apply qT | apply qM) <;> try simp only [qN, qC, qE, qG, qD, qA, qF, seval, qQ, qO, qP, dA, gPick]))
  exact ⟨by first | rfl | simp, S3⟩
theorem uP : type_of% (And.intro zF (And.intro wS (And.intro wR (And.intro xB (And.intro wF rs71))))) := And.intro zF (And.intro wS (And.intro wR (And.intro xB (And.intro wF rs71))))
def uF : Nat → List (Nat × List Nat) × List Nat
  | 7 => ([(0, []), (1, []), (2, []), (3, []), (4, []), (5, []), (6, []), (7, []), (8, []), (9, []), (10, []), (11, []), (14, []), (15, []), (16, []), (17, []), (18, []), (19, []), (12, [1, 3, 5, 17, 19]), (13, [1, 3, 5, 17, 19]), (20, [1, 3, 5]), (21, [1, 3, 5]), (22, []), (23, [])], [0, 1, 0, 4, 0, 16, 0, 0, 0, 256, 768, 1792, 3968, 8128, 0, 0, 0, 65536, 196608, 458752, 1032128, 2097088, 4194303, 8388607])
  | _ => ([], [])
theorem pN : type_of% (And.intro zF (And.intro wS (And.intro wR (And.intro xB (And.intro mP rs26))))) := And.intro zF (And.intro wS (And.intro wR (And.intro xB (And.intro mP rs26))))
section
variable {K : Type} {R : GH → List Value → K → Prop}
theorem zF6 (N : Nat) {size : Int} (hs : size ≤ 32) {h : GH} {cs : List Value} {p : Pn K} (r : RPn R h cs p) (hr : p.right size = true) (k3 : p.kd ≠ 3) :
    GTri Tryz.prog N 71 [.int .i64 size, .agg cs.toArray] h fun v h' => HS h h' ∧ ∃ a c, v = .slice a (jT p).length c ∧ RB h' (.slice a (jT p).length c) (jT p) ∧ SL h' (.slice a (jT p).length c) := by
  obtain ⟨a1, c1, a2, c2, a3, c3, a4, c4, a5, c5, a6, c6, rfl, r1, r2, r3, r4, r5, r6⟩ := r
  unfold jT
  refine zU Tryz.func71 rfl gf71 ok71 (by simp [Tryz.ntmps71]) ?_
  repeat' (first | with_reducible apply qK | ((with_reducible apply qB) <;> try simp only [qN, qC, qE, qG, qD, qA, qF, seval, qQ, qO, qP, qL, qY, qZ, zC, uP, uF]))
  refine wP rfl fun k1 h1 m1 s1 f1 n1 => ?_
  simp only [Pn.cs] at m1
  have e3 : (p.kd == 3) = false := by simp [k3]
  by_cases k1 : p.kd = 1
  · have e1 : (p.kd == 1) = true := by simp [k1]
    have lf := p.right_leaf hr k1
    obtain ⟨w, hw⟩ : ∃ w : Nat, p.si = (w : Int) := ⟨p.si.toNat, by omega⟩
    rw [if_pos k1]
    refine qJ ?_; repeat' (first | (with_reducible first | apply qK | apply qS) | ((with_reducible first | apply qI | apply qB | apply qR) <;> try simp only [qN, qC, qE, qG, qD, qA, qF, seval, qQ, qO, qP, qL, qY, qZ, zC, uP, uF, e1, qH m1 zS, qH m1 zD, hw]))
    refine (zG2 N (w := w) (by omega) (r1.hs s1) (r2.hs s1) (by omega) (by omega)).mono ?_
    rintro _ h5 ⟨s5, a7, c7, rfl, q1, q2⟩
    rw [Int.toNat_natCast]
    refine qJ ?_; repeat' (first | ((with_reducible first | apply qI | apply qM) <;> try simp only [qN, qC, qE, qG, qD, qA, qF, seval, qQ, qO, qP, qL, qY, qZ, zC, uP, uF]))
    exact ⟨s1.trans s5, a7, c7, rfl, q1, q2⟩
  have e1 : (p.kd == 1) = false := by simp [k1]
  rw [if_neg k1]
  by_cases k2 : p.kd = 2
  · have e2 : (p.kd == 2) = true := by simp [k2]
    obtain ⟨fk, fl, fr, _⟩ := p.right_closed hr k2
    have g := p.frk_ok fk
    obtain ⟨w, hw⟩ : ∃ w : Nat, p.nw = (w : Int) := ⟨p.nw.toNat, by omega⟩
    obtain ⟨dp, hdp⟩ : ∃ w : Nat, p.dp = (w : Int) := ⟨p.dp.toNat, by omega⟩
    rw [if_pos k2]
    refine qJ ?_; repeat' (first | (with_reducible first | apply qK | apply qS) | ((with_reducible first | apply qI | apply qB | apply qR) <;> try simp only [qN, qC, qE, qG, qD, qA, qF, seval, qQ, qO, qP, qL, qY, qZ, zC, uP, uF, e1, e2, qH m1 zS, qH m1 zD, hw, hdp]))
    refine (qH6 N (d := dp) (w := w) (by omega) (by omega) (r3.hs s1) (r4.hs s1) (r5.hs s1) (by omega) (by omega) (by omega)).mono ?_
    rintro _ h5 ⟨s5, a7, c7, rfl, q1, q2⟩
    rw [Int.toNat_natCast, Int.toNat_natCast]
    refine qJ ?_; repeat' (first | ((with_reducible first | apply qI | apply qM) <;> try simp only [qN, qC, qE, qG, qD, qA, qF, seval, qQ, qO, qP, qL, qY, qZ, zC, uP, uF]))
    exact ⟨s1.trans s5, a7, c7, rfl, q1, q2⟩
  have e2 : (p.kd == 2) = false := by simp [k2]
  rw [if_neg k2]
  refine qJ ?_; repeat' (first | (with_reducible first | apply qK | apply qS) | ((with_reducible first | apply qI | apply qB | apply qR | apply qT) <;> try simp only [qN, qC, qE, qG, qD, qA, qF, seval, qQ, qO, qP, qL, qY, qZ, zC, uP, uF, e1, e2, e3, qH m1 zS]))
  refine (qY9 N h1).mono ?_
  rintro _ h5 ⟨s5, a7, c7, rfl, q1, q2⟩
  refine qJ ?_; repeat' (first | ((with_reducible first | apply qI | apply qM) <;> try simp only [qN, qC, qE, qG, qD, qA, qF, seval, qQ, qO, qP, qL, qY, qZ, zC, uP, uF]))
  exact ⟨s1.trans s5, a7, c7, rfl, q1, q2⟩
end
theorem c_rstext (N : Nat) {size : Int} (hs : size ≤ 32) : ∀ (n : Nat) {h : GH} {cs : List Value} {p : Pn (Pd n)} (r : RPn (RPd n) h cs p) (hm : wY size n p = true) (hk : Pn.bulk (Pd.bulk n) p ≤ 100000000),
    GTri Tryz.prog N 71 [.int .i64 size, .agg cs.toArray] h fun v h' => HS h h' ∧ ∃ a c, v = .slice a (kN size n p).length c ∧ RB h' (.slice a (kN size n p).length c) (kN size n p) ∧ SL h' (.slice a (kN size n p).length c) := by
  intro n
  induction n with
  | zero =>
    intro h cs p r hm hk
    have hr := gB hm
    have k3 : p.kd ≠ 3 := fun q => by
      obtain ⟨a, b, e⟩ := tP hr q
      exact nomatch (show Empty from a)
    rw [lI k3]
    exact zF6 N hs r hr k3
  | succ n ih =>
    intro h cs p r hm hk
    have hr := gB hm
    by_cases k3 : p.kd = 3
    case neg =>
      rw [lI k3]
      exact zF6 N hs r hr k3
    have hbp := Pn.bulk_parts p
    obtain ⟨a1, c1, a2, c2, a3, c3, a4, c4, a5, c5, a6, c6, rfl, r1, r2, r3, r4, r5, r6⟩ := r
    obtain ⟨a, b, hkids, _, ma, _, mb, _⟩ := lT hm k3
    have fk : p.frk = true := by rcases p.kinds hr with q | q | q <;> first | omega | exact q.2
    have fk := p.frk_ok fk
    obtain ⟨dp, hdp⟩ : ∃ w : Nat, p.dp = (w : Int) := ⟨p.dp.toNat, by omega⟩
    obtain ⟨nw, hnw⟩ : ∃ w : Nat, p.nw = (w : Int) := ⟨p.nw.toNat, by omega⟩
    have e1 : (p.kd == 1) = false := by simp [k3]
    have e2 : (p.kd == 2) = false := by simp [k3]
    have e3 : (p.kd == 3) = true := by simp [k3]
    have hab := Pn.kids_bulk (p := p) (x := a) (by rw [hkids]; exact List.mem_cons_self ..)
    have hbb := Pn.kids_bulk (p := p) (x := b) (by rw [hkids]; exact List.mem_cons_of_mem _ (List.mem_cons_self ..))
    have at0 : ∀ (i : Nat) (y : Pn (Pd n)), p.kids[i]? = some y → ∃ ad cs5, zJ Tryz.prog 24 (.slice a6 p.kids.length c6) (i : Int) = some (.pointer (some ad)) ∧ (∀ {h4 : GH}, HS h h4 → wZ Tryz.prog 26 h4 (.pointer (some ad)) = some (.agg cs5.toArray)) ∧ RPn (RPd n) h cs5 y := fun i y hy => by
      obtain ⟨ad, cs5, g1, g2, e⟩ := RL.at (P := Tryz.prog) r6 Tryz.underlying24 xX hy
      exact ⟨ad, cs5, g1, fun s4 => yO s4 (gK xX g2), e⟩
    obtain ⟨ad, ca, g1, g2, ya⟩ := at0 0 a (by rw [hkids]; rfl)
    obtain ⟨ad', cb, g3, g4, yb⟩ := at0 1 b (by rw [hkids]; rfl)
    have g1' : zJ Tryz.prog 24 (.slice a6 p.kids.length c6) 0 = some (.pointer (some ad)) := g1
    have g3' : zJ Tryz.prog 24 (.slice a6 p.kids.length c6) 1 = some (.pointer (some ad')) := g3
    have ra : ∀ {h4 : GH}, HS h h4 → RPn (RPd n) h4 ca a := fun s => ya.hs s (fun cs x r => RPd.hs s n r)
    have rb : ∀ {h4 : GH}, HS h h4 → RPn (RPd n) h4 cb b := fun s => yb.hs s (fun cs x r => RPd.hs s n r)
    have la := sD size (kN size n a)
    have lb := sD size (kN size n b)
    have ta := lJ hs ma
    have tb := lJ hs mb
    rw [qK1 (n := n + 1) (a := a) (b := b) k3 ⟨rfl, hkids⟩, hdp, hnw, Int.toNat_natCast, Int.toNat_natCast]
    refine zU Tryz.func71 rfl gf71 ok71 (by simp [Tryz.ntmps71]) ?_
    repeat' (first | with_reducible apply qK | ((with_reducible apply qB) <;> try simp only [qN, qC, qE, qG, qD, qA, qF, seval, qQ, qO, qP, qL, qY, qZ, zC, uP, uF]))
    refine wP rfl fun k1 h1 m1 s1 f1 n1 => ?_
    simp only [Pn.cs] at m1
    refine qJ ?_; repeat' (first | (with_reducible first | apply qK | apply qS) | ((first | (with_reducible first | apply qI | apply qB | apply qR) | with_reducible refine zE uF xC (by kernel_rfl) ?_) <;> try simp only [qN, qC, qE, qG, qD, qA, qF, seval, qQ, qO, qP, qL, qY, qZ, zC, uP, uF, e1, e2, e3, g1', g2 s1, g3', g4 s1, hdp, hnw, qH m1 zS, qH m1 zD, qH m1 wO]))
    refine (ih (ra s1) ma (by omega)).mono ?_
    rintro _ h2 ⟨s2, a7, c7, rfl, q7, _⟩
    have S2 := s1.trans s2
    have m2 := s2 _ _ m1
    refine qJ ?_; repeat' (first | ((with_reducible apply qI) <;> try simp only [qN, qC, qE, qG, qD, qA, qF, seval, qQ, qO, qP, qL, qY, qZ, zC, uP, uF, g1', g2 S2, g3', g4 S2, hdp, hnw, qH m2 zS, qH m2 zD, qH m2 wO]))
    refine (zL3 N q7 (by omega) size).mono ?_
    rintro _ h3 ⟨s3, a8, c8, rfl, q8⟩
    have S3 := S2.trans s3
    have m3 := s3 _ _ m2
    refine qJ ?_; repeat' (first | ((with_reducible apply qI) <;> try simp only [qN, qC, qE, qG, qD, qA, qF, seval, qQ, qO, qP, qL, qY, qZ, zC, uP, uF, g1', g2 S3, g3', g4 S3, hdp, hnw, qH m3 zS, qH m3 zD, qH m3 wO]))
    refine (ih (rb S3) mb (by omega)).mono ?_
    rintro _ h4 ⟨s4, a9, c9, rfl, q9, _⟩
    have S4 := S3.trans s4
    have m4 := s4 _ _ m3
    refine qJ ?_; repeat' (first | ((with_reducible apply qI) <;> try simp only [qN, qC, qE, qG, qD, qA, qF, seval, qQ, qO, qP, qL, qY, qZ, zC, uP, uF, g1', g2 S4, g3', g4 S4, hdp, hnw, qH m4 zS, qH m4 zD, qH m4 wO]))
    refine (zL3 N q9 (by omega) size).mono ?_
    rintro _ h5 ⟨s5, a10, c10, rfl, q10⟩
    have S5 := S4.trans s5
    have m5 := s5 _ _ m4
    refine qJ ?_; repeat' (first | ((with_reducible apply qI) <;> try simp only [qN, qC, qE, qG, qD, qA, qF, seval, qQ, qO, qP, qL, qY, qZ, zC, uP, uF, g1', g2 S5, g3', g4 S5, hdp, hnw, qH m5 zS, qH m5 zD, qH m5 wO]))
    refine (qH6 N (d := dp) (w := nw) (by omega) (by omega) (r3.hs S5) ((q8.hs s4).hs s5) q10 (by omega) (by omega) (by omega)).mono ?_
    rintro _ h6 ⟨s6, a11, c11, rfl, q11, sl11⟩
    refine qJ ?_; repeat' (first | ((with_reducible first | apply qI | apply qM) <;> try simp only [qN, qC, qE, qG, qD, qA, qF, seval, qQ, qO, qP, qL, qY, qZ, zC, uP, uF]))
    exact ⟨S5.trans s6, a11, c11, rfl, q11, sl11⟩
theorem c_rSText (N : Nat) (size : Int) (n : Nat) {h : GH} {cs : List Value} {p : Pn (Pd n)} (r : RPn (RPd n) h cs p) (hk : Pn.bulk (Pd.bulk n) p ≤ 100000000) :
    GTri Tryz.prog N 26 [.int .i64 size, .agg cs.toArray] h fun v h' => HS h h' ∧ ∃ a c, v = .slice a (qQ0 size n p).length c ∧ RB h' (.slice a (qQ0 size n p).length c) (qQ0 size n p) ∧ SL h' (.slice a (qQ0 size n p).length c) ∧ a.isNone = !qF3 size n p := by
  have hcs := r.len
  unfold qQ0
  refine zU Tryz.func26 rfl gf26 ok26 (by simp [Tryz.ntmps26]) ?_
  repeat' (first | with_reducible apply qK | ((with_reducible apply qB) <;> try simp only [qN, qC, qE, qG, qD, qA, qF, seval, qQ, qO, qP, pN]))
  refine wP hcs.2.1 fun k1 h1 m1 s1 f1 n1 => ?_
  have ld := zI (P := Tryz.prog) (t := 26) m1 xX hcs.1
  refine qJ ?_; repeat' (first | with_reducible apply qK | ((with_reducible first | apply qI | apply qB) <;> try simp only [qN, qC, qE, qG, qD, qA, qF, seval, qQ, qO, qP, pN, ld]))
  refine (qT8 N size n (r.hs s1 (fun cs x r => RPd.hs s1 n r)) hk).mono ?_
  rintro _ h2 ⟨rfl, s2⟩
  have S2 := s1.trans s2
  cases hck : qF3 size n p
  case false =>
    rw [if_neg (by decide)]
    refine qJ ?_; repeat' (first | with_reducible apply qK | ((with_reducible first | apply qI | apply qB | apply qR | apply qM) <;> try simp only [qN, qC, qE, qG, qD, qA, qF, seval, qQ, qO, qP, pN, cond]))
    exact ⟨S2, none, 0, rfl, RB.nil _, SL.nil _ _ _, rfl⟩
  rw [if_pos rfl]
  obtain ⟨hs1, hs2, hm⟩ := qY8 hck
  have ld2 := yO s2 ld
  refine qJ ?_; repeat' (first | with_reducible apply qK | ((with_reducible first | apply qI | apply qB | apply qR | apply qT) <;> try simp only [qN, qC, qE, qG, qD, qA, qF, seval, qQ, qO, qP, pN, cond, ld2]))
  refine (c_rstext N hs2 n (r.hs S2 (fun cs x r => RPd.hs S2 n r)) hm hk).mono ?_
  rintro _ h3 ⟨s3, a3, c3, rfl, q1, q2⟩
  refine qJ ?_; repeat' (first | ((with_reducible first | apply qI | apply qM) <;> try simp only [qN, qC, qE, qG, qD, qA, qF, seval, qQ, qO, qP, pN]))
  refine ⟨S2.trans s3, a3, c3, rfl, q1, q2, ?_⟩
  cases ha : a3.isNone
  · rfl
  · exact absurd (q1.isnil ha) (lJ hs2 hm).2
theorem qS5 : type_of% (And.intro zF (And.intro mT (And.intro xB (And.intro uI (And.intro wF rs118))))) := And.intro zF (And.intro mT (And.intro xB (And.intro uI (And.intro wF rs118))))
theorem pV : type_of% (And.intro zF (And.intro mT (And.intro xB (And.intro uI (And.intro wF (And.intro zA1 rs117)))))) := And.intro zF (And.intro mT (And.intro xB (And.intro uI (And.intro wF (And.intro zA1 rs117)))))
def fA : Nat → List (Nat × List Nat) × List Nat
  | 1 => ([(0, []), (1, []), (2, []), (3, []), (4, []), (5, []), (6, []), (7, []), (8, []), (9, []), (10, []), (11, []), (12, []), (13, []), (16, []), (17, []), (18, []), (19, []), (20, []), (14, [19, 20]), (15, []), (21, []), (22, []), (23, []), (24, [])], [0, 0, 2, 6, 14, 31, 63, 127, 255, 511, 1023, 2047, 4095, 8191, 16383, 32767, 8191, 73727, 204799, 466943, 991231, 2097151, 4194303, 8388607, 16777215])
  | _ => ([], [])
structure QR (hb h : GH) (k : Nat) (q : Pq) (ar : Option Addr) (cr : Nat) (c : Nat) : Prop where
  obj : h k = some ⟨[.int .i64 q.fr, .bool q.sm, .slice ar q.row.length cr, .int .i64 q.lim, .int .i64 (c : Int)], 0, true, false⟩
  nk : hb k = none
  row : RB hb (.slice ar q.row.length cr) q.row
  hs : HS hb h
section
variable {hb h h' : GH} {k : Nat} {q : Pq} {ar : Option Addr} {cr c : Nat}
theorem QR.keep (x : QR hb h k q ar cr c) (y : HS h h') : QR hb h' k q ar cr c := ⟨y _ _ x.obj, x.nk, x.row, x.hs.trans y⟩
theorem QR.upd (x : QR hb h k q ar cr c) {j : Nat} (hn : k ≠ j) (hbj : hb j = none) (f : ∀ i, i ≠ j → h' i = h i) : QR hb h' k q ar cr c :=
  ⟨by rw [f k hn]; exact x.obj, x.nk, x.row, x.hs.upd hbj f⟩
theorem cmp_less (l m : List UInt8) : (!(Op.bytesLess l m || l == m)) = decide (Lib.compareBytes l m > 0) := by
  have hf := qR6 l m
  rw [qB0, hf]
  by_cases h1 : Op.bytesLess l m = true
  · rw [if_pos h1]
    rw [h1, Bool.true_or, Bool.not_true] at hf
    rw [← hf]; rfl
  · rw [if_neg h1]
    by_cases h2 : Op.bytesLess m l = true
    · rw [if_pos h2, h2]; rfl
    · rw [if_neg h2, show Op.bytesLess m l = false by simpa using h2]; rfl
theorem c_rahead (N : Nat) (x : QR hb h k q ar cr c) {a : Option Addr} {ca : Nat} {pf : List UInt8} (r : RB h (.slice a pf.length ca) pf) (hl : pf.length ≤ 100000000) (hq : q.row.length ≤ 100000000) (dp : Int) : GTri Tryz.prog N 118 [.pointer (some ⟨k, 0, none⟩), .slice a pf.length ca, .int .i64 dp] h fun u h' => u = .bool (q.sm && decide (pH pf dp q.row < 0)) ∧ h' = h := by
  have mq := x.obj
  have rq := x.row.hs x.hs
  refine zU Tryz.func118 rfl gf118 ok118 (by simp [Tryz.ntmps118]) ?_
  cases z1 : q.sm
  case false =>
    rw [z1] at mq
    repeat' (first | with_reducible apply qK | ((with_reducible first | apply qB | apply qM) <;> try simp only [qN, qC, qE, qG, qD, qA, qF, seval, qQ, qO, qP, qS5, qH mq gV, qH mq zD, gPick]))
    all_goals simp only [Bool.false_and]
  rw [z1] at mq
  repeat' (first | with_reducible apply qK | ((first | (with_reducible first | apply qB | apply qM) | ((refine GTri.mono (c_rSide _ _ r rq (by omega) (by omega) _) ?_); rintro _ _ ⟨rfl, hh9⟩; replace hh9 := hh9.symm; subst hh9)) <;> try simp only [qN, qC, qE, qG, qD, qA, qF, seval, qQ, qO, qP, qS5, qH mq gV, qH mq zD, gPick]))
  all_goals simp only [Bool.true_and]
theorem c_rhas (N : Nat) (x : QR hb h k q ar cr c) {a : Option Addr} {ca : Nat} {id : List UInt8} (r : RB h (.slice a id.length ca) id) (si : Int) : GTri Tryz.prog N 117 [.pointer (some ⟨k, 0, none⟩), .slice a id.length ca, .int .i64 si] h fun u h' => u = .bool (q.has id si) ∧ HS h h' := by
  have mq := x.obj
  unfold Pq.has
  refine zU Tryz.func117 rfl gf117 ok117 (by simp [Tryz.ntmps117]) ?_
  cases z0 : decide (si > q.fr)
  case false =>
    refine qJ ?_; repeat' (first | with_reducible apply qK | ((first | (with_reducible first | apply qI | apply qB | apply qM) | with_reducible refine zE fA xC (by kernel_rfl) ?_) <;> try simp only [qN, qC, qE, qG, qD, qA, qF, seval, qQ, qO, qP, qL, qY, qZ, zC, pV, fA, z0, qH mq zS, qH mq gV, qH mq zD, gPick]))
    first | exact HS.refl _ | exact ⟨by simp, HS.refl _⟩
  cases z1 : q.sm
  case false =>
    rw [z1] at mq
    refine qJ ?_; repeat' (first | with_reducible apply qK | ((first | (with_reducible first | apply qI | apply qB | apply qM) | with_reducible refine zE fA xC (by kernel_rfl) ?_) <;> try simp only [qN, qC, qE, qG, qD, qA, qF, seval, qQ, qO, qP, qL, qY, qZ, zC, pV, fA, z0, qH mq zS, qH mq gV, qH mq zD, gPick, Bool.not_false]))
    first | exact HS.refl _ | exact ⟨by simp, HS.refl _⟩
  rw [z1] at mq
  have rq := x.row.hs x.hs
  refine qJ ?_; repeat' (first | with_reducible apply qK | ((first | (with_reducible first | apply qI | apply qB) | with_reducible refine zE fA xC (by kernel_rfl) ?_) <;> try simp only [qN, qC, qE, qG, qD, qA, qF, seval, qQ, qO, qP, qL, qY, qZ, zC, pV, fA, z0, qH mq zS, qH mq gV, qH mq zD, gPick, Bool.not_true, rq.conv Tryz.underlying22 Tryz.underlying5 Tryz.underlying9]))
  refine (pR N h r rfl).mono ?_
  rintro _ h2 ⟨s2, a7, c7, rfl, r7, _⟩
  have mq2 := s2 _ _ mq
  have rq2 := rq.hs s2
  have v1 := r7.conv Tryz.underlying22 Tryz.underlying5 Tryz.underlying9
  have v2 := rq2.conv Tryz.underlying22 Tryz.underlying5 Tryz.underlying9
  refine qJ ?_; repeat' (first | ((with_reducible first | apply qI | apply qM) <;> try simp only [qN, qC, qE, qG, qD, qA, qF, seval, qQ, qO, qP, qL, qY, qZ, zC, pV, fA, v1, v2, qH mq2 zS, qH mq2 gV, qH mq2 zD, gPick]))
  refine ⟨?_, s2⟩
  rw [qU2, qU2, cmp_less]
end
theorem xV : type_of% (And.intro zF (And.intro wS (And.intro mT (And.intro yJ (And.intro wR (And.intro vU (And.intro qQ7 (And.intro xB (And.intro uI (And.intro kC (And.intro wF rs69))))))))))) := And.intro zF (And.intro wS (And.intro mT (And.intro yJ (And.intro wR (And.intro vU (And.intro qQ7 (And.intro xB (And.intro uI (And.intro kC (And.intro wF rs69))))))))))
def xI : Nat → List (Nat × List Nat) × List Nat
  | 9 => ([(0, []), (1, []), (2, []), (3, []), (4, []), (5, []), (6, []), (7, []), (8, []), (9, []), (10, []), (11, []), (12, []), (13, []), (14, []), (15, []), (16, []), (17, []), (18, []), (19, []), (20, []), (21, []), (22, []), (23, []), (24, []), (25, [])], [0, 1, 0, 4, 12, 28, 63, 127, 255, 255, 767, 255, 2303, 8191, 16383, 32767, 65535, 131071, 262143, 524287, 65535, 1114111, 3211263, 7405567, 16777215, 33554431])
  | 10 => ([(0, []), (1, []), (2, []), (4, []), (5, []), (6, []), (3, [6]), (8, []), (7, []), (9, []), (10, []), (11, [])], [0, 0, 2, 7, 0, 0, 32, 127, 15, 511, 1023, 2047])
  | 14 => ([(0, []), (1, []), (2, []), (3, []), (4, []), (5, [0]), (6, []), (7, []), (8, [])], [0, 0, 0, 0, 8, 30, 63, 127, 255])
  | _ => ([], [])
theorem qV7 {M : List Nd} {q : Pq} (ti : TI M) : ∀ (n i c : Nat) (nd : Nd), M[i]? = some nd → i ≤ n → (jO M q n i c).2 ≤ c + (qI3 M n i).length
  | 0, i, c, nd, hi, hn => by
    simp only [jO, qI3, List.length_singleton]
    split
    · unfold zF4
      split <;> omega
    · omega
  | n + 1, i, c, nd, hi, hn => by
    cases hl : nd.lf
    case true =>
      rw [tL hi hl, lU hi hl]
      simp only [List.length_singleton]
      unfold zF4
      split <;> omega
    have fi := ti.fork i nd hi hl
    have fl := fi.l
    have frr := fi.r
    obtain ⟨yl, hyl, _⟩ := fi.kl
    obtain ⟨yr, hyr, _⟩ := fi.kr
    cases hc : qF2 q nd c
    case true =>
      rw [tM hi hl hc]
      simp only; omega
    rw [dS hi hl hc, pG hi hl, List.length_append]
    have h1 := qV7 (q := q) ti n nd.l c yl hyl (by omega)
    have h2 := qV7 (q := q) ti n nd.r (jO M q n nd.l c).2 yr hyr (by omega)
    simp only
    omega
def PrR (M : List Nd) (q : Pq) (n i c : Nat) (hb h : GH) (kq : Nat) (ar : Option Addr) (cr : Nat) (u : Value) (h' : GH) : Prop :=
  FR 3 kq h h' ∧ QR hb h' kq q ar cr (jO M q n i c).2 ∧ ∃ cs, u = .agg cs.toArray ∧ SPn n h' cs (jO M q n i c).1
theorem qT6 (N : Nat) {q : Pq} (hq : q.row.length ≤ 100000000) {M : List Nd} (ti : TI M) (n : Nat)
    (IH : ∀ m, n = m + 1 → ∀ {hb h ha : GH} {kq ka : Nat} {ar : Option Addr} {cr : Nat} {va : Value} {ca : List Value} {c : Nat} (x : QR hb h kq q ar cr c) (A : AB ha h ka va ca M) (hne : ka ≠ kq) {i : Nat} {nd : Nd} (hi : M[i]? = some nd) (hn : i ≤ m) (hs : c + (qI3 M m i).length ≤ 2000000),
      GTri Tryz.prog N 69 [.pointer (some ⟨kq, 0, none⟩), .pointer (some ⟨ka, 0, none⟩), .int .i64 (i : Int)] h (PrR M q m i c hb h kq ar cr))
    {hb h ha : GH} {kq ka : Nat} {ar : Option Addr} {cr : Nat} {va : Value} {ca : List Value} {c : Nat} (x : QR hb h kq q ar cr c) (A : AB ha h ka va ca M) (hne : ka ≠ kq) {i : Nat} {nd : Nd} (hi : M[i]? = some nd) (hn : i ≤ n) (hs : c + (qI3 M n i).length ≤ 2000000) :
    GTri Tryz.prog N 69 [.pointer (some ⟨kq, 0, none⟩), .pointer (some ⟨ka, 0, none⟩), .int .i64 (i : Int)] h (PrR M q n i c hb h kq ar cr) := by
  have okn := A.arr.ok.ok i nd hi
  have hpf := okn.pf
  refine zU Tryz.func69 rfl gf69 ok69 (by simp [Tryz.ntmps69]) ?_
  repeat' (first | with_reducible apply qK | ((with_reducible apply qB) <;> try simp only [qN, qC, qE, qG, qD, qA, qF, seval, qQ, qO, qP, qL, qY, qZ, zC, xV, xI]))
  refine xE fun k6 h1 m1 s1 f1 n1 => ?_
  refine qJ ?_; repeat' (first | with_reducible apply qK | ((with_reducible first | apply qI | apply qB) <;> try simp only [qN, qC, qE, qG, qD, qA, qF, seval, qQ, qO, qP, qL, qY, qZ, zC, xV, xI]))
  refine (qB4 N (A.hs s1) hi).mono ?_
  rintro _ h2 ⟨s2, cn, rfl, r2⟩
  have S2 := s1.trans s2
  obtain ⟨a1, c1, a2, c2, a3, c3, a4, c4, rfl, r21, r22, r23, r24⟩ := r2
  refine qJ ?_; repeat' (first | ((with_reducible apply qI) <;> try simp only [qN, qC, qE, qG, qD, qA, qF, seval, qQ, qO, qP, qL, qY, qZ, zC, xV, xI]))
  refine xE fun k7 h3 m3 s3 f3 n3 => ?_
  refine qJ ?_; repeat' (first | ((with_reducible apply qI) <;> try simp only [qN, qC, qE, qG, qD, qA, qF, seval, qQ, qO, qP, qL, qY, qZ, zC, xV, xI]))
  refine xY m3 wE rfl (by decide) rfl rfl rfl fun h4 m4 f4 => ?_
  have s24 := s3.upd n3 f4
  have S4 := S2.trans s24
  simp only [Nd.cs] at m4
  have x4 := x.keep S4
  have A4 := A.hs S4
  have m14 := s24 _ _ (s2 _ _ m1)
  have k6q : k6 ≠ kq := fun e => by rw [e, x.obj] at n1; cases n1
  have k7q : k7 ≠ kq := fun e => by rw [e] at n3; rw [S2 _ _ x.obj] at n3; cases n3
  have b6 : hb k6 = none := x.hs.none_of n1
  have z1 := r21.hs s24
  have z2 := r22.hs s24
  have z3 := r23.hs s24
  cases hlf : nd.lf
  case true =>
    rw [hlf] at m4
    rw [lU hi hlf] at hs
    simp only [List.length_singleton] at hs
    refine qJ ?_; repeat' (first | (with_reducible first | apply qK | apply qS) | ((with_reducible first | apply qI | apply qB | apply qR) <;> try simp only [qN, qC, qE, qG, qD, qA, qF, seval, qQ, qO, qP, qL, qY, qZ, zC, xV, xI, qH m4 gV, qH m4 zD, qH m4 zS, Bool.not_true]))
    refine (c_rhas N x4 z1 nd.si).mono ?_
    rintro _ h5 ⟨rfl, s5⟩
    have S5 := S4.trans s5
    have x5 := x.keep S5
    have mq5 := x5.obj
    have m5 := s5 _ _ m4
    have m15 := s5 _ _ m14
    have eend : (lE M nd : Pn (Pd n)) = ⟨1, nd.si, 0, 0, nd.id, nd.ky, [], [], [], []⟩ := by unfold lE; rw [if_pos hlf]
    unfold PrR
    rw [tL hi hlf]
    unfold zF4
    simp only
    rw [eend]
    cases hh : q.has nd.id nd.si
    case false =>
      rw [if_neg (by decide)]
      refine qJ ?_; repeat' (first | with_reducible apply qK | ((with_reducible first | apply qI | apply qB | apply qR | apply qT) <;> try simp only [qN, qC, qE, qG, qD, qA, qF, seval, qQ, qO, qP, qL, qY, qZ, zC, xV, xI, qH m5 zD, qH m5 zS, xP, xZ, vY, Shape.pl, List.all_cons, List.all_nil, zK]))
      refine wL m15 xX rfl (by decide) rfl rfl rfl fun h6 m6 f6 => ?_
      simp only [vcells] at m6
      have ld := zI (P := Tryz.prog) (t := 26) m6 xX rfl
      refine qJ ?_; repeat' (first | ((with_reducible first | apply qI | apply qM) <;> try simp only [qN, qC, qE, qG, qD, qA, qF, seval, qQ, qO, qP, qL, qY, qZ, zC, xV, xI, uW, ld]))
      have F6 : FR 3 kq h h6 := (FR.of (e := 3) (k := kq) S5).upd n1 f6
      exact ⟨F6, x5.upd k6q.symm b6 f6, _, rfl, SPn.none ⟨a1, c1, a2, c2, none, 0, none, 0, none, 0, none, 0, rfl, (z1.hs s5).hx m15 rfl (zH f6), (z2.hs s5).hx m15 rfl (zH f6), RB.nil _, RB.nil _, RB.nil _, RL.nil _⟩ rfl⟩
    rw [if_pos rfl]
    have w1 : IntKind.i64.wrap ((c : Int) + 1) = ((c + 1 : Nat) : Int) := by rw [wrap64 (by omega) (by omega)]; omega
    refine qJ ?_; repeat' (first | ((with_reducible first | apply qI | apply qB | apply qR) <;> try simp only [qN, qC, qE, qG, qD, qA, qF, seval, qQ, qO, qP, qL, qY, qZ, zC, xV, xI, w1, qH mq5 zS]))
    refine zW mq5 zS rfl (by simp) rfl rfl fun h6 m6 f6 => ?_
    simp only [List.set_cons_zero, List.set_cons_succ] at m6
    have m56 := (f6 k7 k7q).trans m5
    have m16 := (f6 k6 k6q).trans m15
    have x6 : QR hb h6 kq q ar cr (c + 1) := ⟨m6, x.nk, x.row, x5.hs.upd x.nk f6⟩
    refine qJ ?_; repeat' (first | with_reducible apply qK | ((with_reducible first | apply qI | apply qB) <;> try simp only [qN, qC, qE, qG, qD, qA, qF, seval, qQ, qO, qP, qL, qY, qZ, zC, xV, xI, qH m56 zD, qH m56 zS, xP, xZ, vY, Shape.pl, List.all_cons, List.all_nil, zK]))
    refine wL m16 xX rfl (by decide) rfl rfl rfl fun h7 m7 f7 => ?_
    simp only [vcells] at m7
    have ld := zI (P := Tryz.prog) (t := 26) m7 xX rfl
    refine qJ ?_; repeat' (first | ((with_reducible first | apply qI | apply qM) <;> try simp only [qN, qC, qE, qG, qD, qA, qF, seval, qQ, qO, qP, qL, qY, qZ, zC, xV, xI, uW, ld]))
    have huk : ∀ B', h kq = some B' → B'.cells.all vO = true := fun B' m => by rw [x.obj] at m; cases m; rfl
    have F7 : FR 3 kq h h7 := ((FR.of (e := 3) (k := kq) S5).at mq5 rfl f6 huk).upd n1 f7
    have zc : ∀ {v l}, RB h5 v l → RB h7 v l := fun r => (r.hx mq5 rfl (zH f6)).hx m16 rfl (zH f7)
    exact ⟨F7, x6.upd k6q.symm b6 f7, _, rfl, SPn.none ⟨a1, c1, a2, c2, none, 0, none, 0, none, 0, none, 0, rfl, zc (z1.hs s5), zc (z2.hs s5), RB.nil _, RB.nil _, RB.nil _, RL.nil _⟩ rfl⟩
  obtain ⟨m, rfl⟩ : ∃ m, n = m + 1 := ⟨n - 1, by have := (ti.fork i nd hi hlf).l; omega⟩
  have ih := @IH m rfl
  have fi := ti.fork i nd hi hlf
  have fl := fi.l
  have frr := fi.r
  obtain ⟨yl, hyl, _⟩ := fi.kl
  obtain ⟨yr, hyr, _⟩ := fi.kr
  have eend : (lE M nd : Pn (Pd (m + 1))) = ⟨2, 0, nd.dp, nd.nw, [], [], nd.pf, yl.hs, yr.hs, []⟩ := by unfold lE; rw [hlf, wT hyl, wT hyr]; rfl
  rw [hlf] at m4
  refine qJ ?_; repeat' (first | (with_reducible first | apply qK | apply qS) | ((with_reducible first | apply qI | apply qB | apply qR | apply qT) <;> try simp only [qN, qC, qE, qG, qD, qA, qF, seval, qQ, qO, qP, qL, qY, qZ, zC, xV, xI, qH m4 gV, qH m4 zD, qH m4 zS, Bool.not_true, xP, xZ, vY, Shape.pl, List.all_cons, List.all_nil, zK]))
  refine xE fun k9 h6 m6 s6 f6 n6 => ?_
  refine qJ ?_; repeat' (first | ((with_reducible apply qI) <;> try simp only [qN, qC, qE, qG, qD, qA, qF, seval, qQ, qO, qP, qL, qY, qZ, zC, xV, xI]))
  refine wL m6 xX rfl (by decide) rfl rfl rfl fun h7 m7 f7 => ?_
  simp only [vcells] at m7
  have s47 := s6.upd n6 f7
  have S7 := S4.trans s47
  have n9h : h k9 = none := S4.none_of n6
  have k9q : k9 ≠ kq := fun e => by rw [e, x.obj] at n9h; cases n9h
  have k69 : k6 ≠ k9 := yA m14 n6
  have k79 : k7 ≠ k9 := yA m4 n6
  have b9 : hb k9 = none := x.hs.none_of n9h
  have x7 := x.keep S7
  have mq7 := x7.obj
  have m77 := s47 _ _ m4
  have m17 := s47 _ _ m14
  have A7 := A.hs S7
  have z37 := z3.hs s47
  refine qJ ?_; iterate 1 (first | ((with_reducible apply qI) <;> try simp only [qN, qC, qE, qG, qD, qA, qF, seval, qQ, qO, qP, qL, qY, qZ, zC, xV, xI]))
  first | (refine qK ?_; refine qK ?_) | refine qK ?_
  refine GW.mono (Q := fun z e' h' => z = .normal ∧ h7 = h' ∧ lk e' 0 = .pointer (some ⟨kq, 0, none⟩) ∧ lk e' 1 = .pointer (some ⟨ka, 0, none⟩) ∧ lk e' 6 = .pointer (some ⟨k6, 0, none⟩) ∧ lk e' 7 = .pointer (some ⟨k7, 0, none⟩) ∧ lk e' 9 = .pointer (some ⟨k9, 0, none⟩) ∧ lk e' 76 = .bool (qF2 q nd c)) ?_ ?_
  · unfold qF2
    have ca := c_rahead N x7 z37 (by omega) hq (nd.dp : Int)
    cases w0 : decide ((nd.nw : Int) ≤ q.fr)
    case true =>
      refine qJ ?_; repeat' (first | ((first | (with_reducible apply qI) | with_reducible refine zE xI xC (by kernel_rfl) ?_) <;> try simp only [qN, qC, qE, qG, qD, qA, qF, seval, qQ, qO, qP, qL, qY, qZ, zC, xV, xI, w0, qH m77 zS, qH m77 zD, qH mq7 zS, gPick]))
      all_goals simp only [Bool.true_or]
    cases w1 : (q.sm && decide (pH nd.pf (nd.dp : Int) q.row < 0))
    case true =>
      refine qJ ?_; repeat' (first | ((first | (with_reducible apply qI) | with_reducible refine zE xI xC (by kernel_rfl) ?_ | ((refine GTri.mono (ca) ?_); rintro _ _ ⟨rfl, hh9⟩; replace hh9 := hh9.symm; subst hh9)) <;> try simp only [qN, qC, qE, qG, qD, qA, qF, seval, qQ, qO, qP, qL, qY, qZ, zC, xV, xI, w0, w1, qH m77 zS, qH m77 zD, qH mq7 zS, gPick]))
      all_goals simp only [Bool.false_or, Bool.true_or]
    refine qJ ?_; repeat' (first | ((first | (with_reducible apply qI) | with_reducible refine zE xI xC (by kernel_rfl) ?_ | ((refine GTri.mono (ca) ?_); rintro _ _ ⟨rfl, hh9⟩; replace hh9 := hh9.symm; subst hh9)) <;> try simp only [qN, qC, qE, qG, qD, qA, qF, seval, qQ, qO, qP, qL, qY, qZ, zC, xV, xI, w0, w1, qH m77 zS, qH m77 zD, qH mq7 zS, gPick]))
    all_goals simp only [Bool.false_or]
  rintro _ e' _ ⟨rfl, rfl, q0, q1, q6, q7, q9, q76⟩
  rw [jV]
  refine dH [(0, .pointer (some ⟨kq, 0, none⟩)), (1, .pointer (some ⟨ka, 0, none⟩)), (6, .pointer (some ⟨k6, 0, none⟩)), (7, .pointer (some ⟨k7, 0, none⟩)), (9, .pointer (some ⟨k9, 0, none⟩)), (76, .bool (qF2 q nd c))] (by simp [q0, q1, q6, q7, q9, q76]) ?_
  clear q0 q1 q6 q7 q9 q76
  cases hcut : qF2 q nd c
  case true =>
    refine qJ ?_; repeat' (first | with_reducible apply qK | ((first | (with_reducible first | apply qI | apply qR) | with_reducible refine zE xI xC (by kernel_rfl) ?_) <;> try simp only [qN, qC, qE, qG, qD, qA, qF, seval, qQ, qO, qP, qL, qY, qZ, zC, xV, xI, qH m77 zS]))
    refine (zG5 N A7 hyl).mono ?_
    rintro _ h9 ⟨s9, al, cl, rfl, rl⟩
    have m79 := s9 _ _ m77
    refine qJ ?_; repeat' (first | ((with_reducible apply qI) <;> try simp only [qN, qC, qE, qG, qD, qA, qF, seval, qQ, qO, qP, qL, qY, qZ, zC, xV, xI, qH m79 zS]))
    refine (zG5 N (A7.hs s9) hyr).mono ?_
    rintro _ h10 ⟨s10, al2, cl2, rfl, rr⟩
    have s7_10 := s9.trans s10
    have m910 := s7_10 _ _ m7
    have m110 := s7_10 _ _ m17
    refine qJ ?_; repeat' (first | ((with_reducible apply qI) <;> try simp only [qN, qC, qE, qG, qD, qA, qF, seval, qQ, qO, qP, qL, qY, qZ, zC, xV, xI]))
    refine zW m910 zD rfl (by simp) rfl rfl fun h11 m11 f11 => ?_
    simp only [List.set_cons_zero, List.set_cons_succ] at m11
    refine qJ ?_; repeat' (first | ((with_reducible apply qI) <;> try simp only [qN, qC, qE, qG, qD, qA, qF, seval, qQ, qO, qP, qL, qY, qZ, zC, xV, xI]))
    refine zW m11 zD rfl (by simp) rfl rfl fun h12 m12 f12 => ?_
    simp only [List.set_cons_zero, List.set_cons_succ] at m12
    have ld12 := zI (P := Tryz.prog) (t := 26) m12 xX rfl
    have m112 : h12 k6 = _ := (f12 k6 k69).trans ((f11 k6 k69).trans m110)
    refine qJ ?_; repeat' (first | with_reducible apply qK | ((with_reducible first | apply qI | apply qB) <;> try simp only [qN, qC, qE, qG, qD, qA, qF, seval, qQ, qO, qP, qL, qY, qZ, zC, xV, xI, ld12]))
    refine xY m112 xX rfl (by decide) rfl rfl rfl fun h13 m13 f13 => ?_
    have ld13 := zI (P := Tryz.prog) (t := 26) m13 xX rfl
    refine qJ ?_; repeat' (first | ((with_reducible first | apply qI | apply qM) <;> try simp only [qN, qC, qE, qG, qD, qA, qF, seval, qQ, qO, qP, qL, qY, qZ, zC, xV, xI, uW, ld13]))
    have S10 := S7.trans s7_10
    have x10 := x.keep S10
    have F13 : FR 3 kq h h13 := (((FR.of (e := 3) (k := kq) S10).upd n9h f11).upd n9h f12).upd n1 f13
    have zc : ∀ {v l}, RB h10 v l → RB h13 v l := fun r => ((r.hx m910 rfl (zH f11)).hx m11 rfl (zH f12)).hx m112 rfl (zH f13)
    refine ⟨F13, ?_, _, rfl, ?_⟩
    · rw [tM hi hlf hcut]
      exact ((x10.upd k9q.symm b9 f11).upd k9q.symm b9 f12).upd k6q.symm b6 f13
    · rw [tM hi hlf hcut]
      simp only
      rw [eend]
      exact SPn.none ⟨none, 0, none, 0, a3, c3, al, cl, al2, cl2, none, 0, rfl, RB.nil _, RB.nil _, zc (z37.hs s7_10), zc (rl.hs s10), zc rr, RL.nil _⟩ rfl
  rw [pG hi hlf, List.length_append] at hs
  refine qJ ?_; repeat' (first | with_reducible apply qK | ((with_reducible first | apply qI | apply qB | apply qR | apply qT) <;> try simp only [qN, qC, qE, qG, qD, qA, qF, seval, qQ, qO, qP, qL, qY, qZ, zC, xV, xI]))
  refine zW m7 zS rfl (by simp) rfl rfl fun h9 m9 f9 => ?_
  simp only [List.set_cons_zero, List.set_cons_succ] at m9
  have x9 := x7.upd k9q.symm b9 f9
  have kaq9 : ka ≠ k9 := fun e => by
    have := A.obj
    rw [e, n9h] at this; cases this
  have A9 := A7.upd m7 rfl kaq9 f9
  have m79 := (f9 k7 k79).trans m77
  have m19 := (f9 k6 k69).trans m17
  have S9 : HS h h9 := S7.upd n9h f9
  refine qJ ?_; repeat' (first | with_reducible apply qK | ((with_reducible first | apply qI | apply qB) <;> try simp only [qN, qC, qE, qG, qD, qA, qF, seval, qQ, qO, qP, qL, qY, qZ, zC, xV, xI, qH m79 zS]))
  refine (ih x9 A9 hne hyl (by omega) (by omega)).mono ?_
  rintro _ h10 ⟨fr10, x10, c10, rfl, p10⟩
  have hpc := qV7 (q := q) ti m nd.l c yl hyl (by omega)
  have hc10 := p10.len
  have m910 := fr10 _ _ m9 (.inr ⟨k9q, by simp⟩)
  have m710 := fr10 _ _ m79 (.inr ⟨k7q, by simp⟩)
  have m110 := fr10 _ _ m19 (.inr ⟨k6q, by simp⟩)
  have A10 := A9.fr fr10 x9.obj rfl hne (by decide) (by decide)
  refine qJ ?_; repeat' (first | ((with_reducible apply qI) <;> try simp only [qN, qC, qE, qG, qD, qA, qF, seval, qQ, qO, qP, qL, qY, qZ, zC, xV, xI]))
  refine xE fun k10 h11 m11 s11 f11 n11 => ?_
  refine qJ ?_; repeat' (first | ((with_reducible apply qI) <;> try simp only [qN, qC, qE, qG, qD, qA, qF, seval, qQ, qO, qP, qL, qY, qZ, zC, xV, xI]))
  refine xY m11 xX rfl (by decide) hc10.1 rfl hc10.2.1 fun h12 m12 f12 => ?_
  have s10_12 := s11.upd n11 f12
  have x12 := x10.keep s10_12
  have A12 := A10.hs s10_12
  have m912 := s10_12 _ _ m910
  have m712 := s10_12 _ _ m710
  have m112 := s10_12 _ _ m110
  have p12 := p10.hs s10_12
  have k10q : k10 ≠ kq := fun e => by rw [e, x10.obj] at n11; cases n11
  have ld12 := zI (P := Tryz.prog) (t := 26) m12 xX hc10.1
  refine qJ ?_; repeat' (first | with_reducible apply qK | ((first | (with_reducible apply qI) | with_reducible refine zE xI xC (by kernel_rfl) ?_) <;> try simp only [qN, qC, qE, qG, qD, qA, qF, seval, qQ, qO, qP, qL, qY, qZ, zC, xV, xI, ld12, qH m712 zS]))
  refine (ih x12 A12 hne hyr (by omega) (by omega)).mono ?_
  rintro _ h13 ⟨fr13, x13, c13, rfl, p13⟩
  have hc13 := p13.len
  have m913 := fr13 _ _ m912 (.inr ⟨k9q, by simp⟩)
  have m113 := fr13 _ _ m112 (.inr ⟨k6q, by simp⟩)
  have m1013 := fr13 _ _ m12 (.inr ⟨k10q, by simp⟩)
  have p1213 := SPn.fr fr13 ⟨_, x12.obj, rfl⟩ p12
  have ld13 := zI (P := Tryz.prog) (t := 26) m1013 xX hc10.1
  refine qJ ?_; repeat' (first | ((with_reducible apply qI) <;> try simp only [qN, qC, qE, qG, qD, qA, qF, seval, qQ, qO, qP, qL, qY, qZ, zC, xV, xI, ld13]))
  have F2 : ∀ z, xZ (Shape.elems 10).pl (uT z (2 * 10)) [(0, .agg c10.toArray), (1, .agg c13.toArray)] = some (c10 ++ c13) := fun z => fill2 (es := 10) (x := .agg c10.toArray) (y := .agg c13.toArray) (by simpa [vcells] using hc10.1) (by simpa [vcells] using hc13.1) (by simpa [vcells] using hc10.2.1) (by simpa [vcells] using hc13.2.1)
  refine fJ (cs := c10 ++ c13) el24 rfl (by decide) (by decide) (F2 _) (by rw [List.all_append, hc10.2.1, hc13.2.1]; rfl) fun kb h14 m14 s14 f14 n14 => ?_
  have m914 := s14 _ _ m913
  have m114 := s14 _ _ m113
  refine qJ ?_; repeat' (first | ((with_reducible apply qI) <;> try simp only [qN, qC, qE, qG, qD, qA, qF, seval, qQ, qO, qP, qL, qY, qZ, zC, xV, xI]))
  refine zW m914 wO rfl (by simp) rfl rfl fun h16 m16 f16 => ?_
  simp only [List.set_cons_zero, List.set_cons_succ] at m16
  have ld16 := zI (P := Tryz.prog) (t := 26) m16 xX rfl
  have m116 : h16 k6 = _ := (f16 k6 k69).trans m114
  refine qJ ?_; repeat' (first | with_reducible apply qK | ((with_reducible first | apply qI | apply qB) <;> try simp only [qN, qC, qE, qG, qD, qA, qF, seval, qQ, qO, qP, qL, qY, qZ, zC, xV, xI, ld16]))
  refine xY m116 xX rfl (by decide) rfl rfl rfl fun h17 m17' f17 => ?_
  have ld17 := zI (P := Tryz.prog) (t := 26) m17' xX rfl
  refine qJ ?_; repeat' (first | ((with_reducible first | apply qI | apply qM) <;> try simp only [qN, qC, qE, qG, qD, qA, qF, seval, qQ, qO, qP, qL, qY, qZ, zC, xV, xI, uW, ld17]))
  have F9 : FR 3 kq h h9 := (FR.of (e := 3) (k := kq) S7).upd n9h f9
  have F15 : FR 3 kq h h14 := (((F9.trans fr10).trans (.of s10_12)).trans fr13).trans (.of s14)
  have F17 : FR 3 kq h h17 := (F15.upd n9h f16).upd n1 f17
  have x15 := x13.keep s14
  have x17 := (x15.upd k9q.symm b9 f16).upd k6q.symm b6 f17
  have zc : ∀ {v l}, RB h7 v l → RB h17 v l := fun r => ((((((r.hx m7 rfl (zH f9)).fr fr10).hs s10_12).fr fr13).hs s14).hx m914 rfl (zH f16)).hx m116 rfl (zH f17)
  have zp : ∀ {cs p}, SPn m h13 cs p → SPn m h17 cs p := fun r => SPn.fr (FR.one m116 rfl f17) ⟨_, m116, rfl⟩ (SPn.fr (FR.one m914 rfl f16) ⟨_, m914, rfl⟩ (r.hs s14))
  have kb9 : kb ≠ k9 := fun e => by rw [e, m914] at m14; exact absurd (congrArg GB.es (Option.some.inj m14)) (by simp)
  have kb6 : kb ≠ k6 := fun e => by rw [e, m114] at m14; exact absurd (congrArg GB.es (Option.some.inj m14)) (by simp)
  have mb17 := (f17 kb kb6).trans ((f16 kb kb9).trans m14)
  refine ⟨F17, ?_, _, rfl, ?_⟩
  · rw [dS hi hlf hcut]
    exact x17
  · rw [dS hi hlf hcut]
    exact .inr ⟨_, _, kb, 5, false, c10, c13, .slice none 0 0, .slice none 0 0, .slice a3 nd.pf.length c3, .slice none 0 0, .slice none 0 0, rfl, rfl, ⟨none, 0, rfl, RB.nil _⟩, ⟨none, 0, rfl, RB.nil _⟩, ⟨a3, c3, rfl, zc z37⟩, ⟨none, 0, rfl, RB.nil _⟩, ⟨none, 0, rfl, RB.nil _⟩, mb17, hc10.1, hc13.1, by omega, zp p1213, zp p13⟩
theorem zF7 (N : Nat) {q : Pq} (hq : q.row.length ≤ 100000000) {M : List Nd} (ti : TI M) : ∀ (n : Nat) {hb h ha : GH} {kq ka : Nat} {ar : Option Addr} {cr : Nat} {va : Value} {ca : List Value} {c : Nat} (x : QR hb h kq q ar cr c) (A : AB ha h ka va ca M) (hne : ka ≠ kq) {i : Nat} {nd : Nd} (hi : M[i]? = some nd) (hn : i ≤ n) (hs : c + (qI3 M n i).length ≤ 2000000),
    GTri Tryz.prog N 69 [.pointer (some ⟨kq, 0, none⟩), .pointer (some ⟨ka, 0, none⟩), .int .i64 (i : Int)] h (PrR M q n i c hb h kq ar cr)
  | 0, _, _, _, _, _, _, _, _, _, _, x, A, hne, _, _, hi, hn, hs => qT6 N hq ti 0 (fun m e => by omega) x A hne hi hn hs
  | n + 1, _, _, _, _, _, _, _, _, _, _, x, A, hne, _, _, hi, hn, hs => qT6 N hq ti (n + 1) (fun m e => by
      obtain rfl : n = m := by omega
      exact zF7 N hq ti n) x A hne hi hn hs
theorem tW : type_of% (And.intro zF (And.intro wS (And.intro mT (And.intro yJ (And.intro wR (And.intro vU (And.intro qQ7 (And.intro xB (And.intro uI (And.intro kC (And.intro wF rs69))))))))))) := And.intro zF (And.intro wS (And.intro mT (And.intro yJ (And.intro wR (And.intro vU (And.intro qQ7 (And.intro xB (And.intro uI (And.intro kC (And.intro wF rs69))))))))))
def tG : Nat → List (Nat × List Nat) × List Nat
  | 9 => ([(0, []), (1, []), (2, []), (3, []), (4, []), (5, []), (6, []), (7, []), (8, []), (9, []), (10, []), (11, []), (12, []), (13, []), (14, []), (15, []), (16, []), (17, []), (18, []), (19, []), (20, []), (21, []), (22, []), (23, []), (24, []), (25, [])], [0, 1, 0, 4, 12, 28, 63, 127, 255, 255, 767, 255, 2303, 8191, 16383, 32767, 65535, 131071, 262143, 524287, 65535, 1114111, 3211263, 7405567, 16777215, 33554431])
  | 10 => ([(0, []), (1, []), (2, []), (4, []), (5, []), (6, []), (3, [6]), (8, []), (7, []), (9, []), (10, []), (11, [])], [0, 0, 2, 7, 0, 0, 32, 127, 15, 511, 1023, 2047])
  | 14 => ([(0, []), (1, []), (2, []), (3, []), (4, []), (5, [0]), (6, []), (7, []), (8, [])], [0, 0, 0, 0, 8, 30, 63, 127, 255])
  | _ => ([], [])
theorem gO : type_of% (And.intro zF (And.intro wS (And.intro mT (And.intro yJ (And.intro wR (And.intro qQ7 (And.intro xB (And.intro uI (And.intro kC (And.intro wF rs23)))))))))) := And.intro zF (And.intro wS (And.intro mT (And.intro yJ (And.intro wR (And.intro qQ7 (And.intro xB (And.intro uI (And.intro kC (And.intro wF rs23)))))))))
theorem zT2 (N : Nat) {h ha : GH} {kq ka : Nat} {va : Value} {ca : List Value} {M : List Nd} (A : AB ha h ka va ca M) {i : Int} (hi : i < 0 ∨ (M.length : Int) ≤ i) {K : Type} (R : GH → List Value → K → Prop) :
    GTri Tryz.prog N 69 [.pointer (some ⟨kq, 0, none⟩), .pointer (some ⟨ka, 0, none⟩), .int .i64 i] h fun u h' => HS h h' ∧ ∃ cs, u = .agg cs.toArray ∧ RPn R h' cs noPart := by
  refine zU Tryz.func69 rfl gf69 ok69 (by simp [Tryz.ntmps69]) ?_
  repeat' (first | with_reducible apply qK | ((with_reducible apply qB) <;> try simp only [qN, qC, qE, qG, qD, qA, qF, seval, qQ, qO, qP, qL, qY, qZ, zC, tW, tG]))
  refine xE fun k6 h1 m1 s1 f1 n1 => ?_
  refine qJ ?_; repeat' (first | with_reducible apply qK | ((with_reducible first | apply qI | apply qB) <;> try simp only [qN, qC, qE, qG, qD, qA, qF, seval, qQ, qO, qP, qL, qY, qZ, zC, tW, tG]))
  refine (qB3 N (A.hs s1) hi).mono ?_
  rintro _ h2 ⟨s2, rfl⟩
  simp only [zN]
  refine qJ ?_; repeat' (first | ((with_reducible apply qI) <;> try simp only [qN, qC, qE, qG, qD, qA, qF, seval, qQ, qO, qP, qL, qY, qZ, zC, tW, tG]))
  refine xE fun k7 h3 m3 s3 f3 n3 => ?_
  refine qJ ?_; repeat' (first | ((with_reducible apply qI) <;> try simp only [qN, qC, qE, qG, qD, qA, qF, seval, qQ, qO, qP, qL, qY, qZ, zC, tW, tG]))
  refine wL m3 wE rfl (by decide) rfl rfl rfl fun h4 m4 f4 => ?_
  have S4 := (s1.trans s2).trans (s3.upd n3 f4)
  have m14 := (s3.upd n3 f4) _ _ (s2 _ _ m1)
  refine qJ ?_; repeat' (first | (with_reducible first | apply qK | apply qS) | ((with_reducible first | apply qI | apply qB | apply qR) <;> try simp only [qN, qC, qE, qG, qD, qA, qF, seval, qQ, qO, qP, qL, qY, qZ, zC, tW, tG, Bool.not_false, xP, xZ, vY, Shape.pl, List.all_cons, List.all_nil, zK]))
  refine wL m14 xX rfl (by decide) rfl rfl rfl fun h5 m5 f5 => ?_
  simp only [vcells] at m5
  have ld := zI (P := Tryz.prog) (t := 26) m5 xX rfl
  refine qJ ?_; repeat' (first | ((with_reducible first | apply qI | apply qM) <;> try simp only [qN, qC, qE, qG, qD, qA, qF, seval, qQ, qO, qP, qL, qY, qZ, zC, tW, tG, uW, ld]))
  exact ⟨S4.upd n1 f5, _, rfl, zB1 R _⟩
theorem mL (N : Nat) {h ha : GH} {ka : Nat} {va : Value} {ca : List Value} {M : List Nd} (A : AB ha h ka va ca M) (ti : TI M) (hML : M.length ≤ 10000) {rt : Int} (ro : zU5 M rt) (fr : Int) (sm : Bool) (lim : Int) {a : Option Addr} {c : Nat} {id : List UInt8} (ri : RB h (.slice a id.length c) id) :
    GTri Tryz.prog N 23 [.pointer (some ⟨ka, 0, none⟩), .int .i64 rt, .int .i64 fr, .bool sm, .slice a id.length c, .int .i64 lim] h fun u h' => HS h h' ∧ ∃ cs, u = .agg cs.toArray ∧ RPn (RPd M.length) h' cs (qQ1 M ⟨fr, sm, zL id, lim⟩ rt) := by
  have hkl := vV id
  unfold qQ1
  refine zU Tryz.func23 rfl gf23 ok23 (by simp [Tryz.ntmps23]) ?_
  repeat' (first | with_reducible apply qK | ((with_reducible apply qB) <;> try simp only [qN, qC, qE, qG, qD, qA, qF, seval, qQ, qO, qP, gO]))
  refine xE fun k12 h1 m1 s1 f1 n1 => ?_
  refine qJ ?_; repeat' (first | with_reducible apply qK | ((with_reducible first | apply qI | apply qB) <;> try simp only [qN, qC, qE, qG, qD, qA, qF, seval, qQ, qO, qP, gO]))
  refine (pR N h1 (ri.hs s1) rfl).mono ?_
  rintro _ h2 ⟨s2, ar, cr, rfl, rr, _⟩
  refine qJ ?_; repeat' (first | ((with_reducible apply qI) <;> try simp only [qN, qC, qE, qG, qD, qA, qF, seval, qQ, qO, qP, gO, xP, xZ, vY, Shape.pl, List.all_cons, List.all_nil, zK]))
  refine wP rfl fun k h3 m3 s3 f3 n3 => ?_
  have S2 := s1.trans s2
  have S3 := S2.trans s3
  have nk : h k = none := S2.none_of n3
  have A3 := A.hs S3
  have m13 := s3 _ _ (s2 _ _ m1)
  have Sb : HS h (kP k h3) := rW S3 nk
  have x3 : QR (kP k h3) h3 k ⟨fr, sm, zL id, lim⟩ ar cr 0 := ⟨m3, qC9 k h3, rr.hs (rW s3 n3), rX k h3⟩
  have hne : ka ≠ k := fun e => by
    have := A.obj
    rw [← e, this] at nk; cases nk
  rcases ro with ⟨rfl, rfl⟩ | ⟨r, rfl, hr⟩
  · rw [if_pos (by decide)]
    refine qJ ?_; repeat' (first | with_reducible apply qK | ((with_reducible first | apply qI | apply qB) <;> try simp only [qN, qC, qE, qG, qD, qA, qF, seval, qQ, qO, qP, gO]))
    refine (zT2 N A3 (.inl (by decide)) (RPd 0)).mono ?_
    rintro _ h4 ⟨s4, cs, rfl, r4⟩
    have m14 := s4 _ _ m13
    have hc := r4.len
    refine qJ ?_; repeat' (first | ((with_reducible apply qI) <;> try simp only [qN, qC, qE, qG, qD, qA, qF, seval, qQ, qO, qP, gO]))
    refine xY m14 xX rfl (by decide) hc.1 rfl hc.2.1 fun h5 m5 f5 => ?_
    have ld := zI (P := Tryz.prog) (t := 26) m5 xX hc.1
    refine qJ ?_; repeat' (first | ((with_reducible first | apply qI | apply qM) <;> try simp only [qN, qC, qE, qG, qD, qA, qF, seval, qQ, qO, qP, gO, uW, ld]))
    exact ⟨(S3.trans s4).upd n1 f5, cs, rfl, RPn.bx (fun r => r.hx m14 rfl (zH f5)) rfl r4⟩
  · obtain ⟨nd, hnd⟩ := jP hr
    have hl := qW2 ti hnd (Nat.le_of_lt hr)
    rw [if_neg (by omega), Int.toNat_natCast]
    refine qJ ?_; repeat' (first | with_reducible apply qK | ((with_reducible first | apply qI | apply qB) <;> try simp only [qN, qC, qE, qG, qD, qA, qF, seval, qQ, qO, qP, gO]))
    refine (zF7 N (q := ⟨fr, sm, zL id, lim⟩) (by simp only; omega) ti M.length x3 A3 hne hnd (Nat.le_of_lt hr) (by omega)).mono ?_
    rintro _ h4 ⟨fr4, x4, cs, rfl, p4⟩
    have k12k : k12 ≠ k := fun e => by rw [e] at m1; rw [s2 _ _ m1] at n3; cases n3
    have m14 := fr4 _ _ m13 (.inr ⟨k12k, by simp⟩)
    have hc := p4.len
    refine qJ ?_; repeat' (first | ((with_reducible apply qI) <;> try simp only [qN, qC, qE, qG, qD, qA, qF, seval, qQ, qO, qP, gO]))
    refine xY m14 xX rfl (by decide) hc.1 rfl hc.2.1 fun h5 m5 f5 => ?_
    have ld := zI (P := Tryz.prog) (t := 26) m5 xX hc.1
    refine qJ ?_; repeat' (first | ((with_reducible first | apply qI | apply qM) <;> try simp only [qN, qC, qE, qG, qD, qA, qF, seval, qQ, qO, qP, gO, uW, ld]))
    exact ⟨(Sb.trans x4.hs).upd n1 f5, cs, rfl, (SPn.fr (FR.one m14 rfl f5) ⟨_, m14, rfl⟩ p4).rpn⟩
theorem qS4 (l : List UInt8) (n : Nat) : (zG l n).length ≤ l.length + 1 := by
  have := wM l n
  omega
theorem zE9 {M : List Nd} (ti : TI M) (nok : NOK M) (kb : KB M) {n i : Nat} {nd : Nd} (hi : M[i]? = some nd) : Pn.bulk (Pd.bulk n) (lE M nd) ≤ 1000 := by
  have ok := nok.ok i nd hi
  have h1 := ok.id
  have h2 := kb nd (List.mem_of_getElem? hi)
  unfold lE
  cases hl : nd.lf
  · rw [if_neg (by decide)]
    have fi := ti.fork i nd hi hl
    obtain ⟨yl, hyl, _⟩ := fi.kl
    obtain ⟨yr, hyr, _⟩ := fi.kr
    obtain ⟨id, e, _⟩ := fi.pf
    have h3 := qS4 (zL id) nd.dp
    have h4 := vV id
    have h5 := (nok.ok _ _ hyl).hs
    have h6 := (nok.ok _ _ hyr).hs
    rw [wT hyl, wT hyr]
    unfold Pn.bulk
    simp only [e, List.length_nil, List.map_nil, List.sum_nil]
    omega
  · rw [if_pos rfl]
    unfold Pn.bulk
    simp only [List.length_nil, List.map_nil, List.sum_nil]
    omega
theorem qK8 {M : List Nd} (ti : TI M) (nok : NOK M) (kb : KB M) {q : Pq} : ∀ (n i c : Nat) (nd : Nd), M[i]? = some nd → i ≤ n → Pn.bulk (Pd.bulk n) (jO M q n i c).1 + 1000 ≤ 2000 * (qI3 M n i).length
  | 0, i, c, nd, hi, hn => by
    have := zE9 ti nok kb (n := 0) hi
    simp only [jO, qI3, List.length_singleton, wT hi]
    omega
  | n + 1, i, c, nd, hi, hn => by
    have hb := zE9 ti nok kb (n := n + 1) hi
    cases hl : nd.lf
    case true =>
      rw [tL hi hl, lU hi hl]
      simp only [List.length_singleton]
      omega
    have fi := ti.fork i nd hi hl
    have fl := fi.l
    have frr := fi.r
    obtain ⟨yl, hyl, _⟩ := fi.kl
    obtain ⟨yr, hyr, _⟩ := fi.kr
    obtain ⟨id, e, _⟩ := fi.pf
    have h3 := qS4 (zL id) nd.dp
    have h4 := vV id
    have b1 := qK8 ti nok kb (q := q) n nd.l c yl hyl (by omega)
    have b2 := qK8 ti nok kb (q := q) n nd.r (jO M q n nd.l c).2 yr hyr (by omega)
    rw [pG hi hl, List.length_append]
    cases hc : qF2 q nd c
    case true =>
      rw [tM hi hl hc]
      simp only; omega
    rw [dS hi hl hc]
    have e1 : Pn.bulk (Pd.bulk (n + 1)) (⟨3, 0, nd.dp, nd.nw, [], [], nd.pf, [], [], [(jO M q n nd.l c).1, (jO M q n nd.r (jO M q n nd.l c).2).1]⟩ : Pn (Pd (n + 1))) = nd.pf.length + (Pn.bulk (Pd.bulk n) (jO M q n nd.l c).1 + (Pn.bulk (Pd.bulk n) (jO M q n nd.r (jO M q n nd.l c).2).1 + 0)) + 10 := by
      have : ∀ (x y : Pn (Pd n)) (pf : List UInt8), Pn.bulk (Pd.bulk (n + 1)) (⟨3, 0, nd.dp, nd.nw, [], [], pf, [], [], [x, y]⟩ : Pn (Pd (n + 1))) = 0 + 0 + pf.length + 0 + 0 + (Pn.bulk (Pd.bulk n) x + (Pn.bulk (Pd.bulk n) y + 0)) + 10 := fun _ _ _ => rfl
      exact (this _ _ _).trans (by omega)
    simp only
    rw [e1, e]
    omega
theorem zU6 {M : List Nd} (ti : TI M) (nok : NOK M) (kb : KB M) {q : Pq} {rt : Int} (ro : zU5 M rt) : Pn.bulk (Pd.bulk M.length) (qQ1 M q rt) ≤ 100000000 := by
  unfold qQ1
  rcases ro with ⟨rfl, rfl⟩ | ⟨r, rfl, hr⟩
  · rw [if_pos (by decide)]
    decide
  · obtain ⟨nd, hnd⟩ := jP hr
    rw [if_neg (by omega), Int.toNat_natCast]
    have h1 := qK8 ti nok kb (q := q) M.length r 0 nd hnd (Nat.le_of_lt hr)
    have h2 := qW2 ti hnd (Nat.le_of_lt hr)
    have h3 := nok.len
    omega
end Go.Gh
namespace Go.Gh
open Go Go.RowKit
set_option linter.unusedVariables false
set_option linter.unusedSimpArgs false
inductive DT
  | leaf (s : List (Nat × List Nat)) (b : List Nat)
  | node (A B : Nat) (t u : DT)
def DT.at : DT → List Bool → List (Nat × Nat) × List (Nat × List Nat) × List Nat
  | .leaf s b, _ => ([], s, b)
  | .node A B t _, [] => ((A, B) :: (t.at []).1, (t.at []).2)
  | .node A B t _, true :: p => ((A, B) :: (t.at p).1, (t.at p).2)
  | .node A B _ u, false :: p => ((B, A) :: (u.at p).1, (u.at p).2)
def DT.check (ops : Array Oper) : DT → List (Nat × Nat) → Bool
  | .leaf s b, xs => qH2 ops xs s b
  | .node A B t u, xs => decide (A ≠ B) && decide (A < ops.size) && decide (B < ops.size) && t.check ops (xs ++ [(A, B)]) && u.check ops (xs ++ [(B, A)])
def DT.goals (P : Program) (N : Nat) (ops : Array Oper) (K : Env → GH → Prop) (e : Env) (h : GH) : DT → Prop
  | .leaf s _ => sI P N (dsOf ops) (qY ops s) [] K e h
  | .node _ _ t u => DT.goals P N ops K e h t ∧ DT.goals P N ops K e h u
theorem DT.check_at {ops : Array Oper} : ∀ (t : DT) (xs : List (Nat × Nat)) (p : List Bool), t.check ops xs = true → qH2 ops (xs ++ (t.at p).1) (t.at p).2.1 (t.at p).2.2 = true
  | .leaf s b, xs, p, h => by simpa [DT.at, DT.check] using h
  | .node A B t u, xs, p, h => by
    simp only [DT.check, Bool.and_eq_true] at h
    obtain ⟨⟨_, h1⟩, h2⟩ := h
    rcases p with _ | ⟨_ | _, p⟩
    · have := DT.check_at t _ [] h1
      simpa [DT.at] using this
    · have := DT.check_at u _ p h2
      simpa [DT.at] using this
    · have := DT.check_at t _ p h1
      simpa [DT.at] using this
theorem DT.resp {ops : Array Oper} (l : List Nat) : ∀ (t : DT) (xs : List (Nat × Nat)), t.check ops xs = true → ∃ p, qF7 (qJ8 (t.at p).1) (Array.replicate ops.size false) l
  | .leaf s b, xs, h => ⟨[], zN1 _⟩
  | .node A B t u, xs, h => by
    simp only [DT.check, Bool.and_eq_true, decide_eq_true_eq] at h
    obtain ⟨⟨⟨⟨hne, hA⟩, hB⟩, h1⟩, h2⟩ := h
    rcases qC6 hne l (Array.replicate ops.size false) (by simpa using hA) (by simpa using hB) with r | r
    · obtain ⟨p, hp⟩ := DT.resp l t _ h1
      exact ⟨true :: p, qK6 (xs := [(A, B)]) l _ (by simpa [lF] using r) hp⟩
    · obtain ⟨p, hp⟩ := DT.resp l u _ h2
      exact ⟨false :: p, qK6 (xs := [(B, A)]) l _ (by simpa [lF] using r) hp⟩
theorem DT.goals_at {P : Program} {N : Nat} {ops : Array Oper} {K : Env → GH → Prop} {e : Env} {h : GH} : ∀ (t : DT) (p : List Bool), t.goals P N ops K e h → sI P N (dsOf ops) (qY ops (t.at p).2.1) [] K e h
  | .leaf s b, p, g => g
  | .node A B t u, p, g => by
    rcases p with _ | ⟨_ | _, p⟩
    · exact DT.goals_at t [] g.1
    · exact DT.goals_at u p g.2
    · exact DT.goals_at t p g.1
theorem gw_drawD {P : Program} {N nt : Nat} {Q : GQ} {e : Env} {h : GH} {id : Nat} {ops : Array Oper} (t : DT) (hm : P.follows .mixedOrders = true) (hc : t.check ops [] = true) (g : t.goals P N ops (Q .normal) e h) : GW P N nt (.region id ops true) Q e h :=
  qL7 hm (I := List Bool) (fun p => (t.at p).1) (fun p => (t.at p).2.1) (fun p => (t.at p).2.2) (fun p => by simpa using DT.check_at t [] p hc) (fun l => DT.resp l t [] hc) (fun p => DT.goals_at t p g)
end Go.Gh
namespace Go.Gh
open Go Go.Proofs Go.RowKit
set_option linter.unusedVariables false
set_option linter.unusedSimpArgs false
set_option maxRecDepth 100000
set_option maxHeartbeats 4000000
theorem yS : type_of% (And.intro zF (And.intro wS (And.intro zQ4 (And.intro qQ8 (And.intro vT (And.intro yJ (And.intro wR (And.intro ty54 (And.intro xB (And.intro mP (And.intro uI (And.intro jJ (And.intro kC (And.intro wF rs5)))))))))))))) := And.intro zF (And.intro wS (And.intro zQ4 (And.intro qQ8 (And.intro vT (And.intro yJ (And.intro wR (And.intro ty54 (And.intro xB (And.intro mP (And.intro uI (And.intro jJ (And.intro kC (And.intro wF rs5)))))))))))))
def qQ9 : DT := (.node 10 22 (.node 10 23 (.node 21 22 (.node 21 23 (.node 22 23 (.leaf [(0, []), (1, []), (2, []), (3, []), (4, []), (5, []), (6, []), (7, []), (8, []), (9, []), (11, []), (12, []), (13, []), (14, []), (15, []), (16, []), (17, []), (18, []), (19, []), (20, []), (10, [14, 16, 18, 20]), (21, []), (22, []), (23, []), (24, []), (25, [])] [0, 0, 0, 4, 0, 16, 0, 64, 0, 256, 1023, 0, 0, 0, 8192, 0, 32768, 0, 131072, 0, 524288, 2097151, 4194303, 8388607, 16777215, 33554431]) (.leaf [(0, []), (1, []), (2, []), (3, []), (4, []), (5, []), (6, []), (7, []), (8, []), (9, []), (11, []), (12, []), (13, []), (14, []), (15, []), (16, []), (17, []), (18, []), (19, []), (20, []), (10, [14, 16, 18, 20]), (21, []), (23, []), (22, []), (24, []), (25, [])] [0, 0, 0, 4, 0, 16, 0, 64, 0, 256, 1023, 0, 0, 0, 8192, 0, 32768, 0, 131072, 0, 524288, 2097151, 12582911, 4194303, 16777215, 33554431])) (.leaf [(0, []), (1, []), (2, []), (3, []), (4, []), (5, []), (6, []), (7, []), (8, []), (9, []), (11, []), (12, []), (13, []), (14, []), (15, []), (16, []), (17, []), (18, []), (19, []), (20, []), (10, [14, 16, 18, 20]), (23, [14, 16, 18, 20]), (21, []), (22, []), (24, []), (25, [])] [0, 0, 0, 4, 0, 16, 0, 64, 0, 256, 1023, 0, 0, 0, 8192, 0, 32768, 0, 131072, 0, 524288, 10485759, 12582911, 2047, 16777215, 33554431])) (.node 21 23 (.leaf [(0, []), (1, []), (2, []), (3, []), (4, []), (5, []), (6, []), (7, []), (8, []), (9, []), (11, []), (12, []), (13, []), (14, []), (15, []), (16, []), (17, []), (18, []), (19, []), (20, []), (10, [14, 16, 18, 20]), (22, [14, 16, 18, 20]), (21, []), (23, []), (24, []), (25, [])] [0, 0, 0, 4, 0, 16, 0, 64, 0, 256, 1023, 0, 0, 0, 8192, 0, 32768, 0, 131072, 0, 524288, 6291455, 2047, 8388607, 16777215, 33554431]) (.node 22 23 (.leaf [(0, []), (1, []), (2, []), (3, []), (4, []), (5, []), (6, []), (7, []), (8, []), (9, []), (11, []), (12, []), (13, []), (14, []), (15, []), (16, []), (17, []), (18, []), (19, []), (20, []), (10, [14, 16, 18, 20]), (22, [14, 16, 18, 20]), (23, [14, 16, 18, 20]), (21, []), (24, []), (25, [])] [0, 0, 0, 4, 0, 16, 0, 64, 0, 256, 1023, 0, 0, 0, 8192, 0, 32768, 0, 131072, 0, 524288, 14680063, 2047, 4196351, 16777215, 33554431]) (.leaf [(0, []), (1, []), (2, []), (3, []), (4, []), (5, []), (6, []), (7, []), (8, []), (9, []), (11, []), (12, []), (13, []), (14, []), (15, []), (16, []), (17, []), (18, []), (19, []), (20, []), (10, [14, 16, 18, 20]), (23, [14, 16, 18, 20]), (22, [14, 16, 18, 20]), (21, []), (24, []), (25, [])] [0, 0, 0, 4, 0, 16, 0, 64, 0, 256, 1023, 0, 0, 0, 8192, 0, 32768, 0, 131072, 0, 524288, 14680063, 8390655, 2047, 16777215, 33554431])))) (.node 21 22 (.leaf [(0, []), (1, []), (2, []), (3, []), (4, []), (5, []), (6, []), (7, []), (8, []), (9, []), (11, []), (12, []), (13, []), (14, []), (15, []), (16, []), (17, []), (18, []), (19, []), (20, []), (23, [3, 5, 7, 9, 14, 16, 18, 20]), (10, [14, 16, 18, 20]), (21, []), (22, []), (24, []), (25, [])] [0, 0, 0, 4, 0, 16, 0, 64, 0, 256, 8389631, 0, 0, 0, 8192, 0, 32768, 0, 131072, 0, 524288, 10485759, 12582911, 0, 16777215, 33554431]) (.leaf [(0, []), (1, []), (2, []), (3, []), (4, []), (5, []), (6, []), (7, []), (8, []), (9, []), (11, []), (12, []), (13, []), (14, []), (15, []), (16, []), (17, []), (18, []), (19, []), (20, []), (23, [3, 5, 7, 9, 14, 16, 18, 20]), (10, [14, 16, 18, 20]), (22, [14, 16, 18, 20]), (21, []), (24, []), (25, [])] [0, 0, 0, 4, 0, 16, 0, 64, 0, 256, 8389631, 0, 0, 0, 8192, 0, 32768, 0, 131072, 0, 524288, 14680063, 8390655, 0, 16777215, 33554431]))) (.node 10 23 (.node 21 23 (.leaf [(0, []), (1, []), (2, []), (3, []), (4, []), (5, []), (6, []), (7, []), (8, []), (9, []), (11, []), (12, []), (13, []), (14, []), (15, []), (16, []), (17, []), (18, []), (19, []), (20, []), (22, [3, 5, 7, 9, 14, 16, 18, 20]), (10, [14, 16, 18, 20]), (21, []), (23, []), (24, []), (25, [])] [0, 0, 0, 4, 0, 16, 0, 64, 0, 256, 4195327, 0, 0, 0, 8192, 0, 32768, 0, 131072, 0, 524288, 6291455, 0, 8388607, 16777215, 33554431]) (.leaf [(0, []), (1, []), (2, []), (3, []), (4, []), (5, []), (6, []), (7, []), (8, []), (9, []), (11, []), (12, []), (13, []), (14, []), (15, []), (16, []), (17, []), (18, []), (19, []), (20, []), (22, [3, 5, 7, 9, 14, 16, 18, 20]), (10, [14, 16, 18, 20]), (23, [14, 16, 18, 20]), (21, []), (24, []), (25, [])] [0, 0, 0, 4, 0, 16, 0, 64, 0, 256, 4195327, 0, 0, 0, 8192, 0, 32768, 0, 131072, 0, 524288, 14680063, 0, 4196351, 16777215, 33554431])) (.node 22 23 (.leaf [(0, []), (1, []), (2, []), (3, []), (4, []), (5, []), (6, []), (7, []), (8, []), (9, []), (11, []), (12, []), (13, []), (14, []), (15, []), (16, []), (17, []), (18, []), (19, []), (20, []), (22, [3, 5, 7, 9, 14, 16, 18, 20]), (23, [3, 5, 7, 9, 14, 16, 18, 20]), (10, [14, 16, 18, 20]), (21, []), (24, []), (25, [])] [0, 0, 0, 4, 0, 16, 0, 64, 0, 256, 12583935, 0, 0, 0, 8192, 0, 32768, 0, 131072, 0, 524288, 14680063, 0, 4194304, 16777215, 33554431]) (.leaf [(0, []), (1, []), (2, []), (3, []), (4, []), (5, []), (6, []), (7, []), (8, []), (9, []), (11, []), (12, []), (13, []), (14, []), (15, []), (16, []), (17, []), (18, []), (19, []), (20, []), (23, [3, 5, 7, 9, 14, 16, 18, 20]), (22, [3, 5, 7, 9, 14, 16, 18, 20]), (10, [14, 16, 18, 20]), (21, []), (24, []), (25, [])] [0, 0, 0, 4, 0, 16, 0, 64, 0, 256, 12583935, 0, 0, 0, 8192, 0, 32768, 0, 131072, 0, 524288, 14680063, 8388608, 0, 16777215, 33554431]))))
def yL : Nat → List (Nat × List Nat) × List Nat
  | 5 => ([(0, []), (1, []), (2, []), (3, []), (4, []), (6, []), (5, [6]), (7, []), (8, []), (9, []), (10, []), (11, []), (13, []), (12, [13]), (14, []), (15, []), (16, []), (17, []), (18, []), (20, []), (19, [20]), (21, []), (22, []), (23, []), (24, []), (25, []), (26, []), (27, [])], [0, 0, 3, 7, 15, 31, 15, 127, 255, 511, 1023, 2047, 4095, 2047, 16383, 32767, 65535, 131071, 262143, 524287, 262143, 2097151, 4194303, 8388607, 16777215, 33554431, 67108863, 134217727])
  | _ => ([], [])
theorem RPn.hxK {K : Type} {R : GH → List Value → K → Prop} {j : Nat} {h h' : GH} {B : GB} (m : h j = some B) (he : B.es = 0 ∧ B.wr = true) (hu : B.cells.all vO = true) (x : HX j h h') (f : ∀ cs x, R h cs x → R h' cs x) {cs : List Value} {p : Pn K} (r : RPn R h cs p) : RPn R h' cs p := by
  obtain ⟨a1, c1, a2, c2, a3, c3, a4, c4, a5, c5, a6, c6, rfl, r1, r2, r3, r4, r5, r6⟩ := r
  exact ⟨a1, c1, a2, c2, a3, c3, a4, c4, a5, c5, a6, c6, rfl, r1.hx m hu x, r2.hx m hu x, r3.hx m hu x, r4.hx m hu x, r5.hx m hu x, RL.hxR r6 m he x f⟩
theorem RPd.hx {j : Nat} {h h' : GH} {B : GB} (m : h j = some B) (he : B.es = 0 ∧ B.wr = true) (hu : B.cells.all vO = true) (x : HX j h h') : ∀ (n : Nat) {cs : List Value} {p : Pd n}, RPd n h cs p → RPd n h' cs p
  | 0, _, _, r => r
  | n + 1, _, _, r => RPn.hxK m he hu x (fun _ _ q => RPd.hx m he hu x n q) r
theorem RPn.hxd {j n : Nat} {h h' : GH} {B : GB} (m : h j = some B) (hu : B.cells.all vO = true) (he : B.es = 0 ∧ B.wr = true) (f : ∀ i, i ≠ j → h' i = h i) {cs : List Value} {p : Pn (Pd n)} (r : RPn (RPd n) h cs p) : RPn (RPd n) h' cs p := RPn.hxK m he hu (zH f) (fun _ _ q => RPd.hx m he hu (zH f) n q) r
theorem c_SpanProves (N : Nat) {h : GH} (t : TK h) {a : Option Addr} {c : Nat} {l : List Pt} (r : RL 3 RPut h (.slice a l.length c) l) (hl : l.length ≤ 1000000000) (hp : ∀ x ∈ l, x.1.1.length ≤ 1000000000 ∧ x.1.2.length ≤ 1000000000)
    (fr lim : Int) (sm : Bool) {ai : Option Addr} {ci : Nat} {id : List UInt8} (ri : RB h (.slice ai id.length ci) id) :
    GTri Tryz.prog N 5 [.slice a l.length c, .agg #[.int .i64 fr, .int .i64 lim, .bool sm, .slice ai id.length ci]] h fun v h' => v = .bool true := by
  refine zU Tryz.func5 rfl gf5 ok5 (by simp [Tryz.ntmps5]) ?_
  repeat' (first | with_reducible apply qK | ((with_reducible apply qB) <;> try simp only [qN, qC, qE, qG, qD, qA, qF, seval, qQ, qO, qP, qL, qY, qZ, zC, yS, yL]))
  refine wP rfl fun k3 h1 m1 s1 f1 n1 => ?_
  refine qJ ?_; repeat' (first | with_reducible apply qK | ((with_reducible first | apply qI | apply qB) <;> try simp only [qN, qC, qE, qG, qD, qA, qF, seval, qQ, qO, qP, qL, qY, qZ, zC, yS, yL]))
  refine (zF5 N (t.hs s1) (RL.hs (R := RPut) s1 (fun _ _ q => q.hs s1) r) hl hp).mono ?_
  rintro _ h2 ⟨s2, k, kq, M, rt, v, cs, v2, cs2, rfl, hne, x2, y2, ti, ro, _, kb⟩
  have S2 := s1.trans s2
  have m2 := s2 _ _ m1
  have ri2 := ri.hs S2
  have nok := x2.arr.ok
  have hML := nok.len
  refine qJ ?_; repeat' (first | with_reducible apply qK | ((with_reducible first | apply qI | apply qB | apply qR | apply qT) <;> try simp only [qN, qC, qE, qG, qD, qA, qF, seval, qQ, qO, qP, qL, qY, qZ, zC, yS, yL, Bool.not_true]))
  refine GW.mono (Q := fun z e' h' => z = .normal ∧ HS h2 h' ∧ ∃ k9 k10 c9 c10, lk e' 9 = .pointer (some ⟨k9, 0, none⟩) ∧ lk e' 10 = .pointer (some ⟨k10, 0, none⟩) ∧ h' k9 = some ⟨c9, 0, true, false⟩ ∧ h' k10 = some ⟨c10, 0, true, false⟩ ∧ RPn (RPd M.length) h' c9 (qQ1 M ⟨fr, sm, zL id, lim⟩ rt) ∧ RPn (RPd M.length) h' c10 (qQ1 M ⟨fr, sm, zL id, lim⟩ rt)) ?_ ?_
  · refine qJ ?_; repeat' (first | ((first | (with_reducible apply qI) | (with_reducible refine gw_drawD (id := 4) qQ9 xC (by kernel_rfl) ?_; simp only [DT.goals, qQ9]; repeat' apply And.intro)) <;> try simp only [qN, qC, qE, qG, qD, qA, qF, seval, qQ, qO, qP, qL, qY, qZ, zC, yS, yL, qH m2 zS, qH m2 gV, qH m2 zD]))
    all_goals
      have zz : HS h2 h2 := HS.refl h2
      have mz := m2
      first
        | (refine (pS N (x2.hs zz) ti hML ro fr sm lim (ri2.hs zz)).mono ?_
           rintro _ hx ⟨sx, cp, rfl, rp⟩
           have hcp := rp.len
           try replace ma1 := sx _ _ ma1
           try replace ma2 := sx _ _ ma2
           try replace rr := rr.hs sx (fun cs x r => RPd.hs sx M.length r)
           replace mz := sx _ _ mz
           replace zz := zz.trans sx)
        | (refine (mL N (y2.hs zz) ti hML ro fr sm lim (ri2.hs zz)).mono ?_
           rintro _ hx ⟨sx, cq, rfl, rr⟩
           have hcq := rr.len
           try replace ma1 := sx _ _ ma1
           try replace ma2 := sx _ _ ma2
           try replace rp := rp.hs sx (fun cs x r => RPd.hs sx M.length r)
           replace mz := sx _ _ mz
           replace zz := zz.trans sx)
        | (have qq := ka1
           refine xE fun ka2 hx ma2 sx fx na2 => ?_
           have kne : ka1 ≠ ka2 := yA ma1 na2
           have b2 : h2 ka2 = none := zz.none_of na2
           replace ma1 := sx _ _ ma1
           try replace rp := rp.hs sx (fun cs x r => RPd.hs sx M.length r)
           try replace rr := rr.hs sx (fun cs x r => RPd.hs sx M.length r)
           replace mz := sx _ _ mz
           replace zz := zz.trans sx)
        | (refine xE fun ka1 hx ma1 sx fx na1 => ?_
           have b1 : h2 ka1 = none := zz.none_of na1
           try replace rp := rp.hs sx (fun cs x r => RPd.hs sx M.length r)
           try replace rr := rr.hs sx (fun cs x r => RPd.hs sx M.length r)
           replace mz := sx _ _ mz
           replace zz := zz.trans sx)
      refine qJ ?_; repeat' (first | ((with_reducible apply qI) <;> try simp only [qN, qC, qE, qG, qD, qA, qF, seval, qQ, qO, qP, qL, qY, qZ, zC, yS, yL, qH mz zS, qH mz gV, qH mz zD]))
      first
        | (refine (pS N (x2.hs zz) ti hML ro fr sm lim (ri2.hs zz)).mono ?_
           rintro _ hx ⟨sx, cp, rfl, rp⟩
           have hcp := rp.len
           try replace ma1 := sx _ _ ma1
           try replace ma2 := sx _ _ ma2
           try replace rr := rr.hs sx (fun cs x r => RPd.hs sx M.length r)
           replace mz := sx _ _ mz
           replace zz := zz.trans sx)
        | (refine (mL N (y2.hs zz) ti hML ro fr sm lim (ri2.hs zz)).mono ?_
           rintro _ hx ⟨sx, cq, rfl, rr⟩
           have hcq := rr.len
           try replace ma1 := sx _ _ ma1
           try replace ma2 := sx _ _ ma2
           try replace rp := rp.hs sx (fun cs x r => RPd.hs sx M.length r)
           replace mz := sx _ _ mz
           replace zz := zz.trans sx)
        | (have qq := ka1
           refine xE fun ka2 hx ma2 sx fx na2 => ?_
           have kne : ka1 ≠ ka2 := yA ma1 na2
           have b2 : h2 ka2 = none := zz.none_of na2
           replace ma1 := sx _ _ ma1
           try replace rp := rp.hs sx (fun cs x r => RPd.hs sx M.length r)
           try replace rr := rr.hs sx (fun cs x r => RPd.hs sx M.length r)
           replace mz := sx _ _ mz
           replace zz := zz.trans sx)
        | (refine xE fun ka1 hx ma1 sx fx na1 => ?_
           have b1 : h2 ka1 = none := zz.none_of na1
           try replace rp := rp.hs sx (fun cs x r => RPd.hs sx M.length r)
           try replace rr := rr.hs sx (fun cs x r => RPd.hs sx M.length r)
           replace mz := sx _ _ mz
           replace zz := zz.trans sx)
      refine qJ ?_; repeat' (first | ((with_reducible apply qI) <;> try simp only [qN, qC, qE, qG, qD, qA, qF, seval, qQ, qO, qP, qL, qY, qZ, zC, yS, yL, qH mz zS, qH mz gV, qH mz zD]))
      first
        | (refine (pS N (x2.hs zz) ti hML ro fr sm lim (ri2.hs zz)).mono ?_
           rintro _ hx ⟨sx, cp, rfl, rp⟩
           have hcp := rp.len
           try replace ma1 := sx _ _ ma1
           try replace ma2 := sx _ _ ma2
           try replace rr := rr.hs sx (fun cs x r => RPd.hs sx M.length r)
           replace mz := sx _ _ mz
           replace zz := zz.trans sx)
        | (refine (mL N (y2.hs zz) ti hML ro fr sm lim (ri2.hs zz)).mono ?_
           rintro _ hx ⟨sx, cq, rfl, rr⟩
           have hcq := rr.len
           try replace ma1 := sx _ _ ma1
           try replace ma2 := sx _ _ ma2
           try replace rp := rp.hs sx (fun cs x r => RPd.hs sx M.length r)
           replace mz := sx _ _ mz
           replace zz := zz.trans sx)
        | (have qq := ka1
           refine xE fun ka2 hx ma2 sx fx na2 => ?_
           have kne : ka1 ≠ ka2 := yA ma1 na2
           have b2 : h2 ka2 = none := zz.none_of na2
           replace ma1 := sx _ _ ma1
           try replace rp := rp.hs sx (fun cs x r => RPd.hs sx M.length r)
           try replace rr := rr.hs sx (fun cs x r => RPd.hs sx M.length r)
           replace mz := sx _ _ mz
           replace zz := zz.trans sx)
        | (refine xE fun ka1 hx ma1 sx fx na1 => ?_
           have b1 : h2 ka1 = none := zz.none_of na1
           try replace rp := rp.hs sx (fun cs x r => RPd.hs sx M.length r)
           try replace rr := rr.hs sx (fun cs x r => RPd.hs sx M.length r)
           replace mz := sx _ _ mz
           replace zz := zz.trans sx)
      refine qJ ?_; repeat' (first | ((with_reducible apply qI) <;> try simp only [qN, qC, qE, qG, qD, qA, qF, seval, qQ, qO, qP, qL, qY, qZ, zC, yS, yL, qH mz zS, qH mz gV, qH mz zD]))
      first
        | (refine (pS N (x2.hs zz) ti hML ro fr sm lim (ri2.hs zz)).mono ?_
           rintro _ hx ⟨sx, cp, rfl, rp⟩
           have hcp := rp.len
           try replace ma1 := sx _ _ ma1
           try replace ma2 := sx _ _ ma2
           try replace rr := rr.hs sx (fun cs x r => RPd.hs sx M.length r)
           replace mz := sx _ _ mz
           replace zz := zz.trans sx)
        | (refine (mL N (y2.hs zz) ti hML ro fr sm lim (ri2.hs zz)).mono ?_
           rintro _ hx ⟨sx, cq, rfl, rr⟩
           have hcq := rr.len
           try replace ma1 := sx _ _ ma1
           try replace ma2 := sx _ _ ma2
           try replace rp := rp.hs sx (fun cs x r => RPd.hs sx M.length r)
           replace mz := sx _ _ mz
           replace zz := zz.trans sx)
        | (have qq := ka1
           refine xE fun ka2 hx ma2 sx fx na2 => ?_
           have kne : ka1 ≠ ka2 := yA ma1 na2
           have b2 : h2 ka2 = none := zz.none_of na2
           replace ma1 := sx _ _ ma1
           try replace rp := rp.hs sx (fun cs x r => RPd.hs sx M.length r)
           try replace rr := rr.hs sx (fun cs x r => RPd.hs sx M.length r)
           replace mz := sx _ _ mz
           replace zz := zz.trans sx)
        | (refine xE fun ka1 hx ma1 sx fx na1 => ?_
           have b1 : h2 ka1 = none := zz.none_of na1
           try replace rp := rp.hs sx (fun cs x r => RPd.hs sx M.length r)
           try replace rr := rr.hs sx (fun cs x r => RPd.hs sx M.length r)
           replace mz := sx _ _ mz
           replace zz := zz.trans sx)
      refine qJ ?_; repeat' (first | ((with_reducible apply qI) <;> try simp only [qN, qC, qE, qG, qD, qA, qF, seval, qQ, qO, qP, qL, qY, qZ, zC, yS, yL, qH mz zS, qH mz gV, qH mz zD]))
      have u0 : ([Value.int IntKind.i64 0, Value.slice none 0 0, Value.slice none 0 0, Value.int IntKind.i64 0, Value.int IntKind.i64 0, Value.slice none 0 0, Value.int IntKind.i64 0, Value.slice none 0 0, Value.slice none 0 0, Value.slice none 0 0] : List Value).all vO = true := rfl
      first
        | (refine xY ma1 xX rfl (by decide) hcp.1 rfl hcp.2.1 fun hx mx fx => ?_
           replace rp := RPn.hxd ma1 u0 ⟨rfl, rfl⟩ fx rp
           replace rr := RPn.hxd ma1 u0 ⟨rfl, rfl⟩ fx rr
           replace ma2 := (fx ka2 kne.symm).trans ma2
           replace zz := zz.upd b1 fx
           clear ma1
           have ma1 := mx)
        | (refine xY ma2 xX rfl (by decide) hcp.1 rfl hcp.2.1 fun hx mx fx => ?_
           replace rp := RPn.hxd ma2 u0 ⟨rfl, rfl⟩ fx rp
           replace rr := RPn.hxd ma2 u0 ⟨rfl, rfl⟩ fx rr
           replace ma1 := (fx ka1 kne).trans ma1
           replace zz := zz.upd b2 fx
           clear ma2
           have ma2 := mx)
      refine qJ ?_; repeat' (first | ((with_reducible apply qI) <;> try simp only [qN, qC, qE, qG, qD, qA, qF, seval, qQ, qO, qP, qL, qY, qZ, zC, yS, yL]))
      first
        | (refine xY ma1 xX rfl (by decide) hcq.1 rfl hcq.2.1 fun hy my fy => ?_
           replace rp := RPn.hxd ma1 u0 ⟨rfl, rfl⟩ fy rp
           replace rr := RPn.hxd ma1 u0 ⟨rfl, rfl⟩ fy rr
           replace ma2 := (fy ka2 kne.symm).trans ma2
           replace zz := zz.upd b1 fy
           refine qJ ?_; repeat' (first | ((with_reducible apply qI) <;> try simp only [qN, qC, qE, qG, qD, qA, qF, seval, qQ, qO, qP, qL, qY, qZ, zC, yS, yL]))
           exact ⟨zz, ka2, ka1, cp, cq, rfl, rfl, ma2, my, rp, rr⟩)
        | (refine xY ma2 xX rfl (by decide) hcq.1 rfl hcq.2.1 fun hy my fy => ?_
           replace rp := RPn.hxd ma2 u0 ⟨rfl, rfl⟩ fy rp
           replace rr := RPn.hxd ma2 u0 ⟨rfl, rfl⟩ fy rr
           replace ma1 := (fy ka1 kne).trans ma1
           replace zz := zz.upd b2 fy
           refine qJ ?_; repeat' (first | ((with_reducible apply qI) <;> try simp only [qN, qC, qE, qG, qD, qA, qF, seval, qQ, qO, qP, qL, qY, qZ, zC, yS, yL]))
           exact ⟨zz, ka1, ka2, cp, cq, rfl, rfl, ma1, my, rp, rr⟩)
  rintro _ e' h3 ⟨rfl, s23, k9, k10, cp, cq, q9, q10, m9, m10, rp, rr⟩
  rw [jV]
  refine dH [(9, .pointer (some ⟨k9, 0, none⟩)), (10, .pointer (some ⟨k10, 0, none⟩))] (by simp [q9, q10]) ?_
  clear q9 q10
  have S3 := S2.trans s23
  have t3 := t.hs S3
  have hbk := zU6 ti nok kb (q := ⟨fr, sm, zL id, lim⟩) ro
  generalize qQ1 M ⟨fr, sm, zL id, lim⟩ rt = p at rp rr hbk
  have l9 := zI (P := Tryz.prog) (t := 26) m9 xX rp.len.1
  have l10 := zI (P := Tryz.prog) (t := 26) m10 xX rr.len.1
  simp only at l9 l10
  have lx : ∀ {h8 : GH}, HS h3 h8 → wZ Tryz.prog 26 h8 (.pointer (some ⟨k9, 0, none⟩)) = some (.agg cp.toArray) := fun s => yO s l9
  have ly : ∀ {h8 : GH}, HS h3 h8 → wZ Tryz.prog 26 h8 (.pointer (some ⟨k10, 0, none⟩)) = some (.agg cq.toArray) := fun s => yO s l10
  have px : ∀ {h8 : GH}, HS h3 h8 → RPn (RPd M.length) h8 cp p := fun s => rp.hs s (fun cs x r => RPd.hs s M.length r)
  have py : ∀ {h8 : GH}, HS h3 h8 → RPn (RPd M.length) h8 cq p := fun s => rr.hs s (fun cs x r => RPd.hs s M.length r)
  refine qJ ?_; repeat' (first | with_reducible apply qK | ((first | (with_reducible apply qI) | with_reducible refine zE yL xC (by kernel_rfl) ?_) <;> try simp only [qN, qC, qE, qG, qD, qA, qF, seval, qQ, qO, qP, qL, qY, qZ, zC, yS, yL, l9, l10, gPick]))
  refine (qH4 N M.length rp rr hbk).mono ?_
  rintro _ h4 ⟨rfl, s4⟩
  refine qJ ?_; repeat' (first | ((with_reducible apply qI) <;> try simp only [qN, qC, qE, qG, qD, qA, qF, seval, qQ, qO, qP, qL, qY, qZ, zC, yS, yL, lx s4, ly s4, gPick]))
  refine (c_SText N 4 M.length (t3.hs s4) (px s4) hbk).mono ?_
  rintro _ h5 ⟨s5, a5, c5, rfl, q5, _, _⟩
  have S5 := s4.trans s5
  refine qJ ?_; repeat' (first | ((with_reducible apply qI) <;> try simp only [qN, qC, qE, qG, qD, qA, qF, seval, qQ, qO, qP, qL, qY, qZ, zC, yS, yL, lx S5, ly S5, gPick]))
  refine (c_rSText N 4 M.length (py S5) hbk).mono ?_
  rintro _ h6 ⟨s6, a6, c6, rfl, q6, _, _⟩
  have S6 := S5.trans s6
  refine qJ ?_; repeat' (first | ((first | (with_reducible apply qI) | ((refine GTri.mono (qZ4 _ _ (q5.hs s6) q6) ?_); rintro _ _ ⟨rfl, hh9⟩; replace hh9 := hh9.symm; subst hh9)) <;> try simp only [qN, qC, qE, qG, qD, qA, qF, seval, qQ, qO, qP, qL, qY, qZ, zC, yS, yL, lx S6, ly S6, beq_self_eq_true, gPick]))
  refine (qZ5 N M.length (px S6) hbk).mono ?_
  rintro _ h7 ⟨rfl, s7⟩
  have S7 := S6.trans s7
  refine qJ ?_; repeat' (first | ((with_reducible apply qI) <;> try simp only [qN, qC, qE, qG, qD, qA, qF, seval, qQ, qO, qP, qL, qY, qZ, zC, yS, yL, lx S7, ly S7, gPick]))
  refine (qN8 N M.length (py S7) hbk).mono ?_
  rintro _ h8 ⟨rfl, s8⟩
  have S8 := S7.trans s8
  refine qJ ?_; repeat' (first | ((with_reducible apply qI) <;> try simp only [qN, qC, qE, qG, qD, qA, qF, seval, qQ, qO, qP, qL, qY, qZ, zC, yS, yL, lx S8, ly S8, beq_self_eq_true, gPick]))
  refine (qN9 N 4 M.length (px S8) hbk).mono ?_
  rintro _ h9 ⟨rfl, s9⟩
  have S9 := S8.trans s9
  refine qJ ?_; repeat' (first | ((with_reducible apply qI) <;> try simp only [qN, qC, qE, qG, qD, qA, qF, seval, qQ, qO, qP, qL, qY, qZ, zC, yS, yL, lx S9, ly S9, gPick]))
  refine (qT8 N 4 M.length (py S9) hbk).mono ?_
  rintro _ h10 ⟨rfl, s10⟩
  have S10 := S9.trans s10
  refine qJ ?_; repeat' (first | ((with_reducible apply qI) <;> try simp only [qN, qC, qE, qG, qD, qA, qF, seval, qQ, qO, qP, qL, qY, qZ, zC, yS, yL, lx S10, ly S10, beq_self_eq_true, gPick]))
  refine (zT5 N (t3.hs S10)).mono ?_
  rintro _ h11 ⟨rfl, s11⟩
  refine qJ ?_; repeat' (first | ((with_reducible first | apply qI | apply qM) <;> try simp only [qN, qC, qE, qG, qD, qA, qF, seval, qQ, qO, qP, qL, qY, qZ, zC, yS, yL, gPick]))
end Go.Gh
namespace Go.Gh
open Go Go.Proofs Go.RowKit Go.ChangeShapes Go.WideShapes Go.ChangeAt
set_option linter.unusedVariables false
set_option linter.unusedSimpArgs false
set_option maxRecDepth 100000
set_option maxHeartbeats 1000000
abbrev puTy : Ty := .fcons .bs (.fcons .bs (.fcons (.i .i64) .fnil))
def puv (x : puTy.den) : Pt := ((x.1, x.2.1), x.2.2.1)
theorem pu_R {h : GH} {cs : List Value} {x : puTy.den} (r : puTy.R h cs x) : RPut h cs (puv x) := by
  obtain ⟨y1, y2, y3, y4⟩ := x
  obtain ⟨_, _, rfl, _, ⟨v1, rfl, r1, _⟩, _, _, rfl, _, ⟨v2, rfl, r2, _⟩, _, _, rfl, _, ⟨rfl, _⟩, rfl⟩ := r
  obtain ⟨a1, c1, rfl, _⟩ := r1.form
  obtain ⟨a2, c2, rfl, _⟩ := r2.form
  exact ⟨a1, c1, a2, c2, rfl, r1, r2⟩
theorem zN2 (x : puTy.den) : (puv x).1.1.length + (puv x).1.2.length + 3 = puTy.bulk x := by
  obtain ⟨y1, y2, y3, y4⟩ := x
  show List.length y1 + List.length y2 + 3 = (List.length y1 + 1) + ((List.length y2 + 1) + (1 + 0))
  omega
theorem zA6 {α : Type} (g : α → Nat) : ∀ {l : List α} {x : α}, x ∈ l → g x ≤ (l.map g).sum
  | y :: l, x, h => by
    rcases List.mem_cons.1 h with rfl | h
    · simp only [List.map_cons, List.sum_cons]; omega
    · have := zA6 g h
      simp only [List.map_cons, List.sum_cons]; omega
section
variable {H : Type} {enc : TypeId × Value → H} {W : World} {base b0 : Nat} {v : Value} {d : DataW H} {ps : List MemPlace} {r : Reach}
theorem arg_puts {t : TypeId} (ok : Ty.ok Tryz.prog (.sl puTy) t = true) (h : DataW.Trod enc Tryz.prog W base (fun _ => true) true t v d ps) (hok : Value.okWide Tryz.prog W r b0 t v) :
    ∃ (l : List Pt) (a : Option Addr) (c : Nat), up W.heap.size v = .slice a l.length c ∧ RL 3 RPut (h0 W) (.slice a l.length c) l ∧ ∀ B A, BulkOk B A → l.length ≤ B d ∧ ∀ x ∈ l, x.1.1.length ≤ B d ∧ x.1.2.length ≤ B d := by
  obtain ⟨l, a, c, e, R, _, hb, _⟩ := arg_sl puTy ok h hok
  have hl : (l.map puv).length = l.length := List.length_map _
  refine ⟨l.map puv, a, c, by rw [hl]; exact e, by rw [hl]; exact RL.map (R' := RPut) R _ fun cs x hx => pu_R hx, fun B A k => ?_⟩
  have h1 := hb B A k
  have h2 := qV4 puTy.bulk (fun x => by rw [← zN2 x]; omega) l
  refine ⟨by rw [hl]; omega, fun x hx => ?_⟩
  obtain ⟨z, hz, rfl⟩ := List.mem_map.1 hx
  have h3 := zA6 puTy.bulk hz
  have h4 := zN2 z
  omega
abbrev pgTy : Ty := .fcons (.i .i64) (.fcons (.i .i64) (.fcons .b (.fcons .bs .fnil)))
theorem arg_pg (h : DataW.Trod enc Tryz.prog W base (fun _ => true) true 54 v d ps) (hok : Value.okWide Tryz.prog W r b0 54 v) :
    ∃ (fr lim : Int) (sm : Bool) (id : List UInt8) (a : Option Addr) (c : Nat), up W.heap.size v = .agg #[.int .i64 fr, .int .i64 lim, .bool sm, .slice a id.length c] ∧ RB (h0 W) (.slice a id.length c) id ∧ ∀ B A, BulkOk B A → id.length ≤ B d := by
  obtain ⟨y, cs, e1, R1, hb, _⟩ := arg_st pgTy Tryz.underlying54 (by kernel_rfl) h hok
  obtain ⟨y1, y2, y3, y4, y5⟩ := y
  obtain ⟨_, _, rfl, _, ⟨rfl, _⟩, _, _, rfl, _, ⟨rfl, _⟩, _, _, rfl, _, rfl, _, _, rfl, _, ⟨w, rfl, r1, _⟩, rfl⟩ := R1
  obtain ⟨a, c, rfl, _⟩ := r1.form
  refine ⟨y1, y2, y3, y4, a, c, e1, r1, fun B A k => ?_⟩
  have h1 : 1 + (1 + (1 + ((List.length y4 + 1) + 0))) ≤ B d := hb B A k
  exact Nat.le_trans (by omega) h1
end
end Go.Gh
