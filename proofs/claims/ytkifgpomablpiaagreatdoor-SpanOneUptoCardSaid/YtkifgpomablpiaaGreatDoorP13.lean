/- Parts of this claim's proof, 13. No statement of the claim stands here. -/
import Derived.Test.YtkifgpomablpiaaGreatDoorP12
namespace Go.Gh
open Go Go.Proofs Go.RowKit
set_option linter.unusedVariables false
set_option linter.unusedSimpArgs false
set_option maxRecDepth 100000
set_option maxHeartbeats 4000000
theorem dI : type_of% (And.intro zG (And.intro wZ (And.intro wY (And.intro xB (And.intro uT rs29))))) := And.intro zG (And.intro wZ (And.intro wY (And.intro xB (And.intro uT rs29))))
theorem yS : type_of% (And.intro Tryz.underlying80 (And.intro zG (And.intro wZ (And.intro wY (And.intro xB (And.intro wH (And.intro ty80 rs70))))))) := And.intro Tryz.underlying80 (And.intro zG (And.intro wZ (And.intro wY (And.intro xB (And.intro wH (And.intro ty80 rs70))))))
theorem mC : type_of% (And.intro zG (And.intro wZ (And.intro wY (And.intro xB (And.intro mZ rs25))))) := And.intro zG (And.intro wZ (And.intro wY (And.intro xB (And.intro mZ rs25))))
theorem mA : type_of% (And.intro zG (And.intro wZ (And.intro wY (And.intro xB (And.intro wH rs34))))) := And.intro zG (And.intro wZ (And.intro wY (And.intro xB (And.intro wH rs34))))
def gE (size : Int) (n : Nat) (p : Pn (Pd n)) : Bool := !(decide (size < 1) || decide (size > 32)) && !decide ((kD n p : Int) > 4096) && wO size n p
def qG1 (size : Int) (n : Nat) (p : Pn (Pd n)) : List UInt8 := if gE size n p = true then vA size n p else []
theorem kE {size : Int} {n : Nat} {p : Pn (Pd n)} (h : gE size n p = true) : 1 ≤ size ∧ size ≤ 32 ∧ wO size n p = true := by
  unfold gE at h
  simp only [Bool.and_eq_true, Bool.not_eq_true', Bool.or_eq_false_iff, decide_eq_false_iff_not] at h
  exact ⟨by omega, by omega, h.2⟩
theorem zR4 {α : Type} {f : α → Bool} : ∀ {l : List α} {i : Nat} {v : α}, l.all f = true → f v = true → (l.set i v).all f = true
  | [], _, _, h, _ => h
  | x :: l, 0, v, h, hv => by
    simp only [List.all_cons, Bool.and_eq_true] at h
    simp [List.set_cons_zero, hv, h.2]
  | x :: l, i + 1, v, h, hv => by
    simp only [List.all_cons, Bool.and_eq_true] at h
    simp [List.set_cons_succ, h.1, zR4 h.2 hv]
theorem pS {size : Int} {n : Nat} {p : Pn (Pd (n + 1))} (h : wO size (n + 1) p = true) (h3 : p.kd = 3) : ∃ a b : Pn (Pd n), p.kids = [a, b] ∧ kJ p 0 a = true ∧ wO size n a = true ∧ kJ p 1 b = true ∧ wO size n b = true ∧ max (max 0 a.newest) b.newest = p.nw := by
  simp only [wO, h3, beq_self_eq_true, Bool.not_true, Bool.false_or, Bool.and_eq_true] at h
  obtain ⟨_, h⟩ := h
  split at h
  · rename_i a b hk
    simp only [Bool.and_eq_true, beq_iff_eq] at h
    obtain ⟨⟨⟨h1, h2⟩, h4, h5⟩, h6⟩ := h
    exact ⟨a, b, hk, h1, h2, h4, h5, h6⟩
  · cases h
theorem rX {size : Int} (hs : size ≤ 32) {n : Nat} {p : Pn (Pd n)} (h : wO size n p = true) : (vA size n p).length ≤ 1000 ∧ vA size n p ≠ [] := by
  have hr := vG h
  by_cases h3 : p.kd = 3
  · obtain ⟨k, a, b, _, ho, _⟩ := gV h h3
    rw [tP h3 ho]
    have fk : p.frk = true := by rcases p.kinds hr with q | q | q <;> first | omega | exact q.2
    have fk := p.frk_ok fk
    have := qT2 p.dp.toNat p.pf p.nw.toNat (vB size (vA size k a)) (vB size (vA size k b))
    have := jM size (vA size k a)
    have := jM size (vA size k b)
    exact ⟨by omega, by simp [vE, yL]⟩
  · rw [jZ h3]
    exact ⟨zM1 hr hs, zV7 p⟩
theorem zG8 (N : Nat) (size : Int) (n : Nat) {h : GH} {cs : List Value} {p : Pn (Pd n)} (r : RPn (RPd n) h cs p) (hk : Pn.bulk (Pd.bulk n) p ≤ 100000000) :
    GTri Tryz.prog N 29 [.int .i64 size, .agg cs.toArray] h fun v h' => v = .int .i64 (cond (gE size n p) 0 95) ∧ HS h h' := by
  have hcs := r.len
  unfold gE
  refine zU Tryz.func29 rfl gf29 ok29 (by simp [Tryz.ntmps29]) ?_
  repeat' (first | with_reducible apply qK | ((with_reducible apply qB) <;> try simp only [qN, qC, qE, qG, qD, qA, qF, seval, qQ, qO, qP, dI]))
  refine wD hcs.2.1 fun k1 h1 m1 s1 f1 n1 => ?_
  have ld := zH (P := Tryz.prog) (t := 26) m1 wL hcs.1
  cases z0 : decide (size < 1)
  case true =>
    refine qJ ?_; repeat' (first | with_reducible apply qK | ((with_reducible first | apply qI | apply qB | apply qR | apply qM) <;> try simp only [qN, qC, qE, qG, qD, qA, qF, seval, qQ, qO, qP, dI, z0, gPick]))
    exact ⟨by first | rfl | simp, s1⟩
  cases z1 : decide (size > 32)
  case true =>
    refine qJ ?_; repeat' (first | with_reducible apply qK | ((with_reducible first | apply qI | apply qB | apply qR | apply qM) <;> try simp only [qN, qC, qE, qG, qD, qA, qF, seval, qQ, qO, qP, dI, z0, z1, gPick]))
    exact ⟨by first | rfl | simp, s1⟩
  simp only [Bool.or_false, Bool.not_false, Bool.true_and]
  refine qJ ?_; repeat' (first | with_reducible apply qK | ((with_reducible first | apply qI | apply qB) <;> try simp only [qN, qC, qE, qG, qD, qA, qF, seval, qQ, qO, qP, dI, z0, z1, gPick, ld]))
  refine (zR1 N n (r.hs s1 (fun cs x r => RPd.hs s1 n r)) hk).mono ?_
  rintro _ h2 ⟨rfl, s2⟩
  have S2 := s1.trans s2
  cases z2 : decide ((kD n p : Int) > 4096)
  case true =>
    refine qJ ?_; repeat' (first | with_reducible apply qK | ((with_reducible first | apply qI | apply qB | apply qR | apply qM) <;> try simp only [qN, qC, qE, qG, qD, qA, qF, seval, qQ, qO, qP, dI, z2, gPick]))
    exact ⟨by first | rfl | simp, S2⟩
  simp only [Bool.not_false, Bool.true_and]
  have ld2 := xT s2 ld
  refine qJ ?_; repeat' (first | ((with_reducible apply qI) <;> try simp only [qN, qC, qE, qG, qD, qA, qF, seval, qQ, qO, qP, dI, z2, gPick, ld2]))
  refine (c_may N size n (r.hs S2 (fun cs x r => RPd.hs S2 n r)) hk).mono ?_
  rintro _ h3 ⟨rfl, s3⟩
  have S3 := S2.trans s3
  cases hm : wO size n p
  case false =>
    refine qJ ?_; repeat' (first | with_reducible apply qK | ((with_reducible first | apply qI | apply qB | apply qR | apply qM) <;> try simp only [qN, qC, qE, qG, qD, qA, qF, seval, qQ, qO, qP, dI, gPick]))
    exact ⟨by first | rfl | simp, S3⟩
  refine qJ ?_; repeat' (first | with_reducible apply qK | ((with_reducible first | apply qI | apply qB | apply qR | apply qS | apply qM) <;> try simp only [qN, qC, qE, qG, qD, qA, qF, seval, qQ, qO, qP, dI, gPick]))
  exact ⟨by first | rfl | simp, S3⟩
theorem c_stext (N : Nat) {size : Int} (hs : size ≤ 32) : ∀ (n : Nat) {h : GH} (t : TK h) {cs : List Value} {p : Pn (Pd n)} (r : RPn (RPd n) h cs p) (hm : wO size n p = true) (hk : Pn.bulk (Pd.bulk n) p ≤ 100000000),
    GTri Tryz.prog N 70 [.int .i64 size, .agg cs.toArray] h fun v h' => HS h h' ∧ ∃ a c, v = .slice a (vA size n p).length c ∧ RB h' (.slice a (vA size n p).length c) (vA size n p) ∧ SL h' (.slice a (vA size n p).length c) := by
  intro n
  induction n with
  | zero =>
    intro h t cs p r hm hk
    have hr := vG hm
    have k3 : p.kd ≠ 3 := fun q => by
      obtain ⟨a, b, e⟩ := rN hr q
      exact nomatch (show Empty from a)
    have r0 := r
    have hcs := r.len
    have e3' : (p.kd != 3) = true := by simp [k3]
    rw [jZ k3]
    refine zU Tryz.func70 rfl gf70 ok70 (by simp [Tryz.ntmps70]) ?_
    repeat' (first | with_reducible apply qK | ((with_reducible apply qB) <;> try simp only [qN, qC, qE, qG, qD, qA, qF, seval, qQ, qO, qP, yS]))
    refine wD hcs.2.1 fun k1 h1 m1 s1 f1 n1 => ?_
    have ld := zH (P := Tryz.prog) (t := 26) m1 wL hcs.1
    have m1' := m1
    obtain ⟨a1, c1, a2, c2, a3, c3, a4, c4, a5, c5, a6, c6, ecs, _⟩ := r
    rw [ecs] at m1'
    simp only [Pn.cs] at m1'
    refine qJ ?_; repeat' (first | with_reducible apply qK | ((with_reducible first | apply qI | apply qB | apply qR) <;> try simp only [qN, qC, qE, qG, qD, qA, qF, seval, qQ, qO, qP, yS, qH m1' zT, e3', ld]))
    refine (zR2 N (RPn.hs s1 (fun cs x r => RPd.hs s1 0 r) r0) hr hs).mono ?_
    rintro _ h2 ⟨s2, a7, c7, rfl, q1, q2⟩
    refine qJ ?_; repeat' (first | ((with_reducible first | apply qI | apply qM) <;> try simp only [qN, qC, qE, qG, qD, qA, qF, seval, qQ, qO, qP, yS]))
    exact ⟨s1.trans s2, a7, c7, rfl, q1, q2⟩
  | succ n ih =>
    intro h t cs p r hm hk
    have hr := vG hm
    by_cases k3 : p.kd = 3
    case neg =>
      have r0 := r
      have hcs := r.len
      have e3' : (p.kd != 3) = true := by simp [k3]
      rw [jZ k3]
      refine zU Tryz.func70 rfl gf70 ok70 (by simp [Tryz.ntmps70]) ?_
      repeat' (first | with_reducible apply qK | ((with_reducible apply qB) <;> try simp only [qN, qC, qE, qG, qD, qA, qF, seval, qQ, qO, qP, yS]))
      refine wD hcs.2.1 fun k1 h1 m1 s1 f1 n1 => ?_
      have ld := zH (P := Tryz.prog) (t := 26) m1 wL hcs.1
      have m1' := m1
      obtain ⟨a1, c1, a2, c2, a3, c3, a4, c4, a5, c5, a6, c6, ecs, _⟩ := r
      rw [ecs] at m1'
      simp only [Pn.cs] at m1'
      refine qJ ?_; repeat' (first | with_reducible apply qK | ((with_reducible first | apply qI | apply qB | apply qR) <;> try simp only [qN, qC, qE, qG, qD, qA, qF, seval, qQ, qO, qP, yS, qH m1' zT, e3', ld]))
      refine (zR2 N (RPn.hs s1 (fun cs x r => RPd.hs s1 (n + 1) r) r0) hr hs).mono ?_
      rintro _ h2 ⟨s2, a7, c7, rfl, q1, q2⟩
      refine qJ ?_; repeat' (first | ((with_reducible first | apply qI | apply qM) <;> try simp only [qN, qC, qE, qG, qD, qA, qF, seval, qQ, qO, qP, yS]))
      exact ⟨s1.trans s2, a7, c7, rfl, q1, q2⟩
    have r0 := r
    have hbp := Pn.bulk_parts p
    obtain ⟨a1, c1, a2, c2, a3, c3, a4, c4, a5, c5, a6, c6, rfl, r1, r2, r3, r4, r5, r6⟩ := r
    have e3' : (p.kd != 3) = false := by simp [k3]
    obtain ⟨a, b, hkids, _, ma, _, mb, _⟩ := pS hm k3
    have fk : p.frk = true := by rcases p.kinds hr with q | q | q <;> first | omega | exact q.2
    have fk := p.frk_ok fk
    obtain ⟨dp, hdp⟩ : ∃ w : Nat, p.dp = (w : Int) := ⟨p.dp.toNat, by omega⟩
    obtain ⟨nw, hnw⟩ : ∃ w : Nat, p.nw = (w : Int) := ⟨p.nw.toNat, by omega⟩
    have hkl : p.kids.length = 2 := by rw [hkids]; rfl
    rw [tP (n := n + 1) (a := a) (b := b) k3 ⟨rfl, hkids⟩, hdp, hnw, Int.toNat_natCast, Int.toNat_natCast]
    refine zU Tryz.func70 rfl gf70 ok70 (by simp [Tryz.ntmps70]) ?_
    repeat' (first | with_reducible apply qK | ((with_reducible apply qB) <;> try simp only [qN, qC, qE, qG, qD, qA, qF, seval, qQ, qO, qP, yS]))
    refine wD rfl fun k1 h1 m1 s1 f1 n1 => ?_
    simp only [Pn.cs] at m1
    rw [hkl] at m1
    refine qJ ?_; repeat' (first | with_reducible apply qK | ((with_reducible first | apply qI | apply qB | apply qR | apply qS) <;> try simp only [qN, qC, qE, qG, qD, qA, qF, seval, qQ, qO, qP, yS, qH m1 zT, e3']))
    refine xQ fun k5 h5 m5 s5 f5 n5 => ?_
    have S5 := s1.trans s5
    have m15 := s5 _ _ m1
    have k15 : k1 ≠ k5 := yX m1 n5
    have n5h : h k5 = none := s1.none_of n5
    have sb : HS h (gX k5 h5) := mH S5 n5h
    have sb5 : HS (gX k5 h5) h5 := sU k5 h5
    have m1b := (qA2 h5 _ k15).trans m15
    have nb5 : gX k5 h5 k5 = none := qL5 k5 h5
    generalize gX k5 h5 = hb at sb sb5 m1b nb5
    refine qJ ?_; repeat' (first | (with_reducible first | apply qK | apply qT) | ((with_reducible first | apply qI | apply qB) <;> try simp only [qN, qC, qE, qG, qD, qA, qF, seval, qQ, qO, qP, yS, qH m15 wQ]))
    refine xN [0, 3, 4, 5, 14, 15] (fun (j : Nat) => [(16, .int .i64 (j : Int))]) (fun q j h' => 2 - j = q ∧ j ≤ 2 ∧ HS hb h' ∧ ∃ L : List Value, L.length = 2 ∧ h' k5 = some ⟨L, 0, true, false⟩ ∧ L.all yP = true ∧ ∀ (i : Nat) (x : Pn (Pd n)), i < j → p.kids[i]? = some x → ∃ a c, L[i]? = some (.slice a (vB size (vA size n x)).length c) ∧ RB h' (.slice a (vB size (vA size n x)).length c) (vB size (vA size n x))) 2 0 (by simp [lk]) ⟨rfl, by omega, sb5, _, rfl, m5, rfl, fun i x hi => by omega⟩ ?_
    rintro _ j h6 ⟨rfl, hj, s6, L, hL, m6, hu, hel⟩
    have S6 := sb.trans s6
    have m16 := s6 _ _ m1b
    by_cases hj2 : j = 2
    · subst hj2
      obtain ⟨a7, c7, g7, q7⟩ := hel 0 a (by omega) (by rw [hkids]; rfl)
      obtain ⟨a8, c8, g8, q8⟩ := hel 1 b (by omega) (by rw [hkids]; rfl)
      have gi0 : zI Tryz.prog 80 (.pointer (some ⟨k5, 0, none⟩)) 0 = some (.pointer (some ⟨k5, 0, none⟩)) := gi80 (i := 0) (by omega)
      have gi1 : zI Tryz.prog 80 (.pointer (some ⟨k5, 0, none⟩)) 1 = some (.pointer (some ⟨k5, 1, none⟩)) := gi80 (i := 1) (by omega)
      have l0 : vD Tryz.prog 22 h6 (.pointer (some ⟨k5, 0, none⟩)) = _ := (qH (P := Tryz.prog) (t := 22) m6 zD).trans g7
      have l1 : vD Tryz.prog 22 h6 (.pointer (some ⟨k5, 1, none⟩)) = _ := (qH (P := Tryz.prog) (t := 22) m6 zD).trans g8
      have la := jM size (vA size n a)
      have lb := jM size (vA size n b)
      refine qJ ?_; repeat' (first | with_reducible apply qK | ((with_reducible first | apply qI | apply qB | apply qR | apply xO) <;> try simp only [qN, qC, qE, qG, qD, qA, qF, seval, qQ, qO, qP, yS, qH m16 zT, qH m16 zD, gi0, gi1, l0, l1, hdp, hnw]))
      refine (c_Fork N (d := dp) (w := nw) (by omega) (by omega) (r3.hs S6) q7 q8 (by omega) (by omega) (by omega)).mono ?_
      rintro _ h7 ⟨s7, a9, c9, rfl, q9, sl9⟩
      refine qJ ?_; repeat' (first | ((with_reducible first | apply qI | apply qM) <;> try simp only [qN, qC, qE, qG, qD, qA, qF, seval, qQ, qO, qP, yS]))
      exact ⟨S6.trans s7, a9, c9, rfl, q9, sl9⟩
    have d0 : decide ((j : Int) < 2) = true := decide_eq_true (by omega)
    have wj : IntKind.i64.wrap ((j : Int) + 1) = ((j + 1 : Nat) : Int) := by rw [wrap64 (by omega) (by omega)]; omega
    obtain ⟨x, hx, mx⟩ : ∃ x : Pn (Pd n), p.kids[j]? = some x ∧ wO size n x = true := by
      have : j = 0 ∨ j = 1 := by omega
      rcases this with rfl | rfl
      · exact ⟨a, by rw [hkids]; rfl, ma⟩
      · exact ⟨b, by rw [hkids]; rfl, mb⟩
    have hxb := Pn.kids_bulk (p := p) (x := x) (List.mem_of_getElem? hx)
    obtain ⟨ad, cs5, g1, g2, e1⟩ := RL.at (P := Tryz.prog) (RL.hs S6 (fun cs x r => RPd.hs S6 (n + 1) r) r6) Tryz.underlying24 wL hx
    rw [hkl] at g1
    have e1' : RPn (RPd n) h6 cs5 x := e1
    have hc := RPd.cells e1
    have tl := rX hs mx
    refine qJ ?_; repeat' (first | (with_reducible first | apply qK | apply qT) | ((with_reducible first | apply qI | apply qB | apply qR | apply qS) <;> try simp only [qN, qC, qE, qG, qD, qA, qF, seval, qQ, qO, qP, yS, d0, g1, jN wL g2]))
    refine xQ fun k7 h7 m7 s7 f7 n7 => ?_
    refine qJ ?_; repeat' (first | ((with_reducible apply qI) <;> try simp only [qN, qC, qE, qG, qD, qA, qF, seval, qQ, qO, qP, yS]))
    refine wT m7 wL rfl (by decide) hc.2 rfl hc.1 fun h8 m8 f8 => ?_
    have s68 := s7.upd n7 f8
    have ld8 := zH (P := Tryz.prog) (t := 26) m8 wL hc.2
    refine qJ ?_; repeat' (first | ((with_reducible first | apply qI | apply qB) <;> try simp only [qN, qC, qE, qG, qD, qA, qF, seval, qQ, qO, qP, yS, ld8]))
    refine (ih (t.hs (S6.trans s68)) (e1'.hs s68 (fun cs x r => RPd.hs s68 n r)) mx (by omega)).mono ?_
    rintro _ h9 ⟨s9, a10, c10, rfl, q10, sl10⟩
    refine qJ ?_; repeat' (first | ((with_reducible apply qI) <;> try simp only [qN, qC, qE, qG, qD, qA, qF, seval, qQ, qO, qP, yS]))
    refine (qO3 N (t.hs ((S6.trans s68).trans s9)) q10 sl10 (by omega) size).mono ?_
    rintro _ h10 ⟨s10, a11, c11, rfl, q11, _⟩
    have s6_10 := (s68.trans s9).trans s10
    have m6_10 := s6_10 _ _ m6
    have gij : zI Tryz.prog 80 (.pointer (some ⟨k5, 0, none⟩)) (j : Int) = some (.pointer (some ⟨k5, j, none⟩)) := gi80 (by omega)
    refine qJ ?_; repeat' (first | ((with_reducible apply qI) <;> try simp only [qN, qC, qE, qG, qD, qA, qF, seval, qQ, qO, qP, yS, gij]))
    refine zY m6_10 zD rfl (by simp only [hL]; omega) rfl rfl fun h11 m11 f11 => ?_
    refine qJ ?_; repeat' (first | ((with_reducible first | apply qI | apply qB) <;> try simp only [qN, qC, qE, qG, qD, qA, qF, seval, qQ, qO, qP, yS, wj]))
    refine ⟨_, j + 1, by omega, (by simp only [List.forall_mem_cons, List.not_mem_nil, false_implies, implies_true, List.map, List.cons_append, List.nil_append, lk, Nat.reduceEqDiff, reduceIte, and_true, true_and]), rfl, by omega, (s6.trans s6_10).upd nb5 f11, L.set j (.slice a11 (vB size (vA size n x)).length c11), by rw [List.length_set, hL], m11, zR4 hu rfl, fun i z hi hz => ?_⟩
    by_cases hij : i = j
    · subst hij
      rw [hx] at hz
      cases hz
      exact ⟨a11, c11, by rw [List.getElem?_set_self (by omega)], q11.hx m6_10 hu (zJ f11)⟩
    · obtain ⟨a12, c12, g12, q12⟩ := hel i z (by omega) hz
      exact ⟨a12, c12, by rw [List.getElem?_set_ne (by omega)]; exact g12, (q12.hs s6_10).hx m6_10 hu (zJ f11)⟩
theorem c_SText (N : Nat) (size : Int) (n : Nat) {h : GH} (t : TK h) {cs : List Value} {p : Pn (Pd n)} (r : RPn (RPd n) h cs p) (hk : Pn.bulk (Pd.bulk n) p ≤ 100000000) :
    GTri Tryz.prog N 25 [.int .i64 size, .agg cs.toArray] h fun v h' => HS h h' ∧ ∃ a c, v = .slice a (qG1 size n p).length c ∧ RB h' (.slice a (qG1 size n p).length c) (qG1 size n p) ∧ SL h' (.slice a (qG1 size n p).length c) ∧ a.isNone = !gE size n p := by
  have hcs := r.len
  unfold qG1
  refine zU Tryz.func25 rfl gf25 ok25 (by simp [Tryz.ntmps25]) ?_
  repeat' (first | with_reducible apply qK | ((with_reducible apply qB) <;> try simp only [qN, qC, qE, qG, qD, qA, qF, seval, qQ, qO, qP, mC]))
  refine wD hcs.2.1 fun k1 h1 m1 s1 f1 n1 => ?_
  have ld := zH (P := Tryz.prog) (t := 26) m1 wL hcs.1
  refine qJ ?_; repeat' (first | with_reducible apply qK | ((with_reducible first | apply qI | apply qB) <;> try simp only [qN, qC, qE, qG, qD, qA, qF, seval, qQ, qO, qP, mC, ld]))
  refine (zG8 N size n (r.hs s1 (fun cs x r => RPd.hs s1 n r)) hk).mono ?_
  rintro _ h2 ⟨rfl, s2⟩
  have S2 := s1.trans s2
  cases hck : gE size n p
  case false =>
    rw [if_neg (by decide)]
    refine qJ ?_; repeat' (first | with_reducible apply qK | ((with_reducible first | apply qI | apply qB | apply qR | apply qM) <;> try simp only [qN, qC, qE, qG, qD, qA, qF, seval, qQ, qO, qP, mC, cond]))
    exact ⟨S2, none, 0, rfl, RB.nil _, SL.nil _ _ _, rfl⟩
  rw [if_pos rfl]
  obtain ⟨hs1, hs2, hm⟩ := kE hck
  have ld2 := xT s2 ld
  refine qJ ?_; repeat' (first | with_reducible apply qK | ((with_reducible first | apply qI | apply qB | apply qR | apply qS) <;> try simp only [qN, qC, qE, qG, qD, qA, qF, seval, qQ, qO, qP, mC, cond, ld2]))
  refine (c_stext N hs2 n (t.hs S2) (r.hs S2 (fun cs x r => RPd.hs S2 n r)) hm hk).mono ?_
  rintro _ h3 ⟨s3, a3, c3, rfl, q1, q2⟩
  refine qJ ?_; repeat' (first | ((with_reducible first | apply qI | apply qM) <;> try simp only [qN, qC, qE, qG, qD, qA, qF, seval, qQ, qO, qP, mC]))
  refine ⟨S2.trans s3, a3, c3, rfl, q1, q2, ?_⟩
  cases ha : a3.isNone
  · rfl
  · exact absurd (q1.isnil ha) (rX hs2 hm).2
def zA0 (size : Int) (n : Nat) (p : Pn (Pd n)) : List UInt8 := if gE size n p = true then vB size (vA size n p) else []
theorem zH0 (N : Nat) (size : Int) (n : Nat) {h : GH} (t : TK h) {cs : List Value} {p : Pn (Pd n)} (r : RPn (RPd n) h cs p) (hk : Pn.bulk (Pd.bulk n) p ≤ 100000000) :
    GTri Tryz.prog N 34 [.int .i64 size, .agg cs.toArray] h fun v h' => HS h h' ∧ ∃ a c, v = .slice a (zA0 size n p).length c ∧ RB h' (.slice a (zA0 size n p).length c) (zA0 size n p) := by
  have hcs := r.len
  unfold zA0
  refine zU Tryz.func34 rfl gf34 ok34 (by simp [Tryz.ntmps34]) ?_
  repeat' (first | with_reducible apply qK | ((with_reducible apply qB) <;> try simp only [qN, qC, qE, qG, qD, qA, qF, seval, qQ, qO, qP, mA]))
  refine wD hcs.2.1 fun k1 h1 m1 s1 f1 n1 => ?_
  have ld := zH (P := Tryz.prog) (t := 26) m1 wL hcs.1
  refine qJ ?_; repeat' (first | with_reducible apply qK | ((with_reducible first | apply qI | apply qB) <;> try simp only [qN, qC, qE, qG, qD, qA, qF, seval, qQ, qO, qP, mA, ld]))
  refine (c_SText N size n (t.hs s1) (r.hs s1 (fun cs x r => RPd.hs s1 n r)) hk).mono ?_
  rintro _ h2 ⟨s2, a2, c2, rfl, q1, q2, q3⟩
  have S2 := s1.trans s2
  unfold qG1 at q1 q2 ⊢
  cases hck : gE size n p
  case false =>
    rw [hck] at q3
    rw [if_neg (by decide)]
    obtain rfl : a2 = none := by simpa using q3
    refine qJ ?_; repeat' (first | with_reducible apply qK | ((with_reducible first | apply qI | apply qB | apply qR | apply qS | apply qM) <;> try simp only [qN, qC, qE, qG, qD, qA, qF, seval, qQ, qO, qP, mA, Option.isNone_none, Bool.not_true]))
    exact ⟨S2, none, 0, rfl, RB.nil _⟩
  rw [hck, if_pos rfl] at q1 q2
  rw [hck] at q3
  rw [if_pos rfl, if_pos rfl]
  obtain ⟨hs1, hs2, hm⟩ := kE hck
  have tl := rX hs2 hm
  refine qJ ?_; repeat' (first | with_reducible apply qK | ((with_reducible first | apply qI | apply qB | apply qR) <;> try simp only [qN, qC, qE, qG, qD, qA, qF, seval, qQ, qO, qP, mA, q3, Bool.not_true, Bool.not_false]))
  refine (qO3 N (t.hs S2) q1 q2 (by omega) size).mono ?_
  rintro _ h3 ⟨s3, a3, c3, rfl, q4, _⟩
  refine qJ ?_; repeat' (first | ((with_reducible first | apply qI | apply qM) <;> try simp only [qN, qC, qE, qG, qD, qA, qF, seval, qQ, qO, qP, mA]))
  exact ⟨S2.trans s3, a3, c3, rfl, q4⟩
theorem zT8 : type_of% (And.intro zG (And.intro pI (And.intro fH (And.intro pJ (And.intro xB (And.intro uT rs116)))))) := And.intro zG (And.intro pI (And.intro fH (And.intro pJ (And.intro xB (And.intro uT rs116)))))
def qQ6 : Nat → List (Nat × List Nat) × List Nat
  | 1 => ([(0, []), (1, []), (2, []), (3, []), (4, []), (5, []), (6, []), (7, []), (8, []), (9, []), (10, [])], [0, 1, 3, 7, 15, 0, 32, 96, 224, 511, 1023])
  | _ => ([], [])
theorem mJ : type_of% (And.intro zG (And.intro wZ (And.intro pI (And.intro fH (And.intro wY (And.intro xB (And.intro uT (And.intro wH rs115)))))))) := And.intro zG (And.intro wZ (And.intro pI (And.intro fH (And.intro wY (And.intro xB (And.intro uT (And.intro wH rs115)))))))
def fI : Nat → List (Nat × List Nat) × List Nat
  | 1 => ([(0, []), (1, []), (2, []), (3, []), (4, []), (5, []), (6, []), (7, []), (8, []), (9, []), (10, []), (11, []), (12, []), (13, []), (14, []), (15, []), (16, []), (17, []), (18, []), (19, []), (20, []), (21, []), (22, []), (23, []), (24, []), (25, [])], [0, 1, 0, 4, 12, 28, 63, 127, 255, 511, 1023, 2047, 4095, 8191, 16383, 8191, 40959, 8191, 139263, 401407, 925695, 2097151, 4194303, 8388607, 16777215, 33554431])
  | _ => ([], [])
theorem yJ : type_of% (And.intro zG (And.intro wZ (And.intro pI (And.intro fH (And.intro wY (And.intro pJ (And.intro pE (And.intro xB (And.intro uT (And.intro wH rs114)))))))))) := And.intro zG (And.intro wZ (And.intro pI (And.intro fH (And.intro wY (And.intro pJ (And.intro pE (And.intro xB (And.intro uT (And.intro wH rs114)))))))))
def wV : Nat → List (Nat × List Nat) × List Nat
  | 2 => ([(0, []), (1, []), (2, []), (3, []), (4, []), (5, []), (6, []), (7, [])], [0, 1, 0, 4, 12, 28, 63, 127])
  | 3 => ([(0, []), (1, []), (2, []), (3, []), (4, []), (5, []), (6, []), (8, []), (9, []), (10, []), (11, []), (7, [11]), (12, []), (13, []), (14, []), (15, [])], [0, 1, 3, 7, 15, 31, 63, 127, 31, 287, 799, 1823, 4095, 8191, 16383, 32767])
  | 1 => ([(0, []), (1, []), (2, []), (3, []), (4, []), (5, []), (6, []), (8, []), (9, []), (11, []), (12, []), (7, [4, 9, 12]), (10, [4, 12]), (13, []), (14, [4]), (15, []), (16, []), (17, []), (18, [])], [0, 0, 2, 6, 14, 0, 32, 96, 0, 256, 992, 0, 2048, 8160, 16352, 32766, 65535, 131071, 262143])
  | _ => ([], [])
structure QP (hb h : GH) (k : Nat) (q : Pq) (s : St) (ar : Option Addr) (cr : Nat) (v : Value) (cells : List Value) : Prop where
  obj : h k = some ⟨[.int .i64 q.fr, .bool q.sm, .slice ar q.row.length cr, .int .i64 q.lim, v, .bool s.2], 0, true, false⟩
  nk : hb k = none
  row : RB hb (.slice ar q.row.length cr) q.row
  hs : HS hb h
  own : OWNC 3 hb h v s.1.length cells
  u8 : cells.all yP = true
  el : ∀ (i : Nat) x, s.1[i]? = some x → RPut h ((cells.drop (i * 3)).take 3) x
section
variable {hb h h' : GH} {k : Nat} {q : Pq} {s : St} {ar : Option Addr} {cr : Nat} {v : Value} {cells : List Value}
theorem QP.keep (x : QP hb h k q s ar cr v cells) (y : HS h h') : QP hb h' k q s ar cr v cells :=
  ⟨y _ _ x.obj, x.nk, x.row, x.hs.trans y, x.own.hs y, x.u8, fun i z hz => (x.el i z hz).hs y⟩
theorem QP.upd (x : QP hb h k q s ar cr v cells) {j : Nat} {B : GB} (m : h j = some B) (hu : B.cells.all yP = true) (he : B.es = 0) (hn : k ≠ j) (hbj : hb j = none) (f : ∀ i, i ≠ j → h' i = h i) : QP hb h' k q s ar cr v cells :=
  ⟨by rw [f k hn]; exact x.obj, x.nk, x.row, x.hs.upd hbj f, x.own.by5 m f (by rw [he]; decide), x.u8, fun i z hz => by
    obtain ⟨a, c, b, d, e, r1, r2⟩ := x.el i z hz
    exact ⟨a, c, b, d, e, r1.hx m hu (zJ f), r2.hx m hu (zJ f)⟩⟩
theorem qC0 (N : Nat) (x : QP hb h k q s ar cr v cells) : GTri Tryz.prog N 116 [.pointer (some ⟨k, 0, none⟩)] h fun u h' => u = .bool (q.full s) ∧ h' = h := by
  obtain ⟨a, c, rfl⟩ := x.own.form
  have m := x.obj
  unfold Pq.full
  refine zU Tryz.func116 rfl gf116 ok116 (by simp [Tryz.ntmps116]) ?_
  repeat' (first | with_reducible apply qK | ((first | (with_reducible first | apply qB | apply qM) | with_reducible refine zE qQ6 xG (by kernel_rfl) ?_) <;> try simp only [qN, qC, qE, qG, qD, qA, qF, seval, qQ, qO, qP, qL, qX, qZ, zC, zT8, qQ6, qH m qV5, qH m zT]))
theorem qY9 (N : Nat) (x : QP hb h k q s ar cr v cells) {K : Type} {R : GH → List Value → K → Prop} {cs : List Value} {p : Pn K} (r : RPn R h cs p) (hl : p.pf.length ≤ 100000000) (hq : q.row.length ≤ 100000000) : GTri Tryz.prog N 115 [.pointer (some ⟨k, 0, none⟩), .agg cs.toArray] h fun u h' => u = .bool (q.idle p) ∧ HS h h' := by
  obtain ⟨a1, c1, a2, c2, a3, c3, a4, c4, a5, c5, a6, c6, rfl, r1, r2, r3, r4, r5, r6⟩ := r
  unfold Pq.idle
  refine zU Tryz.func115 rfl gf115 ok115 (by simp [Tryz.ntmps115]) ?_
  repeat' (first | with_reducible apply qK | ((with_reducible apply qB) <;> try simp only [qN, qC, qE, qG, qD, qA, qF, seval, qQ, qO, qP, qL, qX, qZ, zC, mJ, fI]))
  refine wD rfl fun k1 h1 m1 s1 f1 n1 => ?_
  simp only [Pn.cs] at m1
  have mq := s1 _ _ x.obj
  have rq := x.row.hs (x.hs.trans s1)
  have rp := r3.hs s1
  cases z0 : decide (p.nw ≤ q.fr)
  case true =>
    refine qJ ?_; repeat' (first | with_reducible apply qK | ((first | (with_reducible first | apply qI | apply qM) | with_reducible refine zE fI xG (by kernel_rfl) ?_) <;> try simp only [qN, qC, qE, qG, qD, qA, qF, seval, qQ, qO, qP, qL, qX, qZ, zC, mJ, fI, z0, qH m1 zT, qH mq zT, qH mq rU, qH mq zD, qH m1 zD, gPick]))
    first | exact s1 | exact ⟨by simp, s1⟩
  cases z1 : q.sm
  case false =>
    rw [z1] at mq
    refine qJ ?_; repeat' (first | with_reducible apply qK | ((first | (with_reducible first | apply qI | apply qM) | with_reducible refine zE fI xG (by kernel_rfl) ?_) <;> try simp only [qN, qC, qE, qG, qD, qA, qF, seval, qQ, qO, qP, qL, qX, qZ, zC, mJ, fI, z0, qH m1 zT, qH mq zT, qH mq rU, qH mq zD, qH m1 zD, gPick]))
    first | exact s1 | exact ⟨by simp, s1⟩
  rw [z1] at mq
  refine qJ ?_; repeat' (first | with_reducible apply qK | ((first | (with_reducible first | apply qI | apply qM) | with_reducible refine zE fI xG (by kernel_rfl) ?_ | ((refine GTri.mono (c_Side _ _ rp rq (by omega) (by omega) _) ?_); rintro _ _ ⟨rfl, hh9⟩; replace hh9 := hh9.symm; subst hh9)) <;> try simp only [qN, qC, qE, qG, qD, qA, qF, seval, qQ, qO, qP, qL, qX, qZ, zC, mJ, fI, z0, qH m1 zT, qH mq zT, qH mq rU, qH mq zD, qH m1 zD, gPick]))
  first | exact s1 | exact ⟨by simp, s1⟩
theorem FR.upd {e k j : Nat} {a b c : GH} (x : FR e k a b) (n : a j = none) (f : ∀ i, i ≠ j → c i = b i) : FR e k a c := fun i B m q => by
  rw [f i (fun e' => by rw [e', n] at m; cases m)]
  exact x i B m q
theorem FR.at {e k : Nat} {a b c : GH} (x : FR e k a b) {B : GB} (m : b k = some B) (hB : B.cells.all yP = true) (f : ∀ i, i ≠ k → c i = b i) (hk : ∀ B', a k = some B' → B'.cells.all yP = true) : FR e k a c := fun i C m' q' => by
  by_cases hi : i = k
  · subst hi
    rcases q' with q' | q'
    · rw [hk _ m'] at q'; cases q'
    · exact absurd rfl q'.1
  · rw [f i hi]
    exact x i C m' q'
theorem zL7 (N : Nat) (x : QP hb h k q s ar cr v cells) {K : Type} {R : GH → List Value → K → Prop} {cs : List Value} {p : Pn K} (r : RPn R h cs p) (hid : p.id.length ≤ 100000000) (hky : p.ky.length ≤ 100000000) (hs : s.1.length ≤ 2000000) : GTri Tryz.prog N 114 [.pointer (some ⟨k, 0, none⟩), .agg cs.toArray] h fun _ h' => FR 3 k h h' ∧ ∃ v' cells', QP hb h' k q (q.see p s) ar cr v' cells' := by
  obtain ⟨a1, c1, a2, c2, a3, c3, a4, c4, a5, c5, a6, c6, rfl, r1, r2, r3, r4, r5, r6⟩ := r
  obtain ⟨av, cv, rfl⟩ := x.own.form
  have huk : ∀ B', h k = some B' → B'.cells.all yP = true := fun B' m => by rw [x.obj] at m; cases m; rfl
  refine zU Tryz.func114 rfl gf114 ok114 (by simp [Tryz.ntmps114]) ?_
  repeat' (first | with_reducible apply qK | ((with_reducible apply qB) <;> try simp only [qN, qC, qE, qG, qD, qA, qF, seval, qQ, qO, qP, qL, qX, qZ, zC, yJ, wV]))
  refine wD rfl fun k1 h1 m1 s1 f1 n1 => ?_
  simp only [Pn.cs] at m1
  have x1 := x.keep s1
  have mq := x1.obj
  have no : q.has p.id p.si = false → ∀ {h' : GH}, HS h h' → FR 3 k h h' ∧ ∃ v' cells', QP hb h' k q (q.see p s) ar cr v' cells' := fun hh h' s' => by
    unfold Pq.see
    rw [hh, if_neg (by decide)]
    exact ⟨.of s', _, _, x.keep s'⟩
  cases z0 : decide (p.si ≤ q.fr)
  case true =>
    have hh : q.has p.id p.si = false := by
      unfold Pq.has
      have : ¬ p.si > q.fr := by have := of_decide_eq_true z0; omega
      rw [decide_eq_false this]; rfl
    refine qJ ?_; repeat' (first | (with_reducible first | apply qK | apply qT) | ((first | (with_reducible first | apply qI | apply qR | apply qS) | with_reducible refine zE wV xG (by kernel_rfl) ?_) <;> try simp only [qN, qC, qE, qG, qD, qA, qF, seval, qQ, qO, qP, qL, qX, qZ, zC, yJ, wV, z0, qH m1 zT, qH mq zT]))
    exact no hh s1
  have z0' : decide (p.si > q.fr) = true := by have := of_decide_eq_false z0; exact decide_eq_true (by omega)
  refine qJ ?_; iterate 5 (first | (with_reducible first | apply qK | apply qT) | ((first | (with_reducible first | apply qI | apply qR) | with_reducible refine zE wV xG (by kernel_rfl) ?_) <;> try simp only [qN, qC, qE, qG, qD, qA, qF, seval, qQ, qO, qP, qL, qX, qZ, zC, yJ, wV, z0, qH m1 zT, qH mq zT]))
  refine qK ?_
  refine GW.mono (Q := fun z e' h' => z = .normal ∧ HS h1 h' ∧ lk e' 0 = .pointer (some ⟨k, 0, none⟩) ∧ lk e' 3 = .pointer (some ⟨k1, 0, none⟩) ∧ lk e' 30 = .bool (q.sm && decide (Lib.compareBytes (zM p.id) q.row ≤ 0))) ?_ ?_
  · cases z1 : q.sm
    case false =>
      rw [z1] at mq
      refine qJ ?_; repeat' (first | ((first | (with_reducible apply qI) | with_reducible refine zE wV xG (by kernel_rfl) ?_) <;> try simp only [qN, qC, qE, qG, qD, qA, qF, seval, qQ, qO, qP, qL, qX, qZ, zC, yJ, wV, qH m1 zT, qH m1 zD, qH mq zT, qH mq rU, qH mq zD, gPick]))
      all_goals first | exact HS.refl _ | exact ⟨HS.refl _, rfl⟩ | exact ⟨HS.refl _, by simp⟩
    rw [z1] at mq
    refine qJ ?_; repeat' (first | ((first | (with_reducible apply qI) | with_reducible refine zE wV xG (by kernel_rfl) ?_) <;> try simp only [qN, qC, qE, qG, qD, qA, qF, seval, qQ, qO, qP, qL, qX, qZ, zC, yJ, wV, qH m1 zT, qH m1 zD, qH mq zT, qH mq rU, qH mq zD, gPick]))
    refine (qO1 N h1 (r1.hs s1) rfl).mono ?_
    rintro _ h2 ⟨s2, a7, c7, rfl, r7, _⟩
    have mq2 := s2 _ _ mq
    have m12 := s2 _ _ m1
    have rq := x.row.hs (x1.hs.trans s2)
    refine qJ ?_; repeat' (first | ((first | (with_reducible apply qI) | ((refine GTri.mono (zV0 _ _ r7 rq) ?_); rintro _ _ ⟨rfl, hh9⟩; replace hh9 := hh9.symm; subst hh9)) <;> try simp only [qN, qC, qE, qG, qD, qA, qF, seval, qQ, qO, qP, qL, qX, qZ, zC, yJ, wV, qH m12 zT, qH m12 zD, qH mq2 zT, qH mq2 rU, qH mq2 zD, gPick]))
    all_goals first | exact s2 | exact ⟨s2, rfl⟩ | exact ⟨s2, by simp⟩
  rintro _ e' h2 ⟨rfl, s12, q0, q3, q30⟩
  rw [gT]
  refine tM [(0, .pointer (some ⟨k, 0, none⟩)), (3, .pointer (some ⟨k1, 0, none⟩)), (30, .bool (q.sm && decide (Lib.compareBytes (zM p.id) q.row ≤ 0)))] (by simp [q0, q3, q30]) ?_
  clear q0 q3 q30
  have S2 := s1.trans s12
  have x2 := x1.keep s12
  have m2 := s12 _ _ m1
  cases z1 : (q.sm && decide (Lib.compareBytes (zM p.id) q.row ≤ 0))
  case true =>
    have hh : q.has p.id p.si = false := by
      simp only [Bool.and_eq_true, decide_eq_true_eq] at z1
      unfold Pq.has
      rw [z1.1, decide_eq_false (p := Lib.compareBytes (zM p.id) q.row > 0) (by omega)]
      simp
    refine qJ ?_; repeat' (first | ((with_reducible first | apply qI | apply qR | apply qS) <;> try simp only [qN, qC, qE, qG, qD, qA, qF, seval, qQ, qO, qP, qL, qX, qZ, zC, yJ, wV]))
    exact no hh S2
  have hh : q.has p.id p.si = true := by
    unfold Pq.has
    rw [z0']
    cases hsm : q.sm
    · rfl
    · rw [hsm, Bool.true_and, decide_eq_false_iff_not] at z1
      rw [decide_eq_true (p := Lib.compareBytes (zM p.id) q.row > 0) (by omega)]
      rfl
  have mq2 := x2.obj
  unfold Pq.see
  rw [if_pos hh]
  cases z3 : q.full s
  case true =>
    rw [if_pos rfl]
    refine qJ ?_; repeat' (first | with_reducible apply qK | ((first | (with_reducible first | apply qI | apply qB | apply qR) | ((refine GTri.mono (qC0 _ x2) ?_); rintro _ _ ⟨rfl, hh9⟩; replace hh9 := hh9.symm; subst hh9)) <;> try simp only [qN, qC, qE, qG, qD, qA, qF, seval, qQ, qO, qP, qL, qX, qZ, zC, yJ, wV, z3, qH mq2 zT]))
    refine zY mq2 rU rfl (by simp) rfl rfl fun h3 m3 f3 => ?_
    simp only [List.set_cons_zero, List.set_cons_succ] at m3
    refine qJ ?_; repeat' (first | ((with_reducible apply qI) <;> try simp only [qN, qC, qE, qG, qD, qA, qF, seval, qQ, qO, qP, qL, qX, qZ, zC, yJ, wV]))
    have hu2 : ∀ B', h2 k = some B' → B'.cells.all yP = true := fun B' m => by rw [mq2] at m; cases m; rfl
    refine ⟨(FR.of S2).at mq2 rfl f3 huk, _, _, m3, x.nk, x.row, x2.hs.upd x.nk f3, x2.own.by5 mq2 f3, x.u8, fun i z hz => ?_⟩
    obtain ⟨a, c, b, d, e, r1, r2⟩ := x2.el i z hz
    exact ⟨a, c, b, d, e, r1.hx mq2 rfl (zJ f3), r2.hx mq2 rfl (zJ f3)⟩
  rw [if_neg (by decide)]
  refine qJ ?_; repeat' (first | with_reducible apply qK | ((first | (with_reducible first | apply qI | apply qB | apply qR) | with_reducible refine zE wV xG (by kernel_rfl) ?_ | ((refine GTri.mono (qC0 _ x2) ?_); rintro _ _ ⟨rfl, hh9⟩; replace hh9 := hh9.symm; subst hh9)) <;> try simp only [qN, qC, qE, qG, qD, qA, qF, seval, qQ, qO, qP, qL, qX, qZ, zC, yJ, wV, z3, qH mq2 qV5, qH m2 zD, qH m2 zT]))
  refine (zH2 N h2 (r1.hs S2) (by omega)).mono ?_
  rintro _ h3 ⟨s3, o3⟩
  obtain ⟨a8, c8, rfl⟩ := o3.form
  have mq3 := s3 _ _ mq2
  have m3 := s3 _ _ m2
  refine qJ ?_; repeat' (first | ((with_reducible apply qI) <;> try simp only [qN, qC, qE, qG, qD, qA, qF, seval, qQ, qO, qP, qL, qX, qZ, zC, yJ, wV, qH mq3 qV5, qH m3 zD, qH m3 zT]))
  refine (zH2 N h3 ((r2.hs S2).hs s3) (by omega)).mono ?_
  rintro _ h4 ⟨s4, o4⟩
  obtain ⟨a9, c9, rfl⟩ := o4.form
  have s24 := s3.trans s4
  have mq4 := s24 _ _ mq2
  have m4 := s24 _ _ m2
  refine qJ ?_; repeat' (first | ((with_reducible apply qI) <;> try simp only [qN, qC, qE, qG, qD, qA, qF, seval, qQ, qO, qP, qL, qX, qZ, zC, yJ, wV, qH mq4 qV5, qH m4 zD, qH m4 zT, xU, wI, yQ, Shape.pl, List.all_cons, List.all_nil, zP]))
  refine qO5 el65 rfl rfl (by decide) (by decide) rfl fun k5 h5 b5 s5 f5 n5 => ?_
  have s25 := s24.trans s5
  have mq5 := s25 _ _ mq2
  have m5 := s25 _ _ m2
  have x5 := x2.keep s25
  refine qJ ?_; repeat' (first | ((with_reducible apply qI) <;> try simp only [qN, qC, qE, qG, qD, qA, qF, seval, qQ, qO, qP, qL, qX, qZ, zC, yJ, wV, qH mq5 qV5, qH m5 zD, qH m5 zT]))
  refine gQ el65 Tryz.underlying65 rfl x5.hs x5.own b5 rfl rfl (by omega) (by simp only [maxLen]; omega) fun v6 h6 s6 fr6 o6 => ?_
  obtain ⟨a6', c6', rfl⟩ := o6.form
  have mq6 := qH6 fr6 mq5 (by simp)
  refine qJ ?_; repeat' (first | ((with_reducible apply qI) <;> try simp only [qN, qC, qE, qG, qD, qA, qF, seval, qQ, qO, qP, qL, qX, qZ, zC, yJ, wV, qH mq6 qV5]))
  refine zY mq6 qV5 rfl (by simp) rfl rfl fun h7 m7 f7 => ?_
  simp only [List.set_cons_zero, List.set_cons_succ] at m7
  refine qJ ?_; repeat' (first | ((with_reducible apply qI) <;> try simp only [qN, qC, qE, qG, qD, qA, qF, seval, qQ, qO, qP, qL, qX, qZ, zC, yJ, wV]))
  have zz : ∀ {v l}, RB h5 v l → RB h7 v l := fun r => (fr_rb fr6 x.u8 r).hx mq6 rfl (zJ f7)
  have zp : ∀ {cs z}, RPut h5 cs z → RPut h7 cs z := fun ⟨a, c, b, d, e, r1, r2⟩ => ⟨a, c, b, d, e, zz r1, zz r2⟩
  have S5 := S2.trans s25
  have fr6' : FR 3 k h h6 := fun j B m q' => fr6 j B (S5 _ _ m) fun _ kb c e1 e2 hk2 e3 => by
    have h5j := S5 _ _ m
    rw [e3, hk2] at h5j
    cases h5j
    rcases q' with q' | q'
    · rw [x.u8] at q'; cases q'
    · exact q'.2 rfl
  refine ⟨fr6'.at mq6 rfl f7 huk, _, cells ++ [.slice a8 p.id.length c8, .slice a9 p.ky.length c9, .int .i64 p.si], m7, x.nk, x.row, s6.upd x.nk f7, ?_, ?_, fun i z hz => ?_⟩
  · have := o6.by5 mq6 f7
    rw [List.length_append]; exact this
  · rw [List.all_append, x.u8]; rfl
  · have ej := x.own.len
    by_cases hi : i < s.1.length
    · rw [List.getElem?_append_left hi] at hz
      rw [List.drop_append_of_le_length (by omega), List.take_append_of_le_length (by rw [List.length_drop]; omega)]
      exact zp (x5.el i z hz)
    · have hl := (List.getElem?_eq_some_iff.1 hz).1
      simp only [List.length_append, List.length_singleton] at hl
      obtain rfl : i = s.1.length := by omega
      rw [List.getElem?_append_right (by omega), Nat.sub_self] at hz
      cases hz
      rw [← ej, List.drop_left]
      exact ⟨a8, c8, a9, c9, rfl, zz ((o3.rb.hs s4).hs s5), zz (o4.rb.hs s5)⟩
end
theorem vO : type_of% (And.intro zG (And.intro wZ (And.intro pI (And.intro fH (And.intro wY (And.intro pE (And.intro xB (And.intro uT rs74)))))))) := And.intro zG (And.intro wZ (And.intro pI (And.intro fH (And.intro wY (And.intro pE (And.intro xB (And.intro uT rs74)))))))
theorem zN4 {K : Type} (q : Pq) (p : Pn K) (s : St) : (q.see p s).1.length ≤ s.1.length + 1 := by
  unfold Pq.see
  split
  · split <;> simp
  · omega
theorem zN8 {K : Type} (q : Pq) (p : Pn K) (s : St) : (lH q p s).2.1.length ≤ s.1.length + 1 := by
  unfold lH
  split
  · exact zN4 q p s
  · split
    · split <;> simp
    · simp
theorem qN2 {n : Nat} {p : Pn (Pd (n + 1))} {a b : Pn (Pd n)} (h3 : p.kd = 3) (hk : p.kids = [a, b]) : kD (n + 1) p = 1 + (kD n a + kD n b) := by
  show 1 + (if p.kd = 3 then (@List.map (Pd (n + 1)) Nat (kD n) p.kids).sum else 0) = _
  rw [if_pos h3, hk]
  show 1 + (kD n a + (kD n b + 0)) = _
  omega
theorem qA1 {size : Int} (q : Pq) : ∀ (n : Nat) (p : Pn (Pd n)), wO size n p = true → ∀ s, (uN q n p s).2.1.length ≤ s.1.length + kD n p
  | 0, p, _, s => by
    have := zN8 q p s
    unfold uN kD
    exact this
  | n + 1, p, hm, s => by
    by_cases h3 : p.kd = 3
    · obtain ⟨a, b, hk, _, ma, _, mb, _⟩ := pS hm h3
      rw [fL (n := n + 1) (a := a) (b := b) h3 ⟨rfl, hk⟩]
      have ha := qA1 q n a ma s
      have e := qN2 h3 hk
      rw [e]
      generalize hz : uN q n a s = z at ha
      obtain ⟨_ | _, s1⟩ := z
      · simp only at ha ⊢; omega
      · have hb := qA1 q n b mb s1
        simp only at ha ⊢; omega
    · rw [jT h3]
      have := zN8 q p s
      have e : kD (n + 1) p = 1 := by unfold kD; rw [if_neg h3]
      omega
theorem c_plist (N : Nat) {size : Int} {q : Pq} (hq : q.row.length ≤ 100000000) : ∀ (n : Nat) {hb h : GH} {k : Nat} {s : St} {ar : Option Addr} {cr : Nat} {v : Value} {cells : List Value} (x : QP hb h k q s ar cr v cells) {cs : List Value} {p : Pn (Pd n)} (r : RPn (RPd n) hb cs p) (hm : wO size n p = true) (hk : Pn.bulk (Pd.bulk n) p ≤ 100000000) (hs : s.1.length + kD n p ≤ 2000000),
    GTri Tryz.prog N 74 [.pointer (some ⟨k, 0, none⟩), .agg cs.toArray] h fun u h' => u = .bool (uN q n p s).1 ∧ FR 3 k h h' ∧ ∃ v' cells', QP hb h' k q (uN q n p s).2 ar cr v' cells' := by
  intro n
  induction n with
  | zero =>
    intro hb h k s ar cr v cells x cs p r hm hk hs
    have hr := vG hm
    have k3 : p.kd ≠ 3 := fun q => by
      obtain ⟨a, b, e⟩ := rN hr q
      exact nomatch (show Empty from a)
    have hc1 : kD 0 p = 1 := rfl
    have r0 := r
    have hbp := Pn.bulk_parts p
    have hcs := r.len
    have e3 : (p.kd == 3) = false := by simp [k3]
    rw [jT k3]
    unfold lH
    refine zU Tryz.func74 rfl gf74 ok74 (by simp [Tryz.ntmps74]) ?_
    repeat' (first | with_reducible apply qK | ((with_reducible apply qB) <;> try simp only [qN, qC, qE, qG, qD, qA, qF, seval, qQ, qO, qP, vO]))
    refine wD hcs.2.1 fun k1 h1 m1 s1 f1 n1 => ?_
    have x1 := x.keep s1
    have ld := zH (P := Tryz.prog) (t := 26) m1 wL hcs.1
    have m1' := m1
    obtain ⟨a1, c1, a2, c2, a3, c3, a4, c4, a5, c5, a6, c6, ecs, _⟩ := r
    rw [ecs] at m1'
    simp only [Pn.cs] at m1'
    have r1 := r0.hs x1.hs (fun cs x r => RPd.hs x1.hs 0 r)
    by_cases h1' : p.kd = 1
    · have e1 : (p.kd == 1) = true := by simp [h1']
      rw [if_pos h1']
      refine qJ ?_; repeat' (first | (with_reducible first | apply qK | apply qT) | ((with_reducible first | apply qI | apply qB | apply qR) <;> try simp only [qN, qC, qE, qG, qD, qA, qF, seval, qQ, qO, qP, vO, qH m1' zT, e1, ld]))
      refine (zL7 N x1 r1 (by omega) (by omega) (by omega)).mono ?_
      rintro _ h2 ⟨fr, v', cells', x2⟩
      refine qJ ?_; repeat' (first | with_reducible apply qK | ((with_reducible first | apply qI | apply qB | apply qM) <;> try simp only [qN, qC, qE, qG, qD, qA, qF, seval, qQ, qO, qP, vO]))
      first | exact ⟨(FR.of s1).trans fr, v', cells', x2⟩ | exact ⟨rfl, (FR.of s1).trans fr, v', cells', x2⟩
    have e1 : (p.kd == 1) = false := by simp [h1']
    rw [if_neg h1']
    by_cases h2' : p.kd = 2
    · have e2 : (p.kd == 2) = true := by simp [h2']
      rw [if_pos h2']
      refine qJ ?_; repeat' (first | (with_reducible first | apply qK | apply qT) | ((with_reducible first | apply qI | apply qB | apply qR) <;> try simp only [qN, qC, qE, qG, qD, qA, qF, seval, qQ, qO, qP, vO, qH m1' zT, e1, e2, ld]))
      refine (qY9 N x1 r1 (by omega) hq).mono ?_
      rintro _ h2 ⟨rfl, s2⟩
      have S2 := s1.trans s2
      have x2 := x.keep S2
      cases hi : q.idle p
      case true =>
        rw [if_pos rfl]
        refine qJ ?_; repeat' (first | with_reducible apply qK | ((with_reducible first | apply qI | apply qB | apply qR | apply qM) <;> try simp only [qN, qC, qE, qG, qD, qA, qF, seval, qQ, qO, qP, vO]))
        first | exact ⟨.of S2, _, _, x2⟩ | exact ⟨rfl, .of S2, _, _, x2⟩
      rw [if_neg (by decide)]
      have mq2 := x2.obj
      refine qJ ?_; repeat' (first | with_reducible apply qK | ((with_reducible first | apply qI | apply qB | apply qR | apply qS) <;> try simp only [qN, qC, qE, qG, qD, qA, qF, seval, qQ, qO, qP, vO, qH mq2 rU]))
      refine zY mq2 rU rfl (by simp) rfl rfl fun h3 m3 f3 => ?_
      simp only [List.set_cons_zero, List.set_cons_succ] at m3
      have huk : ∀ B', h k = some B' → B'.cells.all yP = true := fun B' m => by
        obtain ⟨_, _, e⟩ := x.own.form
        have := x.obj
        rw [e] at this
        rw [this] at m; cases m; rfl
      have hu2 : [Value.int .i64 q.fr, .bool q.sm, .slice ar q.row.length cr, .int .i64 q.lim, v, .bool s.2].all yP = true := by
        obtain ⟨_, _, e⟩ := x.own.form
        rw [e]; rfl
      have x3 : QP hb h3 k q (s.1, true) ar cr v cells := ⟨m3, x.nk, x.row, x2.hs.upd x.nk f3, x2.own.by5 mq2 f3, x.u8, fun i z hz => by
        obtain ⟨a, c, b, d, e, r1, r2⟩ := x2.el i z hz
        exact ⟨a, c, b, d, e, r1.hx mq2 hu2 (zJ f3), r2.hx mq2 hu2 (zJ f3)⟩⟩
      have efu : q.full (s.1, true) = q.full s := rfl
      refine qJ ?_; repeat' (first | with_reducible apply qK | ((first | (with_reducible first | apply qI | apply qB | apply qM) | ((refine GTri.mono (qC0 _ x3) ?_); rintro _ _ ⟨rfl, hh9⟩; replace hh9 := hh9.symm; subst hh9)) <;> try simp only [qN, qC, qE, qG, qD, qA, qF, seval, qQ, qO, qP, vO, efu]))
      have fr3 := (FR.of (e := 3) (k := k) S2).at mq2 hu2 f3 huk
      first | exact ⟨fr3, _, _, x3⟩ | exact ⟨rfl, fr3, _, _, x3⟩
    have e2 : (p.kd == 2) = false := by simp [h2']
    rw [if_neg h2']
    refine qJ ?_; repeat' (first | (with_reducible first | apply qK | apply qT) | ((with_reducible first | apply qI | apply qB | apply qR | apply qS | apply qM) <;> try simp only [qN, qC, qE, qG, qD, qA, qF, seval, qQ, qO, qP, vO, qH m1' zT, e1, e2, e3, ld]))
    first | exact ⟨.of s1, _, _, x1⟩ | exact ⟨rfl, .of s1, _, _, x1⟩
  | succ n ih =>
    intro hb h k s ar cr v cells x cs p r hm hk hs
    have hr := vG hm
    by_cases k3 : p.kd = 3
    case neg =>
      have hc1 : kD (n + 1) p = 1 := by unfold kD; rw [if_neg k3]
      have r0 := r
      have hbp := Pn.bulk_parts p
      have hcs := r.len
      have e3 : (p.kd == 3) = false := by simp [k3]
      rw [jT k3]
      unfold lH
      refine zU Tryz.func74 rfl gf74 ok74 (by simp [Tryz.ntmps74]) ?_
      repeat' (first | with_reducible apply qK | ((with_reducible apply qB) <;> try simp only [qN, qC, qE, qG, qD, qA, qF, seval, qQ, qO, qP, vO]))
      refine wD hcs.2.1 fun k1 h1 m1 s1 f1 n1 => ?_
      have x1 := x.keep s1
      have ld := zH (P := Tryz.prog) (t := 26) m1 wL hcs.1
      have m1' := m1
      obtain ⟨a1, c1, a2, c2, a3, c3, a4, c4, a5, c5, a6, c6, ecs, _⟩ := r
      rw [ecs] at m1'
      simp only [Pn.cs] at m1'
      have r1 := r0.hs x1.hs (fun cs x r => RPd.hs x1.hs (n + 1) r)
      by_cases h1' : p.kd = 1
      · have e1 : (p.kd == 1) = true := by simp [h1']
        rw [if_pos h1']
        refine qJ ?_; repeat' (first | (with_reducible first | apply qK | apply qT) | ((with_reducible first | apply qI | apply qB | apply qR) <;> try simp only [qN, qC, qE, qG, qD, qA, qF, seval, qQ, qO, qP, vO, qH m1' zT, e1, ld]))
        refine (zL7 N x1 r1 (by omega) (by omega) (by omega)).mono ?_
        rintro _ h2 ⟨fr, v', cells', x2⟩
        refine qJ ?_; repeat' (first | with_reducible apply qK | ((with_reducible first | apply qI | apply qB | apply qM) <;> try simp only [qN, qC, qE, qG, qD, qA, qF, seval, qQ, qO, qP, vO]))
        first | exact ⟨(FR.of s1).trans fr, v', cells', x2⟩ | exact ⟨rfl, (FR.of s1).trans fr, v', cells', x2⟩
      have e1 : (p.kd == 1) = false := by simp [h1']
      rw [if_neg h1']
      by_cases h2' : p.kd = 2
      · have e2 : (p.kd == 2) = true := by simp [h2']
        rw [if_pos h2']
        refine qJ ?_; repeat' (first | (with_reducible first | apply qK | apply qT) | ((with_reducible first | apply qI | apply qB | apply qR) <;> try simp only [qN, qC, qE, qG, qD, qA, qF, seval, qQ, qO, qP, vO, qH m1' zT, e1, e2, ld]))
        refine (qY9 N x1 r1 (by omega) hq).mono ?_
        rintro _ h2 ⟨rfl, s2⟩
        have S2 := s1.trans s2
        have x2 := x.keep S2
        cases hi : q.idle p
        case true =>
          rw [if_pos rfl]
          refine qJ ?_; repeat' (first | with_reducible apply qK | ((with_reducible first | apply qI | apply qB | apply qR | apply qM) <;> try simp only [qN, qC, qE, qG, qD, qA, qF, seval, qQ, qO, qP, vO]))
          first | exact ⟨.of S2, _, _, x2⟩ | exact ⟨rfl, .of S2, _, _, x2⟩
        rw [if_neg (by decide)]
        have mq2 := x2.obj
        refine qJ ?_; repeat' (first | with_reducible apply qK | ((with_reducible first | apply qI | apply qB | apply qR | apply qS) <;> try simp only [qN, qC, qE, qG, qD, qA, qF, seval, qQ, qO, qP, vO, qH mq2 rU]))
        refine zY mq2 rU rfl (by simp) rfl rfl fun h3 m3 f3 => ?_
        simp only [List.set_cons_zero, List.set_cons_succ] at m3
        have huk : ∀ B', h k = some B' → B'.cells.all yP = true := fun B' m => by
          obtain ⟨_, _, e⟩ := x.own.form
          have := x.obj
          rw [e] at this
          rw [this] at m; cases m; rfl
        have hu2 : [Value.int .i64 q.fr, .bool q.sm, .slice ar q.row.length cr, .int .i64 q.lim, v, .bool s.2].all yP = true := by
          obtain ⟨_, _, e⟩ := x.own.form
          rw [e]; rfl
        have x3 : QP hb h3 k q (s.1, true) ar cr v cells := ⟨m3, x.nk, x.row, x2.hs.upd x.nk f3, x2.own.by5 mq2 f3, x.u8, fun i z hz => by
          obtain ⟨a, c, b, d, e, r1, r2⟩ := x2.el i z hz
          exact ⟨a, c, b, d, e, r1.hx mq2 hu2 (zJ f3), r2.hx mq2 hu2 (zJ f3)⟩⟩
        have efu : q.full (s.1, true) = q.full s := rfl
        refine qJ ?_; repeat' (first | with_reducible apply qK | ((first | (with_reducible first | apply qI | apply qB | apply qM) | ((refine GTri.mono (qC0 _ x3) ?_); rintro _ _ ⟨rfl, hh9⟩; replace hh9 := hh9.symm; subst hh9)) <;> try simp only [qN, qC, qE, qG, qD, qA, qF, seval, qQ, qO, qP, vO, efu]))
        have fr3 := (FR.of (e := 3) (k := k) S2).at mq2 hu2 f3 huk
        first | exact ⟨fr3, _, _, x3⟩ | exact ⟨rfl, fr3, _, _, x3⟩
      have e2 : (p.kd == 2) = false := by simp [h2']
      rw [if_neg h2']
      refine qJ ?_; repeat' (first | (with_reducible first | apply qK | apply qT) | ((with_reducible first | apply qI | apply qB | apply qR | apply qS | apply qM) <;> try simp only [qN, qC, qE, qG, qD, qA, qF, seval, qQ, qO, qP, vO, qH m1' zT, e1, e2, e3, ld]))
      first | exact ⟨.of s1, _, _, x1⟩ | exact ⟨rfl, .of s1, _, _, x1⟩
    have r0 := r
    have hbp := Pn.bulk_parts p
    obtain ⟨a1, c1, a2, c2, a3, c3, a4, c4, a5, c5, a6, c6, rfl, r1, r2, r3, r4, r5, r6⟩ := r
    obtain ⟨a, b, hkids, _, ma, _, mb, _⟩ := pS hm k3
    have hkl : p.kids.length = 2 := by rw [hkids]; rfl
    have ecn := qN2 k3 hkids
    have hab := Pn.kids_bulk (p := p) (x := a) (by rw [hkids]; exact List.mem_cons_self ..)
    have hbb := Pn.kids_bulk (p := p) (x := b) (by rw [hkids]; exact List.mem_cons_of_mem _ (List.mem_cons_self ..))
    rw [fL (n := n + 1) (a := a) (b := b) k3 ⟨rfl, hkids⟩]
    have e1 : (p.kd == 1) = false := by simp [k3]
    have e2 : (p.kd == 2) = false := by simp [k3]
    have e3 : (p.kd == 3) = true := by simp [k3]
    refine zU Tryz.func74 rfl gf74 ok74 (by simp [Tryz.ntmps74]) ?_
    repeat' (first | with_reducible apply qK | ((with_reducible apply qB) <;> try simp only [qN, qC, qE, qG, qD, qA, qF, seval, qQ, qO, qP, vO]))
    refine wD rfl fun k1 h1 m1 s1 f1 n1 => ?_
    simp only [Pn.cs] at m1
    rw [hkl] at m1
    have x1 := x.keep s1
    have at0 : ∀ {h2 : GH} (s : HS hb h2) (i : Nat) (y : Pn (Pd n)), p.kids[i]? = some y → ∃ ad cs5, zI Tryz.prog 24 (.slice a6 2 c6) (i : Int) = some (.pointer (some ad)) ∧ vD Tryz.prog 26 h2 (.pointer (some ad)) = some (.agg cs5.toArray) ∧ RPn (RPd n) hb cs5 y := fun {h2} s i y hy => by
      obtain ⟨ad, cs5, g1, g2, e⟩ := RL.at (P := Tryz.prog) r6 Tryz.underlying24 wL hy
      rw [hkl] at g1
      exact ⟨ad, cs5, g1, xT s (jN wL g2), e⟩
    obtain ⟨ad, cs5, g1, g2, y1⟩ := at0 x1.hs 0 a (by rw [hkids]; rfl)
    have g1' : zI Tryz.prog 24 (.slice a6 2 c6) 0 = some (.pointer (some ad)) := g1
    refine qJ ?_; repeat' (first | (with_reducible first | apply qK | apply qT) | ((with_reducible first | apply qI | apply qB | apply qR) <;> try simp only [qN, qC, qE, qG, qD, qA, qF, seval, qQ, qO, qP, vO, qH m1 zT, qH m1 wQ, e1, e2, e3, g1', g2]))
    refine (ih x1 y1 ma (by omega) (by omega)).mono ?_
    rintro _ h2 ⟨rfl, fr2, v2, cells2, x2⟩
    have ll := qA1 q n a ma s
    generalize hz : uN q n a s = z at x2 ll ⊢
    obtain ⟨b1, s1'⟩ := z
    simp only at x2 ll
    have k1k : k1 ≠ k := fun e => by rw [e, x.obj] at n1; cases n1
    have m2 := fr2 _ _ m1 (.inr ⟨k1k, by simp⟩)
    have f02 := (FR.of (e := 3) (k := k) s1).trans fr2
    cases b1
    case false =>
      refine qJ ?_; repeat' (first | ((with_reducible first | apply qI | apply qM) <;> try simp only [qN, qC, qE, qG, qD, qA, qF, seval, qQ, qO, qP, vO, gPick]))
      first | exact ⟨f02, v2, cells2, x2⟩ | exact ⟨rfl, f02, v2, cells2, x2⟩
    obtain ⟨ad', cs6, g3, g4, y2⟩ := at0 x2.hs 1 b (by rw [hkids]; rfl)
    have g3' : zI Tryz.prog 24 (.slice a6 2 c6) 1 = some (.pointer (some ad')) := g3
    refine qJ ?_; repeat' (first | ((with_reducible apply qI) <;> try simp only [qN, qC, qE, qG, qD, qA, qF, seval, qQ, qO, qP, vO, gPick, qH m2 wQ, g3', g4]))
    refine (ih x2 y2 mb (by omega) (by omega)).mono ?_
    rintro _ h3 ⟨rfl, fr3, v3, cells3, x3⟩
    refine qJ ?_; repeat' (first | ((with_reducible first | apply qI | apply qM) <;> try simp only [qN, qC, qE, qG, qD, qA, qF, seval, qQ, qO, qP, vO, gPick]))
    first | exact ⟨f02.trans fr3, v3, cells3, x3⟩ | exact ⟨rfl, f02.trans fr3, v3, cells3, x3⟩
theorem qM4 : type_of% (And.intro zG (And.intro pI (And.intro fH (And.intro xB (And.intro uT (And.intro wH rs67)))))) := And.intro zG (And.intro pI (And.intro fH (And.intro xB (And.intro uT (And.intro wH rs67)))))
theorem rO : type_of% (And.intro zG (And.intro wZ (And.intro pI (And.intro fH (And.intro wY (And.intro pJ (And.intro pE (And.intro xB (And.intro mZ (And.intro uT (And.intro wH rs33))))))))))) := And.intro zG (And.intro wZ (And.intro pI (And.intro fH (And.intro wY (And.intro pJ (And.intro pE (And.intro xB (And.intro mZ (And.intro uT (And.intro wH rs33))))))))))
def fZ : Nat → List (Nat × List Nat) × List Nat
  | 4 => ([(0, []), (1, []), (2, []), (3, []), (4, []), (5, []), (6, []), (7, []), (8, []), (9, []), (10, [])], [0, 1, 3, 7, 0, 16, 48, 112, 15, 511, 1023])
  | _ => ([], [])
theorem zQ8 (N : Nat) {h : GH} (fr : Int) (sm : Bool) (lim : Int) {a : Option Addr} {c : Nat} {id : List UInt8} (ri : RB h (.slice a id.length c) id) :
    GTri Tryz.prog N 67 [.int .i64 fr, .bool sm, .slice a id.length c, .int .i64 lim] h fun u h' => HS h h' ∧ ∃ k ar cr hb, u = .pointer (some ⟨k, 0, none⟩) ∧ QP hb h' k ⟨fr, sm, zM id, lim⟩ ([], false) ar cr (.slice none 0 0) [] ∧ HS h hb ∧ h k = none := by
  refine zU Tryz.func67 rfl gf67 ok67 (by simp [Tryz.ntmps67]) ?_
  repeat' (first | with_reducible apply qK | ((with_reducible apply qB) <;> try simp only [qN, qC, qE, qG, qD, qA, qF, seval, qQ, qO, qP, qM4]))
  refine (qO1 N h ri rfl).mono ?_
  rintro _ h1 ⟨s1, ar, cr, rfl, rr, _⟩
  refine qJ ?_; repeat' (first | ((with_reducible apply qI) <;> try simp only [qN, qC, qE, qG, qD, qA, qF, seval, qQ, qO, qP, qM4, xU, wI, yQ, Shape.pl, List.all_cons, List.all_nil, zP]))
  refine wD rfl fun k1 h2 m2 s2 f2 n2 => ?_
  refine qJ ?_; repeat' (first | ((with_reducible first | apply qI | apply qM) <;> try simp only [qN, qC, qE, qG, qD, qA, qF, seval, qQ, qO, qP, qM4]))
  have S2 := s1.trans s2
  have n2h : h k1 = none := s1.none_of n2
  exact ⟨S2, k1, ar, cr, gX k1 h2, rfl, ⟨m2, qL5 k1 h2, rr.hs (mH s2 n2), sU k1 h2, OWNC.nil _ _ _, rfl, fun i z hz => by simp at hz⟩, mH S2 n2h, n2h⟩
def pL (size : Int) (q : Pq) (n : Nat) (p : Pn (Pd n)) : St × Int := if gE size n p = true then (if (uN q n p ([], false)).1 = true then ((uN q n p ([], false)).2, 0) else (([], false), 95)) else (([], false), 95)
theorem qZ1 (N : Nat) (size : Int) (n : Nat) {h : GH} (fr : Int) (sm : Bool) (lim : Int) {a : Option Addr} {c : Nat} {id : List UInt8} (ri : RB h (.slice a id.length c) id) {cs : List Value} {p : Pn (Pd n)} (r : RPn (RPd n) h cs p) (hk : Pn.bulk (Pd.bulk n) p ≤ 2000000) :
    GTri Tryz.prog N 33 [.int .i64 size, .agg cs.toArray, .int .i64 fr, .bool sm, .slice a id.length c, .int .i64 lim] h fun u h' => HS h h' ∧ ∃ ai ci, u = .tuple #[.slice ai (pL size ⟨fr, sm, zM id, lim⟩ n p).1.1.length ci, .bool (pL size ⟨fr, sm, zM id, lim⟩ n p).1.2, .int .i64 (pL size ⟨fr, sm, zM id, lim⟩ n p).2] ∧ RL 3 RPut h' (.slice ai (pL size ⟨fr, sm, zM id, lim⟩ n p).1.1.length ci) (pL size ⟨fr, sm, zM id, lim⟩ n p).1.1 := by
  have hcs := r.len
  have hkl := yY id
  have hcb := sJ n p
  unfold pL
  refine zU Tryz.func33 rfl gf33 ok33 (by simp [Tryz.ntmps33]) ?_
  repeat' (first | with_reducible apply qK | ((with_reducible apply qB) <;> try simp only [qN, qC, qE, qG, qD, qA, qF, seval, qQ, qO, qP, qL, qX, qZ, zC, rO, fZ]))
  refine wD hcs.2.1 fun k7 h1 m1 s1 f1 n1 => ?_
  have ld := zH (P := Tryz.prog) (t := 26) m1 wL hcs.1
  refine qJ ?_; repeat' (first | with_reducible apply qK | ((with_reducible first | apply qI | apply qB) <;> try simp only [qN, qC, qE, qG, qD, qA, qF, seval, qQ, qO, qP, qL, qX, qZ, zC, rO, fZ]))
  refine (zQ8 N fr sm lim (ri.hs s1)).mono ?_
  rintro _ h2 ⟨s2, k, ar, cr, hb, rfl, x2, sb, nk⟩
  have S2 := s1.trans s2
  have ld2 := xT s2 ld
  refine qJ ?_; repeat' (first | with_reducible apply qK | ((with_reducible first | apply qI | apply qB) <;> try simp only [qN, qC, qE, qG, qD, qA, qF, seval, qQ, qO, qP, qL, qX, qZ, zC, rO, fZ, ld2]))
  refine (zG8 N size n (r.hs S2 (fun cs x r => RPd.hs S2 n r)) (by omega)).mono ?_
  rintro _ h3 ⟨rfl, s3⟩
  have S3 := S2.trans s3
  cases hck : gE size n p
  case false =>
    rw [if_neg (by decide)]
    refine qJ ?_; repeat' (first | with_reducible apply qK | ((with_reducible first | apply qI | apply qB | apply qR | apply qM) <;> try simp only [qN, qC, qE, qG, qD, qA, qF, seval, qQ, qO, qP, qL, qX, qZ, zC, rO, fZ, cond, gPick]))
    exact ⟨S3, none, 0, rfl, RL.nil _⟩
  rw [if_pos rfl]
  obtain ⟨hs1, hs2, hm⟩ := kE hck
  have x3 := x2.keep s3
  have ld3 := xT s3 ld2
  have Sb : HS h hb := s1.trans sb
  refine qJ ?_; repeat' (first | ((with_reducible apply qI) <;> try simp only [qN, qC, qE, qG, qD, qA, qF, seval, qQ, qO, qP, qL, qX, qZ, zC, rO, fZ, cond, gPick, ld3]))
  refine (c_plist N (by simp only; omega) n x3 (r.hs Sb (fun cs x r => RPd.hs Sb n r)) hm (by omega) (by simp only [List.length_nil]; omega)).mono ?_
  rintro _ h4 ⟨rfl, _, v4, cells4, x4⟩
  have S4 : HS h h4 := Sb.trans x4.hs
  have m4 := x4.obj
  generalize uN ⟨fr, sm, zM id, lim⟩ n p ([], false) = z at *
  obtain ⟨b1, s4⟩ := z
  simp only at x4 m4
  obtain ⟨av, cv, rfl⟩ := x4.own.form
  cases b1
  case false =>
    rw [if_neg (by simp)]
    refine qJ ?_; repeat' (first | with_reducible apply qK | ((with_reducible first | apply qI | apply qB | apply qR | apply qM) <;> try simp only [qN, qC, qE, qG, qD, qA, qF, seval, qQ, qO, qP, qL, qX, qZ, zC, rO, fZ, gPick]))
    exact ⟨S4, none, 0, rfl, RL.nil _⟩
  rw [if_pos rfl]
  refine qJ ?_; repeat' (first | with_reducible apply qK | ((first | (with_reducible first | apply qI | apply qR | apply qS | apply qM) | with_reducible refine zE fZ xG (by kernel_rfl) ?_) <;> try simp only [qN, qC, qE, qG, qD, qA, qF, seval, qQ, qO, qP, qL, qX, qZ, zC, rO, fZ, gPick, qH m4 qV5, qH m4 rU]))
  exact ⟨S4, av, cv, rfl, OWNC.rl (R := RPut) (l := s4.1) x4.own x4.el⟩
theorem kP : type_of% (And.intro zG (And.intro wZ (And.intro wY (And.intro xB (And.intro uT rs32))))) := And.intro zG (And.intro wZ (And.intro wY (And.intro xB (And.intro uT rs32))))
theorem sE : type_of% (And.intro zG (And.intro pI (And.intro pJ (And.intro xB (And.intro uT rs35))))) := And.intro zG (And.intro pI (And.intro pJ (And.intro xB (And.intro uT rs35))))
def rH : Nat → List (Nat × List Nat) × List Nat
  | 6 => ([(0, []), (1, []), (2, []), (3, []), (4, []), (5, []), (6, []), (7, []), (8, []), (9, [])], [0, 0, 3, 7, 0, 0, 48, 112, 255, 511])
  | _ => ([], [])
section
variable {K : Type} {R : GH → List Value → K → Prop}
theorem zQ2 (N : Nat) {p : Pn K} (ih : ∀ x ∈ p.kids, ∀ {h c1} {d : Nat}, R h c1 x → d ≤ 100 → GTri Tryz.prog N 32 [.agg c1.toArray, .int .i64 (d : Int)] h fun v h' => (∃ b, v = .bool b) ∧ HS h h') (fR : ∀ {h h'}, HS h h' → ∀ cs x, R h cs x → R h' cs x) (hR : ∀ {h cs x}, R h cs x → cs.all zP = true ∧ cs.length = 10) {h : GH} {cs : List Value} (r : RPn R h cs p) (hk : p.kids.length ≤ 1000000000) {d : Nat} (hd : d ≤ 100) :
    GTri Tryz.prog N 32 [.agg cs.toArray, .int .i64 (d : Int)] h fun v h' => (∃ b, v = .bool b) ∧ HS h h' := by
  obtain ⟨a1, c1, a2, c2, a3, c3, a4, c4, a5, c5, a6, c6, rfl, r1, r2, r3, r4, r5, r6⟩ := r
  refine zU Tryz.func32 rfl gf32 ok32 (by simp [Tryz.ntmps32]) ?_
  repeat' (first | with_reducible apply qK | ((with_reducible apply qB) <;> try simp only [qN, qC, qE, qG, qD, qA, qF, seval, qQ, qO, qP, kP]))
  refine wD rfl fun k1 h1 m1 s1 f1 n1 => ?_
  simp only [Pn.cs] at m1
  cases z0 : decide ((d : Int) > 30)
  case true =>
    refine qJ ?_; repeat' (first | with_reducible apply qK | ((with_reducible first | apply qI | apply qB | apply qR | apply qM) <;> try simp only [qN, qC, qE, qG, qD, qA, qF, seval, qQ, qO, qP, kP, z0, gPick]))
    exact ⟨⟨_, rfl⟩, s1⟩
  cases z1 : decide ((p.kids.length : Int) > 3)
  case true =>
    refine qJ ?_; repeat' (first | with_reducible apply qK | ((with_reducible first | apply qI | apply qB | apply qR | apply qM) <;> try simp only [qN, qC, qE, qG, qD, qA, qF, seval, qQ, qO, qP, kP, z0, z1, gPick, qH m1 wQ]))
    exact ⟨⟨_, rfl⟩, s1⟩
  have hd30 := of_decide_eq_false z0
  have hk3 := of_decide_eq_false z1
  refine qJ ?_; repeat' (first | (with_reducible first | apply qK | apply qT) | ((with_reducible first | apply qI | apply qB | apply qR | apply qS) <;> try simp only [qN, qC, qE, qG, qD, qA, qF, seval, qQ, qO, qP, kP, z0, z1, gPick, qH m1 wQ]))
  refine xN [1, 16, 17] (fun (j : Nat) => [(18, .int .i64 (j : Int))]) (fun q j h' => p.kids.length - j = q ∧ j ≤ p.kids.length ∧ HS h1 h') p.kids.length 0 (by simp [lk]) ⟨rfl, by omega, HS.refl _⟩ ?_
  rintro _ j h3 ⟨rfl, hj, s3⟩
  have S3 := s1.trans s3
  by_cases hjl : j < p.kids.length
  case neg =>
    have d0 : decide ((j : Int) < (p.kids.length : Int)) = false := decide_eq_false (by omega)
    refine qJ ?_; repeat' (first | with_reducible apply qK | ((with_reducible first | apply qI | apply qB | apply qR | apply xO | apply qM) <;> try simp only [qN, qC, qE, qG, qD, qA, qF, seval, qQ, qO, qP, kP, d0]))
    exact ⟨⟨_, rfl⟩, S3⟩
  have d0 : decide ((j : Int) < (p.kids.length : Int)) = true := decide_eq_true (by omega)
  have wj : IntKind.i64.wrap ((j : Int) + 1) = ((j + 1 : Nat) : Int) := by rw [wrap64 (by omega) (by omega)]; omega
  have wd : IntKind.i64.wrap ((d : Int) + 1) = ((d + 1 : Nat) : Int) := by rw [wrap64 (by omega) (by omega)]; omega
  obtain ⟨x, hx⟩ := jU hjl
  obtain ⟨ad, cs5, g1, g2, e1⟩ := RL.at (P := Tryz.prog) (RL.hs S3 (fR S3) r6) Tryz.underlying24 wL hx
  have hc := hR e1
  refine qJ ?_; repeat' (first | (with_reducible first | apply qK | apply qT) | ((with_reducible first | apply qI | apply qB | apply qR | apply qS) <;> try simp only [qN, qC, qE, qG, qD, qA, qF, seval, qQ, qO, qP, kP, d0, g1, jN wL g2]))
  refine xQ fun k4 h4 m4 s4 f4 n4 => ?_
  refine qJ ?_; repeat' (first | ((with_reducible apply qI) <;> try simp only [qN, qC, qE, qG, qD, qA, qF, seval, qQ, qO, qP, kP]))
  refine wT m4 wL rfl (by decide) hc.2 rfl hc.1 fun h5 m5 f5 => ?_
  have s35 := s4.upd n4 f5
  have ld := zH (P := Tryz.prog) (t := 26) m5 wL hc.2
  refine qJ ?_; repeat' (first | with_reducible apply qK | ((with_reducible first | apply qI | apply qB) <;> try simp only [qN, qC, qE, qG, qD, qA, qF, seval, qQ, qO, qP, kP, ld, wd]))
  refine (ih x (List.mem_of_getElem? hx) (d := d + 1) (fR s35 _ _ e1) (by omega)).mono ?_
  rintro _ h6 ⟨⟨b, rfl⟩, s6⟩
  cases b
  case false =>
    refine qJ ?_; repeat' (first | with_reducible apply qK | ((with_reducible first | apply qI | apply qB | apply qR | apply qM) <;> try simp only [qN, qC, qE, qG, qD, qA, qF, seval, qQ, qO, qP, kP]))
    exact ⟨⟨_, rfl⟩, S3.trans (s35.trans s6)⟩
  refine qJ ?_; repeat' (first | ((with_reducible first | apply qI | apply qB | apply qR | apply qS) <;> try simp only [qN, qC, qE, qG, qD, qA, qF, seval, qQ, qO, qP, kP, wj]))
  exact ⟨_, j + 1, by omega, (by simp only [List.forall_mem_cons, List.not_mem_nil, false_implies, implies_true, List.map, List.cons_append, List.nil_append, lk, Nat.reduceEqDiff, reduceIte, and_true, true_and]), rfl, by omega, s3.trans (s35.trans s6)⟩
end
theorem qF6 (N : Nat) : ∀ (n : Nat) {h : GH} {cs : List Value} {p : Pn (Pd n)} {d : Nat} (r : RPn (RPd n) h cs p) (hk : Pn.bulk (Pd.bulk n) p ≤ 100000000) (hd : d ≤ 100),
    GTri Tryz.prog N 32 [.agg cs.toArray, .int .i64 (d : Int)] h fun v h' => (∃ b, v = .bool b) ∧ HS h h'
  | 0, h, cs, p, d, r, hk, hd => zQ2 (K := Pd 0) (R := RPd 0) N (fun x hx => nomatch (show Empty from x)) (fun s cs x r => RPd.hs s 0 r) (fun r => r.elim) r (Nat.le_trans (Pn.bulk_parts p).1 (by omega)) hd
  | n + 1, h, cs, p, d, r, hk, hd => zQ2 (K := Pd (n + 1)) (R := RPd (n + 1)) N (fun x hx {h c1 d} e1 hd => qF6 N n (p := x) e1 (by have := Pn.kids_bulk (p := p) (x := x) hx; omega) hd) (fun s cs x r => RPd.hs s (n + 1) r) (fun r => RPd.cells r) r (Nat.le_trans (Pn.bulk_parts p).1 (by omega)) hd
theorem c_SItems (N : Nat) {h : GH} {a b : Option Addr} {c d : Nat} {l m : List Pt} (r1 : RL 3 RPut h (.slice a l.length c) l) (r2 : RL 3 RPut h (.slice b m.length d) m) (hl : l.length ≤ 1000000000) (hm : m.length ≤ 1000000000) :
    GTri Tryz.prog N 35 [.slice a l.length c, .slice b m.length d] h fun v h' => (∃ b, v = .bool b ∧ (l = m → b = true)) ∧ HS h h' := by
  refine zU Tryz.func35 rfl gf35 ok35 (by simp [Tryz.ntmps35]) ?_
  cases z0 : ((l.length : Int) != (m.length : Int))
  case true =>
    repeat' (first | with_reducible apply qK | ((with_reducible first | apply qB | apply qR | apply qM) <;> try simp only [qN, qC, qE, qG, qD, qA, qF, seval, qQ, qO, qP, qL, qX, qZ, zC, sE, rH, z0]))
    refine ⟨⟨_, rfl, fun e => ?_⟩, HS.refl _⟩
    rw [e] at z0
    simp at z0
  have hlm : l.length = m.length := by
    have : (l.length : Int) = (m.length : Int) := by simpa using z0
    omega
  repeat' (first | (with_reducible first | apply qK | apply qT) | ((with_reducible first | apply qB | apply qR | apply qS) <;> try simp only [qN, qC, qE, qG, qD, qA, qF, seval, qQ, qO, qP, qL, qX, qZ, zC, sE, rH, z0]))
  refine xN [0, 1, 12] (fun (j : Nat) => [(13, .int .i64 (j : Int))]) (fun q j h' => l.length - j = q ∧ j ≤ l.length ∧ HS h h') l.length 0 (by simp [lk]) ⟨rfl, by omega, HS.refl _⟩ ?_
  rintro _ j h3 ⟨rfl, hj, s3⟩
  by_cases hjl : j < l.length
  case neg =>
    have d0 : decide ((j : Int) < (l.length : Int)) = false := decide_eq_false (by omega)
    refine qJ ?_; repeat' (first | with_reducible apply qK | ((with_reducible first | apply qI | apply qB | apply qR | apply xO | apply qM) <;> try simp only [qN, qC, qE, qG, qD, qA, qF, seval, qQ, qO, qP, qL, qX, qZ, zC, sE, rH, d0]))
    exact ⟨⟨_, rfl, fun _ => rfl⟩, s3⟩
  have d0 : decide ((j : Int) < (l.length : Int)) = true := decide_eq_true (by omega)
  have wj : IntKind.i64.wrap ((j : Int) + 1) = ((j + 1 : Nat) : Int) := by rw [wrap64 (by omega) (by omega)]; omega
  obtain ⟨x, hx⟩ := jU hjl
  obtain ⟨y, hy⟩ := jU (show j < m.length by omega)
  obtain ⟨ad, cs5, g1, g2, e1⟩ := RL.at (P := Tryz.prog) (RL.hs (R := RPut) s3 (fun _ _ q => q.hs s3) r1) Tryz.underlying65 lA hx
  obtain ⟨ad', cs6, g3, g4, e2⟩ := RL.at (P := Tryz.prog) (RL.hs (R := RPut) s3 (fun _ _ q => q.hs s3) r2) Tryz.underlying65 lA hy
  refine qJ ?_; repeat' (first | (with_reducible first | apply qK | apply qT) | ((first | (with_reducible first | apply qI | apply qB | apply qR | apply qS) | with_reducible refine zE rH xG (by kernel_rfl) ?_) <;> try simp only [qN, qC, qE, qG, qD, qA, qF, seval, qQ, qO, qP, qL, qX, qZ, zC, sE, rH, d0, g1, g3, jN lA g2, jN lA g4]))
  refine (zL8 N e1 e2).mono ?_
  rintro _ h4 ⟨rfl, s4⟩
  cases z1 : ((x.1.1 == y.1.1) && (x.1.2 == y.1.2) && (x.2 == y.2))
  case false =>
    refine qJ ?_; repeat' (first | with_reducible apply qK | ((with_reducible first | apply qI | apply qB | apply qR | apply qM) <;> try simp only [qN, qC, qE, qG, qD, qA, qF, seval, qQ, qO, qP, qL, qX, qZ, zC, sE, rH]))
    refine ⟨⟨_, rfl, fun e => ?_⟩, s3.trans s4⟩
    subst e
    rw [hx] at hy
    cases hy
    simp at z1
  refine qJ ?_; repeat' (first | ((with_reducible first | apply qI | apply qB | apply qR | apply qS) <;> try simp only [qN, qC, qE, qG, qD, qA, qF, seval, qQ, qO, qP, qL, qX, qZ, zC, sE, rH, wj]))
  exact ⟨_, j + 1, by omega, (by simp only [List.forall_mem_cons, List.not_mem_nil, false_implies, implies_true, List.map, List.cons_append, List.nil_append, lk, Nat.reduceEqDiff, reduceIte, and_true, true_and]), rfl, by omega, s3.trans s4⟩
def SPn : (n : Nat) → GH → List Value → Pn (Pd n) → Prop
  | 0, h, cs, p => RPn (RPd 0) h cs p ∧ p.kids = []
  | n + 1, h, cs, p => (RPn (RPd (n + 1)) h cs p ∧ p.kids = []) ∨ ∃ (a b : Pn (Pd n)) (kb c : Nat) (tl : Bool) (ca cb : List Value) (v1 v2 v3 v4 v5 : Value),
      p.kids = [a, b] ∧ cs = p.cs v1 v2 v3 v4 v5 (.slice (some ⟨kb, 0, none⟩) 2 c) ∧ (∃ a1 c1, v1 = .slice a1 p.id.length c1 ∧ RB h v1 p.id) ∧ (∃ a1 c1, v2 = .slice a1 p.ky.length c1 ∧ RB h v2 p.ky) ∧ (∃ a1 c1, v3 = .slice a1 p.pf.length c1 ∧ RB h v3 p.pf) ∧ (∃ a1 c1, v4 = .slice a1 p.lf.length c1 ∧ RB h v4 p.lf) ∧ (∃ a1 c1, v5 = .slice a1 p.rt.length c1 ∧ RB h v5 p.rt) ∧
      h kb = some ⟨ca ++ cb, 10, true, tl⟩ ∧ ca.length = 10 ∧ cb.length = 10 ∧ 4 ≤ c ∧ SPn n h ca a ∧ SPn n h cb b
theorem SPn.rpn : ∀ {n : Nat} {h : GH} {cs : List Value} {p : Pn (Pd n)}, SPn n h cs p → RPn (RPd n) h cs p
  | 0, _, _, _, r => r.1
  | n + 1, h, cs, p, r => by
    rcases r with r | ⟨a, b, kb, c, tl, ca, cb, v1, v2, v3, v4, v5, hk, rfl, ⟨a1, c1, rfl, r1⟩, ⟨a2, c2, rfl, r2⟩, ⟨a3, c3, rfl, r3⟩, ⟨a4, c4, rfl, r4⟩, ⟨a5, c5, rfl, r5⟩, m, la, lb, hc, ra, rb⟩
    · exact r.1
    · refine ⟨a1, c1, a2, c2, a3, c3, a4, c4, a5, c5, some ⟨kb, 0, none⟩, c, by rw [hk]; rfl, r1, r2, r3, r4, r5, ?_⟩
      rw [hk]
      refine .inr ⟨⟨kb, 0, none⟩, c, ca ++ cb, rfl, yH m (by rw [List.drop_zero]; exact List.take_of_length_le (by show (ca ++ cb).length ≤ 20; simp [la, lb])) (by show (ca ++ cb).length = 20; simp [la, lb]), (show 4 ≤ c from hc), fun i x hx => ?_, .inr ⟨_, m, .inl (by simp)⟩⟩
      rcases i with _ | _ | i
      · cases hx
        rw [Nat.zero_mul, List.drop_zero, List.take_left' la]
        exact ra.rpn
      · cases hx
        rw [Nat.zero_add, Nat.one_mul, List.drop_left' la, List.take_of_length_le (by omega)]
        exact rb.rpn
      · exact nomatch (show (none : Option (Pn (Pd n))) = some x from hx)
theorem SPn.fr {k : Nat} : ∀ {n : Nat} {h h' : GH} (f : FR 3 k h h') (hk : ∃ B, h k = some B ∧ B.es = 0) {cs : List Value} {p : Pn (Pd n)}, SPn n h cs p → SPn n h' cs p
  | 0, h, h', f, hk, cs, p, r => by
    obtain ⟨⟨a1, c1, a2, c2, a3, c3, a4, c4, a5, c5, a6, c6, rfl, r1, r2, r3, r4, r5, r6⟩, hn⟩ := r
    refine ⟨⟨a1, c1, a2, c2, a3, c3, a4, c4, a5, c5, a6, c6, rfl, r1.fr f, r2.fr f, r3.fr f, r4.fr f, r5.fr f, ?_⟩, hn⟩
    rw [hn] at r6 ⊢
    exact r6.nilk
  | n + 1, h, h', f, hk, cs, p, r => by
    rcases r with ⟨⟨a1, c1, a2, c2, a3, c3, a4, c4, a5, c5, a6, c6, rfl, r1, r2, r3, r4, r5, r6⟩, hn⟩ | ⟨a, b, kb, c, tl, ca, cb, v1, v2, v3, v4, v5, hkd, rfl, ⟨a1, c1, rfl, r1⟩, ⟨a2, c2, rfl, r2⟩, ⟨a3, c3, rfl, r3⟩, ⟨a4, c4, rfl, r4⟩, ⟨a5, c5, rfl, r5⟩, m, la, lb, hc, ra, rb⟩
    · refine .inl ⟨⟨a1, c1, a2, c2, a3, c3, a4, c4, a5, c5, a6, c6, rfl, r1.fr f, r2.fr f, r3.fr f, r4.fr f, r5.fr f, ?_⟩, hn⟩
      rw [hn] at r6 ⊢
      exact r6.nilk
    · obtain ⟨B, hB, he⟩ := hk
      have hne : kb ≠ k := fun e => by
        rw [e, hB] at m
        cases m
        cases he
      exact .inr ⟨a, b, kb, c, tl, ca, cb, _, _, _, _, _, hkd, rfl, ⟨a1, c1, rfl, r1.fr f⟩, ⟨a2, c2, rfl, r2.fr f⟩, ⟨a3, c3, rfl, r3.fr f⟩, ⟨a4, c4, rfl, r4.fr f⟩, ⟨a5, c5, rfl, r5.fr f⟩, f _ _ m (.inr ⟨hne, by simp⟩), la, lb, hc, SPn.fr f ⟨B, hB, he⟩ ra, SPn.fr f ⟨B, hB, he⟩ rb⟩
theorem SPn.none {n : Nat} {h : GH} {cs : List Value} {p : Pn (Pd n)} (r : RPn (RPd n) h cs p) (hk : p.kids = []) : SPn n h cs p := by
  cases n with
  | zero => exact ⟨r, hk⟩
  | succ n => exact .inl ⟨r, hk⟩
theorem SPn.hs {n : Nat} {h h' : GH} (s : HS h h') {cs : List Value} {p : Pn (Pd n)} (r : SPn n h cs p) : SPn n h' cs p := by
  induction n generalizing cs with
  | zero => exact ⟨r.1.hs s (fun cs x r => RPd.hs s 0 r), r.2⟩
  | succ n ih =>
    rcases r with r | ⟨a, b, kb, c, tl, ca, cb, v1, v2, v3, v4, v5, hkd, rfl, ⟨a1, c1, rfl, r1⟩, ⟨a2, c2, rfl, r2⟩, ⟨a3, c3, rfl, r3⟩, ⟨a4, c4, rfl, r4⟩, ⟨a5, c5, rfl, r5⟩, m, la, lb, hc, ra, rb⟩
    · exact .inl ⟨r.1.hs s (fun cs x r => RPd.hs s (n + 1) r), r.2⟩
    · exact .inr ⟨a, b, kb, c, tl, ca, cb, _, _, _, _, _, hkd, rfl, ⟨a1, c1, rfl, r1.hs s⟩, ⟨a2, c2, rfl, r2.hs s⟩, ⟨a3, c3, rfl, r3.hs s⟩, ⟨a4, c4, rfl, r4.hs s⟩, ⟨a5, c5, rfl, r5.hs s⟩, s _ _ m, la, lb, hc, ih ra, ih rb⟩
theorem SPn.len {n : Nat} {h : GH} {cs : List Value} {p : Pn (Pd n)} (r : SPn n h cs p) : cs.length = 10 ∧ cs.all zP = true ∧ cs.all yP = true := r.rpn.len
def cntH (q : Pq) (nd : Nd) (c : Nat) : Nat := if q.has nd.id nd.si = true then c + 1 else c
def zL3 (q : Pq) (nd : Nd) (c : Nat) : Bool := (decide ((nd.nw : Int) ≤ q.fr) || (q.sm && decide (pF nd.pf (nd.dp : Int) q.row < 0))) || decide ((c : Int) ≥ q.lim)
def tL (M : List Nd) (q : Pq) : (n : Nat) → Nat → Nat → Pn (Pd n) × Nat
  | 0, i, c => (qY4 M (uR M i), if (uR M i).lf = true then cntH q (uR M i) c else c)
  | n + 1, i, c => if (uR M i).lf = true then (qY4 M (uR M i), cntH q (uR M i) c) else if zL3 q (uR M i) c = true then (qY4 M (uR M i), c) else
      (⟨3, 0, (uR M i).dp, (uR M i).nw, [], [], (uR M i).pf, [], [], [(tL M q n (uR M i).l c).1, (tL M q n (uR M i).r (tL M q n (uR M i).l c).2).1]⟩, (tL M q n (uR M i).r (tL M q n (uR M i).l c).2).2)
def Jn (q : Pq) (s : St) (c : Nat) : Prop := s.1.length = c ∨ (q.lim ≤ (s.1.length : Int) ∧ q.lim ≤ (c : Int))
theorem Jn.full {q : Pq} {s : St} {c : Nat} (j : Jn q s c) : q.full s = decide ((c : Int) ≥ q.lim) := by
  unfold Pq.full
  rw [decide_eq_decide]
  rcases j with j | j
  · rw [j]
  · constructor <;> intro <;> omega
theorem Jn.see {K : Type} {q : Pq} {s : St} {nd : Nd} {c : Nat} {p : Pn K} (j : Jn q s c) (h1 : p.id = nd.id) (h2 : p.si = nd.si) : Jn q (q.see p s) (cntH q nd c) := by
  unfold Pq.see cntH
  rw [h1, h2]
  cases q.has nd.id nd.si
  · exact j
  · rw [if_pos rfl, if_pos rfl, j.full]
    cases hf : decide ((c : Int) ≥ q.lim)
    · rw [if_neg (by decide)]
      have := of_decide_eq_false hf
      rcases j with j | j
      · left; simp [j]
      · omega
    · rw [if_pos rfl]
      have := of_decide_eq_true hf
      rcases j with j | j
      · right; simp only; omega
      · right; simp only; omega
def zA1 (M : List Nd) : Nat → Nat → List Nat
  | 0, i => [i]
  | n + 1, i => if (uR M i).lf = true then [i] else zA1 M n (uR M i).l ++ zA1 M n (uR M i).r
def dqt (nd : Nd) : Nat := if nd.lf = true then 8 * (zM nd.id).length else nd.dp
theorem qU4 {nd : Nd} (h : nd.lf = true) : uW nd = zM nd.id := by unfold uW; rw [h]; rfl
theorem yrow_fk {nd : Nd} (h : nd.lf = false) : uW nd = nd.pf := by unfold uW; rw [h]; rfl
theorem qk_ok {x y : Nd} {s : Int} (q : Qk x y s) (hs : 0 ≤ s) : Sm x.dp (uW y) x.pf ∧ zZ (uW y) x.dp = s ∧ x.dp < dqt y := by
  obtain ⟨q1, q2, q3⟩ := q
  refine ⟨(dF _ _ _).1 q1, q2, ?_⟩
  have h5 := gbit_nonneg.1 (show 0 ≤ zZ (uW y) x.dp by omega)
  unfold dqt
  cases hl : y.lf
  · rw [if_neg (by decide)]
    exact q3 hl
  · rw [if_pos rfl, ← qU4 hl]; exact h5
theorem zI4 {M : List Nd} (ti : TI M) : ∀ (n i : Nat) (nd : Nd), M[i]? = some nd → i ≤ n → (zA1 M n i).Nodup ∧ ∀ p ∈ zA1 M n i, p < M.length ∧ ∃ y, M[p]? = some y ∧ y.lf = true ∧ Sm (dqt nd) (zM y.id) (uW nd)
  | 0, i, nd, hi, hn => by
    obtain rfl : i = 0 := by omega
    have hl : nd.lf = true := by
      cases h : nd.lf
      · have := (ti.fork 0 nd hi h).l; omega
      · rfl
    refine ⟨by simp [zA1], fun p hp => ?_⟩
    simp only [zA1, List.mem_singleton] at hp
    subst hp
    refine ⟨(List.getElem?_eq_some_iff.1 hi).1, nd, hi, hl, ?_⟩
    unfold dqt
    rw [if_pos hl, qU4 hl]
    exact Sm.self (Nat.le_refl _)
  | n + 1, i, nd, hi, hn => by
    have e := vX hi
    unfold zA1
    rw [e]
    cases hl : nd.lf
    case true =>
      rw [if_pos rfl]
      refine ⟨by simp, fun p hp => ?_⟩
      simp only [List.mem_singleton] at hp
      subst hp
      refine ⟨(List.getElem?_eq_some_iff.1 hi).1, nd, hi, hl, ?_⟩
      unfold dqt
      rw [if_pos hl, qU4 hl]
      exact Sm.self (Nat.le_refl _)
    rw [if_neg (by decide)]
    have fi := ti.fork i nd hi hl
    have fl := fi.l
    have fr := fi.r
    obtain ⟨yl, hyl, ql⟩ := fi.kl
    obtain ⟨yr, hyr, qr⟩ := fi.kr
    obtain ⟨l1, l2, l3⟩ := qk_ok ql (by decide)
    obtain ⟨r1, r2, r3⟩ := qk_ok qr (by decide)
    obtain ⟨nl, al⟩ := zI4 ti n nd.l yl hyl (by omega)
    obtain ⟨nr, ar⟩ := zI4 ti n nd.r yr hyr (by omega)
    have ed : dqt nd = nd.dp := by unfold dqt; rw [hl]; rfl
    rw [ed, yrow_fk hl]
    refine ⟨List.nodup_append.2 ⟨nl, nr, fun p hp p' hp' hpp => ?_⟩, fun p hp => ?_⟩
    · subst hpp
      obtain ⟨_, y, hy, _, sy⟩ := al p hp
      obtain ⟨_, y', hy', _, sy'⟩ := ar p hp'
      rw [hy] at hy'
      cases hy'
      have a1 := sy nd.dp l3
      have a2 := sy' nd.dp r3
      omega
    · rcases List.mem_append.1 hp with hp | hp
      · obtain ⟨a, y, hy, hf, sy⟩ := al p hp
        exact ⟨a, y, hy, hf, (sy.le (by omega)).trans l1⟩
      · obtain ⟨a, y, hy, hf, sy⟩ := ar p hp
        exact ⟨a, y, hy, hf, (sy.le (by omega)).trans r1⟩
theorem qK9 : ∀ (n : Nat) (l : List Nat), l.Nodup → (∀ x ∈ l, x < n) → l.length ≤ n
  | 0, l, _, h => by
    cases l with
    | nil => simp
    | cons a l => have := h a (List.mem_cons_self ..); omega
  | n + 1, l, hd, h => by
    by_cases hm : n ∈ l
    · have h1 := qK9 n (l.erase n) (hd.erase n) (fun x hx => by
        have h2 := (List.Nodup.mem_erase_iff hd).1 hx
        have := h x h2.2
        omega)
      have h2 := List.length_erase_of_mem hm
      omega
    · have := qK9 n l hd (fun x hx => by
        have h1 := h x hx
        have : x ≠ n := fun e => hm (e ▸ hx)
        omega)
      omega
theorem lvs_len {M : List Nd} (ti : TI M) {n i : Nat} {nd : Nd} (hi : M[i]? = some nd) (hn : i ≤ n) : (zA1 M n i).length ≤ M.length := by
  obtain ⟨a, b⟩ := zI4 ti n i nd hi hn
  exact qK9 _ _ a fun x hx => (b x hx).1
theorem fill2 {es : Nat} {z x y : Value} (hl : (vcells x).length = es) (hl2 : (vcells y).length = es) (hc : (vcells x).all zP = true) (hc2 : (vcells y).all zP = true) : wI (Shape.elems es).pl (uX z (2 * es)) [(0, x), (1, y)] = some (vcells x ++ vcells y) := by
  have hzl := jY z (2 * es)
  have hp : (Shape.elems es).pl 0 = some (0, es) := by simp [Shape.pl]
  have hp1 : (Shape.elems es).pl 1 = some (es, es) := by simp [Shape.pl]
  obtain ⟨A, B, eAB, hA, hB⟩ : ∃ A B, uX z (2 * es) = A ++ B ∧ A.length = es ∧ B.length = es := ⟨(uX z (2 * es)).take es, (uX z (2 * es)).drop es, (List.take_append_drop _ _).symm, by rw [List.length_take]; omega, by rw [List.length_drop]; omega⟩
  have step : ∀ (l cs pre post : List Value), l.length = cs.length → yQ (pre ++ (cs ++ post)) pre.length l = pre ++ (l ++ post) := by
    intro l
    induction l with
    | nil =>
      intro cs pre post h
      have : cs = [] := List.eq_nil_of_length_eq_zero h.symm
      subst this; rfl
    | cons v l ih =>
      intro cs pre post h
      cases cs with
      | nil => simp at h
      | cons c cs =>
        simp only [yQ]
        have e : (pre ++ (c :: cs ++ post)).set pre.length v = (pre ++ [v]) ++ (cs ++ post) := by simp
        rw [e]
        have := ih cs (pre ++ [v]) post (by simpa using h)
        simpa using this
  have s1 := step (vcells x) A [] B (by omega)
  have s2 := step (vcells y) B (vcells x) [] (by omega)
  simp only [List.nil_append, List.length_nil, List.append_nil] at s1 s2
  simp only [wI, hp, hp1, eAB, s1]
  rw [if_pos ⟨hl, by simp [hA, hB, hl], hc⟩, if_pos ⟨hl2, by simp [hB, hl, hl2], hc2⟩]
  rw [hl] at s2
  rw [s2]
theorem ofN_eq {K : Type} (M : List Nd) {nd : Nd} (h : nd.lf = true) : (zS2 nd : Pn K) = qY4 M nd := by unfold zS2 qY4; rw [if_pos h, if_pos h]
theorem ofN_kids {K : Type} (nd : Nd) : (zS2 nd : Pn K).kids = [] := by unfold zS2; split <;> rfl
theorem sD : type_of% (And.intro zG (And.intro wZ (And.intro wY (And.intro yM (And.intro xB (And.intro uT (And.intro wH rs51))))))) := And.intro zG (And.intro wZ (And.intro wY (And.intro yM (And.intro xB (And.intro uT (And.intro wH rs51))))))
theorem xW : type_of% (And.intro zG (And.intro wZ (And.intro fH (And.intro yB (And.intro wY (And.intro yM (And.intro pE (And.intro xB (And.intro uT (And.intro jP (And.intro wH rs68))))))))))) := And.intro zG (And.intro wZ (And.intro fH (And.intro yB (And.intro wY (And.intro yM (And.intro pE (And.intro xB (And.intro uT (And.intro jP (And.intro wH rs68))))))))))
def xS : Nat → List (Nat × List Nat) × List Nat
  | 11 => ([(0, []), (1, []), (2, []), (4, []), (5, []), (6, []), (3, [6]), (8, []), (7, []), (9, []), (10, []), (11, [])], [0, 0, 2, 7, 0, 0, 32, 127, 15, 511, 1023, 2047])
  | 7 => ([(0, []), (1, []), (2, []), (3, []), (4, []), (5, []), (6, []), (7, [1, 2]), (8, [1]), (9, []), (10, []), (11, [])], [0, 1, 0, 0, 0, 0, 32, 120, 252, 511, 1023, 2047])
  | _ => ([], [])
def PrS (M : List Nd) (q : Pq) (n i c : Nat) (hb h : GH) (kq : Nat) (s : St) (ar : Option Addr) (cr : Nat) (u : Value) (h' : GH) : Prop :=
  FR 3 kq h h' ∧ (∃ s' v' cells', QP hb h' kq q s' ar cr v' cells' ∧ Jn q s' (tL M q n i c).2 ∧ s'.1.length ≤ s.1.length + (zA1 M n i).length) ∧ ∃ cs, u = .agg cs.toArray ∧ SPn n h' cs (tL M q n i c).1
theorem qR5 {M : List Nd} {q : Pq} {n i c : Nat} {nd : Nd} (hi : M[i]? = some nd) (h : nd.lf = true) : tL M q n i c = (qY4 M nd, cntH q nd c) := by
  cases n with
  | zero => simp only [tL, vX hi, h, if_true]
  | succ n => simp only [tL, vX hi, h, if_true]
theorem zA9 {M : List Nd} {q : Pq} {n i c : Nat} {nd : Nd} (hi : M[i]? = some nd) (h : nd.lf = false) (hc : zL3 q nd c = true) : tL M q n i c = (qY4 M nd, c) := by
  cases n with
  | zero => simp only [tL, vX hi, h, Bool.false_eq_true, if_false]
  | succ n => simp only [tL, vX hi, h, Bool.false_eq_true, if_false, hc, if_true]
theorem qR4 {M : List Nd} {q : Pq} {n i c : Nat} {nd : Nd} (hi : M[i]? = some nd) (h : nd.lf = false) (hc : zL3 q nd c = false) : tL M q (n + 1) i c = (⟨3, 0, nd.dp, nd.nw, [], [], nd.pf, [], [], [(tL M q n nd.l c).1, (tL M q n nd.r (tL M q n nd.l c).2).1]⟩, (tL M q n nd.r (tL M q n nd.l c).2).2) := by
  simp only [tL, vX hi, h, Bool.false_eq_true, if_false, hc]
theorem zO0 {M : List Nd} {n i : Nat} {nd : Nd} (hi : M[i]? = some nd) (h : nd.lf = true) : zA1 M n i = [i] := by
  cases n with
  | zero => rfl
  | succ n => simp only [zA1, vX hi, h, if_true]
theorem zB3 {M : List Nd} {n i : Nat} {nd : Nd} (hi : M[i]? = some nd) (h : nd.lf = false) : zA1 M (n + 1) i = zA1 M n nd.l ++ zA1 M n nd.r := by
  simp only [zA1, vX hi, h, Bool.false_eq_true, if_false]
theorem c_OfX {K : Type} {R : GH → List Value → K → Prop} {h : GH} (N : Nat) {cn : List Value} {nd : Nd} (r : RNd h cn nd) : GTri Tryz.prog N 51 [.agg cn.toArray] h fun u h' => HS h h' ∧ ∃ cs, u = .agg cs.toArray ∧ RPn R h' cs (zS2 nd) ∧ cs[9]? = some (.slice none 0 0) := by
  obtain ⟨a1, c1, a2, c2, a3, c3, a4, c4, rfl, r1, r2, r3, r4⟩ := r
  unfold zS2
  refine zU Tryz.func51 rfl gf51 ok51 (by simp [Tryz.ntmps51]) ?_
  repeat' (first | with_reducible apply qK | ((with_reducible apply qB) <;> try simp only [qN, qC, qE, qG, qD, qA, qF, seval, qQ, qO, qP, sD]))
  refine wD rfl fun k1 h1 m1 s1 f1 n1 => ?_
  simp only [Nd.cs] at m1
  refine qJ ?_; repeat' (first | ((with_reducible apply qI) <;> try simp only [qN, qC, qE, qG, qD, qA, qF, seval, qQ, qO, qP, sD]))
  refine xQ fun k2 h2 m2 s2 f2 n2 => ?_
  have m12 := s2 _ _ m1
  have S2 := s1.trans s2
  have n2h : h k2 = none := s1.none_of n2
  cases hlf : nd.lf
  · rw [hlf] at m12
    rw [if_neg (by decide)]
    refine qJ ?_; repeat' (first | with_reducible apply qK | ((with_reducible first | apply qI | apply qB | apply qR | apply qS) <;> try simp only [qN, qC, qE, qG, qD, qA, qF, seval, qQ, qO, qP, sD, qH m12 rU, qH m12 zD, qH m12 zT, xU, wI, yQ, Shape.pl, List.all_cons, List.all_nil, zP]))
    refine vF m2 wL rfl (by decide) rfl rfl rfl fun h3 m3 f3 => ?_
    simp only [vcells] at m3
    have ld := zH (P := Tryz.prog) (t := 26) m3 wL rfl
    refine qJ ?_; repeat' (first | ((with_reducible first | apply qI | apply qM) <;> try simp only [qN, qC, qE, qG, qD, qA, qF, seval, qQ, qO, qP, sD, fM, ld]))
    exact ⟨S2.upd n2h f3, _, rfl, ⟨none, 0, none, 0, a3, c3, none, 0, none, 0, none, 0, rfl, RB.nil _, RB.nil _, (r3.hs S2).hx m2 rfl (zJ f3), RB.nil _, RB.nil _, RL.nil _⟩, rfl⟩
  · rw [hlf] at m12
    rw [if_pos rfl]
    refine qJ ?_; repeat' (first | with_reducible apply qK | ((with_reducible first | apply qI | apply qB | apply qR) <;> try simp only [qN, qC, qE, qG, qD, qA, qF, seval, qQ, qO, qP, sD, qH m12 rU, qH m12 zD, qH m12 zT, xU, wI, yQ, Shape.pl, List.all_cons, List.all_nil, zP]))
    refine vF m2 wL rfl (by decide) rfl rfl rfl fun h3 m3 f3 => ?_
    simp only [vcells] at m3
    have ld := zH (P := Tryz.prog) (t := 26) m3 wL rfl
    refine qJ ?_; repeat' (first | ((with_reducible first | apply qI | apply qM) <;> try simp only [qN, qC, qE, qG, qD, qA, qF, seval, qQ, qO, qP, sD, fM, ld]))
    exact ⟨S2.upd n2h f3, _, rfl, ⟨a1, c1, a2, c2, none, 0, none, 0, none, 0, none, 0, rfl, (r1.hs S2).hx m2 rfl (zJ f3), (r2.hs S2).hx m2 rfl (zJ f3), RB.nil _, RB.nil _, RB.nil _, RL.nil _⟩, rfl⟩
theorem FR.one {e j : Nat} {h h' : GH} {B : GB} (m : h j = some B) (hu : B.cells.all yP = true) (f : ∀ i, i ≠ j → h' i = h i) : FR e j h h' := fun i C m' q' => by
  by_cases hi : i = j
  · subst hi
    rw [m] at m'; cases m'
    rcases q' with q' | q'
    · rw [hu] at q'; cases q'
    · exact absurd rfl q'.1
  · rw [f i hi]; exact m'
theorem qU2 (N : Nat) {q : Pq} (hq : q.row.length ≤ 100000000) {M : List Nd} (ti : TI M) (n : Nat)
    (IH : ∀ m, n = m + 1 → ∀ {hb h ha : GH} {kq ka : Nat} {s : St} {ar : Option Addr} {cr : Nat} {v va : Value} {cells ca : List Value} (x : QP hb h kq q s ar cr v cells) (A : AA ha h ka va ca M) (hne : ka ≠ kq) {i : Nat} {nd : Nd} (hi : M[i]? = some nd) (hn : i ≤ m) {c : Nat} (J : Jn q s c) (hs : s.1.length + (zA1 M m i).length ≤ 1000000),
      GTri Tryz.prog N 68 [.pointer (some ⟨kq, 0, none⟩), .pointer (some ⟨ka, 0, none⟩), .int .i64 (i : Int)] h (PrS M q m i c hb h kq s ar cr))
    {hb h ha : GH} {kq ka : Nat} {s : St} {ar : Option Addr} {cr : Nat} {v va : Value} {cells ca : List Value} (x : QP hb h kq q s ar cr v cells) (A : AA ha h ka va ca M) (hne : ka ≠ kq) {i : Nat} {nd : Nd} (hi : M[i]? = some nd) (hn : i ≤ n) {c : Nat} (J : Jn q s c) (hs : s.1.length + (zA1 M n i).length ≤ 1000000) :
    GTri Tryz.prog N 68 [.pointer (some ⟨kq, 0, none⟩), .pointer (some ⟨ka, 0, none⟩), .int .i64 (i : Int)] h (PrS M q n i c hb h kq s ar cr) := by
  have okn := A.arr.ok.ok i nd hi
  have hpf := okn.pf
  refine zU Tryz.func68 rfl gf68 ok68 (by simp [Tryz.ntmps68]) ?_
  repeat' (first | with_reducible apply qK | ((with_reducible apply qB) <;> try simp only [qN, qC, qE, qG, qD, qA, qF, seval, qQ, qO, qP, qL, qX, qZ, zC, xW, xS]))
  refine xQ fun k6 h1 m1 s1 f1 n1 => ?_
  refine qJ ?_; repeat' (first | with_reducible apply qK | ((with_reducible first | apply qI | apply qB) <;> try simp only [qN, qC, qE, qG, qD, qA, qF, seval, qQ, qO, qP, qL, qX, qZ, zC, xW, xS]))
  refine (c_Node N (A.hs s1) hi).mono ?_
  rintro _ h2 ⟨s2, cn, rfl, r2⟩
  have S2 := s1.trans s2
  obtain ⟨a1, c1, a2, c2, a3, c3, a4, c4, rfl, r21, r22, r23, r24⟩ := r2
  refine qJ ?_; repeat' (first | ((with_reducible apply qI) <;> try simp only [qN, qC, qE, qG, qD, qA, qF, seval, qQ, qO, qP, qL, qX, qZ, zC, xW, xS]))
  refine xQ fun k7 h3 m3 s3 f3 n3 => ?_
  refine qJ ?_; repeat' (first | ((with_reducible apply qI) <;> try simp only [qN, qC, qE, qG, qD, qA, qF, seval, qQ, qO, qP, qL, qX, qZ, zC, xW, xS]))
  refine wT m3 wA rfl (by decide) rfl rfl rfl fun h4 m4 f4 => ?_
  have ld4 := zH (P := Tryz.prog) (t := 92) m4 wA rfl
  have s24 := s3.upd n3 f4
  have S4 := S2.trans s24
  have rn4 : RNd h4 (nd.cs (.slice a1 nd.id.length c1) (.slice a2 nd.ky.length c2) (.slice a3 nd.pf.length c3) (.slice a4 nd.hs.length c4)) nd := ⟨a1, c1, a2, c2, a3, c3, a4, c4, rfl, r21.hs s24, r22.hs s24, r23.hs s24, r24.hs s24⟩
  simp only [Nd.cs] at m4
  refine qJ ?_; repeat' (first | with_reducible apply qK | ((with_reducible first | apply qI | apply qB | apply qR | apply qS) <;> try simp only [qN, qC, qE, qG, qD, qA, qF, seval, qQ, qO, qP, qL, qX, qZ, zC, xW, xS, ld4]))
  refine (c_OfX (R := RPd n) N rn4).mono ?_
  rintro _ h5 ⟨s5, c5, rfl, r5, nl5⟩
  have hc5 := r5.len
  refine qJ ?_; repeat' (first | ((with_reducible apply qI) <;> try simp only [qN, qC, qE, qG, qD, qA, qF, seval, qQ, qO, qP, qL, qX, qZ, zC, xW, xS]))
  refine xQ fun k9 h6 m6 s6 f6 n6 => ?_
  refine qJ ?_; repeat' (first | ((with_reducible apply qI) <;> try simp only [qN, qC, qE, qG, qD, qA, qF, seval, qQ, qO, qP, qL, qX, qZ, zC, xW, xS]))
  refine wT m6 wL rfl (by decide) hc5.1 rfl hc5.2.1 fun h7 m7 f7 => ?_
  have s57 := s6.upd n6 f7
  have S5 := S4.trans s5
  have S7 := S5.trans s57
  have n9h : h k9 = none := S5.none_of n6
  have m47 := s57 _ _ (s5 _ _ m4)
  have m17 := s57 _ _ (s5 _ _ (s24 _ _ (s2 _ _ m1)))
  have r7 := r5.hs s57 (fun cs x r => RPd.hs s57 n r)
  have ld7 := zH (P := Tryz.prog) (t := 26) m7 wL hc5.1
  have x7 := x.keep S7
  have A7 := A.hs S7
  have k6q : k6 ≠ kq := fun e => by rw [e, x.obj] at n1; cases n1
  have k9q : k9 ≠ kq := fun e => by rw [e, x.obj] at n9h; cases n9h
  have k7q : k7 ≠ kq := fun e => by rw [e] at n3; rw [S2 _ _ x.obj] at n3; cases n3
  have k69 : k6 ≠ k9 := yX (s5 _ _ (s24 _ _ (s2 _ _ m1))) n6
  have k79 : k7 ≠ k9 := yX (s5 _ _ m4) n6
  have kq6 : ∀ B', h kq = some B' → B'.es = 0 := fun B' m => by rw [x.obj] at m; cases m; rfl
  cases hlf : nd.lf
  case true =>
    rw [hlf] at m47
    refine qJ ?_; repeat' (first | (with_reducible first | apply qK | apply qT) | ((with_reducible first | apply qI | apply qB | apply qR) <;> try simp only [qN, qC, qE, qG, qD, qA, qF, seval, qQ, qO, qP, qL, qX, qZ, zC, xW, xS, qH m47 rU, ld7]))
    have eid : (zS2 nd : Pn (Pd n)).id = nd.id ∧ (zS2 nd : Pn (Pd n)).si = nd.si ∧ (zS2 nd : Pn (Pd n)).ky = nd.ky := by unfold zS2; rw [if_pos hlf]; exact ⟨rfl, rfl, rfl⟩
    have okid := okn.id
    have okky := okn.ky
    rw [zO0 hi hlf] at hs
    simp only [List.length_singleton] at hs
    refine (zL7 N x7 r7 (by rw [eid.1]; omega) (by rw [eid.2.2]; omega) (by omega)).mono ?_
    rintro _ h8 ⟨fr8, v8, cells8, x8⟩
    have m98 := fr8 _ _ m7 (.inr ⟨k9q, by simp⟩)
    have m18 := fr8 _ _ m17 (.inr ⟨k6q, by simp⟩)
    have ld8 := zH (P := Tryz.prog) (t := 26) m98 wL hc5.1
    refine qJ ?_; repeat' (first | with_reducible apply qK | ((with_reducible first | apply qI | apply qB) <;> try simp only [qN, qC, qE, qG, qD, qA, qF, seval, qQ, qO, qP, qL, qX, qZ, zC, xW, xS, ld8]))
    refine wT m18 wL rfl (by decide) hc5.1 rfl hc5.2.1 fun h9 m9 f9 => ?_
    have ld9 := zH (P := Tryz.prog) (t := 26) m9 wL hc5.1
    refine qJ ?_; repeat' (first | ((with_reducible first | apply qI | apply qM) <;> try simp only [qN, qC, qE, qG, qD, qA, qF, seval, qQ, qO, qP, qL, qX, qZ, zC, xW, xS, fM, ld9]))
    have F8 := (FR.of (e := 3) (k := kq) S7).trans fr8
    have F9 := F8.upd n1 f9
    have b6 : hb k6 = none := x.hs.none_of n1
    refine ⟨F9, ⟨q.see (zS2 nd : Pn (Pd n)) s, v8, cells8, x8.upd m18 rfl rfl k6q.symm b6 f9, ?_, ?_⟩, c5, rfl, ?_⟩
    · rw [qR5 hi hlf]
      exact J.see eid.1 eid.2.1
    · rw [zO0 hi hlf]
      exact zN4 _ _ _
    · rw [qR5 hi hlf, ← ofN_eq M hlf]
      exact SPn.fr (FR.one m18 rfl f9) ⟨_, m18, rfl⟩ (SPn.fr fr8 ⟨_, x7.obj, rfl⟩ (SPn.none r7 (ofN_kids nd)))
  obtain ⟨m, rfl⟩ : ∃ m, n = m + 1 := ⟨n - 1, by have := (ti.fork i nd hi hlf).l; omega⟩
  have ih := @IH m rfl
  have fi := ti.fork i nd hi hlf
  have fl := fi.l
  have frr := fi.r
  obtain ⟨yl, hyl, _⟩ := fi.kl
  obtain ⟨yr, hyr, _⟩ := fi.kr
  have eof : (zS2 nd : Pn (Pd (m + 1))) = ⟨2, 0, nd.dp, nd.nw, [], [], nd.pf, [], [], []⟩ := by unfold zS2; rw [hlf]; rfl
  have eend : (qY4 M nd : Pn (Pd (m + 1))) = ⟨2, 0, nd.dp, nd.nw, [], [], nd.pf, yl.hs, yr.hs, []⟩ := by unfold qY4; rw [hlf, vX hyl, vX hyr]; rfl
  rw [eof] at r7
  rw [hlf] at m47
  refine qJ ?_; iterate 6 (first | (with_reducible first | apply qK | apply qT) | ((with_reducible first | apply qI | apply qB | apply qR) <;> try simp only [qN, qC, qE, qG, qD, qA, qF, seval, qQ, qO, qP, qL, qX, qZ, zC, xW, xS, qH m47 rU]))
  refine qK ?_
  refine GW.mono (Q := fun z e' h' => z = .normal ∧ HS h7 h' ∧ lk e' 0 = .pointer (some ⟨kq, 0, none⟩) ∧ lk e' 1 = .pointer (some ⟨ka, 0, none⟩) ∧ lk e' 6 = .pointer (some ⟨k6, 0, none⟩) ∧ lk e' 7 = .pointer (some ⟨k7, 0, none⟩) ∧ lk e' 9 = .pointer (some ⟨k9, 0, none⟩) ∧ lk e' 45 = .bool (zL3 q nd c)) ?_ ?_
  · have ecut : zL3 q nd c = (q.idle (⟨2, 0, nd.dp, nd.nw, [], [], nd.pf, [], [], []⟩ : Pn (Pd (m + 1))) || q.full s) := by rw [J.full]; rfl
    rw [ecut]
    refine qJ ?_; repeat' (first | ((with_reducible first | apply qI | apply qB) <;> try simp only [qN, qC, qE, qG, qD, qA, qF, seval, qQ, qO, qP, qL, qX, qZ, zC, xW, xS, ld7]))
    refine (qY9 N x7 r7 (by simp only; omega) hq).mono ?_
    rintro _ h8 ⟨rfl, s8⟩
    have x8 := x7.keep s8
    cases hidl : q.idle (⟨2, 0, nd.dp, nd.nw, [], [], nd.pf, [], [], []⟩ : Pn (Pd (m + 1)))
    case true =>
      refine qJ ?_; repeat' (first | ((with_reducible apply qI) <;> try simp only [qN, qC, qE, qG, qD, qA, qF, seval, qQ, qO, qP, qL, qX, qZ, zC, xW, xS, gPick]))
      first | exact s8 | exact ⟨s8, by simp⟩
    refine qJ ?_; repeat' (first | ((first | (with_reducible apply qI) | ((refine GTri.mono (qC0 _ x8) ?_); rintro _ _ ⟨rfl, hh9⟩; replace hh9 := hh9.symm; subst hh9)) <;> try simp only [qN, qC, qE, qG, qD, qA, qF, seval, qQ, qO, qP, qL, qX, qZ, zC, xW, xS, gPick]))
    first | exact s8 | exact ⟨s8, by simp⟩
  rintro _ e' h8 ⟨rfl, s8, q0, q1, q6, q7, q9, q45⟩
  rw [gT]
  refine tM [(0, .pointer (some ⟨kq, 0, none⟩)), (1, .pointer (some ⟨ka, 0, none⟩)), (6, .pointer (some ⟨k6, 0, none⟩)), (7, .pointer (some ⟨k7, 0, none⟩)), (9, .pointer (some ⟨k9, 0, none⟩)), (45, .bool (zL3 q nd c))] (by simp [q0, q1, q6, q7, q9, q45]) ?_
  clear q0 q1 q6 q7 q9 q45
  have S8 := S7.trans s8
  have x8 := x.keep S8
  have A8 := A.hs S8
  have m78 := s8 _ _ m47
  have m98 := s8 _ _ m7
  have m18 := s8 _ _ m17
  have r8 := r7.hs s8 (fun cs x r => RPd.hs s8 (m + 1) r)
  obtain ⟨e1, d1, e2, d2, e3, d3, e4, d4, e5, d5, e6, d6, ec5, y1, y2, y3, y4, y5, y6⟩ := r8
  rw [ec5] at m98 hc5 nl5
  obtain ⟨rfl, rfl⟩ : e6 = none ∧ d6 = 0 := by simpa [Pn.cs] using nl5
  simp only [Pn.cs] at m98
  have b6 : hb k6 = none := x.hs.none_of n1
  have b9 : hb k9 = none := x.hs.none_of n9h
  cases hcut : zL3 q nd c
  case true =>
    refine qJ ?_; repeat' (first | ((first | (with_reducible first | apply qI | apply qR) | with_reducible refine zE xS xG (by kernel_rfl) ?_) <;> try simp only [qN, qC, qE, qG, qD, qA, qF, seval, qQ, qO, qP, qL, qX, qZ, zC, xW, xS, qH m78 zT]))
    refine (qZ2 N A8 hyl).mono ?_
    rintro _ h9 ⟨s9, al, cl, rfl, rl⟩
    have m79 := s9 _ _ m78
    refine qJ ?_; repeat' (first | ((with_reducible apply qI) <;> try simp only [qN, qC, qE, qG, qD, qA, qF, seval, qQ, qO, qP, qL, qX, qZ, zC, xW, xS, qH m79 zT]))
    refine (qZ2 N (A8.hs s9) hyr).mono ?_
    rintro _ h10 ⟨s10, al2, cl2, rfl, rr⟩
    have s8_10 := s9.trans s10
    have m910 := s8_10 _ _ m98
    have m110 := s8_10 _ _ m18
    refine qJ ?_; repeat' (first | ((with_reducible apply qI) <;> try simp only [qN, qC, qE, qG, qD, qA, qF, seval, qQ, qO, qP, qL, qX, qZ, zC, xW, xS]))
    refine zY m910 zD rfl (by simp) rfl rfl fun h11 m11 f11 => ?_
    simp only [List.set_cons_zero, List.set_cons_succ] at m11
    refine qJ ?_; repeat' (first | ((with_reducible apply qI) <;> try simp only [qN, qC, qE, qG, qD, qA, qF, seval, qQ, qO, qP, qL, qX, qZ, zC, xW, xS]))
    refine zY m11 zD rfl (by simp) rfl rfl fun h12 m12 f12 => ?_
    simp only [List.set_cons_zero, List.set_cons_succ] at m12
    have ld12 := zH (P := Tryz.prog) (t := 26) m12 wL rfl
    have m112 : h12 k6 = _ := (f12 k6 k69).trans ((f11 k6 k69).trans m110)
    refine qJ ?_; repeat' (first | with_reducible apply qK | ((with_reducible first | apply qI | apply qB) <;> try simp only [qN, qC, qE, qG, qD, qA, qF, seval, qQ, qO, qP, qL, qX, qZ, zC, xW, xS, ld12]))
    refine wT m112 wL rfl (by decide) rfl rfl rfl fun h13 m13 f13 => ?_
    have ld13 := zH (P := Tryz.prog) (t := 26) m13 wL rfl
    refine qJ ?_; repeat' (first | ((with_reducible first | apply qI | apply qM) <;> try simp only [qN, qC, qE, qG, qD, qA, qF, seval, qQ, qO, qP, qL, qX, qZ, zC, xW, xS, fM, ld13]))
    have S10 := S8.trans s8_10
    have x10 := x.keep S10
    have F13 : FR 3 kq h h13 := (((FR.of (e := 3) (k := kq) S10).upd n9h f11).upd n9h f12).upd n1 f13
    have zc : ∀ {v l}, RB h10 v l → RB h13 v l := fun r => ((r.hx m910 rfl (zJ f11)).hx m11 rfl (zJ f12)).hx m112 rfl (zJ f13)
    refine ⟨F13, ⟨s, v, cells, ((x10.upd m910 rfl rfl k9q.symm b9 f11).upd m11 rfl rfl k9q.symm b9 f12).upd m112 rfl rfl k6q.symm b6 f13, ?_, by omega⟩, _, rfl, ?_⟩
    · rw [zA9 hi hlf hcut]
      exact J
    · rw [zA9 hi hlf hcut]
      simp only
      rw [eend]
      exact SPn.none ⟨e1, d1, e2, d2, e3, d3, al, cl, al2, cl2, none, 0, rfl, zc (y1.hs s8_10), zc (y2.hs s8_10), zc (y3.hs s8_10), zc (rl.hs s10), zc rr, y6.nilk⟩ rfl
  rw [zB3 hi hlf, List.length_append] at hs
  refine qJ ?_; repeat' (first | with_reducible apply qK | ((with_reducible first | apply qI | apply qB | apply qR) <;> try simp only [qN, qC, qE, qG, qD, qA, qF, seval, qQ, qO, qP, qL, qX, qZ, zC, xW, xS]))
  refine zY m98 zT rfl (by simp) rfl rfl fun h9 m9 f9 => ?_
  simp only [List.set_cons_zero, List.set_cons_succ] at m9
  have x9 := x8.upd m98 rfl rfl k9q.symm b9 f9
  have kaq9 : ka ≠ k9 := fun e => by
    have := A.obj
    rw [e, n9h] at this; cases this
  have A9 := A8.upd m98 rfl kaq9 f9
  have m79 := (f9 k7 k79).trans m78
  have m19 := (f9 k6 k69).trans m18
  have S9 : HS h h9 := S8.upd n9h f9
  refine qJ ?_; repeat' (first | with_reducible apply qK | ((with_reducible first | apply qI | apply qB) <;> try simp only [qN, qC, qE, qG, qD, qA, qF, seval, qQ, qO, qP, qL, qX, qZ, zC, xW, xS, qH m79 zT]))
  refine (ih x9 A9 hne hyl (by omega) J (by omega)).mono ?_
  rintro _ h10 ⟨fr10, ⟨s10, v10, cells10, x10, J10, l10⟩, c10, rfl, p10⟩
  have hc10 := p10.len
  have m910 := fr10 _ _ m9 (.inr ⟨k9q, by simp⟩)
  have m710 := fr10 _ _ m79 (.inr ⟨k7q, by simp⟩)
  have m110 := fr10 _ _ m19 (.inr ⟨k6q, by simp⟩)
  have A10 := A9.fr fr10 x9.obj rfl hne (by decide) (by decide)
  refine qJ ?_; repeat' (first | ((with_reducible apply qI) <;> try simp only [qN, qC, qE, qG, qD, qA, qF, seval, qQ, qO, qP, qL, qX, qZ, zC, xW, xS]))
  refine xQ fun k10 h11 m11 s11 f11 n11 => ?_
  refine qJ ?_; repeat' (first | ((with_reducible apply qI) <;> try simp only [qN, qC, qE, qG, qD, qA, qF, seval, qQ, qO, qP, qL, qX, qZ, zC, xW, xS]))
  refine wT m11 wL rfl (by decide) hc10.1 rfl hc10.2.1 fun h12 m12 f12 => ?_
  have s10_12 := s11.upd n11 f12
  have x12 := x10.keep s10_12
  have A12 := A10.hs s10_12
  have m912 := s10_12 _ _ m910
  have m712 := s10_12 _ _ m710
  have m112 := s10_12 _ _ m110
  have p12 := p10.hs s10_12
  have k10q : k10 ≠ kq := fun e => by rw [e, x10.obj] at n11; cases n11
  have k910 : k9 ≠ k10 := yX m910 n11
  have ld12 := zH (P := Tryz.prog) (t := 26) m12 wL hc10.1
  refine qJ ?_; repeat' (first | ((first | (with_reducible apply qI) | with_reducible refine zE xS xG (by kernel_rfl) ?_) <;> try simp only [qN, qC, qE, qG, qD, qA, qF, seval, qQ, qO, qP, qL, qX, qZ, zC, xW, xS, ld12, qH m712 zT, qH m912 wQ]))
  refine (ih x12 A12 hne hyr (by omega) J10 (by omega)).mono ?_
  rintro _ h13 ⟨fr13, ⟨s13, v13, cells13, x13, J13, l13⟩, c13, rfl, p13⟩
  have hc13 := p13.len
  have m913 := fr13 _ _ m912 (.inr ⟨k9q, by simp⟩)
  have m113 := fr13 _ _ m112 (.inr ⟨k6q, by simp⟩)
  have m1013 := fr13 _ _ m12 (.inr ⟨k10q, by simp⟩)
  have p1213 := SPn.fr fr13 ⟨_, x12.obj, rfl⟩ p12
  have ld13 := zH (P := Tryz.prog) (t := 26) m1013 wL hc10.1
  refine qJ ?_; repeat' (first | ((with_reducible apply qI) <;> try simp only [qN, qC, qE, qG, qD, qA, qF, seval, qQ, qO, qP, qL, qX, qZ, zC, xW, xS, ld13, qH m913 wQ]))
  have F2 : ∀ z, wI (Shape.elems 10).pl (uX z (2 * 10)) [(0, .agg c10.toArray), (1, .agg c13.toArray)] = some (c10 ++ c13) := fun z => fill2 (es := 10) (x := .agg c10.toArray) (y := .agg c13.toArray) (by simpa [vcells] using hc10.1) (by simpa [vcells] using hc13.1) (by simpa [vcells] using hc10.2.1) (by simpa [vcells] using hc13.2.1)
  refine dM (cs := c10 ++ c13) el24 rfl (by decide) (by decide) (F2 _) (by rw [List.all_append, hc10.2.1, hc13.2.1]; rfl) fun k14 h14 m14 s14 f14 n14 => ?_
  have m914 := s14 _ _ m913
  have m114 := s14 _ _ m113
  have src14 : lC h14 10 (.slice (some ⟨k14, 0, none⟩) 2 5) = some (2, c10 ++ c13) := by
    have := yH (n := 20) (cs := c10 ++ c13) m14 (by rw [List.drop_zero]; exact List.take_of_length_le (by simp [hc10.1, hc13.1])) (by simp [hc10.1, hc13.1])
    simp [lC, this]
  refine qJ ?_; repeat' (first | ((with_reducible apply qI) <;> try simp only [qN, qC, qE, qG, qD, qA, qF, seval, qQ, qO, qP, qL, qX, qZ, zC, xW, xS, qH m914 wQ]))
  refine gQ el24 Tryz.underlying24 rfl (HS.refl h14) (OWNC.nil _ _ _) src14 (by simp [hc10.1, hc13.1]) (by rw [List.all_append, hc10.2.1, hc13.2.1]; rfl) (by omega) (by simp only [maxLen]; omega) fun v15 h15 s15 fr15 o15 => ?_
  rw [List.nil_append] at o15
  obtain ⟨q15, _⟩ | ⟨_, q15, _⟩ | ⟨kb, ckb, rfl, ev1, ev2, _, _, mb15, nb15⟩ := o15
  · omega
  · omega
  have m915 := s15 _ _ m914
  have m115 := s15 _ _ m114
  refine qJ ?_; repeat' (first | ((with_reducible apply qI) <;> try simp only [qN, qC, qE, qG, qD, qA, qF, seval, qQ, qO, qP, qL, qX, qZ, zC, xW, xS, qH m915 wQ]))
  refine zY m915 wQ rfl (by simp) rfl rfl fun h16 m16 f16 => ?_
  simp only [List.set_cons_zero, List.set_cons_succ] at m16
  have ld16 := zH (P := Tryz.prog) (t := 26) m16 wL rfl
  have m116 : h16 k6 = _ := (f16 k6 k69).trans m115
  refine qJ ?_; repeat' (first | with_reducible apply qK | ((with_reducible first | apply qI | apply qB) <;> try simp only [qN, qC, qE, qG, qD, qA, qF, seval, qQ, qO, qP, qL, qX, qZ, zC, xW, xS, ld16]))
  refine wT m116 wL rfl (by decide) rfl rfl rfl fun h17 m17 f17 => ?_
  have ld17 := zH (P := Tryz.prog) (t := 26) m17 wL rfl
  refine qJ ?_; repeat' (first | ((with_reducible first | apply qI | apply qM) <;> try simp only [qN, qC, qE, qG, qD, qA, qF, seval, qQ, qO, qP, qL, qX, qZ, zC, xW, xS, fM, ld17]))
  have s1315 := s14.trans s15
  have F9 : FR 3 kq h h9 := (FR.of (e := 3) (k := kq) S8).upd n9h f9
  have F15 : FR 3 kq h h15 := (((F9.trans fr10).trans (.of s10_12)).trans fr13).trans (.of s1315)
  have F17 : FR 3 kq h h17 := (F15.upd n9h f16).upd n1 f17
  have x15 := x13.keep s1315
  have x17 := (x15.upd m915 rfl rfl k9q.symm b9 f16).upd m116 rfl rfl k6q.symm b6 f17
  have zc : ∀ {v l}, RB h8 v l → RB h17 v l := fun r => ((((((r.hx m98 rfl (zJ f9)).fr fr10).hs s10_12).fr fr13).hs s1315).hx m915 rfl (zJ f16)).hx m116 rfl (zJ f17)
  have zp : ∀ {cs p}, SPn m h13 cs p → SPn m h17 cs p := fun r => SPn.fr (FR.one m116 rfl f17) ⟨_, m116, rfl⟩ (SPn.fr (FR.one m915 rfl f16) ⟨_, m915, rfl⟩ (r.hs s1315))
  have kb9 : kb ≠ k9 := fun e => by rw [e, m915] at mb15; exact absurd (congrArg GB.es (Option.some.inj mb15)) (by simp)
  have kb6 : kb ≠ k6 := fun e => by rw [e, m115] at mb15; exact absurd (congrArg GB.es (Option.some.inj mb15)) (by simp)
  have mb17 := (f17 kb kb6).trans ((f16 kb kb9).trans mb15)
  refine ⟨F17, ⟨s13, v13, cells13, x17, ?_, ?_⟩, _, rfl, ?_⟩
  · rw [qR4 hi hlf hcut]
    exact J13
  · rw [zB3 hi hlf, List.length_append]; omega
  · rw [qR4 hi hlf hcut]
    exact .inr ⟨_, _, kb, ckb, true, c10, c13, .slice e1 0 d1, .slice e2 0 d2, .slice e3 nd.pf.length d3, .slice e4 0 d4, .slice e5 0 d5, rfl, rfl, ⟨e1, d1, rfl, zc y1⟩, ⟨e2, d2, rfl, zc y2⟩, ⟨e3, d3, rfl, zc y3⟩, ⟨e4, d4, rfl, zc y4⟩, ⟨e5, d5, rfl, zc y5⟩, mb17, hc10.1, hc13.1, by omega, zp p1213, zp p13⟩
theorem zG6 (N : Nat) {q : Pq} (hq : q.row.length ≤ 100000000) {M : List Nd} (ti : TI M) : ∀ (n : Nat) {hb h ha : GH} {kq ka : Nat} {s : St} {ar : Option Addr} {cr : Nat} {v va : Value} {cells ca : List Value} (x : QP hb h kq q s ar cr v cells) (A : AA ha h ka va ca M) (hne : ka ≠ kq) {i : Nat} {nd : Nd} (hi : M[i]? = some nd) (hn : i ≤ n) {c : Nat} (J : Jn q s c) (hs : s.1.length + (zA1 M n i).length ≤ 1000000),
    GTri Tryz.prog N 68 [.pointer (some ⟨kq, 0, none⟩), .pointer (some ⟨ka, 0, none⟩), .int .i64 (i : Int)] h (PrS M q n i c hb h kq s ar cr)
  | 0, _, _, _, _, _, _, _, _, _, _, _, _, x, A, hne, _, _, hi, hn, _, J, hs => qU2 N hq ti 0 (fun m e => by omega) x A hne hi hn J hs
  | n + 1, _, _, _, _, _, _, _, _, _, _, _, _, x, A, hne, _, _, hi, hn, _, J, hs => qU2 N hq ti (n + 1) (fun m e => by
      obtain rfl : n = m := by omega
      exact zG6 N hq ti n) x A hne hi hn J hs
theorem sC : type_of% (And.intro zG (And.intro wZ (And.intro fH (And.intro yB (And.intro wY (And.intro yM (And.intro pE (And.intro xB (And.intro uT (And.intro jP (And.intro wH rs68))))))))))) := And.intro zG (And.intro wZ (And.intro fH (And.intro yB (And.intro wY (And.intro yM (And.intro pE (And.intro xB (And.intro uT (And.intro jP (And.intro wH rs68))))))))))
def tR : Nat → List (Nat × List Nat) × List Nat
  | 11 => ([(0, []), (1, []), (2, []), (4, []), (5, []), (6, []), (3, [6]), (8, []), (7, []), (9, []), (10, []), (11, [])], [0, 0, 2, 7, 0, 0, 32, 127, 15, 511, 1023, 2047])
  | 7 => ([(0, []), (1, []), (2, []), (3, []), (4, []), (5, []), (6, []), (7, [1, 2]), (8, [1]), (9, []), (10, []), (11, [])], [0, 1, 0, 0, 0, 0, 32, 120, 252, 511, 1023, 2047])
  | _ => ([], [])
theorem dH : type_of% (And.intro zG (And.intro wZ (And.intro fH (And.intro yB (And.intro wY (And.intro pE (And.intro xB (And.intro uT (And.intro jP (And.intro wH rs22)))))))))) := And.intro zG (And.intro wZ (And.intro fH (And.intro yB (And.intro wY (And.intro pE (And.intro xB (And.intro uT (And.intro jP (And.intro wH rs22)))))))))
theorem zU8 (N : Nat) {q : Pq} {M : List Nd} {hb h ha : GH} {kq ka : Nat} {s : St} {ar : Option Addr} {cr : Nat} {v va : Value} {cells ca : List Value} (x : QP hb h kq q s ar cr v cells) (A : AA ha h ka va ca M) {i : Int} (hi : i < 0 ∨ (M.length : Int) ≤ i) {K : Type} (R : GH → List Value → K → Prop) :
    GTri Tryz.prog N 68 [.pointer (some ⟨kq, 0, none⟩), .pointer (some ⟨ka, 0, none⟩), .int .i64 i] h fun u h' => HS h h' ∧ ∃ cs, u = .agg cs.toArray ∧ RPn R h' cs noPart := by
  refine zU Tryz.func68 rfl gf68 ok68 (by simp [Tryz.ntmps68]) ?_
  repeat' (first | with_reducible apply qK | ((with_reducible apply qB) <;> try simp only [qN, qC, qE, qG, qD, qA, qF, seval, qQ, qO, qP, qL, qX, qZ, zC, sC, tR]))
  refine xQ fun k6 h1 m1 s1 f1 n1 => ?_
  refine qJ ?_; repeat' (first | with_reducible apply qK | ((with_reducible first | apply qI | apply qB) <;> try simp only [qN, qC, qE, qG, qD, qA, qF, seval, qQ, qO, qP, qL, qX, qZ, zC, sC, tR]))
  refine (zR0 N (A.hs s1) hi).mono ?_
  rintro _ h2 ⟨s2, rfl⟩
  simp only [zN]
  refine qJ ?_; repeat' (first | ((with_reducible apply qI) <;> try simp only [qN, qC, qE, qG, qD, qA, qF, seval, qQ, qO, qP, qL, qX, qZ, zC, sC, tR]))
  refine xQ fun k7 h3 m3 s3 f3 n3 => ?_
  refine qJ ?_; repeat' (first | ((with_reducible apply qI) <;> try simp only [qN, qC, qE, qG, qD, qA, qF, seval, qQ, qO, qP, qL, qX, qZ, zC, sC, tR]))
  refine vF m3 wA rfl (by decide) rfl rfl rfl fun h4 m4 f4 => ?_
  have S4 := (s1.trans s2).trans (s3.upd n3 f4)
  have m14 := (s3.upd n3 f4) _ _ (s2 _ _ m1)
  refine qJ ?_; repeat' (first | with_reducible apply qK | ((with_reducible first | apply qI | apply qB | apply qR) <;> try simp only [qN, qC, qE, qG, qD, qA, qF, seval, qQ, qO, qP, qL, qX, qZ, zC, sC, tR, xU, wI, yQ, Shape.pl, List.all_cons, List.all_nil, zP]))
  refine vF m14 wL rfl (by decide) rfl rfl rfl fun h5 m5 f5 => ?_
  simp only [vcells] at m5
  have ld := zH (P := Tryz.prog) (t := 26) m5 wL rfl
  refine qJ ?_; repeat' (first | ((with_reducible first | apply qI | apply qM) <;> try simp only [qN, qC, qE, qG, qD, qA, qF, seval, qQ, qO, qP, qL, qX, qZ, zC, sC, tR, fM, ld]))
  exact ⟨S4.upd n1 f5, _, rfl, noPart_R R _⟩
def PrvP (M : List Nd) (q : Pq) (rt : Int) : Pn (Pd M.length) := if rt < 0 then noPart else (tL M q M.length rt.toNat 0).1
theorem c_SProve (N : Nat) {h ha : GH} {ka : Nat} {va : Value} {ca : List Value} {M : List Nd} (A : AA ha h ka va ca M) (ti : TI M) (hML : M.length ≤ 10000) {rt : Int} (ro : RtOk M rt) (fr : Int) (sm : Bool) (lim : Int) {a : Option Addr} {c : Nat} {id : List UInt8} (ri : RB h (.slice a id.length c) id) :
    GTri Tryz.prog N 22 [.pointer (some ⟨ka, 0, none⟩), .int .i64 rt, .int .i64 fr, .bool sm, .slice a id.length c, .int .i64 lim] h fun u h' => HS h h' ∧ ∃ cs, u = .agg cs.toArray ∧ RPn (RPd M.length) h' cs (PrvP M ⟨fr, sm, zM id, lim⟩ rt) := by
  have hkl := yY id
  unfold PrvP
  refine zU Tryz.func22 rfl gf22 ok22 (by simp [Tryz.ntmps22]) ?_
  repeat' (first | with_reducible apply qK | ((with_reducible apply qB) <;> try simp only [qN, qC, qE, qG, qD, qA, qF, seval, qQ, qO, qP, dH]))
  refine xQ fun k12 h1 m1 s1 f1 n1 => ?_
  refine qJ ?_; repeat' (first | with_reducible apply qK | ((with_reducible first | apply qI | apply qB) <;> try simp only [qN, qC, qE, qG, qD, qA, qF, seval, qQ, qO, qP, dH]))
  refine (zQ8 N fr sm lim (ri.hs s1)).mono ?_
  rintro _ h2 ⟨s2, k, ar, cr, hb, rfl, x2, sb, nk⟩
  have S2 := s1.trans s2
  have A2 := A.hs S2
  have hne : ka ≠ k := fun e => by
    have := A.obj
    rw [← e, s1 _ _ this] at nk; cases nk
  have m12 := s2 _ _ m1
  have Sb := s1.trans sb
  rcases ro with ⟨rfl, rfl⟩ | ⟨r, rfl, hr⟩
  · rw [if_pos (by decide)]
    refine qJ ?_; repeat' (first | ((with_reducible apply qI) <;> try simp only [qN, qC, qE, qG, qD, qA, qF, seval, qQ, qO, qP, dH]))
    refine (zU8 N x2 A2 (.inl (by decide)) (RPd 0)).mono ?_
    rintro _ h3 ⟨s3, cs, rfl, r3⟩
    have m13 := s3 _ _ m12
    have hc := r3.len
    refine qJ ?_; repeat' (first | ((with_reducible apply qI) <;> try simp only [qN, qC, qE, qG, qD, qA, qF, seval, qQ, qO, qP, dH]))
    refine wT m13 wL rfl (by decide) hc.1 rfl hc.2.1 fun h4 m4 f4 => ?_
    have ld := zH (P := Tryz.prog) (t := 26) m4 wL hc.1
    refine qJ ?_; repeat' (first | ((with_reducible first | apply qI | apply qM) <;> try simp only [qN, qC, qE, qG, qD, qA, qF, seval, qQ, qO, qP, dH, fM, ld]))
    exact ⟨(S2.trans s3).upd n1 f4, cs, rfl, RPn.bx (fun r => r.hx m13 rfl (zJ f4)) rfl r3⟩
  · obtain ⟨nd, hnd⟩ := jU hr
    have hl := lvs_len ti hnd (Nat.le_of_lt hr)
    rw [if_neg (by omega), Int.toNat_natCast]
    refine qJ ?_; repeat' (first | ((with_reducible apply qI) <;> try simp only [qN, qC, qE, qG, qD, qA, qF, seval, qQ, qO, qP, dH]))
    refine (zG6 N (q := ⟨fr, sm, zM id, lim⟩) (by simp only; omega) ti M.length x2 A2 hne hnd (Nat.le_of_lt hr) (c := 0) (.inl rfl) (by simp only [List.length_nil]; omega)).mono ?_
    rintro _ h3 ⟨fr3, ⟨s3', v3, cells3, x3, _, _⟩, cs, rfl, p3⟩
    have k12k : k12 ≠ k := fun e => by rw [e, nk] at m1; cases m1
    have m13 := fr3 _ _ m12 (.inr ⟨k12k, by simp⟩)
    have hc := p3.len
    refine qJ ?_; repeat' (first | ((with_reducible apply qI) <;> try simp only [qN, qC, qE, qG, qD, qA, qF, seval, qQ, qO, qP, dH]))
    refine wT m13 wL rfl (by decide) hc.1 rfl hc.2.1 fun h4 m4 f4 => ?_
    have ld := zH (P := Tryz.prog) (t := 26) m4 wL hc.1
    refine qJ ?_; repeat' (first | ((with_reducible first | apply qI | apply qM) <;> try simp only [qN, qC, qE, qG, qD, qA, qF, seval, qQ, qO, qP, dH, fM, ld]))
    have b12 : h k12 = none := n1
    exact ⟨(Sb.trans x3.hs).upd n1 f4, cs, rfl, (SPn.fr (FR.one m13 rfl f4) ⟨_, m13, rfl⟩ p3).rpn⟩
theorem fO : type_of% (And.intro zG (And.intro wZ (And.intro ty52 (And.intro pI (And.intro zM8 (And.intro yB (And.intro wY (And.intro pJ (And.intro xB (And.intro mZ (And.intro uT (And.intro jP (And.intro wH rs31))))))))))))) := And.intro zG (And.intro wZ (And.intro ty52 (And.intro pI (And.intro zM8 (And.intro yB (And.intro wY (And.intro pJ (And.intro xB (And.intro mZ (And.intro uT (And.intro jP (And.intro wH rs31))))))))))))
theorem lst_a : pL 4 ⟨2, false, zM [], 1⟩ 1 (PrvP [yC [97] [] 3] ⟨2, false, zM [], 1⟩ 0) = (([(([97], []), 3)], false), 0) := by decide +kernel
theorem qF9 (N : Nat) {h : GH} (t : TK h) : GTri Tryz.prog N 31 [] h fun v h' => v = .bool true ∧ HS h h' := by
  refine zU Tryz.func31 rfl gf31 ok31 (by simp [Tryz.ntmps31]) ?_
  refine qJ ?_; repeat' (first | with_reducible apply qK | ((with_reducible first | apply qI | apply qB) <;> try simp only [qN, qC, qE, qG, qD, qA, qF, seval, qQ, qO, qP, fO]))
  refine dM (cs := [.int .u8 97]) vH rfl (by decide) (by decide) (by rw [xZ _ rfl]; rfl) rfl fun k1 h1 m1 s1 f1 n1 => ?_
  refine qJ ?_; repeat' (first | ((with_reducible apply qI) <;> try simp only [qN, qC, qE, qG, qD, qA, qF, seval, qQ, qO, qP, fO]))
  refine mark_g Tryz.underlying22 Tryz.underlying5 m1 rfl (by decide) fun h1b m1b f1b => ?_
  have s1b : HS h h1b := s1.upd n1 f1b
  refine qJ ?_; repeat' (first | ((with_reducible apply qI) <;> try simp only [qN, qC, qE, qG, qD, qA, qF, seval, qQ, qO, qP, fO, xU, wI, yQ, Shape.pl, List.all_cons, List.all_nil, zP]))
  refine dM (cs := [.slice (some ⟨k1, 0, none⟩) 1 3, .slice none 0 0, .int .i64 3]) el52 rfl (by decide) (by decide) (fill1 rfl rfl) rfl fun k2 h2 m2 s2 f2 n2 => ?_
  have S2 := s1b.trans s2
  have rb1 : RB h1b (.slice (some ⟨k1, 0, none⟩) ([97] : List UInt8).length 3) [97] := .inr ⟨⟨k1, 0, none⟩, 3, rfl, yH m1b rfl rfl, by decide⟩
  have rp : RL 3 RPut h2 (.slice (some ⟨k2, 0, none⟩) ([(([97], []), 3)] : List Pt).length 3) [(([97], []), 3)] := .inr ⟨⟨k2, 0, none⟩, 3, _, rfl, yH m2 rfl rfl, by decide, fun i x hx => by
    rcases i with _ | i
    · cases hx
      exact ⟨_, _, _, _, rfl, rb1.hs s2, RB.nil _⟩
    · simp at hx, .inr ⟨_, m2, .inl (by simp)⟩⟩
  refine qJ ?_; repeat' (first | ((with_reducible apply qI) <;> try simp only [qN, qC, qE, qG, qD, qA, qF, seval, qQ, qO, qP, fO]))
  refine (c_tree18 N (t.hs S2) rp (by simp) (by simp)).mono ?_
  rintro _ h3 ⟨s3, k, kq, M, rt, v, cs, v2, cs2, rfl, _, x3, y3, ti, ro, hone, _⟩
  obtain ⟨eM, ert⟩ := hone _ rfl
  have es : zA7 3 = 3 := by decide
  simp only [es] at eM
  have eM' : M = [yC [97] [] 3] := eM
  subst eM'
  subst ert
  have S3 := S2.trans s3
  refine qJ ?_; repeat' (first | with_reducible apply qK | ((with_reducible first | apply qI | apply qB | apply qR | apply qS) <;> try simp only [qN, qC, qE, qG, qD, qA, qF, seval, qQ, qO, qP, fO, gPick]))
  refine (c_SProve N x3 ti (by simp) ro 2 false 1 (id := []) (a := none) (c := 0) (RB.nil _)).mono ?_
  rintro _ h4 ⟨s4, cs4, rfl, r4⟩
  have S4 := S3.trans s4
  refine qJ ?_; repeat' (first | ((with_reducible apply qI) <;> try simp only [qN, qC, qE, qG, qD, qA, qF, seval, qQ, qO, qP, fO, gPick]))
  refine (qZ1 N 4 1 2 false 1 (id := []) (a := none) (c := 0) (RB.nil _) r4 (by decide +kernel)).mono ?_
  rintro _ h5 ⟨s5, ai, ci, rfl, rl⟩
  rw [lst_a] at rl ⊢
  simp only at rl ⊢
  obtain ⟨ad, cs6, g1, g2, a7, c7, b7, d7, rfl, _⟩ := RL.at (P := Tryz.prog) rl Tryz.underlying65 lA (i := 0) (x := (([97], []), 3)) rfl
  have g1' : zI Tryz.prog 65 (.slice ai 1 ci) 0 = some (.pointer (some ad)) := g1
  have g3 := qA6 (P := Tryz.prog) (t := 3) zT (qS3 g2 (i := 2) (v := .int .i64 3) rfl)
  refine qJ ?_; repeat' (first | with_reducible apply qK | ((with_reducible first | apply qI | apply qB | apply qM) <;> try simp only [qN, qC, qE, qG, qD, qA, qF, seval, qQ, qO, qP, fO, gPick, g1', g3, List.drop_succ_cons, List.drop_zero, List.take_succ_cons, List.take_zero]))
  exact S4.trans s5
theorem yI : type_of% (And.intro zG (And.intro wZ (And.intro wY (And.intro xB (And.intro wH rs120))))) := And.intro zG (And.intro wZ (And.intro wY (And.intro xB (And.intro wH rs120))))
theorem xD : type_of% (And.intro zG (And.intro wZ (And.intro wY (And.intro xB (And.intro uT (And.intro wH rs73)))))) := And.intro zG (And.intro wZ (And.intro wY (And.intro xB (And.intro uT (And.intro wH rs73)))))
def xC : Nat → List (Nat × List Nat) × List Nat
  | 11 => ([(0, []), (1, []), (2, []), (3, []), (4, []), (5, []), (6, []), (7, []), (8, []), (9, []), (10, []), (11, []), (12, []), (13, []), (14, []), (15, []), (16, []), (17, []), (18, []), (19, []), (20, []), (21, []), (22, []), (24, []), (25, []), (26, []), (27, []), (23, [18, 25, 27]), (28, [18]), (29, []), (30, []), (31, []), (32, [])], [0, 0, 0, 4, 12, 28, 63, 127, 255, 255, 255, 1279, 3327, 7423, 16383, 32767, 65535, 131071, 262143, 131071, 655359, 1703935, 3801087, 7995391, 131071, 16908287, 50462719, 117571583, 268042239, 536477695, 1073741823, 2147483647, 4294967295])
  | _ => ([], [])
theorem dG : type_of% (And.intro zG (And.intro wZ (And.intro wY (And.intro xB (And.intro uT rs30))))) := And.intro zG (And.intro wZ (And.intro wY (And.intro xB (And.intro uT rs30))))
theorem c_rkid (N : Nat) (size : Int) {n : Nat} {L : Type} {R' : GH → List Value → L → Prop} {h : GH} {cu cp : List Value} {up : Pn L} {p : Pn (Pd n)} (ru : RPn R' h cu up) (r : RPn (RPd n) h cp p) (hk : Pn.bulk (Pd.bulk n) p ≤ 100000000) (fk : up.frk = true) {s : Int}
    (ih : ∀ {h2 : GH}, HS h h2 → GTri Tryz.prog N 73 [.int .i64 size, .agg cp.toArray] h2 fun v h' => v = .bool (wO size n p) ∧ HS h2 h') :
    GTri Tryz.prog N 120 [.int .i64 size, .agg cu.toArray, .agg cp.toArray, .int .i64 s] h fun v h' => v = .bool (kJ up s p && wO size n p) ∧ HS h h' := by
  have hbp := Pn.bulk_parts p
  have hcs := r.len
  have fk' := up.frk_ok fk
  obtain ⟨a1, c1, a2, c2, a3, c3, a4, c4, a5, c5, a6, c6, rfl, r1, r2, r3, r4, r5, r6⟩ := ru
  have r0 := r
  obtain ⟨b1, d1, b2, d2, b3, d3, b4, d4, b5, d5, b6, d6, rfl, q1, q2, q3, q4, q5, q6⟩ := r
  obtain ⟨dp, hdp⟩ : ∃ w : Nat, up.dp = (w : Int) := ⟨up.dp.toNat, by omega⟩
  have hbl : p.bits.length ≤ 100000000 := by
    unfold Pn.bits
    split
    · rw [yY]; omega
    · omega
  unfold kJ
  rw [hdp, Int.toNat_natCast]
  refine zU Tryz.func120 rfl gf120 ok120 (by simp [Tryz.ntmps120]) ?_
  repeat' (first | with_reducible apply qK | ((with_reducible apply qB) <;> try simp only [qN, qC, qE, qG, qD, qA, qF, seval, qQ, qO, qP, yI]))
  refine wD rfl fun k5 h1 m1 s1 f1 n1 => ?_
  refine qJ ?_; repeat' (first | ((with_reducible apply qI) <;> try simp only [qN, qC, qE, qG, qD, qA, qF, seval, qQ, qO, qP, yI]))
  refine wD rfl fun k6 h2 m2 s2 f2 n2 => ?_
  have S2 := s1.trans s2
  have m12 := s2 _ _ m1
  have ld := zH (P := Tryz.prog) (t := 26) m2 wL rfl
  simp only [Pn.cs] at m12 m2 ld
  refine qJ ?_; repeat' (first | with_reducible apply qK | ((with_reducible first | apply qI | apply qB) <;> try simp only [qN, qC, qE, qG, qD, qA, qF, seval, qQ, qO, qP, yI, ld]))
  refine (c_rBits N (r0.hs S2 (fun cs x r => RPd.hs S2 n r)) (by omega)).mono ?_
  rintro _ h3 ⟨s3, a7, c7, rfl, r7⟩
  have S3 := S2.trans s3
  have m13 := s3 _ _ m12
  have m23 := s3 _ _ m2
  have ld3 := xT s3 ld
  cases w0 : (p.kd != 0)
  case false =>
    have e0 : p.kd = 0 := by simpa using w0
    have w1 : (p.kd == 1) = false := by rw [e0]; rfl
    cases w2 : decide (p.dp > (dp : Int))
    all_goals
      refine qJ ?_; repeat' (first | with_reducible apply qK | ((with_reducible first | apply qI | apply qB | apply qM) <;> try simp only [qN, qC, qE, qG, qD, qA, qF, seval, qQ, qO, qP, yI, w0, w1, w2, hdp, qH m13 zT, qH m13 zD, qH m23 zT, gPick]))
      first | exact S3 | exact ⟨by simp, S3⟩
  cases w1 : (p.kd == 1)
  case false =>
    cases w2 : decide (p.dp > (dp : Int))
    case false =>
      refine qJ ?_; repeat' (first | with_reducible apply qK | ((with_reducible first | apply qI | apply qB | apply qM) <;> try simp only [qN, qC, qE, qG, qD, qA, qF, seval, qQ, qO, qP, yI, w0, w1, w2, hdp, qH m13 zT, qH m13 zD, qH m23 zT, gPick]))
      first | exact S3 | exact ⟨by simp, S3⟩
    refine qJ ?_; repeat' (first | with_reducible apply qK | ((with_reducible first | apply qI | apply qB) <;> try simp only [qN, qC, qE, qG, qD, qA, qF, seval, qQ, qO, qP, yI, w0, w1, w2, hdp, qH m13 zT, qH m13 zD, qH m23 zT, gPick]))
    refine (mX N h3 r7 (r3.hs S3) (by omega) (by omega) _ (WalkArith.wf_i64 (by omega))).mono ?_
    rintro _ h4 ⟨rfl, s4⟩
    have S4 := S3.trans s4
    have m14 := s4 _ _ m13
    cases y1 : sB p.bits up.pf (dp : Int)
    case false =>
      refine qJ ?_; repeat' (first | ((with_reducible first | apply qI | apply qM) <;> try simp only [qN, qC, qE, qG, qD, qA, qF, seval, qQ, qO, qP, yI, gPick]))
      first | exact S4 | exact ⟨by simp, S4⟩
    have ld4 := xT s4 ld3
    cases y2 : (zZ p.bits dp == s)
    case false =>
      refine qJ ?_; repeat' (first | ((first | (with_reducible first | apply qI | apply qM) | ((refine GTri.mono (kV _ _ (r7.hs s4) dp (by omega)) ?_); rintro _ _ ⟨rfl, hh9⟩; replace hh9 := hh9.symm; subst hh9)) <;> try simp only [qN, qC, qE, qG, qD, qA, qF, seval, qQ, qO, qP, yI, hdp, y2, qH m14 zT, gPick]))
      first | exact S4 | exact ⟨by simp, S4⟩
    refine qJ ?_; repeat' (first | ((first | (with_reducible apply qI) | ((refine GTri.mono (kV _ _ (r7.hs s4) dp (by omega)) ?_); rintro _ _ ⟨rfl, hh9⟩; replace hh9 := hh9.symm; subst hh9)) <;> try simp only [qN, qC, qE, qG, qD, qA, qF, seval, qQ, qO, qP, yI, hdp, y2, ld4, qH m14 zT, gPick]))
    refine (ih S4).mono ?_
    rintro _ h5 ⟨rfl, s5⟩
    refine qJ ?_; repeat' (first | ((with_reducible first | apply qI | apply qM) <;> try simp only [qN, qC, qE, qG, qD, qA, qF, seval, qQ, qO, qP, yI, gPick]))
    first | exact S4.trans s5 | exact ⟨by simp, S4.trans s5⟩
  refine qJ ?_; repeat' (first | with_reducible apply qK | ((with_reducible first | apply qI | apply qB) <;> try simp only [qN, qC, qE, qG, qD, qA, qF, seval, qQ, qO, qP, yI, w0, w1, hdp, qH m13 zT, qH m13 zD, qH m23 zT, gPick]))
  refine (mX N h3 r7 (r3.hs S3) (by omega) (by omega) _ (WalkArith.wf_i64 (by omega))).mono ?_
  rintro _ h4 ⟨rfl, s4⟩
  have S4 := S3.trans s4
  have m14 := s4 _ _ m13
  cases y1 : sB p.bits up.pf (dp : Int)
  case false =>
    refine qJ ?_; repeat' (first | ((with_reducible first | apply qI | apply qM) <;> try simp only [qN, qC, qE, qG, qD, qA, qF, seval, qQ, qO, qP, yI, gPick]))
    first | exact S4 | exact ⟨by simp, S4⟩
  have ld4 := xT s4 ld3
  cases y2 : (zZ p.bits dp == s)
  case false =>
    refine qJ ?_; repeat' (first | ((first | (with_reducible first | apply qI | apply qM) | ((refine GTri.mono (kV _ _ (r7.hs s4) dp (by omega)) ?_); rintro _ _ ⟨rfl, hh9⟩; replace hh9 := hh9.symm; subst hh9)) <;> try simp only [qN, qC, qE, qG, qD, qA, qF, seval, qQ, qO, qP, yI, hdp, y2, qH m14 zT, gPick]))
    first | exact S4 | exact ⟨by simp, S4⟩
  refine qJ ?_; repeat' (first | ((first | (with_reducible apply qI) | ((refine GTri.mono (kV _ _ (r7.hs s4) dp (by omega)) ?_); rintro _ _ ⟨rfl, hh9⟩; replace hh9 := hh9.symm; subst hh9)) <;> try simp only [qN, qC, qE, qG, qD, qA, qF, seval, qQ, qO, qP, yI, hdp, y2, ld4, qH m14 zT, gPick]))
  refine (ih S4).mono ?_
  rintro _ h5 ⟨rfl, s5⟩
  refine qJ ?_; repeat' (first | ((with_reducible first | apply qI | apply qM) <;> try simp only [qN, qC, qE, qG, qD, qA, qF, seval, qQ, qO, qP, yI, gPick]))
  first | exact S4.trans s5 | exact ⟨by simp, S4.trans s5⟩
theorem c_rmay (N : Nat) (size : Int) : ∀ (n : Nat) {h : GH} {cs : List Value} {p : Pn (Pd n)} (r : RPn (RPd n) h cs p) (hk : Pn.bulk (Pd.bulk n) p ≤ 100000000),
    GTri Tryz.prog N 73 [.int .i64 size, .agg cs.toArray] h fun v h' => v = .bool (wO size n p) ∧ HS h h' := by
  intro n
  induction n with
  | zero =>
    intro h cs p r hk
    have hbp := Pn.bulk_parts p
    have r0 := r
    have hcs := r.len
    obtain ⟨a1, c1, a2, c2, a3, c3, a4, c4, a5, c5, a6, c6, rfl, r1, r2, r3, r4, r5, r6⟩ := r
    have hmv : wO size 0 p = (p.right size && !(p.kd == 3)) := rfl
    have ekd : p.kids.length = 0 := by rw [tW p]; rfl
    refine zU Tryz.func73 rfl gf73 ok73 (by simp [Tryz.ntmps73]) ?_
    repeat' (first | with_reducible apply qK | ((with_reducible apply qB) <;> try simp only [qN, qC, qE, qG, qD, qA, qF, seval, qQ, qO, qP, qL, qX, qZ, zC, xD, xC]))
    refine wD rfl fun k1 h1 m1 s1 f1 n1 => ?_
    have q0 := r0.hs s1 (fun cs x r => RPd.hs s1 0 r)
    have ld := zH (P := Tryz.prog) (t := 26) m1 wL rfl
    simp only [Pn.cs] at m1
    by_cases k0 : p.kd = 0
    · have e0 : (p.kd == 0) = true := by simp [k0]
      have e3 : (p.kd == 3) = false := by rw [k0]; rfl
      have ev : wO size 0 p = p.rnoth := by
        rw [p.rnoth_eq, e0, Bool.true_and]
        have e1 : p.right size = p.blank false false := by unfold Pn.right; rw [if_pos k0]
        simp only [wO, e1, e3, Bool.not_false, Bool.and_true, Bool.true_or]
      rw [ev]
      refine qJ ?_; repeat' (first | (with_reducible first | apply qK | apply qT) | ((with_reducible first | apply qI | apply qB | apply qR) <;> try simp only [qN, qC, qE, qG, qD, qA, qF, seval, qQ, qO, qP, qL, qX, qZ, zC, xD, xC, qH m1 zT, e0, ld]))
      refine (qH8 N q0).mono ?_
      rintro _ h2 ⟨rfl, s2⟩
      refine qJ ?_; repeat' (first | ((with_reducible first | apply qI | apply qM) <;> try simp only [qN, qC, qE, qG, qD, qA, qF, seval, qQ, qO, qP, qL, qX, qZ, zC, xD, xC]))
      first | exact s1.trans s2 | exact ⟨rfl, s1.trans s2⟩
    have e0 : (p.kd == 0) = false := by simp [k0]
    by_cases k1' : p.kd = 1
    · have e1 : (p.kd == 1) = true := by simp [k1']
      have e3 : (p.kd == 3) = false := by rw [k1']; rfl
      have ev : wO size 0 p = p.rleaf := by
        rw [p.rleaf_eq]
        have e1 : p.right size = (p.blank true false && zF0 p.si && decide ((p.id.length : Int) ≤ 255) && decide ((p.ky.length : Int) ≤ 48)) := by unfold Pn.right; rw [if_neg k0, if_pos k1']
        simp only [wO, e1, e3, Bool.not_false, Bool.and_true, Bool.true_or]
      rw [ev]
      refine qJ ?_; repeat' (first | (with_reducible first | apply qK | apply qT) | ((with_reducible first | apply qI | apply qB | apply qR) <;> try simp only [qN, qC, qE, qG, qD, qA, qF, seval, qQ, qO, qP, qL, qX, qZ, zC, xD, xC, qH m1 zT, e0, e1, ld]))
      refine (zG3 N q0).mono ?_
      rintro _ h2 ⟨rfl, s2⟩
      refine qJ ?_; repeat' (first | ((with_reducible first | apply qI | apply qM) <;> try simp only [qN, qC, qE, qG, qD, qA, qF, seval, qQ, qO, qP, qL, qX, qZ, zC, xD, xC]))
      first | exact s1.trans s2 | exact ⟨rfl, s1.trans s2⟩
    have e1 : (p.kd == 1) = false := by simp [k1']
    by_cases k2' : p.kd = 2
    · have e2 : (p.kd == 2) = true := by simp [k2']
      have e3 : (p.kd == 3) = false := by rw [k2']; rfl
      have ev : wO size 0 p = (p.rfork && ((p.lf.length : Int) == size) && ((p.rt.length : Int) == size) && ((p.kids.length : Int) == 0)) := by
        rw [p.rfork_eq]
        have e1 : p.right size = (p.frk && p.hsh size && ((p.kids.length : Int) == 0)) := by unfold Pn.right; rw [if_neg k0, if_neg k1', if_pos k2']
        simp only [wO, e1, e3, Bool.not_false, Bool.and_true, Bool.true_or, Pn.hsh, Bool.and_assoc]
      rw [ev]
      refine qJ ?_; repeat' (first | (with_reducible first | apply qK | apply qT) | ((with_reducible first | apply qI | apply qB | apply qR) <;> try simp only [qN, qC, qE, qG, qD, qA, qF, seval, qQ, qO, qP, qL, qX, qZ, zC, xD, xC, qH m1 zT, e0, e1, e2, ld]))
      refine (qJ7 N q0 (by omega)).mono ?_
      rintro _ h2 ⟨rfl, s2⟩
      have S2 := s1.trans s2
      have m2 := s2 _ _ m1
      cases zf : p.rfork
      case false =>
        refine qJ ?_; repeat' (first | ((with_reducible first | apply qI | apply qM) <;> try simp only [qN, qC, qE, qG, qD, qA, qF, seval, qQ, qO, qP, qL, qX, qZ, zC, xD, xC, gPick]))
        first | exact S2 | exact ⟨by simp, S2⟩
      cases z0 : ((p.lf.length : Int) == size)
      case false =>
        refine qJ ?_; repeat' (first | ((with_reducible first | apply qI | apply qM) <;> try simp only [qN, qC, qE, qG, qD, qA, qF, seval, qQ, qO, qP, qL, qX, qZ, zC, xD, xC, z0, qH m2 zD, qH m2 wQ, gPick]))
        first | exact S2 | exact ⟨by simp, S2⟩
      cases z1 : ((p.rt.length : Int) == size)
      case false =>
        refine qJ ?_; repeat' (first | ((with_reducible first | apply qI | apply qM) <;> try simp only [qN, qC, qE, qG, qD, qA, qF, seval, qQ, qO, qP, qL, qX, qZ, zC, xD, xC, z0, z1, qH m2 zD, qH m2 wQ, gPick]))
        first | exact S2 | exact ⟨by simp, S2⟩
      refine qJ ?_; repeat' (first | ((with_reducible first | apply qI | apply qM) <;> try simp only [qN, qC, qE, qG, qD, qA, qF, seval, qQ, qO, qP, qL, qX, qZ, zC, xD, xC, z0, z1, qH m2 zD, qH m2 wQ, gPick]))
      first | exact S2 | exact ⟨by simp, S2⟩
    have e2 : (p.kd == 2) = false := by simp [k2']
    by_cases k3 : p.kd = 3
    case neg =>
      have e3 : (p.kd == 3) = false := by simp [k3]
      have ev : wO size 0 p = false := by
        rw [hmv]
        have : p.right size = false := by unfold Pn.right; rw [if_neg k0, if_neg k1', if_neg k2', if_neg k3]
        rw [this]; rfl
      rw [ev]
      refine qJ ?_; repeat' (first | (with_reducible first | apply qK | apply qT) | ((with_reducible first | apply qI | apply qB | apply qR | apply qS | apply qM) <;> try simp only [qN, qC, qE, qG, qD, qA, qF, seval, qQ, qO, qP, qL, qX, qZ, zC, xD, xC, qH m1 zT, e0, e1, e2, e3, ld]))
      first | exact s1 | exact ⟨rfl, s1⟩
    have e3 : (p.kd == 3) = true := by simp [k3]
    have ev : wO size 0 p = false := by rw [hmv, e3]; simp
    rw [ev]
    refine qJ ?_; repeat' (first | (with_reducible first | apply qK | apply qT) | ((with_reducible first | apply qI | apply qB | apply qR) <;> try simp only [qN, qC, qE, qG, qD, qA, qF, seval, qQ, qO, qP, qL, qX, qZ, zC, xD, xC, qH m1 zT, e0, e1, e2, e3, ld]))
    refine (qJ7 N q0 (by omega)).mono ?_
    rintro _ h2 ⟨rfl, s2⟩
    have m2 := s2 _ _ m1
    have z2 : ((p.kids.length : Int) != 2) = true := by rw [ekd]; rfl
    cases zf : p.rfork
    case false =>
      refine qJ ?_; repeat' (first | with_reducible apply qK | ((with_reducible first | apply qI | apply qB | apply qR | apply qM) <;> try simp only [qN, qC, qE, qG, qD, qA, qF, seval, qQ, qO, qP, qL, qX, qZ, zC, xD, xC, gPick, Bool.not_false]))
      first | exact s1.trans s2 | exact ⟨by simp, s1.trans s2⟩
    cases z0 : decide ((p.lf.length : Int) > 0)
    case true =>
      refine qJ ?_; repeat' (first | with_reducible apply qK | ((with_reducible first | apply qI | apply qB | apply qR | apply qM) <;> try simp only [qN, qC, qE, qG, qD, qA, qF, seval, qQ, qO, qP, qL, qX, qZ, zC, xD, xC, z0, qH m2 zD, qH m2 wQ, gPick, Bool.not_true]))
      first | exact s1.trans s2 | exact ⟨by simp, s1.trans s2⟩
    cases z1 : decide ((p.rt.length : Int) > 0)
    case true =>
      refine qJ ?_; repeat' (first | with_reducible apply qK | ((with_reducible first | apply qI | apply qB | apply qR | apply qM) <;> try simp only [qN, qC, qE, qG, qD, qA, qF, seval, qQ, qO, qP, qL, qX, qZ, zC, xD, xC, z0, z1, qH m2 zD, qH m2 wQ, gPick, Bool.not_true]))
      first | exact s1.trans s2 | exact ⟨by simp, s1.trans s2⟩
    refine qJ ?_; repeat' (first | with_reducible apply qK | ((with_reducible first | apply qI | apply qB | apply qR | apply qM) <;> try simp only [qN, qC, qE, qG, qD, qA, qF, seval, qQ, qO, qP, qL, qX, qZ, zC, xD, xC, z0, z1, z2, qH m2 zD, qH m2 wQ, gPick, Bool.not_true]))
    first | exact s1.trans s2 | exact ⟨by simp, s1.trans s2⟩
  | succ n ih =>
    intro h cs p r hk
    have hbp := Pn.bulk_parts p
    have r0 := r
    have hcs := r.len
    obtain ⟨a1, c1, a2, c2, a3, c3, a4, c4, a5, c5, a6, c6, rfl, r1, r2, r3, r4, r5, r6⟩ := r
    refine zU Tryz.func73 rfl gf73 ok73 (by simp [Tryz.ntmps73]) ?_
    repeat' (first | with_reducible apply qK | ((with_reducible apply qB) <;> try simp only [qN, qC, qE, qG, qD, qA, qF, seval, qQ, qO, qP, qL, qX, qZ, zC, xD, xC]))
    refine wD rfl fun k1 h1 m1 s1 f1 n1 => ?_
    have q0 := r0.hs s1 (fun cs x r => RPd.hs s1 (n + 1) r)
    have ld := zH (P := Tryz.prog) (t := 26) m1 wL rfl
    simp only [Pn.cs] at m1
    by_cases k0 : p.kd = 0
    · have e0 : (p.kd == 0) = true := by simp [k0]
      have e3 : (p.kd == 3) = false := by rw [k0]; rfl
      have ev : wO size (n + 1) p = p.rnoth := by
        rw [p.rnoth_eq, e0, Bool.true_and]
        have e1 : p.right size = p.blank false false := by unfold Pn.right; rw [if_pos k0]
        simp only [wO, e1, e3, Bool.not_false, Bool.and_true, Bool.true_or]
      rw [ev]
      refine qJ ?_; repeat' (first | (with_reducible first | apply qK | apply qT) | ((with_reducible first | apply qI | apply qB | apply qR) <;> try simp only [qN, qC, qE, qG, qD, qA, qF, seval, qQ, qO, qP, qL, qX, qZ, zC, xD, xC, qH m1 zT, e0, ld]))
      refine (qH8 N q0).mono ?_
      rintro _ h2 ⟨rfl, s2⟩
      refine qJ ?_; repeat' (first | ((with_reducible first | apply qI | apply qM) <;> try simp only [qN, qC, qE, qG, qD, qA, qF, seval, qQ, qO, qP, qL, qX, qZ, zC, xD, xC]))
      first | exact s1.trans s2 | exact ⟨rfl, s1.trans s2⟩
    have e0 : (p.kd == 0) = false := by simp [k0]
    by_cases k1' : p.kd = 1
    · have e1 : (p.kd == 1) = true := by simp [k1']
      have e3 : (p.kd == 3) = false := by rw [k1']; rfl
      have ev : wO size (n + 1) p = p.rleaf := by
        rw [p.rleaf_eq]
        have e1 : p.right size = (p.blank true false && zF0 p.si && decide ((p.id.length : Int) ≤ 255) && decide ((p.ky.length : Int) ≤ 48)) := by unfold Pn.right; rw [if_neg k0, if_pos k1']
        simp only [wO, e1, e3, Bool.not_false, Bool.and_true, Bool.true_or]
      rw [ev]
      refine qJ ?_; repeat' (first | (with_reducible first | apply qK | apply qT) | ((with_reducible first | apply qI | apply qB | apply qR) <;> try simp only [qN, qC, qE, qG, qD, qA, qF, seval, qQ, qO, qP, qL, qX, qZ, zC, xD, xC, qH m1 zT, e0, e1, ld]))
      refine (zG3 N q0).mono ?_
      rintro _ h2 ⟨rfl, s2⟩
      refine qJ ?_; repeat' (first | ((with_reducible first | apply qI | apply qM) <;> try simp only [qN, qC, qE, qG, qD, qA, qF, seval, qQ, qO, qP, qL, qX, qZ, zC, xD, xC]))
      first | exact s1.trans s2 | exact ⟨rfl, s1.trans s2⟩
    have e1 : (p.kd == 1) = false := by simp [k1']
    by_cases k2' : p.kd = 2
    · have e2 : (p.kd == 2) = true := by simp [k2']
      have e3 : (p.kd == 3) = false := by rw [k2']; rfl
      have ev : wO size (n + 1) p = (p.rfork && ((p.lf.length : Int) == size) && ((p.rt.length : Int) == size) && ((p.kids.length : Int) == 0)) := by
        rw [p.rfork_eq]
        have e1 : p.right size = (p.frk && p.hsh size && ((p.kids.length : Int) == 0)) := by unfold Pn.right; rw [if_neg k0, if_neg k1', if_pos k2']
        simp only [wO, e1, e3, Bool.not_false, Bool.and_true, Bool.true_or, Pn.hsh, Bool.and_assoc]
      rw [ev]
      refine qJ ?_; repeat' (first | (with_reducible first | apply qK | apply qT) | ((with_reducible first | apply qI | apply qB | apply qR) <;> try simp only [qN, qC, qE, qG, qD, qA, qF, seval, qQ, qO, qP, qL, qX, qZ, zC, xD, xC, qH m1 zT, e0, e1, e2, ld]))
      refine (qJ7 N q0 (by omega)).mono ?_
      rintro _ h2 ⟨rfl, s2⟩
      have S2 := s1.trans s2
      have m2 := s2 _ _ m1
      cases zf : p.rfork
      case false =>
        refine qJ ?_; repeat' (first | ((with_reducible first | apply qI | apply qM) <;> try simp only [qN, qC, qE, qG, qD, qA, qF, seval, qQ, qO, qP, qL, qX, qZ, zC, xD, xC, gPick]))
        first | exact S2 | exact ⟨by simp, S2⟩
      cases z0 : ((p.lf.length : Int) == size)
      case false =>
        refine qJ ?_; repeat' (first | ((with_reducible first | apply qI | apply qM) <;> try simp only [qN, qC, qE, qG, qD, qA, qF, seval, qQ, qO, qP, qL, qX, qZ, zC, xD, xC, z0, qH m2 zD, qH m2 wQ, gPick]))
        first | exact S2 | exact ⟨by simp, S2⟩
      cases z1 : ((p.rt.length : Int) == size)
      case false =>
        refine qJ ?_; repeat' (first | ((with_reducible first | apply qI | apply qM) <;> try simp only [qN, qC, qE, qG, qD, qA, qF, seval, qQ, qO, qP, qL, qX, qZ, zC, xD, xC, z0, z1, qH m2 zD, qH m2 wQ, gPick]))
        first | exact S2 | exact ⟨by simp, S2⟩
      refine qJ ?_; repeat' (first | ((with_reducible first | apply qI | apply qM) <;> try simp only [qN, qC, qE, qG, qD, qA, qF, seval, qQ, qO, qP, qL, qX, qZ, zC, xD, xC, z0, z1, qH m2 zD, qH m2 wQ, gPick]))
      first | exact S2 | exact ⟨by simp, S2⟩
    have e2 : (p.kd == 2) = false := by simp [k2']
    by_cases k3 : p.kd = 3
    case neg =>
      have hmv : wO size (n + 1) p = (p.right size && !(p.kd == 3)) := by
        have e3 : (p.kd == 3) = false := by simp [k3]
        simp only [wO, e3, Bool.not_false, Bool.true_or]
      have e3 : (p.kd == 3) = false := by simp [k3]
      have ev : wO size (n + 1) p = false := by
        rw [hmv]
        have : p.right size = false := by unfold Pn.right; rw [if_neg k0, if_neg k1', if_neg k2', if_neg k3]
        rw [this]; rfl
      rw [ev]
      refine qJ ?_; repeat' (first | (with_reducible first | apply qK | apply qT) | ((with_reducible first | apply qI | apply qB | apply qR | apply qS | apply qM) <;> try simp only [qN, qC, qE, qG, qD, qA, qF, seval, qQ, qO, qP, qL, qX, qZ, zC, xD, xC, qH m1 zT, e0, e1, e2, e3, ld]))
      first | exact s1 | exact ⟨rfl, s1⟩
    have e3 : (p.kd == 3) = true := by simp [k3]
    have erb : p.right size = (p.rfork && (((p.lf.length : Int) == 0) && ((p.rt.length : Int) == 0)) && ((p.kids.length : Int) == 2)) := by
      rw [p.rfork_eq]
      unfold Pn.right Pn.hsh
      rw [if_neg (by omega), if_neg (by omega), if_neg (by omega), if_pos k3]
    have nomay : p.right size = false → wO size (n + 1) p = false := fun e => by simp only [wO, e, Bool.false_and]
    refine qJ ?_; repeat' (first | (with_reducible first | apply qK | apply qT) | ((with_reducible first | apply qI | apply qB | apply qR) <;> try simp only [qN, qC, qE, qG, qD, qA, qF, seval, qQ, qO, qP, qL, qX, qZ, zC, xD, xC, qH m1 zT, e0, e1, e2, e3, ld]))
    refine (qJ7 N q0 (by omega)).mono ?_
    rintro _ h2 ⟨rfl, s2⟩
    have S2 := s1.trans s2
    have m2 := s2 _ _ m1
    cases zf : p.rfork
    case false =>
      rw [nomay (by rw [erb, zf]; rfl)]
      refine qJ ?_; repeat' (first | with_reducible apply qK | ((with_reducible first | apply qI | apply qB | apply qR | apply qM) <;> try simp only [qN, qC, qE, qG, qD, qA, qF, seval, qQ, qO, qP, qL, qX, qZ, zC, xD, xC, gPick, Bool.not_false]))
      first | exact S2 | exact ⟨by simp, S2⟩
    cases z0 : decide ((p.lf.length : Int) > 0)
    case true =>
      rw [nomay (by rw [erb, show ((p.lf.length : Int) == 0) = false by have := of_decide_eq_true z0; rw [beq_eq_false_iff_ne]; omega]; simp)]
      refine qJ ?_; repeat' (first | with_reducible apply qK | ((with_reducible first | apply qI | apply qB | apply qR | apply qM) <;> try simp only [qN, qC, qE, qG, qD, qA, qF, seval, qQ, qO, qP, qL, qX, qZ, zC, xD, xC, z0, qH m2 zD, qH m2 wQ, gPick, Bool.not_true]))
      first | exact S2 | exact ⟨by simp, S2⟩
    cases z1 : decide ((p.rt.length : Int) > 0)
    case true =>
      rw [nomay (by rw [erb, show ((p.rt.length : Int) == 0) = false by have := of_decide_eq_true z1; rw [beq_eq_false_iff_ne]; omega]; simp)]
      refine qJ ?_; repeat' (first | with_reducible apply qK | ((with_reducible first | apply qI | apply qB | apply qR | apply qM) <;> try simp only [qN, qC, qE, qG, qD, qA, qF, seval, qQ, qO, qP, qL, qX, qZ, zC, xD, xC, z0, z1, qH m2 zD, qH m2 wQ, gPick, Bool.not_true]))
      first | exact S2 | exact ⟨by simp, S2⟩
    cases z2 : ((p.kids.length : Int) != 2)
    case true =>
      rw [nomay (by rw [erb, show ((p.kids.length : Int) == 2) = false by simpa using z2]; simp)]
      refine qJ ?_; repeat' (first | with_reducible apply qK | ((with_reducible first | apply qI | apply qB | apply qR | apply qM) <;> try simp only [qN, qC, qE, qG, qD, qA, qF, seval, qQ, qO, qP, qL, qX, qZ, zC, xD, xC, z0, z1, z2, qH m2 zD, qH m2 wQ, gPick, Bool.not_true]))
      first | exact S2 | exact ⟨by simp, S2⟩
    have hright : p.right size = true := by
      have q1 := of_decide_eq_false z0
      have q2 := of_decide_eq_false z1
      have q3 : (p.kids.length : Int) = 2 := by simpa using z2
      rw [erb, zf, show ((p.lf.length : Int) == 0) = true from beq_iff_eq.2 (by omega), show ((p.rt.length : Int) == 0) = true from beq_iff_eq.2 (by omega), show ((p.kids.length : Int) == 2) = true by simp [q3]]
      rfl
    have fk : p.frk = true := by rw [← p.rfork_eq]; exact zf
    obtain ⟨a, b, hkids⟩ := rN hright k3
    have hkl : p.kids.length = 2 := by rw [hkids]; rfl
    have hab := Pn.kids_bulk (p := p) (x := a) (by rw [hkids]; exact List.mem_cons_self ..)
    have hbb := Pn.kids_bulk (p := p) (x := b) (by rw [hkids]; exact List.mem_cons_of_mem _ (List.mem_cons_self ..))
    have emv : wO size (n + 1) p = ((kJ p 0 (show Pn (Pd n) from a) && wO size n a) && (kJ p 1 (show Pn (Pd n) from b) && wO size n b) && (max (max 0 (Pn.newest (show Pn (Pd n) from a))) (Pn.newest (show Pn (Pd n) from b)) == p.nw)) := by
      simp only [wO, hright, e3, hkids, Bool.true_and, Bool.not_true, Bool.false_or]
    have at0 : ∀ {h3 : GH} (s : HS h h3) (i : Nat) (y : Pn (Pd n)), p.kids[i]? = some y → ∃ ad cs5, zI Tryz.prog 24 (.slice a6 p.kids.length c6) (i : Int) = some (.pointer (some ad)) ∧ (∀ {h4 : GH}, HS h h4 → vD Tryz.prog 26 h4 (.pointer (some ad)) = some (.agg cs5.toArray)) ∧ RPn (RPd n) h cs5 y := fun {h3} s i y hy => by
      obtain ⟨ad, cs5, g1, g2, e⟩ := RL.at (P := Tryz.prog) r6 Tryz.underlying24 wL hy
      exact ⟨ad, cs5, g1, fun s4 => xT s4 (jN wL g2), e⟩
    obtain ⟨ad, ca, g1, g2, ya⟩ := at0 S2 0 a (by rw [hkids]; rfl)
    obtain ⟨ad', cb, g3, g4, yb⟩ := at0 S2 1 b (by rw [hkids]; rfl)
    have g1' : zI Tryz.prog 24 (.slice a6 p.kids.length c6) 0 = some (.pointer (some ad)) := g1
    have g3' : zI Tryz.prog 24 (.slice a6 p.kids.length c6) 1 = some (.pointer (some ad')) := g3
    have ld2 := xT s2 ld
    have ru : ∀ {h4 : GH}, HS h h4 → RPn (RPd (n + 1)) h4 (p.cs (.slice a1 p.id.length c1) (.slice a2 p.ky.length c2) (.slice a3 p.pf.length c3) (.slice a4 p.lf.length c4) (.slice a5 p.rt.length c5) (.slice a6 p.kids.length c6)) p := fun s => r0.hs s (fun cs x r => RPd.hs s (n + 1) r)
    have ra : ∀ {h4 : GH}, HS h h4 → RPn (RPd n) h4 ca a := fun s => ya.hs s (fun cs x r => RPd.hs s n r)
    have rb : ∀ {h4 : GH}, HS h h4 → RPn (RPd n) h4 cb b := fun s => yb.hs s (fun cs x r => RPd.hs s n r)
    simp only [Pn.cs] at ld2 ru
    refine qJ ?_; repeat' (first | with_reducible apply qK | ((first | (with_reducible first | apply qI | apply qR | apply qS) | with_reducible refine zE xC xG (by kernel_rfl) ?_) <;> try simp only [qN, qC, qE, qG, qD, qA, qF, seval, qQ, qO, qP, qL, qX, qZ, zC, xD, xC, z0, z1, z2, g1', g2 S2, g3', g4 S2, ld2, qH m2 zT, qH m2 zD, qH m2 wQ, gPick, Bool.not_true]))
    refine (c_rkid N size (s := 0) (ru S2) (ra S2) (by omega) fk (fun s => ih (ra (S2.trans s)) (by omega))).mono ?_
    rintro _ h3 ⟨rfl, s3⟩
    have S3 := S2.trans s3
    have m3 := s3 _ _ m2
    have ld3 := xT s3 ld2
    rw [emv]
    cases zA : (kJ p 0 (show Pn (Pd n) from a) && wO size n a)
    case false =>
      refine qJ ?_; repeat' (first | ((with_reducible first | apply qI | apply qM) <;> try simp only [qN, qC, qE, qG, qD, qA, qF, seval, qQ, qO, qP, qL, qX, qZ, zC, xD, xC, gPick]))
      first | exact S3 | exact ⟨by simp, S3⟩
    refine qJ ?_; repeat' (first | ((with_reducible apply qI) <;> try simp only [qN, qC, qE, qG, qD, qA, qF, seval, qQ, qO, qP, qL, qX, qZ, zC, xD, xC, g1', g2 S3, g3', g4 S3, ld3, qH m3 zT, qH m3 wQ, gPick]))
    refine (c_rkid N size (s := 1) (ru S3) (rb S3) (by omega) fk (fun s => ih (rb (S3.trans s)) (by omega))).mono ?_
    rintro _ h4 ⟨rfl, s4⟩
    have S4 := S3.trans s4
    have m4 := s4 _ _ m3
    cases zB : (kJ p 1 (show Pn (Pd n) from b) && wO size n b)
    case false =>
      refine qJ ?_; repeat' (first | ((with_reducible first | apply qI | apply qM) <;> try simp only [qN, qC, qE, qG, qD, qA, qF, seval, qQ, qO, qP, qL, qX, qZ, zC, xD, xC, gPick]))
      first | exact S4 | exact ⟨by simp, S4⟩
    refine qJ ?_; repeat' (first | ((with_reducible apply qI) <;> try simp only [qN, qC, qE, qG, qD, qA, qF, seval, qQ, qO, qP, qL, qX, qZ, zC, xD, xC, g1', g2 S4, g3', g4 S4, qH m4 zT, qH m4 wQ, gPick]))
    refine (qT9 N (ra S4)).mono ?_
    rintro _ h5 ⟨rfl, s5⟩
    have S5 := S4.trans s5
    have m5 := s5 _ _ m4
    refine qJ ?_; repeat' (first | ((with_reducible apply qI) <;> try simp only [qN, qC, qE, qG, qD, qA, qF, seval, qQ, qO, qP, qL, qX, qZ, zC, xD, xC, g1', g2 S5, g3', g4 S5, qH m5 zT, qH m5 wQ, gPick]))
    refine (qT9 N (rb S5)).mono ?_
    rintro _ h6 ⟨rfl, s6⟩
    have S6 := S5.trans s6
    have m6 := s6 _ _ m5
    simp only [Bool.and_eq_true] at zA
    have fk' := p.frk_ok fk
    have pa := lJ (vG zA.2) (pT zA.1 (by omega) (by decide)).1
    have emx : (max (max 0 (Pn.newest (show Pn (Pd n) from a))) (Pn.newest (show Pn (Pd n) from b)) == p.nw) = (p.nw == max (Pn.newest (show Pn (Pd n) from a)) (Pn.newest (show Pn (Pd n) from b))) := by
      rw [show max 0 (Pn.newest (show Pn (Pd n) from a)) = Pn.newest (show Pn (Pd n) from a) from by have : 0 ≤ Pn.newest (show Pn (Pd n) from a) := pa; omega, Bool.beq_comm]
    rw [emx]
    refine qJ ?_; repeat' (first | ((with_reducible first | apply qI | apply qM) <;> try simp only [qN, qC, qE, qG, qD, qA, qF, seval, qQ, qO, qP, qL, qX, qZ, zC, xD, xC, max_if, qH m6 zT, gPick]))
    first | exact S6 | exact ⟨by simp, S6⟩
theorem zU6 (N : Nat) (size : Int) (n : Nat) {h : GH} {cs : List Value} {p : Pn (Pd n)} (r : RPn (RPd n) h cs p) (hk : Pn.bulk (Pd.bulk n) p ≤ 100000000) :
    GTri Tryz.prog N 30 [.int .i64 size, .agg cs.toArray] h fun v h' => v = .int .i64 (cond (gE size n p) 0 95) ∧ HS h h' := by
  have hcs := r.len
  unfold gE
  refine zU Tryz.func30 rfl gf30 ok30 (by simp [Tryz.ntmps30]) ?_
  repeat' (first | with_reducible apply qK | ((with_reducible apply qB) <;> try simp only [qN, qC, qE, qG, qD, qA, qF, seval, qQ, qO, qP, dG]))
  refine wD hcs.2.1 fun k1 h1 m1 s1 f1 n1 => ?_
  have ld := zH (P := Tryz.prog) (t := 26) m1 wL hcs.1
  cases z0 : decide (size < 1)
  case true =>
    refine qJ ?_; repeat' (first | with_reducible apply qK | ((with_reducible first | apply qI | apply qB | apply qR | apply qM) <;> try simp only [qN, qC, qE, qG, qD, qA, qF, seval, qQ, qO, qP, dG, z0, gPick]))
    exact ⟨by first | rfl | simp, s1⟩
  cases z1 : decide (size > 32)
  case true =>
    refine qJ ?_; repeat' (first | with_reducible apply qK | ((with_reducible first | apply qI | apply qB | apply qR | apply qM) <;> try simp only [qN, qC, qE, qG, qD, qA, qF, seval, qQ, qO, qP, dG, z0, z1, gPick]))
    exact ⟨by first | rfl | simp, s1⟩
  simp only [Bool.or_false, Bool.not_false, Bool.true_and]
  refine qJ ?_; repeat' (first | with_reducible apply qK | ((with_reducible first | apply qI | apply qB) <;> try simp only [qN, qC, qE, qG, qD, qA, qF, seval, qQ, qO, qP, dG, z0, z1, gPick, ld]))
  refine (zG5 N n (r.hs s1 (fun cs x r => RPd.hs s1 n r)) hk).mono ?_
  rintro _ h2 ⟨rfl, s2⟩
  have S2 := s1.trans s2
  cases z2 : decide ((kD n p : Int) > 4096)
  case true =>
    refine qJ ?_; repeat' (first | with_reducible apply qK | ((with_reducible first | apply qI | apply qB | apply qR | apply qM) <;> try simp only [qN, qC, qE, qG, qD, qA, qF, seval, qQ, qO, qP, dG, z2, gPick]))
    exact ⟨by first | rfl | simp, S2⟩
  simp only [Bool.not_false, Bool.true_and]
  have ld2 := xT s2 ld
  refine qJ ?_; repeat' (first | ((with_reducible apply qI) <;> try simp only [qN, qC, qE, qG, qD, qA, qF, seval, qQ, qO, qP, dG, z2, gPick, ld2]))
  refine (c_rmay N size n (r.hs S2 (fun cs x r => RPd.hs S2 n r)) hk).mono ?_
  rintro _ h3 ⟨rfl, s3⟩
  have S3 := S2.trans s3
  cases hm : wO size n p
  case false =>
    refine qJ ?_; repeat' (first | with_reducible apply qK | ((with_reducible first | apply qI | apply qB | apply qR | apply qM) <;> try simp only [qN, qC, qE, qG, qD, qA, qF, seval, qQ, qO, qP, dG, gPick]))
    exact ⟨by first | rfl | simp, S3⟩
  refine qJ ?_; repeat' (first | with_reducible apply qK | ((with_reducible first | apply qI | apply qB | apply qR | apply qS | apply qM) <;> try simp only [qN, qC, qE, qG, qD, qA, qF, seval, qQ, qO, qP, dG, gPick]))
  exact ⟨by first | rfl | simp, S3⟩
theorem uP : type_of% (And.intro zG (And.intro wZ (And.intro wY (And.intro xB (And.intro wH rs71))))) := And.intro zG (And.intro wZ (And.intro wY (And.intro xB (And.intro wH rs71))))
def uG : Nat → List (Nat × List Nat) × List Nat
  | 7 => ([(0, []), (1, []), (2, []), (3, []), (4, []), (5, []), (6, []), (7, []), (8, []), (9, []), (10, []), (11, []), (14, []), (15, []), (16, []), (17, []), (18, []), (19, []), (12, [1, 3, 5, 17, 19]), (13, [1, 3, 5, 17, 19]), (20, [1, 3, 5]), (21, [1, 3, 5]), (22, []), (23, [])], [0, 1, 0, 4, 0, 16, 0, 0, 0, 256, 768, 1792, 3968, 8128, 0, 0, 0, 65536, 196608, 458752, 1032128, 2097088, 4194303, 8388607])
  | _ => ([], [])
theorem pZ : type_of% (And.intro zG (And.intro wZ (And.intro wY (And.intro xB (And.intro mZ rs26))))) := And.intro zG (And.intro wZ (And.intro wY (And.intro xB (And.intro mZ rs26))))
section
variable {K : Type} {R : GH → List Value → K → Prop}
theorem zF8 (N : Nat) {size : Int} (hs : size ≤ 32) {h : GH} {cs : List Value} {p : Pn K} (r : RPn R h cs p) (hr : p.right size = true) (k3 : p.kd ≠ 3) :
    GTri Tryz.prog N 71 [.int .i64 size, .agg cs.toArray] h fun v h' => HS h h' ∧ ∃ a c, v = .slice a (yW p).length c ∧ RB h' (.slice a (yW p).length c) (yW p) ∧ SL h' (.slice a (yW p).length c) := by
  obtain ⟨a1, c1, a2, c2, a3, c3, a4, c4, a5, c5, a6, c6, rfl, r1, r2, r3, r4, r5, r6⟩ := r
  unfold yW
  refine zU Tryz.func71 rfl gf71 ok71 (by simp [Tryz.ntmps71]) ?_
  repeat' (first | with_reducible apply qK | ((with_reducible apply qB) <;> try simp only [qN, qC, qE, qG, qD, qA, qF, seval, qQ, qO, qP, qL, qX, qZ, zC, uP, uG]))
  refine wD rfl fun k1 h1 m1 s1 f1 n1 => ?_
  simp only [Pn.cs] at m1
  have e3 : (p.kd == 3) = false := by simp [k3]
  by_cases k1 : p.kd = 1
  · have e1 : (p.kd == 1) = true := by simp [k1]
    have lf := p.right_leaf hr k1
    obtain ⟨w, hw⟩ : ∃ w : Nat, p.si = (w : Int) := ⟨p.si.toNat, by omega⟩
    rw [if_pos k1]
    refine qJ ?_; repeat' (first | (with_reducible first | apply qK | apply qT) | ((with_reducible first | apply qI | apply qB | apply qR) <;> try simp only [qN, qC, qE, qG, qD, qA, qF, seval, qQ, qO, qP, qL, qX, qZ, zC, uP, uG, e1, qH m1 zT, qH m1 zD, hw]))
    refine (zG2 N (w := w) (by omega) (r1.hs s1) (r2.hs s1) (by omega) (by omega)).mono ?_
    rintro _ h5 ⟨s5, a7, c7, rfl, q1, q2⟩
    rw [Int.toNat_natCast]
    refine qJ ?_; repeat' (first | ((with_reducible first | apply qI | apply qM) <;> try simp only [qN, qC, qE, qG, qD, qA, qF, seval, qQ, qO, qP, qL, qX, qZ, zC, uP, uG]))
    exact ⟨s1.trans s5, a7, c7, rfl, q1, q2⟩
  have e1 : (p.kd == 1) = false := by simp [k1]
  rw [if_neg k1]
  by_cases k2 : p.kd = 2
  · have e2 : (p.kd == 2) = true := by simp [k2]
    obtain ⟨fk, fl, fr, _⟩ := p.right_closed hr k2
    have g := p.frk_ok fk
    obtain ⟨w, hw⟩ : ∃ w : Nat, p.nw = (w : Int) := ⟨p.nw.toNat, by omega⟩
    obtain ⟨dp, hdp⟩ : ∃ w : Nat, p.dp = (w : Int) := ⟨p.dp.toNat, by omega⟩
    rw [if_pos k2]
    refine qJ ?_; repeat' (first | (with_reducible first | apply qK | apply qT) | ((with_reducible first | apply qI | apply qB | apply qR) <;> try simp only [qN, qC, qE, qG, qD, qA, qF, seval, qQ, qO, qP, qL, qX, qZ, zC, uP, uG, e1, e2, qH m1 zT, qH m1 zD, hw, hdp]))
    refine (qH9 N (d := dp) (w := w) (by omega) (by omega) (r3.hs s1) (r4.hs s1) (r5.hs s1) (by omega) (by omega) (by omega)).mono ?_
    rintro _ h5 ⟨s5, a7, c7, rfl, q1, q2⟩
    rw [Int.toNat_natCast, Int.toNat_natCast]
    refine qJ ?_; repeat' (first | ((with_reducible first | apply qI | apply qM) <;> try simp only [qN, qC, qE, qG, qD, qA, qF, seval, qQ, qO, qP, qL, qX, qZ, zC, uP, uG]))
    exact ⟨s1.trans s5, a7, c7, rfl, q1, q2⟩
  have e2 : (p.kd == 2) = false := by simp [k2]
  rw [if_neg k2]
  refine qJ ?_; repeat' (first | (with_reducible first | apply qK | apply qT) | ((with_reducible first | apply qI | apply qB | apply qR | apply qS) <;> try simp only [qN, qC, qE, qG, qD, qA, qF, seval, qQ, qO, qP, qL, qX, qZ, zC, uP, uG, e1, e2, e3, qH m1 zT]))
  refine (qY7 N h1).mono ?_
  rintro _ h5 ⟨s5, a7, c7, rfl, q1, q2⟩
  refine qJ ?_; repeat' (first | ((with_reducible first | apply qI | apply qM) <;> try simp only [qN, qC, qE, qG, qD, qA, qF, seval, qQ, qO, qP, qL, qX, qZ, zC, uP, uG]))
  exact ⟨s1.trans s5, a7, c7, rfl, q1, q2⟩
end
theorem c_rstext (N : Nat) {size : Int} (hs : size ≤ 32) : ∀ (n : Nat) {h : GH} {cs : List Value} {p : Pn (Pd n)} (r : RPn (RPd n) h cs p) (hm : wO size n p = true) (hk : Pn.bulk (Pd.bulk n) p ≤ 100000000),
    GTri Tryz.prog N 71 [.int .i64 size, .agg cs.toArray] h fun v h' => HS h h' ∧ ∃ a c, v = .slice a (vA size n p).length c ∧ RB h' (.slice a (vA size n p).length c) (vA size n p) ∧ SL h' (.slice a (vA size n p).length c) := by
  intro n
  induction n with
  | zero =>
    intro h cs p r hm hk
    have hr := vG hm
    have k3 : p.kd ≠ 3 := fun q => by
      obtain ⟨a, b, e⟩ := rN hr q
      exact nomatch (show Empty from a)
    rw [jZ k3]
    exact zF8 N hs r hr k3
  | succ n ih =>
    intro h cs p r hm hk
    have hr := vG hm
    by_cases k3 : p.kd = 3
    case neg =>
      rw [jZ k3]
      exact zF8 N hs r hr k3
    have hbp := Pn.bulk_parts p
    obtain ⟨a1, c1, a2, c2, a3, c3, a4, c4, a5, c5, a6, c6, rfl, r1, r2, r3, r4, r5, r6⟩ := r
    obtain ⟨a, b, hkids, _, ma, _, mb, _⟩ := pS hm k3
    have fk : p.frk = true := by rcases p.kinds hr with q | q | q <;> first | omega | exact q.2
    have fk := p.frk_ok fk
    obtain ⟨dp, hdp⟩ : ∃ w : Nat, p.dp = (w : Int) := ⟨p.dp.toNat, by omega⟩
    obtain ⟨nw, hnw⟩ : ∃ w : Nat, p.nw = (w : Int) := ⟨p.nw.toNat, by omega⟩
    have e1 : (p.kd == 1) = false := by simp [k3]
    have e2 : (p.kd == 2) = false := by simp [k3]
    have e3 : (p.kd == 3) = true := by simp [k3]
    have hab := Pn.kids_bulk (p := p) (x := a) (by rw [hkids]; exact List.mem_cons_self ..)
    have hbb := Pn.kids_bulk (p := p) (x := b) (by rw [hkids]; exact List.mem_cons_of_mem _ (List.mem_cons_self ..))
    have at0 : ∀ (i : Nat) (y : Pn (Pd n)), p.kids[i]? = some y → ∃ ad cs5, zI Tryz.prog 24 (.slice a6 p.kids.length c6) (i : Int) = some (.pointer (some ad)) ∧ (∀ {h4 : GH}, HS h h4 → vD Tryz.prog 26 h4 (.pointer (some ad)) = some (.agg cs5.toArray)) ∧ RPn (RPd n) h cs5 y := fun i y hy => by
      obtain ⟨ad, cs5, g1, g2, e⟩ := RL.at (P := Tryz.prog) r6 Tryz.underlying24 wL hy
      exact ⟨ad, cs5, g1, fun s4 => xT s4 (jN wL g2), e⟩
    obtain ⟨ad, ca, g1, g2, ya⟩ := at0 0 a (by rw [hkids]; rfl)
    obtain ⟨ad', cb, g3, g4, yb⟩ := at0 1 b (by rw [hkids]; rfl)
    have g1' : zI Tryz.prog 24 (.slice a6 p.kids.length c6) 0 = some (.pointer (some ad)) := g1
    have g3' : zI Tryz.prog 24 (.slice a6 p.kids.length c6) 1 = some (.pointer (some ad')) := g3
    have ra : ∀ {h4 : GH}, HS h h4 → RPn (RPd n) h4 ca a := fun s => ya.hs s (fun cs x r => RPd.hs s n r)
    have rb : ∀ {h4 : GH}, HS h h4 → RPn (RPd n) h4 cb b := fun s => yb.hs s (fun cs x r => RPd.hs s n r)
    have la := jM size (vA size n a)
    have lb := jM size (vA size n b)
    have ta := rX hs ma
    have tb := rX hs mb
    rw [tP (n := n + 1) (a := a) (b := b) k3 ⟨rfl, hkids⟩, hdp, hnw, Int.toNat_natCast, Int.toNat_natCast]
    refine zU Tryz.func71 rfl gf71 ok71 (by simp [Tryz.ntmps71]) ?_
    repeat' (first | with_reducible apply qK | ((with_reducible apply qB) <;> try simp only [qN, qC, qE, qG, qD, qA, qF, seval, qQ, qO, qP, qL, qX, qZ, zC, uP, uG]))
    refine wD rfl fun k1 h1 m1 s1 f1 n1 => ?_
    simp only [Pn.cs] at m1
    refine qJ ?_; repeat' (first | (with_reducible first | apply qK | apply qT) | ((first | (with_reducible first | apply qI | apply qB | apply qR) | with_reducible refine zE uG xG (by kernel_rfl) ?_) <;> try simp only [qN, qC, qE, qG, qD, qA, qF, seval, qQ, qO, qP, qL, qX, qZ, zC, uP, uG, e1, e2, e3, g1', g2 s1, g3', g4 s1, hdp, hnw, qH m1 zT, qH m1 zD, qH m1 wQ]))
    refine (ih (ra s1) ma (by omega)).mono ?_
    rintro _ h2 ⟨s2, a7, c7, rfl, q7, _⟩
    have S2 := s1.trans s2
    have m2 := s2 _ _ m1
    refine qJ ?_; repeat' (first | ((with_reducible apply qI) <;> try simp only [qN, qC, qE, qG, qD, qA, qF, seval, qQ, qO, qP, qL, qX, qZ, zC, uP, uG, g1', g2 S2, g3', g4 S2, hdp, hnw, qH m2 zT, qH m2 zD, qH m2 wQ]))
    refine (zL6 N q7 (by omega) size).mono ?_
    rintro _ h3 ⟨s3, a8, c8, rfl, q8⟩
    have S3 := S2.trans s3
    have m3 := s3 _ _ m2
    refine qJ ?_; repeat' (first | ((with_reducible apply qI) <;> try simp only [qN, qC, qE, qG, qD, qA, qF, seval, qQ, qO, qP, qL, qX, qZ, zC, uP, uG, g1', g2 S3, g3', g4 S3, hdp, hnw, qH m3 zT, qH m3 zD, qH m3 wQ]))
    refine (ih (rb S3) mb (by omega)).mono ?_
    rintro _ h4 ⟨s4, a9, c9, rfl, q9, _⟩
    have S4 := S3.trans s4
    have m4 := s4 _ _ m3
    refine qJ ?_; repeat' (first | ((with_reducible apply qI) <;> try simp only [qN, qC, qE, qG, qD, qA, qF, seval, qQ, qO, qP, qL, qX, qZ, zC, uP, uG, g1', g2 S4, g3', g4 S4, hdp, hnw, qH m4 zT, qH m4 zD, qH m4 wQ]))
    refine (zL6 N q9 (by omega) size).mono ?_
    rintro _ h5 ⟨s5, a10, c10, rfl, q10⟩
    have S5 := S4.trans s5
    have m5 := s5 _ _ m4
    refine qJ ?_; repeat' (first | ((with_reducible apply qI) <;> try simp only [qN, qC, qE, qG, qD, qA, qF, seval, qQ, qO, qP, qL, qX, qZ, zC, uP, uG, g1', g2 S5, g3', g4 S5, hdp, hnw, qH m5 zT, qH m5 zD, qH m5 wQ]))
    refine (qH9 N (d := dp) (w := nw) (by omega) (by omega) (r3.hs S5) ((q8.hs s4).hs s5) q10 (by omega) (by omega) (by omega)).mono ?_
    rintro _ h6 ⟨s6, a11, c11, rfl, q11, sl11⟩
    refine qJ ?_; repeat' (first | ((with_reducible first | apply qI | apply qM) <;> try simp only [qN, qC, qE, qG, qD, qA, qF, seval, qQ, qO, qP, qL, qX, qZ, zC, uP, uG]))
    exact ⟨S5.trans s6, a11, c11, rfl, q11, sl11⟩
theorem qB9 (N : Nat) (size : Int) (n : Nat) {h : GH} {cs : List Value} {p : Pn (Pd n)} (r : RPn (RPd n) h cs p) (hk : Pn.bulk (Pd.bulk n) p ≤ 100000000) :
    GTri Tryz.prog N 26 [.int .i64 size, .agg cs.toArray] h fun v h' => HS h h' ∧ ∃ a c, v = .slice a (qG1 size n p).length c ∧ RB h' (.slice a (qG1 size n p).length c) (qG1 size n p) ∧ SL h' (.slice a (qG1 size n p).length c) ∧ a.isNone = !gE size n p := by
  have hcs := r.len
  unfold qG1
  refine zU Tryz.func26 rfl gf26 ok26 (by simp [Tryz.ntmps26]) ?_
  repeat' (first | with_reducible apply qK | ((with_reducible apply qB) <;> try simp only [qN, qC, qE, qG, qD, qA, qF, seval, qQ, qO, qP, pZ]))
  refine wD hcs.2.1 fun k1 h1 m1 s1 f1 n1 => ?_
  have ld := zH (P := Tryz.prog) (t := 26) m1 wL hcs.1
  refine qJ ?_; repeat' (first | with_reducible apply qK | ((with_reducible first | apply qI | apply qB) <;> try simp only [qN, qC, qE, qG, qD, qA, qF, seval, qQ, qO, qP, pZ, ld]))
  refine (zU6 N size n (r.hs s1 (fun cs x r => RPd.hs s1 n r)) hk).mono ?_
  rintro _ h2 ⟨rfl, s2⟩
  have S2 := s1.trans s2
  cases hck : gE size n p
  case false =>
    rw [if_neg (by decide)]
    refine qJ ?_; repeat' (first | with_reducible apply qK | ((with_reducible first | apply qI | apply qB | apply qR | apply qM) <;> try simp only [qN, qC, qE, qG, qD, qA, qF, seval, qQ, qO, qP, pZ, cond]))
    exact ⟨S2, none, 0, rfl, RB.nil _, SL.nil _ _ _, rfl⟩
  rw [if_pos rfl]
  obtain ⟨hs1, hs2, hm⟩ := kE hck
  have ld2 := xT s2 ld
  refine qJ ?_; repeat' (first | with_reducible apply qK | ((with_reducible first | apply qI | apply qB | apply qR | apply qS) <;> try simp only [qN, qC, qE, qG, qD, qA, qF, seval, qQ, qO, qP, pZ, cond, ld2]))
  refine (c_rstext N hs2 n (r.hs S2 (fun cs x r => RPd.hs S2 n r)) hm hk).mono ?_
  rintro _ h3 ⟨s3, a3, c3, rfl, q1, q2⟩
  refine qJ ?_; repeat' (first | ((with_reducible first | apply qI | apply qM) <;> try simp only [qN, qC, qE, qG, qD, qA, qF, seval, qQ, qO, qP, pZ]))
  refine ⟨S2.trans s3, a3, c3, rfl, q1, q2, ?_⟩
  cases ha : a3.isNone
  · rfl
  · exact absurd (q1.isnil ha) (rX hs2 hm).2
theorem vV : type_of% (And.intro zG (And.intro wZ (And.intro wY (And.intro xB (And.intro uT (And.intro wH rs36)))))) := And.intro zG (And.intro wZ (And.intro wY (And.intro xB (And.intro uT (And.intro wH rs36)))))
def vC : Nat → List (Nat × List Nat) × List Nat
  | 1 => ([(0, []), (1, []), (3, []), (4, []), (2, [4]), (5, []), (6, []), (7, [])], [0, 0, 3, 0, 0, 31, 63, 127])
  | 8 => ([(0, []), (1, []), (2, []), (3, []), (4, []), (5, []), (6, []), (7, []), (8, []), (9, []), (10, []), (11, []), (12, []), (13, []), (14, []), (15, []), (16, []), (17, []), (18, [])], [0, 0, 2, 0, 14, 30, 0, 64, 0, 448, 960, 2047, 4095, 8191, 8191, 8191, 16383, 98303, 262143])
  | _ => ([], [])
def UnR (h' : GH) (u : Value) : Option (List UInt8 × List UInt8) → Prop
  | none => ∃ v1 v2, u = .tuple #[v1, v2, .bool false]
  | some (x, y) => ∃ a1 c1 a2 c2, u = .tuple #[.slice a1 x.length c1, .slice a2 y.length c2, .bool true] ∧ RB h' (.slice a1 x.length c1) x ∧ SL h' (.slice a1 x.length c1) ∧ RB h' (.slice a2 y.length c2) y ∧ SL h' (.slice a2 y.length c2)
theorem zF6 {size : Int} {n : Nat} {p : Pn (Pd (n + 1))} (h : gE size (n + 1) p = true) (h3 : p.kd = 3) : ∃ a b : Pn (Pd n), p.kids = [a, b] ∧ gE size n a = true ∧ gE size n b = true := by
  obtain ⟨hs1, hs2, hm⟩ := kE h
  obtain ⟨a, b, hk, _, ma, _, mb, _⟩ := pS hm h3
  have ec := qN2 h3 hk
  have h2 : kD (n + 1) p ≤ 4096 := by
    unfold gE at h
    simp only [Bool.and_eq_true, Bool.not_eq_true', decide_eq_false_iff_not] at h
    have := h.1.2
    omega
  refine ⟨a, b, hk, ?_, ?_⟩
  · unfold gE
    rw [ma, decide_eq_false (show ¬ size < 1 by omega), decide_eq_false (show ¬ size > 32 by omega), decide_eq_false (show ¬ (kD n a : Int) > 4096 by omega)]; rfl
  · unfold gE
    rw [mb, decide_eq_false (show ¬ size < 1 by omega), decide_eq_false (show ¬ size > 32 by omega), decide_eq_false (show ¬ (kD n b : Int) > 4096 by omega)]; rfl
theorem qT8 {size : Int} {p : Pn (Pd 0)} (h : gE size 0 p = true) : p.kd ≠ 3 := fun q => by
  obtain ⟨a, b, e⟩ := rN (vG (kE h).2.2) q
  exact nomatch (show Empty from a)
theorem qJ8 {size : Int} {n : Nat} {p : Pn (Pd n)} (h : gE size n p = true) : qG1 size n p = vA size n p := by unfold qG1; rw [if_pos h]
theorem zF7 (N : Nat) (size : Int) : ∀ (n m : Nat) {h : GH} {cs1 cs2 : List Value} {p : Pn (Pd n)} {r : Pn (Pd m)} (rp : RPn (RPd n) h cs1 p) (rr : RPn (RPd m) h cs2 r) (hp : gE size n p = true) (hr : gE size m r = true) (hk : Pn.bulk (Pd.bulk n) p ≤ 100000000) (hk2 : Pn.bulk (Pd.bulk m) r ≤ 100000000),
    GTri Tryz.prog N 36 [.int .i64 size, .agg cs1.toArray, .agg cs2.toArray] h fun u h' => HS h h' ∧ UnR h' u (dN size n m p r) := by
  intro n
  induction n with
  | zero =>
    intro m h cs1 cs2 p r rp rr hp hr hk hk2
    have k3 := qT8 hp
    have hcs1 := rp.len
    have hcs2 := rr.len
    have rp0 := rp
    have rr0 := rr
    obtain ⟨a1, c1, a2, c2, a3, c3, a4, c4, a5, c5, a6, c6, ec1, p1, p2, p3, p4, p5, p6⟩ := rp
    obtain ⟨b1, d1, b2, d2, b3, d3, b4, d4, b5, d5, b6, d6, ec2, r1, r2, r3, r4, r5, r6⟩ := rr
    refine zU Tryz.func36 rfl gf36 ok36 (by simp [Tryz.ntmps36]) ?_
    repeat' (first | with_reducible apply qK | ((with_reducible apply qB) <;> try simp only [qN, qC, qE, qG, qD, qA, qF, seval, qQ, qO, qP, qL, qX, qZ, zC, vV, vC]))
    refine wD hcs1.2.1 fun k4 h1 m1 s1 f1 n1 => ?_
    refine qJ ?_; repeat' (first | ((with_reducible apply qI) <;> try simp only [qN, qC, qE, qG, qD, qA, qF, seval, qQ, qO, qP, qL, qX, qZ, zC, vV, vC]))
    refine wD hcs2.2.1 fun k5 h2 m2 s2 f2 n2 => ?_
    have S2 := s1.trans s2
    have m12 := s2 _ _ m1
    have ld1 := zH (P := Tryz.prog) (t := 26) m12 wL hcs1.1
    have ld2 := zH (P := Tryz.prog) (t := 26) m2 wL hcs2.1
    rw [ec1] at m12
    rw [ec2] at m2
    simp only [Pn.cs] at m12 m2
    refine qJ ?_; repeat' (first | with_reducible apply qK | ((first | (with_reducible apply qI) | with_reducible refine zE vC xG (by kernel_rfl) ?_) <;> try simp only [qN, qC, qE, qG, qD, qA, qF, seval, qQ, qO, qP, qL, qX, qZ, zC, vV, vC, ld1, ld2]))
    refine (qB9 N size 0 (rp0.hs S2 (fun cs x r => RPd.hs S2 0 r)) hk).mono ?_
    rintro _ h3 ⟨s3, a7, c7, rfl, q1, sl1, _⟩
    have S3 := S2.trans s3
    refine qJ ?_; repeat' (first | ((with_reducible apply qI) <;> try simp only [qN, qC, qE, qG, qD, qA, qF, seval, qQ, qO, qP, qL, qX, qZ, zC, vV, vC, xT s3 ld1, xT s3 ld2]))
    refine (qB9 N size m (rr0.hs S3 (fun cs x r => RPd.hs S3 m r)) hk2).mono ?_
    rintro _ h4 ⟨s4, a8, c8, rfl, q2, sl2, _⟩
    have S4 := S3.trans s4
    have m13 := s4 _ _ (s3 _ _ m12)
    have m23 := s4 _ _ (s3 _ _ m2)
    replace q1 := q1.hs s4
    replace sl1 := sl1.hs s4
    rw [qJ8 hp] at q1 sl1 ⊢
    rw [qJ8 hr] at q2 sl2 ⊢
    cases hq : (vA size 0 p == vA size m r)
    case false =>
      rw [qV0 (by simpa using hq)]
      refine qJ ?_; repeat' (first | with_reducible apply qK | ((first | (with_reducible first | apply qI | apply qB | apply qR | apply qM) | ((refine GTri.mono (kG _ _ q1 q2) ?_); rintro _ _ ⟨rfl, hh9⟩; replace hh9 := hh9.symm; subst hh9)) <;> try simp only [qN, qC, qE, qG, qD, qA, qF, seval, qQ, qO, qP, qL, qX, qZ, zC, vV, vC, hq, Bool.not_false]))
      exact ⟨S4, a7, c7, a8, c8, rfl, q1, sl1, q2, sl2⟩
    have ht : vA size 0 p = vA size m r := by simpa using hq
    refine qJ ?_; repeat' (first | with_reducible apply qK | ((first | (with_reducible first | apply qI | apply qB | apply qR | apply qS) | ((refine GTri.mono (kG _ _ q1 q2) ?_); rintro _ _ ⟨rfl, hh9⟩; replace hh9 := hh9.symm; subst hh9)) <;> try simp only [qN, qC, qE, qG, qD, qA, qF, seval, qQ, qO, qP, qL, qX, qZ, zC, vV, vC, hq, Bool.not_true]))
    have e1 : (p.kd == 3) = false := by simp [k3]
    rw [dS ht (fun q => k3 q.1)]
    refine qJ ?_; repeat' (first | with_reducible apply qK | ((with_reducible first | apply qI | apply qB | apply qR | apply qS | apply qM) <;> try simp only [qN, qC, qE, qG, qD, qA, qF, seval, qQ, qO, qP, qL, qX, qZ, zC, vV, vC, qH m13 zT, e1, gPick]))
    exact ⟨S4, _, _, rfl⟩
  | succ n ih =>
    intro m h cs1 cs2 p r rp rr hp hr hk hk2
    have hcs1 := rp.len
    have hcs2 := rr.len
    have rp0 := rp
    have rr0 := rr
    obtain ⟨a1, c1, a2, c2, a3, c3, a4, c4, a5, c5, a6, c6, ec1, p1, p2, p3, p4, p5, p6⟩ := rp
    obtain ⟨b1, d1, b2, d2, b3, d3, b4, d4, b5, d5, b6, d6, ec2, r1, r2, r3, r4, r5, r6⟩ := rr
    refine zU Tryz.func36 rfl gf36 ok36 (by simp [Tryz.ntmps36]) ?_
    repeat' (first | with_reducible apply qK | ((with_reducible apply qB) <;> try simp only [qN, qC, qE, qG, qD, qA, qF, seval, qQ, qO, qP, qL, qX, qZ, zC, vV, vC]))
    refine wD hcs1.2.1 fun k4 h1 m1 s1 f1 n1 => ?_
    refine qJ ?_; repeat' (first | ((with_reducible apply qI) <;> try simp only [qN, qC, qE, qG, qD, qA, qF, seval, qQ, qO, qP, qL, qX, qZ, zC, vV, vC]))
    refine wD hcs2.2.1 fun k5 h2 m2 s2 f2 n2 => ?_
    have S2 := s1.trans s2
    have m12 := s2 _ _ m1
    have ld1 := zH (P := Tryz.prog) (t := 26) m12 wL hcs1.1
    have ld2 := zH (P := Tryz.prog) (t := 26) m2 wL hcs2.1
    rw [ec1] at m12
    rw [ec2] at m2
    simp only [Pn.cs] at m12 m2
    refine qJ ?_; repeat' (first | with_reducible apply qK | ((first | (with_reducible apply qI) | with_reducible refine zE vC xG (by kernel_rfl) ?_) <;> try simp only [qN, qC, qE, qG, qD, qA, qF, seval, qQ, qO, qP, qL, qX, qZ, zC, vV, vC, ld1, ld2]))
    refine (qB9 N size (n + 1) (rp0.hs S2 (fun cs x r => RPd.hs S2 (n + 1) r)) hk).mono ?_
    rintro _ h3 ⟨s3, a7, c7, rfl, q1, sl1, _⟩
    have S3 := S2.trans s3
    refine qJ ?_; repeat' (first | ((with_reducible apply qI) <;> try simp only [qN, qC, qE, qG, qD, qA, qF, seval, qQ, qO, qP, qL, qX, qZ, zC, vV, vC, xT s3 ld1, xT s3 ld2]))
    refine (qB9 N size m (rr0.hs S3 (fun cs x r => RPd.hs S3 m r)) hk2).mono ?_
    rintro _ h4 ⟨s4, a8, c8, rfl, q2, sl2, _⟩
    have S4 := S3.trans s4
    have m13 := s4 _ _ (s3 _ _ m12)
    have m23 := s4 _ _ (s3 _ _ m2)
    replace q1 := q1.hs s4
    replace sl1 := sl1.hs s4
    rw [qJ8 hp] at q1 sl1 ⊢
    rw [qJ8 hr] at q2 sl2 ⊢
    cases hq : (vA size (n + 1) p == vA size m r)
    case false =>
      rw [qV0 (by simpa using hq)]
      refine qJ ?_; repeat' (first | with_reducible apply qK | ((first | (with_reducible first | apply qI | apply qB | apply qR | apply qM) | ((refine GTri.mono (kG _ _ q1 q2) ?_); rintro _ _ ⟨rfl, hh9⟩; replace hh9 := hh9.symm; subst hh9)) <;> try simp only [qN, qC, qE, qG, qD, qA, qF, seval, qQ, qO, qP, qL, qX, qZ, zC, vV, vC, hq, Bool.not_false]))
      exact ⟨S4, a7, c7, a8, c8, rfl, q1, sl1, q2, sl2⟩
    have ht : vA size (n + 1) p = vA size m r := by simpa using hq
    refine qJ ?_; repeat' (first | with_reducible apply qK | ((first | (with_reducible first | apply qI | apply qB | apply qR | apply qS) | ((refine GTri.mono (kG _ _ q1 q2) ?_); rintro _ _ ⟨rfl, hh9⟩; replace hh9 := hh9.symm; subst hh9)) <;> try simp only [qN, qC, qE, qG, qD, qA, qF, seval, qQ, qO, qP, qL, qX, qZ, zC, vV, vC, hq, Bool.not_true]))
    by_cases k3 : p.kd = 3
    case neg =>
      have e1 : (p.kd == 3) = false := by simp [k3]
      rw [dS ht (fun q => k3 q.1)]
      refine qJ ?_; repeat' (first | with_reducible apply qK | ((with_reducible first | apply qI | apply qB | apply qR | apply qS | apply qM) <;> try simp only [qN, qC, qE, qG, qD, qA, qF, seval, qQ, qO, qP, qL, qX, qZ, zC, vV, vC, qH m13 zT, e1, gPick]))
      exact ⟨S4, _, _, rfl⟩
    have e1 : (p.kd == 3) = true := by simp [k3]
    by_cases q3 : r.kd = 3
    case neg =>
      have e2 : (r.kd == 3) = false := by simp [q3]
      rw [dS ht (fun q => q3 q.2)]
      refine qJ ?_; repeat' (first | with_reducible apply qK | ((with_reducible first | apply qI | apply qB | apply qR | apply qS | apply qM) <;> try simp only [qN, qC, qE, qG, qD, qA, qF, seval, qQ, qO, qP, qL, qX, qZ, zC, vV, vC, qH m13 zT, qH m23 zT, e1, e2, gPick]))
      exact ⟨S4, _, _, rfl⟩
    have e2 : (r.kd == 3) = true := by simp [q3]
    cases m with
    | zero => exact absurd q3 (qT8 hr)
    | succ m =>
      obtain ⟨a, b, hkp, ca, cb⟩ := zF6 hp k3
      obtain ⟨c, d, hkr, cc, cd⟩ := zF6 hr q3
      have hkl : p.kids.length = 2 := by rw [hkp]; rfl
      rw [qK0 (n := n + 1) (m := m + 1) ht k3 q3 (a := a) (b := b) (c := c) (d := d) ⟨rfl, hkp⟩ ⟨rfl, hkr⟩]
      refine qJ ?_; repeat' (first | (with_reducible first | apply qK | apply qT) | ((with_reducible first | apply qI | apply qB | apply qR) <;> try simp only [qN, qC, qE, qG, qD, qA, qF, seval, qQ, qO, qP, qL, qX, qZ, zC, vV, vC, qH m13 zT, qH m23 zT, qH m13 wQ, e1, e2, gPick]))
      refine xN [0, 4, 5, 37] (fun (j : Nat) => [(38, .int .i64 (j : Int))]) (fun q j h' => 2 - j = q ∧ j ≤ 2 ∧ HS h4 h' ∧ (1 ≤ j → dN size n m a c = none) ∧ (2 ≤ j → dN size n m b d = none)) 2 0 (by simp [lk]) ⟨rfl, by omega, HS.refl _, fun q => by omega, fun q => by omega⟩ ?_
      rintro _ j h5 ⟨rfl, hj, s5, u1, u2⟩
      have S5 := S4.trans s5
      have m15 := s5 _ _ m13
      have m25 := s5 _ _ m23
      by_cases hj2 : j = 2
      · subst hj2
        have d0 : decide ((2 : Int) < (p.kids.length : Int)) = false := decide_eq_false (by omega)
        rw [u1 (by omega), u2 (by omega)]
        refine qJ ?_; repeat' (first | with_reducible apply qK | ((with_reducible first | apply qI | apply qB | apply qR | apply xO | apply qM) <;> try simp only [qN, qC, qE, qG, qD, qA, qF, seval, qQ, qO, qP, qL, qX, qZ, zC, vV, vC, d0]))
        exact ⟨S5, _, _, rfl⟩
      have d0 : decide ((j : Int) < (p.kids.length : Int)) = true := decide_eq_true (by omega)
      have wj : IntKind.i64.wrap ((j : Int) + 1) = ((j + 1 : Nat) : Int) := by rw [wrap64 (by omega) (by omega)]; omega
      obtain ⟨x, y, hx, hy, cx, cy, hso, hno⟩ : ∃ x : Pn (Pd n), ∃ y : Pn (Pd m), p.kids[j]? = some x ∧ r.kids[j]? = some y ∧ gE size n x = true ∧ gE size m y = true ∧ (∀ z, dN size n m x y = some z → (dN size n m a c).or (dN size n m b d) = some z) ∧ (dN size n m x y = none → (1 ≤ j + 1 → dN size n m a c = none) ∧ (2 ≤ j + 1 → dN size n m b d = none)) := by
        have : j = 0 ∨ j = 1 := by omega
        rcases this with rfl | rfl
        · exact ⟨a, c, by rw [hkp]; rfl, by rw [hkr]; rfl, ca, cc, fun z e => by rw [e]; rfl, fun e => ⟨fun _ => e, fun q => by omega⟩⟩
        · have e0 := u1 (by omega)
          exact ⟨b, d, by rw [hkp]; rfl, by rw [hkr]; rfl, cb, cd, fun z e => by rw [e0, e]; rfl, fun e => ⟨fun _ => e0, fun q => e⟩⟩
      have hxb := Pn.kids_bulk (p := p) (x := x) (List.mem_of_getElem? hx)
      have hyb := Pn.kids_bulk (p := r) (x := y) (List.mem_of_getElem? hy)
      obtain ⟨ad, cs5, g1, g2, z1⟩ := RL.at (P := Tryz.prog) (RL.hs S5 (fun cs x r => RPd.hs S5 (n + 1) r) p6) Tryz.underlying24 wL hx
      obtain ⟨ad', cs6, g3, g4, z2⟩ := RL.at (P := Tryz.prog) (RL.hs S5 (fun cs x r => RPd.hs S5 (m + 1) r) r6) Tryz.underlying24 wL hy
      refine qJ ?_; repeat' (first | (with_reducible first | apply qK | apply qT) | ((first | (with_reducible first | apply qI | apply qB | apply qR | apply qS) | with_reducible refine zE vC xG (by kernel_rfl) ?_) <;> try simp only [qN, qC, qE, qG, qD, qA, qF, seval, qQ, qO, qP, qL, qX, qZ, zC, vV, vC, d0, g1, g3, jN wL g2, jN wL g4, qH m15 wQ, qH m25 wQ]))
      refine (ih m (p := x) (r := y) z1 z2 cx cy (by omega) (by omega)).mono ?_
      rintro _ h6 ⟨s6, un⟩
      cases ho : dN size n m x y with
      | none =>
        rw [ho] at un
        obtain ⟨v1, v2, rfl⟩ := un
        refine qJ ?_; repeat' (first | with_reducible apply qK | ((with_reducible first | apply qI | apply qB | apply qR | apply qS) <;> try simp only [qN, qC, qE, qG, qD, qA, qF, seval, qQ, qO, qP, qL, qX, qZ, zC, vV, vC, wj]))
        exact ⟨_, j + 1, by omega, (by simp only [List.forall_mem_cons, List.not_mem_nil, false_implies, implies_true, List.map, List.cons_append, List.nil_append, lk, Nat.reduceEqDiff, reduceIte, and_true, true_and]), rfl, by omega, s5.trans s6, (hno ho).1, (hno ho).2⟩
      | some z =>
        obtain ⟨z1, z2⟩ := z
        rw [ho] at un
        rw [hso _ ho]
        obtain ⟨b1, f1, b2, f2, rfl, w1, w2, w3, w4⟩ := un
        refine qJ ?_; repeat' (first | with_reducible apply qK | ((with_reducible first | apply qI | apply qB | apply qR | apply qM) <;> try simp only [qN, qC, qE, qG, qD, qA, qF, seval, qQ, qO, qP, qL, qX, qZ, zC, vV, vC]))
        exact ⟨S5.trans s6, b1, f1, b2, f2, rfl, w1, w2, w3, w4⟩
theorem wG : type_of% (And.intro lP (And.intro qN0 (And.intro zG (And.intro wZ (And.intro pI (And.intro wY (And.intro pJ (And.intro ty54 (And.intro xB (And.intro mZ (And.intro uT (And.intro wH (And.intro zR6 rs6))))))))))))) := And.intro lP (And.intro qN0 (And.intro zG (And.intro wZ (And.intro pI (And.intro wY (And.intro pJ (And.intro ty54 (And.intro xB (And.intro mZ (And.intro uT (And.intro wH (And.intro zR6 rs6))))))))))))
def wB : Nat → List (Nat × List Nat) × List Nat
  | 6 => ([(0, []), (1, []), (3, []), (4, []), (2, [4]), (5, []), (6, []), (7, [])], [0, 0, 3, 0, 0, 31, 63, 127])
  | _ => ([], [])
theorem lst_ok {size : Int} {q : Pq} {n : Nat} {p : Pn (Pd n)} (h : (pL size q n p).2 = 0) : gE size n p = true ∧ uN q n p ([], false) = (true, (pL size q n p).1) := by
  unfold pL at h ⊢
  by_cases hc : gE size n p = true
  · rw [if_pos hc] at h ⊢
    by_cases hl : (uN q n p ([], false)).1 = true
    · rw [if_pos hl]
      exact ⟨hc, by rw [← hl]⟩
    · rw [if_neg hl] at h
      exact absurd h (by simp)
  · rw [if_neg hc] at h
    exact absurd h (by simp)
theorem zR9 {size : Int} {q : Pq} (hlim : 1 ≤ q.lim) {n m : Nat} {p : Pn (Pd n)} {r : Pn (Pd m)} (h1 : (pL size q n p).2 = 0) (h2 : (pL size q m r).2 = 0) (hh : zA0 size n p = zA0 size m r) (hn : (pL size q n p).1 ≠ (pL size q m r).1) :
    gE size n p = true ∧ gE size m r = true ∧ size ≤ 32 ∧ ∃ u v, dN size n m p r = some (u, v) ∧ vB size u = vB size v := by
  obtain ⟨c1, l1⟩ := lst_ok h1
  obtain ⟨c2, l2⟩ := lst_ok h2
  obtain ⟨_, hs, m1⟩ := kE c1
  obtain ⟨_, _, m2⟩ := kE c2
  unfold zA0 at hh
  rw [if_pos c1, if_pos c2] at hh
  refine ⟨c1, c2, hs, ?_⟩
  rcases span_law hs q hlim n m p r m1 m2 hh with h | ⟨_, h⟩
  · exact h
  · exact absurd (h ([], false) (fun q => absurd rfl q) _ _ l1 l2) hn
theorem zM2 {size : Int} (hs : size ≤ 32) : ∀ (n m : Nat) {p : Pn (Pd n)} {r : Pn (Pd m)} {u v : List UInt8}, wO size n p = true → wO size m r = true → dN size n m p r = some (u, v) → u.length ≤ 1000 ∧ v.length ≤ 1000 := by
  intro n
  induction n using Nat.strongRecOn with
  | _ n ih =>
    intro m p r u v hm hm2 h
    by_cases ht : vA size n p = vA size m r
    case neg =>
      rw [qV0 ht] at h
      cases h
      exact ⟨(rX hs hm).1, (rX hs hm2).1⟩
    by_cases h3 : p.kd = 3 ∧ r.kd = 3
    case neg =>
      rw [dS ht h3] at h
      cases h
    obtain ⟨k, a, b, hk, ho, ka, ma, kb, mb, _⟩ := gV hm h3.1
    obtain ⟨l, c, d, hl, hp, kc, mc, kd, md, _⟩ := gV hm2 h3.2
    rw [qK0 ht h3.1 h3.2 ho hp] at h
    cases hx : dN size k l a c with
    | none =>
      rw [hx] at h
      exact ih k hk l mb md h
    | some z =>
      rw [hx] at h
      cases h
      exact ih k hk l ma mc hx
theorem zO1 {size : Int} {q : Pq} {n : Nat} (p : Pn (Pd n)) : (pL size q n p).1.1.length ≤ kD n p := by
  unfold pL
  split
  · rename_i hc
    split
    · have := qA1 (size := size) q n p (kE hc).2.2 ([], false)
      simpa using this
    · simp
  · simp
theorem lim_ok (z : Int) : ∃ l : Nat, l < 30 ∧ IntKind.i64.wrap (Int.tmod (IntKind.u64.wrap z) 30) = (l : Int) := by
  have h0 : 0 ≤ IntKind.u64.wrap z ∧ IntKind.u64.wrap z < 18446744073709551616 := by
    simp [IntKind.wrap, IntKind.signed, IntKind.bits]
    omega
  have e1 : Int.tmod (IntKind.u64.wrap z) 30 = IntKind.u64.wrap z % 30 := Int.tmod_eq_emod_of_nonneg h0.1
  rw [e1]
  refine ⟨(IntKind.u64.wrap z % 30).toNat, by omega, ?_⟩
  generalize IntKind.u64.wrap z = w at *
  rw [wrap64 (by omega) (by omega)]
  omega
theorem c_SpanOne (N : Nat) {h : GH} (t : TK h) (size : Int) {n m : Nat} {cs1 cs2 : List Value} {p : Pn (Pd n)} {r : Pn (Pd m)} (rp : RPn (RPd n) h cs1 p) (rr : RPn (RPd m) h cs2 r) (hk : Pn.bulk (Pd.bulk n) p ≤ 2000000) (hk2 : Pn.bulk (Pd.bulk m) r ≤ 2000000) (fr lim : Int) (sm : Bool) {ai : Option Addr} {ci : Nat} {id : List UInt8} (ri : RB h (.slice ai id.length ci) id) :
    GTri Tryz.prog N 6 [.int .i64 size, .agg cs1.toArray, .agg cs2.toArray, .agg #[.int .i64 fr, .int .i64 lim, .bool sm, .slice ai id.length ci]] h fun v h' => v = .bool true := by
  have hcs1 := rp.len
  have hcs2 := rr.len
  have rps : ∀ {h2 : GH}, HS h h2 → RPn (RPd n) h2 cs1 p := fun s => rp.hs s (fun cs x r => RPd.hs s n r)
  have rrs : ∀ {h2 : GH}, HS h h2 → RPn (RPd m) h2 cs2 r := fun s => rr.hs s (fun cs x r => RPd.hs s m r)
  obtain ⟨l0, hl0, w30⟩ := lim_ok lim
  have w31 : IntKind.i64.wrap (1 + (l0 : Int)) = 1 + (l0 : Int) := by rw [wrap64 (by omega) (by omega)]
  have law := zR9 (size := size) (q := ⟨fr, sm, zM id, 1 + (l0 : Int)⟩) (by simp only; omega) (p := p) (r := r)
  refine zU Tryz.func6 rfl gf6 ok6 (by simp [Tryz.ntmps6]) ?_
  repeat' (first | with_reducible apply qK | ((with_reducible apply qB) <;> try simp only [qN, qC, qE, qG, qD, qA, qF, seval, qQ, qO, qP, qL, qX, qZ, zC, wG, wB]))
  refine wD hcs1.2.1 fun k5 h1 m1 s1 f1 n1 => ?_
  refine qJ ?_; repeat' (first | ((with_reducible apply qI) <;> try simp only [qN, qC, qE, qG, qD, qA, qF, seval, qQ, qO, qP, qL, qX, qZ, zC, wG, wB]))
  refine wD hcs2.2.1 fun k6 h2 m2 s2 f2 n2 => ?_
  refine qJ ?_; repeat' (first | ((with_reducible apply qI) <;> try simp only [qN, qC, qE, qG, qD, qA, qF, seval, qQ, qO, qP, qL, qX, qZ, zC, wG, wB]))
  refine wD rfl fun k7 h3 m3 s3 f3 n3 => ?_
  have s23 := s2.trans s3
  have S3 := s1.trans s23
  have l5 := xT s23 (zH (P := Tryz.prog) (t := 26) m1 wL hcs1.1)
  have l6 := xT s3 (zH (P := Tryz.prog) (t := 26) m2 wL hcs2.1)
  simp only at l5 l6
  refine qJ ?_; repeat' (first | with_reducible apply qK | ((with_reducible first | apply qI | apply qB) <;> try simp only [qN, qC, qE, qG, qD, qA, qF, seval, qQ, qO, qP, qL, qX, qZ, zC, wG, wB, l5]))
  refine (qF6 N n (d := 0) (rps S3) (by omega) (by omega)).mono ?_
  rintro _ h4 ⟨⟨b1, rfl⟩, s4⟩
  have S4 := S3.trans s4
  cases b1
  case false =>
    refine qJ ?_; repeat' (first | with_reducible apply qK | ((with_reducible first | apply qI | apply qB | apply qR) <;> try simp only [qN, qC, qE, qG, qD, qA, qF, seval, qQ, qO, qP, qL, qX, qZ, zC, wG, wB, gPick, Bool.not_false]))
    refine (qF9 N (t.hs S4)).mono ?_
    rintro _ h5 ⟨rfl, s5⟩
    refine qJ ?_; repeat' (first | ((with_reducible first | apply qI | apply qM) <;> try simp only [qN, qC, qE, qG, qD, qA, qF, seval, qQ, qO, qP, qL, qX, qZ, zC, wG, wB]))
  refine qJ ?_; repeat' (first | ((with_reducible apply qI) <;> try simp only [qN, qC, qE, qG, qD, qA, qF, seval, qQ, qO, qP, qL, qX, qZ, zC, wG, wB, gPick, Bool.not_true, xT s4 l6]))
  refine (qF6 N m (d := 0) (rrs S4) (by omega) (by omega)).mono ?_
  rintro _ h5 ⟨⟨b2, rfl⟩, s5⟩
  have s35 := s4.trans s5
  have S5 := S3.trans s35
  cases b2
  case false =>
    refine qJ ?_; repeat' (first | with_reducible apply qK | ((with_reducible first | apply qI | apply qB | apply qR) <;> try simp only [qN, qC, qE, qG, qD, qA, qF, seval, qQ, qO, qP, qL, qX, qZ, zC, wG, wB, gPick, Bool.not_false]))
    refine (qF9 N (t.hs S5)).mono ?_
    rintro _ h6 ⟨rfl, s6⟩
    refine qJ ?_; repeat' (first | ((with_reducible first | apply qI | apply qM) <;> try simp only [qN, qC, qE, qG, qD, qA, qF, seval, qQ, qO, qP, qL, qX, qZ, zC, wG, wB]))
  have m35 := s35 _ _ m3
  refine qJ ?_; repeat' (first | with_reducible apply qK | ((with_reducible first | apply qI | apply qB | apply qR | apply qS) <;> try simp only [qN, qC, qE, qG, qD, qA, qF, seval, qQ, qO, qP, qL, qX, qZ, zC, wG, wB, gPick, Bool.not_true, w30, w31, qH m35 zT]))
  refine zY m35 zT rfl (by simp) rfl rfl fun h6 m6 f6 => ?_
  simp only [List.set_cons_zero, List.set_cons_succ] at m6
  have n7h : h k7 = none := (s1.trans s2).none_of n3
  have S6 : HS h h6 := S5.upd n7h f6
  have k57 : k5 ≠ k7 := yX (s2 _ _ m1) n3
  have k67 : k6 ≠ k7 := yX m2 n3
  have l56 : vD Tryz.prog 26 h6 (.pointer (some ⟨k5, 0, none⟩)) = some (.agg cs1.toArray) := zH (P := Tryz.prog) (t := 26) ((f6 k5 k57).trans (s35 _ _ (s23 _ _ m1))) wL hcs1.1
  have l66 : vD Tryz.prog 26 h6 (.pointer (some ⟨k6, 0, none⟩)) = some (.agg cs2.toArray) := zH (P := Tryz.prog) (t := 26) ((f6 k6 k67).trans (s35 _ _ (s3 _ _ m2))) wL hcs2.1
  refine qJ ?_; repeat' (first | with_reducible apply qK | ((with_reducible first | apply qI | apply qB) <;> try simp only [qN, qC, qE, qG, qD, qA, qF, seval, qQ, qO, qP, qL, qX, qZ, zC, wG, wB, l56, qH m6 zT, qH m6 rU, qH m6 zD]))
  refine (qZ1 N size n fr sm (1 + (l0 : Int)) (ri.hs S6) (rps S6) hk).mono ?_
  rintro _ h7 ⟨s7, a9, c9, rfl, x9⟩
  have S7 := S6.trans s7
  have m7 := s7 _ _ m6
  refine qJ ?_; repeat' (first | with_reducible apply qK | ((with_reducible first | apply qI | apply qB) <;> try simp only [qN, qC, qE, qG, qD, qA, qF, seval, qQ, qO, qP, qL, qX, qZ, zC, wG, wB, xT s7 l66, qH m7 zT, qH m7 rU, qH m7 zD]))
  refine (qZ1 N size m fr sm (1 + (l0 : Int)) (ri.hs S7) (rrs S7) hk2).mono ?_
  rintro _ h8 ⟨s8, a12, c12, rfl, x12⟩
  have S8 := S7.trans s8
  have s68 := s7.trans s8
  have x9' := RL.hs (R := RPut) s8 (fun _ _ q => q.hs s8) x9
  refine qJ ?_; repeat' (first | with_reducible apply qK | ((first | (with_reducible apply qI) | with_reducible refine zE wB xG (by kernel_rfl) ?_) <;> try simp only [qN, qC, qE, qG, qD, qA, qF, seval, qQ, qO, qP, qL, qX, qZ, zC, wG, wB, xT s68 l56, xT s68 l66]))
  refine (zH0 N size n (t.hs S8) (rps S8) (by omega)).mono ?_
  rintro _ h9 ⟨s9, a13, c13, rfl, x13⟩
  have S9 := S8.trans s9
  have s69 := s68.trans s9
  refine qJ ?_; repeat' (first | ((with_reducible apply qI) <;> try simp only [qN, qC, qE, qG, qD, qA, qF, seval, qQ, qO, qP, qL, qX, qZ, zC, wG, wB, xT s69 l56, xT s69 l66]))
  refine (zH0 N size m (t.hs S9) (rrs S9) (by omega)).mono ?_
  rintro _ h10 ⟨s10, a14, c14, rfl, x14⟩
  have S10 := S9.trans s10
  have s6_10 := s69.trans s10
  have s8_10 := s9.trans s10
  have y9 := RL.hs (R := RPut) s8_10 (fun _ _ q => q.hs s8_10) x9'
  have y12 := RL.hs (R := RPut) s8_10 (fun _ _ q => q.hs s8_10) x12
  have t10 := t.hs S10
  have ll1 := zO1 (size := size) (q := ⟨fr, sm, zM id, 1 + (l0 : Int)⟩) p
  have ll2 := zO1 (size := size) (q := ⟨fr, sm, zM id, 1 + (l0 : Int)⟩) r
  have cb1 := sJ n p
  have cb2 := sJ m r
  generalize pL size ⟨fr, sm, zM id, 1 + (l0 : Int)⟩ n p = F1 at *
  generalize pL size ⟨fr, sm, zM id, 1 + (l0 : Int)⟩ m r = F2 at *
  obtain ⟨⟨X1, M1⟩, E1⟩ := F1
  obtain ⟨⟨X2, M2⟩, E2⟩ := F2
  simp only at y9 y12 law ll1 ll2
  have qe1 := x13.hs s10
  have awk : ∀ {h' : GH}, HS h10 h' → GTri Tryz.prog N 31 [] h' fun v h'' => v = .bool true ∧ HS h' h'' := fun s => qF9 N (t10.hs s)
  cases y1 : (E1 != 0)
  case true =>
    refine qJ ?_; repeat' (first | with_reducible apply qK | ((first | (with_reducible first | apply qI | apply qB | apply qR) | ((refine GTri.mono (kG _ _ qe1 x14) ?_); rintro _ _ ⟨rfl, hh9⟩; replace hh9 := hh9.symm; subst hh9)) <;> try simp only [qN, qC, qE, qG, qD, qA, qF, seval, qQ, qO, qP, qL, qX, qZ, zC, wG, wB, y1, gPick]))
    refine (awk (HS.refl _)).mono ?_
    rintro _ h11 ⟨rfl, s11⟩
    refine qJ ?_; repeat' (first | ((with_reducible first | apply qI | apply qM) <;> try simp only [qN, qC, qE, qG, qD, qA, qF, seval, qQ, qO, qP, qL, qX, qZ, zC, wG, wB]))
  cases y2 : (E2 != 0)
  case true =>
    refine qJ ?_; repeat' (first | with_reducible apply qK | ((first | (with_reducible first | apply qI | apply qB | apply qR) | ((refine GTri.mono (kG _ _ qe1 x14) ?_); rintro _ _ ⟨rfl, hh9⟩; replace hh9 := hh9.symm; subst hh9)) <;> try simp only [qN, qC, qE, qG, qD, qA, qF, seval, qQ, qO, qP, qL, qX, qZ, zC, wG, wB, y1, y2, gPick]))
    refine (awk (HS.refl _)).mono ?_
    rintro _ h11 ⟨rfl, s11⟩
    refine qJ ?_; repeat' (first | ((with_reducible first | apply qI | apply qM) <;> try simp only [qN, qC, qE, qG, qD, qA, qF, seval, qQ, qO, qP, qL, qX, qZ, zC, wG, wB]))
  cases y3 : (zA0 size n p == zA0 size m r)
  case false =>
    refine qJ ?_; repeat' (first | with_reducible apply qK | ((first | (with_reducible first | apply qI | apply qB | apply qR) | ((refine GTri.mono (kG _ _ qe1 x14) ?_); rintro _ _ ⟨rfl, hh9⟩; replace hh9 := hh9.symm; subst hh9)) <;> try simp only [qN, qC, qE, qG, qD, qA, qF, seval, qQ, qO, qP, qL, qX, qZ, zC, wG, wB, y1, y2, y3, gPick, Bool.not_false]))
    refine (awk (HS.refl _)).mono ?_
    rintro _ h11 ⟨rfl, s11⟩
    refine qJ ?_; repeat' (first | ((with_reducible first | apply qI | apply qM) <;> try simp only [qN, qC, qE, qG, qD, qA, qF, seval, qQ, qO, qP, qL, qX, qZ, zC, wG, wB]))
  replace law := law (by simpa using y1) (by simpa using y2) (by simpa using y3)
  cases y4 : (M1 == M2)
  case false =>
    obtain ⟨ck1, ck2, hsz, u, w, hu, hc⟩ := law (fun e => by cases e; simp at y4)
    refine qJ ?_; repeat' (first | with_reducible apply qK | ((first | (with_reducible first | apply qI | apply qB | apply qR | apply qS) | ((refine GTri.mono (kG _ _ qe1 x14) ?_); rintro _ _ ⟨rfl, hh9⟩; replace hh9 := hh9.symm; subst hh9)) <;> try simp only [qN, qC, qE, qG, qD, qA, qF, seval, qQ, qO, qP, qL, qX, qZ, zC, wG, wB, y1, y2, y3, y4, gPick, Bool.not_true, xT s6_10 l56, xT s6_10 l66]))
    refine (zF7 N size n m (rps S10) (rrs S10) ck1 ck2 (by omega) (by omega)).mono ?_
    rintro _ h20 ⟨s20, un⟩
    rw [hu] at un
    obtain ⟨b1, f1', b2, f2', rfl, w1, w2, w3, w4⟩ := un
    have ul := zM2 hsz n m (kE ck1).2.2 (kE ck2).2.2 hu
    refine qJ ?_; repeat' (first | with_reducible apply qK | ((with_reducible first | apply qI | apply qB) <;> try simp only [qN, qC, qE, qG, qD, qA, qF, seval, qQ, qO, qP, qL, qX, qZ, zC, wG, wB, gPick]))
    refine (qO3 N (t.hs (HS.trans S10 s20)) w1 w2 (by omega) size).mono ?_
    rintro _ h21 ⟨s21, a21, c21, rfl, q21, _⟩
    refine qJ ?_; repeat' (first | ((with_reducible apply qI) <;> try simp only [qN, qC, qE, qG, qD, qA, qF, seval, qQ, qO, qP, qL, qX, qZ, zC, wG, wB, gPick]))
    refine (qO3 N (t.hs ((HS.trans S10 s20).trans s21)) (w3.hs s21) (w4.hs s21) (by omega) size).mono ?_
    rintro _ h22 ⟨s22, a22, c22, rfl, q22, _⟩
    have ec : (vB size u == vB size w) = true := by simpa using hc
    refine qJ ?_; repeat' (first | ((first | (with_reducible apply qI) | ((refine GTri.mono (kG _ _ (q21.hs s22) q22) ?_); rintro _ _ ⟨rfl, hh9⟩; replace hh9 := hh9.symm; subst hh9)) <;> try simp only [qN, qC, qE, qG, qD, qA, qF, seval, qQ, qO, qP, qL, qX, qZ, zC, wG, wB, ec, gPick]))
    refine (awk ((s20.trans s21).trans s22)).mono ?_
    rintro _ h23 ⟨rfl, s23⟩
    refine qJ ?_; repeat' (first | ((with_reducible first | apply qI | apply qM) <;> try simp only [qN, qC, qE, qG, qD, qA, qF, seval, qQ, qO, qP, qL, qX, qZ, zC, wG, wB, gPick]))
  refine qJ ?_; repeat' (first | with_reducible apply qK | ((first | (with_reducible first | apply qI | apply qB) | ((refine GTri.mono (kG _ _ qe1 x14) ?_); rintro _ _ ⟨rfl, hh9⟩; replace hh9 := hh9.symm; subst hh9)) <;> try simp only [qN, qC, qE, qG, qD, qA, qF, seval, qQ, qO, qP, qL, qX, qZ, zC, wG, wB, y1, y2, y3, y4, gPick, Bool.not_true]))
  refine (c_SItems N y9 y12 (by omega) (by omega)).mono ?_
  rintro _ h11 ⟨⟨b, rfl, hb⟩, s11⟩
  cases b
  case true =>
    refine qJ ?_; repeat' (first | with_reducible apply qK | ((with_reducible first | apply qI | apply qB | apply qR) <;> try simp only [qN, qC, qE, qG, qD, qA, qF, seval, qQ, qO, qP, qL, qX, qZ, zC, wG, wB, gPick]))
    refine (awk s11).mono ?_
    rintro _ h12 ⟨rfl, s12⟩
    refine qJ ?_; repeat' (first | ((with_reducible first | apply qI | apply qM) <;> try simp only [qN, qC, qE, qG, qD, qA, qF, seval, qQ, qO, qP, qL, qX, qZ, zC, wG, wB]))
  obtain ⟨ck1, ck2, hsz, u, w, hu, hc⟩ := law (fun e => by cases e; exact absurd (hb rfl) (by decide))
  have s6_11 := s6_10.trans s11
  refine qJ ?_; repeat' (first | with_reducible apply qK | ((with_reducible first | apply qI | apply qB | apply qR | apply qS) <;> try simp only [qN, qC, qE, qG, qD, qA, qF, seval, qQ, qO, qP, qL, qX, qZ, zC, wG, wB, gPick, xT s6_11 l56, xT s6_11 l66]))
  refine (zF7 N size n m (rps (S10.trans s11)) (rrs (S10.trans s11)) ck1 ck2 (by omega) (by omega)).mono ?_
  rintro _ h20 ⟨s20, un⟩
  rw [hu] at un
  obtain ⟨b1, f1', b2, f2', rfl, w1, w2, w3, w4⟩ := un
  have ul := zM2 hsz n m (kE ck1).2.2 (kE ck2).2.2 hu
  refine qJ ?_; repeat' (first | with_reducible apply qK | ((with_reducible first | apply qI | apply qB) <;> try simp only [qN, qC, qE, qG, qD, qA, qF, seval, qQ, qO, qP, qL, qX, qZ, zC, wG, wB, gPick]))
  refine (qO3 N (t.hs (HS.trans (S10.trans s11) s20)) w1 w2 (by omega) size).mono ?_
  rintro _ h21 ⟨s21, a21, c21, rfl, q21, _⟩
  refine qJ ?_; repeat' (first | ((with_reducible apply qI) <;> try simp only [qN, qC, qE, qG, qD, qA, qF, seval, qQ, qO, qP, qL, qX, qZ, zC, wG, wB, gPick]))
  refine (qO3 N (t.hs ((HS.trans (S10.trans s11) s20).trans s21)) (w3.hs s21) (w4.hs s21) (by omega) size).mono ?_
  rintro _ h22 ⟨s22, a22, c22, rfl, q22, _⟩
  have ec : (vB size u == vB size w) = true := by simpa using hc
  refine qJ ?_; repeat' (first | ((first | (with_reducible apply qI) | ((refine GTri.mono (kG _ _ (q21.hs s22) q22) ?_); rintro _ _ ⟨rfl, hh9⟩; replace hh9 := hh9.symm; subst hh9)) <;> try simp only [qN, qC, qE, qG, qD, qA, qF, seval, qQ, qO, qP, qL, qX, qZ, zC, wG, wB, ec, gPick]))
  refine (awk (((s11.trans s20).trans s21).trans s22)).mono ?_
  rintro _ h23 ⟨rfl, s23⟩
  refine qJ ?_; repeat' (first | ((with_reducible first | apply qI | apply qM) <;> try simp only [qN, qC, qE, qG, qD, qA, qF, seval, qQ, qO, qP, qL, qX, qZ, zC, wG, wB, gPick]))
end Go.Gh
namespace Go.Gh
open Go Go.Proofs Go.RowKit Go.ChangeShapes Go.WideShapes Go.ChangeAt
set_option linter.unusedVariables false
set_option linter.unusedSimpArgs false
set_option maxRecDepth 100000
set_option maxHeartbeats 1000000
section
variable {H : Type} {enc : TypeId × Value → H} {W : World} {base b0 : Nat} {v : Value} {d : DataW H} {ps : List MemPlace} {r : Reach}
abbrev pgTy : Ty := .fcons (.i .i64) (.fcons (.i .i64) (.fcons .b (.fcons .bs .fnil)))
theorem arg_pg (h : DataW.Trod enc Tryz.prog W base (fun _ => true) true 54 v d ps) (hok : Value.okWide Tryz.prog W r b0 54 v) :
    ∃ (fr lim : Int) (sm : Bool) (id : List UInt8) (a : Option Addr) (c : Nat), up W.heap.size v = .agg #[.int .i64 fr, .int .i64 lim, .bool sm, .slice a id.length c] ∧ RB (h0 W) (.slice a id.length c) id ∧ ∀ B A, BulkOk B A → id.length ≤ B d := by
  obtain ⟨y, cs, e1, R1, hb, _⟩ := arg_st pgTy Tryz.underlying54 (by kernel_rfl) h hok
  obtain ⟨y1, y2, y3, y4, y5⟩ := y
  obtain ⟨_, _, rfl, _, ⟨rfl, _⟩, _, _, rfl, _, ⟨rfl, _⟩, _, _, rfl, _, rfl, _, _, rfl, _, ⟨w, rfl, r1, _⟩, rfl⟩ := R1
  obtain ⟨a, c, rfl, _⟩ := r1.form
  refine ⟨y1, y2, y3, y4, a, c, e1, r1, fun B A k => ?_⟩
  have h1 : 1 + (1 + (1 + ((List.length y4 + 1) + 0))) ≤ B d := hb B A k
  exact Nat.le_trans (by omega) h1
theorem arg_part (h : DataW.Trod enc Tryz.prog W base (fun _ => true) true 26 v d ps) (hok : Value.okWide Tryz.prog W r b0 26 v) :
    ∃ (m : Nat) (p : Pn (Pd m)) (cs : List Value), up W.heap.size v = .agg cs.toArray ∧ RPn (RPd m) (h0 W) cs p ∧ ∀ B A, BulkOk B A → Pn.bulk (Pd.bulk m) p ≤ B d := by
  obtain ⟨n, y, R, hb, _⟩ := qR1 qD3 zN7 (fun n => qR3 n n (by omega)) h hok
  have : ∃ c : Array Value, v = .agg c := by
    simp only [Value.okWide, Tryz.underlying26] at hok
    obtain ⟨cs, h, _⟩ := hok
    exact ⟨cs, h⟩
  obtain ⟨c, rfl⟩ := this
  have r2' := pt_R n R
  cases n with
  | zero => exact nomatch (show Empty from y)
  | succ m =>
    refine ⟨m, ptv (m + 1) y, vcells (up W.heap.size (.agg c)), by simp [vcells, up], r2', fun B A k => ?_⟩
    have h1 := hb B A k
    have e2 := zN6 (m + 1) y
    have e5 : Pd.bulk (m + 1) (ptv (m + 1) y) = Pn.bulk (Pd.bulk m) (ptv (m + 1) y) := rfl
    rw [← e5, e2]
    exact h1
end
end Go.Gh
