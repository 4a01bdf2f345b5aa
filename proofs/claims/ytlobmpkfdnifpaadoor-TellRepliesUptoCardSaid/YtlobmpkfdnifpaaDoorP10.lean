/- Parts of this claim's proof, 10. No statement of the claim stands here. -/
import Derived.Test.YtlobmpkfdnifpaaDoorP9
namespace Go.Gh
open Go Go.Proofs Go.RowKit
set_option linter.unusedVariables false
set_option linter.unusedSimpArgs false
set_option maxRecDepth 100000
set_option maxHeartbeats 4000000
theorem zT : type_of% (And.intro zX (And.intro yU (And.intro wJ (And.intro wS (And.intro ty9 rs40))))) := And.intro zX (And.intro yU (And.intro wJ (And.intro wS (And.intro ty9 rs40))))
theorem xT : type_of% (And.intro zX (And.intro jM (And.intro yU (And.intro jL (And.intro wJ (And.intro wS rs30)))))) := And.intro zX (And.intro jM (And.intro yU (And.intro jL (And.intro wJ (And.intro wS rs30)))))
theorem qI7 (N : Nat) (h : GH) {k es : Nat} {wr tl : Bool} {a1 a2 a3 : Option Addr} {n1 n2 n3 c1 c2 c3 : Nat} {l1 l2 l3 : List UInt8} (hk : h k = some ⟨[.slice a1 n1 c1, .slice a2 n2 c2, .slice a3 n3 c3], es, wr, tl⟩) (r1 : RB h (.slice a1 n1 c1) l1) (r2 : RB h (.slice a2 n2 c2) l2) (r3 : RB h (.slice a3 n3 c3) l3)
    (hs : l1.length + l2.length + l3.length ≤ 1000000000) : GTri Tryd.prog N 40 [.slice (some ⟨k, 0, none⟩) 3 7] h fun v h' => HS h h' ∧ ∃ a' c', v = .slice a' (l1 ++ l2 ++ l3).length c' ∧ RB h' v (l1 ++ l2 ++ l3) := by
  obtain rfl := r1.len_eq
  obtain rfl := r2.len_eq
  obtain rfl := r3.len_eq
  have w1 : IntKind.i64.wrap (0 + (l1.length : Int)) = l1.length := by rw [Int.zero_add]; exact rO (by omega)
  have w2 : IntKind.i64.wrap ((l1.length : Int) + (l2.length : Int)) = ((l1.length + l2.length : Nat) : Int) := mJ (by omega)
  have w3 : IntKind.i64.wrap (((l1.length + l2.length : Nat) : Int) + (l3.length : Int)) = ((l1.length + l2.length + l3.length : Nat) : Int) := mJ (by omega)
  have i0 : wE Tryd.prog 62 (.slice (some ⟨k, 0, none⟩) 3 7) 0 = some (.pointer (some ⟨k, 0, none⟩)) := by simp [wE, Tryd.underlying62, zI]
  have i1 : wE Tryd.prog 62 (.slice (some ⟨k, 0, none⟩) 3 7) 1 = some (.pointer (some ⟨k, 1, none⟩)) := by simp [wE, Tryd.underlying62, zI]
  have i2 : wE Tryd.prog 62 (.slice (some ⟨k, 0, none⟩) 3 7) 2 = some (.pointer (some ⟨k, 2, none⟩)) := by simp [wE, Tryd.underlying62, zI]
  refine xW Tryd.func40 rfl gf40 ok40 (by simp [Tryd.ntmps40]) ?_
  repeat' (first | (with_reducible first | apply qJ | apply qB) | ((first | (with_reducible first | apply qA | apply qP | apply qD | apply qE | apply qK) | ((with_reducible first | apply qQ | apply qH | apply qI) <;> intro hb <;> (try simp only [hb]) <;> (try simp only [zB] at hb))) <;> try simp only [qY, qF, qM, qO, qG, qC, qN, reduceIte, seval, Int.cast_ofNat_Int, qZ, zA, zT]))
  refine dI (wV ?_)
  repeat' (first | (with_reducible first | apply qJ | apply qB) | ((first | (with_reducible first | apply qA | apply qP | apply qD | apply qE | apply qK) | ((with_reducible first | apply qQ | apply qH | apply qI) <;> intro hb <;> (try simp only [hb]) <;> (try simp only [zB] at hb))) <;> try simp only [qY, qF, qM, qO, qG, qC, qN, reduceIte, seval, Int.cast_ofNat_Int, qZ, zA, zT, i0, qL hk zI, w1, rJ]))
  refine wV ?_
  repeat' (first | (with_reducible first | apply qJ | apply qB) | ((first | (with_reducible first | apply qA | apply qP | apply qD | apply qE | apply qK) | ((with_reducible first | apply qQ | apply qH | apply qI) <;> intro hb <;> (try simp only [hb]) <;> (try simp only [zB] at hb))) <;> try simp only [qY, qF, qM, qO, qG, qC, qN, reduceIte, seval, Int.cast_ofNat_Int, qZ, zA, zT, i1, qL hk zI, w2, rJ]))
  refine wV ?_
  repeat' (first | (with_reducible first | apply qJ | apply qB) | ((first | (with_reducible first | apply qA | apply qP | apply qD | apply qE | apply qK) | ((with_reducible first | apply qQ | apply qH | apply qI) <;> intro hb <;> (try simp only [hb]) <;> (try simp only [zB] at hb))) <;> try simp only [qY, qF, qM, qO, qG, qC, qN, reduceIte, seval, Int.cast_ofNat_Int, qZ, zA, zT, i2, qL hk zI, w3, rJ]))
  refine wV ?_
  repeat' (first | (with_reducible first | apply qJ | apply qB) | ((first | (with_reducible first | apply qA | apply qP | apply qD | apply qE | apply qK) | ((with_reducible first | apply qQ | apply qH | apply qI) <;> intro hb <;> (try simp only [hb]) <;> (try simp only [zB] at hb))) <;> try simp only [qY, qF, qM, qO, qG, qC, qN, reduceIte, seval, Int.cast_ofNat_Int, qZ, zA, zT]))
  refine (c_Grow N h (l1.length + l2.length + l3.length) (by omega)).mono ?_
  rintro v h1 ⟨s1, hv⟩
  have r1' := r1.hs s1
  have r2' := r2.hs s1
  have r3' := r3.hs s1
  have hk1 := s1 _ _ hk
  rcases hv with ⟨h0, rfl⟩ | ⟨h0, kb, rfl, hkb, hb⟩
  · have e1 : l1 = [] := List.eq_nil_of_length_eq_zero (by omega)
    have e2 : l2 = [] := List.eq_nil_of_length_eq_zero (by omega)
    have e3 : l3 = [] := List.eq_nil_of_length_eq_zero (by omega)
    subst e1; subst e2; subst e3
    simp only [qY, qF, qM, qO, qG, qC, qN, reduceIte, seval, Int.cast_ofNat_Int, qZ, zA, zT]
    repeat' (first | (with_reducible first | apply qJ | apply qB) | ((first | (with_reducible first | apply qA | apply qP | apply qD | apply qE | apply qK) | ((with_reducible first | apply qQ | apply qH | apply qI) <;> intro hb <;> (try simp only [hb]) <;> (try simp only [zB] at hb))) <;> try simp only [qY, qF, qM, qO, qG, qC, qN, reduceIte, seval, Int.cast_ofNat_Int, qZ, zA, zT]))
    refine dI (wV ?_)
    repeat' (first | (with_reducible first | apply qJ | apply qB) | ((first | (with_reducible first | apply qA | apply qP | apply qD | apply qE | apply qK) | ((with_reducible first | apply qQ | apply qH | apply qI) <;> intro hb <;> (try simp only [hb]) <;> (try simp only [zB] at hb))) <;> try simp only [qY, qF, qM, qO, qG, qC, qN, reduceIte, seval, Int.cast_ofNat_Int, qZ, zA, zT, i0, qL hk1 zI]))
    refine gC vJ Tryd.underlying23 rfl r1'.src ?_
    simp only [qY, qF, qM, qO, qG, qC, qN, reduceIte, seval, Int.cast_ofNat_Int, qZ, zA, zT]
    repeat' (first | (with_reducible first | apply qJ | apply qB) | ((first | (with_reducible first | apply qA | apply qP | apply qD | apply qE | apply qK) | ((with_reducible first | apply qQ | apply qH | apply qI) <;> intro hb <;> (try simp only [hb]) <;> (try simp only [zB] at hb))) <;> try simp only [qY, qF, qM, qO, qG, qC, qN, reduceIte, seval, Int.cast_ofNat_Int, qZ, zA, zT]))
    refine wV ?_
    repeat' (first | (with_reducible first | apply qJ | apply qB) | ((first | (with_reducible first | apply qA | apply qP | apply qD | apply qE | apply qK) | ((with_reducible first | apply qQ | apply qH | apply qI) <;> intro hb <;> (try simp only [hb]) <;> (try simp only [zB] at hb))) <;> try simp only [qY, qF, qM, qO, qG, qC, qN, reduceIte, seval, Int.cast_ofNat_Int, qZ, zA, zT, i1, qL hk1 zI]))
    refine gC vJ Tryd.underlying23 rfl r2'.src ?_
    simp only [qY, qF, qM, qO, qG, qC, qN, reduceIte, seval, Int.cast_ofNat_Int, qZ, zA, zT]
    repeat' (first | (with_reducible first | apply qJ | apply qB) | ((first | (with_reducible first | apply qA | apply qP | apply qD | apply qE | apply qK) | ((with_reducible first | apply qQ | apply qH | apply qI) <;> intro hb <;> (try simp only [hb]) <;> (try simp only [zB] at hb))) <;> try simp only [qY, qF, qM, qO, qG, qC, qN, reduceIte, seval, Int.cast_ofNat_Int, qZ, zA, zT]))
    refine wV ?_
    repeat' (first | (with_reducible first | apply qJ | apply qB) | ((first | (with_reducible first | apply qA | apply qP | apply qD | apply qE | apply qK) | ((with_reducible first | apply qQ | apply qH | apply qI) <;> intro hb <;> (try simp only [hb]) <;> (try simp only [zB] at hb))) <;> try simp only [qY, qF, qM, qO, qG, qC, qN, reduceIte, seval, Int.cast_ofNat_Int, qZ, zA, zT, i2, qL hk1 zI]))
    refine gC vJ Tryd.underlying23 rfl r3'.src ?_
    simp only [qY, qF, qM, qO, qG, qC, qN, reduceIte, seval, Int.cast_ofNat_Int, qZ, zA, zT]
    repeat' (first | (with_reducible first | apply qJ | apply qB) | ((first | (with_reducible first | apply qA | apply qP | apply qD | apply qE | apply qK) | ((with_reducible first | apply qQ | apply qH | apply qI) <;> intro hb <;> (try simp only [hb]) <;> (try simp only [zB] at hb))) <;> try simp only [qY, qF, qM, qO, qG, qC, qN, reduceIte, seval, Int.cast_ofNat_Int, qZ, zA, zT]))
    refine wV ?_
    repeat' (first | (with_reducible first | apply qJ | apply qB) | ((first | (with_reducible first | apply qA | apply qP | apply qD | apply qE | apply qK) | ((with_reducible first | apply qQ | apply qH | apply qI) <;> intro hb <;> (try simp only [hb]) <;> (try simp only [zB] at hb))) <;> try simp only [qY, qF, qM, qO, qG, qC, qN, reduceIte, seval, Int.cast_ofNat_Int, qZ, zA, zT]))
    exact ⟨s1, none, 0, rfl, .inl ⟨0, rfl, rfl⟩⟩
  · simp only [qY, qF, qM, qO, qG, qC, qN, reduceIte, seval, Int.cast_ofNat_Int, qZ, zA, zT]
    repeat' (first | (with_reducible first | apply qJ | apply qB) | ((first | (with_reducible first | apply qA | apply qP | apply qD | apply qE | apply qK) | ((with_reducible first | apply qQ | apply qH | apply qI) <;> intro hb <;> (try simp only [hb]) <;> (try simp only [zB] at hb))) <;> try simp only [qY, qF, qM, qO, qG, qC, qN, reduceIte, seval, Int.cast_ofNat_Int, qZ, zA, zT]))
    refine dI (wV ?_)
    repeat' (first | (with_reducible first | apply qJ | apply qB) | ((first | (with_reducible first | apply qA | apply qP | apply qD | apply qE | apply qK) | ((with_reducible first | apply qQ | apply qH | apply qI) <;> intro hb <;> (try simp only [hb]) <;> (try simp only [zB] at hb))) <;> try simp only [qY, qF, qM, qO, qG, qC, qN, reduceIte, seval, Int.cast_ofNat_Int, qZ, zA, zT, i0, qL hk1 zI]))
    refine gY vJ Tryd.underlying23 rfl hb rfl r1'.src (by simp <;> omega) (by omega) fun h2 hb2 f2 => ?_
    have s2 := s1.upd hkb f2
    have r2'' := r2.hs s2
    have hk2 := s2 _ _ hk
    simp only [qY, qF, qM, qO, qG, qC, qN, reduceIte, seval, Int.cast_ofNat_Int, qZ, zA, zT, List.nil_append]
    repeat' (first | (with_reducible first | apply qJ | apply qB) | ((first | (with_reducible first | apply qA | apply qP | apply qD | apply qE | apply qK) | ((with_reducible first | apply qQ | apply qH | apply qI) <;> intro hb <;> (try simp only [hb]) <;> (try simp only [zB] at hb))) <;> try simp only [qY, qF, qM, qO, qG, qC, qN, reduceIte, seval, Int.cast_ofNat_Int, qZ, zA, zT]))
    refine wV ?_
    repeat' (first | (with_reducible first | apply qJ | apply qB) | ((first | (with_reducible first | apply qA | apply qP | apply qD | apply qE | apply qK) | ((with_reducible first | apply qQ | apply qH | apply qI) <;> intro hb <;> (try simp only [hb]) <;> (try simp only [zB] at hb))) <;> try simp only [qY, qF, qM, qO, qG, qC, qN, reduceIte, seval, Int.cast_ofNat_Int, qZ, zA, zT, i1, qL hk2 zI]))
    refine gY vJ Tryd.underlying23 rfl hb2 (by simp) r2''.src (by simp <;> omega) (by omega) fun h3 hb3 f3 => ?_
    have s3 := s2.upd hkb f3
    have r3'' := r3.hs s3
    have hk3 := s3 _ _ hk
    simp only [qY, qF, qM, qO, qG, qC, qN, reduceIte, seval, Int.cast_ofNat_Int, qZ, zA, zT, List.nil_append]
    repeat' (first | (with_reducible first | apply qJ | apply qB) | ((first | (with_reducible first | apply qA | apply qP | apply qD | apply qE | apply qK) | ((with_reducible first | apply qQ | apply qH | apply qI) <;> intro hb <;> (try simp only [hb]) <;> (try simp only [zB] at hb))) <;> try simp only [qY, qF, qM, qO, qG, qC, qN, reduceIte, seval, Int.cast_ofNat_Int, qZ, zA, zT]))
    refine wV ?_
    repeat' (first | (with_reducible first | apply qJ | apply qB) | ((first | (with_reducible first | apply qA | apply qP | apply qD | apply qE | apply qK) | ((with_reducible first | apply qQ | apply qH | apply qI) <;> intro hb <;> (try simp only [hb]) <;> (try simp only [zB] at hb))) <;> try simp only [qY, qF, qM, qO, qG, qC, qN, reduceIte, seval, Int.cast_ofNat_Int, qZ, zA, zT, i2, qL hk3 zI]))
    refine gY vJ Tryd.underlying23 rfl hb3 (by simp) r3''.src (by simp <;> omega) (by omega) fun h4 hb4 f4 => ?_
    have s4 := s3.upd hkb f4
    simp only [qY, qF, qM, qO, qG, qC, qN, reduceIte, seval, Int.cast_ofNat_Int, qZ, zA, zT, List.nil_append]
    repeat' (first | (with_reducible first | apply qJ | apply qB) | ((first | (with_reducible first | apply qA | apply qP | apply qD | apply qE | apply qK) | ((with_reducible first | apply qQ | apply qH | apply qI) <;> intro hb <;> (try simp only [hb]) <;> (try simp only [zB] at hb))) <;> try simp only [qY, qF, qM, qO, qG, qC, qN, reduceIte, seval, Int.cast_ofNat_Int, qZ, zA, zT]))
    refine wV ?_
    repeat' (first | (with_reducible first | apply qJ | apply qB) | ((first | (with_reducible first | apply qA | apply qP | apply qD | apply qE | apply qK) | ((with_reducible first | apply qQ | apply qH | apply qI) <;> intro hb <;> (try simp only [hb]) <;> (try simp only [zB] at hb))) <;> try simp only [qY, qF, qM, qO, qG, qC, qN, reduceIte, seval, Int.cast_ofNat_Int, qZ, zA, zT]))
    rw [List.nil_append] at hb4
    have hr := hb4.rb
    have e : 0 + l1.length + l2.length + l3.length = (l1 ++ l2 ++ l3).length := by simp only [List.length_append]; omega
    rw [e]
    exact ⟨s4, _, _, rfl, hr⟩
theorem rN {K : Type} {R : GH → List Value → K → Prop} (N : Nat) (h : GH) {b : Option Addr} {n c : Nat} {l : List UInt8} (r : RB h (.slice b n c) l) {cs : List Value} {p : Pn K} (q : RPn R h cs p) (hl : l.length + (p.id.length + p.ky.length + p.pf.length + p.lf.length + p.rt.length) ≤ 500000000) : GTri Tryd.prog N 30 [.slice b n c, .agg cs.toArray] h fun v h' => HS h h' ∧ ∃ a c, v = .slice a (l ++ xQ p).length c ∧ RB h' (.slice a (l ++ xQ p).length c) (l ++ xQ p) := by
  obtain rfl := r.len_eq
  obtain ⟨a1, c1, a2, c2, a3, c3, a4, c4, a5, c5, a6, c6, rfl, r1, r2, r3, r4, r5, r6⟩ := q
  generalize hw : l ++ xQ p = w
  obtain ⟨kd, si, dp, nw, id, ky, pf, lf, rt, kids⟩ := p
  simp only at r1 r2 r3 r4 r5 hl
  have g1 := qW kd
  have g2 := qW id.length
  have g3 := qW ky.length
  have g4 := qW dp
  have g5 := qW pf.length
  have g6 := qW nw
  have g7 := qW si
  refine xW Tryd.func30 rfl gf30 ok30 (by simp [Tryd.ntmps30]) ?_
  repeat' (first | (with_reducible first | apply qJ | apply qB) | ((first | (with_reducible first | apply qA | apply qP | apply qD | apply qE | apply qK) | ((with_reducible first | apply qQ | apply qH | apply qI) <;> intro hb <;> (try simp only [hb]) <;> (try simp only [zB] at hb))) <;> try simp only [qY, qF, qM, qO, qG, qC, qN, reduceIte, seval, Int.cast_ofNat_Int, qZ, zA, xT, Pn.cs]))
  refine vD rfl fun k1 h1 m1 s1 f1 n1 => ?_
  refine qT ?_; repeat' (first | (with_reducible first | apply qJ | apply qB) | ((first | (with_reducible apply qS) | (with_reducible first | apply qA | apply qP | apply qD | apply qE | apply qK) | ((with_reducible first | apply qQ | apply qH | apply qI) <;> intro hb <;> (try simp only [hb]) <;> (try simp only [zB] at hb))) <;> try simp only [qY, qF, qM, qO, qG, qC, qN, reduceIte, seval, Int.cast_ofNat_Int, qZ, zA, xT, qL m1 xU]))
  refine (yK N h1 (r.hs s1) (by omega) kd).mono ?_
  rintro _ h2 ⟨s2, o2⟩
  obtain ⟨b2, d2, rfl⟩ := o2.form
  have m2 := s2 _ _ m1
  have t2 := s1.trans s2
  by_cases k1' : kd = 1
  · subst k1'
    refine qT ?_; repeat' (first | (with_reducible first | apply qJ | apply qB) | ((first | (with_reducible apply qS) | (with_reducible first | apply qA | apply qP | apply qD | apply qE | apply qK) | ((with_reducible first | apply qQ | apply qH | apply qI) <;> intro hb <;> (try simp only [hb]) <;> (try simp only [zB] at hb))) <;> try simp only [qY, qF, qM, qO, qG, qC, qN, reduceIte, seval, Int.cast_ofNat_Int, qZ, zA, xT, qL m2 xU, qL m2 zI]))
    refine (jD N h2 o2.rb (r1.hs t2) (by simp only [List.length_append]; omega)).mono ?_
    rintro _ h3 ⟨s3, o3⟩
    obtain ⟨b3, d3, rfl⟩ := o3.form
    have m3 := s3 _ _ m2
    refine qT ?_; repeat' (first | (with_reducible first | apply qJ | apply qB) | ((first | (with_reducible apply qS) | (with_reducible first | apply qA | apply qP | apply qD | apply qE | apply qK) | ((with_reducible first | apply qQ | apply qH | apply qI) <;> intro hb <;> (try simp only [hb]) <;> (try simp only [zB] at hb))) <;> try simp only [qY, qF, qM, qO, qG, qC, qN, reduceIte, seval, Int.cast_ofNat_Int, qZ, zA, xT, qL m3 xU, qL m3 zI]))
    refine (jD N h3 o3.rb (r2.hs (t2.trans s3)) (by simp only [List.length_append]; omega)).mono ?_
    rintro _ h4 ⟨s4, o4⟩
    obtain ⟨b4, d4, rfl⟩ := o4.form
    have m4 := s4 _ _ m3
    refine qT ?_; repeat' (first | (with_reducible first | apply qJ | apply qB) | ((first | (with_reducible apply qS) | (with_reducible first | apply qA | apply qP | apply qD | apply qE | apply qK) | ((with_reducible first | apply qQ | apply qH | apply qI) <;> intro hb <;> (try simp only [hb]) <;> (try simp only [zB] at hb))) <;> try simp only [qY, qF, qM, qO, qG, qC, qN, reduceIte, seval, Int.cast_ofNat_Int, qZ, zA, xT, qL m4 xU, qL m4 zI]))
    refine (yK N h4 o4.rb (by simp only [List.length_append]; omega) si).mono ?_
    rintro _ h5 ⟨s5, o5⟩
    obtain ⟨b5, d5, rfl⟩ := o5.form
    have m5 := s5 _ _ m4
    refine qT ?_; repeat' (first | (with_reducible first | apply qJ | apply qB) | ((first | (with_reducible apply qS) | (with_reducible first | apply qA | apply qP | apply qD | apply qE | apply qK) | ((with_reducible first | apply qQ | apply qH | apply qI) <;> intro hb <;> (try simp only [hb]) <;> (try simp only [zB] at hb))) <;> try simp only [qY, qF, qM, qO, qG, qC, qN, reduceIte, seval, Int.cast_ofNat_Int, qZ, zA, xT, qL m5 xU, qL m5 zI]))
    have e : l ++ qU 1 ++ qU id.length ++ id ++ qU ky.length ++ ky ++ qU si = w := by rw [← hw]; simp [xQ, wby]
    rw [e] at o5 ⊢
    exact ⟨((t2.trans s3).trans s4).trans s5, b5, d5, rfl, o5.rb⟩
  have d1 : (kd == 1) = false := by simpa using k1'
  by_cases k2 : kd = 2 ∨ kd = 3
  · have dd : kd = 2 ∨ (kd ≠ 2 ∧ kd = 3) := by omega
    rcases dd with rfl | ⟨k3, rfl⟩
    · refine qT ?_; repeat' (first | (with_reducible first | apply qJ | apply qB) | ((first | (with_reducible apply qS) | (with_reducible first | apply qA | apply qP | apply qD | apply qE | apply qK) | ((with_reducible first | apply qQ | apply qH | apply qI) <;> intro hb <;> (try simp only [hb]) <;> (try simp only [zB] at hb))) <;> try simp only [qY, qF, qM, qO, qG, qC, qN, reduceIte, seval, Int.cast_ofNat_Int, qZ, zA, xT, qL m2 xU, qL m2 zI]))
      refine (yK N h2 o2.rb (by simp only [List.length_append]; omega) dp).mono ?_
      rintro _ h3 ⟨s3, o3⟩
      obtain ⟨b3, d3, rfl⟩ := o3.form
      have m3 := s3 _ _ m2
      refine qT ?_; repeat' (first | (with_reducible first | apply qJ | apply qB) | ((first | (with_reducible apply qS) | (with_reducible first | apply qA | apply qP | apply qD | apply qE | apply qK) | ((with_reducible first | apply qQ | apply qH | apply qI) <;> intro hb <;> (try simp only [hb]) <;> (try simp only [zB] at hb))) <;> try simp only [qY, qF, qM, qO, qG, qC, qN, reduceIte, seval, Int.cast_ofNat_Int, qZ, zA, xT, qL m3 xU, qL m3 zI]))
      refine (jD N h3 o3.rb (r3.hs (t2.trans s3)) (by simp only [List.length_append]; omega)).mono ?_
      rintro _ h4 ⟨s4, o4⟩
      obtain ⟨b4, d4, rfl⟩ := o4.form
      have m4 := s4 _ _ m3
      refine qT ?_; repeat' (first | (with_reducible first | apply qJ | apply qB) | ((first | (with_reducible apply qS) | (with_reducible first | apply qA | apply qP | apply qD | apply qE | apply qK) | ((with_reducible first | apply qQ | apply qH | apply qI) <;> intro hb <;> (try simp only [hb]) <;> (try simp only [zB] at hb))) <;> try simp only [qY, qF, qM, qO, qG, qC, qN, reduceIte, seval, Int.cast_ofNat_Int, qZ, zA, xT, qL m4 xU, qL m4 zI]))
      refine (yK N h4 o4.rb (by simp only [List.length_append]; omega) nw).mono ?_
      rintro _ h5 ⟨s5, o5⟩
      obtain ⟨b5, d5, rfl⟩ := o5.form
      have m5 := s5 _ _ m4
      have t5 := ((t2.trans s3).trans s4).trans s5
      refine qT ?_; repeat' (first | (with_reducible first | apply qJ | apply qB) | ((first | (with_reducible apply qS) | (with_reducible first | apply qA | apply qP | apply qD | apply qE | apply qK) | ((with_reducible first | apply qQ | apply qH | apply qI) <;> intro hb <;> (try simp only [hb]) <;> (try simp only [zB] at hb))) <;> try simp only [qY, qF, qM, qO, qG, qC, qN, reduceIte, seval, Int.cast_ofNat_Int, qZ, zA, xT, qL m5 xU, qL m5 zI]))
      refine bs_g (cs := [.slice b5 (l ++ qU 2 ++ qU dp ++ qU pf.length ++ pf ++ qU nw).length d5, .slice a4 lf.length c4, .slice a5 rt.length c5]) el62 rfl (by decide) (by decide) (by rw [jI _ rfl]; rfl) rfl fun k6 h6 m6 s6 f6 n6 => ?_
      refine qT ?_; repeat' (first | (with_reducible first | apply qJ | apply qB) | ((first | (with_reducible apply qS) | (with_reducible first | apply qA | apply qP | apply qD | apply qE | apply qK) | ((with_reducible first | apply qQ | apply qH | apply qI) <;> intro hb <;> (try simp only [hb]) <;> (try simp only [zB] at hb))) <;> try simp only [qY, qF, qM, qO, qG, qC, qN, reduceIte, seval, Int.cast_ofNat_Int, qZ, zA, xT]))
      refine (qI7 N h6 m6 (o5.rb.hs s6) (r4.hs (t5.trans s6)) (r5.hs (t5.trans s6)) (by simp only [List.length_append]; omega)).mono ?_
      rintro _ h7 ⟨s7, a7, c7, rfl, r7⟩
      refine qT ?_; repeat' (first | (with_reducible first | apply qJ | apply qB) | ((first | (with_reducible apply qS) | (with_reducible first | apply qA | apply qP | apply qD | apply qE | apply qK) | ((with_reducible first | apply qQ | apply qH | apply qI) <;> intro hb <;> (try simp only [hb]) <;> (try simp only [zB] at hb))) <;> try simp only [qY, qF, qM, qO, qG, qC, qN, reduceIte, seval, Int.cast_ofNat_Int, qZ, zA, xT]))
      have e : l ++ qU 2 ++ qU dp ++ qU pf.length ++ pf ++ qU nw ++ lf ++ rt = w := by rw [← hw]; simp [xQ, wby]
      rw [e] at r7 ⊢
      exact ⟨(t5.trans s6).trans s7, a7, c7, rfl, r7⟩
    · refine qT ?_; repeat' (first | (with_reducible first | apply qJ | apply qB) | ((first | (with_reducible apply qS) | (with_reducible first | apply qA | apply qP | apply qD | apply qE | apply qK) | ((with_reducible first | apply qQ | apply qH | apply qI) <;> intro hb <;> (try simp only [hb]) <;> (try simp only [zB] at hb))) <;> try simp only [qY, qF, qM, qO, qG, qC, qN, reduceIte, seval, Int.cast_ofNat_Int, qZ, zA, xT, qL m2 xU, qL m2 zI]))
      refine (yK N h2 o2.rb (by simp only [List.length_append]; omega) dp).mono ?_
      rintro _ h3 ⟨s3, o3⟩
      obtain ⟨b3, d3, rfl⟩ := o3.form
      have m3 := s3 _ _ m2
      refine qT ?_; repeat' (first | (with_reducible first | apply qJ | apply qB) | ((first | (with_reducible apply qS) | (with_reducible first | apply qA | apply qP | apply qD | apply qE | apply qK) | ((with_reducible first | apply qQ | apply qH | apply qI) <;> intro hb <;> (try simp only [hb]) <;> (try simp only [zB] at hb))) <;> try simp only [qY, qF, qM, qO, qG, qC, qN, reduceIte, seval, Int.cast_ofNat_Int, qZ, zA, xT, qL m3 xU, qL m3 zI]))
      refine (jD N h3 o3.rb (r3.hs (t2.trans s3)) (by simp only [List.length_append]; omega)).mono ?_
      rintro _ h4 ⟨s4, o4⟩
      obtain ⟨b4, d4, rfl⟩ := o4.form
      have m4 := s4 _ _ m3
      refine qT ?_; repeat' (first | (with_reducible first | apply qJ | apply qB) | ((first | (with_reducible apply qS) | (with_reducible first | apply qA | apply qP | apply qD | apply qE | apply qK) | ((with_reducible first | apply qQ | apply qH | apply qI) <;> intro hb <;> (try simp only [hb]) <;> (try simp only [zB] at hb))) <;> try simp only [qY, qF, qM, qO, qG, qC, qN, reduceIte, seval, Int.cast_ofNat_Int, qZ, zA, xT, qL m4 xU, qL m4 zI]))
      refine (yK N h4 o4.rb (by simp only [List.length_append]; omega) nw).mono ?_
      rintro _ h5 ⟨s5, o5⟩
      obtain ⟨b5, d5, rfl⟩ := o5.form
      have m5 := s5 _ _ m4
      have t5 := ((t2.trans s3).trans s4).trans s5
      refine qT ?_; repeat' (first | (with_reducible first | apply qJ | apply qB) | ((first | (with_reducible apply qS) | (with_reducible first | apply qA | apply qP | apply qD | apply qE | apply qK) | ((with_reducible first | apply qQ | apply qH | apply qI) <;> intro hb <;> (try simp only [hb]) <;> (try simp only [zB] at hb))) <;> try simp only [qY, qF, qM, qO, qG, qC, qN, reduceIte, seval, Int.cast_ofNat_Int, qZ, zA, xT, qL m5 xU, qL m5 zI]))
      have e : l ++ qU 3 ++ qU dp ++ qU pf.length ++ pf ++ qU nw = w := by rw [← hw]; simp [xQ, wby]
      rw [e] at o5 ⊢
      exact ⟨t5, b5, d5, rfl, o5.rb⟩
  · have d2 : (kd == 2) = false := by simpa using (by omega : kd ≠ 2)
    have d3 : (kd == 3) = false := by simpa using (by omega : kd ≠ 3)
    refine qT ?_; repeat' (first | (with_reducible first | apply qJ | apply qB) | ((first | (with_reducible apply qS) | (with_reducible first | apply qA | apply qP | apply qD | apply qE | apply qK) | ((with_reducible first | apply qQ | apply qH | apply qI) <;> intro hb <;> (try simp only [hb]) <;> (try simp only [zB] at hb))) <;> try simp only [qY, qF, qM, qO, qG, qC, qN, reduceIte, seval, Int.cast_ofNat_Int, qZ, zA, xT, qL m2 xU, d1, d2, d3]))
    have e : l ++ qU kd = w := by rw [← hw]; simp only [xQ]; rw [if_neg k1', if_neg k2, if_neg (by omega)]; simp
    rw [e] at o2 ⊢
    exact ⟨t2, b2, _, rfl, o2.rb⟩
theorem xM : type_of% (And.intro zX (And.intro jM (And.intro jL (And.intro wJ (And.intro wS rs35))))) := And.intro zX (And.intro jM (And.intro jL (And.intro wJ (And.intro wS rs35))))
def zM : Nat → List (Nat × List Nat) × List Nat
  | 4 => ([(0, []), (1, []), (2, []), (4, []), (5, []), (7, []), (8, []), (3, [5, 8]), (6, [8]), (9, []), (10, [])], [0, 0, 2, 7, 0, 16, 63, 0, 128, 511, 1023])
  | 7 => ([(0, []), (1, []), (2, []), (4, []), (5, []), (7, []), (8, []), (3, [5, 8]), (6, [8]), (9, []), (10, [])], [0, 0, 2, 7, 0, 16, 63, 0, 128, 511, 1023])
  | 9 => ([(0, []), (1, []), (2, []), (4, []), (5, []), (3, [5]), (6, []), (7, [])], [0, 0, 2, 7, 0, 16, 63, 127])
  | _ => ([], [])
theorem tM {K : Type} {R : GH → List Value → K → Prop} (N : Nat) (h : GH) {b : Option Addr} {n c : Nat} {l : List UInt8} (r : RB h (.slice b n c) l) {cs : List Value} {p : Pn K} (q : RPn R h cs p) (hl : l.length + (p.id.length + p.ky.length + p.pf.length + p.lf.length + p.rt.length) ≤ 500000000) : GTri Tryd.prog N 35 [.slice b n c, .agg cs.toArray] h fun v h' => HS h h' ∧ ∃ a c, v = .slice a (l ++ xQ p).length c ∧ RB h' (.slice a (l ++ xQ p).length c) (l ++ xQ p) := by
  obtain rfl := r.len_eq
  obtain ⟨a1, c1, a2, c2, a3, c3, a4, c4, a5, c5, a6, c6, rfl, r1, r2, r3, r4, r5, r6⟩ := q
  generalize hw : l ++ xQ p = w
  obtain ⟨kd, si, dp, nw, id, ky, pf, lf, rt, kids⟩ := p
  simp only at r1 r2 r3 r4 r5 hl
  have g1 := qW kd
  have g2 := qW id.length
  have g3 := qW ky.length
  have g4 := qW dp
  have g5 := qW pf.length
  have g6 := qW nw
  have g7 := qW si
  refine xW Tryd.func35 rfl gf35 ok35 (by simp [Tryd.ntmps35]) ?_
  repeat' (first | (with_reducible first | apply qJ | apply qB) | ((first | (with_reducible first | apply qA | apply qP | apply qD | apply qE | apply qK) | ((with_reducible first | apply qQ | apply qH | apply qI | apply zF | apply zG) <;> intro hb <;> (try simp only [hb]) <;> (try simp only [zB] at hb)) | with_reducible refine qR zM qX (by kernel_rfl) ?_) <;> try simp only [qY, qF, qM, qO, qG, qC, qN, reduceIte, seval, Int.cast_ofNat_Int, qZ, zA, qV, zS, zU, zV, xM, zM, Pn.cs]))
  refine vD rfl fun k1 h1 m1 s1 f1 n1 => ?_
  refine qT ?_; repeat' (first | (with_reducible first | apply qJ | apply qB) | ((first | (with_reducible apply qS) | (with_reducible first | apply qA | apply qP | apply qD | apply qE | apply qK) | ((with_reducible first | apply qQ | apply qH | apply qI | apply zF | apply zG) <;> intro hb <;> (try simp only [hb]) <;> (try simp only [zB] at hb)) | with_reducible refine qR zM qX (by kernel_rfl) ?_) <;> try simp only [qY, qF, qM, qO, qG, qC, qN, reduceIte, seval, Int.cast_ofNat_Int, qZ, zA, qV, zS, zU, zV, xM, zM, qL m1 xU]))
  refine (xA N h1 (r.hs s1) (by omega) kd).mono ?_
  rintro _ h2 ⟨s2, o2⟩
  obtain ⟨b2, d2, rfl⟩ := o2.form
  have m2 := s2 _ _ m1
  have t2 := s1.trans s2
  by_cases k1' : kd = 1
  · subst k1'
    refine qT ?_; repeat' (first | (with_reducible first | apply qJ | apply qB) | ((first | (with_reducible apply qS) | (with_reducible first | apply qA | apply qP | apply qD | apply qE | apply qK) | ((with_reducible first | apply qQ | apply qH | apply qI | apply zF | apply zG) <;> intro hb <;> (try simp only [hb]) <;> (try simp only [zB] at hb)) | with_reducible refine qR zM qX (by kernel_rfl) ?_) <;> try simp only [qY, qF, qM, qO, qG, qC, qN, reduceIte, seval, Int.cast_ofNat_Int, qZ, zA, qV, zS, zU, zV, xM, zM, qL m2 xU, qL m2 zI]))
    refine (wA N h2 o2.rb (r1.hs t2) (by simp only [List.length_append]; omega)).mono ?_
    rintro _ h3 ⟨s3, o3⟩
    obtain ⟨b3, d3, rfl⟩ := o3.form
    have m3 := s3 _ _ m2
    refine qT ?_; repeat' (first | (with_reducible first | apply qJ | apply qB) | ((first | (with_reducible apply qS) | (with_reducible first | apply qA | apply qP | apply qD | apply qE | apply qK) | ((with_reducible first | apply qQ | apply qH | apply qI | apply zF | apply zG) <;> intro hb <;> (try simp only [hb]) <;> (try simp only [zB] at hb)) | with_reducible refine qR zM qX (by kernel_rfl) ?_) <;> try simp only [qY, qF, qM, qO, qG, qC, qN, reduceIte, seval, Int.cast_ofNat_Int, qZ, zA, qV, zS, zU, zV, xM, zM, qL m2 xU, qL m2 zI, qL m3 xU, qL m3 zI]))
    refine (wA N h3 o3.rb (r2.hs (t2.trans s3)) (by simp only [List.length_append]; omega)).mono ?_
    rintro _ h4 ⟨s4, o4⟩
    obtain ⟨b4, d4, rfl⟩ := o4.form
    have m4 := s4 _ _ m3
    refine qT ?_; repeat' (first | (with_reducible first | apply qJ | apply qB) | ((first | (with_reducible apply qS) | (with_reducible first | apply qA | apply qP | apply qD | apply qE | apply qK) | ((with_reducible first | apply qQ | apply qH | apply qI | apply zF | apply zG) <;> intro hb <;> (try simp only [hb]) <;> (try simp only [zB] at hb)) | with_reducible refine qR zM qX (by kernel_rfl) ?_) <;> try simp only [qY, qF, qM, qO, qG, qC, qN, reduceIte, seval, Int.cast_ofNat_Int, qZ, zA, qV, zS, zU, zV, xM, zM, qL m3 xU, qL m3 zI, qL m4 xU, qL m4 zI]))
    refine (xA N h4 o4.rb (by simp only [List.length_append]; omega) si).mono ?_
    rintro _ h5 ⟨s5, o5⟩
    obtain ⟨b5, d5, rfl⟩ := o5.form
    have m5 := s5 _ _ m4
    refine qT ?_; repeat' (first | (with_reducible first | apply qJ | apply qB) | ((first | (with_reducible apply qS) | (with_reducible first | apply qA | apply qP | apply qD | apply qE | apply qK) | ((with_reducible first | apply qQ | apply qH | apply qI | apply zF | apply zG) <;> intro hb <;> (try simp only [hb]) <;> (try simp only [zB] at hb)) | with_reducible refine qR zM qX (by kernel_rfl) ?_) <;> try simp only [qY, qF, qM, qO, qG, qC, qN, reduceIte, seval, Int.cast_ofNat_Int, qZ, zA, qV, zS, zU, zV, xM, zM, qL m5 xU, qL m5 zI]))
    have e : l ++ qU 1 ++ qU id.length ++ id ++ qU ky.length ++ ky ++ qU si = w := by rw [← hw]; simp [xQ, wby]
    rw [e] at o5 ⊢
    exact ⟨((t2.trans s3).trans s4).trans s5, b5, d5, rfl, o5.rb⟩
  have d1 : (kd == 1) = false := by simpa using k1'
  by_cases k2 : kd = 2 ∨ kd = 3
  · have dd : kd = 2 ∨ (kd ≠ 2 ∧ kd = 3) := by omega
    rcases dd with rfl | ⟨k3, rfl⟩
    · refine qT ?_; repeat' (first | (with_reducible first | apply qJ | apply qB) | ((first | (with_reducible apply qS) | (with_reducible first | apply qA | apply qP | apply qD | apply qE | apply qK) | ((with_reducible first | apply qQ | apply qH | apply qI | apply zF | apply zG) <;> intro hb <;> (try simp only [hb]) <;> (try simp only [zB] at hb)) | with_reducible refine qR zM qX (by kernel_rfl) ?_) <;> try simp only [qY, qF, qM, qO, qG, qC, qN, reduceIte, seval, Int.cast_ofNat_Int, qZ, zA, qV, zS, zU, zV, xM, zM, qL m2 xU, qL m2 zI]))
      refine (xA N h2 o2.rb (by simp only [List.length_append]; omega) dp).mono ?_
      rintro _ h3 ⟨s3, o3⟩
      obtain ⟨b3, d3, rfl⟩ := o3.form
      have m3 := s3 _ _ m2
      refine qT ?_; repeat' (first | (with_reducible first | apply qJ | apply qB) | ((first | (with_reducible apply qS) | (with_reducible first | apply qA | apply qP | apply qD | apply qE | apply qK) | ((with_reducible first | apply qQ | apply qH | apply qI | apply zF | apply zG) <;> intro hb <;> (try simp only [hb]) <;> (try simp only [zB] at hb)) | with_reducible refine qR zM qX (by kernel_rfl) ?_) <;> try simp only [qY, qF, qM, qO, qG, qC, qN, reduceIte, seval, Int.cast_ofNat_Int, qZ, zA, qV, zS, zU, zV, xM, zM, qL m2 xU, qL m2 zI, qL m3 xU, qL m3 zI]))
      refine (wA N h3 o3.rb (r3.hs (t2.trans s3)) (by simp only [List.length_append]; omega)).mono ?_
      rintro _ h4 ⟨s4, o4⟩
      obtain ⟨b4, d4, rfl⟩ := o4.form
      have m4 := s4 _ _ m3
      refine qT ?_; repeat' (first | (with_reducible first | apply qJ | apply qB) | ((first | (with_reducible apply qS) | (with_reducible first | apply qA | apply qP | apply qD | apply qE | apply qK) | ((with_reducible first | apply qQ | apply qH | apply qI | apply zF | apply zG) <;> intro hb <;> (try simp only [hb]) <;> (try simp only [zB] at hb)) | with_reducible refine qR zM qX (by kernel_rfl) ?_) <;> try simp only [qY, qF, qM, qO, qG, qC, qN, reduceIte, seval, Int.cast_ofNat_Int, qZ, zA, qV, zS, zU, zV, xM, zM, qL m3 xU, qL m3 zI, qL m4 xU, qL m4 zI]))
      refine (xA N h4 o4.rb (by simp only [List.length_append]; omega) nw).mono ?_
      rintro _ h5 ⟨s5, o5⟩
      have m5 := s5 _ _ m4
      have t5 := ((t2.trans s3).trans s4).trans s5
      obtain ⟨b5, d5, e5⟩ := o5.form
      rw [e5]
      refine qT ?_; repeat' (first | (with_reducible first | apply qJ | apply qB) | ((first | (with_reducible apply qS) | (with_reducible first | apply qA | apply qP | apply qD | apply qE | apply qK) | ((with_reducible first | apply qQ | apply qH | apply qI | apply zF | apply zG) <;> intro hb <;> (try simp only [hb]) <;> (try simp only [zB] at hb)) | with_reducible refine qR zM qX (by kernel_rfl) ?_) <;> try simp only [qY, qF, qM, qO, qG, qC, qN, reduceIte, seval, Int.cast_ofNat_Int, qZ, zA, qV, zS, zU, zV, xM, zM, qL m5 xU, qL m5 zI]))
      rw [← e5]
      refine xK vJ Tryd.underlying23 rfl t5 (OWN.weak ((t2.trans s3).trans s4) o5) (r4.hs t5).src (by simp only [List.length_append]; omega) fun v6 h6 s6 x6 o6 => ?_
      have m6 := x6 _ _ m5 (by simp)
      obtain ⟨b6, d6, e6⟩ := o6.form
      rw [e6]
      refine qT ?_; repeat' (first | (with_reducible first | apply qJ | apply qB) | ((first | (with_reducible apply qS) | (with_reducible first | apply qA | apply qP | apply qD | apply qE | apply qK) | ((with_reducible first | apply qQ | apply qH | apply qI | apply zF | apply zG) <;> intro hb <;> (try simp only [hb]) <;> (try simp only [zB] at hb)) | with_reducible refine qR zM qX (by kernel_rfl) ?_) <;> try simp only [qY, qF, qM, qO, qG, qC, qN, reduceIte, seval, Int.cast_ofNat_Int, qZ, zA, qV, zS, zU, zV, xM, zM, qL m5 xU, qL m5 zI, qL m6 zI]))
      rw [← e6]
      refine xK vJ Tryd.underlying23 rfl s6 o6 (r5.hs s6).src (by simp only [List.length_append]; omega) fun v7 h7 s7 _ o7 => ?_
      obtain ⟨b7, d7, rfl⟩ := o7.form
      refine qT ?_; repeat' (first | (with_reducible first | apply qJ | apply qB) | ((first | (with_reducible apply qS) | (with_reducible first | apply qA | apply qP | apply qD | apply qE | apply qK) | ((with_reducible first | apply qQ | apply qH | apply qI | apply zF | apply zG) <;> intro hb <;> (try simp only [hb]) <;> (try simp only [zB] at hb)) | with_reducible refine qR zM qX (by kernel_rfl) ?_) <;> try simp only [qY, qF, qM, qO, qG, qC, qN, reduceIte, seval, Int.cast_ofNat_Int, qZ, zA, qV, zS, zU, zV, xM, zM]))
      have e : l ++ qU 2 ++ qU dp ++ qU pf.length ++ pf ++ qU nw ++ lf ++ rt = w := by rw [← hw]; simp [xQ, wby]
      rw [e] at o7 ⊢
      exact ⟨s7, b7, d7, rfl, o7.rb⟩
    · refine qT ?_; repeat' (first | (with_reducible first | apply qJ | apply qB) | ((first | (with_reducible apply qS) | (with_reducible first | apply qA | apply qP | apply qD | apply qE | apply qK) | ((with_reducible first | apply qQ | apply qH | apply qI | apply zF | apply zG) <;> intro hb <;> (try simp only [hb]) <;> (try simp only [zB] at hb)) | with_reducible refine qR zM qX (by kernel_rfl) ?_) <;> try simp only [qY, qF, qM, qO, qG, qC, qN, reduceIte, seval, Int.cast_ofNat_Int, qZ, zA, qV, zS, zU, zV, xM, zM, qL m2 xU, qL m2 zI]))
      refine (xA N h2 o2.rb (by simp only [List.length_append]; omega) dp).mono ?_
      rintro _ h3 ⟨s3, o3⟩
      obtain ⟨b3, d3, rfl⟩ := o3.form
      have m3 := s3 _ _ m2
      refine qT ?_; repeat' (first | (with_reducible first | apply qJ | apply qB) | ((first | (with_reducible apply qS) | (with_reducible first | apply qA | apply qP | apply qD | apply qE | apply qK) | ((with_reducible first | apply qQ | apply qH | apply qI | apply zF | apply zG) <;> intro hb <;> (try simp only [hb]) <;> (try simp only [zB] at hb)) | with_reducible refine qR zM qX (by kernel_rfl) ?_) <;> try simp only [qY, qF, qM, qO, qG, qC, qN, reduceIte, seval, Int.cast_ofNat_Int, qZ, zA, qV, zS, zU, zV, xM, zM, qL m2 xU, qL m2 zI, qL m3 xU, qL m3 zI]))
      refine (wA N h3 o3.rb (r3.hs (t2.trans s3)) (by simp only [List.length_append]; omega)).mono ?_
      rintro _ h4 ⟨s4, o4⟩
      obtain ⟨b4, d4, rfl⟩ := o4.form
      have m4 := s4 _ _ m3
      refine qT ?_; repeat' (first | (with_reducible first | apply qJ | apply qB) | ((first | (with_reducible apply qS) | (with_reducible first | apply qA | apply qP | apply qD | apply qE | apply qK) | ((with_reducible first | apply qQ | apply qH | apply qI | apply zF | apply zG) <;> intro hb <;> (try simp only [hb]) <;> (try simp only [zB] at hb)) | with_reducible refine qR zM qX (by kernel_rfl) ?_) <;> try simp only [qY, qF, qM, qO, qG, qC, qN, reduceIte, seval, Int.cast_ofNat_Int, qZ, zA, qV, zS, zU, zV, xM, zM, qL m3 xU, qL m3 zI, qL m4 xU, qL m4 zI]))
      refine (xA N h4 o4.rb (by simp only [List.length_append]; omega) nw).mono ?_
      rintro _ h5 ⟨s5, o5⟩
      obtain ⟨b5, d5, rfl⟩ := o5.form
      have m5 := s5 _ _ m4
      have t5 := ((t2.trans s3).trans s4).trans s5
      refine qT ?_; repeat' (first | (with_reducible first | apply qJ | apply qB) | ((first | (with_reducible apply qS) | (with_reducible first | apply qA | apply qP | apply qD | apply qE | apply qK) | ((with_reducible first | apply qQ | apply qH | apply qI | apply zF | apply zG) <;> intro hb <;> (try simp only [hb]) <;> (try simp only [zB] at hb)) | with_reducible refine qR zM qX (by kernel_rfl) ?_) <;> try simp only [qY, qF, qM, qO, qG, qC, qN, reduceIte, seval, Int.cast_ofNat_Int, qZ, zA, qV, zS, zU, zV, xM, zM, qL m5 xU, qL m5 zI]))
      have e : l ++ qU 3 ++ qU dp ++ qU pf.length ++ pf ++ qU nw = w := by rw [← hw]; simp [xQ, wby]
      rw [e] at o5 ⊢
      exact ⟨t5, b5, d5, rfl, o5.rb⟩
  · have d2 : (kd == 2) = false := by simpa using (by omega : kd ≠ 2)
    have d3 : (kd == 3) = false := by simpa using (by omega : kd ≠ 3)
    refine qT ?_; repeat' (first | (with_reducible first | apply qJ | apply qB) | ((first | (with_reducible apply qS) | (with_reducible first | apply qA | apply qP | apply qD | apply qE | apply qK) | ((with_reducible first | apply qQ | apply qH | apply qI | apply zF | apply zG) <;> intro hb <;> (try simp only [hb]) <;> (try simp only [zB] at hb)) | with_reducible refine qR zM qX (by kernel_rfl) ?_) <;> try simp only [qY, qF, qM, qO, qG, qC, qN, reduceIte, seval, Int.cast_ofNat_Int, qZ, zA, qV, zS, zU, zV, xM, zM, qL m2 xU, d1, d2, d3]))
    have e : l ++ qU kd = w := by rw [← hw]; simp only [xQ]; rw [if_neg k1', if_neg k2, if_neg (by omega)]; simp
    rw [e] at o2 ⊢
    exact ⟨t2, b2, _, rfl, o2.rb⟩
theorem vI : type_of% (And.intro zX (And.intro tV (And.intro jM (And.intro jL (And.intro tU (And.intro qG2 (And.intro wJ (And.intro wS rs12)))))))) := And.intro zX (And.intro tV (And.intro jM (And.intro jL (And.intro tU (And.intro qG2 (And.intro wJ (And.intro wS rs12)))))))
theorem vH : type_of% (And.intro zX (And.intro tV (And.intro jM (And.intro jL (And.intro tU (And.intro qG2 (And.intro wJ (And.intro wS rs20)))))))) := And.intro zX (And.intro tV (And.intro jM (And.intro jL (And.intro tU (And.intro qG2 (And.intro wJ (And.intro wS rs20)))))))
def xD : Nat → List (Nat × List Nat) × List Nat
  | 5 => ([(0, []), (1, []), (2, []), (4, []), (5, []), (7, []), (8, []), (3, [5, 8]), (6, [8]), (9, []), (10, [])], [0, 0, 2, 7, 0, 16, 63, 0, 128, 511, 1023])
  | _ => ([], [])
theorem wI {P : Program} {h : GH} {k o : Nat} {B : GB} (hk : h k = some B) {t n : Nat} {cs : List Value} (hz : wB P t = some (true, n)) (hc : (B.cells.drop o).take n = cs) (hl : cs.length = n) : xS P t h (.pointer (some ⟨k, o, none⟩)) = some (.agg cs.toArray) := wC hz (vM hk hc hl)
theorem Pn.sizes {K : Type} (f : K → Nat) (p : Pn K) : p.id.length + p.ky.length + p.pf.length + p.lf.length + p.rt.length ≤ p.bulk f := by unfold Pn.bulk; omega
theorem mW {n : Nat} (p : Pw n) : (p.hops.flatMap whop).length ≤ 9 * (p.hops.map Hp.bulk).sum ∧ p.hops.length ≤ (p.hops.map Hp.bulk).sum := ⟨vU whop Hp.bulk mL p.hops, wL Hp.bulk (fun x => by unfold Hp.bulk; omega) p.hops⟩
theorem fV (N : Nat) (h : GH) {b : Option Addr} {n c : Nat} {l : List UInt8} (r : RB h (.slice b n c) l) {m : Nat} {cs : List Value} {p : Pw m} (q : RPw h cs p) (hl : l.length + 10 * p.bulk ≤ 400000000) : GTri Tryd.prog N 12 [.slice b n c, .agg cs.toArray] h fun v h' => HS h h' ∧ ∃ a c, v = .slice a (l ++ wpath p).length c ∧ RB h' (.slice a (l ++ wpath p).length c) (l ++ wpath p) := by
  obtain rfl := r.len_eq
  cases m with
  | zero => obtain ⟨_, _, _, _, _, _, q⟩ := q; exact q.elim
  | succ m =>
  have hh := mW p
  have hb : p.bulk = (p.hops.map Hp.bulk).sum + Pn.bulk (Pd.bulk m) p.en + 1 := rfl
  have hz := Pn.sizes (Pd.bulk m) p.en
  obtain ⟨a0, c0, ce, rfl, _, q0, qe⟩ := q
  have qe0 : RPn (RPd m) h ce p.en := qe
  obtain ⟨a1, c1, a2, c2, a3, c3, a4, c4, a5, c5, a6, c6, rfl, _⟩ := qe
  generalize hw : l ++ wpath p = w
  obtain ⟨hops, en⟩ := p
  obtain ⟨kd, si, dp, nw, id, ky, pf, lf, rt, kids⟩ := en
  simp only at q0 hh hb hz
  have gl := qW hops.length
  obtain ⟨W, hW⟩ : ∃ W : Nat → List UInt8, ∀ i, W i = l ++ qU hops.length ++ (hops.take i).flatMap whop := ⟨_, fun _ => rfl⟩
  have w0 : l ++ qU hops.length = W 0 := by rw [hW]; simp
  have wl : ∀ i, (W i).length ≤ l.length + 9 + 9 * (hops.map Hp.bulk).sum := fun i => by
    have := vP whop hops i
    rw [hW]; simp only [List.length_append]; omega
  refine xW Tryd.func12 rfl gf12 ok12 (by simp [Tryd.ntmps12]) ?_
  repeat' (first | (with_reducible first | apply qJ | apply qB) | ((first | (with_reducible first | apply qA | apply qP | apply qD | apply qE | apply qK) | ((with_reducible first | apply qQ | apply qH | apply qI) <;> intro hb <;> (try simp only [hb]) <;> (try simp only [zB] at hb))) <;> try simp only [qY, qF, qM, qO, qG, qC, qN, reduceIte, seval, Int.cast_ofNat_Int, qZ, zA, vI, Pn.cs]))
  refine vD rfl fun k1 h1 m1 s1 f1 n1 => ?_
  refine qT ?_; repeat' (first | (with_reducible first | apply qJ | apply qB) | ((first | (with_reducible apply qS) | (with_reducible first | apply qA | apply qP | apply qD | apply qE | apply qK) | ((with_reducible first | apply qQ | apply qH | apply qI) <;> intro hb <;> (try simp only [hb]) <;> (try simp only [zB] at hb))) <;> try simp only [qY, qF, qM, qO, qG, qC, qN, reduceIte, seval, Int.cast_ofNat_Int, qZ, zA, vI, qL m1 qG5]))
  refine (yK N h1 (r.hs s1) (by omega) hops.length).mono ?_
  rintro _ h2 ⟨s2, o2⟩
  obtain ⟨b2, d2, rfl⟩ := o2.form
  have m2 := s2 _ _ m1
  have t2 := s1.trans s2
  have q2 := RL.hcR (R := RHp) q0 t2.hc fun _ _ q => q.keep (.hs t2)
  have rb2 := o2.rb
  rw [w0] at rb2
  simp only [w0]
  refine qT ?_; repeat' (first | (with_reducible first | apply qJ | apply qB) | ((first | (with_reducible apply qS) | (with_reducible first | apply qA | apply qP | apply qD | apply qE | apply qK) | ((with_reducible first | apply qQ | apply qH | apply qI) <;> intro hb <;> (try simp only [hb]) <;> (try simp only [zB] at hb))) <;> try simp only [qY, qF, qM, qO, qG, qC, qN, reduceIte, seval, Int.cast_ofNat_Int, qZ, zA, vI, qL m2 qG5]))
  refine zZ [3, 4, 13, 14] (fun (y : Nat × (Option Addr × Nat)) => [(0, .slice y.2.1 (W y.1).length y.2.2), (15, .int .i64 (y.1 : Int))]) (fun q y h' => hops.length - y.1 = q ∧ y.1 ≤ hops.length ∧ HS h2 h' ∧ RB h' (.slice y.2.1 (W y.1).length y.2.2) (W y.1)) hops.length (0, b2, d2) (by simp [lk]) ⟨rfl, by omega, HS.refl _, rb2⟩ ?_
  rintro _ ⟨j, b3, d3⟩ h3 ⟨rfl, hj, s3, r3⟩
  simp only at hj r3
  have m3 := s3 _ _ m2
  have t3 := t2.trans s3
  have wj := wl j
  by_cases hil : j < hops.length
  case neg =>
    have d4 : decide ((j : Int) < (hops.length : Int)) = false := decide_eq_false (by omega)
    obtain rfl : j = hops.length := by omega
    have ge := wI (t := 31) m3 (o := 1) uM (cs := Pn.cs ⟨kd, si, dp, nw, id, ky, pf, lf, rt, kids⟩ (.slice a1 id.length c1) (.slice a2 ky.length c2) (.slice a3 pf.length c3) (.slice a4 lf.length c4) (.slice a5 rt.length c5) (.slice a6 kids.length c6)) rfl rfl
    refine qT ?_; repeat' (first | (with_reducible first | apply qJ | apply qB) | ((first | (with_reducible apply qS) | (with_reducible first | apply qA | apply qP | apply qD | apply qE | apply qK) | ((with_reducible first | apply qQ | apply qH | apply qI) <;> intro hb <;> (try simp only [hb]) <;> (try simp only [zB] at hb))) <;> try simp only [qY, qF, qM, qO, qG, qC, qN, reduceIte, seval, Int.cast_ofNat_Int, qZ, zA, vI, d4, ge]))
    refine (rN N h3 r3 (RPn.keep (.hs t3) (fun _ _ q => q.keep (.hs t3) m) qe0) (by simp only at hz ⊢; omega)).mono ?_
    rintro _ h4 ⟨s4, a4', c4', rfl, r4⟩
    have e : W hops.length ++ xQ (⟨kd, si, dp, nw, id, ky, pf, lf, rt, kids⟩ : Pn (Pd m)) = w := by rw [← hw, hW, List.take_length]; simp only [wpath, wend, List.append_assoc]
    rw [e] at r4 ⊢
    refine qT ?_; repeat' (first | (with_reducible first | apply qJ | apply qB) | ((first | (with_reducible apply qS) | (with_reducible first | apply qA | apply qP | apply qD | apply qE | apply qK) | ((with_reducible first | apply qQ | apply qH | apply qI) <;> intro hb <;> (try simp only [hb]) <;> (try simp only [zB] at hb))) <;> try simp only [qY, qF, qM, qO, qG, qC, qN, reduceIte, seval, Int.cast_ofNat_Int, qZ, zA, vI]))
    exact ⟨t3.trans s4, a4', c4', rfl, r4⟩
  have d4 : decide ((j : Int) < (hops.length : Int)) = true := decide_eq_true (by omega)
  have wi : IntKind.i64.wrap ((j : Int) + 1) = ((j + 1 : Nat) : Int) := by rw [wrap64 (by omega) (by omega)]; omega
  obtain ⟨x, hx⟩ : ∃ x, hops[j]? = some x := ⟨_, List.getElem?_eq_getElem hil⟩
  have q3 := RL.hcR (R := RHp) q2 s3.hc fun _ _ q => q.keep (.hs s3)
  obtain ⟨ad, cs2, g1, g2, a', c', rfl, p1⟩ := RL.at (P := Tryd.prog) q3 Tryd.underlying28 qA6 hx
  have wj1 := wl (j + 1)
  have ww : W (j + 1) = W j ++ qU x.1 ++ qU x.2.1 ++ x.2.2 := by rw [hW, hW, xN whop hops hx, whop]; simp only [List.append_assoc]
  rw [ww] at wj1
  simp only [List.length_append] at wj1
  refine qT ?_; repeat' (first | (with_reducible first | apply qJ | apply qB) | ((first | (with_reducible apply qS) | (with_reducible first | apply qA | apply qP | apply qD | apply qE | apply qK) | ((with_reducible first | apply qQ | apply qH | apply qI) <;> intro hb <;> (try simp only [hb]) <;> (try simp only [zB] at hb))) <;> try simp only [qY, qF, qM, qO, qG, qC, qN, reduceIte, seval, Int.cast_ofNat_Int, qZ, zA, vI, d4, g1, wC qA6 g2]))
  refine jN fun k4 h4 m4 s4 f4 n4 => ?_
  refine qT ?_; repeat' (first | (with_reducible first | apply qJ | apply qB) | ((first | (with_reducible apply qS) | (with_reducible first | apply qA | apply qP | apply qD | apply qE | apply qK) | ((with_reducible first | apply qQ | apply qH | apply qI) <;> intro hb <;> (try simp only [hb]) <;> (try simp only [zB] at hb))) <;> try simp only [qY, qF, qM, qO, qG, qC, qN, reduceIte, seval, Int.cast_ofNat_Int, qZ, zA, vI]))
  refine uA m4 qA6 rfl (by decide) rfl rfl rfl fun h5 m5 f5 => ?_
  have s5 : HS h3 h5 := (HS.refl _).upd n4 fun j hj => (f5 j hj).trans (f4 j hj)
  refine qT ?_; repeat' (first | (with_reducible first | apply qJ | apply qB) | ((first | (with_reducible apply qS) | (with_reducible first | apply qA | apply qP | apply qD | apply qE | apply qK) | ((with_reducible first | apply qQ | apply qH | apply qI) <;> intro hb <;> (try simp only [hb]) <;> (try simp only [zB] at hb))) <;> try simp only [qY, qF, qM, qO, qG, qC, qN, reduceIte, seval, Int.cast_ofNat_Int, qZ, zA, vI, qL m5 xU]))
  refine (yK N h5 (r3.hs s5) (by omega) x.1).mono ?_
  rintro _ h6 ⟨s6, o6⟩
  obtain ⟨b6, d6, rfl⟩ := o6.form
  have m6 := s6 _ _ m5
  refine qT ?_; repeat' (first | (with_reducible first | apply qJ | apply qB) | ((first | (with_reducible apply qS) | (with_reducible first | apply qA | apply qP | apply qD | apply qE | apply qK) | ((with_reducible first | apply qQ | apply qH | apply qI) <;> intro hb <;> (try simp only [hb]) <;> (try simp only [zB] at hb))) <;> try simp only [qY, qF, qM, qO, qG, qC, qN, reduceIte, seval, Int.cast_ofNat_Int, qZ, zA, vI, qL m6 xU]))
  refine (yK N h6 o6.rb (by simp only [List.length_append]; omega) x.2.1).mono ?_
  rintro _ h7 ⟨s7, o7⟩
  have m7 := s7 _ _ m6
  obtain ⟨b7, d7, e7⟩ := o7.form
  rw [e7]
  refine qT ?_; repeat' (first | (with_reducible first | apply qJ | apply qB) | ((first | (with_reducible apply qS) | (with_reducible first | apply qA | apply qP | apply qD | apply qE | apply qK) | ((with_reducible first | apply qQ | apply qH | apply qI) <;> intro hb <;> (try simp only [hb]) <;> (try simp only [zB] at hb))) <;> try simp only [qY, qF, qM, qO, qG, qC, qN, reduceIte, seval, Int.cast_ofNat_Int, qZ, zA, vI, qL m7 zI]))
  rw [← e7]
  refine xK vJ Tryd.underlying23 rfl ((s5.trans s6).trans s7) (OWN.weak (s5.trans s6) o7) (p1.hs ((s5.trans s6).trans s7)).src (by simp only [List.length_append]; omega) fun v8 h8 s8 _ o8 => ?_
  rw [← ww] at o8
  obtain ⟨b8, d8, rfl⟩ := o8.form
  refine qT ?_; repeat' (first | (with_reducible first | apply qJ | apply qB) | ((first | (with_reducible apply qS) | (with_reducible first | apply qA | apply qP | apply qD | apply qE | apply qK) | ((with_reducible first | apply qQ | apply qH | apply qI) <;> intro hb <;> (try simp only [hb]) <;> (try simp only [zB] at hb))) <;> try simp only [qY, qF, qM, qO, qG, qC, qN, reduceIte, seval, Int.cast_ofNat_Int, qZ, zA, vI, wi]))
  exact ⟨_, (j + 1, b8, d8), by omega, (by simp only [List.forall_mem_cons, List.not_mem_nil, false_implies, implies_true, List.map, List.cons_append, List.nil_append, lk, Nat.reduceEqDiff, reduceIte, and_true, true_and]), rfl, by omega, s3.trans s8, o8.rb⟩
theorem gM (N : Nat) (h : GH) {b : Option Addr} {n c : Nat} {l : List UInt8} (r : RB h (.slice b n c) l) {m : Nat} {cs : List Value} {p : Pw m} (q : RPw h cs p) (hl : l.length + 10 * p.bulk ≤ 400000000) : GTri Tryd.prog N 20 [.slice b n c, .agg cs.toArray] h fun v h' => HS h h' ∧ ∃ a c, v = .slice a (l ++ wpath p).length c ∧ RB h' (.slice a (l ++ wpath p).length c) (l ++ wpath p) := by
  obtain rfl := r.len_eq
  cases m with
  | zero => obtain ⟨_, _, _, _, _, _, q⟩ := q; exact q.elim
  | succ m =>
  have hh := mW p
  have hb : p.bulk = (p.hops.map Hp.bulk).sum + Pn.bulk (Pd.bulk m) p.en + 1 := rfl
  have hz := Pn.sizes (Pd.bulk m) p.en
  obtain ⟨a0, c0, ce, rfl, _, q0, qe⟩ := q
  have qe0 : RPn (RPd m) h ce p.en := qe
  obtain ⟨a1, c1, a2, c2, a3, c3, a4, c4, a5, c5, a6, c6, rfl, _⟩ := qe
  generalize hw : l ++ wpath p = w
  obtain ⟨hops, en⟩ := p
  obtain ⟨kd, si, dp, nw, id, ky, pf, lf, rt, kids⟩ := en
  simp only at q0 hh hb hz
  have gl := qW hops.length
  obtain ⟨W, hW⟩ : ∃ W : Nat → List UInt8, ∀ i, W i = l ++ qU hops.length ++ (hops.take i).flatMap whop := ⟨_, fun _ => rfl⟩
  have w0 : l ++ qU hops.length = W 0 := by rw [hW]; simp
  have wl : ∀ i, (W i).length ≤ l.length + 9 + 9 * (hops.map Hp.bulk).sum := fun i => by
    have := vP whop hops i
    rw [hW]; simp only [List.length_append]; omega
  refine xW Tryd.func20 rfl gf20 ok20 (by simp [Tryd.ntmps20]) ?_
  repeat' (first | (with_reducible first | apply qJ | apply qB) | ((first | (with_reducible first | apply qA | apply qP | apply qD | apply qE | apply qK) | ((with_reducible first | apply qQ | apply qH | apply qI | apply zF | apply zG) <;> intro hb <;> (try simp only [hb]) <;> (try simp only [zB] at hb)) | with_reducible refine qR xD qX (by kernel_rfl) ?_) <;> try simp only [qY, qF, qM, qO, qG, qC, qN, reduceIte, seval, Int.cast_ofNat_Int, qZ, zA, qV, zS, zU, zV, vH, xD, Pn.cs]))
  refine vD rfl fun k1 h1 m1 s1 f1 n1 => ?_
  refine qT ?_; repeat' (first | (with_reducible first | apply qJ | apply qB) | ((first | (with_reducible apply qS) | (with_reducible first | apply qA | apply qP | apply qD | apply qE | apply qK) | ((with_reducible first | apply qQ | apply qH | apply qI | apply zF | apply zG) <;> intro hb <;> (try simp only [hb]) <;> (try simp only [zB] at hb)) | with_reducible refine qR xD qX (by kernel_rfl) ?_) <;> try simp only [qY, qF, qM, qO, qG, qC, qN, reduceIte, seval, Int.cast_ofNat_Int, qZ, zA, qV, zS, zU, zV, vH, xD, qL m1 qG5]))
  refine (xA N h1 (r.hs s1) (by omega) hops.length).mono ?_
  rintro _ h2 ⟨s2, o2⟩
  obtain ⟨b2, d2, rfl⟩ := o2.form
  have m2 := s2 _ _ m1
  have t2 := s1.trans s2
  have q2 := RL.hcR (R := RHp) q0 t2.hc fun _ _ q => q.keep (.hs t2)
  have rb2 := o2.rb
  rw [w0] at rb2
  simp only [w0]
  refine qT ?_; repeat' (first | (with_reducible first | apply qJ | apply qB) | ((first | (with_reducible apply qS) | (with_reducible first | apply qA | apply qP | apply qD | apply qE | apply qK) | ((with_reducible first | apply qQ | apply qH | apply qI | apply zF | apply zG) <;> intro hb <;> (try simp only [hb]) <;> (try simp only [zB] at hb)) | with_reducible refine qR xD qX (by kernel_rfl) ?_) <;> try simp only [qY, qF, qM, qO, qG, qC, qN, reduceIte, seval, Int.cast_ofNat_Int, qZ, zA, qV, zS, zU, zV, vH, xD, qL m2 qG5]))
  refine zZ [3, 4, 14, 15] (fun (y : Nat × (Option Addr × Nat)) => [(5, .slice y.2.1 (W y.1).length y.2.2), (16, .int .i64 (y.1 : Int))]) (fun q y h' => hops.length - y.1 = q ∧ y.1 ≤ hops.length ∧ HS h2 h' ∧ RB h' (.slice y.2.1 (W y.1).length y.2.2) (W y.1)) hops.length (0, b2, d2) (by simp [lk]) ⟨rfl, by omega, HS.refl _, rb2⟩ ?_
  rintro _ ⟨j, b3, d3⟩ h3 ⟨rfl, hj, s3, r3⟩
  simp only at hj r3
  have m3 := s3 _ _ m2
  have t3 := t2.trans s3
  have wj := wl j
  by_cases hil : j < hops.length
  case neg =>
    have d4 : decide ((j : Int) < (hops.length : Int)) = false := decide_eq_false (by omega)
    obtain rfl : j = hops.length := by omega
    have ge := wI (t := 31) m3 (o := 1) uM (cs := Pn.cs ⟨kd, si, dp, nw, id, ky, pf, lf, rt, kids⟩ (.slice a1 id.length c1) (.slice a2 ky.length c2) (.slice a3 pf.length c3) (.slice a4 lf.length c4) (.slice a5 rt.length c5) (.slice a6 kids.length c6)) rfl rfl
    refine qT ?_; repeat' (first | (with_reducible first | apply qJ | apply qB) | ((first | (with_reducible apply qS) | (with_reducible first | apply qA | apply qP | apply qD | apply qE | apply qK) | ((with_reducible first | apply qQ | apply qH | apply qI | apply zF | apply zG) <;> intro hb <;> (try simp only [hb]) <;> (try simp only [zB] at hb)) | with_reducible refine qR xD qX (by kernel_rfl) ?_) <;> try simp only [qY, qF, qM, qO, qG, qC, qN, reduceIte, seval, Int.cast_ofNat_Int, qZ, zA, qV, zS, zU, zV, vH, xD, d4, ge]))
    refine (tM N h3 r3 (RPn.keep (.hs t3) (fun _ _ q => q.keep (.hs t3) m) qe0) (by simp only at hz ⊢; omega)).mono ?_
    rintro _ h4 ⟨s4, a4', c4', rfl, r4⟩
    have e : W hops.length ++ xQ (⟨kd, si, dp, nw, id, ky, pf, lf, rt, kids⟩ : Pn (Pd m)) = w := by rw [← hw, hW, List.take_length]; simp only [wpath, wend, List.append_assoc]
    rw [e] at r4 ⊢
    refine qT ?_; repeat' (first | (with_reducible first | apply qJ | apply qB) | ((first | (with_reducible apply qS) | (with_reducible first | apply qA | apply qP | apply qD | apply qE | apply qK) | ((with_reducible first | apply qQ | apply qH | apply qI | apply zF | apply zG) <;> intro hb <;> (try simp only [hb]) <;> (try simp only [zB] at hb)) | with_reducible refine qR xD qX (by kernel_rfl) ?_) <;> try simp only [qY, qF, qM, qO, qG, qC, qN, reduceIte, seval, Int.cast_ofNat_Int, qZ, zA, qV, zS, zU, zV, vH, xD]))
    exact ⟨t3.trans s4, a4', c4', rfl, r4⟩
  have d4 : decide ((j : Int) < (hops.length : Int)) = true := decide_eq_true (by omega)
  have wi : IntKind.i64.wrap ((j : Int) + 1) = ((j + 1 : Nat) : Int) := by rw [wrap64 (by omega) (by omega)]; omega
  obtain ⟨x, hx⟩ : ∃ x, hops[j]? = some x := ⟨_, List.getElem?_eq_getElem hil⟩
  have q3 := RL.hcR (R := RHp) q2 s3.hc fun _ _ q => q.keep (.hs s3)
  obtain ⟨ad, cs2, g1, g2, a', c', rfl, p1⟩ := RL.at (P := Tryd.prog) q3 Tryd.underlying28 qA6 hx
  have wj1 := wl (j + 1)
  have ww : W (j + 1) = W j ++ qU x.1 ++ qU x.2.1 ++ x.2.2 := by rw [hW, hW, xN whop hops hx, whop]; simp only [List.append_assoc]
  rw [ww] at wj1
  simp only [List.length_append] at wj1
  refine qT ?_; repeat' (first | (with_reducible first | apply qJ | apply qB) | ((first | (with_reducible apply qS) | (with_reducible first | apply qA | apply qP | apply qD | apply qE | apply qK) | ((with_reducible first | apply qQ | apply qH | apply qI | apply zF | apply zG) <;> intro hb <;> (try simp only [hb]) <;> (try simp only [zB] at hb)) | with_reducible refine qR xD qX (by kernel_rfl) ?_) <;> try simp only [qY, qF, qM, qO, qG, qC, qN, reduceIte, seval, Int.cast_ofNat_Int, qZ, zA, qV, zS, zU, zV, vH, xD, d4, g1, wC qA6 g2]))
  refine jN fun k4 h4 m4 s4 f4 n4 => ?_
  refine qT ?_; repeat' (first | (with_reducible first | apply qJ | apply qB) | ((first | (with_reducible apply qS) | (with_reducible first | apply qA | apply qP | apply qD | apply qE | apply qK) | ((with_reducible first | apply qQ | apply qH | apply qI | apply zF | apply zG) <;> intro hb <;> (try simp only [hb]) <;> (try simp only [zB] at hb)) | with_reducible refine qR xD qX (by kernel_rfl) ?_) <;> try simp only [qY, qF, qM, qO, qG, qC, qN, reduceIte, seval, Int.cast_ofNat_Int, qZ, zA, qV, zS, zU, zV, vH, xD]))
  refine uA m4 qA6 rfl (by decide) rfl rfl rfl fun h5 m5 f5 => ?_
  have s5 : HS h3 h5 := (HS.refl _).upd n4 fun j hj => (f5 j hj).trans (f4 j hj)
  refine qT ?_; repeat' (first | (with_reducible first | apply qJ | apply qB) | ((first | (with_reducible apply qS) | (with_reducible first | apply qA | apply qP | apply qD | apply qE | apply qK) | ((with_reducible first | apply qQ | apply qH | apply qI | apply zF | apply zG) <;> intro hb <;> (try simp only [hb]) <;> (try simp only [zB] at hb)) | with_reducible refine qR xD qX (by kernel_rfl) ?_) <;> try simp only [qY, qF, qM, qO, qG, qC, qN, reduceIte, seval, Int.cast_ofNat_Int, qZ, zA, qV, zS, zU, zV, vH, xD, qL m5 xU, qL m5 zI]))
  refine (xA N h5 (r3.hs s5) (by omega) x.1).mono ?_
  rintro _ h6 ⟨s6, o6⟩
  obtain ⟨b6, d6, rfl⟩ := o6.form
  have m6 := s6 _ _ m5
  refine qT ?_; repeat' (first | (with_reducible first | apply qJ | apply qB) | ((first | (with_reducible apply qS) | (with_reducible first | apply qA | apply qP | apply qD | apply qE | apply qK) | ((with_reducible first | apply qQ | apply qH | apply qI | apply zF | apply zG) <;> intro hb <;> (try simp only [hb]) <;> (try simp only [zB] at hb)) | with_reducible refine qR xD qX (by kernel_rfl) ?_) <;> try simp only [qY, qF, qM, qO, qG, qC, qN, reduceIte, seval, Int.cast_ofNat_Int, qZ, zA, qV, zS, zU, zV, vH, xD, qL m5 xU, qL m5 zI, qL m6 xU, qL m6 zI]))
  refine (xA N h6 o6.rb (by simp only [List.length_append]; omega) x.2.1).mono ?_
  rintro _ h7 ⟨s7, o7⟩
  have m7 := s7 _ _ m6
  obtain ⟨b7, d7, e7⟩ := o7.form
  rw [e7]
  refine qT ?_; repeat' (first | (with_reducible first | apply qJ | apply qB) | ((first | (with_reducible apply qS) | (with_reducible first | apply qA | apply qP | apply qD | apply qE | apply qK) | ((with_reducible first | apply qQ | apply qH | apply qI | apply zF | apply zG) <;> intro hb <;> (try simp only [hb]) <;> (try simp only [zB] at hb)) | with_reducible refine qR xD qX (by kernel_rfl) ?_) <;> try simp only [qY, qF, qM, qO, qG, qC, qN, reduceIte, seval, Int.cast_ofNat_Int, qZ, zA, qV, zS, zU, zV, vH, xD, qL m6 xU, qL m6 zI, qL m7 xU, qL m7 zI]))
  rw [← e7]
  refine xK vJ Tryd.underlying23 rfl ((s5.trans s6).trans s7) (OWN.weak (s5.trans s6) o7) (p1.hs ((s5.trans s6).trans s7)).src (by simp only [List.length_append]; omega) fun v8 h8 s8 _ o8 => ?_
  rw [← ww] at o8
  obtain ⟨b8, d8, rfl⟩ := o8.form
  refine qT ?_; repeat' (first | (with_reducible first | apply qJ | apply qB) | ((first | (with_reducible apply qS) | (with_reducible first | apply qA | apply qP | apply qD | apply qE | apply qK) | ((with_reducible first | apply qQ | apply qH | apply qI | apply zF | apply zG) <;> intro hb <;> (try simp only [hb]) <;> (try simp only [zB] at hb)) | with_reducible refine qR xD qX (by kernel_rfl) ?_) <;> try simp only [qY, qF, qM, qO, qG, qC, qN, reduceIte, seval, Int.cast_ofNat_Int, qZ, zA, qV, zS, zU, zV, vH, xD, wi]))
  exact ⟨_, (j + 1, b8, d8), by omega, (by simp only [List.forall_mem_cons, List.not_mem_nil, false_implies, implies_true, List.map, List.cons_append, List.nil_append, lk, Nat.reduceEqDiff, reduceIte, and_true, true_and]), rfl, by omega, s3.trans s8, o8.rb⟩
theorem yJ : type_of% (And.intro zX (And.intro jM (And.intro jL (And.intro wJ (And.intro wS rs13))))) := And.intro zX (And.intro jM (And.intro jL (And.intro wJ (And.intro wS rs13))))
theorem pM : qU 3 = [1, 3] := by
  have h : xJ 3 = [3] := by rw [yP (by decide), show 3 / 256 = 0 from rfl, vE]; rfl
  have hg : kM 3 = 3 := rfl
  rw [qU, hg, h]; rfl
def p3 : Pn Empty := ⟨3, 0, 0, 0, [], [], [], [], [], []⟩
theorem p3_R (h : GH) : RPn (fun _ _ _ => False) h (p3.cs (.slice none 0 0) (.slice none 0 0) (.slice none 0 0) (.slice none 0 0) (.slice none 0 0) (.slice none 0 0)) p3 :=
  ⟨none, 0, none, 0, none, 0, none, 0, none, 0, none, 0, rfl, RB.nil _, RB.nil _, RB.nil _, RB.nil _, RB.nil _, RL.nil _⟩
theorem p3_w (l : List UInt8) : (l ++ xQ p3).take (l.length + 2) = l ++ qU 3 ∧ l.length + 2 ≤ (l ++ xQ p3).length := by
  have e : xQ p3 = [1, 3] ++ (qU 0 ++ wby [] ++ qU 0) := by
    show qU 3 ++ (if (3 : Int) = 1 then wby [] ++ wby [] ++ qU 0 else if (3 : Int) = 2 ∨ (3 : Int) = 3 then qU 0 ++ wby [] ++ qU 0 else []) ++ (if (3 : Int) = 2 then [] ++ [] else []) = _
    rw [if_neg (by decide), if_pos (by decide), if_neg (by decide), pM, List.append_nil]
  rw [e, pM]
  constructor
  · rw [List.take_append, List.take_of_length_le (by omega)]; simp
  · simp only [List.length_append, List.length_cons, List.length_nil]; omega
theorem lW (N : Nat) : ∀ (m : Nat) (h : GH) {b : Option Addr} {n c : Nat} {l : List UInt8} (r : RB h (.slice b n c) l) {cs : List Value} {p : Pd m} (q : RPd m h cs p) (hl : l.length + 10 * p.bulk m ≤ 400000000), GTri Tryd.prog N 13 [.slice b n c, .agg cs.toArray] h fun v h' => HS h h' ∧ ∃ a c, v = .slice a (l ++ vC m p).length c ∧ RB h' (.slice a (l ++ vC m p).length c) (l ++ vC m p)
  | 0, h, b, n, c, l, r, cs, p, q, hl => q.elim
  | m + 1, h, b, n, c, l, r, cs, p, q, hl => by
    have ih := lW N m
    obtain rfl := r.len_eq
    have q0 : RPn (RPd m) h cs p := q
    have hb : Pd.bulk (m + 1) p = Pn.bulk (Pd.bulk m) p := rfl
    have hz := Pn.sizes (Pd.bulk m) p
    have hw0 := uH (Pd.bulk m) p
    have hbb : Pn.bulk (Pd.bulk m) p = p.id.length + p.ky.length + p.pf.length + p.lf.length + p.rt.length + (p.kids.map (Pd.bulk m)).sum + 10 := rfl
    have hsp : vC (m + 1) p = if p.kd = 3 then (match p.kids with | [x, y] => xQ p ++ vC m x ++ vC m y | _ => qU 3) else xQ p := rfl
    obtain ⟨a1, c1, a2, c2, a3, c3, a4, c4, a5, c5, a6, c6, rfl, _, _, _, _, _, r6⟩ := q
    generalize hw : l ++ vC (m + 1) p = w
    rw [hsp] at hw
    rw [hb] at hl
    generalize hP : (p : Pn (Pd m)) = P0 at *
    clear hP hb hsp
    obtain ⟨kd, si, dp, nw, id, ky, pf, lf, rt, kids⟩ := P0
    simp only at r6 hz hw hbb
    have wl := uH (Pd.bulk m) ⟨kd, si, dp, nw, id, ky, pf, lf, rt, kids⟩
    refine xW Tryd.func13 rfl gf13 ok13 (by simp [Tryd.ntmps13]) ?_
    repeat' (first | (with_reducible first | apply qJ | apply qB) | ((first | (with_reducible first | apply qA | apply qP | apply qD | apply qE | apply qK) | ((with_reducible first | apply qQ | apply qH | apply qI) <;> intro hb <;> (try simp only [hb]) <;> (try simp only [zB] at hb))) <;> try simp only [qY, qF, qM, qO, qG, qC, qN, reduceIte, seval, Int.cast_ofNat_Int, qZ, zA, yJ, Pn.cs]))
    refine vD rfl fun k1 h1 m1 s1 f1 n1 => ?_
    have q1 := RPn.keep (.hs s1) (fun _ _ q => q.keep (.hs s1) m) q0
    have gA := vA m1 uM rfl
    by_cases k3 : kd = 3
    case neg =>
      have d3 : (kd == 3) = false := by simpa using k3
      refine qT ?_; repeat' (first | (with_reducible first | apply qJ | apply qB) | ((first | (with_reducible apply qS) | (with_reducible first | apply qA | apply qP | apply qD | apply qE | apply qK) | ((with_reducible first | apply qQ | apply qH | apply qI) <;> intro hb <;> (try simp only [hb]) <;> (try simp only [zB] at hb))) <;> try simp only [qY, qF, qM, qO, qG, qC, qN, reduceIte, seval, Int.cast_ofNat_Int, qZ, zA, yJ, qL m1 xU, d3, gA]))
      refine (rN N h1 (r.hs s1) q1 (by simp only; omega)).mono ?_
      rintro _ h2 ⟨s2, a2', c2', rfl, r2⟩
      have e : l ++ xQ (⟨kd, si, dp, nw, id, ky, pf, lf, rt, kids⟩ : Pn (Pd m)) = w := by rw [← hw, if_neg k3]
      rw [e] at r2 ⊢
      refine qT ?_; repeat' (first | (with_reducible first | apply qJ | apply qB) | ((first | (with_reducible apply qS) | (with_reducible first | apply qA | apply qP | apply qD | apply qE | apply qK) | ((with_reducible first | apply qQ | apply qH | apply qI) <;> intro hb <;> (try simp only [hb]) <;> (try simp only [zB] at hb))) <;> try simp only [qY, qF, qM, qO, qG, qC, qN, reduceIte, seval, Int.cast_ofNat_Int, qZ, zA, yJ]))
      exact ⟨s1.trans s2, a2', c2', rfl, r2⟩
    subst k3
    by_cases k2 : kids.length = 2
    case neg =>
      have d2 : ((kids.length : Int) != 2) = true := by simpa using (by omega : ¬ (kids.length : Int) = 2)
      have wi : IntKind.i64.wrap ((l.length : Int) + 2) = ((l.length + 2 : Nat) : Int) := by rw [wrap64 (by omega) (by omega)]; omega
      obtain ⟨t1, t2⟩ := p3_w l
      refine qT ?_; repeat' (first | (with_reducible first | apply qJ | apply qB) | ((first | (with_reducible apply qS) | (with_reducible first | apply qA | apply qP | apply qD | apply qE | apply qK) | ((with_reducible first | apply qQ | apply qH | apply qI) <;> intro hb <;> (try simp only [hb]) <;> (try simp only [zB] at hb))) <;> try simp only [qY, qF, qM, qO, qG, qC, qN, reduceIte, seval, Int.cast_ofNat_Int, qZ, zA, yJ, qL m1 xU, qL m1 dE, d2, gX, kU, tX, Shape.pl, List.all_cons, List.all_nil, xE]))
      refine (rN N h1 (r.hs s1) (p3_R h1) (by simp only [p3, List.length_nil]; omega)).mono ?_
      rintro _ h2 ⟨s2, a2', c2', rfl, r2⟩
      obtain ⟨a3', c3', q3, r3, _⟩ := r2.cut Tryd.underlying23 sz5 (hi := ((l.length + 2 : Nat) : Int)) (by omega) (by omega) .i64
      rw [Int.toNat_natCast, t1] at r3
      rw [Int.toNat_natCast] at q3
      refine qT ?_; repeat' (first | (with_reducible first | apply qJ | apply qB) | ((first | (with_reducible apply qS) | (with_reducible first | apply qA | apply qP | apply qD | apply qE | apply qK) | ((with_reducible first | apply qQ | apply qH | apply qI) <;> intro hb <;> (try simp only [hb]) <;> (try simp only [zB] at hb))) <;> try simp only [qY, qF, qM, qO, qG, qC, qN, reduceIte, seval, Int.cast_ofNat_Int, qZ, zA, yJ, wi, q3]))
      have e : l ++ qU 3 = w := by
        rw [← hw, if_pos rfl]
        rcases kids with _ | ⟨x, _ | ⟨y, _ | ⟨z, t⟩⟩⟩ <;> first | rfl | (exfalso; exact k2 rfl)
      have e2 : l.length + 2 = w.length := by rw [← e, pM]; simp
      rw [e] at r3
      rw [e2] at r3 ⊢
      exact ⟨s1.trans s2, a3', c3', rfl, r3⟩
    obtain ⟨x, y, rfl⟩ : ∃ x y, kids = [x, y] := by
      rcases kids with _ | ⟨x, _ | ⟨y, _ | ⟨z, t⟩⟩⟩
      · cases k2
      · cases k2
      · exact ⟨x, y, rfl⟩
      · simp at k2
    simp only [List.map_cons, List.map_nil, List.sum_cons, List.sum_nil] at wl hbb
    have d2 : (((([x, y] : List (Pd m)).length : Nat) : Int) != 2) = false := rfl
    have lx := uG m x
    have ly := uG m y
    refine qT ?_; repeat' (first | (with_reducible first | apply qJ | apply qB) | ((first | (with_reducible apply qS) | (with_reducible first | apply qA | apply qP | apply qD | apply qE | apply qK) | ((with_reducible first | apply qQ | apply qH | apply qI) <;> intro hb <;> (try simp only [hb]) <;> (try simp only [zB] at hb))) <;> try simp only [qY, qF, qM, qO, qG, qC, qN, reduceIte, seval, Int.cast_ofNat_Int, qZ, zA, yJ, qL m1 xU, qL m1 dE, d2, gA]))
    refine (rN N h1 (r.hs s1) q1 (by simp only; omega)).mono ?_
    rintro _ h2 ⟨s2, a2', c2', rfl, r2⟩
    have m2 := s2 _ _ m1
    have t2 := s1.trans s2
    have k6 := RL.hcR (R := RPd m) r6 t2.hc fun _ _ q => q.keep (.hs t2) m
    obtain ⟨ad, cs2, g1, g2, p1⟩ := RL.at (P := Tryd.prog) k6 Tryd.underlying29 uM (i := 0) (x := x) rfl
    have g1' : wE Tryd.prog 29 (.slice a6 2 c6) 0 = some (.pointer (some ad)) := g1
    refine qT ?_; repeat' (first | (with_reducible first | apply qJ | apply qB) | ((first | (with_reducible apply qS) | (with_reducible first | apply qA | apply qP | apply qD | apply qE | apply qK) | ((with_reducible first | apply qQ | apply qH | apply qI) <;> intro hb <;> (try simp only [hb]) <;> (try simp only [zB] at hb))) <;> try simp only [qY, qF, qM, qO, qG, qC, qN, reduceIte, seval, Int.cast_ofNat_Int, qZ, zA, yJ, qL m2 dE, g1', wC uM g2]))
    refine (ih h2 r2 p1 (by simp only [List.length_append]; omega)).mono ?_
    rintro _ h3 ⟨s3, a3', c3', rfl, r3⟩
    have m3 := s3 _ _ m2
    have t3 := t2.trans s3
    have k6 := RL.hcR (R := RPd m) r6 t3.hc fun _ _ q => q.keep (.hs t3) m
    obtain ⟨ad', cs3, g3, g4, p2⟩ := RL.at (P := Tryd.prog) k6 Tryd.underlying29 uM (i := 1) (x := y) rfl
    have g3' : wE Tryd.prog 29 (.slice a6 2 c6) 1 = some (.pointer (some ad')) := g3
    refine qT ?_; repeat' (first | (with_reducible first | apply qJ | apply qB) | ((first | (with_reducible apply qS) | (with_reducible first | apply qA | apply qP | apply qD | apply qE | apply qK) | ((with_reducible first | apply qQ | apply qH | apply qI) <;> intro hb <;> (try simp only [hb]) <;> (try simp only [zB] at hb))) <;> try simp only [qY, qF, qM, qO, qG, qC, qN, reduceIte, seval, Int.cast_ofNat_Int, qZ, zA, yJ, qL m3 dE, g3', wC uM g4]))
    refine (ih h3 r3 p2 (by simp only [List.length_append]; omega)).mono ?_
    rintro _ h4 ⟨s4, a4', c4', rfl, r4⟩
    have e : l ++ xQ (⟨3, si, dp, nw, id, ky, pf, lf, rt, [x, y]⟩ : Pn (Pd m)) ++ vC m x ++ vC m y = w := by rw [← hw, if_pos rfl]; simp only [List.append_assoc]
    rw [e] at r4 ⊢
    refine qT ?_; repeat' (first | (with_reducible first | apply qJ | apply qB) | ((first | (with_reducible apply qS) | (with_reducible first | apply qA | apply qP | apply qD | apply qE | apply qK) | ((with_reducible first | apply qQ | apply qH | apply qI) <;> intro hb <;> (try simp only [hb]) <;> (try simp only [zB] at hb))) <;> try simp only [qY, qF, qM, qO, qG, qC, qN, reduceIte, seval, Int.cast_ofNat_Int, qZ, zA, yJ]))
    exact ⟨t3.trans s4, a4', c4', rfl, r4⟩
theorem vN : type_of% (And.intro zX (And.intro jM (And.intro jL (And.intro wJ (And.intro wS rs23))))) := And.intro zX (And.intro jM (And.intro jL (And.intro wJ (And.intro wS rs23))))
def xF : Nat → List (Nat × List Nat) × List Nat
  | 5 => ([(0, []), (1, []), (2, []), (3, []), (4, []), (6, []), (7, []), (8, []), (9, []), (5, [7, 9]), (10, []), (11, [])], [0, 0, 2, 6, 14, 31, 0, 64, 192, 448, 1023, 2047])
  | _ => ([], [])
theorem sU (N : Nat) : ∀ (m : Nat) (h : GH) {b : Option Addr} {n c : Nat} {l : List UInt8} (r : RB h (.slice b n c) l) {cs : List Value} {p : Pd m} (q : RPd m h cs p) (hl : l.length + 10 * p.bulk m ≤ 400000000), GTri Tryd.prog N 23 [.slice b n c, .agg cs.toArray] h fun v h' => HS h h' ∧ ∃ a c, v = .slice a (l ++ vC m p).length c ∧ RB h' (.slice a (l ++ vC m p).length c) (l ++ vC m p)
  | 0, h, b, n, c, l, r, cs, p, q, hl => q.elim
  | m + 1, h, b, n, c, l, r, cs, p, q, hl => by
    have ih := sU N m
    obtain rfl := r.len_eq
    have q0 : RPn (RPd m) h cs p := q
    have hb : Pd.bulk (m + 1) p = Pn.bulk (Pd.bulk m) p := rfl
    have hz := Pn.sizes (Pd.bulk m) p
    have hw0 := uH (Pd.bulk m) p
    have hbb : Pn.bulk (Pd.bulk m) p = p.id.length + p.ky.length + p.pf.length + p.lf.length + p.rt.length + (p.kids.map (Pd.bulk m)).sum + 10 := rfl
    have hsp : vC (m + 1) p = if p.kd = 3 then (match p.kids with | [x, y] => xQ p ++ vC m x ++ vC m y | _ => qU 3) else xQ p := rfl
    obtain ⟨a1, c1, a2, c2, a3, c3, a4, c4, a5, c5, a6, c6, rfl, _, _, _, _, _, r6⟩ := q
    generalize hw : l ++ vC (m + 1) p = w
    rw [hsp] at hw
    rw [hb] at hl
    generalize hP : (p : Pn (Pd m)) = P0 at *
    clear hP hb hsp
    obtain ⟨kd, si, dp, nw, id, ky, pf, lf, rt, kids⟩ := P0
    simp only at r6 hz hw hbb
    have wl := uH (Pd.bulk m) ⟨kd, si, dp, nw, id, ky, pf, lf, rt, kids⟩
    refine xW Tryd.func23 rfl gf23 ok23 (by simp [Tryd.ntmps23]) ?_
    repeat' (first | (with_reducible first | apply qJ | apply qB) | ((first | (with_reducible first | apply qA | apply qP | apply qD | apply qE | apply qK) | ((with_reducible first | apply qQ | apply qH | apply qI | apply zF | apply zG) <;> intro hb <;> (try simp only [hb]) <;> (try simp only [zB] at hb)) | with_reducible refine qR xF qX (by kernel_rfl) ?_) <;> try simp only [qY, qF, qM, qO, qG, qC, qN, reduceIte, seval, Int.cast_ofNat_Int, qZ, zA, qV, zS, zU, zV, vN, xF, Pn.cs]))
    refine vD rfl fun k1 h1 m1 s1 f1 n1 => ?_
    have q1 := RPn.keep (.hs s1) (fun _ _ q => q.keep (.hs s1) m) q0
    have gA := vA m1 uM rfl
    by_cases k3 : kd = 3
    case neg =>
      have d3 : (kd == 3) = false := by simpa using k3
      refine qT ?_; repeat' (first | (with_reducible first | apply qJ | apply qB) | ((first | (with_reducible apply qS) | (with_reducible first | apply qA | apply qP | apply qD | apply qE | apply qK) | ((with_reducible first | apply qQ | apply qH | apply qI | apply zF | apply zG) <;> intro hb <;> (try simp only [hb]) <;> (try simp only [zB] at hb)) | with_reducible refine qR xF qX (by kernel_rfl) ?_) <;> try simp only [qY, qF, qM, qO, qG, qC, qN, reduceIte, seval, Int.cast_ofNat_Int, qZ, zA, qV, zS, zU, zV, vN, xF, qL m1 xU, d3, gA]))
      refine (tM N h1 (r.hs s1) q1 (by simp only; omega)).mono ?_
      rintro _ h2 ⟨s2, a2', c2', rfl, r2⟩
      have m2 := s2 _ _ m1
      have e : l ++ xQ (⟨kd, si, dp, nw, id, ky, pf, lf, rt, kids⟩ : Pn (Pd m)) = w := by rw [← hw, if_neg k3]
      rw [e] at r2 ⊢
      refine qT ?_; repeat' (first | (with_reducible first | apply qJ | apply qB) | ((first | (with_reducible apply qS) | (with_reducible first | apply qA | apply qP | apply qD | apply qE | apply qK) | ((with_reducible first | apply qQ | apply qH | apply qI | apply zF | apply zG) <;> intro hb <;> (try simp only [hb]) <;> (try simp only [zB] at hb)) | with_reducible refine qR xF qX (by kernel_rfl) ?_) <;> try simp only [qY, qF, qM, qO, qG, qC, qN, reduceIte, seval, Int.cast_ofNat_Int, qZ, zA, qV, zS, zU, zV, vN, xF, qL m2 xU, d3]))
      exact ⟨s1.trans s2, a2', c2', rfl, r2⟩
    subst k3
    by_cases k2 : kids.length = 2
    case neg =>
      have d2 : ((kids.length : Int) != 2) = true := by simpa using (by omega : ¬ (kids.length : Int) = 2)
      refine qT ?_; repeat' (first | (with_reducible first | apply qJ | apply qB) | ((first | (with_reducible apply qS) | (with_reducible first | apply qA | apply qP | apply qD | apply qE | apply qK) | ((with_reducible first | apply qQ | apply qH | apply qI | apply zF | apply zG) <;> intro hb <;> (try simp only [hb]) <;> (try simp only [zB] at hb)) | with_reducible refine qR xF qX (by kernel_rfl) ?_) <;> try simp only [qY, qF, qM, qO, qG, qC, qN, reduceIte, seval, Int.cast_ofNat_Int, qZ, zA, qV, zS, zU, zV, vN, xF, qL m1 xU, qL m1 dE, d2]))
      refine (xA N h1 (r.hs s1) (by omega) 3).mono ?_
      rintro _ h2 ⟨s2, o2⟩
      obtain ⟨a2', c2', rfl⟩ := o2.form
      have e : l ++ qU 3 = w := by
        rw [← hw, if_pos rfl]
        rcases kids with _ | ⟨x, _ | ⟨y, _ | ⟨z, t⟩⟩⟩ <;> first | rfl | (exfalso; exact k2 rfl)
      rw [e] at o2 ⊢
      refine qT ?_; repeat' (first | (with_reducible first | apply qJ | apply qB) | ((first | (with_reducible apply qS) | (with_reducible first | apply qA | apply qP | apply qD | apply qE | apply qK) | ((with_reducible first | apply qQ | apply qH | apply qI | apply zF | apply zG) <;> intro hb <;> (try simp only [hb]) <;> (try simp only [zB] at hb)) | with_reducible refine qR xF qX (by kernel_rfl) ?_) <;> try simp only [qY, qF, qM, qO, qG, qC, qN, reduceIte, seval, Int.cast_ofNat_Int, qZ, zA, qV, zS, zU, zV, vN, xF]))
      exact ⟨s1.trans s2, a2', c2', rfl, o2.rb⟩
    obtain ⟨x, y, rfl⟩ : ∃ x y, kids = [x, y] := by
      rcases kids with _ | ⟨x, _ | ⟨y, _ | ⟨z, t⟩⟩⟩
      · cases k2
      · cases k2
      · exact ⟨x, y, rfl⟩
      · simp at k2
    simp only [List.map_cons, List.map_nil, List.sum_cons, List.sum_nil] at wl hbb
    have d2 : (((([x, y] : List (Pd m)).length : Nat) : Int) != 2) = false := rfl
    have lx := uG m x
    have ly := uG m y
    refine qT ?_; repeat' (first | (with_reducible first | apply qJ | apply qB) | ((first | (with_reducible apply qS) | (with_reducible first | apply qA | apply qP | apply qD | apply qE | apply qK) | ((with_reducible first | apply qQ | apply qH | apply qI | apply zF | apply zG) <;> intro hb <;> (try simp only [hb]) <;> (try simp only [zB] at hb)) | with_reducible refine qR xF qX (by kernel_rfl) ?_) <;> try simp only [qY, qF, qM, qO, qG, qC, qN, reduceIte, seval, Int.cast_ofNat_Int, qZ, zA, qV, zS, zU, zV, vN, xF, qL m1 xU, qL m1 dE, d2, gA]))
    refine (tM N h1 (r.hs s1) q1 (by simp only; omega)).mono ?_
    rintro _ h2 ⟨s2, a2', c2', rfl, r2⟩
    have m2 := s2 _ _ m1
    have t2 := s1.trans s2
    have k6 := RL.hcR (R := RPd m) r6 t2.hc fun _ _ q => q.keep (.hs t2) m
    obtain ⟨ad, cs2, g1, g2, p1⟩ := RL.at (P := Tryd.prog) k6 Tryd.underlying29 uM (i := 0) (x := x) rfl
    have g1' : wE Tryd.prog 29 (.slice a6 2 c6) 0 = some (.pointer (some ad)) := g1
    obtain ⟨ad', cs3, g3, g4, p2⟩ := RL.at (P := Tryd.prog) k6 Tryd.underlying29 uM (i := 1) (x := y) rfl
    have g3' : wE Tryd.prog 29 (.slice a6 2 c6) 1 = some (.pointer (some ad')) := g3
    refine qT ?_; repeat' (first | (with_reducible first | apply qJ | apply qB) | ((first | (with_reducible apply qS) | (with_reducible first | apply qA | apply qP | apply qD | apply qE | apply qK) | ((with_reducible first | apply qQ | apply qH | apply qI | apply zF | apply zG) <;> intro hb <;> (try simp only [hb]) <;> (try simp only [zB] at hb)) | with_reducible refine qR xF qX (by kernel_rfl) ?_) <;> try simp only [qY, qF, qM, qO, qG, qC, qN, reduceIte, seval, Int.cast_ofNat_Int, qZ, zA, qV, zS, zU, zV, vN, xF, qL m2 xU, qL m2 dE, g1', g3', wC uM g2, wC uM g4]))
    refine (ih h2 r2 p1 (by simp only [List.length_append]; omega)).mono ?_
    rintro _ h3 ⟨s3, a3', c3', rfl, r3⟩
    have m3 := s3 _ _ m2
    have t3 := t2.trans s3
    have g5 := kW s3.hc g4
    refine qT ?_; repeat' (first | (with_reducible first | apply qJ | apply qB) | ((first | (with_reducible apply qS) | (with_reducible first | apply qA | apply qP | apply qD | apply qE | apply qK) | ((with_reducible first | apply qQ | apply qH | apply qI | apply zF | apply zG) <;> intro hb <;> (try simp only [hb]) <;> (try simp only [zB] at hb)) | with_reducible refine qR xF qX (by kernel_rfl) ?_) <;> try simp only [qY, qF, qM, qO, qG, qC, qN, reduceIte, seval, Int.cast_ofNat_Int, qZ, zA, qV, zS, zU, zV, vN, xF, qL m2 dE, qL m3 dE, g3', wC uM g4, wC uM g5]))
    refine (ih h3 r3 (p2.keep (.hs s3) m) (by simp only [List.length_append]; omega)).mono ?_
    rintro _ h4 ⟨s4, a4', c4', rfl, r4⟩
    have e : l ++ xQ (⟨3, si, dp, nw, id, ky, pf, lf, rt, [x, y]⟩ : Pn (Pd m)) ++ vC m x ++ vC m y = w := by rw [← hw, if_pos rfl]; simp only [List.append_assoc]
    rw [e] at r4 ⊢
    refine qT ?_; repeat' (first | (with_reducible first | apply qJ | apply qB) | ((first | (with_reducible apply qS) | (with_reducible first | apply qA | apply qP | apply qD | apply qE | apply qK) | ((with_reducible first | apply qQ | apply qH | apply qI | apply zF | apply zG) <;> intro hb <;> (try simp only [hb]) <;> (try simp only [zB] at hb)) | with_reducible refine qR xF qX (by kernel_rfl) ?_) <;> try simp only [qY, qF, qM, qO, qG, qC, qN, reduceIte, seval, Int.cast_ofNat_Int, qZ, zA, qV, zS, zU, zV, vN, xF]))
    exact ⟨t3.trans s4, a4', c4', rfl, r4⟩
theorem uI : type_of% (And.intro zX (And.intro uW (And.intro uV (And.intro uD (And.intro uX (And.intro wJ (And.intro gO (And.intro wS rs32)))))))) := And.intro zX (And.intro uW (And.intro uV (And.intro uD (And.intro uX (And.intro wJ (And.intro gO (And.intro wS rs32)))))))
def wF : Nat → List (Nat × List Nat) × List Nat
  | 3 => ([(0, []), (1, []), (2, []), (4, []), (5, []), (3, [5]), (6, []), (7, [])], [0, 0, 2, 7, 0, 16, 63, 127])
  | _ => ([], [])
theorem xO : type_of% (And.intro zX (And.intro uW (And.intro uV (And.intro uD (And.intro qG0 (And.intro uX (And.intro wJ (And.intro gO (And.intro wS rs34))))))))) := And.intro zX (And.intro uW (And.intro uV (And.intro uD (And.intro qG0 (And.intro uX (And.intro wJ (And.intro gO (And.intro wS rs34))))))))
def zN : Nat → List (Nat × List Nat) × List Nat
  | 5 => ([(0, []), (1, []), (2, []), (4, []), (5, []), (3, [5]), (6, []), (7, [])], [0, 0, 2, 7, 0, 16, 63, 127])
  | 6 => ([(0, []), (1, []), (2, []), (4, []), (5, []), (3, [5]), (6, []), (7, [])], [0, 0, 2, 7, 0, 16, 63, 127])
  | 10 => ([(0, []), (1, []), (2, []), (4, []), (5, []), (3, [5]), (6, []), (7, [])], [0, 0, 2, 7, 0, 16, 63, 127])
  | _ => ([], [])
theorem r_one (N : Nat) (h : GH) {q : An} {v : Value} (ra : RA h q v) {b : Option Addr} {n c : Nat} {l : List UInt8} (r : RB h (.slice b n c) l) (hl : l.length + q.ky.length ≤ 100000000) : GTri Tryd.prog N 32 [.slice b n c, v] h fun v h' => HS h h' ∧ ∃ a c, v = .slice a (l ++ kP q).length c ∧ RB h' (.slice a (l ++ kP q).length c) (l ++ kP q) := by
  obtain ⟨a, c1, b1, d, b', d', rfl, r1, r2, r3⟩ := ra
  generalize hw : l ++ kP q = w
  obtain ⟨cd, ep, si, pr, sm, mo, ky, its, evs⟩ := q
  simp only at r1 r2 r3 hl
  have g1 := qW ky.length
  refine xW Tryd.func32 rfl gf32 ok32 (by simp [Tryd.ntmps32]) ?_
  repeat' (first | (with_reducible first | apply qJ | apply qB) | ((first | (with_reducible first | apply qA | apply qP | apply qD | apply qE | apply qK) | ((with_reducible first | apply qQ | apply qH | apply qI | apply zF | apply zG) <;> intro hb <;> (try simp only [hb]) <;> (try simp only [zB] at hb)) | with_reducible refine qR wF qX (by kernel_rfl) ?_) <;> try simp only [qY, qF, qM, qO, qG, qC, qN, reduceIte, seval, Int.cast_ofNat_Int, qZ, zA, qV, zS, zU, zV, uI, wF, An.cs]))
  refine vD rfl fun k1 h1 m1 s1 f1 n1 => ?_
  refine qT ?_; repeat' (first | (with_reducible first | apply qJ | apply qB) | ((first | (with_reducible apply qS) | (with_reducible first | apply qA | apply qP | apply qD | apply qE | apply qK) | ((with_reducible first | apply qQ | apply qH | apply qI | apply zF | apply zG) <;> intro hb <;> (try simp only [hb]) <;> (try simp only [zB] at hb)) | with_reducible refine qR wF qX (by kernel_rfl) ?_) <;> try simp only [qY, qF, qM, qO, qG, qC, qN, reduceIte, seval, Int.cast_ofNat_Int, qZ, zA, qV, zS, zU, zV, uI, wF, qL m1 sG]))
  refine (rM N h1 (r.hs s1) (by omega) pr).mono ?_
  rintro _ h2 ⟨s2, o2⟩
  obtain ⟨a2, c2, rfl⟩ := o2.form
  have m2 := s2 _ _ m1
  cases pr
  · refine qT ?_; repeat' (first | (with_reducible first | apply qJ | apply qB) | ((first | (with_reducible apply qS) | (with_reducible first | apply qA | apply qP | apply qD | apply qE | apply qK) | ((with_reducible first | apply qQ | apply qH | apply qI | apply zF | apply zG) <;> intro hb <;> (try simp only [hb]) <;> (try simp only [zB] at hb)) | with_reducible refine qR wF qX (by kernel_rfl) ?_) <;> try simp only [qY, qF, qM, qO, qG, qC, qN, reduceIte, seval, Int.cast_ofNat_Int, qZ, zA, qV, zS, zU, zV, uI, wF, qL m2 sG]))
    have e : l ++ [jC false] = w := by rw [← hw]; rfl
    rw [e] at o2 ⊢
    exact ⟨s1.trans s2, a2, c2, rfl, o2.rb⟩
  refine qT ?_; repeat' (first | (with_reducible first | apply qJ | apply qB) | ((first | (with_reducible apply qS) | (with_reducible first | apply qA | apply qP | apply qD | apply qE | apply qK) | ((with_reducible first | apply qQ | apply qH | apply qI | apply zF | apply zG) <;> intro hb <;> (try simp only [hb]) <;> (try simp only [zB] at hb)) | with_reducible refine qR wF qX (by kernel_rfl) ?_) <;> try simp only [qY, qF, qM, qO, qG, qC, qN, reduceIte, seval, Int.cast_ofNat_Int, qZ, zA, qV, zS, zU, zV, uI, wF, qL m2 sG, qL m2 zI, qL m2 xU]))
  refine (wA N h2 o2.rb (r1.hs (s1.trans s2)) (by simp only [List.length_append, List.length_singleton]; omega)).mono ?_
  rintro _ h3 ⟨s3, o3⟩
  obtain ⟨a3, c3, rfl⟩ := o3.form
  have m3 := s3 _ _ m2
  refine qT ?_; repeat' (first | (with_reducible first | apply qJ | apply qB) | ((first | (with_reducible apply qS) | (with_reducible first | apply qA | apply qP | apply qD | apply qE | apply qK) | ((with_reducible first | apply qQ | apply qH | apply qI | apply zF | apply zG) <;> intro hb <;> (try simp only [hb]) <;> (try simp only [zB] at hb)) | with_reducible refine qR wF qX (by kernel_rfl) ?_) <;> try simp only [qY, qF, qM, qO, qG, qC, qN, reduceIte, seval, Int.cast_ofNat_Int, qZ, zA, qV, zS, zU, zV, uI, wF, qL m2 sG, qL m3 xU, qL m3 zI]))
  refine (xA N h3 o3.rb (by simp only [List.length_append, List.length_singleton]; omega) si).mono ?_
  rintro _ h4 ⟨s4, o4⟩
  obtain ⟨a4, c4, rfl⟩ := o4.form
  have m4 := s4 _ _ m3
  refine qT ?_; repeat' (first | (with_reducible first | apply qJ | apply qB) | ((first | (with_reducible apply qS) | (with_reducible first | apply qA | apply qP | apply qD | apply qE | apply qK) | ((with_reducible first | apply qQ | apply qH | apply qI | apply zF | apply zG) <;> intro hb <;> (try simp only [hb]) <;> (try simp only [zB] at hb)) | with_reducible refine qR wF qX (by kernel_rfl) ?_) <;> try simp only [qY, qF, qM, qO, qG, qC, qN, reduceIte, seval, Int.cast_ofNat_Int, qZ, zA, qV, zS, zU, zV, uI, wF, qL m3 xU, qL m4 xU]))
  have e : l ++ [jC true] ++ qU ky.length ++ ky ++ qU si = w := by rw [← hw]; simp [kP]
  rw [e] at o4 ⊢
  exact ⟨((s1.trans s2).trans s3).trans s4, a4, c4, rfl, o4.rb⟩
theorem r_feed (N : Nat) (h : GH) {q : An} {v : Value} (ra : RA h q v) {b : Option Addr} {n c : Nat} {l : List UInt8} (r : RB h (.slice b n c) l) (hl : l.length + q.bulk * 10 ≤ 100000000) : GTri Tryd.prog N 34 [.slice b n c, v] h fun v h' => HS h h' ∧ ∃ a c, v = .slice a (l ++ dD q).length c ∧ RB h' (.slice a (l ++ dD q).length c) (l ++ dD q) := by
  obtain ⟨a, c1, b1, d, b', d', rfl, r1, r2, r3⟩ := ra
  generalize hw : l ++ dD q = w
  obtain ⟨cd, ep, si, pr, sm, mo, ky, its, evs⟩ := q
  simp only [An.bulk] at r1 r2 r3 hl
  have il := gK evs
  have g1 := qW evs.length
  have g2 := qW ep
  refine xW Tryd.func34 rfl gf34 ok34 (by simp [Tryd.ntmps34]) ?_
  repeat' (first | (with_reducible first | apply qJ | apply qB) | ((first | (with_reducible first | apply qA | apply qP | apply qD | apply qE | apply qK) | ((with_reducible first | apply qQ | apply qH | apply qI | apply zF | apply zG) <;> intro hb <;> (try simp only [hb]) <;> (try simp only [zB] at hb)) | with_reducible refine qR zN qX (by kernel_rfl) ?_) <;> try simp only [qY, qF, qM, qO, qG, qC, qN, reduceIte, seval, Int.cast_ofNat_Int, qZ, zA, qV, zS, zU, zV, xO, zN, An.cs]))
  refine vD rfl fun k1 h1 m1 s1 f1 n1 => ?_
  refine qT ?_; repeat' (first | (with_reducible first | apply qJ | apply qB) | ((first | (with_reducible apply qS) | (with_reducible first | apply qA | apply qP | apply qD | apply qE | apply qK) | ((with_reducible first | apply qQ | apply qH | apply qI | apply zF | apply zG) <;> intro hb <;> (try simp only [hb]) <;> (try simp only [zB] at hb)) | with_reducible refine qR zN qX (by kernel_rfl) ?_) <;> try simp only [qY, qF, qM, qO, qG, qC, qN, reduceIte, seval, Int.cast_ofNat_Int, qZ, zA, qV, zS, zU, zV, xO, zN, qL m1 qG6]))
  refine (xA N h1 (r.hs s1) (by omega) evs.length).mono ?_
  rintro _ h2 ⟨s2, o2⟩
  obtain ⟨a2, c2, rfl⟩ := o2.form
  have m2 := s2 _ _ m1
  have hs2 := s1.trans s2
  have q2 := r3.hs hs2
  refine qT ?_; repeat' (first | (with_reducible first | apply qJ | apply qB) | ((first | (with_reducible apply qS) | (with_reducible first | apply qA | apply qP | apply qD | apply qE | apply qK) | ((with_reducible first | apply qQ | apply qH | apply qI | apply zF | apply zG) <;> intro hb <;> (try simp only [hb]) <;> (try simp only [zB] at hb)) | with_reducible refine qR zN qX (by kernel_rfl) ?_) <;> try simp only [qY, qF, qM, qO, qG, qC, qN, reduceIte, seval, Int.cast_ofNat_Int, qZ, zA, qV, zS, zU, zV, xO, zN, qL m2 qG6]))
  refine zZ [3, 4, 13, 14] (fun (x : Nat × Value) => [(0, x.2), (15, .int .i64 (x.1 : Int))])
    (fun q x h' => evs.length - x.1 = q ∧ x.1 ≤ evs.length ∧ HS h2 h' ∧ ∃ a c, x.2 = .slice a (l ++ qU evs.length ++ (evs.take x.1).flatMap vQ).length c ∧ RB h' x.2 (l ++ qU evs.length ++ (evs.take x.1).flatMap vQ)) evs.length (0, _) (by simp [lk]; rfl) ⟨rfl, by omega, HS.refl _, a2, c2, by simp, by simpa using o2.rb⟩ ?_
  rintro _ ⟨j, u⟩ h3 ⟨rfl, hj, s3, a3, c3, hu, o3⟩
  simp only at hj s3 o3 hu
  subst hu
  have m3 := s3 _ _ m2
  have q3 := q2.hs s3
  have fl := vP vQ evs j
  by_cases hil : j < evs.length
  case neg =>
    have d3 : decide ((j : Int) < (evs.length : Int)) = false := decide_eq_false (by omega)
    obtain rfl : j = evs.length := by omega
    rw [List.take_length] at o3 fl ⊢
    refine qT ?_; repeat' (first | (with_reducible first | apply qJ | apply qB) | ((first | (with_reducible apply qS) | (with_reducible first | apply qA | apply qP | apply qD | apply qE | apply qK) | ((with_reducible first | apply qQ | apply qH | apply qI | apply zF | apply zG) <;> intro hb <;> (try simp only [hb]) <;> (try simp only [zB] at hb)) | with_reducible refine qR zN qX (by kernel_rfl) ?_) <;> try simp only [qY, qF, qM, qO, qG, qC, qN, reduceIte, seval, Int.cast_ofNat_Int, qZ, zA, qV, zS, zU, zV, xO, zN, d3, qL m3 sG]))
    refine (rM N h3 o3 (by simp only [List.length_append]; omega) mo).mono ?_
    rintro _ h4 ⟨s4, o4⟩
    obtain ⟨a4, c4, rfl⟩ := o4.form
    have m4 := s4 _ _ m3
    have hs4 := (hs2.trans s3).trans s4
    cases mo
    · refine qT ?_; repeat' (first | (with_reducible first | apply qJ | apply qB) | ((first | (with_reducible apply qS) | (with_reducible first | apply qA | apply qP | apply qD | apply qE | apply qK) | ((with_reducible first | apply qQ | apply qH | apply qI | apply zF | apply zG) <;> intro hb <;> (try simp only [hb]) <;> (try simp only [zB] at hb)) | with_reducible refine qR zN qX (by kernel_rfl) ?_) <;> try simp only [qY, qF, qM, qO, qG, qC, qN, reduceIte, seval, Int.cast_ofNat_Int, qZ, zA, qV, zS, zU, zV, xO, zN, qL m4 sG]))
      have e : l ++ qU evs.length ++ evs.flatMap vQ ++ [jC false] = w := by rw [← hw]; simp [dD]
      rw [e] at o4 ⊢
      exact ⟨hs4, a4, c4, rfl, o4.rb⟩
    refine qT ?_; repeat' (first | (with_reducible first | apply qJ | apply qB) | ((first | (with_reducible apply qS) | (with_reducible first | apply qA | apply qP | apply qD | apply qE | apply qK) | ((with_reducible first | apply qQ | apply qH | apply qI | apply zF | apply zG) <;> intro hb <;> (try simp only [hb]) <;> (try simp only [zB] at hb)) | with_reducible refine qR zN qX (by kernel_rfl) ?_) <;> try simp only [qY, qF, qM, qO, qG, qC, qN, reduceIte, seval, Int.cast_ofNat_Int, qZ, zA, qV, zS, zU, zV, xO, zN, qL m4 sG, qL m4 xU]))
    refine (xA N h4 o4.rb (by simp only [List.length_append, List.length_singleton]; omega) ep).mono ?_
    rintro _ h5 ⟨s5, o5⟩
    obtain ⟨a5, c5, rfl⟩ := o5.form
    have m5 := s5 _ _ m4
    refine qT ?_; repeat' (first | (with_reducible first | apply qJ | apply qB) | ((first | (with_reducible apply qS) | (with_reducible first | apply qA | apply qP | apply qD | apply qE | apply qK) | ((with_reducible first | apply qQ | apply qH | apply qI | apply zF | apply zG) <;> intro hb <;> (try simp only [hb]) <;> (try simp only [zB] at hb)) | with_reducible refine qR zN qX (by kernel_rfl) ?_) <;> try simp only [qY, qF, qM, qO, qG, qC, qN, reduceIte, seval, Int.cast_ofNat_Int, qZ, zA, qV, zS, zU, zV, xO, zN, qL m4 xU, qL m5 xU]))
    refine (xA N h5 o5.rb (by simp only [List.length_append, List.length_singleton]; omega) si).mono ?_
    rintro _ h6 ⟨s6, o6⟩
    obtain ⟨a6, c6, rfl⟩ := o6.form
    have m6 := s6 _ _ m5
    refine qT ?_; repeat' (first | (with_reducible first | apply qJ | apply qB) | ((first | (with_reducible apply qS) | (with_reducible first | apply qA | apply qP | apply qD | apply qE | apply qK) | ((with_reducible first | apply qQ | apply qH | apply qI | apply zF | apply zG) <;> intro hb <;> (try simp only [hb]) <;> (try simp only [zB] at hb)) | with_reducible refine qR zN qX (by kernel_rfl) ?_) <;> try simp only [qY, qF, qM, qO, qG, qC, qN, reduceIte, seval, Int.cast_ofNat_Int, qZ, zA, qV, zS, zU, zV, xO, zN, qL m5 xU, qL m6 xU]))
    have e : l ++ qU evs.length ++ evs.flatMap vQ ++ [jC true] ++ qU ep ++ qU si = w := by rw [← hw]; simp [dD]
    rw [e] at o6 ⊢
    exact ⟨(hs4.trans s5).trans s6, a6, c6, rfl, o6.rb⟩
  have d3 : decide ((j : Int) < (evs.length : Int)) = true := decide_eq_true (by omega)
  have wi : IntKind.i64.wrap ((j : Int) + 1) = ((j + 1 : Nat) : Int) := by rw [wrap64 (by omega) (by omega)]; omega
  obtain ⟨x, hx⟩ : ∃ x, evs[j]? = some x := ⟨_, List.getElem?_eq_getElem hil⟩
  obtain ⟨ad, cs2, e1, e2, a', n', c', b', m', d', rfl, p1, p2⟩ := RL.at (P := Tryd.prog) q3 Tryd.underlying25 qA4 hx
  obtain rfl := p1.len_eq
  obtain rfl := p2.len_eq
  have ft := xN vQ evs hx
  have fl1 := vP vQ evs (j + 1)
  rw [ft, List.length_append] at fl1
  have b1 : (vQ x).length = (qU x.1).length + (qU x.2.1).length + ((qU x.2.2.1.length).length + x.2.2.1.length) + ((qU x.2.2.2.length).length + x.2.2.2.length) := by simp [vQ]; omega
  refine qT ?_; repeat' (first | (with_reducible first | apply qJ | apply qB) | ((first | (with_reducible apply qS) | (with_reducible first | apply qA | apply qP | apply qD | apply qE | apply qK) | ((with_reducible first | apply qQ | apply qH | apply qI | apply zF | apply zG) <;> intro hb <;> (try simp only [hb]) <;> (try simp only [zB] at hb)) | with_reducible refine qR zN qX (by kernel_rfl) ?_) <;> try simp only [qY, qF, qM, qO, qG, qC, qN, reduceIte, seval, Int.cast_ofNat_Int, qZ, zA, qV, zS, zU, zV, xO, zN, d3, e1, wC qA4 e2]))
  refine jN fun k4 h4 m4 s4 f4 n4 => ?_
  refine qT ?_; repeat' (first | (with_reducible first | apply qJ | apply qB) | ((first | (with_reducible apply qS) | (with_reducible first | apply qA | apply qP | apply qD | apply qE | apply qK) | ((with_reducible first | apply qQ | apply qH | apply qI | apply zF | apply zG) <;> intro hb <;> (try simp only [hb]) <;> (try simp only [zB] at hb)) | with_reducible refine qR zN qX (by kernel_rfl) ?_) <;> try simp only [qY, qF, qM, qO, qG, qC, qN, reduceIte, seval, Int.cast_ofNat_Int, qZ, zA, qV, zS, zU, zV, xO, zN]))
  refine uA m4 qA4 rfl (by decide) rfl rfl rfl fun h5 m5 f5 => ?_
  have s5 : HS h3 h5 := (HS.refl _).upd n4 fun j hj => (f5 j hj).trans (f4 j hj)
  refine qT ?_; repeat' (first | (with_reducible first | apply qJ | apply qB) | ((first | (with_reducible apply qS) | (with_reducible first | apply qA | apply qP | apply qD | apply qE | apply qK) | ((with_reducible first | apply qQ | apply qH | apply qI | apply zF | apply zG) <;> intro hb <;> (try simp only [hb]) <;> (try simp only [zB] at hb)) | with_reducible refine qR zN qX (by kernel_rfl) ?_) <;> try simp only [qY, qF, qM, qO, qG, qC, qN, reduceIte, seval, Int.cast_ofNat_Int, qZ, zA, qV, zS, zU, zV, xO, zN, qL m5 xU]))
  refine (xA N h5 (o3.hs s5) (by simp only [List.length_append]; omega) x.1).mono ?_
  rintro _ h6 ⟨s6, o6⟩
  obtain ⟨a6, c6, rfl⟩ := o6.form
  have m6 := s6 _ _ m5
  refine qT ?_; repeat' (first | (with_reducible first | apply qJ | apply qB) | ((first | (with_reducible apply qS) | (with_reducible first | apply qA | apply qP | apply qD | apply qE | apply qK) | ((with_reducible first | apply qQ | apply qH | apply qI | apply zF | apply zG) <;> intro hb <;> (try simp only [hb]) <;> (try simp only [zB] at hb)) | with_reducible refine qR zN qX (by kernel_rfl) ?_) <;> try simp only [qY, qF, qM, qO, qG, qC, qN, reduceIte, seval, Int.cast_ofNat_Int, qZ, zA, qV, zS, zU, zV, xO, zN, qL m5 xU, qL m6 xU]))
  refine (xA N h6 o6.rb (by simp only [List.length_append]; omega) x.2.1).mono ?_
  rintro _ h7 ⟨s7, o7⟩
  obtain ⟨a7, c7, rfl⟩ := o7.form
  have m7 := s7 _ _ m6
  refine qT ?_; repeat' (first | (with_reducible first | apply qJ | apply qB) | ((first | (with_reducible apply qS) | (with_reducible first | apply qA | apply qP | apply qD | apply qE | apply qK) | ((with_reducible first | apply qQ | apply qH | apply qI | apply zF | apply zG) <;> intro hb <;> (try simp only [hb]) <;> (try simp only [zB] at hb)) | with_reducible refine qR zN qX (by kernel_rfl) ?_) <;> try simp only [qY, qF, qM, qO, qG, qC, qN, reduceIte, seval, Int.cast_ofNat_Int, qZ, zA, qV, zS, zU, zV, xO, zN, qL m6 xU, qL m7 xU, qL m7 zI]))
  refine (wA N h7 o7.rb (((p1.hs s5).hs s6).hs s7) (by simp only [List.length_append]; omega)).mono ?_
  rintro _ h8 ⟨s8, o8⟩
  obtain ⟨a8, c8, rfl⟩ := o8.form
  have m8 := s8 _ _ m7
  refine qT ?_; repeat' (first | (with_reducible first | apply qJ | apply qB) | ((first | (with_reducible apply qS) | (with_reducible first | apply qA | apply qP | apply qD | apply qE | apply qK) | ((with_reducible first | apply qQ | apply qH | apply qI | apply zF | apply zG) <;> intro hb <;> (try simp only [hb]) <;> (try simp only [zB] at hb)) | with_reducible refine qR zN qX (by kernel_rfl) ?_) <;> try simp only [qY, qF, qM, qO, qG, qC, qN, reduceIte, seval, Int.cast_ofNat_Int, qZ, zA, qV, zS, zU, zV, xO, zN, qL m7 zI, qL m8 zI]))
  refine (wA N h8 o8.rb ((((p2.hs s5).hs s6).hs s7).hs s8) (by simp only [List.length_append]; omega)).mono ?_
  rintro v9 h9 ⟨s9, o9⟩
  obtain ⟨a9, c9, hv9⟩ := o9.form
  have m9 := s9 _ _ m8
  refine qT ?_; repeat' (first | (with_reducible first | apply qJ | apply qB) | ((first | (with_reducible apply qS) | (with_reducible first | apply qA | apply qP | apply qD | apply qE | apply qK) | ((with_reducible first | apply qQ | apply qH | apply qI | apply zF | apply zG) <;> intro hb <;> (try simp only [hb]) <;> (try simp only [zB] at hb)) | with_reducible refine qR zN qX (by kernel_rfl) ?_) <;> try simp only [qY, qF, qM, qO, qG, qC, qN, reduceIte, seval, Int.cast_ofNat_Int, qZ, zA, qV, zS, zU, zV, xO, zN, wi, qL m8 zI, qL m9 zI]))
  have e : l ++ qU evs.length ++ (evs.take (j + 1)).flatMap vQ = l ++ qU evs.length ++ (evs.take j).flatMap vQ ++ qU x.1 ++ qU x.2.1 ++ qU x.2.2.1.length ++ x.2.2.1 ++ qU x.2.2.2.length ++ x.2.2.2 := by
    rw [ft, vQ]; simp only [List.append_assoc]
  refine ⟨_, (j + 1, v9), ?_, (by simp only [List.forall_mem_cons, List.not_mem_nil, false_implies, implies_true, List.map, List.cons_append, List.nil_append, lk, Nat.reduceEqDiff, reduceIte, and_true, true_and]), rfl, by omega, ((((s3.trans s5).trans s6).trans s7).trans s8).trans s9, a9, c9, by rw [hv9, e], by rw [e]; exact o9.rb⟩
  omega
theorem zR : type_of% (And.intro zX (And.intro uW (And.intro uV (And.intro uD (And.intro qG1 (And.intro uX (And.intro wJ (And.intro gO (And.intro wS rs19))))))))) := And.intro zX (And.intro uW (And.intro uV (And.intro uD (And.intro qG1 (And.intro uX (And.intro wJ (And.intro gO (And.intro wS rs19))))))))
def zE : Nat → List (Nat × List Nat) × List Nat
  | 10 => ([(0, []), (1, []), (2, []), (4, []), (3, [4]), (5, []), (6, [])], [0, 0, 2, 7, 0, 31, 63])
  | 12 => ([(0, []), (1, []), (2, []), (4, []), (3, [4]), (5, []), (6, [])], [0, 0, 2, 7, 0, 31, 63])
  | 19 => ([(0, []), (1, []), (2, []), (4, []), (5, []), (7, []), (8, []), (3, [5, 8]), (6, [8]), (9, []), (10, [])], [0, 0, 2, 7, 0, 16, 63, 0, 128, 511, 1023])
  | _ => ([], [])
theorem qI6 (N : Nat) (h : GH) {q : An} {v : Value} (ra : RA h q v) (kind : Int) {b : Option Addr} {n c : Nat} {l : List UInt8} (r : RB h (.slice b n c) l) (hl : l.length + q.bulk * 10 ≤ 50000000) : GTri Tryd.prog N 19 [.slice b n c, .int .i64 kind, v] h fun v h' => HS h h' ∧ ∃ a c, v = .slice a (l ++ vR kind q).length c ∧ RB h' (.slice a (l ++ vR kind q).length c) (l ++ vR kind q) := by
  obtain rfl := r.len_eq
  have ra0 := ra
  obtain ⟨a, c1, b1, d, b', d', rfl, r1, r2, r3⟩ := ra
  have two : kind = 1 ∨ kind = 3 ∨ kind = 4 ∨ kind = 5 ∨ (kind = 6 ∨ kind = 10) ∨ kind = 7 ∨ (kind ≠ 1 ∧ kind ≠ 3 ∧ kind ≠ 4 ∧ kind ≠ 5 ∧ kind ≠ 6 ∧ kind ≠ 10 ∧ kind ≠ 7) := by omega
  generalize hW : l ++ vR kind q = W
  have hky : q.ky.length ≤ q.bulk := by unfold An.bulk; omega
  have g1 := qW q.cd
  have g2 := qW q.ep
  refine xW Tryd.func19 rfl gf19 ok19 (by simp [Tryd.ntmps19]) ?_
  repeat' (first | (with_reducible first | apply qJ | apply qB) | ((first | (with_reducible first | apply qA | apply qP | apply qD | apply qE | apply qK) | ((with_reducible first | apply qQ | apply qH | apply qI | apply zF | apply zG) <;> intro hb <;> (try simp only [hb]) <;> (try simp only [zB] at hb)) | with_reducible refine qR zE qX (by kernel_rfl) ?_) <;> try simp only [qY, qF, qM, qO, qG, qC, qN, reduceIte, seval, Int.cast_ofNat_Int, qZ, zA, qV, zS, zU, zV, zR, zE]))
  refine vD rfl fun k1 h1 m1 s1 f1 n1 => ?_
  have c0 : (q.cs (.slice a q.ky.length c1) (.slice b1 q.its.length d) (.slice b' q.evs.length d'))[0]? = some (.int .i64 q.cd) := rfl
  have cc1 : (q.cs (.slice a q.ky.length c1) (.slice b1 q.its.length d) (.slice b' q.evs.length d'))[1]? = some (.int .i64 q.ep) := rfl
  have cc3 : (q.cs (.slice a q.ky.length c1) (.slice b1 q.its.length d) (.slice b' q.evs.length d'))[3]? = some (.bool q.sm) := rfl
  have cc6 : (q.cs (.slice a q.ky.length c1) (.slice b1 q.its.length d) (.slice b' q.evs.length d'))[6]? = some (.slice b1 q.its.length d) := rfl
  have cc8 : (q.cs (.slice a q.ky.length c1) (.slice b1 q.its.length d) (.slice b' q.evs.length d'))[8]? = some (.bool q.mo) := rfl
  refine qT ?_; repeat' (first | (with_reducible first | apply qJ | apply qB) | ((first | (with_reducible apply qS) | (with_reducible first | apply qA | apply qP | apply qD | apply qE | apply qK) | ((with_reducible first | apply qQ | apply qH | apply qI | apply zF | apply zG) <;> intro hb <;> (try simp only [hb]) <;> (try simp only [zB] at hb)) | with_reducible refine qR zE qX (by kernel_rfl) ?_) <;> try simp only [qY, qF, qM, qO, qG, qC, qN, reduceIte, seval, Int.cast_ofNat_Int, qZ, zA, qV, zS, zU, zV, zR, zE, qL m1 yD, c0]))
  refine (xA N h1 (r.hs s1) (by omega) q.cd).mono ?_
  rintro _ h3 ⟨s3, o3⟩
  obtain ⟨a3, c3, rfl⟩ := o3.form
  have m3 := s3 _ _ m1
  have hs3 := s1.trans s3
  have ra3 := ra0.hs hs3
  have ga3 : xS Tryd.prog 27 h3 (.pointer (some ⟨k1, 0, none⟩)) = some (.agg (q.cs (.slice a q.ky.length c1) (.slice b1 q.its.length d) (.slice b' q.evs.length d')).toArray) := vA m3 qA8 (An.cs_len _ _ _ _)
  by_cases hcd : q.cd = 0
  case neg =>
    have d3 : (q.cd != 0) = true := by simpa using hcd
    have hw : l ++ qU q.cd = W := by rw [← hW, vR, if_pos hcd]; simp
    refine qT ?_; repeat' (first | (with_reducible first | apply qJ | apply qB) | ((first | (with_reducible apply qS) | (with_reducible first | apply qA | apply qP | apply qD | apply qE | apply qK) | ((with_reducible first | apply qQ | apply qH | apply qI | apply zF | apply zG) <;> intro hb <;> (try simp only [hb]) <;> (try simp only [zB] at hb)) | with_reducible refine qR zE qX (by kernel_rfl) ?_) <;> try simp only [qY, qF, qM, qO, qG, qC, qN, reduceIte, seval, Int.cast_ofNat_Int, qZ, zA, qV, zS, zU, zV, zR, zE, qL m3 yD, c0, d3]))
    rw [hw] at o3 ⊢
    exact ⟨hs3, a3, c3, rfl, o3.rb⟩
  have d3 : (q.cd != 0) = false := by simpa using hcd
  have hw : l ++ qU q.cd ++ dW kind q = W := by rw [← hW, vR, if_neg (by simpa using hcd), List.append_assoc]
  clear hW
  rcases two with rfl | rfl | rfl | rfl | hk | rfl | ⟨e1, e3, e4, e5, e6, e10, e7⟩
  · refine qT ?_; repeat' (first | (with_reducible first | apply qJ | apply qB) | ((first | (with_reducible apply qS) | (with_reducible first | apply qA | apply qP | apply qD | apply qE | apply qK) | ((with_reducible first | apply qQ | apply qH | apply qI | apply zF | apply zG) <;> intro hb <;> (try simp only [hb]) <;> (try simp only [zB] at hb)) | with_reducible refine qR zE qX (by kernel_rfl) ?_) <;> try simp only [qY, qF, qM, qO, qG, qC, qN, reduceIte, seval, Int.cast_ofNat_Int, qZ, zA, qV, zS, zU, zV, zR, zE, qL m3 yD, c0, d3, qL m3 xU, cc1]))
    refine (xA N h3 o3.rb (by simp only [List.length_append]; omega) q.ep).mono ?_
    rintro _ h4 ⟨s4, o4⟩
    obtain ⟨a4, c4, rfl⟩ := o4.form
    have e : l ++ qU q.cd ++ qU q.ep = W := by rw [← hw]; rfl
    refine qT ?_; repeat' (first | (with_reducible first | apply qJ | apply qB) | ((first | (with_reducible apply qS) | (with_reducible first | apply qA | apply qP | apply qD | apply qE | apply qK) | ((with_reducible first | apply qQ | apply qH | apply qI | apply zF | apply zG) <;> intro hb <;> (try simp only [hb]) <;> (try simp only [zB] at hb)) | with_reducible refine qR zE qX (by kernel_rfl) ?_) <;> try simp only [qY, qF, qM, qO, qG, qC, qN, reduceIte, seval, Int.cast_ofNat_Int, qZ, zA, qV, zS, zU, zV, zR, zE]))
    rw [e] at o4 ⊢
    exact ⟨hs3.trans s4, a4, c4, rfl, o4.rb⟩
  · refine qT ?_; repeat' (first | (with_reducible first | apply qJ | apply qB) | ((first | (with_reducible apply qS) | (with_reducible first | apply qA | apply qP | apply qD | apply qE | apply qK) | ((with_reducible first | apply qQ | apply qH | apply qI | apply zF | apply zG) <;> intro hb <;> (try simp only [hb]) <;> (try simp only [zB] at hb)) | with_reducible refine qR zE qX (by kernel_rfl) ?_) <;> try simp only [qY, qF, qM, qO, qG, qC, qN, reduceIte, seval, Int.cast_ofNat_Int, qZ, zA, qV, zS, zU, zV, zR, zE, qL m3 yD, c0, d3, ga3]))
    refine (r_one N h3 ra3 o3.rb (by simp only [List.length_append]; omega)).mono ?_
    rintro _ h4 ⟨s4, a4, c4, rfl, o4⟩
    have e : l ++ qU q.cd ++ kP q = W := by rw [← hw]; rfl
    refine qT ?_; repeat' (first | (with_reducible first | apply qJ | apply qB) | ((first | (with_reducible apply qS) | (with_reducible first | apply qA | apply qP | apply qD | apply qE | apply qK) | ((with_reducible first | apply qQ | apply qH | apply qI | apply zF | apply zG) <;> intro hb <;> (try simp only [hb]) <;> (try simp only [zB] at hb)) | with_reducible refine qR zE qX (by kernel_rfl) ?_) <;> try simp only [qY, qF, qM, qO, qG, qC, qN, reduceIte, seval, Int.cast_ofNat_Int, qZ, zA, qV, zS, zU, zV, zR, zE]))
    rw [e] at o4 ⊢
    exact ⟨hs3.trans s4, a4, c4, rfl, o4⟩
  · refine qT ?_; repeat' (first | (with_reducible first | apply qJ | apply qB) | ((first | (with_reducible apply qS) | (with_reducible first | apply qA | apply qP | apply qD | apply qE | apply qK) | ((with_reducible first | apply qQ | apply qH | apply qI | apply zF | apply zG) <;> intro hb <;> (try simp only [hb]) <;> (try simp only [zB] at hb)) | with_reducible refine qR zE qX (by kernel_rfl) ?_) <;> try simp only [qY, qF, qM, qO, qG, qC, qN, reduceIte, seval, Int.cast_ofNat_Int, qZ, zA, qV, zS, zU, zV, zR, zE, qL m3 yD, c0, d3, qL m3 xU, cc1, ga3]))
    refine (xA N h3 o3.rb (by simp only [List.length_append]; omega) q.ep).mono ?_
    rintro _ h4 ⟨s4, o4⟩
    obtain ⟨a4, c4, rfl⟩ := o4.form
    have ga4 := fM s4 ga3
    have m4 := s4 _ _ m3
    refine qT ?_; repeat' (first | (with_reducible first | apply qJ | apply qB) | ((first | (with_reducible apply qS) | (with_reducible first | apply qA | apply qP | apply qD | apply qE | apply qK) | ((with_reducible first | apply qQ | apply qH | apply qI | apply zF | apply zG) <;> intro hb <;> (try simp only [hb]) <;> (try simp only [zB] at hb)) | with_reducible refine qR zE qX (by kernel_rfl) ?_) <;> try simp only [qY, qF, qM, qO, qG, qC, qN, reduceIte, seval, Int.cast_ofNat_Int, qZ, zA, qV, zS, zU, zV, zR, zE, ga4, qL m4 xU, cc1]))
    refine (r_one N h4 (ra3.hs s4) o4.rb (by simp only [List.length_append]; omega)).mono ?_
    rintro _ h5 ⟨s5, a5, c5, rfl, o5⟩
    have e : l ++ qU q.cd ++ qU q.ep ++ kP q = W := by rw [← hw, List.append_assoc]; rfl
    have ga5 := fM s5 ga4
    have m5 := s5 _ _ m4
    refine qT ?_; repeat' (first | (with_reducible first | apply qJ | apply qB) | ((first | (with_reducible apply qS) | (with_reducible first | apply qA | apply qP | apply qD | apply qE | apply qK) | ((with_reducible first | apply qQ | apply qH | apply qI | apply zF | apply zG) <;> intro hb <;> (try simp only [hb]) <;> (try simp only [zB] at hb)) | with_reducible refine qR zE qX (by kernel_rfl) ?_) <;> try simp only [qY, qF, qM, qO, qG, qC, qN, reduceIte, seval, Int.cast_ofNat_Int, qZ, zA, qV, zS, zU, zV, zR, zE, ga5, qL m5 xU, cc1]))
    rw [e] at o5 ⊢
    exact ⟨(hs3.trans s4).trans s5, a5, c5, rfl, o5⟩
  · refine qT ?_; repeat' (first | (with_reducible first | apply qJ | apply qB) | ((first | (with_reducible apply qS) | (with_reducible first | apply qA | apply qP | apply qD | apply qE | apply qK) | ((with_reducible first | apply qQ | apply qH | apply qI | apply zF | apply zG) <;> intro hb <;> (try simp only [hb]) <;> (try simp only [zB] at hb)) | with_reducible refine qR zE qX (by kernel_rfl) ?_) <;> try simp only [qY, qF, qM, qO, qG, qC, qN, reduceIte, seval, Int.cast_ofNat_Int, qZ, zA, qV, zS, zU, zV, zR, zE, qL m3 yD, c0, d3, qL m3 sG, cc3, ga3]))
    refine (rM N h3 o3.rb (by simp only [List.length_append]; omega) q.sm).mono ?_
    rintro _ h4 ⟨s4, o4⟩
    obtain ⟨a4, c4, rfl⟩ := o4.form
    have ga4 := fM s4 ga3
    have m4 := s4 _ _ m3
    refine qT ?_; repeat' (first | (with_reducible first | apply qJ | apply qB) | ((first | (with_reducible apply qS) | (with_reducible first | apply qA | apply qP | apply qD | apply qE | apply qK) | ((with_reducible first | apply qQ | apply qH | apply qI | apply zF | apply zG) <;> intro hb <;> (try simp only [hb]) <;> (try simp only [zB] at hb)) | with_reducible refine qR zE qX (by kernel_rfl) ?_) <;> try simp only [qY, qF, qM, qO, qG, qC, qN, reduceIte, seval, Int.cast_ofNat_Int, qZ, zA, qV, zS, zU, zV, zR, zE, ga4, qL m4 sG, cc3]))
    refine (r_one N h4 (ra3.hs s4) o4.rb (by simp only [List.length_append, List.length_singleton]; omega)).mono ?_
    rintro _ h5 ⟨s5, a5, c5, rfl, o5⟩
    have e : l ++ qU q.cd ++ [jC q.sm] ++ kP q = W := by rw [← hw, List.append_assoc]; rfl
    have ga5 := fM s5 ga4
    have m5 := s5 _ _ m4
    refine qT ?_; repeat' (first | (with_reducible first | apply qJ | apply qB) | ((first | (with_reducible apply qS) | (with_reducible first | apply qA | apply qP | apply qD | apply qE | apply qK) | ((with_reducible first | apply qQ | apply qH | apply qI | apply zF | apply zG) <;> intro hb <;> (try simp only [hb]) <;> (try simp only [zB] at hb)) | with_reducible refine qR zE qX (by kernel_rfl) ?_) <;> try simp only [qY, qF, qM, qO, qG, qC, qN, reduceIte, seval, Int.cast_ofNat_Int, qZ, zA, qV, zS, zU, zV, zR, zE, ga5, qL m5 sG, cc3]))
    rw [e] at o5 ⊢
    exact ⟨(hs3.trans s4).trans s5, a5, c5, rfl, o5⟩
  · have hw2 : l ++ qU q.cd ++ qA1 q = W := by rw [← hw]; rcases hk with rfl | rfl <;> rfl
    have il := gE q.its
    have g3 := qW q.its.length
    have hb : (q.its.map fun x => x.1.length + x.2.1.length + 3).sum ≤ q.bulk := by unfold An.bulk; omega
    clear hw
    generalize hl2 : l ++ qU q.cd = l2 at *
    have ll2 : l2.length ≤ l.length + 9 := by rw [← hl2, List.length_append]; omega
    rcases hk with rfl | rfl
    all_goals
      refine qT ?_; repeat' (first | (with_reducible first | apply qJ | apply qB) | ((first | (with_reducible apply qS) | (with_reducible first | apply qA | apply qP | apply qD | apply qE | apply qK) | ((with_reducible first | apply qQ | apply qH | apply qI | apply zF | apply zG) <;> intro hb <;> (try simp only [hb]) <;> (try simp only [zB] at hb)) | with_reducible refine qR zE qX (by kernel_rfl) ?_) <;> try simp only [qY, qF, qM, qO, qG, qC, qN, reduceIte, seval, Int.cast_ofNat_Int, qZ, zA, qV, zS, zU, zV, zR, zE, qL m3 yD, c0, d3, qL m3 qG7, cc6]))
      refine (xA N h3 o3.rb (by omega) q.its.length).mono ?_
      rintro _ h4 ⟨s4, o4⟩
      obtain ⟨a4, c4, rfl⟩ := o4.form
      have m4 := s4 _ _ m3
      have hs4 := hs3.trans s4
      have q4 := r2.hs hs4
      refine qT ?_; repeat' (first | (with_reducible first | apply qJ | apply qB) | ((first | (with_reducible apply qS) | (with_reducible first | apply qA | apply qP | apply qD | apply qE | apply qK) | ((with_reducible first | apply qQ | apply qH | apply qI | apply zF | apply zG) <;> intro hb <;> (try simp only [hb]) <;> (try simp only [zB] at hb)) | with_reducible refine qR zE qX (by kernel_rfl) ?_) <;> try simp only [qY, qF, qM, qO, qG, qC, qN, reduceIte, seval, Int.cast_ofNat_Int, qZ, zA, qV, zS, zU, zV, zR, zE, qL m4 qG7, cc6]))
      refine zZ [5, 6, 17, 54, 55] (fun (x : Nat × Value) => [(0, x.2), (56, .int .i64 (x.1 : Int))])
        (fun z x h' => q.its.length - x.1 = z ∧ x.1 ≤ q.its.length ∧ HS h4 h' ∧ ∃ a c, x.2 = .slice a (l2 ++ qU q.its.length ++ (q.its.take x.1).flatMap jG).length c ∧ RB h' x.2 (l2 ++ qU q.its.length ++ (q.its.take x.1).flatMap jG)) q.its.length (0, _) (by simp [lk]; rfl) ⟨rfl, by omega, HS.refl _, a4, c4, by simp, by simpa using o4.rb⟩ ?_
      rintro _ ⟨j, u⟩ h5 ⟨rfl, hj, s5, a5, c5, hu, o5⟩
      simp only at hj s5 o5 hu
      subst hu
      have m5 := s5 _ _ m4
      have q5 := q4.hs s5
      have fl := vP jG q.its j
      by_cases hil : j < q.its.length
      case neg =>
        have d3 : decide ((j : Int) < (q.its.length : Int)) = false := decide_eq_false (by omega)
        obtain rfl : j = q.its.length := by omega
        rw [List.take_length] at o5 fl ⊢
        refine qT ?_; repeat' (first | (with_reducible first | apply qJ | apply qB) | ((first | (with_reducible apply qS) | (with_reducible first | apply qA | apply qP | apply qD | apply qE | apply qK) | ((with_reducible first | apply qQ | apply qH | apply qI | apply zF | apply zG) <;> intro hb <;> (try simp only [hb]) <;> (try simp only [zB] at hb)) | with_reducible refine qR zE qX (by kernel_rfl) ?_) <;> try simp only [qY, qF, qM, qO, qG, qC, qN, reduceIte, seval, Int.cast_ofNat_Int, qZ, zA, qV, zS, zU, zV, zR, zE, d3, qL m5 sG, cc8]))
        refine (rM N h5 o5 (by simp only [List.length_append]; omega) q.mo).mono ?_
        rintro _ h6 ⟨s6, o6⟩
        obtain ⟨a6, c6, rfl⟩ := o6.form
        have e : l2 ++ qU q.its.length ++ q.its.flatMap jG ++ [jC q.mo] = W := by rw [← hw2, qA1]; simp only [List.append_assoc]
        refine qT ?_; repeat' (first | (with_reducible first | apply qJ | apply qB) | ((first | (with_reducible apply qS) | (with_reducible first | apply qA | apply qP | apply qD | apply qE | apply qK) | ((with_reducible first | apply qQ | apply qH | apply qI | apply zF | apply zG) <;> intro hb <;> (try simp only [hb]) <;> (try simp only [zB] at hb)) | with_reducible refine qR zE qX (by kernel_rfl) ?_) <;> try simp only [qY, qF, qM, qO, qG, qC, qN, reduceIte, seval, Int.cast_ofNat_Int, qZ, zA, qV, zS, zU, zV, zR, zE]))
        rw [e] at o6 ⊢
        exact ⟨(hs4.trans s5).trans s6, a6, c6, rfl, o6.rb⟩
      have d3 : decide ((j : Int) < (q.its.length : Int)) = true := decide_eq_true (by omega)
      have wi : IntKind.i64.wrap ((j : Int) + 1) = ((j + 1 : Nat) : Int) := by rw [wrap64 (by omega) (by omega)]; omega
      obtain ⟨x, hx⟩ : ∃ x, q.its[j]? = some x := ⟨_, List.getElem?_eq_getElem hil⟩
      obtain ⟨ad, cs2, e1, e2, a', n', c', b', m', d', rfl, p1, p2⟩ := RL.at (P := Tryd.prog) q5 Tryd.underlying24 qA5 hx
      obtain rfl := p1.len_eq
      obtain rfl := p2.len_eq
      have ft := xN jG q.its hx
      have fl1 := vP jG q.its (j + 1)
      rw [ft, List.length_append] at fl1
      have b1 : (jG x).length = (qU x.1.length).length + x.1.length + ((qU x.2.1.length).length + x.2.1.length) + (qU x.2.2).length := by simp [jG]; omega
      refine qT ?_; repeat' (first | (with_reducible first | apply qJ | apply qB) | ((first | (with_reducible apply qS) | (with_reducible first | apply qA | apply qP | apply qD | apply qE | apply qK) | ((with_reducible first | apply qQ | apply qH | apply qI | apply zF | apply zG) <;> intro hb <;> (try simp only [hb]) <;> (try simp only [zB] at hb)) | with_reducible refine qR zE qX (by kernel_rfl) ?_) <;> try simp only [qY, qF, qM, qO, qG, qC, qN, reduceIte, seval, Int.cast_ofNat_Int, qZ, zA, qV, zS, zU, zV, zR, zE, d3, e1, wC qA5 e2]))
      refine jN fun k6 h6 m6 s6 f6 n6 => ?_
      refine qT ?_; repeat' (first | (with_reducible first | apply qJ | apply qB) | ((first | (with_reducible apply qS) | (with_reducible first | apply qA | apply qP | apply qD | apply qE | apply qK) | ((with_reducible first | apply qQ | apply qH | apply qI | apply zF | apply zG) <;> intro hb <;> (try simp only [hb]) <;> (try simp only [zB] at hb)) | with_reducible refine qR zE qX (by kernel_rfl) ?_) <;> try simp only [qY, qF, qM, qO, qG, qC, qN, reduceIte, seval, Int.cast_ofNat_Int, qZ, zA, qV, zS, zU, zV, zR, zE]))
      refine uA m6 qA5 rfl (by decide) rfl rfl rfl fun h7 m7 f7 => ?_
      have s7 : HS h5 h7 := (HS.refl _).upd n6 fun j hj => (f7 j hj).trans (f6 j hj)
      refine qT ?_; repeat' (first | (with_reducible first | apply qJ | apply qB) | ((first | (with_reducible apply qS) | (with_reducible first | apply qA | apply qP | apply qD | apply qE | apply qK) | ((with_reducible first | apply qQ | apply qH | apply qI | apply zF | apply zG) <;> intro hb <;> (try simp only [hb]) <;> (try simp only [zB] at hb)) | with_reducible refine qR zE qX (by kernel_rfl) ?_) <;> try simp only [qY, qF, qM, qO, qG, qC, qN, reduceIte, seval, Int.cast_ofNat_Int, qZ, zA, qV, zS, zU, zV, zR, zE, qL m7 zI, qL m7 xU]))
      refine (wA N h7 (o5.hs s7) (p1.hs s7) (by simp only [List.length_append]; omega)).mono ?_
      rintro _ h8 ⟨s8, o8⟩
      obtain ⟨a8, c8, rfl⟩ := o8.form
      have m8 := s8 _ _ m7
      refine qT ?_; repeat' (first | (with_reducible first | apply qJ | apply qB) | ((first | (with_reducible apply qS) | (with_reducible first | apply qA | apply qP | apply qD | apply qE | apply qK) | ((with_reducible first | apply qQ | apply qH | apply qI | apply zF | apply zG) <;> intro hb <;> (try simp only [hb]) <;> (try simp only [zB] at hb)) | with_reducible refine qR zE qX (by kernel_rfl) ?_) <;> try simp only [qY, qF, qM, qO, qG, qC, qN, reduceIte, seval, Int.cast_ofNat_Int, qZ, zA, qV, zS, zU, zV, zR, zE, qL m7 zI, qL m8 zI, qL m8 xU]))
      refine (wA N h8 o8.rb ((p2.hs s7).hs s8) (by simp only [List.length_append]; omega)).mono ?_
      rintro _ h9 ⟨s9, o9⟩
      obtain ⟨a9, c9, rfl⟩ := o9.form
      have m9 := s9 _ _ m8
      refine qT ?_; repeat' (first | (with_reducible first | apply qJ | apply qB) | ((first | (with_reducible apply qS) | (with_reducible first | apply qA | apply qP | apply qD | apply qE | apply qK) | ((with_reducible first | apply qQ | apply qH | apply qI | apply zF | apply zG) <;> intro hb <;> (try simp only [hb]) <;> (try simp only [zB] at hb)) | with_reducible refine qR zE qX (by kernel_rfl) ?_) <;> try simp only [qY, qF, qM, qO, qG, qC, qN, reduceIte, seval, Int.cast_ofNat_Int, qZ, zA, qV, zS, zU, zV, zR, zE, qL m8 zI, qL m9 zI, qL m9 xU]))
      refine (xA N h9 o9.rb (by simp only [List.length_append]; omega) x.2.2).mono ?_
      rintro v10 h10 ⟨s10, o10⟩
      obtain ⟨a10, c10, hv10⟩ := o10.form
      have m10 := s10 _ _ m9
      refine qT ?_; repeat' (first | (with_reducible first | apply qJ | apply qB) | ((first | (with_reducible apply qS) | (with_reducible first | apply qA | apply qP | apply qD | apply qE | apply qK) | ((with_reducible first | apply qQ | apply qH | apply qI | apply zF | apply zG) <;> intro hb <;> (try simp only [hb]) <;> (try simp only [zB] at hb)) | with_reducible refine qR zE qX (by kernel_rfl) ?_) <;> try simp only [qY, qF, qM, qO, qG, qC, qN, reduceIte, seval, Int.cast_ofNat_Int, qZ, zA, qV, zS, zU, zV, zR, zE, wi, qL m9 zI, qL m10 zI, qL m10 xU]))
      have e : l2 ++ qU q.its.length ++ (q.its.take (j + 1)).flatMap jG = l2 ++ qU q.its.length ++ (q.its.take j).flatMap jG ++ qU x.1.length ++ x.1 ++ qU x.2.1.length ++ x.2.1 ++ qU x.2.2 := by
        rw [ft, jG]; simp only [List.append_assoc]
      refine ⟨_, (j + 1, v10), ?_, (by simp only [List.forall_mem_cons, List.not_mem_nil, false_implies, implies_true, List.map, List.cons_append, List.nil_append, lk, Nat.reduceEqDiff, reduceIte, and_true, true_and]), rfl, by omega, (((s5.trans s7).trans s8).trans s9).trans s10, a10, c10, by rw [hv10, e], by rw [e]; exact o10.rb⟩
      omega
  · refine qT ?_; repeat' (first | (with_reducible first | apply qJ | apply qB) | ((first | (with_reducible apply qS) | (with_reducible first | apply qA | apply qP | apply qD | apply qE | apply qK) | ((with_reducible first | apply qQ | apply qH | apply qI | apply zF | apply zG) <;> intro hb <;> (try simp only [hb]) <;> (try simp only [zB] at hb)) | with_reducible refine qR zE qX (by kernel_rfl) ?_) <;> try simp only [qY, qF, qM, qO, qG, qC, qN, reduceIte, seval, Int.cast_ofNat_Int, qZ, zA, qV, zS, zU, zV, zR, zE, qL m3 yD, c0, d3, ga3]))
    refine (r_feed N h3 ra3 o3.rb (by simp only [List.length_append]; omega)).mono ?_
    rintro _ h4 ⟨s4, a4, c4, rfl, o4⟩
    have e : l ++ qU q.cd ++ dD q = W := by rw [← hw]; rfl
    refine qT ?_; repeat' (first | (with_reducible first | apply qJ | apply qB) | ((first | (with_reducible apply qS) | (with_reducible first | apply qA | apply qP | apply qD | apply qE | apply qK) | ((with_reducible first | apply qQ | apply qH | apply qI | apply zF | apply zG) <;> intro hb <;> (try simp only [hb]) <;> (try simp only [zB] at hb)) | with_reducible refine qR zE qX (by kernel_rfl) ?_) <;> try simp only [qY, qF, qM, qO, qG, qC, qN, reduceIte, seval, Int.cast_ofNat_Int, qZ, zA, qV, zS, zU, zV, zR, zE]))
    rw [e] at o4 ⊢
    exact ⟨hs3.trans s4, a4, c4, rfl, o4⟩
  · have eb : dW kind q = [] := by simp only [dW, e1, e3, e4, e5, e6, e10, e7, if_false, or_self]
    rw [eb, List.append_nil] at hw
    replace e1 : (kind == 1) = false := by simpa using e1
    replace e3 : (kind == 3) = false := by simpa using e3
    replace e4 : (kind == 4) = false := by simpa using e4
    replace e5 : (kind == 5) = false := by simpa using e5
    replace e6 : (kind == 6) = false := by simpa using e6
    replace e10 : (kind == 10) = false := by simpa using e10
    replace e7 : (kind == 7) = false := by simpa using e7
    refine qT ?_; repeat' (first | (with_reducible first | apply qJ | apply qB) | ((first | (with_reducible apply qS) | (with_reducible first | apply qA | apply qP | apply qD | apply qE | apply qK) | ((with_reducible first | apply qQ | apply qH | apply qI | apply zF | apply zG) <;> intro hb <;> (try simp only [hb]) <;> (try simp only [zB] at hb)) | with_reducible refine qR zE qX (by kernel_rfl) ?_) <;> try simp only [qY, qF, qM, qO, qG, qC, qN, reduceIte, seval, Int.cast_ofNat_Int, qZ, zA, qV, zS, zU, zV, zR, zE, qL m3 yD, c0, d3, e1, e3, e4, e5, e6, e10, e7]))
    rw [hw] at o3 ⊢
    exact ⟨hs3, a3, c3, rfl, o3.rb⟩
end Go.Gh
namespace Go.Gh
open Go Go.Proofs Go.RowKit Go.ChangeShapes Go.WideShapes Go.ChangeAt
set_option linter.unusedVariables false
set_option linter.unusedSimpArgs false
set_option maxRecDepth 100000
set_option maxHeartbeats 1000000
abbrev ptF (T : Ty) : Ty := .fcons (.i .i64) (.fcons .bs (.fcons .bs (.fcons (.i .i64) (.fcons (.i .i64) (.fcons .bs (.fcons (.i .i64) (.fcons .bs (.fcons .bs (.fcons (.sl T) .fnil)))))))))
def gT : Nat → Ty
  | 0 => .no 10
  | n + 1 => ptF (gT n)
abbrev hpTy : Ty := .fcons (.i .i64) (.fcons (.i .i64) (.fcons .bs .fnil))
abbrev rD (n : Nat) : Ty := .fcons (.sl hpTy) (.fcons (gT n) .fnil)
abbrev rcTy : Ty := .fcons (.i .i64) (.fcons (.i .i64) (.fcons .bs (.fcons (.i .i64) (.fcons .bs (.fcons (.sl .bs) .fnil)))))
abbrev pG (n : Nat) : Ty := .fcons (rD n) (.fcons (.sl (rD n)) (.fcons (gT n) (.fcons (.sl (.sl .bs)) (.fcons (.sl (.sl rcTy)) .fnil))))
abbrev rpTy (n : Nat) : Ty := .fcons anTy (.fcons (pG n) .fnil)
theorem vL (n : Nat) : (gT n).size = 10 := by cases n <;> rfl
theorem ptF_ok (T : Ty) (hs : T.size = 10) (h : T.ok Tryd.prog 31 = true) : (ptF T).ok Tryd.prog 31 = true := by
  have e1 : (Tryd.prog).underlying 29 = some (.slice 31) := Tryd.underlying29
  have e2 : (Tryd.prog).cellsOf 31 = 10 := by kernel_rfl
  have e3 : decide (0 < (Tryd.prog).bytesOf 31) = true := by kernel_rfl
  have h2 : (Ty.sl T).ok Tryd.prog 29 = true := by
    rw [Ty.ok_sl, e1]
    simp only [h, e2, e3, hs]
    kernel_rfl
  have a3 : Ty.ok Tryd.prog (.i .i64) 3 = true := by kernel_rfl
  have a23 : Ty.ok Tryd.prog .bs 23 = true := by kernel_rfl
  have c3 : (Tryd.prog).cellsOf 3 = 1 := by kernel_rfl
  have c23 : (Tryd.prog).cellsOf 23 = 1 := by kernel_rfl
  have c29 : (Tryd.prog).cellsOf 29 = 1 := by kernel_rfl
  rw [Ty.ok_fcons, Tryd.underlying31]
  simp only [Ty.okF_cons, h2, a3, a23, c3, c23, c29, e2, Ty.size]
  rfl
theorem pF : ∀ n, (gT n).ok Tryd.prog 31 = true
  | 0 => by kernel_rfl
  | n + 1 => ptF_ok _ (vL n) (pF n)
theorem sH : ∀ n f, f ≤ 2 * n → (gT n).safe f
  | 0, f, h => by
    show f = 0
    omega
  | n + 1, f, h => ⟨trivial, trivial, trivial, trivial, trivial, trivial, trivial, trivial, trivial, sH n (f - 1 - 1) (by omega), trivial⟩
theorem pwTy_ok (n : Nat) : (rD n).ok Tryd.prog 33 = true := by
  have a28 : Ty.ok Tryd.prog (.sl hpTy) 28 = true := by kernel_rfl
  have a31 := pF n
  have c28 : (Tryd.prog).cellsOf 28 = 1 := by kernel_rfl
  have c31 : (Tryd.prog).cellsOf 31 = 10 := by kernel_rfl
  have c33 : (Tryd.prog).cellsOf 33 = 11 := by kernel_rfl
  have s31 := vL n
  rw [Ty.ok_fcons, Tryd.underlying33]
  simp only [Ty.okF_cons, a28, a31, c28, c31, c33, s31, Ty.size]
  rfl
theorem pfTy_ok (n : Nat) : (pG n).ok Tryd.prog 38 = true := by
  have a33 := pwTy_ok n
  have e1 : (Tryd.prog).underlying 34 = some (.slice 33) := Tryd.underlying34
  have e2 : (Tryd.prog).cellsOf 33 = 11 := by kernel_rfl
  have e3 : decide (0 < (Tryd.prog).bytesOf 33) = true := by kernel_rfl
  have s31 := vL n
  have s33 : (rD n).size = 11 := by simp only [Ty.size, s31]
  have c34 : (Tryd.prog).cellsOf 34 = 1 := by kernel_rfl
  have a34 : Ty.ok Tryd.prog (.sl (rD n)) 34 = true := by
    rw [Ty.ok_sl, e1]
    simp only [a33, e2, e3, s33, c34]
    rfl
  have a31 := pF n
  have a35 : Ty.ok Tryd.prog (.sl (.sl .bs)) 35 = true := by kernel_rfl
  have a36 : Ty.ok Tryd.prog (.sl (.sl rcTy)) 36 = true := by kernel_rfl
  have c31 : (Tryd.prog).cellsOf 31 = 10 := by kernel_rfl
  have c35 : (Tryd.prog).cellsOf 35 = 1 := by kernel_rfl
  have c36 : (Tryd.prog).cellsOf 36 = 1 := by kernel_rfl
  have c38 : (Tryd.prog).cellsOf 38 = 24 := by kernel_rfl
  rw [Ty.ok_fcons, Tryd.underlying38]
  simp only [Ty.okF_cons, a33, a34, a31, a35, a36, e2, c34, c31, c35, c36, c38, s31, s33, Ty.size]
  rfl
theorem rpTy_ok (n : Nat) : (rpTy n).ok Tryd.prog 40 = true := by
  have a27 := an_ok
  have a38 := pfTy_ok n
  have s31 := vL n
  have s27 : anTy.size = 9 := rfl
  have s38 : (pG n).size = 24 := by simp only [Ty.size, s31]
  have c27 : (Tryd.prog).cellsOf 27 = 9 := by kernel_rfl
  have c38 : (Tryd.prog).cellsOf 38 = 24 := by kernel_rfl
  have c40 : (Tryd.prog).cellsOf 40 = 33 := by kernel_rfl
  rw [Ty.ok_fcons, Tryd.underlying40]
  simp only [Ty.okF_cons, a27, a38, c27, c38, c40, s27, s38, Ty.size]
  simp only [s31]
  rfl
theorem qG9 (n : Nat) : (rpTy n).safe n := by
  have h1 := fun f (h : f ≤ 2 * n) => sH n f h
  refine ⟨Ty.low.safe (t := anTy) rfl _, ⟨⟨⟨trivial, trivial, trivial, trivial⟩, h1 _ (by omega), trivial⟩, ⟨⟨trivial, trivial, trivial, trivial⟩, h1 _ (by omega), trivial⟩, h1 _ (by omega), trivial, ⟨trivial, trivial, trivial, trivial, trivial, trivial, trivial⟩, trivial⟩, trivial⟩
theorem it_sum : ∀ (Y : List itTy.den), ((Y.map fun x => ((x.1 : List UInt8), (x.2.1 : List UInt8), (x.2.2.1 : Int))).map fun x => x.1.length + x.2.1.length + 3).sum = (Y.map (Ty.bulk itTy)).sum
  | [] => rfl
  | x :: Y => by
    have ih := it_sum Y
    have e : ∀ m n : Nat, m + n + 3 = (m + 1) + ((n + 1) + (1 + 0)) := fun m n => by omega
    have k : ∀ {a b c d : Nat}, a = b → c = d → a + c = b + d := fun h1 h2 => by rw [h1, h2]
    exact (List.sum_cons).trans ((k (e (List.length x.1) (List.length x.2.1)) ih).trans (List.sum_cons).symm)
theorem ev_sum : ∀ (Y : List evTy.den), ((Y.map fun x => ((x.1 : Int), (x.2.1 : Int), (x.2.2.1 : List UInt8), (x.2.2.2.1 : List UInt8))).map fun x => x.2.2.1.length + x.2.2.2.length + 4).sum = (Y.map (Ty.bulk evTy)).sum
  | [] => rfl
  | x :: Y => by
    have ih := ev_sum Y
    have e : ∀ m n : Nat, m + n + 4 = 1 + (1 + ((m + 1) + ((n + 1) + 0))) := fun m n => by omega
    have k : ∀ {a b c d : Nat}, a = b → c = d → a + c = b + d := fun h1 h2 => by rw [h1, h2]
    exact (List.sum_cons).trans ((k (e (List.length x.2.2.1) (List.length x.2.2.2.1)) ih).trans (List.sum_cons).symm)
theorem an_R {h : GH} {cs : List Value} {y : anTy.den} (r : anTy.R h cs y) : ∃ q : An, RA h q (.agg cs.toArray) ∧ ∀ n, anTy.bulk y ≤ n → q.bulk ≤ n := by
  obtain ⟨y0, y1, y2, y3, y4, y5, y6, y7, y8, y9⟩ := y
  obtain ⟨_, _, rfl, _, ⟨rfl, _⟩, _, _, rfl, _, ⟨rfl, _⟩, _, _, rfl, _, rfl, _, _, rfl, _, rfl, _, _, rfl, _, ⟨v, rfl, r4, _⟩, _, _, rfl, _, ⟨rfl, _⟩, _, _, rfl, _, ⟨w6, rfl, r6, _⟩, _, _, rfl, _, ⟨w7, rfl, r7, _⟩, _, _, rfl, _, rfl, rfl⟩ := r
  obtain ⟨a, c, rfl, _⟩ := r4.form
  have r6' : LI h w6 (List.map (fun x : itTy.den => (x.1, x.2.1, x.2.2.1)) y6) := RL.map (R' := RIt) r6 _ fun cs x hx => it_R hx
  have r7' : LE h w7 (List.map (fun x : evTy.den => (x.1, x.2.1, x.2.2.1, x.2.2.2.1)) y7) := RL.map (R' := REv) r7 _ fun cs x hx => ev_R hx
  obtain ⟨b, d, rfl, _⟩ := r6'.form
  obtain ⟨b', d', rfl, _⟩ := r7'.form
  refine ⟨⟨y0, y1, y5, y2, y3, y8, y4, List.map (fun x : itTy.den => (x.1, x.2.1, x.2.2.1)) y6, List.map (fun x : evTy.den => (x.1, x.2.1, x.2.2.1, x.2.2.2.1)) y7⟩, ⟨a, c, b, d, b', d', rfl, r4, r6', r7'⟩, ?_⟩
  intro n hn
  have : 1 + (1 + (1 + (1 + ((List.length y4 + 1) + (1 + (((List.map (Ty.bulk itTy) y6).sum + 1) + (((List.map (Ty.bulk evTy) y7).sum + 1) + (1 + 0)))))))) ≤ n := hn
  have h2 : List.length y4 + (List.map (Ty.bulk itTy) y6).sum + (List.map (Ty.bulk evTy) y7).sum ≤ n := by
    generalize (List.map (Ty.bulk itTy) y6).sum = S at this ⊢
    generalize (List.map (Ty.bulk evTy) y7).sum = S' at this ⊢
    generalize List.length y4 = T at this ⊢
    clear hn
    omega
  have e1 := it_sum y6
  have e2 := ev_sum y7
  have k3 : ∀ {T A B S S' : Nat}, A = S → B = S' → T + A + B = T + S + S' := fun h1 h2 => by rw [h1, h2]
  exact Nat.le_trans (Nat.le_of_eq (k3 (T := List.length y4) e1 e2)) h2
def ptv : (n : Nat) → (gT n).den → Pd n
  | 0, y => nomatch (show Empty from y)
  | n + 1, (y1, y2, y3, y4, y5, y6, y7, y8, y9, y10, _) => (⟨y1, y4, y5, y7, y2, y3, y6, y8, y9, List.map (ptv n) y10⟩ : Pn (Pd n))
theorem pt_R : ∀ (n : Nat) {h : GH} {cs : List Value} {y : (gT n).den}, (gT n).R h cs y → RPd n h cs (ptv n y)
  | 0, _, _, y, _ => nomatch (show Empty from y)
  | n + 1, h, cs, (y1, y2, y3, y4, y5, y6, y7, y8, y9, y10, y11), r => by
    obtain ⟨_, _, rfl, _, ⟨rfl, _⟩, _, _, rfl, _, ⟨v2, rfl, r2, _⟩, _, _, rfl, _, ⟨v3, rfl, r3, _⟩, _, _, rfl, _, ⟨rfl, _⟩, _, _, rfl, _, ⟨rfl, _⟩, _, _, rfl, _, ⟨v6, rfl, r6, _⟩, _, _, rfl, _, ⟨rfl, _⟩, _, _, rfl, _, ⟨v8, rfl, r8, _⟩, _, _, rfl, _, ⟨v9, rfl, r9, _⟩, _, _, rfl, _, ⟨v10, rfl, r10, _⟩, rfl⟩ := r
    rw [vL] at r10
    have r10' : RL 10 (RPd n) h v10 (List.map (ptv n) y10) := RL.map (R' := RPd n) r10 _ fun cs x hx => pt_R n hx
    obtain ⟨a2, c2, rfl, _⟩ := r2.form
    obtain ⟨a3, c3, rfl, _⟩ := r3.form
    obtain ⟨a6, c6, rfl, _⟩ := r6.form
    obtain ⟨a8, c8, rfl, _⟩ := r8.form
    obtain ⟨a9, c9, rfl, _⟩ := r9.form
    obtain ⟨a10, c10, rfl, _⟩ := r10'.form
    exact ⟨a2, c2, a3, c3, a6, c6, a8, c8, a9, c9, a10, c10, rfl, r2, r3, r6, r8, r9, r10'⟩
theorem fI {α β : Type} (f : α → β) (g : β → Nat) (k : α → Nat) (h : ∀ x, g (f x) = k x) (l : List α) : ((l.map f).map g).sum = (l.map k).sum := by
  rw [List.map_map]
  congr 1
  exact List.map_congr_left fun x _ => h x
theorem pE : ∀ (n : Nat) (y : (gT n).den), (ptv n y).bulk n = (gT n).bulk y
  | 0, y => nomatch (show Empty from y)
  | n + 1, (y1, y2, y3, y4, y5, y6, y7, y8, y9, y10, y11) => by
    have e := fI (ptv n) (Pd.bulk n) (gT n).bulk (pE n) y10
    show List.length y2 + List.length y3 + List.length y6 + List.length y8 + List.length y9 + ((List.map (ptv n) y10).map (Pd.bulk n)).sum + 10 =
      1 + ((List.length y2 + 1) + ((List.length y3 + 1) + (1 + (1 + ((List.length y6 + 1) + (1 + ((List.length y8 + 1) + ((List.length y9 + 1) + (((List.map (gT n).bulk y10).sum + 1) + 0)))))))))
    generalize ((List.map (ptv n) y10).map (Pd.bulk n)).sum = S at e ⊢
    generalize (List.map (gT n).bulk y10).sum = S' at e ⊢
    generalize List.length y2 = a2
    generalize List.length y3 = a3
    generalize List.length y6 = a6
    generalize List.length y8 = a8
    generalize List.length y9 = a9
    omega
def hpv (x : hpTy.den) : Hp := (x.1, x.2.1, x.2.2.1)
theorem hp_R {h : GH} {cs : List Value} {x : hpTy.den} (r : hpTy.R h cs x) : RHp h cs (hpv x) := by
  obtain ⟨y1, y2, y3, y4⟩ := x
  obtain ⟨_, _, rfl, _, ⟨rfl, _⟩, _, _, rfl, _, ⟨rfl, _⟩, _, _, rfl, _, ⟨v, rfl, r1, _⟩, rfl⟩ := r
  obtain ⟨a, c, rfl, _⟩ := r1.form
  exact ⟨a, c, rfl, r1⟩
theorem hp_bulk (x : hpTy.den) : (hpv x).bulk = hpTy.bulk x := by
  obtain ⟨y1, y2, y3, y4⟩ := x
  show List.length y3 + 3 = 1 + (1 + ((List.length y3 + 1) + 0))
  omega
def pwv (n : Nat) (x : (rD n).den) : Pw n := ⟨List.map hpv x.1, ptv n x.2.1⟩
theorem pw_R (n : Nat) {h : GH} {cs : List Value} {x : (rD n).den} (r : (rD n).R h cs x) : RPw h cs (pwv n x) := by
  obtain ⟨y1, y2, y3⟩ := x
  obtain ⟨_, _, rfl, _, ⟨v, rfl, r1, _⟩, ce, _, rfl, l2, r2, rfl⟩ := r
  have r1' : RL 3 RHp h v (List.map hpv y1) := RL.map (R' := RHp) r1 _ fun cs x hx => hp_R hx
  obtain ⟨a, c, rfl, _⟩ := r1'.form
  rw [vL] at l2
  exact ⟨a, c, ce, by rw [List.append_nil]; rfl, l2, r1', pt_R n r2⟩
theorem qE0 (n : Nat) (x : (rD n).den) : (pwv n x).bulk = (rD n).bulk x := by
  obtain ⟨y1, y2, y3⟩ := x
  have e1 := fI hpv Hp.bulk hpTy.bulk hp_bulk y1
  have e2 := pE n y2
  show ((List.map hpv y1).map Hp.bulk).sum + (ptv n y2).bulk n + 1 = ((List.map hpTy.bulk y1).sum + 1) + ((gT n).bulk y2 + 0)
  omega
theorem bs_R {h : GH} {cs : List Value} {x : Ty.bs.den} (r : Ty.bs.R h cs x) : RBc h cs x := by
  obtain ⟨v, rfl, r1, _⟩ := r
  obtain ⟨a, c, rfl, _⟩ := r1.form
  exact ⟨a, c, rfl, r1⟩
theorem bsl_R {h : GH} {v : Value} {x : List (List UInt8)} (r : RL Ty.bs.size Ty.bs.R h v x) : RBs h v x := RL.to (α := List UInt8) (R := Ty.bs.R) (R' := RBc) (h := h) (fun cs x hx => bs_R hx) r
def rcv (x : rcTy.den) : Rc := ⟨x.1, x.2.1, x.2.2.2.1, x.2.2.1, x.2.2.2.2.1, x.2.2.2.2.2.1⟩
theorem rc_R {h : GH} {cs : List Value} {x : rcTy.den} (r : rcTy.R h cs x) : RRc h cs (rcv x) := by
  obtain ⟨y1, y2, y3, y4, y5, y6, y7⟩ := x
  obtain ⟨_, _, rfl, _, ⟨rfl, _⟩, _, _, rfl, _, ⟨rfl, _⟩, _, _, rfl, _, ⟨v3, rfl, r3, _⟩, _, _, rfl, _, ⟨rfl, _⟩, _, _, rfl, _, ⟨v5, rfl, r5, _⟩, _, _, rfl, _, ⟨v6, rfl, r6, _⟩, rfl⟩ := r
  have r6' := bsl_R r6
  obtain ⟨a3, c3, rfl, _⟩ := r3.form
  obtain ⟨a5, c5, rfl, _⟩ := r5.form
  obtain ⟨a6, c6, rfl, _⟩ := r6'.form
  exact ⟨a3, c3, a5, c5, a6, c6, rfl, r3, r5, r6'⟩
theorem rc_bulk (x : rcTy.den) : (rcv x).bulk = rcTy.bulk x := by
  obtain ⟨y1, y2, y3, y4, y5, y6, y7⟩ := x
  show List.length y3 + List.length y5 + jS y6 + 6 = 1 + (1 + ((List.length y3 + 1) + (1 + ((List.length y5 + 1) + ((jS y6 + 1) + 0)))))
  generalize jS y6 = S
  generalize List.length y3 = a3
  generalize List.length y5 = a5
  omega
theorem rcs_R {h : GH} {cs : List Value} {x : (Ty.sl rcTy).den} (r : (Ty.sl rcTy).R h cs x) : RRcs h cs (List.map rcv x) := by
  obtain ⟨v, rfl, r1, _⟩ := r
  have r1' : RL 6 RRc h v (List.map rcv x) := RL.map (R' := RRc) r1 _ fun cs x hx => rc_R hx
  obtain ⟨a, c, rfl, _⟩ := r1'.form
  exact ⟨a, c, rfl, r1'⟩
theorem rcs_bulk (x : (Ty.sl rcTy).den) : ((List.map rcv x).map Rc.bulk).sum + 1 = (Ty.sl rcTy).bulk x := by
  have e1 := fI rcv Rc.bulk rcTy.bulk rc_bulk x
  show _ = (List.map rcTy.bulk x).sum + 1
  omega
theorem bsl2_R {h : GH} {cs : List Value} {x : (Ty.sl .bs).den} (r : (Ty.sl .bs).R h cs x) : RBsc h cs x := by
  obtain ⟨v, rfl, r1, _⟩ := r
  have r1' := bsl_R r1
  obtain ⟨a, c, rfl, _⟩ := r1'.form
  exact ⟨a, c, rfl, r1'⟩
def pfv (n : Nat) (x : (pG n).den) : Pf n := ⟨pwv n x.1, List.map (pwv n) x.2.1, ptv n x.2.2.1, x.2.2.2.1, List.map (List.map rcv) x.2.2.2.2.1⟩
theorem pf_R (n : Nat) {h : GH} {cs : List Value} {x : (pG n).den} (r : (pG n).R h cs x) : RPf h cs (pfv n x) := by
  obtain ⟨y1, y2, y3, y4, y5, y6⟩ := x
  have s33 : (rD n).size = 11 := by simp only [Ty.size, vL]
  obtain ⟨cw, _, rfl, l1, r1, _, _, rfl, _, ⟨v2, rfl, r2, _⟩, cp, _, rfl, l3, r3, _, _, rfl, _, ⟨v4, rfl, r4, _⟩, _, _, rfl, _, ⟨v5, rfl, r5, _⟩, rfl⟩ := r
  rw [s33] at l1 r2
  rw [vL] at l3
  have r2' : RL 11 RPw h v2 (List.map (pwv n) y2) := RL.map (R' := RPw) r2 _ fun cs x hx => pw_R n hx
  have r4' : RL 1 RBsc h v4 y4 := RL.to (α := List (List UInt8)) (R := (Ty.sl .bs).R) (R' := RBsc) (h := h) (fun cs x hx => bsl2_R hx) r4
  have r5' : RL 1 RRcs h v5 (List.map (List.map rcv) y5) := RL.map (R' := RRcs) r5 _ fun cs x hx => rcs_R hx
  obtain ⟨a2, c2, rfl, _⟩ := r2'.form
  obtain ⟨a4, c4, rfl, _⟩ := r4'.form
  obtain ⟨a5, c5, rfl, _⟩ := r5'.form
  exact ⟨cw, cp, a2, c2, a4, c4, a5, c5, rfl, l1, l3, pw_R n r1, r2', pt_R n r3, r4', r5'⟩
theorem pf_sum {a a' b b' c c' l s s' : Nat} (h1 : a = a') (h2 : b = b') (h3 : c = c') (h5 : s = s') : a + b + c + l + s + 3 = a' + ((b' + 1) + (c' + ((l + 1) + ((s' + 1) + 0)))) := by omega
theorem pf_bulk (n : Nat) (x : (pG n).den) : (pfv n x).bulk = (pG n).bulk x := by
  obtain ⟨y1, y2, y3, y4, y5, y6⟩ := x
  exact pf_sum (l := kL y4) (qE0 n y1) (fI (pwv n) Pw.bulk (rD n).bulk (qE0 n) y2) (pE n y3) (fI (List.map rcv) (fun x => (x.map Rc.bulk).sum + 1) (Ty.sl rcTy).bulk rcs_bulk y5)
theorem arg_rp {H : Type} {enc : TypeId × Value → H} {W : World} {base b0 : Nat} {v : Value} {d : DataW H} {ps : List MemPlace} {r : Reach} (h : DataW.Trod enc Tryd.prog W base (fun _ => true) true 40 v d ps) (hok : Value.okWide Tryd.prog W r b0 40 v) :
    ∃ (q : An) (n : Nat) (p : Pf n) (ca cp : List Value), up W.heap.size v = .agg (ca ++ cp).toArray ∧ ca.length = 9 ∧ cp.length = 24 ∧ RA (h0 W) q (.agg ca.toArray) ∧ RPf (h0 W) cp p ∧ ∀ B A, BulkOk B A → q.bulk + p.bulk ≤ B d := by
  obtain ⟨n, y, R, hb, _⟩ := qH1 rpTy rpTy_ok qG9 h hok
  have : ∃ c : Array Value, v = .agg c := by
    simp only [Value.okWide, Tryd.underlying40] at hok
    obtain ⟨cs, h, _⟩ := hok
    exact ⟨cs, h⟩
  obtain ⟨c, rfl⟩ := this
  obtain ⟨ya, yp, yn⟩ := y
  obtain ⟨ca, _, e1, l1, r1, cp, _, rfl, l2, r2, rfl⟩ := R
  obtain ⟨q, q1, q2⟩ := an_R r1
  refine ⟨q, n, pfv n yp, ca, cp, ?_, l1, ?_, q1, pf_R n r2, fun B A k => ?_⟩
  · rw [List.append_nil] at e1
    rw [← e1]
    simp [vcells, up]
  · rw [l2]
    simp only [Ty.size, vL]
  · have h1 := hb B A k
    have h2 : anTy.bulk ya + ((pG n).bulk yp + 0) ≤ B d := h1
    have h3 := pf_bulk n yp
    have h4 := q2 (anTy.bulk ya) (Nat.le_refl _)
    omega
end Go.Gh
namespace Go.Gh
open Go Go.Proofs Go.RowKit
set_option linter.unusedVariables false
set_option linter.unusedSimpArgs false
set_option maxRecDepth 100000
set_option maxHeartbeats 4000000
theorem fD {α : Type} {L cs ds : List α} {o n i m : Nat} (h : (L.drop o).take n = cs) (h2 : (cs.drop i).take m = ds) (hm : i + m ≤ n) : (L.drop (o + i)).take m = ds := by
  subst h
  rw [← h2, List.drop_take, List.drop_drop, List.take_take, Nat.min_eq_left (by omega)]
theorem jW {α : Type} {L cs : List α} {o n i : Nat} {v : α} (h : (L.drop o).take n = cs) (h2 : cs[i]? = some v) : L[o + i]? = some v := by
  subst h
  have hi : i < n := by
    have := (List.getElem?_eq_some_iff.1 h2).1
    rw [List.length_take] at this; omega
  rw [List.getElem?_take, if_pos hi, List.getElem?_drop] at h2
  exact h2
theorem RPd.cells : ∀ {n : Nat} {h : GH} {cs : List Value} {p : Pd n}, RPd n h cs p → cs.all xE = true ∧ cs.length = 10
  | 0, _, _, _, r => r.elim
  | n + 1, _, _, _, r => by
    obtain ⟨_, _, _, _, _, _, _, _, _, _, _, _, rfl, _⟩ := r
    exact ⟨rfl, rfl⟩
theorem RPw.cells {n : Nat} {h : GH} {cs : List Value} {p : Pw n} (r : RPw h cs p) : cs.all xE = true ∧ cs.length = 11 ∧ ∃ a c, cs[0]? = some (.slice a p.hops.length c) := by
  obtain ⟨a, c, ce, rfl, hl, _, q2⟩ := r
  refine ⟨?_, by simp [hl], a, c, rfl⟩
  rw [List.all_cons, q2.cells.1]; rfl
def PFL {n : Nat} (h : GH) (p : Pf n) (cp : List Value) : Prop := ∃ cw ct a1 c1 a2 c2 a3 c3, cp.all xE = true ∧ cp.length = 24 ∧ (cp.drop 0).take 11 = cw ∧ cp[11]? = some (.slice a1 p.ways.length c1) ∧ (cp.drop 12).take 10 = ct ∧ cp[22]? = some (.slice a2 p.lists.length c2) ∧ cp[23]? = some (.slice a3 p.seen.length c3) ∧
  RPw h cw p.way ∧ RL 11 RPw h (.slice a1 p.ways.length c1) p.ways ∧ RPd n h ct p.tree ∧ RL 1 RBsc h (.slice a2 p.lists.length c2) p.lists ∧ RL 1 RRcs h (.slice a3 p.seen.length c3) p.seen
theorem RPf.pfl {n : Nat} {h : GH} {cs : List Value} {p : Pf n} (r : RPf h cs p) : PFL h p cs := by
  obtain ⟨cw, cp, a1, c1, a2, c2, a3, c3, rfl, l1, l2, r1, r2, r3, r4, r5⟩ := r
  obtain ⟨k1, _, _⟩ := r1.cells
  obtain ⟨k2, _⟩ := r3.cells
  refine ⟨cw, cp, a1, c1, a2, c2, a3, c3, ?_, ?_, ?_, ?_, ?_, ?_, ?_, r1, r2, r3, r4, r5⟩
  · simp only [List.all_append, k1, k2]; rfl
  · simp only [List.length_append, l1, l2, List.length_cons, List.length_nil]
  · rw [List.drop_zero, ← l1, List.take_left]
  · rw [List.getElem?_append_right (by omega), l1]; rfl
  · rw [show (12 : Nat) = cw.length + 1 by omega, List.drop_append, List.drop_of_length_le (by omega)]
    simp only [Nat.add_sub_cancel_left, List.nil_append, List.cons_append, List.drop_succ_cons, List.drop_zero, ← l2, List.take_left]
  · rw [List.getElem?_append_right (by omega), l1, List.cons_append, List.nil_append, List.getElem?_cons_succ, List.getElem?_append_right (by omega), l2]; rfl
  · rw [List.getElem?_append_right (by omega), l1, List.cons_append, List.nil_append, List.getElem?_cons_succ, List.getElem?_append_right (by omega), l2]; rfl
theorem PFL.keep {n : Nat} {h h' : GH} (k : Keeps h h') {p : Pf n} {cp : List Value} (r : PFL h p cp) : PFL h' p cp := by
  obtain ⟨cw, ct, a1, c1, a2, c2, a3, c3, e0, e1, e2, e3, e4, e5, e6, r1, r2, r3, r4, r5⟩ := r
  exact ⟨cw, ct, a1, c1, a2, c2, a3, c3, e0, e1, e2, e3, e4, e5, e6, r1.keep k, k.rl (fun _ _ q => q.keep k) r2, r3.keep k n, k.rl (fun _ _ q => q.keep k) r4, k.rl (fun _ _ q => q.keep k) r5⟩
def RPL {n : Nat} (h : GH) (q : An) (p : Pf n) (L : List Value) : Prop := ∃ ca cp a6 c6 a7 c7, L.all xE = true ∧ L.length = 33 ∧ (L.drop 0).take 9 = ca ∧ ca.length = 9 ∧ (L.drop 9).take 24 = cp ∧ L[0]? = some (.int .i64 q.cd) ∧ L[6]? = some (.slice a6 q.its.length c6) ∧ L[7]? = some (.slice a7 q.evs.length c7) ∧ RA h q (.agg ca.toArray) ∧ PFL h p cp
theorem RPL.of {n : Nat} {h : GH} {q : An} {p : Pf n} {ca cp : List Value} (l1 : ca.length = 9) (r1 : RA h q (.agg ca.toArray)) (r2 : RPf h cp p) : RPL h q p (ca ++ cp) := by
  have r2' := r2.pfl
  have r1' := r1
  obtain ⟨a, c, b, d, b', d', e, _⟩ := r1
  have e' : ca = q.cs (.slice a q.ky.length c) (.slice b q.its.length d) (.slice b' q.evs.length d') := by
    simpa using e
  have r3 := r2'
  obtain ⟨cw, ct, a1, c1, a2, c2, a3, c3, e0, e1, _⟩ := r2'
  refine ⟨ca, cp, b, d, b', d', ?_, ?_, ?_, l1, ?_, ?_, ?_, ?_, r1', r3⟩
  · rw [List.all_append, e0, e']; rfl
  · rw [List.length_append, l1, e1]
  · rw [List.drop_zero, ← l1, List.take_left]
  · rw [← l1, List.drop_left, ← e1, List.take_length]
  · rw [List.getElem?_append_left (by omega), e']; rfl
  · rw [List.getElem?_append_left (by omega), e']; rfl
  · rw [List.getElem?_append_left (by omega), e']; rfl
theorem RPL.keep {n : Nat} {h h' : GH} (s : HS h h') {q : An} {p : Pf n} {L : List Value} (r : RPL h q p L) : RPL h' q p L := by
  obtain ⟨ca, cp, a6, c6, a7, c7, e0, e1, e2, e3, e4, e5, e6, e7, r1, r2⟩ := r
  exact ⟨ca, cp, a6, c6, a7, c7, e0, e1, e2, e3, e4, e5, e6, e7, r1.hs s, r2.keep (.hs s)⟩
theorem zW : type_of% (And.intro zX (And.intro uW (And.intro uV (And.intro tV (And.intro jM (And.intro qG3 (And.intro mR (And.intro tT (And.intro tS (And.intro yU (And.intro uD (And.intro jL (And.intro tU (And.intro mQ (And.intro mP (And.intro jK (And.intro uX (And.intro wJ (And.intro gO (And.intro fB (And.intro wS rs7))))))))))))))))))))) := And.intro zX (And.intro uW (And.intro uV (And.intro tV (And.intro jM (And.intro qG3 (And.intro mR (And.intro tT (And.intro tS (And.intro yU (And.intro uD (And.intro jL (And.intro tU (And.intro mQ (And.intro mP (And.intro jK (And.intro uX (And.intro wJ (And.intro gO (And.intro fB (And.intro wS rs7))))))))))))))))))))
def zH : Nat → List (Nat × List Nat) × List Nat
  | 10 => ([(0, []), (1, []), (2, []), (3, []), (4, []), (5, []), (6, []), (7, []), (8, []), (9, []), (10, [])], [0, 0, 2, 6, 14, 0, 32, 126, 255, 511, 1023])
  | 12 => ([(0, []), (1, []), (2, []), (3, []), (4, []), (5, []), (6, []), (7, []), (8, []), (9, []), (10, [])], [0, 0, 2, 6, 14, 0, 32, 126, 255, 511, 1023])
  | 20 => ([(0, []), (1, []), (2, []), (3, []), (4, []), (5, []), (6, []), (7, []), (8, []), (9, [])], [0, 0, 2, 6, 14, 0, 62, 127, 255, 511])
  | _ => ([], [])
theorem wone_len (q : An) : (kP q).length ≤ 30 + q.ky.length := by
  have g1 := qW q.ky.length
  have g2 := qW q.si
  unfold kP
  split <;> simp only [List.length_append, List.length_cons, List.length_nil] <;> omega
theorem mM (kind : Int) (q : An) : (vR kind q).length ≤ 60 + 10 * q.bulk := by
  have g1 := qW q.cd
  have g2 := qW q.ep
  have g3 := qW q.si
  have g4 := qW q.its.length
  have g5 := qW q.evs.length
  have g6 := wone_len q
  have g7 := gE q.its
  have g8 := gK q.evs
  unfold vR dW qA1 dD An.bulk
  repeat' split
  all_goals simp only [List.length_append, List.length_cons, List.length_nil]
  all_goals omega
theorem kG (N : Nat) (h : GH) (kind : Int) (b : Bool) (hb : decide (kind = 4 ∨ kind = 7 ∨ kind = 10) = b) : GTri Tryd.prog N 16 [.int .i64 kind] h fun v h' => v = .bool b ∧ h' = h := by
  have two : kind = 4 ∨ kind = 7 ∨ kind = 10 ∨ (kind ≠ 4 ∧ kind ≠ 7 ∧ kind ≠ 10) := by omega
  refine xW Tryd.func16 rfl gf16 ok16 (by simp [Tryd.ntmps16]) ?_
  rcases two with rfl | rfl | rfl | ⟨e4, e7, e10⟩
  · cases hb
    repeat' (first | (with_reducible first | apply qJ | apply qB) | ((first | (with_reducible first | apply qA | apply qP | apply qD | apply qE | apply qK) | ((with_reducible first | apply qQ | apply qH | apply qI) <;> intro hb <;> (try simp only [hb]) <;> (try simp only [zB] at hb))) <;> try simp only [qY, qF, qM, qO, qG, qC, qN, reduceIte, seval, Int.cast_ofNat_Int, qZ, zA, wJ, rs16]))
    rfl
  · cases hb
    repeat' (first | (with_reducible first | apply qJ | apply qB) | ((first | (with_reducible first | apply qA | apply qP | apply qD | apply qE | apply qK) | ((with_reducible first | apply qQ | apply qH | apply qI) <;> intro hb <;> (try simp only [hb]) <;> (try simp only [zB] at hb))) <;> try simp only [qY, qF, qM, qO, qG, qC, qN, reduceIte, seval, Int.cast_ofNat_Int, qZ, zA, wJ, rs16]))
    rfl
  · cases hb
    repeat' (first | (with_reducible first | apply qJ | apply qB) | ((first | (with_reducible first | apply qA | apply qP | apply qD | apply qE | apply qK) | ((with_reducible first | apply qQ | apply qH | apply qI) <;> intro hb <;> (try simp only [hb]) <;> (try simp only [zB] at hb))) <;> try simp only [qY, qF, qM, qO, qG, qC, qN, reduceIte, seval, Int.cast_ofNat_Int, qZ, zA, wJ, rs16]))
    rfl
  · have e : decide (kind = 4 ∨ kind = 7 ∨ kind = 10) = false := decide_eq_false (by omega)
    rw [e] at hb
    subst hb
    replace e4 : (kind == 4) = false := by simpa using e4
    replace e7 : (kind == 7) = false := by simpa using e7
    replace e10 : (kind == 10) = false := by simpa using e10
    repeat' (first | (with_reducible first | apply qJ | apply qB) | ((first | (with_reducible first | apply qA | apply qP | apply qD | apply qE | apply qK) | ((with_reducible first | apply qQ | apply qH | apply qI) <;> intro hb <;> (try simp only [hb]) <;> (try simp only [zB] at hb))) <;> try simp only [qY, qF, qM, qO, qG, qC, qN, reduceIte, seval, Int.cast_ofNat_Int, qZ, zA, wJ, rs16, e4, e7, e10]))
theorem qI5 (N : Nat) {h : GH} (tb : TBd h) {size : Int} (hw : (Lit.int .i64 size).wf = true) (kind : Int) {m : Nat} {q : An} {p : Pf m} {L : List Value} (r : RPL h q p L) (hl : q.bulk + p.bulk ≤ 1100000) : GTri Tryd.prog N 7 [.int .i64 size, .int .i64 kind, .agg L.toArray] h fun v h' => HS h h' ∧ ∃ a c, v = .slice a (yF size kind q p).length c ∧ RB h' (.slice a (yF size kind q p).length c) (yF size kind q p) := by
  generalize hW : yF size kind q p = W
  have hb : p.bulk = p.way.bulk + (p.ways.map Pw.bulk).sum + p.tree.bulk m + kL p.lists + jY p.seen + 3 := rfl
  have wal := mM kind q
  have gwl := qW (vR kind q).length
  have r0 := r
  obtain ⟨ca, cp, a6, c6, a7, c7, e0, e1, e2, e3, e4, e5, e6, e7, ra, rp⟩ := r
  refine xW Tryd.func7 rfl gf7 ok7 (by simp [Tryd.ntmps7]) ?_
  repeat' (first | (with_reducible first | apply qJ | apply qB) | ((first | (with_reducible first | apply qA | apply qP | apply qD | apply qE | apply qK) | ((with_reducible first | apply qQ | apply qH | apply qI | apply zF | apply zG) <;> intro hb <;> (try simp only [hb]) <;> (try simp only [zB] at hb)) | with_reducible refine qR zH qX (by kernel_rfl) ?_) <;> try simp only [qY, qF, qM, qO, qG, qC, qN, reduceIte, seval, Int.cast_ofNat_Int, qZ, zA, qV, zS, zU, zV, zW, zH]))
  refine vD e0 fun k5 h1 m1 s1 f1 n1 => ?_
  refine qT ?_; repeat' (first | (with_reducible first | apply qJ | apply qB) | ((first | (with_reducible apply qS) | (with_reducible first | apply qA | apply qP | apply qD | apply qE | apply qK) | ((with_reducible first | apply qQ | apply qH | apply qI | apply zF | apply zG) <;> intro hb <;> (try simp only [hb]) <;> (try simp only [zB] at hb)) | with_reducible refine qR zH qX (by kernel_rfl) ?_) <;> try simp only [qY, qF, qM, qO, qG, qC, qN, reduceIte, seval, Int.cast_ofNat_Int, qZ, zA, qV, zS, zU, zV, zW, zH, gX, kU, tX, Shape.pl, List.all_cons, List.all_nil, xE]))
  refine vD rfl fun ko h2 m2 s2 f2 n2 => ?_
  have m12 := s2 _ _ m1
  have t2 := s1.trans s2
  have i2 : OT h2 ko [] := ⟨none, 0, m2, RB.nil _⟩
  have n0 : h ko = none := s1.none_of n2
  have kne : k5 ≠ ko := ne_of m1 n2
  have ga := wI (t := 27) m12 (o := 0) qA8 e2 e3
  refine qT ?_; repeat' (first | (with_reducible first | apply qJ | apply qB) | ((first | (with_reducible apply qS) | (with_reducible first | apply qA | apply qP | apply qD | apply qE | apply qK) | ((with_reducible first | apply qQ | apply qH | apply qI | apply zF | apply zG) <;> intro hb <;> (try simp only [hb]) <;> (try simp only [zB] at hb)) | with_reducible refine qR zH qX (by kernel_rfl) ?_) <;> try simp only [qY, qF, qM, qO, qG, qC, qN, reduceIte, seval, Int.cast_ofNat_Int, qZ, zA, qV, zS, zU, zV, zW, zH, ga]))
  refine (sW N h2 (ra.hs t2) kind (RB.nil h2) (by simp; omega)).mono ?_
  rintro _ h3 ⟨s3, a3, c3, rfl, r3⟩
  simp only [List.nil_append] at r3
  simp only [List.nil_append]
  have m13 := s3 _ _ m12
  have i3 := i2.hs s3
  refine qT ?_; repeat' (first | (with_reducible first | apply qJ | apply qB) | ((first | (with_reducible apply qS) | (with_reducible first | apply qA | apply qP | apply qD | apply qE | apply qK) | ((with_reducible first | apply qQ | apply qH | apply qI | apply zF | apply zG) <;> intro hb <;> (try simp only [hb]) <;> (try simp only [zB] at hb)) | with_reducible refine qR zH qX (by kernel_rfl) ?_) <;> try simp only [qY, qF, qM, qO, qG, qC, qN, reduceIte, seval, Int.cast_ofNat_Int, qZ, zA, qV, zS, zU, zV, zW, zH]))
  refine (jA i3 r3 (by simp; omega)).mono ?_
  rintro _ h4 ⟨i4, x4⟩
  rw [List.nil_append] at i4
  have m14 := x4 _ _ kne m13
  have s4 : HS h h4 := x4.new (t2.trans s3) n0
  have c0 := e5
  have fin : ∀ h5 out, OT h5 ko out → HX ko h4 h5 → out = W → ∃ a c, h5 ko = some ⟨[.slice a W.length c], 0, true, false⟩ ∧ HS h h5 ∧ RB h5 (.slice a W.length c) W := by
    rintro h5 _ ⟨a, c, m, r⟩ x rfl
    exact ⟨a, c, m, x.new s4 n0, r⟩
  by_cases hcd : q.cd = 0
  case neg =>
    have d3 : (q.cd != 0) = true := by simpa using hcd
    obtain ⟨a5, c5, m5, s5, r5⟩ := fin h4 _ i4 (HX.refl _ _) (by rw [← hW, yF, if_pos hcd]; simp [wby])
    refine qT ?_; repeat' (first | (with_reducible first | apply qJ | apply qB) | ((first | (with_reducible apply qS) | (with_reducible first | apply qA | apply qP | apply qD | apply qE | apply qK) | ((with_reducible first | apply qQ | apply qH | apply qI | apply zF | apply zG) <;> intro hb <;> (try simp only [hb]) <;> (try simp only [zB] at hb)) | with_reducible refine qR zH qX (by kernel_rfl) ?_) <;> try simp only [qY, qF, qM, qO, qG, qC, qN, reduceIte, seval, Int.cast_ofNat_Int, qZ, zA, qV, zS, zU, zV, zW, zH, qL m14 yD, c0, d3, gNil, qL m5 zI]))
    exact ⟨s5, a5, c5, rfl, r5⟩
  have d3 : (q.cd != 0) = false := by simpa using hcd
  have hw' : (qU (vR kind q).length ++ vR kind q) ++ gR size kind p = W := by rw [← hW, yF, if_neg (by simpa using hcd)]; rfl
  clear hW
  have gp := wI (t := 38) m14 (o := 9) sz38 e4 (by obtain ⟨_, _, _, _, _, _, _, _, _, l, _⟩ := rp; exact l)
  obtain ⟨cw, ct, a11, c11, a22, c22, a23, c23, p0, p1, p2, p3, p4, p5, p6, q1, q2, q3, q4, q5⟩ := rp
  refine qT ?_; repeat' (first | (with_reducible first | apply qJ | apply qB) | ((first | (with_reducible apply qS) | (with_reducible first | apply qA | apply qP | apply qD | apply qE | apply qK) | ((with_reducible first | apply qQ | apply qH | apply qI | apply zF | apply zG) <;> intro hb <;> (try simp only [hb]) <;> (try simp only [zB] at hb)) | with_reducible refine qR zH qX (by kernel_rfl) ?_) <;> try simp only [qY, qF, qM, qO, qG, qC, qN, reduceIte, seval, Int.cast_ofNat_Int, qZ, zA, qV, zS, zU, zV, zW, zH, qL m14 yD, c0, d3, gp]))
  refine jN fun k8 h5 m5 s5 f5 n5 => ?_
  refine qT ?_; repeat' (first | (with_reducible first | apply qJ | apply qB) | ((first | (with_reducible apply qS) | (with_reducible first | apply qA | apply qP | apply qD | apply qE | apply qK) | ((with_reducible first | apply qQ | apply qH | apply qI | apply zF | apply zG) <;> intro hb <;> (try simp only [hb]) <;> (try simp only [zB] at hb)) | with_reducible refine qR zH qX (by kernel_rfl) ?_) <;> try simp only [qY, qF, qM, qO, qG, qC, qN, reduceIte, seval, Int.cast_ofNat_Int, qZ, zA, qV, zS, zU, zV, zW, zH]))
  refine uA m5 sz38 rfl (by decide) p1 rfl p0 fun h6 m6 f6 => ?_
  have s6 : HS h4 h6 := (HS.refl _).upd n5 fun j hj => (f6 j hj).trans (f5 j hj)
  have t6 := s4.trans s6
  have k8o : k8 ≠ ko := i4.ne n5
  have i6 := i4.hs s6
  have hO : (qU (vR kind q).length ++ vR kind q).length ≤ 70 + 10 * q.bulk := by rw [List.length_append]; omega
  generalize qU (vR kind q).length ++ vR kind q = O at i4 i6 hO hw'
  have fin6 : ∀ h7 out, OT h7 ko out → HX ko h6 h7 → out = W → ∃ a c, h7 ko = some ⟨[.slice a W.length c], 0, true, false⟩ ∧ HS h h7 ∧ RB h7 (.slice a W.length c) W := fun h7 out i x e => fin h7 out i ((s6.hx ko).trans x) e
  have i60 := i6
  have wsl := sE size p.seen
  have wpl := gD p.way
  have two : kind = 3 ∨ kind = 5 ∨ kind = 4 ∨ kind = 6 ∨ kind = 7 ∨ kind = 10 ∨ (kind ≠ 3 ∧ kind ≠ 5 ∧ kind ≠ 4 ∧ kind ≠ 6 ∧ kind ≠ 7 ∧ kind ≠ 10) := by omega
  have tb6 := tb.hs t6
  rcases two with rfl | rfl | rfl | rfl | rfl | rfl | ⟨e3', e5', e4', e6', e7', e10'⟩
  · obtain ⟨ao, co, mo, ro⟩ := i6
    have gw := wI (t := 33) m6 (o := 0) kK p2 q1.cells.2.1
    refine qT ?_; repeat' (first | (with_reducible first | apply qJ | apply qB) | ((first | (with_reducible apply qS) | (with_reducible first | apply qA | apply qP | apply qD | apply qE | apply qK) | ((with_reducible first | apply qQ | apply qH | apply qI | apply zF | apply zG) <;> intro hb <;> (try simp only [hb]) <;> (try simp only [zB] at hb)) | with_reducible refine qR zH qX (by kernel_rfl) ?_) <;> try simp only [qY, qF, qM, qO, qG, qC, qN, reduceIte, seval, Int.cast_ofNat_Int, qZ, zA, qV, zS, zU, zV, zW, zH, gNil, qL mo zI, gw]))
    refine (fV N h6 ro (q1.keep (.hs t6)) (by omega)).mono ?_
    rintro _ h7 ⟨s7, a7', c7', rfl, r7⟩
    have gw' := wI (t := 33) (s7 _ _ m6) (o := 0) kK p2 q1.cells.2.1
    refine qT ?_; repeat' (first | (with_reducible first | apply qJ | apply qB) | ((first | (with_reducible apply qS) | (with_reducible first | apply qA | apply qP | apply qD | apply qE | apply qK) | ((with_reducible first | apply qQ | apply qH | apply qI | apply zF | apply zG) <;> intro hb <;> (try simp only [hb]) <;> (try simp only [zB] at hb)) | with_reducible refine qR zH qX (by kernel_rfl) ?_) <;> try simp only [qY, qF, qM, qO, qG, qC, qN, reduceIte, seval, Int.cast_ofNat_Int, qZ, zA, qV, zS, zU, zV, zW, zH, gNil, qL mo zI, gw, qL (s7 _ _ mo) zI, gw']))
    refine jX (s7 _ _ mo) zI rfl (by simp) rfl rfl fun h8 m8 f8 => ?_
    obtain ⟨i8, x8⟩ := i60.put s7 r7 m8 f8
    obtain ⟨a9, c9, m9, s9, r9⟩ := fin6 h8 _ i8 x8 hw'
    refine qT ?_; repeat' (first | (with_reducible first | apply qJ | apply qB) | ((first | (with_reducible apply qS) | (with_reducible first | apply qA | apply qP | apply qD | apply qE | apply qK) | ((with_reducible first | apply qQ | apply qH | apply qI | apply zF | apply zG) <;> intro hb <;> (try simp only [hb]) <;> (try simp only [zB] at hb)) | with_reducible refine qR zH qX (by kernel_rfl) ?_ | ((refine GTri.mono (kG _ _ _ false rfl) ?_); rintro _ _ ⟨rfl, hh9⟩; replace hh9 := hh9.symm; subst hh9)) <;> try simp only [qY, qF, qM, qO, qG, qC, qN, reduceIte, seval, Int.cast_ofNat_Int, qZ, zA, qV, zS, zU, zV, zW, zH, gNil, qL m9 zI]))
    exact ⟨s9, a9, c9, rfl, r9⟩
  · obtain ⟨ao, co, mo, ro⟩ := i6
    have gw := wI (t := 33) m6 (o := 0) kK p2 q1.cells.2.1
    refine qT ?_; repeat' (first | (with_reducible first | apply qJ | apply qB) | ((first | (with_reducible apply qS) | (with_reducible first | apply qA | apply qP | apply qD | apply qE | apply qK) | ((with_reducible first | apply qQ | apply qH | apply qI | apply zF | apply zG) <;> intro hb <;> (try simp only [hb]) <;> (try simp only [zB] at hb)) | with_reducible refine qR zH qX (by kernel_rfl) ?_) <;> try simp only [qY, qF, qM, qO, qG, qC, qN, reduceIte, seval, Int.cast_ofNat_Int, qZ, zA, qV, zS, zU, zV, zW, zH, gNil, qL mo zI, gw]))
    refine (fV N h6 ro (q1.keep (.hs t6)) (by omega)).mono ?_
    rintro _ h7 ⟨s7, a7', c7', rfl, r7⟩
    have gw' := wI (t := 33) (s7 _ _ m6) (o := 0) kK p2 q1.cells.2.1
    refine qT ?_; repeat' (first | (with_reducible first | apply qJ | apply qB) | ((first | (with_reducible apply qS) | (with_reducible first | apply qA | apply qP | apply qD | apply qE | apply qK) | ((with_reducible first | apply qQ | apply qH | apply qI | apply zF | apply zG) <;> intro hb <;> (try simp only [hb]) <;> (try simp only [zB] at hb)) | with_reducible refine qR zH qX (by kernel_rfl) ?_) <;> try simp only [qY, qF, qM, qO, qG, qC, qN, reduceIte, seval, Int.cast_ofNat_Int, qZ, zA, qV, zS, zU, zV, zW, zH, gNil, qL mo zI, gw, qL (s7 _ _ mo) zI, gw']))
    refine jX (s7 _ _ mo) zI rfl (by simp) rfl rfl fun h8 m8 f8 => ?_
    obtain ⟨i8, x8⟩ := i60.put s7 r7 m8 f8
    obtain ⟨a9, c9, m9, s9, r9⟩ := fin6 h8 _ i8 x8 hw'
    refine qT ?_; repeat' (first | (with_reducible first | apply qJ | apply qB) | ((first | (with_reducible apply qS) | (with_reducible first | apply qA | apply qP | apply qD | apply qE | apply qK) | ((with_reducible first | apply qQ | apply qH | apply qI | apply zF | apply zG) <;> intro hb <;> (try simp only [hb]) <;> (try simp only [zB] at hb)) | with_reducible refine qR zH qX (by kernel_rfl) ?_ | ((refine GTri.mono (kG _ _ _ false rfl) ?_); rintro _ _ ⟨rfl, hh9⟩; replace hh9 := hh9.symm; subst hh9)) <;> try simp only [qY, qF, qM, qO, qG, qC, qN, reduceIte, seval, Int.cast_ofNat_Int, qZ, zA, qV, zS, zU, zV, zW, zH, gNil, qL m9 zI]))
    exact ⟨s9, a9, c9, rfl, r9⟩
  · obtain ⟨ao, co, mo, ro⟩ := i6
    have gw := wI (t := 33) m6 (o := 0) kK p2 q1.cells.2.1
    refine qT ?_; repeat' (first | (with_reducible first | apply qJ | apply qB) | ((first | (with_reducible apply qS) | (with_reducible first | apply qA | apply qP | apply qD | apply qE | apply qK) | ((with_reducible first | apply qQ | apply qH | apply qI | apply zF | apply zG) <;> intro hb <;> (try simp only [hb]) <;> (try simp only [zB] at hb)) | with_reducible refine qR zH qX (by kernel_rfl) ?_) <;> try simp only [qY, qF, qM, qO, qG, qC, qN, reduceIte, seval, Int.cast_ofNat_Int, qZ, zA, qV, zS, zU, zV, zW, zH, gNil, qL mo zI, gw]))
    refine (fV N h6 ro (q1.keep (.hs t6)) (by omega)).mono ?_
    rintro _ h7 ⟨s7, a7', c7', rfl, r7⟩
    have gw' := wI (t := 33) (s7 _ _ m6) (o := 0) kK p2 q1.cells.2.1
    refine qT ?_; repeat' (first | (with_reducible first | apply qJ | apply qB) | ((first | (with_reducible apply qS) | (with_reducible first | apply qA | apply qP | apply qD | apply qE | apply qK) | ((with_reducible first | apply qQ | apply qH | apply qI | apply zF | apply zG) <;> intro hb <;> (try simp only [hb]) <;> (try simp only [zB] at hb)) | with_reducible refine qR zH qX (by kernel_rfl) ?_) <;> try simp only [qY, qF, qM, qO, qG, qC, qN, reduceIte, seval, Int.cast_ofNat_Int, qZ, zA, qV, zS, zU, zV, zW, zH, gNil, qL mo zI, gw, qL (s7 _ _ mo) zI, gw']))
    refine jX (s7 _ _ mo) zI rfl (by simp) rfl rfl fun h8 m8 f8 => ?_
    obtain ⟨i8, x8⟩ := i60.put s7 r7 m8 f8
    have m88 := x8 _ _ k8o m6
    have q58 := (Keeps.ot i60 x8).rl (fun _ _ q => RRcs.keep (.ot i60 x8) q) (RL.hcR (R := RRcs) q5 t6.hc fun _ _ q => q.keep (.hs t6))
    refine qT ?_; repeat' (first | (with_reducible first | apply qJ | apply qB) | ((first | (with_reducible apply qS) | (with_reducible first | apply qA | apply qP | apply qD | apply qE | apply qK) | ((with_reducible first | apply qQ | apply qH | apply qI | apply zF | apply zG) <;> intro hb <;> (try simp only [hb]) <;> (try simp only [zB] at hb)) | with_reducible refine qR zH qX (by kernel_rfl) ?_ | ((refine GTri.mono (kG _ _ _ true rfl) ?_); rintro _ _ ⟨rfl, hh9⟩; replace hh9 := hh9.symm; subst hh9)) <;> try simp only [qY, qF, qM, qO, qG, qC, qN, reduceIte, seval, Int.cast_ofNat_Int, qZ, zA, qV, zS, zU, zV, zW, zH, gNil, qL m88 rR, p6]))
    refine (qB3 (tb6.ot i60 x8) i8 hw q58 (by simp only [List.length_append]; omega)).mono ?_
    rintro _ h9 ⟨i9, x9⟩
    obtain ⟨a9, c9, m9, s9, r9⟩ := fin6 h9 _ i9 (x8.trans x9) (by rw [List.append_assoc]; exact hw')
    refine qT ?_; repeat' (first | (with_reducible first | apply qJ | apply qB) | ((first | (with_reducible apply qS) | (with_reducible first | apply qA | apply qP | apply qD | apply qE | apply qK) | ((with_reducible first | apply qQ | apply qH | apply qI | apply zF | apply zG) <;> intro hb <;> (try simp only [hb]) <;> (try simp only [zB] at hb)) | with_reducible refine qR zH qX (by kernel_rfl) ?_) <;> try simp only [qY, qF, qM, qO, qG, qC, qN, reduceIte, seval, Int.cast_ofNat_Int, qZ, zA, qV, zS, zU, zV, zW, zH, gNil, qL m9 zI]))
    exact ⟨s9, a9, c9, rfl, r9⟩
  · obtain ⟨ao, co, mo, ro⟩ := i6
    have gw := wI (t := 31) m6 (o := 12) uM p4 q3.cells.2
    refine qT ?_; repeat' (first | (with_reducible first | apply qJ | apply qB) | ((first | (with_reducible apply qS) | (with_reducible first | apply qA | apply qP | apply qD | apply qE | apply qK) | ((with_reducible first | apply qQ | apply qH | apply qI | apply zF | apply zG) <;> intro hb <;> (try simp only [hb]) <;> (try simp only [zB] at hb)) | with_reducible refine qR zH qX (by kernel_rfl) ?_) <;> try simp only [qY, qF, qM, qO, qG, qC, qN, reduceIte, seval, Int.cast_ofNat_Int, qZ, zA, qV, zS, zU, zV, zW, zH, gNil, qL mo zI, gw]))
    refine (lW N m h6 ro (q3.keep (.hs t6) m) (by omega)).mono ?_
    rintro _ h7 ⟨s7, a7', c7', rfl, r7⟩
    have gw' := wI (t := 31) (s7 _ _ m6) (o := 12) uM p4 q3.cells.2
    refine qT ?_; repeat' (first | (with_reducible first | apply qJ | apply qB) | ((first | (with_reducible apply qS) | (with_reducible first | apply qA | apply qP | apply qD | apply qE | apply qK) | ((with_reducible first | apply qQ | apply qH | apply qI | apply zF | apply zG) <;> intro hb <;> (try simp only [hb]) <;> (try simp only [zB] at hb)) | with_reducible refine qR zH qX (by kernel_rfl) ?_) <;> try simp only [qY, qF, qM, qO, qG, qC, qN, reduceIte, seval, Int.cast_ofNat_Int, qZ, zA, qV, zS, zU, zV, zW, zH, gNil, qL mo zI, gw, qL (s7 _ _ mo) zI, gw']))
    refine jX (s7 _ _ mo) zI rfl (by simp) rfl rfl fun h8 m8 f8 => ?_
    obtain ⟨i8, x8⟩ := i60.put s7 r7 m8 f8
    obtain ⟨a9, c9, m9, s9, r9⟩ := fin6 h8 _ i8 x8 hw'
    refine qT ?_; repeat' (first | (with_reducible first | apply qJ | apply qB) | ((first | (with_reducible apply qS) | (with_reducible first | apply qA | apply qP | apply qD | apply qE | apply qK) | ((with_reducible first | apply qQ | apply qH | apply qI | apply zF | apply zG) <;> intro hb <;> (try simp only [hb]) <;> (try simp only [zB] at hb)) | with_reducible refine qR zH qX (by kernel_rfl) ?_ | ((refine GTri.mono (kG _ _ _ false rfl) ?_); rintro _ _ ⟨rfl, hh9⟩; replace hh9 := hh9.symm; subst hh9)) <;> try simp only [qY, qF, qM, qO, qG, qC, qN, reduceIte, seval, Int.cast_ofNat_Int, qZ, zA, qV, zS, zU, zV, zW, zH, gNil, qL m9 zI]))
    exact ⟨s9, a9, c9, rfl, r9⟩
  · refine qT ?_; repeat' (first | (with_reducible first | apply qJ | apply qB) | ((first | (with_reducible apply qS) | (with_reducible first | apply qA | apply qP | apply qD | apply qE | apply qK) | ((with_reducible first | apply qQ | apply qH | apply qI | apply zF | apply zG) <;> intro hb <;> (try simp only [hb]) <;> (try simp only [zB] at hb)) | with_reducible refine qR zH qX (by kernel_rfl) ?_) <;> try simp only [qY, qF, qM, qO, qG, qC, qN, reduceIte, seval, Int.cast_ofNat_Int, qZ, zA, qV, zS, zU, zV, zW, zH, qL m6 sz35, p5]))
    refine (o_lists i6 (RL.hcR (R := RBsc) q4 t6.hc fun _ _ q => q.keep (.hs t6)) (by omega)).mono ?_
    rintro _ h8 ⟨i8, x8⟩
    have wll := qA0 p.lists
    have m88 := x8 _ _ k8o m6
    have q58 := (Keeps.ot i60 x8).rl (fun _ _ q => RRcs.keep (.ot i60 x8) q) (RL.hcR (R := RRcs) q5 t6.hc fun _ _ q => q.keep (.hs t6))
    refine qT ?_; repeat' (first | (with_reducible first | apply qJ | apply qB) | ((first | (with_reducible apply qS) | (with_reducible first | apply qA | apply qP | apply qD | apply qE | apply qK) | ((with_reducible first | apply qQ | apply qH | apply qI | apply zF | apply zG) <;> intro hb <;> (try simp only [hb]) <;> (try simp only [zB] at hb)) | with_reducible refine qR zH qX (by kernel_rfl) ?_ | ((refine GTri.mono (kG _ _ _ true rfl) ?_); rintro _ _ ⟨rfl, hh9⟩; replace hh9 := hh9.symm; subst hh9)) <;> try simp only [qY, qF, qM, qO, qG, qC, qN, reduceIte, seval, Int.cast_ofNat_Int, qZ, zA, qV, zS, zU, zV, zW, zH, gNil, qL m88 rR, p6]))
    refine (qB3 (tb6.ot i60 x8) i8 hw q58 (by simp only [List.length_append]; omega)).mono ?_
    rintro _ h9 ⟨i9, x9⟩
    obtain ⟨a9, c9, m9, s9, r9⟩ := fin6 h9 _ i9 (x8.trans x9) (by rw [List.append_assoc]; exact hw')
    refine qT ?_; repeat' (first | (with_reducible first | apply qJ | apply qB) | ((first | (with_reducible apply qS) | (with_reducible first | apply qA | apply qP | apply qD | apply qE | apply qK) | ((with_reducible first | apply qQ | apply qH | apply qI | apply zF | apply zG) <;> intro hb <;> (try simp only [hb]) <;> (try simp only [zB] at hb)) | with_reducible refine qR zH qX (by kernel_rfl) ?_) <;> try simp only [qY, qF, qM, qO, qG, qC, qN, reduceIte, seval, Int.cast_ofNat_Int, qZ, zA, qV, zS, zU, zV, zW, zH, gNil, qL m9 zI]))
    exact ⟨s9, a9, c9, rfl, r9⟩
  · have hwl : p.ways.length ≤ (p.ways.map Pw.bulk).sum := wL Pw.bulk (fun x => by unfold Pw.bulk; omega) p.ways
    have gl := qW p.ways.length
    obtain ⟨V, hV⟩ : ∃ V : Nat → List UInt8, ∀ i, V i = O ++ qU p.ways.length ++ (p.ways.take i).flatMap wpath := ⟨_, fun _ => rfl⟩
    have v0 : O ++ qU p.ways.length = V 0 := by rw [hV]; simp
    have vl : ∀ i, (V i).length ≤ O.length + 9 + 9 * (p.ways.map Pw.bulk).sum := fun i => by
      have h1 := vP wpath p.ways i
      have h2 : (p.ways.flatMap wpath).length ≤ 9 * (p.ways.map Pw.bulk).sum := vU wpath Pw.bulk gD p.ways
      rw [hV]; simp only [List.length_append]; omega
    refine qT ?_; repeat' (first | (with_reducible first | apply qJ | apply qB) | ((first | (with_reducible apply qS) | (with_reducible first | apply qA | apply qP | apply qD | apply qE | apply qK) | ((with_reducible first | apply qQ | apply qH | apply qI | apply zF | apply zG) <;> intro hb <;> (try simp only [hb]) <;> (try simp only [zB] at hb)) | with_reducible refine qR zH qX (by kernel_rfl) ?_) <;> try simp only [qY, qF, qM, qO, qG, qC, qN, reduceIte, seval, Int.cast_ofNat_Int, qZ, zA, qV, zS, zU, zV, zW, zH, qL m6 qG4, p3]))
    refine (vS i6 (by omega) p.ways.length).mono ?_
    rintro _ h7 ⟨i7, x7⟩
    rw [v0] at i7
    have m7 := x7 _ _ k8o m6
    have q27 := (Keeps.ot i60 x7).rl (fun _ _ q => RPw.keep (.ot i60 x7) q) (RL.hcR (R := RPw) q2 t6.hc fun _ _ q => q.keep (.hs t6))
    have q57 := (Keeps.ot i60 x7).rl (fun _ _ q => RRcs.keep (.ot i60 x7) q) (RL.hcR (R := RRcs) q5 t6.hc fun _ _ q => q.keep (.hs t6))
    have tb7 := tb6.ot i60 x7
    refine qT ?_; repeat' (first | (with_reducible first | apply qJ | apply qB) | ((first | (with_reducible apply qS) | (with_reducible first | apply qA | apply qP | apply qD | apply qE | apply qK) | ((with_reducible first | apply qQ | apply qH | apply qI | apply zF | apply zG) <;> intro hb <;> (try simp only [hb]) <;> (try simp only [zB] at hb)) | with_reducible refine qR zH qX (by kernel_rfl) ?_) <;> try simp only [qY, qF, qM, qO, qG, qC, qN, reduceIte, seval, Int.cast_ofNat_Int, qZ, zA, qV, zS, zU, zV, zW, zH, qL m7 qG4, p3]))
    refine zZ [0, 1, 6, 7, 8, 70, 71] (fun (i : Nat) => [(72, .int .i64 (i : Int))]) (fun q i h' => p.ways.length - i = q ∧ i ≤ p.ways.length ∧ OT h' ko (V i) ∧ HX ko h7 h') p.ways.length 0 (by simp [lk]) ⟨rfl, by omega, i7, HX.refl _ _⟩ ?_
    rintro _ j h8 ⟨rfl, hj, i8, x8⟩
    have m8 := x8 _ _ k8o m7
    have vj := vl j
    by_cases hil : j < p.ways.length
    case neg =>
      have d4 : decide ((j : Int) < (p.ways.length : Int)) = false := decide_eq_false (by omega)
      obtain rfl : j = p.ways.length := by omega
      have q58 := (Keeps.ot i7 x8).rl (fun _ _ q => RRcs.keep (.ot i7 x8) q) q57
      refine qT ?_; repeat' (first | (with_reducible first | apply qJ | apply qB) | ((first | (with_reducible apply qS) | (with_reducible first | apply qA | apply qP | apply qD | apply qE | apply qK) | ((with_reducible first | apply qQ | apply qH | apply qI | apply zF | apply zG) <;> intro hb <;> (try simp only [hb]) <;> (try simp only [zB] at hb)) | with_reducible refine qR zH qX (by kernel_rfl) ?_ | ((refine GTri.mono (kG _ _ _ true rfl) ?_); rintro _ _ ⟨rfl, hh9⟩; replace hh9 := hh9.symm; subst hh9)) <;> try simp only [qY, qF, qM, qO, qG, qC, qN, reduceIte, seval, Int.cast_ofNat_Int, qZ, zA, qV, zS, zU, zV, zW, zH, d4, gNil, qL m8 rR, p6]))
      refine (qB3 (tb7.ot i7 x8) i8 hw q58 (by omega)).mono ?_
      rintro _ h9 ⟨i9, x9⟩
      obtain ⟨a9, c9, m9, s9, r9⟩ := fin6 h9 _ i9 ((x7.trans x8).trans x9) (by
        rw [hV, List.take_length, ← hw']
        show _ = O ++ (qU p.ways.length ++ p.ways.flatMap wpath ++ yE size p.seen)
        simp only [List.append_assoc])
      refine qT ?_; repeat' (first | (with_reducible first | apply qJ | apply qB) | ((first | (with_reducible apply qS) | (with_reducible first | apply qA | apply qP | apply qD | apply qE | apply qK) | ((with_reducible first | apply qQ | apply qH | apply qI | apply zF | apply zG) <;> intro hb <;> (try simp only [hb]) <;> (try simp only [zB] at hb)) | with_reducible refine qR zH qX (by kernel_rfl) ?_) <;> try simp only [qY, qF, qM, qO, qG, qC, qN, reduceIte, seval, Int.cast_ofNat_Int, qZ, zA, qV, zS, zU, zV, zW, zH, gNil, qL m9 zI]))
      exact ⟨s9, a9, c9, rfl, r9⟩
    have d4 : decide ((j : Int) < (p.ways.length : Int)) = true := decide_eq_true (by omega)
    have wi : IntKind.i64.wrap ((j : Int) + 1) = ((j + 1 : Nat) : Int) := by rw [wrap64 (by omega) (by omega)]; omega
    obtain ⟨x, hx⟩ : ∃ x, p.ways[j]? = some x := ⟨_, List.getElem?_eq_getElem hil⟩
    have hxb := uE Pw.bulk hx
    have q28 := (Keeps.ot i7 x8).rl (fun _ _ q => RPw.keep (.ot i7 x8) q) q27
    obtain ⟨ad, cs2, g1, g2, y1⟩ := RL.at (P := Tryd.prog) q28 Tryd.underlying34 kK hx
    obtain ⟨y2, y3, _⟩ := y1.cells
    have vv : V j ++ wpath x = V (j + 1) := by rw [hV, hV, xN wpath p.ways hx]; simp only [List.append_assoc]
    refine qT ?_; repeat' (first | (with_reducible first | apply qJ | apply qB) | ((first | (with_reducible apply qS) | (with_reducible first | apply qA | apply qP | apply qD | apply qE | apply qK) | ((with_reducible first | apply qQ | apply qH | apply qI | apply zF | apply zG) <;> intro hb <;> (try simp only [hb]) <;> (try simp only [zB] at hb)) | with_reducible refine qR zH qX (by kernel_rfl) ?_) <;> try simp only [qY, qF, qM, qO, qG, qC, qN, reduceIte, seval, Int.cast_ofNat_Int, qZ, zA, qV, zS, zU, zV, zW, zH, d4, g1, wC kK g2]))
    refine jN fun k9 h9 m9 s9 f9 n9 => ?_
    refine qT ?_; repeat' (first | (with_reducible first | apply qJ | apply qB) | ((first | (with_reducible apply qS) | (with_reducible first | apply qA | apply qP | apply qD | apply qE | apply qK) | ((with_reducible first | apply qQ | apply qH | apply qI | apply zF | apply zG) <;> intro hb <;> (try simp only [hb]) <;> (try simp only [zB] at hb)) | with_reducible refine qR zH qX (by kernel_rfl) ?_) <;> try simp only [qY, qF, qM, qO, qG, qC, qN, reduceIte, seval, Int.cast_ofNat_Int, qZ, zA, qV, zS, zU, zV, zW, zH]))
    refine uA m9 kK rfl (by decide) y3 rfl y2 fun h10 m10 f10 => ?_
    have s10 : HS h8 h10 := (HS.refl _).upd n9 fun j hj => (f10 j hj).trans (f9 j hj)
    have i10 := i8.hs s10
    have i100 := i10
    obtain ⟨ao, co, mo, ro⟩ := i10
    have gw := vA m10 kK y3
    refine qT ?_; repeat' (first | (with_reducible first | apply qJ | apply qB) | ((first | (with_reducible apply qS) | (with_reducible first | apply qA | apply qP | apply qD | apply qE | apply qK) | ((with_reducible first | apply qQ | apply qH | apply qI | apply zF | apply zG) <;> intro hb <;> (try simp only [hb]) <;> (try simp only [zB] at hb)) | with_reducible refine qR zH qX (by kernel_rfl) ?_) <;> try simp only [qY, qF, qM, qO, qG, qC, qN, reduceIte, seval, Int.cast_ofNat_Int, qZ, zA, qV, zS, zU, zV, zW, zH, gNil, qL mo zI, gw]))
    refine (fV N h10 ro (y1.keep (.hs s10)) (by omega)).mono ?_
    rintro _ h11 ⟨s11, a7', c7', rfl, r11⟩
    rw [vv] at r11
    simp only [vv]
    have gw' := vA (s11 _ _ m10) kK y3
    refine qT ?_; repeat' (first | (with_reducible first | apply qJ | apply qB) | ((first | (with_reducible apply qS) | (with_reducible first | apply qA | apply qP | apply qD | apply qE | apply qK) | ((with_reducible first | apply qQ | apply qH | apply qI | apply zF | apply zG) <;> intro hb <;> (try simp only [hb]) <;> (try simp only [zB] at hb)) | with_reducible refine qR zH qX (by kernel_rfl) ?_) <;> try simp only [qY, qF, qM, qO, qG, qC, qN, reduceIte, seval, Int.cast_ofNat_Int, qZ, zA, qV, zS, zU, zV, zW, zH, gNil, qL mo zI, gw, qL (s11 _ _ mo) zI, gw']))
    refine jX (s11 _ _ mo) zI rfl (by simp) rfl rfl fun h12 m12' f12 => ?_
    obtain ⟨i12, x12⟩ := i100.put s11 r11 m12' f12
    refine qT ?_; repeat' (first | (with_reducible first | apply qJ | apply qB) | ((first | (with_reducible apply qS) | (with_reducible first | apply qA | apply qP | apply qD | apply qE | apply qK) | ((with_reducible first | apply qQ | apply qH | apply qI | apply zF | apply zG) <;> intro hb <;> (try simp only [hb]) <;> (try simp only [zB] at hb)) | with_reducible refine qR zH qX (by kernel_rfl) ?_) <;> try simp only [qY, qF, qM, qO, qG, qC, qN, reduceIte, seval, Int.cast_ofNat_Int, qZ, zA, qV, zS, zU, zV, zW, zH, wi]))
    exact ⟨_, j + 1, by omega, (by simp only [List.forall_mem_cons, List.not_mem_nil, false_implies, implies_true, List.map, List.cons_append, List.nil_append, lk, Nat.reduceEqDiff, reduceIte, and_true, true_and]), rfl, by omega, i12, (x8.trans (s10.hx ko)).trans x12⟩
  · have ee : gR size kind p = [] := by simp only [gR, e3', e5', e4', e6', e7', e10', if_false, or_self]
    rw [ee, List.append_nil] at hw'
    have el : decide (kind = 4 ∨ kind = 7 ∨ kind = 10) = false := decide_eq_false (by omega)
    replace e3' : (kind == 3) = false := by simpa using e3'
    replace e5' : (kind == 5) = false := by simpa using e5'
    replace e4' : (kind == 4) = false := by simpa using e4'
    replace e6' : (kind == 6) = false := by simpa using e6'
    replace e7' : (kind == 7) = false := by simpa using e7'
    replace e10' : (kind == 10) = false := by simpa using e10'
    obtain ⟨a9, c9, m9, s9, r9⟩ := fin6 h6 _ i6 (HX.refl _ _) hw'
    refine qT ?_; repeat' (first | (with_reducible first | apply qJ | apply qB) | ((first | (with_reducible apply qS) | (with_reducible first | apply qA | apply qP | apply qD | apply qE | apply qK) | ((with_reducible first | apply qQ | apply qH | apply qI | apply zF | apply zG) <;> intro hb <;> (try simp only [hb]) <;> (try simp only [zB] at hb)) | with_reducible refine qR zH qX (by kernel_rfl) ?_ | ((refine GTri.mono (kG _ _ _ false el) ?_); rintro _ _ ⟨rfl, hh9⟩; replace hh9 := hh9.symm; subst hh9)) <;> try simp only [qY, qF, qM, qO, qG, qC, qN, reduceIte, seval, Int.cast_ofNat_Int, qZ, zA, qV, zS, zU, zV, zW, zH, gNil, qL m9 zI, e3', e5', e4', e6', e7', e10']))
    exact ⟨s9, a9, c9, rfl, r9⟩
theorem zP : type_of% (And.intro zX (And.intro uW (And.intro uV (And.intro tV (And.intro jM (And.intro qG3 (And.intro mR (And.intro tT (And.intro tS (And.intro yU (And.intro uD (And.intro jL (And.intro tU (And.intro mQ (And.intro mP (And.intro uX (And.intro wJ (And.intro gO (And.intro wS rs8))))))))))))))))))) := And.intro zX (And.intro uW (And.intro uV (And.intro tV (And.intro jM (And.intro qG3 (And.intro mR (And.intro tT (And.intro tS (And.intro yU (And.intro uD (And.intro jL (And.intro tU (And.intro mQ (And.intro mP (And.intro uX (And.intro wJ (And.intro gO (And.intro wS rs8))))))))))))))))))
def zD : Nat → List (Nat × List Nat) × List Nat
  | 9 => ([(0, []), (1, []), (2, []), (3, []), (5, []), (6, []), (7, []), (8, []), (4, [8]), (9, []), (10, [])], [0, 0, 2, 6, 15, 0, 0, 64, 192, 511, 1023])
  | _ => ([], [])
theorem qD8 (N : Nat) {h : GH} {size : Int} (kind : Int) {m : Nat} {q : An} {p : Pf m} {L : List Value} (r : RPL h q p L) (hl : q.bulk + p.bulk ≤ 1100000) : GTri Tryd.prog N 8 [.int .i64 size, .int .i64 kind, .agg L.toArray] h fun v h' => HS h h' ∧ ∃ a c, v = .slice a (yF size kind q p).length c ∧ RB h' (.slice a (yF size kind q p).length c) (yF size kind q p) := by
  generalize hW : yF size kind q p = W
  have hb : p.bulk = p.way.bulk + (p.ways.map Pw.bulk).sum + p.tree.bulk m + kL p.lists + jY p.seen + 3 := rfl
  have wal := mM kind q
  have gwl := qW (vR kind q).length
  obtain ⟨ca, cp, a6, c6, a7, c7, e0, e1, e2, e3, e4, e5, e6, e7, ra, rp⟩ := r
  refine xW Tryd.func8 rfl gf8 ok8 (by simp [Tryd.ntmps8]) ?_
  repeat' (first | (with_reducible first | apply qJ | apply qB) | ((first | (with_reducible first | apply qA | apply qP | apply qD | apply qE | apply qK) | ((with_reducible first | apply qQ | apply qH | apply qI | apply zF | apply zG) <;> intro hb <;> (try simp only [hb]) <;> (try simp only [zB] at hb)) | with_reducible refine qR zD qX (by kernel_rfl) ?_) <;> try simp only [qY, qF, qM, qO, qG, qC, qN, reduceIte, seval, Int.cast_ofNat_Int, qZ, zA, qV, zS, zU, zV, zP, zD]))
  refine vD e0 fun k5 h1 m1 s1 f1 n1 => ?_
  have ga := wI (t := 27) m1 (o := 0) qA8 e2 e3
  refine qT ?_; repeat' (first | (with_reducible first | apply qJ | apply qB) | ((first | (with_reducible apply qS) | (with_reducible first | apply qA | apply qP | apply qD | apply qE | apply qK) | ((with_reducible first | apply qQ | apply qH | apply qI | apply zF | apply zG) <;> intro hb <;> (try simp only [hb]) <;> (try simp only [zB] at hb)) | with_reducible refine qR zD qX (by kernel_rfl) ?_) <;> try simp only [qY, qF, qM, qO, qG, qC, qN, reduceIte, seval, Int.cast_ofNat_Int, qZ, zA, qV, zS, zU, zV, zP, zD, ga]))
  refine (qI6 N h1 (ra.hs s1) kind (RB.nil h1) (by simp; omega)).mono ?_
  rintro _ h3 ⟨s3, a3, c3, rfl, r3⟩
  simp only [List.nil_append] at r3
  simp only [List.nil_append]
  have m3 := s3 _ _ m1
  have t3 := s1.trans s3
  refine qT ?_; repeat' (first | (with_reducible first | apply qJ | apply qB) | ((first | (with_reducible apply qS) | (with_reducible first | apply qA | apply qP | apply qD | apply qE | apply qK) | ((with_reducible first | apply qQ | apply qH | apply qI | apply zF | apply zG) <;> intro hb <;> (try simp only [hb]) <;> (try simp only [zB] at hb)) | with_reducible refine qR zD qX (by kernel_rfl) ?_) <;> try simp only [qY, qF, qM, qO, qG, qC, qN, reduceIte, seval, Int.cast_ofNat_Int, qZ, zA, qV, zS, zU, zV, zP, zD]))
  refine (wA N h3 (RB.nil h3) r3 (by simp; omega)).mono ?_
  rintro _ h4 ⟨s4, o4⟩
  rw [List.nil_append] at o4
  have m4 := s4 _ _ m3
  have t4 := t3.trans s4
  obtain ⟨b4, d4, rfl⟩ := o4.form
  have c0 := e5
  by_cases hcd : q.cd = 0
  case neg =>
    have d3 : (q.cd != 0) = true := by simpa using hcd
    have e : qU (vR kind q).length ++ vR kind q = W := by rw [← hW, yF, if_pos hcd]; simp [wby]
    rw [e] at o4 ⊢
    refine qT ?_; repeat' (first | (with_reducible first | apply qJ | apply qB) | ((first | (with_reducible apply qS) | (with_reducible first | apply qA | apply qP | apply qD | apply qE | apply qK) | ((with_reducible first | apply qQ | apply qH | apply qI | apply zF | apply zG) <;> intro hb <;> (try simp only [hb]) <;> (try simp only [zB] at hb)) | with_reducible refine qR zD qX (by kernel_rfl) ?_) <;> try simp only [qY, qF, qM, qO, qG, qC, qN, reduceIte, seval, Int.cast_ofNat_Int, qZ, zA, qV, zS, zU, zV, zP, zD, qL m4 yD, c0, d3]))
    exact ⟨t4, b4, d4, rfl, o4.rb⟩
  have d3 : (q.cd != 0) = false := by simpa using hcd
  have hw' : (qU (vR kind q).length ++ vR kind q) ++ gR size kind p = W := by rw [← hW, yF, if_neg (by simpa using hcd)]; rfl
  clear hW
  obtain ⟨cw, ct, a11, c11, a22, c22, a23, c23, p0, p1, p2, p3, p4, p5, p6, q1, q2, q3, q4, q5⟩ := rp
  have l2 : (L.drop 9).take 11 = cw := fD e4 p2 (by decide)
  have l3 : L[20]? = some (.slice a11 p.ways.length c11) := jW e4 p3
  have l4 : (L.drop 21).take 10 = ct := fD e4 p4 (by decide)
  have l5 : L[31]? = some (.slice a22 p.lists.length c22) := jW e4 p5
  have l6 : L[32]? = some (.slice a23 p.seen.length c23) := jW e4 p6
  have hO : (qU (vR kind q).length ++ vR kind q).length ≤ 70 + 10 * q.bulk := by rw [List.length_append]; omega
  generalize qU (vR kind q).length ++ vR kind q = O at o4 hO hw' ⊢
  have wsl := sE size p.seen
  have wpl := gD p.way
  have gw := wI (t := 33) m4 (o := 9) kK l2 q1.cells.2.1
  have gt := wI (t := 31) m4 (o := 21) uM l4 q3.cells.2
  have two : kind = 3 ∨ kind = 5 ∨ kind = 4 ∨ kind = 6 ∨ kind = 7 ∨ kind = 10 ∨ (kind ≠ 3 ∧ kind ≠ 5 ∧ kind ≠ 4 ∧ kind ≠ 6 ∧ kind ≠ 7 ∧ kind ≠ 10) := by omega
  rcases two with rfl | rfl | rfl | rfl | rfl | rfl | ⟨e3', e5', e4', e6', e7', e10'⟩
  · refine qT ?_; repeat' (first | (with_reducible first | apply qJ | apply qB) | ((first | (with_reducible apply qS) | (with_reducible first | apply qA | apply qP | apply qD | apply qE | apply qK) | ((with_reducible first | apply qQ | apply qH | apply qI | apply zF | apply zG) <;> intro hb <;> (try simp only [hb]) <;> (try simp only [zB] at hb)) | with_reducible refine qR zD qX (by kernel_rfl) ?_) <;> try simp only [qY, qF, qM, qO, qG, qC, qN, reduceIte, seval, Int.cast_ofNat_Int, qZ, zA, qV, zS, zU, zV, zP, zD, qL m4 yD, c0, d3, gw]))
    refine (gM N h4 o4.rb (q1.keep (.hs t4)) (by omega)).mono ?_
    rintro _ h7 ⟨s7, a7', c7', rfl, r7⟩
    have e : O ++ wpath p.way = W := hw'
    rw [e] at r7 ⊢
    refine qT ?_; repeat' (first | (with_reducible first | apply qJ | apply qB) | ((first | (with_reducible apply qS) | (with_reducible first | apply qA | apply qP | apply qD | apply qE | apply qK) | ((with_reducible first | apply qQ | apply qH | apply qI | apply zF | apply zG) <;> intro hb <;> (try simp only [hb]) <;> (try simp only [zB] at hb)) | with_reducible refine qR zD qX (by kernel_rfl) ?_) <;> try simp only [qY, qF, qM, qO, qG, qC, qN, reduceIte, seval, Int.cast_ofNat_Int, qZ, zA, qV, zS, zU, zV, zP, zD]))
    exact ⟨t4.trans s7, a7', c7', rfl, r7⟩
  · refine qT ?_; repeat' (first | (with_reducible first | apply qJ | apply qB) | ((first | (with_reducible apply qS) | (with_reducible first | apply qA | apply qP | apply qD | apply qE | apply qK) | ((with_reducible first | apply qQ | apply qH | apply qI | apply zF | apply zG) <;> intro hb <;> (try simp only [hb]) <;> (try simp only [zB] at hb)) | with_reducible refine qR zD qX (by kernel_rfl) ?_) <;> try simp only [qY, qF, qM, qO, qG, qC, qN, reduceIte, seval, Int.cast_ofNat_Int, qZ, zA, qV, zS, zU, zV, zP, zD, qL m4 yD, c0, d3, gw]))
    refine (gM N h4 o4.rb (q1.keep (.hs t4)) (by omega)).mono ?_
    rintro _ h7 ⟨s7, a7', c7', rfl, r7⟩
    have e : O ++ wpath p.way = W := hw'
    rw [e] at r7 ⊢
    refine qT ?_; repeat' (first | (with_reducible first | apply qJ | apply qB) | ((first | (with_reducible apply qS) | (with_reducible first | apply qA | apply qP | apply qD | apply qE | apply qK) | ((with_reducible first | apply qQ | apply qH | apply qI | apply zF | apply zG) <;> intro hb <;> (try simp only [hb]) <;> (try simp only [zB] at hb)) | with_reducible refine qR zD qX (by kernel_rfl) ?_) <;> try simp only [qY, qF, qM, qO, qG, qC, qN, reduceIte, seval, Int.cast_ofNat_Int, qZ, zA, qV, zS, zU, zV, zP, zD]))
    exact ⟨t4.trans s7, a7', c7', rfl, r7⟩
  · refine qT ?_; repeat' (first | (with_reducible first | apply qJ | apply qB) | ((first | (with_reducible apply qS) | (with_reducible first | apply qA | apply qP | apply qD | apply qE | apply qK) | ((with_reducible first | apply qQ | apply qH | apply qI | apply zF | apply zG) <;> intro hb <;> (try simp only [hb]) <;> (try simp only [zB] at hb)) | with_reducible refine qR zD qX (by kernel_rfl) ?_) <;> try simp only [qY, qF, qM, qO, qG, qC, qN, reduceIte, seval, Int.cast_ofNat_Int, qZ, zA, qV, zS, zU, zV, zP, zD, qL m4 yD, c0, d3, gw, qL m4 rR, l6]))
    refine (gM N h4 o4.rb (q1.keep (.hs t4)) (by omega)).mono ?_
    rintro _ h7 ⟨s7, a7', c7', rfl, r7⟩
    have t7 := t4.trans s7
    have m7 := s7 _ _ m4
    have gw' := wI (t := 33) m7 (o := 9) kK l2 q1.cells.2.1
    refine qT ?_; repeat' (first | (with_reducible first | apply qJ | apply qB) | ((first | (with_reducible apply qS) | (with_reducible first | apply qA | apply qP | apply qD | apply qE | apply qK) | ((with_reducible first | apply qQ | apply qH | apply qI | apply zF | apply zG) <;> intro hb <;> (try simp only [hb]) <;> (try simp only [zB] at hb)) | with_reducible refine qR zD qX (by kernel_rfl) ?_) <;> try simp only [qY, qF, qM, qO, qG, qC, qN, reduceIte, seval, Int.cast_ofNat_Int, qZ, zA, qV, zS, zU, zV, zP, zD, gw, gw', qL m4 rR, qL m7 rR, l6]))
    refine (qB1 N h7 r7 (RL.hcR (R := RRcs) q5 t7.hc fun _ _ q => q.keep (.hs t7)) (by simp only [List.length_append]; omega)).mono ?_
    rintro _ h8 ⟨s8, a8, c8, rfl, r8⟩
    have e : O ++ wpath p.way ++ yE size p.seen = W := by rw [List.append_assoc]; exact hw'
    rw [e] at r8 ⊢
    refine qT ?_; repeat' (first | (with_reducible first | apply qJ | apply qB) | ((first | (with_reducible apply qS) | (with_reducible first | apply qA | apply qP | apply qD | apply qE | apply qK) | ((with_reducible first | apply qQ | apply qH | apply qI | apply zF | apply zG) <;> intro hb <;> (try simp only [hb]) <;> (try simp only [zB] at hb)) | with_reducible refine qR zD qX (by kernel_rfl) ?_) <;> try simp only [qY, qF, qM, qO, qG, qC, qN, reduceIte, seval, Int.cast_ofNat_Int, qZ, zA, qV, zS, zU, zV, zP, zD, qL (s8 _ _ m7) rR, l6]))
    exact ⟨t7.trans s8, a8, c8, rfl, r8⟩
  · refine qT ?_; repeat' (first | (with_reducible first | apply qJ | apply qB) | ((first | (with_reducible apply qS) | (with_reducible first | apply qA | apply qP | apply qD | apply qE | apply qK) | ((with_reducible first | apply qQ | apply qH | apply qI | apply zF | apply zG) <;> intro hb <;> (try simp only [hb]) <;> (try simp only [zB] at hb)) | with_reducible refine qR zD qX (by kernel_rfl) ?_) <;> try simp only [qY, qF, qM, qO, qG, qC, qN, reduceIte, seval, Int.cast_ofNat_Int, qZ, zA, qV, zS, zU, zV, zP, zD, qL m4 yD, c0, d3, gt]))
    refine (sU N m h4 o4.rb (q3.keep (.hs t4) m) (by omega)).mono ?_
    rintro _ h7 ⟨s7, a7', c7', rfl, r7⟩
    have e : O ++ vC m p.tree = W := hw'
    rw [e] at r7 ⊢
    refine qT ?_; repeat' (first | (with_reducible first | apply qJ | apply qB) | ((first | (with_reducible apply qS) | (with_reducible first | apply qA | apply qP | apply qD | apply qE | apply qK) | ((with_reducible first | apply qQ | apply qH | apply qI | apply zF | apply zG) <;> intro hb <;> (try simp only [hb]) <;> (try simp only [zB] at hb)) | with_reducible refine qR zD qX (by kernel_rfl) ?_) <;> try simp only [qY, qF, qM, qO, qG, qC, qN, reduceIte, seval, Int.cast_ofNat_Int, qZ, zA, qV, zS, zU, zV, zP, zD]))
    exact ⟨t4.trans s7, a7', c7', rfl, r7⟩
  · have hll : p.lists.length ≤ kL p.lists := wL gQ (fun _ => Nat.le_add_left _ _) p.lists
    have gl := qW p.lists.length
    obtain ⟨V, hV⟩ : ∃ V : Nat → List UInt8, ∀ i, V i = O ++ qU p.lists.length ++ (p.lists.take i).flatMap wlist := ⟨_, fun _ => rfl⟩
    have v0 : O ++ qU p.lists.length = V 0 := by rw [hV]; simp
    have vl : ∀ i, (V i).length ≤ O.length + 9 + 9 * kL p.lists := fun i => by
      have h1 := vP wlist p.lists i
      have h2 : (p.lists.flatMap wlist).length ≤ 9 * kL p.lists := vU wlist gQ dC p.lists
      rw [hV]; simp only [List.length_append]; omega
    refine qT ?_; repeat' (first | (with_reducible first | apply qJ | apply qB) | ((first | (with_reducible apply qS) | (with_reducible first | apply qA | apply qP | apply qD | apply qE | apply qK) | ((with_reducible first | apply qQ | apply qH | apply qI | apply zF | apply zG) <;> intro hb <;> (try simp only [hb]) <;> (try simp only [zB] at hb)) | with_reducible refine qR zD qX (by kernel_rfl) ?_) <;> try simp only [qY, qF, qM, qO, qG, qC, qN, reduceIte, seval, Int.cast_ofNat_Int, qZ, zA, qV, zS, zU, zV, zP, zD, qL m4 yD, c0, d3, qL m4 sz35, l5]))
    refine (xA N h4 o4.rb (by omega) p.lists.length).mono ?_
    rintro _ h7 ⟨s7, o7⟩
    rw [v0] at o7
    obtain ⟨b7, d7, rfl⟩ := o7.form
    have t7 := t4.trans s7
    have m7 := s7 _ _ m4
    have q7 := RL.hcR (R := RBsc) q4 t7.hc fun _ _ q => q.keep (.hs t7)
    refine qT ?_; repeat' (first | (with_reducible first | apply qJ | apply qB) | ((first | (with_reducible apply qS) | (with_reducible first | apply qA | apply qP | apply qD | apply qE | apply qK) | ((with_reducible first | apply qQ | apply qH | apply qI | apply zF | apply zG) <;> intro hb <;> (try simp only [hb]) <;> (try simp only [zB] at hb)) | with_reducible refine qR zD qX (by kernel_rfl) ?_) <;> try simp only [qY, qF, qM, qO, qG, qC, qN, reduceIte, seval, Int.cast_ofNat_Int, qZ, zA, qV, zS, zU, zV, zP, zD, qL m7 sz35, l5]))
    refine zZ [0, 5, 6, 88, 89] (fun (y : Nat × (Option Addr × Nat)) => [(7, .slice y.2.1 (V y.1).length y.2.2), (90, .int .i64 (y.1 : Int))]) (fun q y h' => p.lists.length - y.1 = q ∧ y.1 ≤ p.lists.length ∧ HS h7 h' ∧ RB h' (.slice y.2.1 (V y.1).length y.2.2) (V y.1)) p.lists.length (0, b7, d7) (by simp [lk]) ⟨rfl, by omega, HS.refl _, o7.rb⟩ ?_
    rintro _ ⟨j, b8, d8⟩ h8 ⟨rfl, hj, s8, r8⟩
    simp only at hj r8
    have m8 := s8 _ _ m7
    have t8 := t7.trans s8
    have q8 := RL.hcR (R := RBsc) q7 s8.hc fun _ _ q => q.keep (.hs s8)
    have vj := vl j
    by_cases hil : j < p.lists.length
    case neg =>
      have z4 : decide ((j : Int) < (p.lists.length : Int)) = false := decide_eq_false (by omega)
      obtain rfl : j = p.lists.length := by omega
      refine qT ?_; repeat' (first | (with_reducible first | apply qJ | apply qB) | ((first | (with_reducible apply qS) | (with_reducible first | apply qA | apply qP | apply qD | apply qE | apply qK) | ((with_reducible first | apply qQ | apply qH | apply qI | apply zF | apply zG) <;> intro hb <;> (try simp only [hb]) <;> (try simp only [zB] at hb)) | with_reducible refine qR zD qX (by kernel_rfl) ?_) <;> try simp only [qY, qF, qM, qO, qG, qC, qN, reduceIte, seval, Int.cast_ofNat_Int, qZ, zA, qV, zS, zU, zV, zP, zD, z4, qL m8 rR, l6]))
      refine (qB1 N h8 r8 (RL.hcR (R := RRcs) q5 t8.hc fun _ _ q => q.keep (.hs t8)) (by omega)).mono ?_
      rintro _ h9 ⟨s9, a9, c9, rfl, r9⟩
      have e : V p.lists.length ++ yE size p.seen = W := by
        rw [hV, List.take_length, ← hw']
        show _ = O ++ (qU p.lists.length ++ p.lists.flatMap wlist ++ yE size p.seen)
        simp only [List.append_assoc]
      rw [e] at r9 ⊢
      refine qT ?_; repeat' (first | (with_reducible first | apply qJ | apply qB) | ((first | (with_reducible apply qS) | (with_reducible first | apply qA | apply qP | apply qD | apply qE | apply qK) | ((with_reducible first | apply qQ | apply qH | apply qI | apply zF | apply zG) <;> intro hb <;> (try simp only [hb]) <;> (try simp only [zB] at hb)) | with_reducible refine qR zD qX (by kernel_rfl) ?_) <;> try simp only [qY, qF, qM, qO, qG, qC, qN, reduceIte, seval, Int.cast_ofNat_Int, qZ, zA, qV, zS, zU, zV, zP, zD]))
      exact ⟨t8.trans s9, a9, c9, rfl, r9⟩
    have z4 : decide ((j : Int) < (p.lists.length : Int)) = true := decide_eq_true (by omega)
    have wi : IntKind.i64.wrap ((j : Int) + 1) = ((j + 1 : Nat) : Int) := by rw [wrap64 (by omega) (by omega)]; omega
    obtain ⟨w, hx⟩ : ∃ x, p.lists[j]? = some x := ⟨_, List.getElem?_eq_getElem hil⟩
    obtain ⟨ad, cs2, g1, g2, a', c', rfl, y1⟩ := RL.at (P := Tryd.prog) q8 Tryd.underlying35 rC hx
    have hws := uE gQ hx
    have hws' : jS w + 1 ≤ kL p.lists := hws
    have hww : w.length ≤ jS w := wL _ (fun y => Nat.le_add_left _ _) w
    have gw2 := qW w.length
    obtain ⟨U, hU⟩ : ∃ U : Nat → List UInt8, ∀ i, U i = V j ++ qU w.length ++ (w.take i).flatMap wby := ⟨_, fun _ => rfl⟩
    have u0 : V j ++ qU w.length = U 0 := by rw [hU]; simp
    have ul : ∀ i, (U i).length ≤ O.length + 9 + 9 * kL p.lists := fun i => by
      have h1 := vP wby w i
      have h2 : V (j + 1) = V j ++ qU w.length ++ w.flatMap wby := by rw [hV, hV, xN wlist p.lists hx, wlist]; simp only [List.append_assoc]
      have h3 := vl (j + 1)
      rw [h2] at h3
      rw [hU]; simp only [List.length_append] at h3 ⊢; omega
    refine qT ?_; repeat' (first | (with_reducible first | apply qJ | apply qB) | ((first | (with_reducible apply qS) | (with_reducible first | apply qA | apply qP | apply qD | apply qE | apply qK) | ((with_reducible first | apply qQ | apply qH | apply qI | apply zF | apply zG) <;> intro hb <;> (try simp only [hb]) <;> (try simp only [zB] at hb)) | with_reducible refine qR zD qX (by kernel_rfl) ?_) <;> try simp only [qY, qF, qM, qO, qG, qC, qN, reduceIte, seval, Int.cast_ofNat_Int, qZ, zA, qV, zS, zU, zV, zP, zD, z4, g1, wP rC g2]))
    refine (xA N h8 r8 (by omega) w.length).mono ?_
    rintro _ h9 ⟨s9, o9⟩
    rw [u0] at o9
    obtain ⟨b9, d9, rfl⟩ := o9.form
    have y9 : RBs h9 (.slice a' w.length c') w := RL.hcR (R := RBc) y1 s9.hc fun _ _ q => q.keep (.hs s9)
    refine qT ?_; repeat' (first | (with_reducible first | apply qJ | apply qB) | ((first | (with_reducible apply qS) | (with_reducible first | apply qA | apply qP | apply qD | apply qE | apply qK) | ((with_reducible first | apply qQ | apply qH | apply qI | apply zF | apply zG) <;> intro hb <;> (try simp only [hb]) <;> (try simp only [zB] at hb)) | with_reducible refine qR zD qX (by kernel_rfl) ?_) <;> try simp only [qY, qF, qM, qO, qG, qC, qN, reduceIte, seval, Int.cast_ofNat_Int, qZ, zA, qV, zS, zU, zV, zP, zD]))
    refine zZ [0, 5, 6, 11, 88, 89, 90, 91, 92, 93, 94, 95, 96, 97, 98, 99] (fun (y : Nat × (Option Addr × Nat)) => [(7, .slice y.2.1 (U y.1).length y.2.2), (100, .int .i64 (y.1 : Int))]) (fun q y h' => w.length - y.1 = q ∧ y.1 ≤ w.length ∧ HS h9 h' ∧ RB h' (.slice y.2.1 (U y.1).length y.2.2) (U y.1)) w.length (0, b9, d9) (by simp [lk]) ⟨rfl, by omega, HS.refl _, o9.rb⟩ ?_
    rintro _ ⟨i, b10, d10⟩ h10 ⟨rfl, hi, s10, r10⟩
    simp only at hi r10
    have y10 : RBs h10 (.slice a' w.length c') w := RL.hcR (R := RBc) y9 s10.hc fun _ _ q => q.keep (.hs s10)
    have ui := ul i
    by_cases him : i < w.length
    case neg =>
      have z5 : decide ((i : Int) < (w.length : Int)) = false := decide_eq_false (by omega)
      obtain rfl : i = w.length := by omega
      refine qT ?_; repeat' (first | (with_reducible first | apply qJ | apply qB) | ((first | (with_reducible apply qS) | (with_reducible first | apply qA | apply qP | apply qD | apply qE | apply qK) | ((with_reducible first | apply qQ | apply qH | apply qI | apply zF | apply zG) <;> intro hb <;> (try simp only [hb]) <;> (try simp only [zB] at hb)) | with_reducible refine qR zD qX (by kernel_rfl) ?_) <;> try simp only [qY, qF, qM, qO, qG, qC, qN, reduceIte, seval, Int.cast_ofNat_Int, qZ, zA, qV, zS, zU, zV, zP, zD, z5, wi]))
      have e : U w.length = V (j + 1) := by rw [hU, hV, hV, xN wlist p.lists hx, wlist, List.take_length]; simp only [List.append_assoc]
      rw [e] at r10
      refine ⟨_, (j + 1, b10, d10), by omega, ?_, rfl, by omega, (s8.trans s9).trans s10, r10⟩
      simp only [e]
      exact (by simp only [List.forall_mem_cons, List.not_mem_nil, false_implies, implies_true, List.map, List.cons_append, List.nil_append, lk, Nat.reduceEqDiff, reduceIte, and_true, true_and])
    have z5 : decide ((i : Int) < (w.length : Int)) = true := decide_eq_true (by omega)
    have wm : IntKind.i64.wrap ((i : Int) + 1) = ((i + 1 : Nat) : Int) := by rw [wrap64 (by omega) (by omega)]; omega
    obtain ⟨y, hy⟩ : ∃ x, w[i]? = some x := ⟨_, List.getElem?_eq_getElem him⟩
    obtain ⟨ad2, cs3, g3, g4, a11', c11', rfl, y6⟩ := RL.at (P := Tryd.prog) y10 Tryd.underlying62 zI hy
    have hU1 : U (i + 1) = U i ++ qU y.length ++ y := by rw [hU, hU, xN wby w hy, wby]; simp only [List.append_assoc]
    have ui1 := ul (i + 1)
    rw [hU1] at ui1
    simp only [List.length_append] at ui1
    refine qT ?_; repeat' (first | (with_reducible first | apply qJ | apply qB) | ((first | (with_reducible apply qS) | (with_reducible first | apply qA | apply qP | apply qD | apply qE | apply qK) | ((with_reducible first | apply qQ | apply qH | apply qI | apply zF | apply zG) <;> intro hb <;> (try simp only [hb]) <;> (try simp only [zB] at hb)) | with_reducible refine qR zD qX (by kernel_rfl) ?_) <;> try simp only [qY, qF, qM, qO, qG, qC, qN, reduceIte, seval, Int.cast_ofNat_Int, qZ, zA, qV, zS, zU, zV, zP, zD, z5, g3, wP zI g4]))
    refine (wA N h10 r10 y6 (by omega)).mono ?_
    rintro _ h11 ⟨s11, o11⟩
    rw [← hU1] at o11
    obtain ⟨b11, d11, rfl⟩ := o11.form
    refine qT ?_; repeat' (first | (with_reducible first | apply qJ | apply qB) | ((first | (with_reducible apply qS) | (with_reducible first | apply qA | apply qP | apply qD | apply qE | apply qK) | ((with_reducible first | apply qQ | apply qH | apply qI | apply zF | apply zG) <;> intro hb <;> (try simp only [hb]) <;> (try simp only [zB] at hb)) | with_reducible refine qR zD qX (by kernel_rfl) ?_) <;> try simp only [qY, qF, qM, qO, qG, qC, qN, reduceIte, seval, Int.cast_ofNat_Int, qZ, zA, qV, zS, zU, zV, zP, zD, wm]))
    exact ⟨_, (i + 1, b11, d11), by omega, (by simp only [List.forall_mem_cons, List.not_mem_nil, false_implies, implies_true, List.map, List.cons_append, List.nil_append, lk, Nat.reduceEqDiff, reduceIte, and_true, true_and]), rfl, by omega, s10.trans s11, o11.rb⟩
  · have hwl : p.ways.length ≤ (p.ways.map Pw.bulk).sum := wL Pw.bulk (fun x => by unfold Pw.bulk; omega) p.ways
    have gl := qW p.ways.length
    obtain ⟨V, hV⟩ : ∃ V : Nat → List UInt8, ∀ i, V i = O ++ qU p.ways.length ++ (p.ways.take i).flatMap wpath := ⟨_, fun _ => rfl⟩
    have v0 : O ++ qU p.ways.length = V 0 := by rw [hV]; simp
    have vl : ∀ i, (V i).length ≤ O.length + 9 + 9 * (p.ways.map Pw.bulk).sum := fun i => by
      have h1 := vP wpath p.ways i
      have h2 : (p.ways.flatMap wpath).length ≤ 9 * (p.ways.map Pw.bulk).sum := vU wpath Pw.bulk gD p.ways
      rw [hV]; simp only [List.length_append]; omega
    refine qT ?_; repeat' (first | (with_reducible first | apply qJ | apply qB) | ((first | (with_reducible apply qS) | (with_reducible first | apply qA | apply qP | apply qD | apply qE | apply qK) | ((with_reducible first | apply qQ | apply qH | apply qI | apply zF | apply zG) <;> intro hb <;> (try simp only [hb]) <;> (try simp only [zB] at hb)) | with_reducible refine qR zD qX (by kernel_rfl) ?_) <;> try simp only [qY, qF, qM, qO, qG, qC, qN, reduceIte, seval, Int.cast_ofNat_Int, qZ, zA, qV, zS, zU, zV, zP, zD, qL m4 yD, c0, d3, qL m4 qG4, l3]))
    refine (xA N h4 o4.rb (by omega) p.ways.length).mono ?_
    rintro _ h7 ⟨s7, o7⟩
    rw [v0] at o7
    obtain ⟨b7, d7, rfl⟩ := o7.form
    have t7 := t4.trans s7
    have m7 := s7 _ _ m4
    have q7 := RL.hcR (R := RPw) q2 t7.hc fun _ _ q => q.keep (.hs t7)
    refine qT ?_; repeat' (first | (with_reducible first | apply qJ | apply qB) | ((first | (with_reducible apply qS) | (with_reducible first | apply qA | apply qP | apply qD | apply qE | apply qK) | ((with_reducible first | apply qQ | apply qH | apply qI | apply zF | apply zG) <;> intro hb <;> (try simp only [hb]) <;> (try simp only [zB] at hb)) | with_reducible refine qR zD qX (by kernel_rfl) ?_) <;> try simp only [qY, qF, qM, qO, qG, qC, qN, reduceIte, seval, Int.cast_ofNat_Int, qZ, zA, qV, zS, zU, zV, zP, zD, qL m7 qG4, l3]))
    refine zZ [0, 5, 6, 24, 55, 56] (fun (y : Nat × (Option Addr × Nat)) => [(7, .slice y.2.1 (V y.1).length y.2.2), (57, .int .i64 (y.1 : Int))]) (fun q y h' => p.ways.length - y.1 = q ∧ y.1 ≤ p.ways.length ∧ HS h7 h' ∧ RB h' (.slice y.2.1 (V y.1).length y.2.2) (V y.1)) p.ways.length (0, b7, d7) (by simp [lk]) ⟨rfl, by omega, HS.refl _, o7.rb⟩ ?_
    rintro _ ⟨j, b8, d8⟩ h8 ⟨rfl, hj, s8, r8⟩
    simp only at hj r8
    have m8 := s8 _ _ m7
    have t8 := t7.trans s8
    have vj := vl j
    by_cases hil : j < p.ways.length
    case neg =>
      have z4 : decide ((j : Int) < (p.ways.length : Int)) = false := decide_eq_false (by omega)
      obtain rfl : j = p.ways.length := by omega
      refine qT ?_; repeat' (first | (with_reducible first | apply qJ | apply qB) | ((first | (with_reducible apply qS) | (with_reducible first | apply qA | apply qP | apply qD | apply qE | apply qK) | ((with_reducible first | apply qQ | apply qH | apply qI | apply zF | apply zG) <;> intro hb <;> (try simp only [hb]) <;> (try simp only [zB] at hb)) | with_reducible refine qR zD qX (by kernel_rfl) ?_) <;> try simp only [qY, qF, qM, qO, qG, qC, qN, reduceIte, seval, Int.cast_ofNat_Int, qZ, zA, qV, zS, zU, zV, zP, zD, z4, qL m8 rR, l6]))
      refine (qB1 N h8 r8 (RL.hcR (R := RRcs) q5 t8.hc fun _ _ q => q.keep (.hs t8)) (by omega)).mono ?_
      rintro _ h9 ⟨s9, a9, c9, rfl, r9⟩
      have e : V p.ways.length ++ yE size p.seen = W := by
        rw [hV, List.take_length, ← hw']
        show _ = O ++ (qU p.ways.length ++ p.ways.flatMap wpath ++ yE size p.seen)
        simp only [List.append_assoc]
      rw [e] at r9 ⊢
      refine qT ?_; repeat' (first | (with_reducible first | apply qJ | apply qB) | ((first | (with_reducible apply qS) | (with_reducible first | apply qA | apply qP | apply qD | apply qE | apply qK) | ((with_reducible first | apply qQ | apply qH | apply qI | apply zF | apply zG) <;> intro hb <;> (try simp only [hb]) <;> (try simp only [zB] at hb)) | with_reducible refine qR zD qX (by kernel_rfl) ?_) <;> try simp only [qY, qF, qM, qO, qG, qC, qN, reduceIte, seval, Int.cast_ofNat_Int, qZ, zA, qV, zS, zU, zV, zP, zD]))
      exact ⟨t8.trans s9, a9, c9, rfl, r9⟩
    have z4 : decide ((j : Int) < (p.ways.length : Int)) = true := decide_eq_true (by omega)
    have wi : IntKind.i64.wrap ((j : Int) + 1) = ((j + 1 : Nat) : Int) := by rw [wrap64 (by omega) (by omega)]; omega
    obtain ⟨x, hx⟩ : ∃ x, p.ways[j]? = some x := ⟨_, List.getElem?_eq_getElem hil⟩
    have hxb := uE Pw.bulk hx
    have q8 := RL.hcR (R := RPw) q7 s8.hc fun _ _ q => q.keep (.hs s8)
    obtain ⟨ad, cs2, g1, g2, y1⟩ := RL.at (P := Tryd.prog) q8 Tryd.underlying34 kK hx
    obtain ⟨y2, y3, _⟩ := y1.cells
    have vv : V j ++ wpath x = V (j + 1) := by rw [hV, hV, xN wpath p.ways hx]; simp only [List.append_assoc]
    refine qT ?_; repeat' (first | (with_reducible first | apply qJ | apply qB) | ((first | (with_reducible apply qS) | (with_reducible first | apply qA | apply qP | apply qD | apply qE | apply qK) | ((with_reducible first | apply qQ | apply qH | apply qI | apply zF | apply zG) <;> intro hb <;> (try simp only [hb]) <;> (try simp only [zB] at hb)) | with_reducible refine qR zD qX (by kernel_rfl) ?_) <;> try simp only [qY, qF, qM, qO, qG, qC, qN, reduceIte, seval, Int.cast_ofNat_Int, qZ, zA, qV, zS, zU, zV, zP, zD, z4, g1, wC kK g2]))
    refine jN fun k9 h9 m9 s9 f9 n9 => ?_
    refine qT ?_; repeat' (first | (with_reducible first | apply qJ | apply qB) | ((first | (with_reducible apply qS) | (with_reducible first | apply qA | apply qP | apply qD | apply qE | apply qK) | ((with_reducible first | apply qQ | apply qH | apply qI | apply zF | apply zG) <;> intro hb <;> (try simp only [hb]) <;> (try simp only [zB] at hb)) | with_reducible refine qR zD qX (by kernel_rfl) ?_) <;> try simp only [qY, qF, qM, qO, qG, qC, qN, reduceIte, seval, Int.cast_ofNat_Int, qZ, zA, qV, zS, zU, zV, zP, zD]))
    refine uA m9 kK rfl (by decide) y3 rfl y2 fun h10 m10 f10 => ?_
    have s10 : HS h8 h10 := (HS.refl _).upd n9 fun j hj => (f10 j hj).trans (f9 j hj)
    have gw := vA m10 kK y3
    refine qT ?_; repeat' (first | (with_reducible first | apply qJ | apply qB) | ((first | (with_reducible apply qS) | (with_reducible first | apply qA | apply qP | apply qD | apply qE | apply qK) | ((with_reducible first | apply qQ | apply qH | apply qI | apply zF | apply zG) <;> intro hb <;> (try simp only [hb]) <;> (try simp only [zB] at hb)) | with_reducible refine qR zD qX (by kernel_rfl) ?_) <;> try simp only [qY, qF, qM, qO, qG, qC, qN, reduceIte, seval, Int.cast_ofNat_Int, qZ, zA, qV, zS, zU, zV, zP, zD, gw]))
    refine (gM N h10 (r8.hs s10) (y1.keep (.hs s10)) (by omega)).mono ?_
    rintro _ h11 ⟨s11, a7', c7', rfl, r11⟩
    rw [vv] at r11
    simp only [vv]
    refine qT ?_; repeat' (first | (with_reducible first | apply qJ | apply qB) | ((first | (with_reducible apply qS) | (with_reducible first | apply qA | apply qP | apply qD | apply qE | apply qK) | ((with_reducible first | apply qQ | apply qH | apply qI | apply zF | apply zG) <;> intro hb <;> (try simp only [hb]) <;> (try simp only [zB] at hb)) | with_reducible refine qR zD qX (by kernel_rfl) ?_) <;> try simp only [qY, qF, qM, qO, qG, qC, qN, reduceIte, seval, Int.cast_ofNat_Int, qZ, zA, qV, zS, zU, zV, zP, zD, wi]))
    exact ⟨_, (j + 1, a7', c7'), by omega, (by simp only [List.forall_mem_cons, List.not_mem_nil, false_implies, implies_true, List.map, List.cons_append, List.nil_append, lk, Nat.reduceEqDiff, reduceIte, and_true, true_and]), rfl, by omega, (s8.trans s10).trans s11, r11⟩
  · have ee : gR size kind p = [] := by simp only [gR, e3', e5', e4', e6', e7', e10', if_false, or_self]
    rw [ee, List.append_nil] at hw'
    replace e3' : (kind == 3) = false := by simpa using e3'
    replace e5' : (kind == 5) = false := by simpa using e5'
    replace e4' : (kind == 4) = false := by simpa using e4'
    replace e6' : (kind == 6) = false := by simpa using e6'
    replace e7' : (kind == 7) = false := by simpa using e7'
    replace e10' : (kind == 10) = false := by simpa using e10'
    rw [hw'] at o4 ⊢
    refine qT ?_; repeat' (first | (with_reducible first | apply qJ | apply qB) | ((first | (with_reducible apply qS) | (with_reducible first | apply qA | apply qP | apply qD | apply qE | apply qK) | ((with_reducible first | apply qQ | apply qH | apply qI | apply zF | apply zG) <;> intro hb <;> (try simp only [hb]) <;> (try simp only [zB] at hb)) | with_reducible refine qR zD qX (by kernel_rfl) ?_) <;> try simp only [qY, qF, qM, qO, qG, qC, qN, reduceIte, seval, Int.cast_ofNat_Int, qZ, zA, qV, zS, zU, zV, zP, zD, qL m4 yD, c0, d3, e3', e5', e4', e6', e7', e10']))
    exact ⟨t4, b4, _, rfl, o4.rb⟩
theorem yT : type_of% (And.intro zX (And.intro jM (And.intro jL (And.intro wJ (And.intro gO rs9))))) := And.intro zX (And.intro jM (And.intro jL (And.intro wJ (And.intro gO rs9))))
theorem gG : type_of% (And.intro zX (And.intro uW (And.intro uV (And.intro tV (And.intro jM (And.intro qG3 (And.intro mR (And.intro tT (And.intro tS (And.intro yU (And.intro uD (And.intro jL (And.intro tU (And.intro mQ (And.intro mP (And.intro qG2 (And.intro fA (And.intro qG1 (And.intro qG0 (And.intro uX (And.intro wJ (And.intro gO rs4)))))))))))))))))))))) := And.intro zX (And.intro uW (And.intro uV (And.intro tV (And.intro jM (And.intro qG3 (And.intro mR (And.intro tT (And.intro tS (And.intro yU (And.intro uD (And.intro jL (And.intro tU (And.intro mQ (And.intro mP (And.intro qG2 (And.intro fA (And.intro qG1 (And.intro qG0 (And.intro uX (And.intro wJ (And.intro gO rs4)))))))))))))))))))))
theorem mB : type_of% (And.intro zX (And.intro uW (And.intro uV (And.intro uD (And.intro uX (And.intro wJ (And.intro gO (And.intro wS rs5)))))))) := And.intro zX (And.intro uW (And.intro uV (And.intro uD (And.intro uX (And.intro wJ (And.intro gO (And.intro wS rs5)))))))
theorem gH : type_of% (And.intro zX (And.intro uD (And.intro mQ (And.intro mP (And.intro wJ (And.intro gO (And.intro wS rs3))))))) := And.intro zX (And.intro uD (And.intro mQ (And.intro mP (And.intro wJ (And.intro gO (And.intro wS rs3))))))
def vX : Nat → List (Nat × List Nat) × List Nat
  | 3 => ([(0, []), (1, []), (2, []), (4, []), (5, []), (6, []), (3, [6]), (7, []), (8, []), (9, []), (10, []), (11, []), (12, [])], [0, 0, 0, 7, 0, 0, 0, 127, 255, 511, 1023, 2047, 4095])
  | _ => ([], [])
theorem sT (N : Nat) : ∀ (m : Nat) (h : GH) {cs : List Value} {p : Pd m} (q : RPd m h cs p) (hl : p.bulk m ≤ 100000000) (d : Int), GTri Tryd.prog N 9 [.agg cs.toArray, .int .i64 d] h fun v h' => HS h h' ∧ ∃ b, v = .bool b
  | 0, h, cs, p, q, hl, d => q.elim
  | m + 1, h, cs, p, q, hl, d => by
    have ih := sT N m
    have q0 : RPn (RPd m) h cs p := q
    have hb : Pd.bulk (m + 1) p = Pn.bulk (Pd.bulk m) p := rfl
    have hbb : Pn.bulk (Pd.bulk m) p = p.id.length + p.ky.length + p.pf.length + p.lf.length + p.rt.length + (p.kids.map (Pd.bulk m)).sum + 10 := rfl
    obtain ⟨a1, c1, a2, c2, a3, c3, a4, c4, a5, c5, a6, c6, rfl, _, _, _, _, _, r6⟩ := q
    rw [hb] at hl
    generalize hP : (p : Pn (Pd m)) = P0 at *
    clear hP hb
    obtain ⟨kd, si, dp, nw, id, ky, pf, lf, rt, kids⟩ := P0
    simp only at r6 hbb
    have hk : kids.length ≤ (kids.map (Pd.bulk m)).sum := wL (Pd.bulk m) (fun x => by
      cases m with
      | zero => exact nomatch x
      | succ m => show 1 ≤ Pn.bulk (Pd.bulk m) x; unfold Pn.bulk; omega) kids
    refine xW Tryd.func9 rfl gf9 ok9 (by simp [Tryd.ntmps9]) ?_
    repeat' (first | (with_reducible first | apply qJ | apply qB) | ((first | (with_reducible first | apply qA | apply qP | apply qD | apply qE | apply qK) | ((with_reducible first | apply qQ | apply qH | apply qI) <;> intro hb <;> (try simp only [hb]) <;> (try simp only [zB] at hb))) <;> try simp only [qY, qF, qM, qO, qG, qC, qN, reduceIte, seval, Int.cast_ofNat_Int, qZ, zA, yT, Pn.cs]))
    refine vD rfl fun k1 h1 m1 s1 f1 n1 => ?_
    by_cases hd : d > 30
    · have d1 : decide (d > 30) = true := decide_eq_true hd
      refine qT ?_; repeat' (first | (with_reducible first | apply qJ | apply qB) | ((first | (with_reducible apply qS) | (with_reducible first | apply qA | apply qP | apply qD | apply qE | apply qK) | ((with_reducible first | apply qQ | apply qH | apply qI) <;> intro hb <;> (try simp only [hb]) <;> (try simp only [zB] at hb))) <;> try simp only [qY, qF, qM, qO, qG, qC, qN, reduceIte, seval, Int.cast_ofNat_Int, qZ, zA, yT, d1, qL m1 dE]))
      exact ⟨s1, false, rfl⟩
    have d1 : decide (d > 30) = false := decide_eq_false hd
    by_cases h3 : kids.length > 3
    · have d2 : decide ((kids.length : Int) > 3) = true := decide_eq_true (by omega)
      refine qT ?_; repeat' (first | (with_reducible first | apply qJ | apply qB) | ((first | (with_reducible apply qS) | (with_reducible first | apply qA | apply qP | apply qD | apply qE | apply qK) | ((with_reducible first | apply qQ | apply qH | apply qI) <;> intro hb <;> (try simp only [hb]) <;> (try simp only [zB] at hb))) <;> try simp only [qY, qF, qM, qO, qG, qC, qN, reduceIte, seval, Int.cast_ofNat_Int, qZ, zA, yT, d1, d2, qL m1 dE]))
      exact ⟨s1, false, rfl⟩
    have d2 : decide ((kids.length : Int) > 3) = false := decide_eq_false (by omega)
    refine qT ?_; repeat' (first | (with_reducible first | apply qJ | apply qB) | ((first | (with_reducible apply qS) | (with_reducible first | apply qA | apply qP | apply qD | apply qE | apply qK) | ((with_reducible first | apply qQ | apply qH | apply qI) <;> intro hb <;> (try simp only [hb]) <;> (try simp only [zB] at hb))) <;> try simp only [qY, qF, qM, qO, qG, qC, qN, reduceIte, seval, Int.cast_ofNat_Int, qZ, zA, yT, d1, d2, qL m1 dE]))
    refine zZ [1, 16, 17] (fun (i : Nat) => [(18, .int .i64 (i : Int))]) (fun q i h' => kids.length - i = q ∧ i ≤ kids.length ∧ HS h1 h') kids.length 0 (by simp [lk]) ⟨rfl, by omega, HS.refl _⟩ ?_
    rintro _ j h2 ⟨rfl, hj, s2⟩
    have t2 := s1.trans s2
    by_cases hil : j < kids.length
    case neg =>
      have d3 : decide ((j : Int) < (kids.length : Int)) = false := decide_eq_false (by omega)
      refine qT ?_; repeat' (first | (with_reducible first | apply qJ | apply qB) | ((first | (with_reducible apply qS) | (with_reducible first | apply qA | apply qP | apply qD | apply qE | apply qK) | ((with_reducible first | apply qQ | apply qH | apply qI) <;> intro hb <;> (try simp only [hb]) <;> (try simp only [zB] at hb))) <;> try simp only [qY, qF, qM, qO, qG, qC, qN, reduceIte, seval, Int.cast_ofNat_Int, qZ, zA, yT, d3]))
      exact ⟨t2, true, rfl⟩
    have d3 : decide ((j : Int) < (kids.length : Int)) = true := decide_eq_true (by omega)
    have wi : IntKind.i64.wrap ((j : Int) + 1) = ((j + 1 : Nat) : Int) := by rw [wrap64 (by omega) (by omega)]; omega
    obtain ⟨x, hx⟩ : ∃ x, kids[j]? = some x := ⟨_, List.getElem?_eq_getElem hil⟩
    have hxb := uE (Pd.bulk m) hx
    have k6 := RL.hcR (R := RPd m) r6 t2.hc fun _ _ q => q.keep (.hs t2) m
    obtain ⟨ad, cs2, g1, g2, p1⟩ := RL.at (P := Tryd.prog) k6 Tryd.underlying29 uM hx
    obtain ⟨y2, y3⟩ := p1.cells
    refine qT ?_; repeat' (first | (with_reducible first | apply qJ | apply qB) | ((first | (with_reducible apply qS) | (with_reducible first | apply qA | apply qP | apply qD | apply qE | apply qK) | ((with_reducible first | apply qQ | apply qH | apply qI) <;> intro hb <;> (try simp only [hb]) <;> (try simp only [zB] at hb))) <;> try simp only [qY, qF, qM, qO, qG, qC, qN, reduceIte, seval, Int.cast_ofNat_Int, qZ, zA, yT, d3, g1, wC uM g2]))
    refine jN fun k3 h3 m3 s3 f3 n3 => ?_
    refine qT ?_; repeat' (first | (with_reducible first | apply qJ | apply qB) | ((first | (with_reducible apply qS) | (with_reducible first | apply qA | apply qP | apply qD | apply qE | apply qK) | ((with_reducible first | apply qQ | apply qH | apply qI) <;> intro hb <;> (try simp only [hb]) <;> (try simp only [zB] at hb))) <;> try simp only [qY, qF, qM, qO, qG, qC, qN, reduceIte, seval, Int.cast_ofNat_Int, qZ, zA, yT]))
    refine uA m3 uM rfl (by decide) y3 rfl y2 fun h4 m4 f4 => ?_
    have s4 : HS h2 h4 := (HS.refl _).upd n3 fun j hj => (f4 j hj).trans (f3 j hj)
    refine qT ?_; repeat' (first | (with_reducible first | apply qJ | apply qB) | ((first | (with_reducible apply qS) | (with_reducible first | apply qA | apply qP | apply qD | apply qE | apply qK) | ((with_reducible first | apply qQ | apply qH | apply qI) <;> intro hb <;> (try simp only [hb]) <;> (try simp only [zB] at hb))) <;> try simp only [qY, qF, qM, qO, qG, qC, qN, reduceIte, seval, Int.cast_ofNat_Int, qZ, zA, yT, vA m4 uM y3]))
    refine (ih h4 (p1.keep (.hs s4) m) (by omega) _).mono ?_
    rintro _ h5 ⟨s5, b, rfl⟩
    cases b
    · refine qT ?_; repeat' (first | (with_reducible first | apply qJ | apply qB) | ((first | (with_reducible apply qS) | (with_reducible first | apply qA | apply qP | apply qD | apply qE | apply qK) | ((with_reducible first | apply qQ | apply qH | apply qI) <;> intro hb <;> (try simp only [hb]) <;> (try simp only [zB] at hb))) <;> try simp only [qY, qF, qM, qO, qG, qC, qN, reduceIte, seval, Int.cast_ofNat_Int, qZ, zA, yT]))
      exact ⟨(t2.trans s4).trans s5, false, rfl⟩
    · refine qT ?_; repeat' (first | (with_reducible first | apply qJ | apply qB) | ((first | (with_reducible apply qS) | (with_reducible first | apply qA | apply qP | apply qD | apply qE | apply qK) | ((with_reducible first | apply qQ | apply qH | apply qI) <;> intro hb <;> (try simp only [hb]) <;> (try simp only [zB] at hb))) <;> try simp only [qY, qF, qM, qO, qG, qC, qN, reduceIte, seval, Int.cast_ofNat_Int, qZ, zA, yT, wi]))
      exact ⟨_, j + 1, by omega, (by simp only [List.forall_mem_cons, List.not_mem_nil, false_implies, implies_true, List.map, List.cons_append, List.nil_append, lk, Nat.reduceEqDiff, reduceIte, and_true, true_and]), rfl, by omega, (s2.trans s4).trans s5⟩
theorem c_light (N : Nat) (h : GH) {m : Nat} {q : An} {p : Pf m} {L : List Value} (r : RPL h q p L) (hl : q.bulk + p.bulk ≤ 1100000) : GTri Tryd.prog N 4 [.agg L.toArray] h fun v h' => HS h h' ∧ ∃ b, v = .bool b := by
  have hb : p.bulk = p.way.bulk + (p.ways.map Pw.bulk).sum + p.tree.bulk m + kL p.lists + jY p.seen + 3 := rfl
  obtain ⟨ca, cp, a6, c6, a7, c7, e0, e1, e2, e3, e4, e5, e6, e7, ra, rp⟩ := r
  obtain ⟨cw, ct, a11, c11, a22, c22, a23, c23, p0, p1, p2, p3, p4, p5, p6, q1, q2, q3, q4, q5⟩ := rp
  have hll : p.seen.length ≤ jY p.seen := wL rT (fun _ => Nat.le_add_left _ _) p.seen
  obtain ⟨aw, cwc, ew⟩ := q1.cells.2.2
  have l2 : (L.drop 9).take 11 = cw := fD e4 p2 (by decide)
  have l1 : L[9]? = some (.slice aw p.way.hops.length cwc) := jW l2 ew
  have l3 : L[20]? = some (.slice a11 p.ways.length c11) := jW e4 p3
  have l4 : (L.drop 21).take 10 = ct := fD e4 p4 (by decide)
  have l5 : L[31]? = some (.slice a22 p.lists.length c22) := jW e4 p5
  have l6 : L[32]? = some (.slice a23 p.seen.length c23) := jW e4 p6
  refine xW Tryd.func4 rfl gf4 ok4 (by simp [Tryd.ntmps4]) ?_
  repeat' (first | (with_reducible first | apply qJ | apply qB) | ((first | (with_reducible first | apply qA | apply qP | apply qD | apply qE | apply qK) | ((with_reducible first | apply qQ | apply qH | apply qI) <;> intro hb <;> (try simp only [hb]) <;> (try simp only [zB] at hb))) <;> try simp only [qY, qF, qM, qO, qG, qC, qN, reduceIte, seval, Int.cast_ofNat_Int, qZ, zA, gG]))
  refine vD e0 fun k1 h1 m1 s1 f1 n1 => ?_
  refine qT ?_; repeat' (first | (with_reducible first | apply qJ | apply qB) | ((first | (with_reducible apply qS) | (with_reducible first | apply qA | apply qP | apply qD | apply qE | apply qK) | ((with_reducible first | apply qQ | apply qH | apply qI) <;> intro hb <;> (try simp only [hb]) <;> (try simp only [zB] at hb))) <;> try simp only [qY, qF, qM, qO, qG, qC, qN, reduceIte, seval, Int.cast_ofNat_Int, qZ, zA, gG, qL m1 qG7, qL m1 qG6, qL m1 qG5, qL m1 qG4, qL m1 sz35, qL m1 rR, e6, e7, l1, l3, l5, l6]))
  refine zZ [1, 2, 38, 39] (fun (y : Nat × Int) => [(3, .int .i64 y.2), (40, .int .i64 (y.1 : Int))]) (fun q y h' => p.seen.length - y.1 = q ∧ y.1 ≤ p.seen.length ∧ h1 = h') p.seen.length (0, _) (by simp [lk]; rfl) ⟨rfl, by omega, rfl⟩ ?_
  rintro _ ⟨j, z⟩ _ ⟨rfl, hj, rfl⟩
  simp only at hj
  by_cases hil : j < p.seen.length
  case neg =>
    have d3 : decide ((j : Int) < (p.seen.length : Int)) = false := decide_eq_false (by omega)
    have gt := wI (t := 31) m1 (o := 21) uM l4 q3.cells.2
    by_cases hz : z ≤ 400
    · have d4 : decide (z ≤ 400) = true := decide_eq_true hz
      refine qT ?_; repeat' (first | (with_reducible first | apply qJ | apply qB) | ((first | (with_reducible apply qS) | (with_reducible first | apply qA | apply qP | apply qD | apply qE | apply qK) | ((with_reducible first | apply qQ | apply qH | apply qI) <;> intro hb <;> (try simp only [hb]) <;> (try simp only [zB] at hb))) <;> try simp only [qY, qF, qM, qO, qG, qC, qN, reduceIte, seval, Int.cast_ofNat_Int, qZ, zA, gG, d3, d4, gt]))
      refine (sT N m h1 (q3.keep (.hs s1) m) (by omega) 0).mono ?_
      rintro _ h2 ⟨s2, b, rfl⟩
      refine qT ?_; repeat' (first | (with_reducible first | apply qJ | apply qB) | ((first | (with_reducible apply qS) | (with_reducible first | apply qA | apply qP | apply qD | apply qE | apply qK) | ((with_reducible first | apply qQ | apply qH | apply qI) <;> intro hb <;> (try simp only [hb]) <;> (try simp only [zB] at hb))) <;> try simp only [qY, qF, qM, qO, qG, qC, qN, reduceIte, seval, Int.cast_ofNat_Int, qZ, zA, gG, d3, d4, gt]))
      exact ⟨s1.trans s2, b, rfl⟩
    · have d4 : decide (z ≤ 400) = false := decide_eq_false hz
      refine qT ?_; repeat' (first | (with_reducible first | apply qJ | apply qB) | ((first | (with_reducible apply qS) | (with_reducible first | apply qA | apply qP | apply qD | apply qE | apply qK) | ((with_reducible first | apply qQ | apply qH | apply qI) <;> intro hb <;> (try simp only [hb]) <;> (try simp only [zB] at hb))) <;> try simp only [qY, qF, qM, qO, qG, qC, qN, reduceIte, seval, Int.cast_ofNat_Int, qZ, zA, gG, d3, d4, gt]))
      exact ⟨s1, false, rfl⟩
  have d3 : decide ((j : Int) < (p.seen.length : Int)) = true := decide_eq_true (by omega)
  have wi : IntKind.i64.wrap ((j : Int) + 1) = ((j + 1 : Nat) : Int) := by rw [wrap64 (by omega) (by omega)]; omega
  obtain ⟨w, hx⟩ : ∃ x, p.seen[j]? = some x := ⟨_, List.getElem?_eq_getElem hil⟩
  have q51 := RL.hcR (R := RRcs) q5 s1.hc fun _ _ q => q.keep (.hs s1)
  obtain ⟨ad, cs2, g1, g2, a', c', rfl, y1⟩ := RL.at (P := Tryd.prog) q51 Tryd.underlying36 qA7 hx
  refine qT ?_; repeat' (first | (with_reducible first | apply qJ | apply qB) | ((first | (with_reducible apply qS) | (with_reducible first | apply qA | apply qP | apply qD | apply qE | apply qK) | ((with_reducible first | apply qQ | apply qH | apply qI) <;> intro hb <;> (try simp only [hb]) <;> (try simp only [zB] at hb))) <;> try simp only [qY, qF, qM, qO, qG, qC, qN, reduceIte, seval, Int.cast_ofNat_Int, qZ, zA, gG, d3, g1, wP qA7 g2, wi]))
  exact ⟨_, (j + 1, IntKind.i64.wrap (z + if (1000 : Int) < (w.length : Int) then 1000 else (w.length : Int))), by omega, (by simp only [List.forall_mem_cons, List.not_mem_nil, false_implies, implies_true, List.map, List.cons_append, List.nil_append, lk, Nat.reduceEqDiff, reduceIte, and_true, true_and]), rfl, by omega⟩
def An.z (k : Int) : An := ⟨k, 0, 0, false, false, false, [], [], []⟩
theorem guint_83 : qU 83 = [1, 83] := by
  have h : xJ 83 = [83] := by rw [yP (by decide), show 83 / 256 = 0 from rfl, vE]; rfl
  have hg : kM 83 = 83 := rfl
  rw [qU, hg, h]; rfl
theorem sV (N : Nat) (h : GH) : GTri Tryd.prog N 5 [] h fun v h' => v = .bool true ∧ HS h h' := by
  refine xW Tryd.func5 rfl gf5 ok5 (by simp [Tryd.ntmps5]) ?_
  repeat' (first | (with_reducible first | apply qJ | apply qB) | ((first | (with_reducible first | apply qA | apply qP | apply qD | apply qE | apply qK) | ((with_reducible first | apply qQ | apply qH | apply qI) <;> intro hb <;> (try simp only [hb]) <;> (try simp only [zB] at hb))) <;> try simp only [qY, qF, qM, qO, qG, qC, qN, reduceIte, seval, Int.cast_ofNat_Int, qZ, zA, mB, gX, kU, tX, Shape.pl, List.all_cons, List.all_nil, xE]))
  have ra : RA h (An.z 83) (.agg #[.int .i64 83, .int .i64 0, .bool false, .bool false, .slice none 0 0, .int .i64 0, .slice none 0 0, .slice none 0 0, .bool false]) := ⟨none, 0, none, 0, none, 0, rfl, RB.nil _, RL.nil _, RL.nil _⟩
  refine (sW N h ra 3 (RB.nil h) (by simp [An.bulk, An.z])).mono ?_
  rintro _ h1 ⟨s1, a1, c1, rfl, r1⟩
  have e : [] ++ vR 3 (An.z 83) = [1, 83] := by simp [vR, An.z, guint_83]
  rw [e] at r1
  simp only [e]
  refine qT ?_; repeat' (first | (with_reducible first | apply qJ | apply qB) | ((first | (with_reducible apply qS) | (with_reducible first | apply qA | apply qP | apply qD | apply qE | apply qK) | ((with_reducible first | apply qQ | apply qH | apply qI) <;> intro hb <;> (try simp only [hb]) <;> (try simp only [zB] at hb))) <;> try simp only [qY, qF, qM, qO, qG, qC, qN, reduceIte, seval, Int.cast_ofNat_Int, qZ, zA, mB]))
  refine bs_g (cs := [.int .u8 1, .int .u8 83]) vJ rfl (by decide) (by decide) (by rw [jI _ rfl]; rfl) rfl fun k4 h4 m4 s4 f4 n4 => ?_
  have b4 : RB h4 (.slice (some ⟨k4, 0, none⟩) 2 5) [1, 83] := mS (l := [1, 83]) m4 rfl
  have e : (([1, 83] : List UInt8) == [1, 83]) = true := by decide
  refine qT ?_; repeat' (first | (with_reducible first | apply qJ | apply qB) | ((first | (with_reducible apply qS) | (with_reducible first | apply qA | apply qP | apply qD | apply qE | apply qK) | ((with_reducible first | apply qQ | apply qH | apply qI) <;> intro hb <;> (try simp only [hb]) <;> (try simp only [zB] at hb)) | ((refine GTri.mono (qF8 _ _ (r1.hs s4) b4) ?_); rintro _ _ ⟨rfl, hh9⟩; replace hh9 := hh9.symm; subst hh9)) <;> try simp only [qY, qF, qM, qO, qG, qC, qN, reduceIte, seval, Int.cast_ofNat_Int, qZ, zA, mB, e]))
  exact s1.trans s4
theorem c_TellReplies (N : Nat) {h : GH} (tb : TBd h) {size : Int} (hw : (Lit.int .i64 size).wf = true) (kind : Int) {m : Nat} {q : An} {p : Pf m} {L : List Value} (r : RPL h q p L) (hl : q.bulk + p.bulk ≤ 1100000) : GTri Tryd.prog N 3 [.int .i64 size, .int .i64 kind, .agg L.toArray] h fun v h' => v = .bool true := by
  have r0 := r
  obtain ⟨_, _, _, _, _, _, e0, e1, _⟩ := r
  refine xW Tryd.func3 rfl gf3 ok3 (by simp [Tryd.ntmps3]) ?_
  repeat' (first | (with_reducible first | apply qJ | apply qB) | ((first | (with_reducible first | apply qA | apply qP | apply qD | apply qE | apply qK) | ((with_reducible first | apply qQ | apply qH | apply qI | apply zF | apply zG) <;> intro hb <;> (try simp only [hb]) <;> (try simp only [zB] at hb)) | with_reducible refine qR vX qX (by kernel_rfl) ?_) <;> try simp only [qY, qF, qM, qO, qG, qC, qN, reduceIte, seval, Int.cast_ofNat_Int, qZ, zA, qV, zS, zU, zV, gH, vX]))
  refine vD e0 fun k1 h1 m1 s1 f1 n1 => ?_
  have gA := vA m1 sz40 e1
  have r1 := r0.keep s1
  refine qT ?_; repeat' (first | (with_reducible first | apply qJ | apply qB) | ((first | (with_reducible apply qS) | (with_reducible first | apply qA | apply qP | apply qD | apply qE | apply qK) | ((with_reducible first | apply qQ | apply qH | apply qI | apply zF | apply zG) <;> intro hb <;> (try simp only [hb]) <;> (try simp only [zB] at hb)) | with_reducible refine qR vX qX (by kernel_rfl) ?_) <;> try simp only [qY, qF, qM, qO, qG, qC, qN, reduceIte, seval, Int.cast_ofNat_Int, qZ, zA, qV, zS, zU, zV, gH, vX, gA]))
  refine (c_light N h1 r1 hl).mono ?_
  rintro _ h2 ⟨s2, b, rfl⟩
  have m2 := s2 _ _ m1
  have gA2 := vA m2 sz40 e1
  have r2 := r1.keep s2
  have t2 := s1.trans s2
  cases b
  · refine qT ?_; repeat' (first | (with_reducible first | apply qJ | apply qB) | ((first | (with_reducible apply qS) | (with_reducible first | apply qA | apply qP | apply qD | apply qE | apply qK) | ((with_reducible first | apply qQ | apply qH | apply qI | apply zF | apply zG) <;> intro hb <;> (try simp only [hb]) <;> (try simp only [zB] at hb)) | with_reducible refine qR vX qX (by kernel_rfl) ?_ | ((refine GTri.mono (sV _ _) ?_); rintro _ h3 s3)) <;> try simp only [qY, qF, qM, qO, qG, qC, qN, reduceIte, seval, Int.cast_ofNat_Int, qZ, zA, qV, zS, zU, zV, gH, vX, gA2]))
    exact s3.1
  refine qT ?_; repeat' (first | (with_reducible first | apply qJ | apply qB) | ((first | (with_reducible apply qS) | (with_reducible first | apply qA | apply qP | apply qD | apply qE | apply qK) | ((with_reducible first | apply qQ | apply qH | apply qI | apply zF | apply zG) <;> intro hb <;> (try simp only [hb]) <;> (try simp only [zB] at hb)) | with_reducible refine qR vX qX (by kernel_rfl) ?_) <;> try simp only [qY, qF, qM, qO, qG, qC, qN, reduceIte, seval, Int.cast_ofNat_Int, qZ, zA, qV, zS, zU, zV, gH, vX, gA2]))
  refine (qI5 N (tb.hs t2) hw kind r2 hl).mono ?_
  rintro _ h3 ⟨s3, a3, c3, rfl, r3⟩
  have m3 := s3 _ _ m2
  have gA3 := vA m3 sz40 e1
  refine qT ?_; repeat' (first | (with_reducible first | apply qJ | apply qB) | ((first | (with_reducible apply qS) | (with_reducible first | apply qA | apply qP | apply qD | apply qE | apply qK) | ((with_reducible first | apply qQ | apply qH | apply qI | apply zF | apply zG) <;> intro hb <;> (try simp only [hb]) <;> (try simp only [zB] at hb)) | with_reducible refine qR vX qX (by kernel_rfl) ?_) <;> try simp only [qY, qF, qM, qO, qG, qC, qN, reduceIte, seval, Int.cast_ofNat_Int, qZ, zA, qV, zS, zU, zV, gH, vX, gA2, gA3]))
  refine (qD8 N kind (r2.keep s3) hl).mono ?_
  rintro _ h4 ⟨s4, a4, c4, rfl, r4⟩
  have gA4 := vA (s4 _ _ m3) sz40 e1
  have e : (yF size kind q p == yF size kind q p) = true := by simp
  refine qT ?_; repeat' (first | (with_reducible first | apply qJ | apply qB) | ((first | (with_reducible apply qS) | (with_reducible first | apply qA | apply qP | apply qD | apply qE | apply qK) | ((with_reducible first | apply qQ | apply qH | apply qI | apply zF | apply zG) <;> intro hb <;> (try simp only [hb]) <;> (try simp only [zB] at hb)) | with_reducible refine qR vX qX (by kernel_rfl) ?_ | ((refine GTri.mono (qF8 _ _ (r3.hs s4) r4) ?_); rintro _ _ ⟨rfl, hh9⟩; replace hh9 := hh9.symm; subst hh9) | ((refine GTri.mono (sV _ _) ?_); rintro _ h5 s5)) <;> try simp only [qY, qF, qM, qO, qG, qC, qN, reduceIte, seval, Int.cast_ofNat_Int, qZ, zA, qV, zS, zU, zV, gH, vX, gA2, gA3, gA4, e]))
  exact s5.1
end Go.Gh
