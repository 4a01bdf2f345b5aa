/- Parts of this claim's proof, 13. No statement of the claim stands here. -/
import Derived.Test.YtkifgpomablpiaaGreatDoorP12
namespace Go.Gh
open Go Go.Proofs Go.RowKit
set_option linter.unusedVariables false
set_option linter.unusedSimpArgs false
set_option maxRecDepth 100000
set_option maxHeartbeats 4000000
theorem xD : type_of% (And.intro Tryz.underlying80 (And.intro zP (And.intro rF (And.intro uU (And.intro yC (And.intro uE (And.intro sW (And.intro sV (And.intro xS (And.intro qE5 (And.intro wO (And.intro ty80 rs10)))))))))))) := And.intro Tryz.underlying80 (And.intro zP (And.intro rF (And.intro uU (And.intro yC (And.intro uE (And.intro sW (And.intro sV (And.intro xS (And.intro qE5 (And.intro wO (And.intro ty80 rs10)))))))))))
def zJ : List (Nat × List Nat) := [(0, []), (1, []), (2, []), (3, []), (4, []), (5, []), (6, []), (8, []), (9, []), (7, [9]), (10, []), (11, [9]), (12, [])]
def qU4 : List Nat := [0, 0, 0, 4, 12, 30, 62, 127, 0, 256, 1023, 255, 4095]
def zI : List (Nat × List Nat) := [(0, []), (1, []), (2, []), (3, []), (4, []), (5, []), (6, []), (8, []), (9, []), (11, [0, 1, 2, 3, 6, 9]), (7, [9]), (10, []), (12, [])]
def qU3 : List Nat := [0, 0, 0, 4, 12, 30, 62, 2175, 0, 256, 3071, 0, 4095]
def zX : Nat → List (Nat × List Nat) × List Nat
  | 9 => ([(0, []), (1, []), (2, []), (3, []), (4, []), (5, []), (6, []), (7, []), (8, []), (9, []), (10, []), (11, []), (12, []), (13, [0]), (14, [0]), (15, []), (16, [])], [0, 0, 2, 0, 0, 16, 0, 64, 192, 0, 512, 1536, 3584, 8190, 16382, 32767, 65535])
  | _ => ([], [])
theorem gi80 {k i : Nat} (h : i < 2) : zL Tryz.prog 80 (.pointer (some ⟨k, 0, none⟩)) (i : Int) = some (.pointer (some ⟨k, i, none⟩)) := by
  simp [zL, Tryz.underlying80, qV]; omega
theorem OWX.by6 {h0 h h' : GH} {v : Value} {n : Nat} {cs : List Value} {k : Nat} {B : GB} (o : OWX h0 h v n cs) (hk : h k = some B) (f : ∀ j, j ≠ k → h' j = h j) (he : B.es ≠ 1 := by simp) : OWX h0 h' v n cs := by
  obtain ⟨kb, c, tl, h1, h2, h3, h4, h5, h6⟩ := o
  exact ⟨kb, c, tl, h1, h2, h3, by rw [f kb (fun e => by rw [e, hk] at h4; cases h4; exact he rfl)]; exact h4, h5, h6⟩
section
variable {K : Type} {R : GH → List Value → K → Prop}
def TxI (size : Int) (row en : List UInt8) (hops : List Hp) (hb : GH) (k8 : Nat) (i : Nat) (h' : GH) : Prop :=
  HS hb h' ∧ ∃ L v cells, L = (rI size row en (hops.drop i)).reverse ∧ h' k8 = some ⟨[v], 0, true, false⟩ ∧ OWX hb h' v L.length cells ∧ cells.all uT = true ∧ ∀ (t : Nat) y, L[t]? = some y → ∃ x, cells[t]? = some x ∧ RTx h' [x] y
theorem zI7 (N : Nat) {h : GH} (t : TK h) {cs : List Value} {p : Pn K} (r : RPn R h cs p) (fR : ∀ {h h'}, HS h h' → ∀ cs x, R h cs x → R h' cs x) (size : Int) (hl : p.pf.length ≤ 100000000) (hid : p.id.length ≤ 100000000) {a b : Option Addr} {c d : Nat} {id : List UInt8} (ri : RB h (.slice a id.length c) id) {hops : List Hp} (rh : RL 3 RHp h (.slice b hops.length d) hops) (hh : hops.length ≤ 100000000) :
    GTri Tryz.prog N 10 [.int .i64 size, .slice a id.length c, .agg (.slice b hops.length d :: cs).toArray] h fun v h' => HS h h' ∧ ∃ a c, v = .slice a (zN4 size id hops p).length c ∧ RL 1 RTx h' (.slice a (zN4 size id hops p).length c) (zN4 size id hops p) := by
  have hcs := r.len
  have hkl := vC id
  unfold zN4
  refine xH Tryz.func10 rfl gf10 ok10 (by simp [Tryz.ntmps10]) ?_
  repeat' (first | with_reducible apply qK | (with_reducible apply qB <;> try simp only [qM, qC, qF, qH, qD, qA, qG, reduceIte, seval, Int.cast_ofNat_Int, qN, qO, qL, qY, zA, zB, xD, zX, zJ, zI]))
  refine yY rfl fun k3 h1 m1 s1 f1 n1 => ?_
  refine qJ ?_; repeat' (first | ((with_reducible apply qI) <;> try simp only [qM, qC, qF, qH, qD, qA, qG, reduceIte, seval, Int.cast_ofNat_Int, qN, qO, qL, qY, zA, zB, xD, zX, zJ, zI]))
  refine yY (by simp only [List.all_cons, hcs.2.1]; rfl) fun k5 h2 m2 s2 f2 n2 => ?_
  have S2 := s1.trans s2
  have m12 := s2 _ _ m1
  have ld2 := zU (P := Tryz.prog) (t := 28) m2 gX (by simp only [List.length_cons, hcs.1])
  refine qJ ?_; repeat' (first | with_reducible apply qK | ((first | (with_reducible apply qI) | with_reducible apply qB) <;> try simp only [qM, qC, qF, qH, qD, qA, qG, reduceIte, seval, Int.cast_ofNat_Int, qN, qO, qL, qY, zA, zB, xD, zX, zJ, zI, qE m12 zT, ld2]))
  refine (zJ0 N (r.hs S2 (fR S2)) fR size hl hid (ri.hs S2) (RL.hs (R := RHp) S2 (fun _ _ q => q.hs S2) rh) hh).mono ?_
  rintro _ h3 ⟨rfl, s3⟩
  have S3 := S2.trans s3
  cases hck : qL4 size id hops p
  case false =>
    rw [if_neg (by decide)]
    refine qJ ?_; repeat' (first | with_reducible apply qK | ((first | (with_reducible apply qI) | (with_reducible first | apply qB | apply qS | apply qP)) <;> try simp only [qM, qC, qF, qH, qD, qA, qG, reduceIte, seval, Int.cast_ofNat_Int, qN, qO, qL, qY, zA, zB, xD, zX, zJ, zI, cond]))
    exact ⟨S3, none, 0, rfl, RL.nil _⟩
  rw [if_pos rfl]
  obtain ⟨hs1, hs2, hid24, ⟨last, hlast, _⟩, hright, _⟩ := zH9 hck
  have hok := qH2 hops (-1) last (by omega) hlast
  have htx := zB2 (size := size) (row := qU id) (en := xK p) ⟨qO5 p, by have := qK4 hright hs2; omega⟩ (by omega)
  refine qJ ?_; repeat' (first | with_reducible apply qK | ((first | (with_reducible apply qI) | (with_reducible first | apply qB | apply qS | apply qR)) <;> try simp only [qM, qC, qF, qH, qD, qA, qG, reduceIte, seval, Int.cast_ofNat_Int, qN, qO, qL, qY, zA, zB, xD, zX, zJ, zI, cond]))
  refine (lQ N h3 (ri.hs S3) rfl).mono ?_
  rintro _ h4 ⟨s4, ar, cr, rfl, rr, _⟩
  have m14 := s4 _ _ (s3 _ _ m12)
  have m24 := s4 _ _ (s3 _ _ m2)
  have S4 := S3.trans s4
  refine qJ ?_; repeat' (first | ((with_reducible apply qI) <;> try simp only [qM, qC, qF, qH, qD, qA, qG, reduceIte, seval, Int.cast_ofNat_Int, qN, qO, qL, qY, zA, zB, xD, zX, zJ, zI]))
  refine xG fun k7 h5 m5 s5 f5 n5 => ?_
  refine qJ ?_; repeat' (first | ((with_reducible apply qI) <;> try simp only [qM, qC, qF, qH, qD, qA, qG, reduceIte, seval, Int.cast_ofNat_Int, qN, qO, qL, qY, zA, zB, xD, zX, zJ, zI]))
  refine zW m5 qV rfl (by simp) rfl rfl fun h6 m6 f6 => ?_
  simp only [List.set_cons_zero] at m6
  have s46 := s5.upd n5 f6
  have S6 := S4.trans s46
  have m16 := s46 _ _ m14
  have m26 := s46 _ _ m24
  have ldp : wS Tryz.prog 26 h6 (.pointer (some ⟨k5, 1, none⟩)) = some (.agg cs.toArray) := wG m26 dC (by rw [List.drop_one, List.tail_cons, List.take_of_length_le (by omega)]) hcs.1
  refine qJ ?_; repeat' (first | with_reducible apply qK | ((first | (with_reducible apply qI) | with_reducible apply qB) <;> try simp only [qM, qC, qF, qH, qD, qA, qG, reduceIte, seval, Int.cast_ofNat_Int, qN, qO, qL, qY, zA, zB, xD, zX, zJ, zI, ldp]))
  refine (c_Alone N (r.hs S6 (fR S6)) hright hs2).mono ?_
  rintro _ h7 ⟨s7, ae, ce, rfl, re, sle⟩
  have S7 := S6.trans s7
  refine qJ ?_; repeat' (first | ((with_reducible apply qI) <;> try simp only [qM, qC, qF, qH, qD, qA, qG, reduceIte, seval, Int.cast_ofNat_Int, qN, qO, qL, qY, zA, zB, xD, zX, zJ, zI]))
  refine kU (cs := [.slice ae (xK p).length ce]) dK rfl (by decide) (by decide) (by rw [xN _ rfl]; rfl) rfl fun kl h8 m8 s8 f8 n8 => ?_
  refine qJ ?_; repeat' (first | ((with_reducible apply qI) <;> try simp only [qM, qC, qF, qH, qD, qA, qG, reduceIte, seval, Int.cast_ofNat_Int, qN, qO, qL, qY, zA, zB, xD, zX, zJ, zI]))
  refine xG fun k8 h9 m9 s9 f9 n9 => ?_
  refine qJ ?_; repeat' (first | ((with_reducible apply qI) <;> try simp only [qM, qC, qF, qH, qD, qA, qG, reduceIte, seval, Int.cast_ofNat_Int, qN, qO, qL, qY, zA, zB, xD, zX, zJ, zI]))
  refine zW m9 gH rfl (by simp) rfl rfl fun h10 m10 f10 => ?_
  simp only [List.set_cons_zero] at m10
  have s810 := s9.upd n9 f10
  have ml10 := s810 _ _ m8
  have s710 := s8.trans s810
  have S10 := S7.trans s710
  have m110 := s710 _ _ (s7 _ _ m16)
  have m210 := s710 _ _ (s7 _ _ m26)
  have m710 := s710 _ _ (s7 _ _ m6)
  refine qJ ?_; repeat' (first | with_reducible apply qK | ((first | (with_reducible apply qI) | with_reducible apply qB) <;> try simp only [qM, qC, qF, qH, qD, qA, qG, reduceIte, seval, Int.cast_ofNat_Int, qN, qO, qL, qY, zA, zB, xD, zX, zJ, zI, qE m210 kC]))
  refine (c_BwdH N h10 b hops.length d).mono ?_
  rintro _ h11 ⟨⟨kb, rfl, mb, nb⟩, s11⟩
  have S11 := S10.trans s11
  have m811 := s11 _ _ m10
  have ml11 := s11 _ _ ml10
  have n8h7 : h7 k8 = none := s8.none_of n9
  have kl8 : kl ≠ k8 := yM m8 n9
  obtain ⟨hb, eb⟩ : ∃ hb, hb = jI kl (jI k8 h11) := ⟨_, rfl⟩
  have hbe : ∀ j, j ≠ kl → j ≠ k8 → hb j = h11 j := fun j q1 q2 => by rw [eb, dF _ j q1, dF _ j q2]
  have hbs : HS hb h11 := by rw [eb]; exact (dG _ _).trans (dG _ _)
  have hb8 : hb k8 = none := by rw [eb, dF _ k8 kl8.symm, mP]
  have hbl : hb kl = none := by rw [eb, mP]
  have s7b : HS h7 hb := fun j B m => by
    rw [hbe j (fun q => by rw [q, n8] at m; cases m) (fun q => by rw [q, n8h7] at m; cases m)]
    exact s11 _ _ (s710 _ _ m)
  have b3 := s7b _ _ (s7 _ _ m16)
  have b7 := s7b _ _ (s7 _ _ m6)
  have bkb : hb kb = some ⟨[.slice b hops.length d], 0, true, false⟩ := by
    rw [hbe kb (fun q => by rw [q, ml10] at nb; cases nb) (fun q => by rw [q, m10] at nb; cases nb)]
    exact mb
  have rrb := ((rr.hs s46).hs s7).hs s7b
  have Sb := S7.trans s7b
  have rhb := RL.hs (R := RHp) Sb (fun _ _ q => q.hs Sb) rh
  have tb := t.hs Sb
  obtain ⟨hcells, hrc⟩ := rhb.cells (by decide)
  clear eb hbe
  refine qJ ?_; repeat' (first | with_reducible apply qQ | ((with_reducible apply qI) <;> try simp only [qM, qC, qF, qH, qD, qA, qG, reduceIte, seval, Int.cast_ofNat_Int, qN, qO, qL, qY, zA, zB, xD, zX, zJ, zI]))
  refine qV5 (gf := 78) (fb := [.pointer (some ⟨kb, 0, none⟩)]) (by simp [lk]) rfl hops.length (TxI size (qU id) (xK p) hops hb k8)
    (fun i => (.int .i64 (i : Int), .agg ((hcells.drop (i * 3)).take 3).toArray)) ?_ (fun l' r' h2' hI y => c_bwdH1 N l' r' (a := b) (c := d) (X := fun i => (hcells.drop (i * 3)).take 3) (by omega) (TxI size (qU id) (xK p) hops hb k8) hI (fun i h' hI => ⟨hI.1 _ _ bkb, fun j hj => ?_⟩) y) (fun i hi h12 hI => ?_) (fun h12 hI => ?_)
  · refine ⟨hbs, [xK p], _, [.slice ae (xK p).length ce], by rw [List.drop_length]; rfl, m811, ⟨kl, 3, false, rfl, by simp, rfl, ml11, hbl, .inr ⟨rfl, rfl⟩⟩, rfl, fun t y ht => ?_⟩
    rcases t with _ | t
    · cases ht
      exact ⟨_, rfl, ae, ce, rfl, (re.hs s710).hs s11, (sle.hs s710).hs s11⟩
    · simp at ht
  · obtain ⟨x, hx⟩ := yK hj
    obtain ⟨_, q⟩ := hrc j x hx
    obtain ⟨ad, g1, g2⟩ := q Tryz.prog 23 79 _ Tryz.underlying23 dW
    refine ⟨ad, g1, lE hI.1 (fK dW g2)⟩
  · obtain ⟨s12, L, v, cells, eL, m812, ow, hu, hel⟩ := hI
    obtain ⟨x, hx⟩ := yK hi
    obtain ⟨⟨ax, cx, ecx, rx⟩, _⟩ := hrc i x hx
    obtain ⟨x1, x2, x3, x4, x5⟩ := hok x (List.mem_of_getElem? hx)
    obtain ⟨dp, hdp⟩ : ∃ dp : Nat, x.1 = (dp : Int) := ⟨x.1.toNat, by omega⟩
    obtain ⟨nw, hnw⟩ : ∃ nw : Nat, x.2.1 = (nw : Int) := ⟨x.2.1.toNat, by omega⟩
    have hdr : hops.drop i = x :: hops.drop (i + 1) := by
      have h1 := List.getElem?_eq_some_iff.1 hx
      rw [List.drop_eq_getElem_cons h1.1, h1.2]
    have hLl : L.length = hops.length - i := by rw [eL, List.length_reverse, sB, List.length_drop]; omega
    obtain ⟨lt, hlt⟩ : ∃ lt, L[L.length - 1]? = some lt := yK (by omega)
    have elt : (rI size (qU id) (xK p) (hops.drop (i + 1))).headD [] = lt := by
      rw [eL, List.length_reverse, List.getElem?_reverse (by rw [sB]; omega)] at hlt
      rw [show (rI size (qU id) (xK p) (hops.drop (i + 1))).length - 1 - ((rI size (qU id) (xK p) (hops.drop (i + 1))).length - 1) = 0 by omega] at hlt
      rw [List.headD_eq_head?_getD, List.head?_eq_getElem?, hlt]; rfl
    have hmem : ∀ y ∈ L, y ≠ [] ∧ y.length ≤ 10000 := fun y hy => htx (hops.drop (i + 1)) (fun z hz => by have q := hok z (List.mem_of_mem_drop hz); have := q.2.2.2.2; omega) y (by rw [eL, List.mem_reverse] at hy; exact hy)
    obtain ⟨hl1, hl2⟩ := hmem lt (List.mem_of_getElem? hlt)
    obtain ⟨av, cv, ev⟩ := ow.form
    subst ev
    obtain ⟨kv, tlv, gv, mv⟩ := ow.at (P := Tryz.prog) Tryz.underlying36 qV (i := L.length - 1) (by omega)
    obtain ⟨vx, hvx, al, cl, evl, rl, sll⟩ := hel _ _ hlt
    cases evl
    have wl : IntKind.i64.wrap ((L.length : Int) - 1) = ((L.length - 1 : Nat) : Int) := by rw [wrap64 (by omega) (by omega)]; omega
    rw [Nat.mul_one] at gv
    simp only [ecx, yV]
    refine qJ ?_; repeat' (first | ((first | (with_reducible apply qI) | with_reducible apply qB) <;> try simp only [qM, qC, qF, qH, qD, qA, qG, reduceIte, seval, Int.cast_ofNat_Int, qN, qO, qL, qY, zA, zB, xD, zX, zJ, zI]))
    refine xG fun k10 h13 m13 s13 f13 n13 => ?_
    refine qJ ?_; repeat' (first | ((with_reducible apply qI) <;> try simp only [qM, qC, qF, qH, qD, qA, qG, reduceIte, seval, Int.cast_ofNat_Int, qN, qO, qL, qY, zA, zB, xD, zX, zJ, zI]))
    refine wC m13 dW rfl (by decide) rfl rfl rfl fun h14 m14 f14 => ?_
    simp only [vcells] at m14
    have s1214 := s13.upd n13 f14
    have S14 := s12.trans s1214
    have m314 := S14 _ _ b3
    have m814 := s1214 _ _ m812
    have mv14 := s1214 _ _ mv
    have lv14 : cells[L.length - 1]? = some (.slice al lt.length cl) := hvx
    refine qJ ?_; repeat' (first | (with_reducible first | apply qK | apply qQ) | ((first | (with_reducible apply qI) | with_reducible refine tK (id := 7) 7 11 zJ qU4 zI qU3 xQ (by kernel_rfl) (by kernel_rfl) (by kernel_rfl) ?_ ?_) <;> try simp only [qM, qC, qF, qH, qD, qA, qG, reduceIte, seval, Int.cast_ofNat_Int, qN, qO, qL, qY, zA, zB, xD, zX, zJ, zI, qE m314 zT, qE m814 gH, qE m14 qV, wl, gv, qE mv14 qV, lv14]))
    · refine (c_Cut N (tb.hs S14) (rl.hs s1214) (sll.hs s1214) (by omega) size).mono ?_
      rintro _ h15 ⟨s15, ac, cc, rfl, rc, slc⟩
      have s12_15 := s1214.trans s15
      have s14_15 := s15
      have S15 := S14.trans s15
      have m3_15 := S15 _ _ b3
      have m8_15 := s12_15 _ _ m812
      have m10_15 := s14_15 _ _ m14
      have mv_15 := s12_15 _ _ mv
      refine qJ ?_; repeat' (first | ((with_reducible apply qI) <;> try simp only [qM, qC, qF, qH, qD, qA, qG, reduceIte, seval, Int.cast_ofNat_Int, qN, qO, qL, qY, zA, zB, xD, zX, zJ, zI, xF, xZ, vH, Shape.pl, List.all_cons, List.all_nil, zF, qE m3_15 zT, qE m8_15 gH, qE m10_15 qV, wl, gv, qE mv_15 qV, lv14]))
      refine xG fun k11 h16 m16k s16 f16 n16 => ?_
      have s12_16 := s12_15.trans s16
      have s14_16 := s14_15.trans s16
      have S16 := S15.trans s16
      have rc16 := rc.hs s16
      have n11 : h14 k11 = none := s15.none_of n16
      have m3_16 := S16 _ _ b3
      have m8_16 := s12_16 _ _ m812
      have m10_16 := s14_16 _ _ m14
      have mv_16 := s12_16 _ _ mv
      refine qJ ?_; repeat' (first | ((with_reducible apply qI) <;> try simp only [qM, qC, qF, qH, qD, qA, qG, reduceIte, seval, Int.cast_ofNat_Int, qN, qO, qL, qY, zA, zB, xD, zX, zJ, zI, xF, xZ, vH, Shape.pl, List.all_cons, List.all_nil, zF, qE m3_16 zT, qE m8_16 gH, qE m10_16 qV, wl, gv, qE mv_16 qV, lv14]))
      refine wC m16k sz80 rfl (by decide) rfl rfl rfl fun h17 m17k f17 => ?_
      simp only [vcells] at m17k
      have s14_17 : HS h14 h17 := s14_16.upd n11 f17
      have s12_17 := s1214.trans s14_17
      have S17 := S14.trans s14_17
      have rc17 := rc16.hx m16k rfl (zE f17)
      have m3_17 := S17 _ _ b3
      have m8_17 := s12_17 _ _ m812
      have m10_17 := s14_17 _ _ m14
      have mv_17 := s12_17 _ _ mv
      have m7_17 := S17 _ _ b7
      have rr17 := rrb.hs S17
      have rx17 := (rx.hs S17)
      have gi0 : zL Tryz.prog 80 (.pointer (some ⟨k11, 0, none⟩)) 0 = some (.pointer (some ⟨k11, 0, none⟩)) := gi80 (i := 0) (by omega)
      have gi1 : zL Tryz.prog 80 (.pointer (some ⟨k11, 0, none⟩)) 1 = some (.pointer (some ⟨k11, 1, none⟩)) := gi80 (i := 1) (by omega)
      have hcl : (vD size lt).length ≤ 32 := by
        have := jK lt
        simp only [vD, List.length_take, this]; omega
      have wt : rI size (qU id) (xK p) (hops.drop i) = wY size (qU id) lt x :: rI size (qU id) (xK p) (hops.drop (i + 1)) := by
        rw [hdr, rI, elt]
      rcases sJ (gbit_nonneg.2 (show dp < 8 * (qU id).length by omega)) with hbit | hbit
      · have ebit : wY size (qU id) lt x = wW dp (qU id) nw (vD size lt) x.2.2 := by
          unfold wY
          rw [hdp, hnw, Int.toNat_natCast, Int.toNat_natCast, if_neg (by rw [hbit]; decide)]
        have ws : IntKind.i64.wrap ((1 : Int) - 0) = 1 := rfl
        refine qJ ?_; repeat' (first | with_reducible apply qK | ((first | (with_reducible apply qI) | with_reducible apply qB | with_reducible refine zH zX xQ (by kernel_rfl) ?_ | ((refine GTri.mono (gR _ _ rr17 dp (by omega)) ?_); rintro _ _ ⟨rfl, hh9⟩; replace hh9 := hh9.symm; subst hh9)) <;> try simp only [qM, qC, qF, qH, qD, qA, qG, reduceIte, seval, Int.cast_ofNat_Int, qN, qO, qL, qY, zA, zB, xD, zX, zJ, zI, hdp, hnw, hbit, ws, gi0, gi1, qE m7_17 qV, qE m17k qV, qE m10_17 zT, qE m3_17 zT, qE m8_17 gH, qE m10_17 qV, wl, gv, qE mv_17 qV, lv14]))
        refine (qJ5 N (d := dp) (w := nw) (by omega) (by omega) rr17 rc17 rx17 (by omega) (by omega) (by omega)).mono ?_
        rintro _ h18 ⟨s18, af, cf, rfl, rf, slf⟩
        have s12_18 := s12_17.trans s18
        have s14_18 := s14_17.trans s18
        have S18 := S17.trans s18
        have m3_18 := S18 _ _ b3
        have m8_18 := s12_18 _ _ m812
        have m10_18 := s14_18 _ _ m14
        have mv_18 := s12_18 _ _ mv
        have m7_18 := S18 _ _ b7
        have mk18 := s18 _ _ m17k
        refine qJ ?_; repeat' (first | ((with_reducible apply qI) <;> try simp only [qM, qC, qF, qH, qD, qA, qG, reduceIte, seval, Int.cast_ofNat_Int, qN, qO, qL, qY, zA, zB, xD, zX, zJ, zI, hdp, hnw, hbit, ws, gi0, gi1, qE m7_18 qV, qE mk18 qV, qE m10_18 zT, qE m3_18 zT, qE m8_18 gH, qE m10_18 qV, wl, gv, qE mv_18 qV, lv14]))
        refine dA dK rfl rfl (by decide) (by decide) rfl fun k19 h19 b19 s19 f19 n19 => ?_
        have s12_19 := s12_18.trans s19
        have s14_19 := s14_18.trans s19
        have S19 := S18.trans s19
        have m3_19 := S19 _ _ b3
        have m8_19 := s12_19 _ _ m812
        have m10_19 := s14_19 _ _ m14
        have mv_19 := s12_19 _ _ mv
        have m7_19 := S19 _ _ b7
        have mk19 := s19 _ _ mk18
        refine qJ ?_; repeat' (first | ((with_reducible apply qI) <;> try simp only [qM, qC, qF, qH, qD, qA, qG, reduceIte, seval, Int.cast_ofNat_Int, qN, qO, qL, qY, zA, zB, xD, zX, zJ, zI, hdp, hnw, hbit, ws, gi0, gi1, qE m7_19 qV, qE mk19 qV, qE m10_19 zT, qE m3_19 zT, qE m8_19 gH, qE m10_19 qV, wl, gv, qE mv_19 qV, lv14]))
        refine sR dK Tryz.underlying36 rfl S19 (ow.hs s12_19) b19 rfl rfl (by omega) (by simp only [maxLen]; omega) fun v20 h20 s20 fr20 o20 => ?_
        obtain ⟨a20, c20, rfl⟩ := o20.form
        have m8_20 := fr20 _ _ m8_19 (fun tl q => by cases q)
        have m3_20 := s20 _ _ b3
        have m7_20 := s20 _ _ b7
        have m10_20 := fr20 _ _ m10_19 (fun tl q => by cases q)
        have mk20 := fr20 _ _ mk19 (fun tl q => by cases q)
        refine qJ ?_; repeat' (first | ((with_reducible apply qI) <;> try simp only [qM, qC, qF, qH, qD, qA, qG, reduceIte, seval, Int.cast_ofNat_Int, qN, qO, qL, qY, zA, zB, xD, zX, zJ, zI, hdp, hnw, hbit, ws, gi0, gi1, qE m7_20 qV, qE mk20 qV, qE m10_20 zT, qE m10_20 qV, qE m8_20 gH]))
        refine zW m8_20 gH rfl (by simp) rfl rfl fun h21 m8_21 f21 => ?_
        simp only [List.set_cons_zero] at m8_21
        refine qJ ?_; repeat' (first | ((with_reducible apply qI) <;> try simp only [qM, qC, qF, qH, qD, qA, qG, reduceIte, seval, Int.cast_ofNat_Int, qN, qO, qL, qY, zA, zB, xD, zX, zJ, zI, zM7]))
        have el21 : L ++ [wY size (qU id) lt x] = (rI size (qU id) (xK p) (hops.drop i)).reverse := by rw [wt, List.reverse_cons, ← eL]
        have zx : ∀ {cs y}, y ≠ [] → RTx h19 cs y → RTx h21 cs y := fun hy r => by
          obtain ⟨a, c, e, q1, q2⟩ := r.ap hu fr20 hy
          exact ⟨a, c, e, q1.hx m8_20 rfl (zE f21), q2.hx m8_20 rfl (zE f21)⟩
        refine ⟨s20.upd hb8 f21, L ++ [wY size (qU id) lt x], .slice a20 (L.length + 1) c20, cells ++ [.slice af (wY size (qU id) lt x).length cf], el21, ?_, ?_, ?_, fun t y ht => ?_⟩
        · exact m8_21
        · have := o20.by6 m8_20 f21
          rw [← ebit] at this
          rw [List.length_append, List.length_singleton]; exact this
        · rw [List.all_append, hu]; rfl
        · have hcl2 := ow.len
          rw [Nat.mul_one] at hcl2
          by_cases htL : t < L.length
          · rw [List.getElem?_append_left htL] at ht
            obtain ⟨vx2, e1, e2⟩ := hel t y ht
            exact ⟨vx2, by rw [List.getElem?_append_left (by omega)]; exact e1, zx (hmem y (List.mem_of_getElem? ht)).1 (e2.hs s12_19)⟩
          · rw [List.getElem?_append_right (by omega)] at ht
            have ht0 : t - L.length = 0 := by
              by_cases q : t - L.length = 0
              · exact q
              · rw [List.getElem?_eq_none (by simp; omega)] at ht; cases ht
            rw [ht0] at ht
            cases ht
            refine ⟨_, by rw [List.getElem?_append_right (by omega), show t - cells.length = 0 by omega]; rfl, zx pB ?_⟩
            rw [ebit]
            exact ⟨af, cf, rfl, rf.hs s19, slf.hs s19⟩
      · have ebit : wY size (qU id) lt x = wW dp (qU id) nw x.2.2 (vD size lt) := by
          unfold wY
          rw [hdp, hnw, Int.toNat_natCast, Int.toNat_natCast, if_pos hbit]
        have ws : IntKind.i64.wrap ((1 : Int) - 1) = 0 := rfl
        refine qJ ?_; repeat' (first | with_reducible apply qK | ((first | (with_reducible apply qI) | with_reducible apply qB | with_reducible refine zH zX xQ (by kernel_rfl) ?_ | ((refine GTri.mono (gR _ _ rr17 dp (by omega)) ?_); rintro _ _ ⟨rfl, hh9⟩; replace hh9 := hh9.symm; subst hh9)) <;> try simp only [qM, qC, qF, qH, qD, qA, qG, reduceIte, seval, Int.cast_ofNat_Int, qN, qO, qL, qY, zA, zB, xD, zX, zJ, zI, hdp, hnw, hbit, ws, gi0, gi1, qE m7_17 qV, qE m17k qV, qE m10_17 zT, qE m3_17 zT, qE m8_17 gH, qE m10_17 qV, wl, gv, qE mv_17 qV, lv14]))
        refine (qJ5 N (d := dp) (w := nw) (by omega) (by omega) rr17 rx17 rc17 (by omega) (by omega) (by omega)).mono ?_
        rintro _ h18 ⟨s18, af, cf, rfl, rf, slf⟩
        have s12_18 := s12_17.trans s18
        have s14_18 := s14_17.trans s18
        have S18 := S17.trans s18
        have m3_18 := S18 _ _ b3
        have m8_18 := s12_18 _ _ m812
        have m10_18 := s14_18 _ _ m14
        have mv_18 := s12_18 _ _ mv
        have m7_18 := S18 _ _ b7
        have mk18 := s18 _ _ m17k
        refine qJ ?_; repeat' (first | ((with_reducible apply qI) <;> try simp only [qM, qC, qF, qH, qD, qA, qG, reduceIte, seval, Int.cast_ofNat_Int, qN, qO, qL, qY, zA, zB, xD, zX, zJ, zI, hdp, hnw, hbit, ws, gi0, gi1, qE m7_18 qV, qE mk18 qV, qE m10_18 zT, qE m3_18 zT, qE m8_18 gH, qE m10_18 qV, wl, gv, qE mv_18 qV, lv14]))
        refine dA dK rfl rfl (by decide) (by decide) rfl fun k19 h19 b19 s19 f19 n19 => ?_
        have s12_19 := s12_18.trans s19
        have s14_19 := s14_18.trans s19
        have S19 := S18.trans s19
        have m3_19 := S19 _ _ b3
        have m8_19 := s12_19 _ _ m812
        have m10_19 := s14_19 _ _ m14
        have mv_19 := s12_19 _ _ mv
        have m7_19 := S19 _ _ b7
        have mk19 := s19 _ _ mk18
        refine qJ ?_; repeat' (first | ((with_reducible apply qI) <;> try simp only [qM, qC, qF, qH, qD, qA, qG, reduceIte, seval, Int.cast_ofNat_Int, qN, qO, qL, qY, zA, zB, xD, zX, zJ, zI, hdp, hnw, hbit, ws, gi0, gi1, qE m7_19 qV, qE mk19 qV, qE m10_19 zT, qE m3_19 zT, qE m8_19 gH, qE m10_19 qV, wl, gv, qE mv_19 qV, lv14]))
        refine sR dK Tryz.underlying36 rfl S19 (ow.hs s12_19) b19 rfl rfl (by omega) (by simp only [maxLen]; omega) fun v20 h20 s20 fr20 o20 => ?_
        obtain ⟨a20, c20, rfl⟩ := o20.form
        have m8_20 := fr20 _ _ m8_19 (fun tl q => by cases q)
        have m3_20 := s20 _ _ b3
        have m7_20 := s20 _ _ b7
        have m10_20 := fr20 _ _ m10_19 (fun tl q => by cases q)
        have mk20 := fr20 _ _ mk19 (fun tl q => by cases q)
        refine qJ ?_; repeat' (first | ((with_reducible apply qI) <;> try simp only [qM, qC, qF, qH, qD, qA, qG, reduceIte, seval, Int.cast_ofNat_Int, qN, qO, qL, qY, zA, zB, xD, zX, zJ, zI, hdp, hnw, hbit, ws, gi0, gi1, qE m7_20 qV, qE mk20 qV, qE m10_20 zT, qE m10_20 qV, qE m8_20 gH]))
        refine zW m8_20 gH rfl (by simp) rfl rfl fun h21 m8_21 f21 => ?_
        simp only [List.set_cons_zero] at m8_21
        refine qJ ?_; repeat' (first | ((with_reducible apply qI) <;> try simp only [qM, qC, qF, qH, qD, qA, qG, reduceIte, seval, Int.cast_ofNat_Int, qN, qO, qL, qY, zA, zB, xD, zX, zJ, zI, zM7]))
        have el21 : L ++ [wY size (qU id) lt x] = (rI size (qU id) (xK p) (hops.drop i)).reverse := by rw [wt, List.reverse_cons, ← eL]
        have zx : ∀ {cs y}, y ≠ [] → RTx h19 cs y → RTx h21 cs y := fun hy r => by
          obtain ⟨a, c, e, q1, q2⟩ := r.ap hu fr20 hy
          exact ⟨a, c, e, q1.hx m8_20 rfl (zE f21), q2.hx m8_20 rfl (zE f21)⟩
        refine ⟨s20.upd hb8 f21, L ++ [wY size (qU id) lt x], .slice a20 (L.length + 1) c20, cells ++ [.slice af (wY size (qU id) lt x).length cf], el21, ?_, ?_, ?_, fun t y ht => ?_⟩
        · exact m8_21
        · have := o20.by6 m8_20 f21
          rw [← ebit] at this
          rw [List.length_append, List.length_singleton]; exact this
        · rw [List.all_append, hu]; rfl
        · have hcl2 := ow.len
          rw [Nat.mul_one] at hcl2
          by_cases htL : t < L.length
          · rw [List.getElem?_append_left htL] at ht
            obtain ⟨vx2, e1, e2⟩ := hel t y ht
            exact ⟨vx2, by rw [List.getElem?_append_left (by omega)]; exact e1, zx (hmem y (List.mem_of_getElem? ht)).1 (e2.hs s12_19)⟩
          · rw [List.getElem?_append_right (by omega)] at ht
            have ht0 : t - L.length = 0 := by
              by_cases q : t - L.length = 0
              · exact q
              · rw [List.getElem?_eq_none (by simp; omega)] at ht; cases ht
            rw [ht0] at ht
            cases ht
            refine ⟨_, by rw [List.getElem?_append_right (by omega), show t - cells.length = 0 by omega]; rfl, zx pB ?_⟩
            rw [ebit]
            exact ⟨af, cf, rfl, rf.hs s19, slf.hs s19⟩
    · refine xG fun k11 h15 m15k s15 f15 n15 => ?_
      have n11 : h14 k11 = none := n15
      have s12_15 := s1214.trans s15
      have s14_15 := s15
      have S15 := S14.trans s15
      have m3_15 := S15 _ _ b3
      have m8_15 := s12_15 _ _ m812
      have m10_15 := s14_15 _ _ m14
      have mv_15 := s12_15 _ _ mv
      refine qJ ?_; repeat' (first | ((with_reducible apply qI) <;> try simp only [qM, qC, qF, qH, qD, qA, qG, reduceIte, seval, Int.cast_ofNat_Int, qN, qO, qL, qY, zA, zB, xD, zX, zJ, zI, xF, xZ, vH, Shape.pl, List.all_cons, List.all_nil, zF, qE m3_15 zT, qE m8_15 gH, qE m10_15 qV, wl, gv, qE mv_15 qV, lv14]))
      refine (c_Cut N (tb.hs S15) (rl.hs s12_15) (sll.hs s12_15) (by omega) size).mono ?_
      rintro _ h16 ⟨s16, ac, cc, rfl, rc, slc⟩
      have s12_16 := s12_15.trans s16
      have s14_16 := s14_15.trans s16
      have S16 := S15.trans s16
      have rc16 := rc
      have m16k := s16 _ _ m15k
      have m3_16 := S16 _ _ b3
      have m8_16 := s12_16 _ _ m812
      have m10_16 := s14_16 _ _ m14
      have mv_16 := s12_16 _ _ mv
      refine qJ ?_; repeat' (first | ((with_reducible apply qI) <;> try simp only [qM, qC, qF, qH, qD, qA, qG, reduceIte, seval, Int.cast_ofNat_Int, qN, qO, qL, qY, zA, zB, xD, zX, zJ, zI, xF, xZ, vH, Shape.pl, List.all_cons, List.all_nil, zF, qE m3_16 zT, qE m8_16 gH, qE m10_16 qV, wl, gv, qE mv_16 qV, lv14]))
      refine wC m16k sz80 rfl (by decide) rfl rfl rfl fun h17 m17k f17 => ?_
      simp only [vcells] at m17k
      have s14_17 : HS h14 h17 := s14_16.upd n11 f17
      have s12_17 := s1214.trans s14_17
      have S17 := S14.trans s14_17
      have rc17 := rc16.hx m16k rfl (zE f17)
      have m3_17 := S17 _ _ b3
      have m8_17 := s12_17 _ _ m812
      have m10_17 := s14_17 _ _ m14
      have mv_17 := s12_17 _ _ mv
      have m7_17 := S17 _ _ b7
      have rr17 := rrb.hs S17
      have rx17 := (rx.hs S17)
      have gi0 : zL Tryz.prog 80 (.pointer (some ⟨k11, 0, none⟩)) 0 = some (.pointer (some ⟨k11, 0, none⟩)) := gi80 (i := 0) (by omega)
      have gi1 : zL Tryz.prog 80 (.pointer (some ⟨k11, 0, none⟩)) 1 = some (.pointer (some ⟨k11, 1, none⟩)) := gi80 (i := 1) (by omega)
      have hcl : (vD size lt).length ≤ 32 := by
        have := jK lt
        simp only [vD, List.length_take, this]; omega
      have wt : rI size (qU id) (xK p) (hops.drop i) = wY size (qU id) lt x :: rI size (qU id) (xK p) (hops.drop (i + 1)) := by
        rw [hdr, rI, elt]
      rcases sJ (gbit_nonneg.2 (show dp < 8 * (qU id).length by omega)) with hbit | hbit
      · have ebit : wY size (qU id) lt x = wW dp (qU id) nw (vD size lt) x.2.2 := by
          unfold wY
          rw [hdp, hnw, Int.toNat_natCast, Int.toNat_natCast, if_neg (by rw [hbit]; decide)]
        have ws : IntKind.i64.wrap ((1 : Int) - 0) = 1 := rfl
        refine qJ ?_; repeat' (first | with_reducible apply qK | ((first | (with_reducible apply qI) | with_reducible apply qB | with_reducible refine zH zX xQ (by kernel_rfl) ?_ | ((refine GTri.mono (gR _ _ rr17 dp (by omega)) ?_); rintro _ _ ⟨rfl, hh9⟩; replace hh9 := hh9.symm; subst hh9)) <;> try simp only [qM, qC, qF, qH, qD, qA, qG, reduceIte, seval, Int.cast_ofNat_Int, qN, qO, qL, qY, zA, zB, xD, zX, zJ, zI, hdp, hnw, hbit, ws, gi0, gi1, qE m7_17 qV, qE m17k qV, qE m10_17 zT, qE m3_17 zT, qE m8_17 gH, qE m10_17 qV, wl, gv, qE mv_17 qV, lv14]))
        refine (qJ5 N (d := dp) (w := nw) (by omega) (by omega) rr17 rc17 rx17 (by omega) (by omega) (by omega)).mono ?_
        rintro _ h18 ⟨s18, af, cf, rfl, rf, slf⟩
        have s12_18 := s12_17.trans s18
        have s14_18 := s14_17.trans s18
        have S18 := S17.trans s18
        have m3_18 := S18 _ _ b3
        have m8_18 := s12_18 _ _ m812
        have m10_18 := s14_18 _ _ m14
        have mv_18 := s12_18 _ _ mv
        have m7_18 := S18 _ _ b7
        have mk18 := s18 _ _ m17k
        refine qJ ?_; repeat' (first | ((with_reducible apply qI) <;> try simp only [qM, qC, qF, qH, qD, qA, qG, reduceIte, seval, Int.cast_ofNat_Int, qN, qO, qL, qY, zA, zB, xD, zX, zJ, zI, hdp, hnw, hbit, ws, gi0, gi1, qE m7_18 qV, qE mk18 qV, qE m10_18 zT, qE m3_18 zT, qE m8_18 gH, qE m10_18 qV, wl, gv, qE mv_18 qV, lv14]))
        refine dA dK rfl rfl (by decide) (by decide) rfl fun k19 h19 b19 s19 f19 n19 => ?_
        have s12_19 := s12_18.trans s19
        have s14_19 := s14_18.trans s19
        have S19 := S18.trans s19
        have m3_19 := S19 _ _ b3
        have m8_19 := s12_19 _ _ m812
        have m10_19 := s14_19 _ _ m14
        have mv_19 := s12_19 _ _ mv
        have m7_19 := S19 _ _ b7
        have mk19 := s19 _ _ mk18
        refine qJ ?_; repeat' (first | ((with_reducible apply qI) <;> try simp only [qM, qC, qF, qH, qD, qA, qG, reduceIte, seval, Int.cast_ofNat_Int, qN, qO, qL, qY, zA, zB, xD, zX, zJ, zI, hdp, hnw, hbit, ws, gi0, gi1, qE m7_19 qV, qE mk19 qV, qE m10_19 zT, qE m3_19 zT, qE m8_19 gH, qE m10_19 qV, wl, gv, qE mv_19 qV, lv14]))
        refine sR dK Tryz.underlying36 rfl S19 (ow.hs s12_19) b19 rfl rfl (by omega) (by simp only [maxLen]; omega) fun v20 h20 s20 fr20 o20 => ?_
        obtain ⟨a20, c20, rfl⟩ := o20.form
        have m8_20 := fr20 _ _ m8_19 (fun tl q => by cases q)
        have m3_20 := s20 _ _ b3
        have m7_20 := s20 _ _ b7
        have m10_20 := fr20 _ _ m10_19 (fun tl q => by cases q)
        have mk20 := fr20 _ _ mk19 (fun tl q => by cases q)
        refine qJ ?_; repeat' (first | ((with_reducible apply qI) <;> try simp only [qM, qC, qF, qH, qD, qA, qG, reduceIte, seval, Int.cast_ofNat_Int, qN, qO, qL, qY, zA, zB, xD, zX, zJ, zI, hdp, hnw, hbit, ws, gi0, gi1, qE m7_20 qV, qE mk20 qV, qE m10_20 zT, qE m10_20 qV, qE m8_20 gH]))
        refine zW m8_20 gH rfl (by simp) rfl rfl fun h21 m8_21 f21 => ?_
        simp only [List.set_cons_zero] at m8_21
        refine qJ ?_; repeat' (first | ((with_reducible apply qI) <;> try simp only [qM, qC, qF, qH, qD, qA, qG, reduceIte, seval, Int.cast_ofNat_Int, qN, qO, qL, qY, zA, zB, xD, zX, zJ, zI, zM7]))
        have el21 : L ++ [wY size (qU id) lt x] = (rI size (qU id) (xK p) (hops.drop i)).reverse := by rw [wt, List.reverse_cons, ← eL]
        have zx : ∀ {cs y}, y ≠ [] → RTx h19 cs y → RTx h21 cs y := fun hy r => by
          obtain ⟨a, c, e, q1, q2⟩ := r.ap hu fr20 hy
          exact ⟨a, c, e, q1.hx m8_20 rfl (zE f21), q2.hx m8_20 rfl (zE f21)⟩
        refine ⟨s20.upd hb8 f21, L ++ [wY size (qU id) lt x], .slice a20 (L.length + 1) c20, cells ++ [.slice af (wY size (qU id) lt x).length cf], el21, ?_, ?_, ?_, fun t y ht => ?_⟩
        · exact m8_21
        · have := o20.by6 m8_20 f21
          rw [← ebit] at this
          rw [List.length_append, List.length_singleton]; exact this
        · rw [List.all_append, hu]; rfl
        · have hcl2 := ow.len
          rw [Nat.mul_one] at hcl2
          by_cases htL : t < L.length
          · rw [List.getElem?_append_left htL] at ht
            obtain ⟨vx2, e1, e2⟩ := hel t y ht
            exact ⟨vx2, by rw [List.getElem?_append_left (by omega)]; exact e1, zx (hmem y (List.mem_of_getElem? ht)).1 (e2.hs s12_19)⟩
          · rw [List.getElem?_append_right (by omega)] at ht
            have ht0 : t - L.length = 0 := by
              by_cases q : t - L.length = 0
              · exact q
              · rw [List.getElem?_eq_none (by simp; omega)] at ht; cases ht
            rw [ht0] at ht
            cases ht
            refine ⟨_, by rw [List.getElem?_append_right (by omega), show t - cells.length = 0 by omega]; rfl, zx pB ?_⟩
            rw [ebit]
            exact ⟨af, cf, rfl, rf.hs s19, slf.hs s19⟩
      · have ebit : wY size (qU id) lt x = wW dp (qU id) nw x.2.2 (vD size lt) := by
          unfold wY
          rw [hdp, hnw, Int.toNat_natCast, Int.toNat_natCast, if_pos hbit]
        have ws : IntKind.i64.wrap ((1 : Int) - 1) = 0 := rfl
        refine qJ ?_; repeat' (first | with_reducible apply qK | ((first | (with_reducible apply qI) | with_reducible apply qB | with_reducible refine zH zX xQ (by kernel_rfl) ?_ | ((refine GTri.mono (gR _ _ rr17 dp (by omega)) ?_); rintro _ _ ⟨rfl, hh9⟩; replace hh9 := hh9.symm; subst hh9)) <;> try simp only [qM, qC, qF, qH, qD, qA, qG, reduceIte, seval, Int.cast_ofNat_Int, qN, qO, qL, qY, zA, zB, xD, zX, zJ, zI, hdp, hnw, hbit, ws, gi0, gi1, qE m7_17 qV, qE m17k qV, qE m10_17 zT, qE m3_17 zT, qE m8_17 gH, qE m10_17 qV, wl, gv, qE mv_17 qV, lv14]))
        refine (qJ5 N (d := dp) (w := nw) (by omega) (by omega) rr17 rx17 rc17 (by omega) (by omega) (by omega)).mono ?_
        rintro _ h18 ⟨s18, af, cf, rfl, rf, slf⟩
        have s12_18 := s12_17.trans s18
        have s14_18 := s14_17.trans s18
        have S18 := S17.trans s18
        have m3_18 := S18 _ _ b3
        have m8_18 := s12_18 _ _ m812
        have m10_18 := s14_18 _ _ m14
        have mv_18 := s12_18 _ _ mv
        have m7_18 := S18 _ _ b7
        have mk18 := s18 _ _ m17k
        refine qJ ?_; repeat' (first | ((with_reducible apply qI) <;> try simp only [qM, qC, qF, qH, qD, qA, qG, reduceIte, seval, Int.cast_ofNat_Int, qN, qO, qL, qY, zA, zB, xD, zX, zJ, zI, hdp, hnw, hbit, ws, gi0, gi1, qE m7_18 qV, qE mk18 qV, qE m10_18 zT, qE m3_18 zT, qE m8_18 gH, qE m10_18 qV, wl, gv, qE mv_18 qV, lv14]))
        refine dA dK rfl rfl (by decide) (by decide) rfl fun k19 h19 b19 s19 f19 n19 => ?_
        have s12_19 := s12_18.trans s19
        have s14_19 := s14_18.trans s19
        have S19 := S18.trans s19
        have m3_19 := S19 _ _ b3
        have m8_19 := s12_19 _ _ m812
        have m10_19 := s14_19 _ _ m14
        have mv_19 := s12_19 _ _ mv
        have m7_19 := S19 _ _ b7
        have mk19 := s19 _ _ mk18
        refine qJ ?_; repeat' (first | ((with_reducible apply qI) <;> try simp only [qM, qC, qF, qH, qD, qA, qG, reduceIte, seval, Int.cast_ofNat_Int, qN, qO, qL, qY, zA, zB, xD, zX, zJ, zI, hdp, hnw, hbit, ws, gi0, gi1, qE m7_19 qV, qE mk19 qV, qE m10_19 zT, qE m3_19 zT, qE m8_19 gH, qE m10_19 qV, wl, gv, qE mv_19 qV, lv14]))
        refine sR dK Tryz.underlying36 rfl S19 (ow.hs s12_19) b19 rfl rfl (by omega) (by simp only [maxLen]; omega) fun v20 h20 s20 fr20 o20 => ?_
        obtain ⟨a20, c20, rfl⟩ := o20.form
        have m8_20 := fr20 _ _ m8_19 (fun tl q => by cases q)
        have m3_20 := s20 _ _ b3
        have m7_20 := s20 _ _ b7
        have m10_20 := fr20 _ _ m10_19 (fun tl q => by cases q)
        have mk20 := fr20 _ _ mk19 (fun tl q => by cases q)
        refine qJ ?_; repeat' (first | ((with_reducible apply qI) <;> try simp only [qM, qC, qF, qH, qD, qA, qG, reduceIte, seval, Int.cast_ofNat_Int, qN, qO, qL, qY, zA, zB, xD, zX, zJ, zI, hdp, hnw, hbit, ws, gi0, gi1, qE m7_20 qV, qE mk20 qV, qE m10_20 zT, qE m10_20 qV, qE m8_20 gH]))
        refine zW m8_20 gH rfl (by simp) rfl rfl fun h21 m8_21 f21 => ?_
        simp only [List.set_cons_zero] at m8_21
        refine qJ ?_; repeat' (first | ((with_reducible apply qI) <;> try simp only [qM, qC, qF, qH, qD, qA, qG, reduceIte, seval, Int.cast_ofNat_Int, qN, qO, qL, qY, zA, zB, xD, zX, zJ, zI, zM7]))
        have el21 : L ++ [wY size (qU id) lt x] = (rI size (qU id) (xK p) (hops.drop i)).reverse := by rw [wt, List.reverse_cons, ← eL]
        have zx : ∀ {cs y}, y ≠ [] → RTx h19 cs y → RTx h21 cs y := fun hy r => by
          obtain ⟨a, c, e, q1, q2⟩ := r.ap hu fr20 hy
          exact ⟨a, c, e, q1.hx m8_20 rfl (zE f21), q2.hx m8_20 rfl (zE f21)⟩
        refine ⟨s20.upd hb8 f21, L ++ [wY size (qU id) lt x], .slice a20 (L.length + 1) c20, cells ++ [.slice af (wY size (qU id) lt x).length cf], el21, ?_, ?_, ?_, fun t y ht => ?_⟩
        · exact m8_21
        · have := o20.by6 m8_20 f21
          rw [← ebit] at this
          rw [List.length_append, List.length_singleton]; exact this
        · rw [List.all_append, hu]; rfl
        · have hcl2 := ow.len
          rw [Nat.mul_one] at hcl2
          by_cases htL : t < L.length
          · rw [List.getElem?_append_left htL] at ht
            obtain ⟨vx2, e1, e2⟩ := hel t y ht
            exact ⟨vx2, by rw [List.getElem?_append_left (by omega)]; exact e1, zx (hmem y (List.mem_of_getElem? ht)).1 (e2.hs s12_19)⟩
          · rw [List.getElem?_append_right (by omega)] at ht
            have ht0 : t - L.length = 0 := by
              by_cases q : t - L.length = 0
              · exact q
              · rw [List.getElem?_eq_none (by simp; omega)] at ht; cases ht
            rw [ht0] at ht
            cases ht
            refine ⟨_, by rw [List.getElem?_append_right (by omega), show t - cells.length = 0 by omega]; rfl, zx pB ?_⟩
            rw [ebit]
            exact ⟨af, cf, rfl, rf.hs s19, slf.hs s19⟩
  · obtain ⟨s12, L, v, cells, eL, m812, ow, hu, hel⟩ := hI
    rw [List.drop_zero] at eL
    obtain ⟨kv, cv, tlv, rfl, hn0, hcl, mv, nv, hcap⟩ := ow
    rw [Nat.mul_one] at hcl
    have hLl : L.length = hops.length + 1 := by rw [eL, List.length_reverse, sB]
    have hmem : ∀ y ∈ L, y ≠ [] := fun y hy => (htx hops (fun z hz => by have q := (hok z hz).2.2.2.2; omega) y (by rw [eL, List.mem_reverse] at hy; exact hy)).1
    have hcell : ∀ (i : Nat) v, cells[i]? = some v → vcells v = [v] ∧ zF v = true := fun i v hv => by
      obtain ⟨y, hy⟩ := yK (show i < L.length by have := (List.getElem?_eq_some_iff.1 hv).1; omega)
      obtain ⟨x, e1, a1, c1, e2, _⟩ := hel i y hy
      rw [hv] at e1
      cases e1
      cases e2
      exact ⟨rfl, rfl⟩
    refine qJ ?_; repeat' (first | with_reducible apply qK | ((first | (with_reducible apply qI) | with_reducible apply qB) <;> try simp only [qM, qC, qF, qH, qD, qA, qG, reduceIte, seval, Int.cast_ofNat_Int, qN, qO, qL, qY, zA, zB, xD, zX, zJ, zI, qE m812 gH]))
    refine (c_Rev N mv hcl (by omega) hcell).mono ?_
    rintro _ h13 ⟨rfl, m13, x13⟩
    have k8v : k8 ≠ kv := ne_es m812 mv (by simp)
    have m813 := x13 _ _ k8v m812
    have fr13 : ∀ j B, h12 j = some B → (∀ tl, B ≠ ⟨cells, 1, true, tl⟩) → h13 j = some B := fun j B m ne => x13 j B (fun q => by rw [q, mv] at m; cases m; exact ne _ rfl) m
    refine qJ ?_; repeat' (first | with_reducible apply qK | ((first | (with_reducible apply qI) | (with_reducible first | apply qB | apply qP)) <;> try simp only [qM, qC, qF, qH, qD, qA, qG, reduceIte, seval, Int.cast_ofNat_Int, qN, qO, qL, qY, zA, zB, xD, zX, zJ, zI, qE m813 gH]))
    have etx : rI size (qU id) (xK p) hops = L.reverse := by rw [eL, List.reverse_reverse]
    have hln : (rI size (qU id) (xK p) hops).length = L.length := by rw [etx, List.length_reverse]
    refine ⟨Sb.trans (HX.new x13 s12 nv), some ⟨kv, 0, none⟩, cv, by rw [hln], .inr ⟨⟨kv, 0, none⟩, cv, cells.reverse, rfl, wP m13 (by rw [List.drop_zero]; exact List.take_of_length_le (by rw [List.length_reverse]; omega)) (by rw [List.length_reverse]; omega), by omega, fun i x hx => ?_, .inr ⟨_, m13, .inl (by simp)⟩⟩⟩
    have hi := (List.getElem?_eq_some_iff.1 hx).1
    rw [etx, List.getElem?_reverse (by omega)] at hx
    obtain ⟨w, e1, e2⟩ := hel _ _ hx
    have hgw : cells.reverse[i]? = some w := by
      rw [List.getElem?_reverse (by omega), hcl]; exact e1
    rw [Nat.mul_one]
    have : (cells.reverse.drop i).take 1 = [w] := by
      obtain ⟨h3, h4⟩ := List.getElem?_eq_some_iff.1 hgw
      rw [List.drop_eq_getElem_cons h3, h4]; rfl
    rw [this]
    exact e2.ap hu fr13 (hmem _ (List.mem_of_getElem? hx))
end
section
variable {K : Type} {R : GH → List Value → K → Prop}
end
theorem tQ : type_of% (And.intro zP (And.intro uU (And.intro uE (And.intro vW (And.intro xS (And.intro jG (And.intro wO rs51))))))) := And.intro zP (And.intro uU (And.intro uE (And.intro vW (And.intro xS (And.intro jG (And.intro wO rs51))))))
theorem xM : type_of% (And.intro zP (And.intro rF (And.intro uU (And.intro yB (And.intro uE (And.intro sW (And.intro sV (And.intro vW (And.intro xS (And.intro jG (And.intro jS (And.intro wO rs14)))))))))))) := And.intro zP (And.intro rF (And.intro uU (And.intro yB (And.intro uE (And.intro sW (And.intro sV (And.intro vW (And.intro xS (And.intro jG (And.intro jS (And.intro wO rs14)))))))))))
def xE : Nat → List (Nat × List Nat) × List Nat
  | 9 => ([(0, []), (1, []), (2, []), (4, []), (5, []), (6, []), (3, [6]), (8, []), (9, []), (7, []), (10, []), (11, []), (12, []), (13, [])], [0, 0, 2, 7, 0, 0, 32, 127, 15, 271, 1023, 2047, 4095, 8191])
  | 11 => ([(0, []), (1, []), (2, []), (3, []), (4, []), (5, [])], [0, 1, 0, 4, 3, 31])
  | 14 => ([(0, []), (1, []), (2, []), (3, []), (4, []), (5, []), (6, []), (7, []), (8, [1, 3, 5]), (9, []), (10, [1]), (11, []), (12, []), (13, [])], [0, 1, 0, 4, 0, 16, 0, 0, 192, 508, 1020, 2047, 4095, 8191])
  | _ => ([], [])
def ofN {K : Type} (nd : Nd) : Pn K := if nd.lf = true then ⟨1, nd.si, 0, 0, nd.id, nd.ky, [], [], [], []⟩ else ⟨2, 0, nd.dp, nd.nw, [], [], nd.pf, [], [], []⟩
def qL2 {K : Type} (M : List Nd) (nd : Nd) : Pn K := if nd.lf = true then ⟨1, nd.si, 0, 0, nd.id, nd.ky, [], [], [], []⟩ else ⟨2, 0, nd.dp, nd.nw, [], [], nd.pf, (gE M nd.l).hs, (gE M nd.r).hs, []⟩
def noPart {K : Type} : Pn K := ⟨0, 0, 0, 0, [], [], [], [], [], []⟩
def dE (M : List Nd) (row : List UInt8) (p : Nat) : Hp := ((gE M p).dp, (gE M p).nw, (gE M (if xP row (gE M p).dp = 1 then (gE M p).l else (gE M p).r)).hs)
theorem qV0 {K : Type} (R : GH → List Value → K → Prop) (h : GH) : RPn R h [.int .i64 0, .slice none 0 0, .slice none 0 0, .int .i64 0, .int .i64 0, .slice none 0 0, .int .i64 0, .slice none 0 0, .slice none 0 0, .slice none 0 0] noPart := ⟨none, 0, none, 0, none, 0, none, 0, none, 0, none, 0, rfl, RB.nil _, RB.nil _, RB.nil _, RB.nil _, RB.nil _, RL.nil _⟩
theorem RL.nilk {α : Type} {es : Nat} {R : GH → List Value → α → Prop} {h h' : GH} {v : Value} (r : RL es R h v []) : RL es R h' v [] := by
  rcases r with ⟨c, e, _⟩ | ⟨ad, c, cs, e, h2, h3, _, _⟩
  · exact .inl ⟨c, e, rfl⟩
  · refine .inr ⟨ad, c, [], e, by simp [wB], h3, fun i x hx => by simp at hx, .inl (by simp)⟩
theorem RPn.bx {K : Type} {R : GH → List Value → K → Prop} {h h' : GH} (f : ∀ {v l}, RB h v l → RB h' v l) {cs : List Value} {p : Pn K} (hk : p.kids = []) (r : RPn R h cs p) : RPn R h' cs p := by
  obtain ⟨a1, c1, a2, c2, a3, c3, a4, c4, a5, c5, a6, c6, rfl, r1, r2, r3, r4, r5, r6⟩ := r
  rw [hk] at r6
  exact ⟨a1, c1, a2, c2, a3, c3, a4, c4, a5, c5, a6, c6, rfl, f r1, f r2, f r3, f r4, f r5, by rw [hk]; exact r6.nilk⟩
def zA5 {K : Type} (R : GH → List Value → K → Prop) (h' : GH) (u : Value) (hops : List Hp) (en : Pn K) : Prop := ∃ b d cs, u = .agg (.slice b hops.length d :: cs).toArray ∧ RL 3 RHp h' (.slice b hops.length d) hops ∧ RPn R h' cs en
section
variable {h0 h h' : GH} {k : Nat} {v : Value} {cs : List Value} {M : List Nd} {K : Type} {R : GH → List Value → K → Prop}
theorem c_Of (N : Nat) {cn : List Value} {nd : Nd} (r : RNd h cn nd) : GTri Tryz.prog N 51 [.agg cn.toArray] h fun u h' => HS h h' ∧ ∃ cs, u = .agg cs.toArray ∧ RPn R h' cs (ofN nd) := by
  obtain ⟨a1, c1, a2, c2, a3, c3, a4, c4, rfl, r1, r2, r3, r4⟩ := r
  unfold ofN
  refine xH Tryz.func51 rfl gf51 ok51 (by simp [Tryz.ntmps51]) ?_
  repeat' (first | with_reducible apply qK | (with_reducible apply qB <;> try simp only [qM, qC, qF, qH, qD, qA, qG, reduceIte, seval, Int.cast_ofNat_Int, qN, qO, tQ]))
  refine yY rfl fun k1 h1 m1 s1 f1 n1 => ?_
  simp only [Nd.cs] at m1
  refine qJ ?_; repeat' (first | ((with_reducible apply qI) <;> try simp only [qM, qC, qF, qH, qD, qA, qG, reduceIte, seval, Int.cast_ofNat_Int, qN, qO, tQ]))
  refine xG fun k2 h2 m2 s2 f2 n2 => ?_
  have m12 := s2 _ _ m1
  have S2 := s1.trans s2
  have n2h : h k2 = none := s1.none_of n2
  cases hlf : nd.lf
  · rw [hlf] at m12
    rw [if_neg (by decide)]
    refine qJ ?_; repeat' (first | with_reducible apply qK | ((first | (with_reducible apply qI) | (with_reducible first | apply qB | apply qS | apply qR)) <;> try simp only [qM, qC, qF, qH, qD, qA, qG, reduceIte, seval, Int.cast_ofNat_Int, qN, qO, tQ, qE m12 rY, qE m12 qV, qE m12 zT, xF, xZ, vH, Shape.pl, List.all_cons, List.all_nil, zF]))
    refine wC m2 dC rfl (by decide) rfl rfl rfl fun h3 m3 f3 => ?_
    simp only [vcells] at m3
    have ld := zU (P := Tryz.prog) (t := 26) m3 dC rfl
    refine qJ ?_; repeat' (first | ((first | (with_reducible apply qI) | with_reducible apply qP) <;> try simp only [qM, qC, qF, qH, qD, qA, qG, reduceIte, seval, Int.cast_ofNat_Int, qN, qO, tQ, fA, ld]))
    exact ⟨S2.upd n2h f3, _, rfl, none, 0, none, 0, a3, c3, none, 0, none, 0, none, 0, rfl, RB.nil _, RB.nil _, (r3.hs S2).hx m2 rfl (zE f3), RB.nil _, RB.nil _, RL.nil _⟩
  · rw [hlf] at m12
    rw [if_pos rfl]
    refine qJ ?_; repeat' (first | with_reducible apply qK | ((first | (with_reducible apply qI) | (with_reducible first | apply qB | apply qS)) <;> try simp only [qM, qC, qF, qH, qD, qA, qG, reduceIte, seval, Int.cast_ofNat_Int, qN, qO, tQ, qE m12 rY, qE m12 qV, qE m12 zT, xF, xZ, vH, Shape.pl, List.all_cons, List.all_nil, zF]))
    refine wC m2 dC rfl (by decide) rfl rfl rfl fun h3 m3 f3 => ?_
    simp only [vcells] at m3
    have ld := zU (P := Tryz.prog) (t := 26) m3 dC rfl
    refine qJ ?_; repeat' (first | ((first | (with_reducible apply qI) | with_reducible apply qP) <;> try simp only [qM, qC, qF, qH, qD, qA, qG, reduceIte, seval, Int.cast_ofNat_Int, qN, qO, tQ, fA, ld]))
    exact ⟨S2.upd n2h f3, _, rfl, a1, c1, a2, c2, none, 0, none, 0, none, 0, none, 0, rfl, (r1.hs S2).hx m2 rfl (zE f3), (r2.hs S2).hx m2 rfl (zE f3), RB.nil _, RB.nil _, RB.nil _, RL.nil _⟩
theorem c_ProveN (N : Nat) (x : AA h0 h k v cs M) {i : Int} (hi : i < 0 ∨ (M.length : Int) ≤ i) {a : Option Addr} {c : Nat} {id : List UInt8} (ri : RB h (.slice a id.length c) id) : GTri Tryz.prog N 14 [.pointer (some ⟨k, 0, none⟩), .int .i64 i, .slice a id.length c] h fun u h' => HS h h' ∧ zA5 R h' u [] noPart := by
  refine xH Tryz.func14 rfl gf14 ok14 (by simp [Tryz.ntmps14]) ?_
  repeat' (first | with_reducible apply qK | (with_reducible apply qB <;> try simp only [qM, qC, qF, qH, qD, qA, qG, reduceIte, seval, Int.cast_ofNat_Int, qN, qO, qL, qY, zA, zB, xM, xE]))
  refine xG fun k6 h6 m6 s6 f6 n6 => ?_
  refine qJ ?_; repeat' (first | with_reducible apply qK | ((first | (with_reducible apply qI) | with_reducible apply qB) <;> try simp only [qM, qC, qF, qH, qD, qA, qG, reduceIte, seval, Int.cast_ofNat_Int, qN, qO, qL, qY, zA, zB, xM, xE]))
  refine (lQ N h6 (ri.hs s6) rfl).mono ?_
  rintro _ h7 ⟨s7, ar, cr, rfl, rr, _⟩
  refine qJ ?_; repeat' (first | with_reducible apply qK | ((first | (with_reducible apply qI) | with_reducible apply qB) <;> try simp only [qM, qC, qF, qH, qD, qA, qG, reduceIte, seval, Int.cast_ofNat_Int, qN, qO, qL, qY, zA, zB, xM, xE]))
  refine xG fun k8 h8 m8 s8 f8 n8 => ?_
  have S8 := (s6.trans s7).trans s8
  have m68 := s8 _ _ (s7 _ _ m6)
  refine qJ ?_; repeat' (first | with_reducible apply qQ | ((with_reducible apply qI) <;> try simp only [qM, qC, qF, qH, qD, qA, qG, reduceIte, seval, Int.cast_ofNat_Int, qN, qO, qL, qY, zA, zB, xM, xE]))
  refine xL [0, 6, 7, 8] (fun (j : Nat) => [(1, .int .i64 i)]) (fun q j h' => j = 0 ∧ q = 0 ∧ h' = h8) 0 0 (by simp [lk]) ⟨rfl, rfl, rfl⟩ ?_
  rintro _ _ _ ⟨rfl, rfl, rfl⟩
  refine qJ ?_; repeat' (first | (with_reducible first | apply qK | apply qQ) | ((first | (with_reducible apply qI) | with_reducible apply qB) <;> try simp only [qM, qC, qF, qH, qD, qA, qG, reduceIte, seval, Int.cast_ofNat_Int, qN, qO, qL, qY, zA, zB, xM, xE]))
  refine (zI9 N (x.hs S8) hi).mono ?_
  rintro _ h10 ⟨s10, rfl⟩
  simp only [zN]
  refine qJ ?_; repeat' (first | ((with_reducible apply qI) <;> try simp only [qM, qC, qF, qH, qD, qA, qG, reduceIte, seval, Int.cast_ofNat_Int, qN, qO, qL, qY, zA, zB, xM, xE]))
  refine xG fun k11 h11 m11 s11 f11 n11 => ?_
  refine qJ ?_; repeat' (first | ((with_reducible apply qI) <;> try simp only [qM, qC, qF, qH, qD, qA, qG, reduceIte, seval, Int.cast_ofNat_Int, qN, qO, qL, qY, zA, zB, xM, xE]))
  refine wC m11 wF rfl (by decide) rfl rfl rfl fun h12 m12 f12 => ?_
  have S12 := s10.trans (s11.upd n11 f12)
  have ld := zU (P := Tryz.prog) (t := 28) (S12 _ _ m8) gX rfl
  refine qJ ?_; repeat' (first | with_reducible apply qK | ((first | (with_reducible apply qI) | (with_reducible first | apply qB | apply qS)) <;> try simp only [qM, qC, qF, qH, qD, qA, qG, reduceIte, seval, Int.cast_ofNat_Int, qN, qO, qL, qY, zA, zB, xM, xE, ld]))
  refine wC (S12 _ _ m68) gX rfl (by decide) rfl rfl rfl fun h14 m14 f14 => ?_
  simp only [vcells] at m14
  have ld2 := zU (P := Tryz.prog) (t := 28) m14 gX rfl
  refine qJ ?_; repeat' (first | ((first | (with_reducible apply qI) | with_reducible apply qP) <;> try simp only [qM, qC, qF, qH, qD, qA, qG, reduceIte, seval, Int.cast_ofNat_Int, qN, qO, qL, qY, zA, zB, xM, xE, fA, ld2]))
  exact ⟨(S8.trans S12).upd n6 f14, none, 0, _, rfl, RL.nil _, qV0 R _⟩
theorem RHp.hx {j : Nat} {h h' : GH} {cs : List Value} {x : Hp} (r : RHp h cs x) {B : GB} (m : h j = some B) (hB : B.cells.all uT = true) (y : HX j h h') : RHp h' cs x := by
  obtain ⟨a, c, e, q⟩ := r
  exact ⟨a, c, e, q.hx m hB y⟩
theorem zI8 (N : Nat) (x : AA h0 h k v cs M) (ti : TI M) {a : Option Addr} {c : Nat} {id : List UInt8} (ri : RB h (.slice a id.length c) id) (hid : id.length ≤ 140737488355328) {i e : Nat} {fs : List Nat} {nd : Nd} (w : Way M (qU id) i fs e nd) (hfs : fs.length ≤ 3000) :
    GTri Tryz.prog N 14 [.pointer (some ⟨k, 0, none⟩), .int .i64 (i : Int), .slice a id.length c] h fun u h' => HS h h' ∧ zA5 R h' u (fs.map (dE M (qU id))) (qL2 M nd) := by
  obtain ⟨w0, wf⟩ := w.at
  obtain ⟨we, ws⟩ := w.end
  have hkl := vC id
  refine xH Tryz.func14 rfl gf14 ok14 (by simp [Tryz.ntmps14]) ?_
  repeat' (first | with_reducible apply qK | (with_reducible apply qB <;> try simp only [qM, qC, qF, qH, qD, qA, qG, reduceIte, seval, Int.cast_ofNat_Int, qN, qO, qL, qY, zA, zB, xM, xE]))
  refine xG fun k6 h6 m6 s6 f6 n6 => ?_
  refine qJ ?_; repeat' (first | with_reducible apply qK | ((first | (with_reducible apply qI) | with_reducible apply qB) <;> try simp only [qM, qC, qF, qH, qD, qA, qG, reduceIte, seval, Int.cast_ofNat_Int, qN, qO, qL, qY, zA, zB, xM, xE]))
  refine (lQ N h6 (ri.hs s6) rfl).mono ?_
  rintro _ h7 ⟨s7, ar, cr, rfl, rr, _⟩
  refine qJ ?_; repeat' (first | with_reducible apply qK | ((first | (with_reducible apply qI) | with_reducible apply qB) <;> try simp only [qM, qC, qF, qH, qD, qA, qG, reduceIte, seval, Int.cast_ofNat_Int, qN, qO, qL, qY, zA, zB, xM, xE]))
  refine xG fun k8 h9 m9 s9 f9 n9 => ?_
  have n8h : h k8 = none := (s6.trans s7).none_of n9
  have k68 : k6 ≠ k8 := yM (s7 _ _ m6) n9
  have S9 : HS h h9 := (s6.trans s7).trans s9
  have m69 := s9 _ _ (s7 _ _ m6)
  have sb : HS h (jI k8 h9) := sF S9 n8h
  have rb : RB (jI k8 h9) (.slice ar (qU id).length cr) (qU id) := rr.hs (sF s9 n9)
  have sb9 : HS (jI k8 h9) h9 := dG k8 h9
  have m6b := (dF h9 _ k68).trans m69
  have nb8 : jI k8 h9 k8 = none := mP k8 h9
  generalize jI k8 h9 = hb at sb rb sb9 m6b nb8
  refine qJ ?_; repeat' (first | with_reducible apply qQ | ((with_reducible apply qI) <;> try simp only [qM, qC, qF, qH, qD, qA, qG, reduceIte, seval, Int.cast_ofNat_Int, qN, qO, qL, qY, zA, zB, xM, xE]))
  refine xL [0, 6, 7, 8] (fun (s : Nat × Nat) => [(1, .int .i64 (s.2 : Int))]) (fun q s h' => fs.length - s.1 = q ∧ s.1 ≤ fs.length ∧ HS hb h' ∧ (fs ++ [e])[s.1]? = some s.2 ∧ ∃ (af : Option Addr) (cf : Nat) (cells : List Value), h' k8 = some ⟨[.slice af s.1 cf, .int .i64 0, .slice none 0 0, .slice none 0 0, .int .i64 0, .int .i64 0, .slice none 0 0, .int .i64 0, .slice none 0 0, .slice none 0 0, .slice none 0 0], 0, true, false⟩ ∧
      OWNC 3 hb h' (.slice af s.1 cf) s.1 cells ∧ cells.all uT = true ∧ ∀ (t : Nat) y, t < s.1 → (fs.map (dE M (qU id)))[t]? = some y → RHp h' ((cells.drop (t * 3)).take 3) y) fs.length (0, i) (by simp [lk]) ⟨rfl, Nat.zero_le _, sb9, w0, none, 0, [], m9, OWNC.nil _ _ _, rfl, fun t y ht => by simp at ht⟩ ?_
  rintro _ ⟨j, p⟩ h10 ⟨rfl, hj, s10, hp, af, cf, cells, m10, ow, hu, hel⟩
  simp only at hj hp m10 ow hel
  have hpM : ∃ y, M[p]? = some y ∧ (j < fs.length → fs[j]? = some p ∧ jF (qU id) y = false) ∧ (j = fs.length → e = p ∧ nd = y) := by
    by_cases hjl : j < fs.length
    · rw [List.getElem?_append_left hjl] at hp
      obtain ⟨y, q1, q2, _⟩ := wf j p hp
      exact ⟨y, q1, fun _ => ⟨hp, q2⟩, fun q => by omega⟩
    · have : j = fs.length := by omega
      subst this
      rw [List.getElem?_append_right (by omega), Nat.sub_self] at hp
      cases hp
      exact ⟨nd, we, fun q => by omega, fun _ => ⟨rfl, rfl⟩⟩
  obtain ⟨y, hy, yg, ye⟩ := hpM
  have x10 := (x.hs sb).hs s10
  have oky := x10.arr.ok.ok p y hy
  have hpf := oky.pf
  have hdpy := oky.dp
  refine qJ ?_; repeat' (first | (with_reducible first | apply qK | apply qQ) | ((first | (with_reducible apply qI) | with_reducible apply qB) <;> try simp only [qM, qC, qF, qH, qD, qA, qG, reduceIte, seval, Int.cast_ofNat_Int, qN, qO, qL, qY, zA, zB, xM, xE]))
  refine (c_Node N x10 hy).mono ?_
  rintro _ h11 ⟨s11, cn, rfl, r11⟩
  obtain ⟨a1, c1, a2, c2, a3, c3, a4, c4, rfl, r1, r2, r3, r4⟩ := r11
  refine qJ ?_; repeat' (first | ((with_reducible apply qI) <;> try simp only [qM, qC, qF, qH, qD, qA, qG, reduceIte, seval, Int.cast_ofNat_Int, qN, qO, qL, qY, zA, zB, xM, xE]))
  refine xG fun k12 h12 m12 s12 f12 n12 => ?_
  refine qJ ?_; repeat' (first | ((with_reducible apply qI) <;> try simp only [qM, qC, qF, qH, qD, qA, qG, reduceIte, seval, Int.cast_ofNat_Int, qN, qO, qL, qY, zA, zB, xM, xE]))
  refine vJ m12 wF rfl (by decide) rfl rfl rfl fun h13 m13 f13 => ?_
  have ld0 := zU (P := Tryz.prog) (t := 92) m13 wF rfl
  simp only [Nd.cs] at m13
  have S13 := s11.trans (s12.upd n12 f13)
  have m8b := S13 _ _ m10
  have z : ∀ {v l}, RB h11 v l → RB h13 v l := fun r => r.hs (s12.upd n12 f13)
  have q3 := z r3
  have rn : RNd h13 (y.cs (.slice a1 y.id.length c1) (.slice a2 y.ky.length c2) (.slice a3 y.pf.length c3) (.slice a4 y.hs.length c4)) y := ⟨a1, c1, a2, c2, a3, c3, a4, c4, rfl, z r1, z r2, z r3, z r4⟩
  have rb13 := (rb.hs s10).hs S13
  have x13 := x10.hs S13
  have k812 : k12 ≠ k8 := (yM (s11 _ _ m10) n12).symm
  have n12h : h10 k12 = none := s11.none_of n12
  by_cases hjl : j < fs.length
  case neg =>
    obtain ⟨rfl, rfl⟩ := ye (by omega)
    obtain rfl : j = fs.length := by omega
    have elen : (fs.map (dE M (qU id))).length = fs.length := by simp
    unfold qL2
    cases hlf : nd.lf
    case true =>
      rw [hlf] at m13
      rw [if_pos rfl]
      refine qJ ?_; repeat' (first | with_reducible apply qK | ((first | (with_reducible apply qI) | (with_reducible first | apply qB | apply qS | apply qR)) <;> try simp only [qM, qC, qF, qH, qD, qA, qG, reduceIte, seval, Int.cast_ofNat_Int, qN, qO, qL, qY, zA, zB, xM, xE, qE m13 rY, ld0]))
      refine (c_Of (R := R) N rn).mono ?_
      rintro _ h14 ⟨s14, cs14, rfl, rp14⟩
      have lp := rp14.len
      have m814 := s14 _ _ m8b
      have m1314 := s14 _ _ m13
      refine qJ ?_; repeat' (first | ((with_reducible apply qI) <;> try simp only [qM, qC, qF, qH, qD, qA, qG, reduceIte, seval, Int.cast_ofNat_Int, qN, qO, qL, qY, zA, zB, xM, xE]))
      refine qA1 m814 rfl dC (by decide) (by simpa [vcells] using lp.1) (by simp) (by simpa [vcells] using lp.2.1) fun h15 m15 f15 => ?_
      have e15 : yR [.slice af fs.length cf, .int .i64 0, .slice none 0 0, .slice none 0 0, .int .i64 0, .int .i64 0, .slice none 0 0, .int .i64 0, .slice none 0 0, .slice none 0 0, .slice none 0 0] 1 (vcells (.agg cs14.toArray)) = .slice af fs.length cf :: cs14 := by
        simp only [yR, vcells, List.take_succ_cons, List.take_zero, List.cons_append, List.nil_append, lp.1, List.drop_succ_cons, List.drop_zero, Nat.reduceAdd, List.append_nil]
        try simp
      simp only [e15] at m15
      have m1315 := (f15 k12 k812).trans m1314
      have m6_15 : h15 k6 = _ := (f15 k6 k68).trans (s14 _ _ (S13 _ _ (s10 _ _ m6b)))
      have ld15 := zU (P := Tryz.prog) (t := 28) m15 gX (by simp only [List.length_cons, lp.1])
      refine qJ ?_; repeat' (first | with_reducible apply qK | ((first | (with_reducible apply qI) | (with_reducible first | apply qB | apply qS | apply qR)) <;> try simp only [qM, qC, qF, qH, qD, qA, qG, reduceIte, seval, Int.cast_ofNat_Int, qN, qO, qL, qY, zA, zB, xM, xE, qE m1315 rY, ld15]))
      refine vJ m6_15 gX rfl (by decide) (by simp only [List.length_cons, lp.1]) rfl (by simp only [List.all_cons, lp.2.1]; rfl) fun h16 m16 f16 => ?_
      have ld16 := zU (P := Tryz.prog) (t := 28) m16 gX (by simp only [List.length_cons, lp.1])
      refine qJ ?_; repeat' (first | ((first | (with_reducible apply qI) | with_reducible apply qP) <;> try simp only [qM, qC, qF, qH, qD, qA, qG, reduceIte, seval, Int.cast_ofNat_Int, qN, qO, qL, qY, zA, zB, xM, xE, fA, ld16]))
      have zb : ∀ {v l}, RB h14 v l → RB h16 v l := fun r => (r.hx m814 rfl (zE f15)).hx m6_15 rfl (zE f16)
      have zh : ∀ {cs y}, RHp h14 cs y → RHp h16 cs y := fun r => (r.hx m814 rfl (zE f15)).hx m6_15 rfl (zE f16)
      have eof : (ofN nd : Pn K) = ⟨1, nd.si, 0, 0, nd.id, nd.ky, [], [], [], []⟩ := by unfold ofN; rw [if_pos hlf]
      rw [eof] at rp14
      have ow2 := (((ow.hs S13).hs s14).by5 m814 f15).by5 m6_15 f16
      have rl := OWNC.rl (R := RHp) (l := fs.map (dE M (qU id))) (by rw [elen]; exact ow2) (fun t y hy => zh (((hel t y (by have := (List.getElem?_eq_some_iff.1 hy).1; simp at this; omega) hy).hs S13).hs s14))
      refine ⟨(((sb.trans s10).trans (S13.trans s14)).upd n8h f15).upd n6 f16, af, cf, cs14, by rw [elen], ?_, RPn.bx zb rfl rp14⟩
      rw [elen]; exact rl
    have hnb : fV (qU id) nd.pf (nd.dp : Int) = false := by
      unfold jF at ws
      rw [hlf] at ws
      simpa using ws
    have fi := ti.fork e nd we hlf
    obtain ⟨yl, hyl, _⟩ := fi.kl
    obtain ⟨yr, hyr, _⟩ := fi.kr
    rw [hlf] at m13
    rw [if_neg (by decide), vK hyl, vK hyr]
    refine qJ ?_; repeat' (first | with_reducible apply qK | ((first | (with_reducible apply qI) | (with_reducible first | apply qB | apply qS | apply qR) | ((refine GTri.mono (kJ _ _ rb13 q3 (by omega) (by omega) _) ?_); rintro _ _ ⟨rfl, hh9⟩; replace hh9 := hh9.symm; subst hh9)) <;> try simp only [qM, qC, qF, qH, qD, qA, qG, reduceIte, seval, Int.cast_ofNat_Int, qN, qO, qL, qY, zA, zB, xM, xE, qE m13 rY, qE m13 qV, qE m13 zT, ld0, hnb]))
    refine (c_Of (R := R) N rn).mono ?_
    rintro _ h14 ⟨s14, cs14, rfl, rp14⟩
    have eof : (ofN nd : Pn K) = ⟨2, 0, nd.dp, nd.nw, [], [], nd.pf, [], [], []⟩ := by unfold ofN; rw [hlf]; rfl
    rw [eof] at rp14
    obtain ⟨e1, d1, e2, d2, e3, d3, e4, d4, e5, d5, e6, d6, rfl, y1, y2, y3, y4, y5, y6⟩ := rp14
    have m814 := s14 _ _ m8b
    have m1314 := s14 _ _ m13
    refine qJ ?_; repeat' (first | ((with_reducible apply qI) <;> try simp only [qM, qC, qF, qH, qD, qA, qG, reduceIte, seval, Int.cast_ofNat_Int, qN, qO, qL, qY, zA, zB, xM, xE]))
    refine qA1 m814 rfl dC (by decide) rfl (by simp) rfl fun h15 m15 f15 => ?_
    simp only [yR, vcells, Pn.cs, List.take_succ_cons, List.take_zero, List.drop_succ_cons, List.drop_zero, List.cons_append, List.nil_append, List.length_cons, List.length_nil, Nat.reduceAdd] at m15
    have m1315 := (f15 k12 k812).trans m1314
    have x15 := (x13.hs s14).upd m814 rfl (fun q => by rw [← q, x10.obj] at m10; cases m10) f15
    have S15 : HS h h15 := ((sb.trans s10).trans (S13.trans s14)).upd n8h f15
    have zb15 : ∀ {v l}, RB h14 v l → RB h15 v l := fun r => r.hx m814 rfl (zE f15)
    have zh15 : ∀ {cs y}, RHp h14 cs y → RHp h15 cs y := fun r => r.hx m814 rfl (zE f15)
    refine qJ ?_; repeat' (first | with_reducible apply qK | ((first | (with_reducible apply qI) | (with_reducible first | apply qB | apply qS) | with_reducible refine zH xE xQ (by kernel_rfl) ?_) <;> try simp only [qM, qC, qF, qH, qD, qA, qG, reduceIte, seval, Int.cast_ofNat_Int, qN, qO, qL, qY, zA, zB, xM, xE, qE m1315 rY, qE m1315 zT]))
    refine (lR N x15 hyl).mono ?_
    rintro _ h16 ⟨s16, al, cl, rfl, rl16⟩
    have m1316 := s16 _ _ m1315
    have x16 := x15.hs s16
    refine qJ ?_; repeat' (first | ((with_reducible apply qI) <;> try simp only [qM, qC, qF, qH, qD, qA, qG, reduceIte, seval, Int.cast_ofNat_Int, qN, qO, qL, qY, zA, zB, xM, xE, qE m1316 rY, qE m1316 zT]))
    refine (lR N x16 hyr).mono ?_
    rintro _ h17 ⟨s17, ar2, cr2, rfl, rr17⟩
    have m1317 := s17 _ _ m1316
    have m817 := s17 _ _ (s16 _ _ m15)
    refine qJ ?_; repeat' (first | ((with_reducible apply qI) <;> try simp only [qM, qC, qF, qH, qD, qA, qG, reduceIte, seval, Int.cast_ofNat_Int, qN, qO, qL, qY, zA, zB, xM, xE, qE m1317 rY, qE m1317 zT]))
    refine zW m817 qV rfl (by simp) rfl rfl fun h18 m18 f18 => ?_
    simp only [List.set_cons_zero, List.set_cons_succ] at m18
    have m1318 := (f18 k12 k812).trans m1317
    refine qJ ?_; repeat' (first | ((with_reducible apply qI) <;> try simp only [qM, qC, qF, qH, qD, qA, qG, reduceIte, seval, Int.cast_ofNat_Int, qN, qO, qL, qY, zA, zB, xM, xE, qE m1318 rY, qE m1318 zT]))
    refine zW m18 qV rfl (by simp) rfl rfl fun h19 m19 f19 => ?_
    simp only [List.set_cons_zero, List.set_cons_succ] at m19
    have m1319 := (f19 k12 k812).trans m1318
    have m6_19 : h19 k6 = _ := (f19 k6 k68).trans ((f18 k6 k68).trans (s17 _ _ (s16 _ _ ((f15 k6 k68).trans (s14 _ _ (S13 _ _ (s10 _ _ m6b)))))))
    have ld19 := zU (P := Tryz.prog) (t := 28) m19 gX rfl
    refine qJ ?_; repeat' (first | with_reducible apply qK | ((first | (with_reducible apply qI) | with_reducible apply qB) <;> try simp only [qM, qC, qF, qH, qD, qA, qG, reduceIte, seval, Int.cast_ofNat_Int, qN, qO, qL, qY, zA, zB, xM, xE, qE m1319 rY, qE m1319 zT, ld19]))
    refine vJ m6_19 gX rfl (by decide) rfl rfl rfl fun h20 m20 f20 => ?_
    have ld20 := zU (P := Tryz.prog) (t := 28) m20 gX rfl
    refine qJ ?_; repeat' (first | ((first | (with_reducible apply qI) | with_reducible apply qP) <;> try simp only [qM, qC, qF, qH, qD, qA, qG, reduceIte, seval, Int.cast_ofNat_Int, qN, qO, qL, qY, zA, zB, xM, xE, fA, ld20]))
    have zc : ∀ {v l}, RB h17 v l → RB h20 v l := fun r => ((r.hx m817 rfl (zE f18)).hx m18 rfl (zE f19)).hx m6_19 rfl (zE f20)
    have zhc : ∀ {cs y}, RHp h17 cs y → RHp h20 cs y := fun r => ((r.hx m817 rfl (zE f18)).hx m18 rfl (zE f19)).hx m6_19 rfl (zE f20)
    have zd : ∀ {v l}, RB h14 v l → RB h20 v l := fun r => zc (((zb15 r).hs s16).hs s17)
    have ow2 := (((((((ow.hs S13).hs s14).by5 m814 f15).hs s16).hs s17).by5 m817 f18).by5 m18 f19).by5 m6_19 f20
    have rl := OWNC.rl (R := RHp) (l := fs.map (dE M (qU id))) (by rw [elen]; exact ow2) (fun t y hy => zhc (((zh15 (((hel t y (by have := (List.getElem?_eq_some_iff.1 hy).1; simp at this; omega) hy).hs S13).hs s14)).hs s16).hs s17))
    have S17 := (S15.trans s16).trans s17
    have n8h' : h k8 = none := n8h
    refine ⟨((S17.upd n8h f18).upd n8h f19).upd n6 f20, af, cf, _, by rw [elen]; rfl, ?_, e1, d1, e2, d2, e3, d3, al, cl, ar2, cr2, e6, d6, rfl, zd y1, zd y2, zd y3, zc (rl16.hs s17), zc rr17, y6.nilk⟩
    rw [elen]; exact rl
  obtain ⟨hfj, hst⟩ := yg hjl
  obtain ⟨hlf, hbg⟩ := vO hst
  have fi := ti.fork p y hy hlf
  obtain ⟨yl, hyl, _⟩ := fi.kl
  obtain ⟨yr, hyr, _⟩ := fi.kr
  rw [hlf] at m13
  obtain ⟨y', hy', _, hkid⟩ := wf j p hfj
  rw [hy] at hy'
  cases hy'
  have ej := ow.len
  have hgx : (fs.map (dE M (qU id)))[j]? = some (dE M (qU id) p) := by rw [List.getElem?_map, hfj]; rfl
  have wo := qE (P := Tryz.prog) (t := 23) m8b kC (o := 0)
  cases hbt : (xP (qU id) y.dp == 1)
  · have hbq : (xP (qU id) y.dp = 1) = False := by simpa using hbt
    have ehop : dE M (qU id) p = ((y.dp : Int), (y.nw : Int), yr.hs) := by
      unfold dE
      rw [vK hy]
      simp only [hbq, if_true, if_false]
      rw [vK hyr]
    have ekid : kA (qU id) y = y.l := by unfold kA; simp only [hbq, if_true, if_false]
    rw [ekid] at hkid
    refine qJ ?_; repeat' (first | with_reducible apply qK | ((first | (with_reducible apply qI) | (with_reducible first | apply qB | apply qS | apply qR) | with_reducible refine zH xE xQ (by kernel_rfl) ?_ | ((refine GTri.mono (kJ _ _ rb13 q3 (by omega) (by omega) _) ?_); rintro _ _ ⟨rfl, hh9⟩; replace hh9 := hh9.symm; subst hh9) | ((refine GTri.mono (gR _ _ rb13 y.dp (by omega)) ?_); rintro _ _ ⟨rfl, hh9⟩; replace hh9 := hh9.symm; subst hh9)) <;> try simp only [qM, qC, qF, qH, qD, qA, qG, reduceIte, seval, Int.cast_ofNat_Int, qN, qO, qL, qY, zA, zB, xM, xE, qE m13 rY, qE m13 qV, qE m13 zT, qE m8b kC, ld0, hbg, hbt]))
    refine (lR N x13 hyr).mono ?_
    rintro _ h14 ⟨s14, ah, ch, rfl, rh14⟩
    have m1314 := s14 _ _ m13
    have m814 := s14 _ _ m8b
    refine qJ ?_; repeat' (first | ((with_reducible apply qI) <;> try simp only [qM, qC, qF, qH, qD, qA, qG, reduceIte, seval, Int.cast_ofNat_Int, qN, qO, qL, qY, zA, zB, xM, xE, qE m1314 zT, qE m814 kC, xF, xZ, vH, Shape.pl, List.all_cons, List.all_nil, zF]))
    refine dA qS5 rfl rfl (by decide) (by decide) rfl fun k15 h15 b15 s15 f15 n15 => ?_
    have m1315 := s15 _ _ m1314
    have m815 := s15 _ _ m814
    have S15 := (S13.trans s14).trans s15
    refine qJ ?_; repeat' (first | ((with_reducible apply qI) <;> try simp only [qM, qC, qF, qH, qD, qA, qG, reduceIte, seval, Int.cast_ofNat_Int, qN, qO, qL, qY, zA, zB, xM, xE, qE m1315 zT, qE m815 kC, xF, xZ, vH, Shape.pl, List.all_cons, List.all_nil, zF]))
    refine uO qS5 Tryz.underlying23 rfl (s10.trans S15) (ow.hs S15) b15 rfl rfl (by omega) (by simp only [maxLen]; omega) fun v16 h16 s16 fr16 o16 => ?_
    obtain ⟨a16, c16, rfl⟩ := o16.form
    have m816 := tU fr16 m815 (by simp)
    have m1316 := tU fr16 m1315 (by simp)
    refine qJ ?_; repeat' (first | ((with_reducible apply qI) <;> try simp only [qM, qC, qF, qH, qD, qA, qG, reduceIte, seval, Int.cast_ofNat_Int, qN, qO, qL, qY, zA, zB, xM, xE, qE m1316 zT, qE m816 kC, xF, xZ, vH, Shape.pl, List.all_cons, List.all_nil, zF]))
    refine zW m816 kC rfl (by simp) rfl rfl fun h17 m17 f17 => ?_
    simp only [List.set_cons_zero, List.set_cons_succ] at m17
    refine qJ ?_; repeat' (first | ((first | (with_reducible apply qI) | with_reducible apply qB) <;> try simp only [qM, qC, qF, qH, qD, qA, qG, reduceIte, seval, Int.cast_ofNat_Int, qN, qO, qL, qY, zA, zB, xM, xE]))
    have zz : ∀ {v l}, RB h15 v l → RB h17 v l := fun r => (qN8 fr16 hu r).hx m816 rfl (zE f17)
    have zh : ∀ {cs y}, RHp h15 cs y → RHp h17 cs y := fun r => by
      obtain ⟨a, c, e, q⟩ := r
      exact ⟨a, c, e, zz q⟩
    refine ⟨_, (j + 1, y.l), by simp only; omega, (by simp only [List.forall_mem_cons, List.not_mem_nil, false_implies, implies_true, List.map, List.cons_append, List.nil_append, lk, Nat.reduceEqDiff, reduceIte, and_true, true_and]), rfl, by simp only; omega, s16.upd nb8 f17, hkid, a16, c16, _, m17, o16.by5 m816 f17, ?_, fun t z ht hz => ?_⟩
    · rw [List.all_append, hu]; rfl
    · by_cases htj : t < j
      · have h1 := hel t z htj hz
        rw [List.drop_append_of_le_length (by omega), List.take_append_of_le_length (by rw [List.length_drop]; omega)]
        exact zh (h1.hs S15)
      · have htj2 : t = j := by simp only at ht; omega
        subst htj2
        rw [← ej, List.drop_left]
        rw [hgx, ehop] at hz
        cases hz
        exact ⟨ah, ch, rfl, zz (rh14.hs s15)⟩
  · have hbq : (xP (qU id) y.dp = 1) = True := by simpa using hbt
    have ehop : dE M (qU id) p = ((y.dp : Int), (y.nw : Int), yl.hs) := by
      unfold dE
      rw [vK hy]
      simp only [hbq, if_true, if_false]
      rw [vK hyl]
    have ekid : kA (qU id) y = y.r := by unfold kA; simp only [hbq, if_true, if_false]
    rw [ekid] at hkid
    refine qJ ?_; repeat' (first | with_reducible apply qK | ((first | (with_reducible apply qI) | (with_reducible first | apply qB | apply qS | apply qR) | with_reducible refine zH xE xQ (by kernel_rfl) ?_ | ((refine GTri.mono (kJ _ _ rb13 q3 (by omega) (by omega) _) ?_); rintro _ _ ⟨rfl, hh9⟩; replace hh9 := hh9.symm; subst hh9) | ((refine GTri.mono (gR _ _ rb13 y.dp (by omega)) ?_); rintro _ _ ⟨rfl, hh9⟩; replace hh9 := hh9.symm; subst hh9)) <;> try simp only [qM, qC, qF, qH, qD, qA, qG, reduceIte, seval, Int.cast_ofNat_Int, qN, qO, qL, qY, zA, zB, xM, xE, qE m13 rY, qE m13 qV, qE m13 zT, qE m8b kC, ld0, hbg, hbt]))
    refine (lR N x13 hyl).mono ?_
    rintro _ h14 ⟨s14, ah, ch, rfl, rh14⟩
    have m1314 := s14 _ _ m13
    have m814 := s14 _ _ m8b
    refine qJ ?_; repeat' (first | ((with_reducible apply qI) <;> try simp only [qM, qC, qF, qH, qD, qA, qG, reduceIte, seval, Int.cast_ofNat_Int, qN, qO, qL, qY, zA, zB, xM, xE, qE m1314 zT, qE m814 kC, xF, xZ, vH, Shape.pl, List.all_cons, List.all_nil, zF]))
    refine dA qS5 rfl rfl (by decide) (by decide) rfl fun k15 h15 b15 s15 f15 n15 => ?_
    have m1315 := s15 _ _ m1314
    have m815 := s15 _ _ m814
    have S15 := (S13.trans s14).trans s15
    refine qJ ?_; repeat' (first | ((with_reducible apply qI) <;> try simp only [qM, qC, qF, qH, qD, qA, qG, reduceIte, seval, Int.cast_ofNat_Int, qN, qO, qL, qY, zA, zB, xM, xE, qE m1315 zT, qE m815 kC, xF, xZ, vH, Shape.pl, List.all_cons, List.all_nil, zF]))
    refine uO qS5 Tryz.underlying23 rfl (s10.trans S15) (ow.hs S15) b15 rfl rfl (by omega) (by simp only [maxLen]; omega) fun v16 h16 s16 fr16 o16 => ?_
    obtain ⟨a16, c16, rfl⟩ := o16.form
    have m816 := tU fr16 m815 (by simp)
    have m1316 := tU fr16 m1315 (by simp)
    refine qJ ?_; repeat' (first | ((with_reducible apply qI) <;> try simp only [qM, qC, qF, qH, qD, qA, qG, reduceIte, seval, Int.cast_ofNat_Int, qN, qO, qL, qY, zA, zB, xM, xE, qE m1316 zT, qE m816 kC, xF, xZ, vH, Shape.pl, List.all_cons, List.all_nil, zF]))
    refine zW m816 kC rfl (by simp) rfl rfl fun h17 m17 f17 => ?_
    simp only [List.set_cons_zero, List.set_cons_succ] at m17
    refine qJ ?_; repeat' (first | ((first | (with_reducible apply qI) | with_reducible apply qB) <;> try simp only [qM, qC, qF, qH, qD, qA, qG, reduceIte, seval, Int.cast_ofNat_Int, qN, qO, qL, qY, zA, zB, xM, xE]))
    have zz : ∀ {v l}, RB h15 v l → RB h17 v l := fun r => (qN8 fr16 hu r).hx m816 rfl (zE f17)
    have zh : ∀ {cs y}, RHp h15 cs y → RHp h17 cs y := fun r => by
      obtain ⟨a, c, e, q⟩ := r
      exact ⟨a, c, e, zz q⟩
    refine ⟨_, (j + 1, y.r), by simp only; omega, (by simp only [List.forall_mem_cons, List.not_mem_nil, false_implies, implies_true, List.map, List.cons_append, List.nil_append, lk, Nat.reduceEqDiff, reduceIte, and_true, true_and]), rfl, by simp only; omega, s16.upd nb8 f17, hkid, a16, c16, _, m17, o16.by5 m816 f17, ?_, fun t z ht hz => ?_⟩
    · rw [List.all_append, hu]; rfl
    · by_cases htj : t < j
      · have h1 := hel t z htj hz
        rw [List.drop_append_of_le_length (by omega), List.take_append_of_le_length (by rw [List.length_drop]; omega)]
        exact zh (h1.hs S15)
      · have htj2 : t = j := by simp only at ht; omega
        subst htj2
        rw [← ej, List.drop_left]
        rw [hgx, ehop] at hz
        cases hz
        exact ⟨ah, ch, rfl, zz (rh14.hs s15)⟩
end
theorem gN : type_of% (And.intro zP (And.intro rF (And.intro yC (And.intro zJ5 (And.intro yB (And.intro uE (And.intro sW (And.intro zJ4 (And.intro xS (And.intro jS (And.intro wO rs7))))))))))) := And.intro zP (And.intro rF (And.intro yC (And.intro zJ5 (And.intro yB (And.intro uE (And.intro sW (And.intro zJ4 (And.intro xS (And.intro jS (And.intro wO rs7))))))))))
theorem fill1 {es : Nat} {z x : Value} (hl : (vcells x).length = es) (hc : (vcells x).all zF = true) : xZ (Shape.elems es).pl (jX z (1 * es)) [(0, x)] = some (vcells x) := by
  have hzl := gF z (1 * es)
  have hp : (Shape.elems es).pl 0 = some (0, es) := by simp [Shape.pl]
  simp only [xZ, hp]
  have := qH1 (vcells x) (jX z (1 * es)) [] (by rw [hzl, hl, Nat.one_mul])
  simp only [List.nil_append, List.length_nil] at this
  rw [this, hzl, Nat.one_mul]
  simp [hl, hc]
theorem chk_a : qL4 4 [97] [] (qL2 (K := Pd 0) [vF [97] [] 0] (vF [97] [] 0)) = true := by decide +kernel
theorem zM4 (N : Nat) {h : GH} (t : TK h) : GTri Tryz.prog N 7 [] h fun v h' => v = .bool true ∧ HS h h' := by
  refine xH Tryz.func7 rfl gf7 ok7 (by simp [Tryz.ntmps7]) ?_
  refine qJ ?_; repeat' (first | with_reducible apply qK | ((first | (with_reducible apply qI) | with_reducible apply qB) <;> try simp only [qM, qC, qF, qH, qD, qA, qG, reduceIte, seval, Int.cast_ofNat_Int, qN, qO, gN]))
  refine kU (cs := [.int .u8 97]) wX rfl (by decide) (by decide) (by rw [xN _ rfl]; rfl) rfl fun k1 h1 m1 s1 f1 n1 => ?_
  refine qJ ?_; repeat' (first | ((with_reducible apply qI) <;> try simp only [qM, qC, qF, qH, qD, qA, qG, reduceIte, seval, Int.cast_ofNat_Int, qN, qO, gN]))
  refine zB7 Tryz.underlying22 Tryz.underlying5 m1 rfl (by decide) fun h1b m1b f1b => ?_
  have s1b : HS h h1b := s1.upd n1 f1b
  refine qJ ?_; repeat' (first | ((with_reducible apply qI) <;> try simp only [qM, qC, qF, qH, qD, qA, qG, reduceIte, seval, Int.cast_ofNat_Int, qN, qO, gN, xF, xZ, vH, Shape.pl, List.all_cons, List.all_nil, zF]))
  refine kU (cs := [.slice (some ⟨k1, 0, none⟩) 1 3, .slice none 0 0, .int .i64 0]) el41 rfl (by decide) (by decide) (fill1 rfl rfl) rfl fun k2 h2 m2 s2 f2 n2 => ?_
  have S2 := s1b.trans s2
  have rb1 : RB h1b (.slice (some ⟨k1, 0, none⟩) ([97] : List UInt8).length 3) [97] := .inr ⟨⟨k1, 0, none⟩, 3, rfl, wP m1b rfl rfl, by decide⟩
  have rp : RL 3 RPut h2 (.slice (some ⟨k2, 0, none⟩) ([(([97], []), 0)] : List Pt).length 3) [(([97], []), 0)] := .inr ⟨⟨k2, 0, none⟩, 3, _, rfl, wP m2 rfl rfl, by decide, fun i x hx => by
    rcases i with _ | i
    · cases hx
      exact ⟨_, _, _, _, rfl, rb1.hs s2, RB.nil _⟩
    · simp at hx, .inr ⟨_, m2, .inl (by simp)⟩⟩
  refine qJ ?_; repeat' (first | ((with_reducible apply qI) <;> try simp only [qM, qC, qF, qH, qD, qA, qG, reduceIte, seval, Int.cast_ofNat_Int, qN, qO, gN]))
  refine (qZ2 N (t.hs S2) rp (by simp) (by simp)).mono ?_
  rintro _ h3 ⟨s3, k, kq, M, rt, v, cs, v2, cs2, rfl, _, x3, y3, ti, ro, hone⟩
  obtain ⟨eM, ert⟩ := hone _ rfl
  have es : qU6 0 = 0 := by decide
  simp only [es] at eM
  have eM' : M = [vF [97] [] 0] := eM
  subst eM'
  subst ert
  have S3 := S2.trans s3
  refine qJ ?_; repeat' (first | with_reducible apply qK | ((first | (with_reducible apply qI) | with_reducible apply qB) <;> try simp only [qM, qC, qF, qH, qD, qA, qG, reduceIte, seval, Int.cast_ofNat_Int, qN, qO, gN, gPick]))
  refine kU (cs := [.int .u8 97]) wX rfl (by decide) (by decide) (by rw [xN _ rfl]; rfl) rfl fun k4 h4 m4 s4 f4 n4 => ?_
  refine qJ ?_; repeat' (first | ((with_reducible apply qI) <;> try simp only [qM, qC, qF, qH, qD, qA, qG, reduceIte, seval, Int.cast_ofNat_Int, qN, qO, gN]))
  refine zB7 Tryz.underlying22 Tryz.underlying5 m4 rfl (by decide) fun h5 m5 f5 => ?_
  have s35 : HS h3 h5 := s4.upd n4 f5
  refine qJ ?_; repeat' (first | ((with_reducible apply qI) <;> try simp only [qM, qC, qF, qH, qD, qA, qG, reduceIte, seval, Int.cast_ofNat_Int, qN, qO, gN, gPick]))
  refine kU (cs := [.int .u8 97]) wX rfl (by decide) (by decide) (by rw [xN _ rfl]; rfl) rfl fun k6 h6 m6 s6 f6 n6 => ?_
  refine qJ ?_; repeat' (first | ((with_reducible apply qI) <;> try simp only [qM, qC, qF, qH, qD, qA, qG, reduceIte, seval, Int.cast_ofNat_Int, qN, qO, gN]))
  refine zB7 Tryz.underlying22 Tryz.underlying5 m6 rfl (by decide) fun h7 m7 f7 => ?_
  have s57 : HS h5 h7 := s6.upd n6 f7
  have rb5 : RB h7 (.slice (some ⟨k4, 0, none⟩) ([97] : List UInt8).length 3) [97] := RB.hs s57 (.inr ⟨⟨k4, 0, none⟩, 3, rfl, wP m5 rfl rfl, by decide⟩)
  have rb7 : RB h7 (.slice (some ⟨k6, 0, none⟩) ([97] : List UInt8).length 3) [97] := .inr ⟨⟨k6, 0, none⟩, 3, rfl, wP m7 rfl rfl, by decide⟩
  have S37 := s35.trans s57
  have w : Way [vF [97] [] 0] (qU [97]) 0 [] 0 (vF [97] [] 0) := .stop rfl rfl
  refine qJ ?_; repeat' (first | ((with_reducible apply qI) <;> try simp only [qM, qC, qF, qH, qD, qA, qG, reduceIte, seval, Int.cast_ofNat_Int, qN, qO, gN, gPick]))
  refine (zI8 (R := RPd 0) N (x3.hs S37) ti rb7 (by decide) w (by decide)).mono ?_
  rintro _ h8 ⟨s8, b8, d8, cs8, rfl, rh8, rp8⟩
  have S8 := S3.trans (S37.trans s8)
  refine qJ ?_; repeat' (first | ((with_reducible apply qI) <;> try simp only [qM, qC, qF, qH, qD, qA, qG, reduceIte, seval, Int.cast_ofNat_Int, qN, qO, gN, gPick]))
  refine (zI7 N (t.hs S8) rp8 (fun s cs x r => RPd.hs s 0 r) 4 (by decide) (by decide) (rb5.hs s8) rh8 (by decide)).mono ?_
  rintro _ h9 ⟨s9, a9, c9, rfl, _⟩
  have e1 : (zN4 4 [97] (List.map (dE [vF [97] [] 0] (qU [97])) []) (qL2 (K := Pd 0) [vF [97] [] 0] (vF [97] [] 0))).length = 1 := by
    unfold zN4
    rw [List.map_nil, chk_a, if_pos rfl]; rfl
  rw [e1]
  refine qJ ?_; repeat' (first | ((first | (with_reducible apply qI) | with_reducible apply qP) <;> try simp only [qM, qC, qF, qH, qD, qA, qG, reduceIte, seval, Int.cast_ofNat_Int, qN, qO, gN, gPick]))
  exact S8.trans s9
section
variable {K : Type}
theorem cutF_len (n : Int) (l : List UInt8) : (vD n l).length ≤ 32 := by
  have := jK l
  simp only [vD, List.length_take, this]; omega
end
end Go.Gh
namespace Go.Gh
open Go Go.Proofs Go.RowKit Go.ChangeShapes Go.WideShapes Go.ChangeAt
set_option linter.unusedVariables false
set_option linter.unusedSimpArgs false
set_option maxRecDepth 100000
set_option maxHeartbeats 1000000
theorem zF7 {α : Type} (g : α → Nat) (h : ∀ x, 1 ≤ g x) : ∀ l : List α, l.length ≤ (l.map g).sum
  | [] => by simp
  | x :: l => by
    have := zF7 g h l
    have := h x
    simp only [List.length_cons, List.map_cons, List.sum_cons]
    omega
end Go.Gh
namespace Go.Gh
open Go Go.Proofs Go.RowKit
set_option linter.unusedVariables false
set_option linter.unusedSimpArgs false
set_option maxRecDepth 100000
set_option maxHeartbeats 4000000
section
variable {size : Int} {n : Nat} {p : Pn (Pd n)}
end
section
variable {K L : Type}
end
theorem uI : type_of% (And.intro zP (And.intro uU (And.intro uE (And.intro xS (And.intro wO rs110))))) := And.intro zP (And.intro uU (And.intro uE (And.intro xS (And.intro wO rs110))))
theorem uY : type_of% (And.intro zP (And.intro uU (And.intro uE (And.intro xS (And.intro wO rs111))))) := And.intro zP (And.intro uU (And.intro uE (And.intro xS (And.intro wO rs111))))
theorem uX : type_of% (And.intro zP (And.intro uU (And.intro uE (And.intro xS (And.intro wO (And.intro qT8 rs113)))))) := And.intro zP (And.intro uU (And.intro uE (And.intro xS (And.intro wO (And.intro qT8 rs113)))))
def vZ : Nat → List (Nat × List Nat) × List Nat
  | 1 => ([(0, []), (1, []), (2, []), (3, []), (4, []), (5, []), (6, []), (7, []), (8, []), (9, []), (10, []), (11, []), (12, []), (13, []), (14, []), (15, []), (16, []), (17, []), (18, []), (19, []), (20, []), (21, []), (22, []), (25, []), (26, []), (27, []), (23, [26, 27]), (24, []), (28, []), (29, []), (30, [])], [0, 1, 3, 7, 15, 31, 63, 127, 255, 511, 1023, 2047, 511, 4607, 12799, 29183, 65535, 131071, 262143, 524287, 1048575, 524287, 2621439, 8388607, 16777215, 524287, 34078719, 101187583, 268435455, 536870911, 1073741823])
  | _ => ([], [])
theorem dS : type_of% (And.intro zP (And.intro uU (And.intro uE (And.intro xS (And.intro wO rs112))))) := And.intro zP (And.intro uU (And.intro uE (And.intro xS (And.intro wO rs112))))
theorem wV : type_of% (And.intro zP (And.intro uU (And.intro uE (And.intro xS (And.intro jG (And.intro wO rs66)))))) := And.intro zP (And.intro uU (And.intro uE (And.intro xS (And.intro jG (And.intro wO rs66)))))
theorem yN : type_of% (And.intro zP (And.intro rF (And.intro uU (And.intro uE (And.intro sW (And.intro sV (And.intro xS (And.intro jG (And.intro wO rs20))))))))) := And.intro zP (And.intro rF (And.intro uU (And.intro uE (And.intro sW (And.intro sV (And.intro xS (And.intro jG (And.intro wO rs20))))))))
theorem yQ (N : Nat) (h : GH) (n : Int) : GTri Tryz.prog N 65 [.int .i64 n] h fun v h' => v = .bool (qN9 n) ∧ h' = h := by
  unfold qN9
  refine xH Tryz.func65 rfl gf65 ok65 (by simp [Tryz.ntmps65]) ?_
  cases z0 : (decide (n ≥ 0))
  case false =>
    refine qJ ?_; repeat' (first | with_reducible apply qK | ((first | (with_reducible apply qI) | (with_reducible first | apply qB | apply qP)) <;> try simp only [qM, qC, qF, qH, qD, qA, qG, reduceIte, seval, Int.cast_ofNat_Int, qN, qO, xS, rs65, z0, gPick]))
    all_goals simp only [Bool.false_and]
  cases z1 : (decide (n < 256))
  case false =>
    refine qJ ?_; repeat' (first | with_reducible apply qK | ((first | (with_reducible apply qI) | (with_reducible first | apply qB | apply qP)) <;> try simp only [qM, qC, qF, qH, qD, qA, qG, reduceIte, seval, Int.cast_ofNat_Int, qN, qO, xS, rs65, z0, z1, gPick]))
    all_goals simp only [Bool.false_and]
  refine qJ ?_; repeat' (first | with_reducible apply qK | ((first | (with_reducible apply qI) | (with_reducible first | apply qB | apply qP)) <;> try simp only [qM, qC, qF, qH, qD, qA, qG, reduceIte, seval, Int.cast_ofNat_Int, qN, qO, xS, rs65, z0, z1, gPick]))
section
variable {K : Type} {R : GH → List Value → K → Prop}
def Pn.rnoth (p : Pn K) : Bool := ((((((((((p.kd == 0) && ((p.id.length : Int) == 0)) && ((p.ky.length : Int) == 0)) && (p.si == 0)) && (p.dp == 0)) && ((p.pf.length : Int) == 0)) && (p.nw == 0)) && ((p.lf.length : Int) == 0)) && ((p.rt.length : Int) == 0)) && ((p.kids.length : Int) == 0))
theorem Pn.rnoth_eq (p : Pn K) : p.rnoth = ((p.kd == 0) && p.blank false false) := by
  unfold Pn.rnoth Pn.blank
  simp only [Bool.false_or, Bool.true_or, Bool.true_and]
  unfold Pn.noFork
  try unfold Pn.noLeaf
  ac_rfl
theorem qZ4 (N : Nat) {h : GH} {cs : List Value} {p : Pn K} (r : RPn R h cs p) : GTri Tryz.prog N 110 [.agg cs.toArray] h fun v h' => v = .bool p.rnoth ∧ HS h h' := by
  obtain ⟨a1, c1, a2, c2, a3, c3, a4, c4, a5, c5, a6, c6, rfl, r1, r2, r3, r4, r5, r6⟩ := r
  unfold Pn.rnoth
  refine xH Tryz.func110 rfl gf110 ok110 (by simp [Tryz.ntmps110]) ?_
  repeat' (first | with_reducible apply qK | (with_reducible apply qB <;> try simp only [qM, qC, qF, qH, qD, qA, qG, reduceIte, seval, Int.cast_ofNat_Int, qN, qO, uI]))
  refine yY rfl fun k1 h1 m1 s1 f1 n1 => ?_
  simp only [Pn.cs] at m1
  cases z0 : (p.kd == 0)
  case false =>
    refine qJ ?_; repeat' (first | with_reducible apply qK | ((first | (with_reducible apply qI) | (with_reducible first | apply qB | apply qP)) <;> try simp only [qM, qC, qF, qH, qD, qA, qG, reduceIte, seval, Int.cast_ofNat_Int, qN, qO, uI, z0, qE m1 zT, qE m1 qV, qE m1 uB, gPick]))
    first | exact s1 | exact ⟨by simp, s1⟩
  cases z1 : ((p.id.length : Int) == 0)
  case false =>
    refine qJ ?_; repeat' (first | with_reducible apply qK | ((first | (with_reducible apply qI) | (with_reducible first | apply qB | apply qP)) <;> try simp only [qM, qC, qF, qH, qD, qA, qG, reduceIte, seval, Int.cast_ofNat_Int, qN, qO, uI, z0, z1, qE m1 zT, qE m1 qV, qE m1 uB, gPick]))
    first | exact s1 | exact ⟨by simp, s1⟩
  cases z2 : ((p.ky.length : Int) == 0)
  case false =>
    refine qJ ?_; repeat' (first | with_reducible apply qK | ((first | (with_reducible apply qI) | (with_reducible first | apply qB | apply qP)) <;> try simp only [qM, qC, qF, qH, qD, qA, qG, reduceIte, seval, Int.cast_ofNat_Int, qN, qO, uI, z0, z1, z2, qE m1 zT, qE m1 qV, qE m1 uB, gPick]))
    first | exact s1 | exact ⟨by simp, s1⟩
  cases z3 : (p.si == 0)
  case false =>
    refine qJ ?_; repeat' (first | with_reducible apply qK | ((first | (with_reducible apply qI) | (with_reducible first | apply qB | apply qP)) <;> try simp only [qM, qC, qF, qH, qD, qA, qG, reduceIte, seval, Int.cast_ofNat_Int, qN, qO, uI, z0, z1, z2, z3, qE m1 zT, qE m1 qV, qE m1 uB, gPick]))
    first | exact s1 | exact ⟨by simp, s1⟩
  cases z4 : (p.dp == 0)
  case false =>
    refine qJ ?_; repeat' (first | with_reducible apply qK | ((first | (with_reducible apply qI) | (with_reducible first | apply qB | apply qP)) <;> try simp only [qM, qC, qF, qH, qD, qA, qG, reduceIte, seval, Int.cast_ofNat_Int, qN, qO, uI, z0, z1, z2, z3, z4, qE m1 zT, qE m1 qV, qE m1 uB, gPick]))
    first | exact s1 | exact ⟨by simp, s1⟩
  cases z5 : ((p.pf.length : Int) == 0)
  case false =>
    refine qJ ?_; repeat' (first | with_reducible apply qK | ((first | (with_reducible apply qI) | (with_reducible first | apply qB | apply qP)) <;> try simp only [qM, qC, qF, qH, qD, qA, qG, reduceIte, seval, Int.cast_ofNat_Int, qN, qO, uI, z0, z1, z2, z3, z4, z5, qE m1 zT, qE m1 qV, qE m1 uB, gPick]))
    first | exact s1 | exact ⟨by simp, s1⟩
  cases z6 : (p.nw == 0)
  case false =>
    refine qJ ?_; repeat' (first | with_reducible apply qK | ((first | (with_reducible apply qI) | (with_reducible first | apply qB | apply qP)) <;> try simp only [qM, qC, qF, qH, qD, qA, qG, reduceIte, seval, Int.cast_ofNat_Int, qN, qO, uI, z0, z1, z2, z3, z4, z5, z6, qE m1 zT, qE m1 qV, qE m1 uB, gPick]))
    first | exact s1 | exact ⟨by simp, s1⟩
  cases z7 : ((p.lf.length : Int) == 0)
  case false =>
    refine qJ ?_; repeat' (first | with_reducible apply qK | ((first | (with_reducible apply qI) | (with_reducible first | apply qB | apply qP)) <;> try simp only [qM, qC, qF, qH, qD, qA, qG, reduceIte, seval, Int.cast_ofNat_Int, qN, qO, uI, z0, z1, z2, z3, z4, z5, z6, z7, qE m1 zT, qE m1 qV, qE m1 uB, gPick]))
    first | exact s1 | exact ⟨by simp, s1⟩
  cases z8 : ((p.rt.length : Int) == 0)
  case false =>
    refine qJ ?_; repeat' (first | with_reducible apply qK | ((first | (with_reducible apply qI) | (with_reducible first | apply qB | apply qP)) <;> try simp only [qM, qC, qF, qH, qD, qA, qG, reduceIte, seval, Int.cast_ofNat_Int, qN, qO, uI, z0, z1, z2, z3, z4, z5, z6, z7, z8, qE m1 zT, qE m1 qV, qE m1 uB, gPick]))
    first | exact s1 | exact ⟨by simp, s1⟩
  cases z9 : ((p.kids.length : Int) == 0)
  case false =>
    refine qJ ?_; repeat' (first | with_reducible apply qK | ((first | (with_reducible apply qI) | (with_reducible first | apply qB | apply qP)) <;> try simp only [qM, qC, qF, qH, qD, qA, qG, reduceIte, seval, Int.cast_ofNat_Int, qN, qO, uI, z0, z1, z2, z3, z4, z5, z6, z7, z8, z9, qE m1 zT, qE m1 qV, qE m1 uB, gPick]))
    first | exact s1 | exact ⟨by simp, s1⟩
  refine qJ ?_; repeat' (first | with_reducible apply qK | ((first | (with_reducible apply qI) | (with_reducible first | apply qB | apply qP)) <;> try simp only [qM, qC, qF, qH, qD, qA, qG, reduceIte, seval, Int.cast_ofNat_Int, qN, qO, uI, z0, z1, z2, z3, z4, z5, z6, z7, z8, z9, qE m1 zT, qE m1 qV, qE m1 uB, gPick]))
  first | exact s1 | exact ⟨by simp, s1⟩
def Pn.rleaf (p : Pn K) : Bool := (((((((((decide ((p.id.length : Int) ≤ 255)) && (decide ((p.ky.length : Int) ≤ 48))) && (qN9 p.si)) && (p.dp == 0)) && ((p.pf.length : Int) == 0)) && (p.nw == 0)) && ((p.lf.length : Int) == 0)) && ((p.rt.length : Int) == 0)) && ((p.kids.length : Int) == 0))
theorem Pn.rleaf_eq (p : Pn K) : p.rleaf = (p.blank true false && qN9 p.si && decide ((p.id.length : Int) ≤ 255) && decide ((p.ky.length : Int) ≤ 48)) := by
  unfold Pn.rleaf Pn.blank
  simp only [Bool.false_or, Bool.true_or, Bool.true_and]
  unfold Pn.noFork
  try unfold Pn.noLeaf
  ac_rfl
theorem c_rLeafP (N : Nat) {h : GH} {cs : List Value} {p : Pn K} (r : RPn R h cs p) : GTri Tryz.prog N 111 [.agg cs.toArray] h fun v h' => v = .bool p.rleaf ∧ HS h h' := by
  obtain ⟨a1, c1, a2, c2, a3, c3, a4, c4, a5, c5, a6, c6, rfl, r1, r2, r3, r4, r5, r6⟩ := r
  unfold Pn.rleaf
  refine xH Tryz.func111 rfl gf111 ok111 (by simp [Tryz.ntmps111]) ?_
  repeat' (first | with_reducible apply qK | (with_reducible apply qB <;> try simp only [qM, qC, qF, qH, qD, qA, qG, reduceIte, seval, Int.cast_ofNat_Int, qN, qO, uY]))
  refine yY rfl fun k1 h1 m1 s1 f1 n1 => ?_
  simp only [Pn.cs] at m1
  cases z0 : (decide ((p.id.length : Int) ≤ 255))
  case false =>
    refine qJ ?_; repeat' (first | with_reducible apply qK | ((first | (with_reducible apply qI) | (with_reducible first | apply qB | apply qP)) <;> try simp only [qM, qC, qF, qH, qD, qA, qG, reduceIte, seval, Int.cast_ofNat_Int, qN, qO, uY, z0, qE m1 zT, qE m1 qV, qE m1 uB, gPick]))
    first | exact s1 | exact ⟨by simp, s1⟩
  cases z1 : (decide ((p.ky.length : Int) ≤ 48))
  case false =>
    refine qJ ?_; repeat' (first | with_reducible apply qK | ((first | (with_reducible apply qI) | (with_reducible first | apply qB | apply qP)) <;> try simp only [qM, qC, qF, qH, qD, qA, qG, reduceIte, seval, Int.cast_ofNat_Int, qN, qO, uY, z0, z1, qE m1 zT, qE m1 qV, qE m1 uB, gPick]))
    first | exact s1 | exact ⟨by simp, s1⟩
  cases z2 : (qN9 p.si)
  case false =>
    refine qJ ?_; repeat' (first | with_reducible apply qK | ((first | (with_reducible apply qI) | (with_reducible first | apply qB | apply qP) | ((refine GTri.mono (yQ _ _ _) ?_); rintro _ _ ⟨rfl, hh9⟩; replace hh9 := hh9.symm; subst hh9)) <;> try simp only [qM, qC, qF, qH, qD, qA, qG, reduceIte, seval, Int.cast_ofNat_Int, qN, qO, uY, z0, z1, z2, qE m1 zT, qE m1 qV, qE m1 uB, gPick]))
    first | exact s1 | exact ⟨by simp, s1⟩
  cases z3 : (p.dp == 0)
  case false =>
    refine qJ ?_; repeat' (first | with_reducible apply qK | ((first | (with_reducible apply qI) | (with_reducible first | apply qB | apply qP) | ((refine GTri.mono (yQ _ _ _) ?_); rintro _ _ ⟨rfl, hh9⟩; replace hh9 := hh9.symm; subst hh9)) <;> try simp only [qM, qC, qF, qH, qD, qA, qG, reduceIte, seval, Int.cast_ofNat_Int, qN, qO, uY, z0, z1, z2, z3, qE m1 zT, qE m1 qV, qE m1 uB, gPick]))
    first | exact s1 | exact ⟨by simp, s1⟩
  cases z4 : ((p.pf.length : Int) == 0)
  case false =>
    refine qJ ?_; repeat' (first | with_reducible apply qK | ((first | (with_reducible apply qI) | (with_reducible first | apply qB | apply qP) | ((refine GTri.mono (yQ _ _ _) ?_); rintro _ _ ⟨rfl, hh9⟩; replace hh9 := hh9.symm; subst hh9)) <;> try simp only [qM, qC, qF, qH, qD, qA, qG, reduceIte, seval, Int.cast_ofNat_Int, qN, qO, uY, z0, z1, z2, z3, z4, qE m1 zT, qE m1 qV, qE m1 uB, gPick]))
    first | exact s1 | exact ⟨by simp, s1⟩
  cases z5 : (p.nw == 0)
  case false =>
    refine qJ ?_; repeat' (first | with_reducible apply qK | ((first | (with_reducible apply qI) | (with_reducible first | apply qB | apply qP) | ((refine GTri.mono (yQ _ _ _) ?_); rintro _ _ ⟨rfl, hh9⟩; replace hh9 := hh9.symm; subst hh9)) <;> try simp only [qM, qC, qF, qH, qD, qA, qG, reduceIte, seval, Int.cast_ofNat_Int, qN, qO, uY, z0, z1, z2, z3, z4, z5, qE m1 zT, qE m1 qV, qE m1 uB, gPick]))
    first | exact s1 | exact ⟨by simp, s1⟩
  cases z6 : ((p.lf.length : Int) == 0)
  case false =>
    refine qJ ?_; repeat' (first | with_reducible apply qK | ((first | (with_reducible apply qI) | (with_reducible first | apply qB | apply qP) | ((refine GTri.mono (yQ _ _ _) ?_); rintro _ _ ⟨rfl, hh9⟩; replace hh9 := hh9.symm; subst hh9)) <;> try simp only [qM, qC, qF, qH, qD, qA, qG, reduceIte, seval, Int.cast_ofNat_Int, qN, qO, uY, z0, z1, z2, z3, z4, z5, z6, qE m1 zT, qE m1 qV, qE m1 uB, gPick]))
    first | exact s1 | exact ⟨by simp, s1⟩
  cases z7 : ((p.rt.length : Int) == 0)
  case false =>
    refine qJ ?_; repeat' (first | with_reducible apply qK | ((first | (with_reducible apply qI) | (with_reducible first | apply qB | apply qP) | ((refine GTri.mono (yQ _ _ _) ?_); rintro _ _ ⟨rfl, hh9⟩; replace hh9 := hh9.symm; subst hh9)) <;> try simp only [qM, qC, qF, qH, qD, qA, qG, reduceIte, seval, Int.cast_ofNat_Int, qN, qO, uY, z0, z1, z2, z3, z4, z5, z6, z7, qE m1 zT, qE m1 qV, qE m1 uB, gPick]))
    first | exact s1 | exact ⟨by simp, s1⟩
  cases z8 : ((p.kids.length : Int) == 0)
  case false =>
    refine qJ ?_; repeat' (first | with_reducible apply qK | ((first | (with_reducible apply qI) | (with_reducible first | apply qB | apply qP) | ((refine GTri.mono (yQ _ _ _) ?_); rintro _ _ ⟨rfl, hh9⟩; replace hh9 := hh9.symm; subst hh9)) <;> try simp only [qM, qC, qF, qH, qD, qA, qG, reduceIte, seval, Int.cast_ofNat_Int, qN, qO, uY, z0, z1, z2, z3, z4, z5, z6, z7, z8, qE m1 zT, qE m1 qV, qE m1 uB, gPick]))
    first | exact s1 | exact ⟨by simp, s1⟩
  refine qJ ?_; repeat' (first | with_reducible apply qK | ((first | (with_reducible apply qI) | (with_reducible first | apply qB | apply qP) | ((refine GTri.mono (yQ _ _ _) ?_); rintro _ _ ⟨rfl, hh9⟩; replace hh9 := hh9.symm; subst hh9)) <;> try simp only [qM, qC, qF, qH, qD, qA, qG, reduceIte, seval, Int.cast_ofNat_Int, qN, qO, uY, z0, z1, z2, z3, z4, z5, z6, z7, z8, qE m1 zT, qE m1 qV, qE m1 uB, gPick]))
  first | exact s1 | exact ⟨by simp, s1⟩
def Pn.rfork (p : Pn K) : Bool := ((((((((decide (p.dp ≥ 0)) && (decide (p.dp ≤ 2048))) && ((p.pf.length : Int) == Int.tdiv (p.dp + 7) 8)) && (zG p.pf p.dp.toNat == p.pf)) && (qN9 p.nw)) && ((p.id.length : Int) == 0)) && ((p.ky.length : Int) == 0)) && (p.si == 0))
theorem Pn.rfork_eq (p : Pn K) : p.rfork = p.frk := by
  unfold Pn.rfork Pn.frk Pn.blank
  simp only [Bool.false_or, Bool.true_or, Bool.true_and, Bool.and_true]
  unfold Pn.noLeaf
  ac_rfl
theorem qF9 (N : Nat) {h : GH} {cs : List Value} {p : Pn K} (r : RPn R h cs p) (hl : p.pf.length ≤ 100000000) : GTri Tryz.prog N 113 [.agg cs.toArray] h fun v h' => v = .bool p.rfork ∧ HS h h' := by
  obtain ⟨a1, c1, a2, c2, a3, c3, a4, c4, a5, c5, a6, c6, rfl, r1, r2, r3, r4, r5, r6⟩ := r
  unfold Pn.rfork
  refine xH Tryz.func113 rfl gf113 ok113 (by simp [Tryz.ntmps113]) ?_
  repeat' (first | with_reducible apply qK | (with_reducible apply qB <;> try simp only [qM, qC, qF, qH, qD, qA, qG, reduceIte, seval, Int.cast_ofNat_Int, qN, qO, qL, qY, zA, zB, uX, vZ]))
  refine yY rfl fun k1 h1 m1 s1 f1 n1 => ?_
  simp only [Pn.cs] at m1
  cases z0 : (decide (p.dp ≥ 0))
  case false =>
    refine qJ ?_; repeat' (first | with_reducible apply qK | ((first | (with_reducible apply qI) | (with_reducible first | apply qB | apply qP) | with_reducible refine zH vZ xQ (by kernel_rfl) ?_) <;> try simp only [qM, qC, qF, qH, qD, qA, qG, reduceIte, seval, Int.cast_ofNat_Int, qN, qO, qL, qY, zA, zB, uX, vZ, z0, qE m1 zT, qE m1 qV, gPick]))
    first | exact s1 | exact ⟨by simp, s1⟩
  cases z1 : (decide (p.dp ≤ 2048))
  case false =>
    refine qJ ?_; repeat' (first | with_reducible apply qK | ((first | (with_reducible apply qI) | (with_reducible first | apply qB | apply qP) | with_reducible refine zH vZ xQ (by kernel_rfl) ?_) <;> try simp only [qM, qC, qF, qH, qD, qA, qG, reduceIte, seval, Int.cast_ofNat_Int, qN, qO, qL, qY, zA, zB, uX, vZ, z0, z1, qE m1 zT, qE m1 qV, gPick]))
    first | exact s1 | exact ⟨by simp, s1⟩
  have y1 : 0 ≤ p.dp := by simpa using z0
  have y2 : p.dp ≤ 2048 := by simpa using z1
  have w7 : IntKind.i64.wrap (p.dp + 7) = p.dp + 7 := by rw [wrap64 (by omega) (by omega)]
  have t0 := Int.tdiv_eq_ediv_of_nonneg (a := p.dp + 7) (b := 8) (by omega)
  have w8 : IntKind.i64.wrap (Int.tdiv (p.dp + 7) 8) = Int.tdiv (p.dp + 7) 8 := by rw [wrap64 (by omega) (by omega)]
  cases z2 : ((p.pf.length : Int) == Int.tdiv (p.dp + 7) 8)
  case false =>
    refine qJ ?_; repeat' (first | with_reducible apply qK | ((first | (with_reducible apply qI) | (with_reducible first | apply qB | apply qP) | with_reducible refine zH vZ xQ (by kernel_rfl) ?_) <;> try simp only [qM, qC, qF, qH, qD, qA, qG, reduceIte, seval, Int.cast_ofNat_Int, qN, qO, qL, qY, zA, zB, uX, vZ, z0, z1, z2, w7, w8, qE m1 zT, qE m1 qV, gPick]))
    first | exact s1 | exact ⟨by simp, s1⟩
  have v0 := (r3.hs s1).conv Tryz.underlying22 Tryz.underlying5 Tryz.underlying9
  refine qJ ?_; repeat' (first | with_reducible apply qK | ((first | (with_reducible apply qI) | with_reducible refine zH vZ xQ (by kernel_rfl) ?_) <;> try simp only [qM, qC, qF, qH, qD, qA, qG, reduceIte, seval, Int.cast_ofNat_Int, qN, qO, qL, qY, zA, zB, uX, vZ, z0, z1, z2, w7, w8, v0, qE m1 zT, qE m1 qV, gPick]))
  refine (gP N h1 (r3.hs s1) (by omega) p.dp (WalkArith.wf_i64 (by omega))).mono ?_
  rintro _ h2 ⟨s2, a7, c7, rfl, r7⟩
  have m2 := s2 _ _ m1
  have S2 := s1.trans s2
  have v1 := r7.conv Tryz.underlying22 Tryz.underlying5 Tryz.underlying9
  have v2 := ((r3.hs s1).hs s2).conv Tryz.underlying22 Tryz.underlying5 Tryz.underlying9
  cases z3 : (zG p.pf p.dp.toNat == p.pf)
  case false =>
    refine qJ ?_; repeat' (first | with_reducible apply qK | ((first | (with_reducible apply qI) | (with_reducible first | apply qB | apply qP)) <;> try simp only [qM, qC, qF, qH, qD, qA, qG, reduceIte, seval, Int.cast_ofNat_Int, qN, qO, qL, qY, zA, zB, uX, vZ, z3, qE m2 zT, qE m2 qV, v1, v2, jW, gPick]))
    first | exact S2 | exact ⟨by simp, S2⟩
  cases y4 : (qN9 p.nw)
  case false =>
    refine qJ ?_; repeat' (first | with_reducible apply qK | ((first | (with_reducible apply qI) | (with_reducible first | apply qB | apply qP) | ((refine GTri.mono (yQ _ _ _) ?_); rintro _ _ ⟨rfl, hh9⟩; replace hh9 := hh9.symm; subst hh9)) <;> try simp only [qM, qC, qF, qH, qD, qA, qG, reduceIte, seval, Int.cast_ofNat_Int, qN, qO, qL, qY, zA, zB, uX, vZ, z3, y4, qE m2 zT, qE m2 qV, v1, v2, jW, gPick]))
    first | exact S2 | exact ⟨by simp, S2⟩
  cases y5 : ((p.id.length : Int) == 0)
  case false =>
    refine qJ ?_; repeat' (first | with_reducible apply qK | ((first | (with_reducible apply qI) | (with_reducible first | apply qB | apply qP) | ((refine GTri.mono (yQ _ _ _) ?_); rintro _ _ ⟨rfl, hh9⟩; replace hh9 := hh9.symm; subst hh9)) <;> try simp only [qM, qC, qF, qH, qD, qA, qG, reduceIte, seval, Int.cast_ofNat_Int, qN, qO, qL, qY, zA, zB, uX, vZ, z3, y4, y5, qE m2 zT, qE m2 qV, v1, v2, jW, gPick]))
    first | exact S2 | exact ⟨by simp, S2⟩
  cases y6 : ((p.ky.length : Int) == 0)
  case false =>
    refine qJ ?_; repeat' (first | with_reducible apply qK | ((first | (with_reducible apply qI) | (with_reducible first | apply qB | apply qP) | ((refine GTri.mono (yQ _ _ _) ?_); rintro _ _ ⟨rfl, hh9⟩; replace hh9 := hh9.symm; subst hh9)) <;> try simp only [qM, qC, qF, qH, qD, qA, qG, reduceIte, seval, Int.cast_ofNat_Int, qN, qO, qL, qY, zA, zB, uX, vZ, z3, y4, y5, y6, qE m2 zT, qE m2 qV, v1, v2, jW, gPick]))
    first | exact S2 | exact ⟨by simp, S2⟩
  cases y7 : (p.si == 0)
  case false =>
    refine qJ ?_; repeat' (first | with_reducible apply qK | ((first | (with_reducible apply qI) | (with_reducible first | apply qB | apply qP) | ((refine GTri.mono (yQ _ _ _) ?_); rintro _ _ ⟨rfl, hh9⟩; replace hh9 := hh9.symm; subst hh9)) <;> try simp only [qM, qC, qF, qH, qD, qA, qG, reduceIte, seval, Int.cast_ofNat_Int, qN, qO, qL, qY, zA, zB, uX, vZ, z3, y4, y5, y6, y7, qE m2 zT, qE m2 qV, v1, v2, jW, gPick]))
    first | exact S2 | exact ⟨by simp, S2⟩
  refine qJ ?_; repeat' (first | with_reducible apply qK | ((first | (with_reducible apply qI) | (with_reducible first | apply qB | apply qP) | ((refine GTri.mono (yQ _ _ _) ?_); rintro _ _ ⟨rfl, hh9⟩; replace hh9 := hh9.symm; subst hh9)) <;> try simp only [qM, qC, qF, qH, qD, qA, qG, reduceIte, seval, Int.cast_ofNat_Int, qN, qO, qL, qY, zA, zB, uX, vZ, z3, y4, y5, y6, y7, qE m2 zT, qE m2 qV, v1, v2, jW, gPick]))
  first | exact S2 | exact ⟨by simp, S2⟩
theorem c_rBits (N : Nat) {h : GH} {cs : List Value} {p : Pn K} (r : RPn R h cs p) (hl : p.pf.length ≤ 100000000) : GTri Tryz.prog N 112 [.agg cs.toArray] h fun v h' => HS h h' ∧ ∃ a c, v = .slice a p.bits.length c ∧ RB h' (.slice a p.bits.length c) p.bits := by
  obtain ⟨a1, c1, a2, c2, a3, c3, a4, c4, a5, c5, a6, c6, rfl, r1, r2, r3, r4, r5, r6⟩ := r
  unfold Pn.bits
  refine xH Tryz.func112 rfl gf112 ok112 (by simp [Tryz.ntmps112]) ?_
  repeat' (first | with_reducible apply qK | (with_reducible apply qB <;> try simp only [qM, qC, qF, qH, qD, qA, qG, reduceIte, seval, Int.cast_ofNat_Int, qN, qO, dS]))
  refine yY rfl fun k1 h1 m1 s1 f1 n1 => ?_
  simp only [Pn.cs] at m1
  by_cases k1' : p.kd = 1
  · have e1 : (p.kd == 1) = true := by simp [k1']
    rw [if_pos k1']
    refine qJ ?_; repeat' (first | with_reducible apply qK | ((first | (with_reducible apply qI) | (with_reducible first | apply qB | apply qS)) <;> try simp only [qM, qC, qF, qH, qD, qA, qG, reduceIte, seval, Int.cast_ofNat_Int, qN, qO, dS, qE m1 zT, qE m1 qV, e1]))
    refine (tD N h1 (r1.hs s1) rfl).mono ?_
    rintro _ h2 ⟨s2, a7, c7, rfl, r7, _⟩
    refine qJ ?_; repeat' (first | ((first | (with_reducible apply qI) | with_reducible apply qP) <;> try simp only [qM, qC, qF, qH, qD, qA, qG, reduceIte, seval, Int.cast_ofNat_Int, qN, qO, dS]))
    exact ⟨s1.trans s2, a7, c7, rfl, r7⟩
  · have e1 : (p.kd == 1) = false := by simp [k1']
    rw [if_neg k1']
    refine qJ ?_; repeat' (first | with_reducible apply qK | ((first | (with_reducible apply qI) | (with_reducible first | apply qB | apply qS | apply qR)) <;> try simp only [qM, qC, qF, qH, qD, qA, qG, reduceIte, seval, Int.cast_ofNat_Int, qN, qO, dS, qE m1 zT, qE m1 qV, e1]))
    refine lT wX rfl ?_
    refine qJ ?_; repeat' (first | ((with_reducible apply qI) <;> try simp only [qM, qC, qF, qH, qD, qA, qG, reduceIte, seval, Int.cast_ofNat_Int, qN, qO, dS, qE m1 zT, qE m1 qV, e1]))
    refine wE wX Tryz.underlying22 rfl (HS.refl h1) (.inr (.inl ⟨_, rfl, rfl⟩)) (r3.hs s1).src (by simp; omega) fun v2 h2 s2 f2 o2 => ?_
    rw [List.nil_append] at o2
    obtain ⟨a7, c7, rfl⟩ := o2.form
    refine qJ ?_; repeat' (first | ((first | (with_reducible apply qI) | with_reducible apply qP) <;> try simp only [qM, qC, qF, qH, qD, qA, qG, reduceIte, seval, Int.cast_ofNat_Int, qN, qO, dS]))
    exact ⟨s1.trans s2, a7, c7, rfl, o2.rb⟩
theorem c_rEnd (N : Nat) {h : GH} {cs : List Value} {p : Pn K} (r : RPn R h cs p) (fR : ∀ {h h'}, HS h h' → ∀ cs x, R h cs x → R h' cs x) (size : Int) (hl : p.pf.length ≤ 100000000) (hid : p.id.length ≤ 100000000) {a : Option Addr} {c : Nat} {row : List UInt8} (rr : RB h (.slice a row.length c) row) (hrow : row.length ≤ 100000000) (last : Int) (hla : -1 ≤ last) (hlb : last ≤ 1000000000) :
    GTri Tryz.prog N 66 [.int .i64 size, .slice a row.length c, .int .i64 last, .agg cs.toArray] h fun v h' => v = .bool (p.ends size row last) ∧ HS h h' := by
  have r0 := r
  obtain ⟨a1, c1, a2, c2, a3, c3, a4, c4, a5, c5, a6, c6, rfl, r1, r2, r3, r4, r5, r6⟩ := r
  have wl : IntKind.i64.wrap (last + 1) = last + 1 := by rw [wrap64 (by omega) (by omega)]
  have hwf : (Lit.int .i64 (last + 1)).wf = true := WalkArith.wf_i64 (by omega)
  have hbl : p.bits.length ≤ 100000000 := by
    unfold Pn.bits
    split
    · rw [vC]; omega
    · exact hl
  refine xH Tryz.func66 rfl gf66 ok66 (by simp [Tryz.ntmps66]) ?_
  repeat' (first | with_reducible apply qK | (with_reducible apply qB <;> try simp only [qM, qC, qF, qH, qD, qA, qG, reduceIte, seval, Int.cast_ofNat_Int, qN, qO, wV]))
  refine yY rfl fun k1 h1 m1 s1 f1 n1 => ?_
  have q0 := r0.hs s1 (fR s1)
  have q3 := r3.hs s1
  have ld := zU (P := Tryz.prog) (t := 26) m1 dC rfl
  have m1' := m1
  simp only [Pn.cs] at m1'
  by_cases k0 : p.kd = 0
  · have e0 : (p.kd == 0) = true := by simp [k0]
    have ev : p.ends size row last = (decide (last < 0) && p.rnoth) := by
      rw [p.rnoth_eq]
      unfold Pn.ends Pn.right
      rw [if_pos k0, if_pos k0]
      simp [k0]
      cases p.blank false false <;> simp
    rw [ev]
    cases z0 : decide (last < 0)
    case false =>
      refine qJ ?_; repeat' (first | (with_reducible first | apply qK | apply qQ) | ((first | (with_reducible apply qI) | (with_reducible first | apply qB | apply qS | apply qP)) <;> try simp only [qM, qC, qF, qH, qD, qA, qG, reduceIte, seval, Int.cast_ofNat_Int, qN, qO, wV, qE m1' zT, e0, z0, ld, gPick]))
      first | exact s1 | exact ⟨by simp, s1⟩
    refine qJ ?_; repeat' (first | (with_reducible first | apply qK | apply qQ) | ((first | (with_reducible apply qI) | (with_reducible first | apply qB | apply qS)) <;> try simp only [qM, qC, qF, qH, qD, qA, qG, reduceIte, seval, Int.cast_ofNat_Int, qN, qO, wV, qE m1' zT, e0, z0, ld, gPick]))
    refine (qZ4 N q0).mono ?_
    rintro _ h2 ⟨rfl, s2⟩
    refine qJ ?_; repeat' (first | ((first | (with_reducible apply qI) | with_reducible apply qP) <;> try simp only [qM, qC, qF, qH, qD, qA, qG, reduceIte, seval, Int.cast_ofNat_Int, qN, qO, wV, gPick]))
    first | exact s1.trans s2 | exact ⟨by simp, s1.trans s2⟩
  have e0 : (p.kd == 0) = false := by simp [k0]
  by_cases k1' : p.kd = 1
  · have e1 : (p.kd == 1) = true := by simp [k1']
    have ev : p.ends size row last = (p.rleaf && fV p.bits row (last + 1)) := by
      rw [p.rleaf_eq]
      unfold Pn.ends Pn.right
      rw [if_neg k0, if_pos k1', if_neg k0]
      simp only [k1', beq_self_eq_true, Bool.true_or, Bool.and_true, show ((1 : Int) == 3) = false from rfl, Bool.false_or, Bool.not_eq_true']
      cases p.blank true false && qN9 p.si && decide ((p.id.length : Int) ≤ 255) && decide ((p.ky.length : Int) ≤ 48) <;> simp
    rw [ev]
    refine qJ ?_; repeat' (first | (with_reducible first | apply qK | apply qQ) | ((first | (with_reducible apply qI) | (with_reducible first | apply qB | apply qS)) <;> try simp only [qM, qC, qF, qH, qD, qA, qG, reduceIte, seval, Int.cast_ofNat_Int, qN, qO, wV, qE m1' zT, e0, e1, ld, gPick]))
    refine (c_rLeafP N q0).mono ?_
    rintro _ h2 ⟨rfl, s2⟩
    have ld2 := zU (P := Tryz.prog) (t := 26) (s2 _ _ m1) dC rfl
    have S2 := s1.trans s2
    cases z1 : p.rleaf
    case false =>
      refine qJ ?_; repeat' (first | ((first | (with_reducible apply qI) | with_reducible apply qP) <;> try simp only [qM, qC, qF, qH, qD, qA, qG, reduceIte, seval, Int.cast_ofNat_Int, qN, qO, wV, z1, gPick]))
      first | exact S2 | exact ⟨by simp, S2⟩
    refine qJ ?_; repeat' (first | ((with_reducible apply qI) <;> try simp only [qM, qC, qF, qH, qD, qA, qG, reduceIte, seval, Int.cast_ofNat_Int, qN, qO, wV, z1, gPick, ld2]))
    refine (c_rBits N (q0.hs s2 (fR s2)) hl).mono ?_
    rintro _ h3 ⟨s3, a7, c7, rfl, r7⟩
    have S3 := S2.trans s3
    refine qJ ?_; repeat' (first | ((with_reducible apply qI) <;> try simp only [qM, qC, qF, qH, qD, qA, qG, reduceIte, seval, Int.cast_ofNat_Int, qN, qO, wV, gPick, wl]))
    refine (fF N h3 r7 (rr.hs S3) (by omega) (by omega) _ hwf).mono ?_
    rintro _ h4 ⟨rfl, s4⟩
    refine qJ ?_; repeat' (first | ((first | (with_reducible apply qI) | with_reducible apply qP) <;> try simp only [qM, qC, qF, qH, qD, qA, qG, reduceIte, seval, Int.cast_ofNat_Int, qN, qO, wV, gPick]))
    first | exact S3.trans s4 | exact ⟨by simp, S3.trans s4⟩
  have e1 : (p.kd == 1) = false := by simp [k1']
  by_cases k2' : p.kd = 2
  case neg =>
    have e2 : (p.kd == 2) = false := by simp [k2']
    have ev : p.ends size row last = false := by
      unfold Pn.ends Pn.right
      rw [if_neg k0, if_neg k1', if_neg k2']
      by_cases k3' : p.kd = 3 <;> simp [k3']
    rw [ev]
    refine qJ ?_; repeat' (first | (with_reducible first | apply qK | apply qQ) | ((first | (with_reducible apply qI) | (with_reducible first | apply qB | apply qS | apply qR | apply qP)) <;> try simp only [qM, qC, qF, qH, qD, qA, qG, reduceIte, seval, Int.cast_ofNat_Int, qN, qO, wV, qE m1' zT, e0, e1, e2, gPick]))
    first | exact s1 | exact ⟨by simp, s1⟩
  have e2 : (p.kd == 2) = true := by simp [k2']
  have ev : p.ends size row last = (p.rfork && (((p.lf.length : Int) == size) && ((p.rt.length : Int) == size) && ((p.kids.length : Int) == 0)) && decide (p.dp > last) && fV p.pf row (last + 1) && !fV row p.pf p.dp) := by
    rw [p.rfork_eq]
    unfold Pn.ends Pn.right Pn.bits Pn.hsh
    rw [if_neg k0, if_neg k1', if_pos k2', if_neg k0, if_neg k1']
    simp only [k2', show ((2 : Int) == 3) = false from rfl, show ((2 : Int) == 1) = false from rfl, Bool.false_or]
    cases p.frk <;> cases ((p.lf.length : Int) == size) <;> cases ((p.rt.length : Int) == size) <;> cases ((p.kids.length : Int) == 0) <;> cases fV p.pf row (last + 1) <;> simp
  rw [ev]
  cases x0 : ((p.lf.length : Int) == size)
  case false =>
    refine qJ ?_; repeat' (first | (with_reducible first | apply qK | apply qQ) | ((first | (with_reducible apply qI) | (with_reducible first | apply qB | apply qS)) <;> try simp only [qM, qC, qF, qH, qD, qA, qG, reduceIte, seval, Int.cast_ofNat_Int, qN, qO, wV, x0, qE m1' zT, qE m1' qV, qE m1' uB, e0, e1, e2, ld, gPick]))
    refine (qF9 N q0 hl).mono ?_
    rintro _ h2 ⟨rfl, s2⟩
    cases zf : p.rfork
    all_goals
      refine qJ ?_; repeat' (first | ((first | (with_reducible apply qI) | with_reducible apply qP) <;> try simp only [qM, qC, qF, qH, qD, qA, qG, reduceIte, seval, Int.cast_ofNat_Int, qN, qO, wV, zf, gPick]))
      first | exact s1.trans s2 | exact ⟨by simp, s1.trans s2⟩
  cases x1 : ((p.rt.length : Int) == size)
  case false =>
    refine qJ ?_; repeat' (first | (with_reducible first | apply qK | apply qQ) | ((first | (with_reducible apply qI) | (with_reducible first | apply qB | apply qS)) <;> try simp only [qM, qC, qF, qH, qD, qA, qG, reduceIte, seval, Int.cast_ofNat_Int, qN, qO, wV, x0, x1, qE m1' zT, qE m1' qV, qE m1' uB, e0, e1, e2, ld, gPick]))
    refine (qF9 N q0 hl).mono ?_
    rintro _ h2 ⟨rfl, s2⟩
    cases zf : p.rfork
    all_goals
      refine qJ ?_; repeat' (first | ((first | (with_reducible apply qI) | with_reducible apply qP) <;> try simp only [qM, qC, qF, qH, qD, qA, qG, reduceIte, seval, Int.cast_ofNat_Int, qN, qO, wV, zf, gPick]))
      first | exact s1.trans s2 | exact ⟨by simp, s1.trans s2⟩
  cases x2 : ((p.kids.length : Int) == 0)
  case false =>
    refine qJ ?_; repeat' (first | (with_reducible first | apply qK | apply qQ) | ((first | (with_reducible apply qI) | (with_reducible first | apply qB | apply qS)) <;> try simp only [qM, qC, qF, qH, qD, qA, qG, reduceIte, seval, Int.cast_ofNat_Int, qN, qO, wV, x0, x1, x2, qE m1' zT, qE m1' qV, qE m1' uB, e0, e1, e2, ld, gPick]))
    refine (qF9 N q0 hl).mono ?_
    rintro _ h2 ⟨rfl, s2⟩
    cases zf : p.rfork
    all_goals
      refine qJ ?_; repeat' (first | ((first | (with_reducible apply qI) | with_reducible apply qP) <;> try simp only [qM, qC, qF, qH, qD, qA, qG, reduceIte, seval, Int.cast_ofNat_Int, qN, qO, wV, zf, gPick]))
      first | exact s1.trans s2 | exact ⟨by simp, s1.trans s2⟩
  refine qJ ?_; repeat' (first | (with_reducible first | apply qK | apply qQ) | ((first | (with_reducible apply qI) | (with_reducible first | apply qB | apply qS)) <;> try simp only [qM, qC, qF, qH, qD, qA, qG, reduceIte, seval, Int.cast_ofNat_Int, qN, qO, wV, x0, x1, x2, qE m1' zT, qE m1' qV, qE m1' uB, e0, e1, e2, ld, gPick]))
  refine (qF9 N q0 hl).mono ?_
  rintro _ h2 ⟨rfl, s2⟩
  have S2 := s1.trans s2
  have m2 := s2 _ _ m1'
  cases zf : p.rfork
  case false =>
    refine qJ ?_; repeat' (first | ((first | (with_reducible apply qI) | with_reducible apply qP) <;> try simp only [qM, qC, qF, qH, qD, qA, qG, reduceIte, seval, Int.cast_ofNat_Int, qN, qO, wV, zf, gPick]))
    first | exact S2 | exact ⟨by simp, S2⟩
  have fk := p.frk_ok (by rw [← p.rfork_eq]; exact zf)
  cases zd : decide (p.dp > last)
  case false =>
    refine qJ ?_; repeat' (first | ((first | (with_reducible apply qI) | with_reducible apply qP) <;> try simp only [qM, qC, qF, qH, qD, qA, qG, reduceIte, seval, Int.cast_ofNat_Int, qN, qO, wV, zf, zd, gPick, qE m2 zT, qE m2 qV]))
    first | exact S2 | exact ⟨by simp, S2⟩
  refine qJ ?_; repeat' (first | ((with_reducible apply qI) <;> try simp only [qM, qC, qF, qH, qD, qA, qG, reduceIte, seval, Int.cast_ofNat_Int, qN, qO, wV, zf, zd, gPick, wl, qE m2 zT, qE m2 qV]))
  refine (fF N h2 (q3.hs s2) (rr.hs S2) (by omega) (by omega) _ hwf).mono ?_
  rintro _ h3 ⟨rfl, s3⟩
  have S3 := S2.trans s3
  have m3 := s3 _ _ m2
  cases zb : fV p.pf row (last + 1)
  case false =>
    refine qJ ?_; repeat' (first | ((first | (with_reducible apply qI) | with_reducible apply qP) <;> try simp only [qM, qC, qF, qH, qD, qA, qG, reduceIte, seval, Int.cast_ofNat_Int, qN, qO, wV, zb, gPick]))
    first | exact S3 | exact ⟨by simp, S3⟩
  refine qJ ?_; repeat' (first | ((with_reducible apply qI) <;> try simp only [qM, qC, qF, qH, qD, qA, qG, reduceIte, seval, Int.cast_ofNat_Int, qN, qO, wV, zb, gPick, qE m3 zT, qE m3 qV]))
  refine (fF N h3 (rr.hs S3) ((q3.hs s2).hs s3) (by omega) (by omega) _ (WalkArith.wf_i64 (by omega))).mono ?_
  rintro _ h4 ⟨rfl, s4⟩
  refine qJ ?_; repeat' (first | ((first | (with_reducible apply qI) | with_reducible apply qP) <;> try simp only [qM, qC, qF, qH, qD, qA, qG, reduceIte, seval, Int.cast_ofNat_Int, qN, qO, wV, gPick]))
  first | exact S3.trans s4 | exact ⟨by simp, S3.trans s4⟩
theorem qZ9 (N : Nat) {h : GH} {cs : List Value} {p : Pn K} (r : RPn R h cs p) (fR : ∀ {h h'}, HS h h' → ∀ cs x, R h cs x → R h' cs x) (size : Int) (hl : p.pf.length ≤ 100000000) (hid : p.id.length ≤ 100000000) {a b : Option Addr} {c d : Nat} {id : List UInt8} (ri : RB h (.slice a id.length c) id) {hops : List Hp} (rh : RL 3 RHp h (.slice b hops.length d) hops) (hh : hops.length ≤ 100000000) :
    GTri Tryz.prog N 20 [.int .i64 size, .slice a id.length c, .agg (.slice b hops.length d :: cs).toArray] h fun v h' => v = .int .i64 (cond (qL4 size id hops p) 0 95) ∧ HS h h' := by
  have hcs := r.len
  have hkl := vC id
  unfold qL4 qG0
  refine xH Tryz.func20 rfl gf20 ok20 (by simp [Tryz.ntmps20]) ?_
  repeat' (first | with_reducible apply qK | (with_reducible apply qB <;> try simp only [qM, qC, qF, qH, qD, qA, qG, reduceIte, seval, Int.cast_ofNat_Int, qN, qO, yN]))
  refine yY (by simp only [List.all_cons, hcs.2.1]; rfl) fun k1 h1 m1 s1 f1 n1 => ?_
  cases z0 : decide (size < 1)
  case true =>
    refine qJ ?_; repeat' (first | with_reducible apply qK | ((first | (with_reducible apply qI) | (with_reducible first | apply qB | apply qS | apply qP)) <;> try simp only [qM, qC, qF, qH, qD, qA, qG, reduceIte, seval, Int.cast_ofNat_Int, qN, qO, yN, z0, gPick]))
    exact ⟨by first | rfl | simp, s1⟩
  cases z1 : decide (size > 32)
  case true =>
    refine qJ ?_; repeat' (first | with_reducible apply qK | ((first | (with_reducible apply qI) | (with_reducible first | apply qB | apply qS | apply qP)) <;> try simp only [qM, qC, qF, qH, qD, qA, qG, reduceIte, seval, Int.cast_ofNat_Int, qN, qO, yN, z0, z1, gPick]))
    exact ⟨by first | rfl | simp, s1⟩
  cases z2 : decide ((id.length : Int) > 24)
  case true =>
    refine qJ ?_; repeat' (first | with_reducible apply qK | ((first | (with_reducible apply qI) | (with_reducible first | apply qB | apply qS | apply qP)) <;> try simp only [qM, qC, qF, qH, qD, qA, qG, reduceIte, seval, Int.cast_ofNat_Int, qN, qO, yN, z0, z1, z2, gPick]))
    exact ⟨by first | rfl | simp, s1⟩
  simp only [Bool.or_false, Bool.not_false, Bool.true_and]
  have hid24 : (id.length : Int) ≤ 24 := by simpa using z2
  refine qJ ?_; repeat' (first | with_reducible apply qK | ((first | (with_reducible apply qI) | (with_reducible first | apply qB | apply qS | apply qR)) <;> try simp only [qM, qC, qF, qH, qD, qA, qG, reduceIte, seval, Int.cast_ofNat_Int, qN, qO, yN, z0, z1, z2, gPick]))
  refine (tD N h1 (ri.hs s1) rfl).mono ?_
  rintro _ h2 ⟨s2, ar, cr, rfl, rr, _⟩
  have S2 := s1.trans s2
  have m2 := s2 _ _ m1
  have w8 : IntKind.i64.wrap (8 * ((qU id).length : Int)) = 8 * ((qU id).length : Int) := by rw [wrap64 (by omega) (by omega)]
  refine qJ ?_; repeat' (first | (with_reducible first | apply qK | apply qQ) | ((first | (with_reducible apply qI) | with_reducible apply qB) <;> try simp only [qM, qC, qF, qH, qD, qA, qG, reduceIte, seval, Int.cast_ofNat_Int, qN, qO, yN, qE m2 kC]))
  refine xL [0, 5, 7, 25, 26] (fun (s : Nat × Int) => [(8, .int .i64 s.2), (27, .int .i64 (s.1 : Int))]) (fun q s h' => hops.length - s.1 = q ∧ s.1 ≤ hops.length ∧ HS h2 h' ∧ -1 ≤ s.2 ∧ s.2 ≤ 8 * ((qU id).length : Int) ∧ rS size (qU id) (-1) hops = rS size (qU id) s.2 (hops.drop s.1)) hops.length (0, -1) (by simp [lk]) ⟨rfl, Nat.zero_le _, HS.refl _, by simp, by simp only; omega, by simp⟩ ?_
  rintro _ ⟨i, last⟩ h3 ⟨rfl, hil, s3, hla, hlb, he⟩
  simp only at hil hla hlb he
  have S3 := S2.trans s3
  have m3 := s3 _ _ m2
  by_cases hi : i < hops.length
  case neg =>
    obtain rfl : i = hops.length := by omega
    have d3 : decide ((hops.length : Int) < (hops.length : Int)) = false := decide_eq_false (by omega)
    rw [List.drop_length] at he
    rw [he]
    have rp3 := r.hs S3 (fR S3)
    have ldp : wS Tryz.prog 26 h3 (.pointer (some ⟨k1, 1, none⟩)) = some (.agg cs.toArray) := wG m3 dC (by rw [List.drop_one, List.tail_cons, List.take_of_length_le (by omega)]) hcs.1
    refine qJ ?_; repeat' (first | with_reducible apply qK | ((first | (with_reducible apply qI) | (with_reducible first | apply qB | apply qS | apply xX)) <;> try simp only [qM, qC, qF, qH, qD, qA, qG, reduceIte, seval, Int.cast_ofNat_Int, qN, qO, yN, d3, ldp]))
    refine (c_rEnd N rp3 fR size hl hid (rr.hs s3) (by omega) last hla (by omega)).mono ?_
    rintro _ h4 ⟨rfl, s4⟩
    simp only [rS]
    cases hen : p.ends size (qU id) last
    · refine qJ ?_; repeat' (first | with_reducible apply qK | ((first | (with_reducible apply qI) | (with_reducible first | apply qB | apply qS | apply qP)) <;> try simp only [qM, qC, qF, qH, qD, qA, qG, reduceIte, seval, Int.cast_ofNat_Int, qN, qO, yN]))
      exact ⟨rfl, S3.trans s4⟩
    · refine qJ ?_; repeat' (first | with_reducible apply qK | ((first | (with_reducible apply qI) | (with_reducible first | apply qB | apply qS | apply qR | apply qP)) <;> try simp only [qM, qC, qF, qH, qD, qA, qG, reduceIte, seval, Int.cast_ofNat_Int, qN, qO, yN]))
      exact ⟨rfl, S3.trans s4⟩
  have d3 : decide ((i : Int) < (hops.length : Int)) = true := decide_eq_true (by omega)
  have wi : IntKind.i64.wrap ((i : Int) + 1) = ((i + 1 : Nat) : Int) := by rw [wrap64 (by omega) (by omega)]; omega
  obtain ⟨x, hx⟩ := yK hi
  have hdr : hops.drop i = x :: hops.drop (i + 1) := by
    have h1 := List.getElem?_eq_some_iff.1 hx
    rw [List.drop_eq_getElem_cons h1.1, h1.2]
  rw [hdr] at he
  simp only [rS] at he
  have rh3 := RL.hs (R := RHp) S3 (fun _ _ q => q.hs S3) rh
  obtain ⟨ad, cs5, g1, g2, a5, c5, rfl, p1⟩ := RL.at (P := Tryz.prog) rh3 Tryz.underlying23 dW hx
  refine qJ ?_; repeat' (first | (with_reducible first | apply qK | apply qQ) | ((first | (with_reducible apply qI) | (with_reducible first | apply qB | apply qS | apply qR)) <;> try simp only [qM, qC, qF, qH, qD, qA, qG, reduceIte, seval, Int.cast_ofNat_Int, qN, qO, yN, d3, g1, fK dW g2]))
  refine xG fun k10 h4 m4 s4 f4 n4 => ?_
  refine qJ ?_; repeat' (first | ((with_reducible apply qI) <;> try simp only [qM, qC, qF, qH, qD, qA, qG, reduceIte, seval, Int.cast_ofNat_Int, qN, qO, yN]))
  refine wC m4 dW rfl (by decide) rfl rfl rfl fun h5 m5 f5 => ?_
  simp only [vcells] at m5
  have s35 := s4.upd n4 f5
  have S5 := S3.trans s35
  cases y0 : (decide (x.1 ≤ last))
  case true =>
    have hk : kB size (qU id) last x = false := by unfold kB; simp only [y0, Bool.or_true, Bool.true_or, Bool.false_or, Bool.not_true]
    rw [hk] at he
    rw [he]
    refine qJ ?_; repeat' (first | with_reducible apply qK | ((first | (with_reducible apply qI) | (with_reducible first | apply qB | apply qS | apply qP)) <;> try simp only [qM, qC, qF, qH, qD, qA, qG, reduceIte, seval, Int.cast_ofNat_Int, qN, qO, yN, y0, w8, qE m5 zT, qE m5 qV, gPick]))
    exact ⟨rfl, S5⟩
  cases y1 : (decide (x.1 ≥ 8 * ((qU id).length : Int)))
  case true =>
    have hk : kB size (qU id) last x = false := by unfold kB; simp only [y0, y1, Bool.or_true, Bool.true_or, Bool.false_or, Bool.not_true]
    rw [hk] at he
    rw [he]
    refine qJ ?_; repeat' (first | with_reducible apply qK | ((first | (with_reducible apply qI) | (with_reducible first | apply qB | apply qS | apply qP)) <;> try simp only [qM, qC, qF, qH, qD, qA, qG, reduceIte, seval, Int.cast_ofNat_Int, qN, qO, yN, y0, y1, w8, qE m5 zT, qE m5 qV, gPick]))
    exact ⟨rfl, S5⟩
  cases y2 : (!qN9 x.2.1)
  case true =>
    have hk : kB size (qU id) last x = false := by unfold kB; simp only [y0, y1, y2, Bool.or_true, Bool.true_or, Bool.false_or, Bool.not_true]
    rw [hk] at he
    rw [he]
    refine qJ ?_; repeat' (first | with_reducible apply qK | ((first | (with_reducible apply qI) | (with_reducible first | apply qB | apply qS | apply qP) | ((refine GTri.mono (yQ _ _ _) ?_); rintro _ _ ⟨rfl, hh9⟩; replace hh9 := hh9.symm; subst hh9)) <;> try simp only [qM, qC, qF, qH, qD, qA, qG, reduceIte, seval, Int.cast_ofNat_Int, qN, qO, yN, y0, y1, y2, w8, qE m5 zT, qE m5 qV, gPick]))
    exact ⟨rfl, S5⟩
  cases y3 : ((x.2.2.length : Int) != size)
  case true =>
    have hk : kB size (qU id) last x = false := by unfold kB; simp only [y0, y1, y2, y3, Bool.or_true, Bool.true_or, Bool.false_or, Bool.not_true]
    rw [hk] at he
    rw [he]
    refine qJ ?_; repeat' (first | with_reducible apply qK | ((first | (with_reducible apply qI) | (with_reducible first | apply qB | apply qS | apply qP) | ((refine GTri.mono (yQ _ _ _) ?_); rintro _ _ ⟨rfl, hh9⟩; replace hh9 := hh9.symm; subst hh9)) <;> try simp only [qM, qC, qF, qH, qD, qA, qG, reduceIte, seval, Int.cast_ofNat_Int, qN, qO, yN, y0, y1, y2, y3, w8, qE m5 zT, qE m5 qV, gPick]))
    exact ⟨rfl, S5⟩
  have hk : kB size (qU id) last x = true := by unfold kB; simp only [y0, y1, y2, y3, Bool.or_self, Bool.not_false]
  rw [if_pos hk] at he
  have hx1 : -1 ≤ x.1 ∧ x.1 ≤ 8 * ((qU id).length : Int) := by
    have q1 : ¬ x.1 ≤ last := by simpa using y0
    have q2 : ¬ x.1 ≥ 8 * ((qU id).length : Int) := by simpa using y1
    omega
  refine qJ ?_; repeat' (first | with_reducible apply qK | ((first | (with_reducible apply qI) | (with_reducible first | apply qB | apply qS | apply qR) | ((refine GTri.mono (yQ _ _ _) ?_); rintro _ _ ⟨rfl, hh9⟩; replace hh9 := hh9.symm; subst hh9)) <;> try simp only [qM, qC, qF, qH, qD, qA, qG, reduceIte, seval, Int.cast_ofNat_Int, qN, qO, yN, y0, y1, y2, y3, w8, wi, qE m5 zT, qE m5 qV, gPick]))
  exact ⟨_, (i + 1, x.1), by simp only; omega, (by simp only [List.forall_mem_cons, List.not_mem_nil, false_implies, implies_true, List.map, List.cons_append, List.nil_append, lk, Nat.reduceEqDiff, reduceIte, and_true, true_and]), rfl, by simp only; omega, s3.trans s35, hx1.1, hx1.2, he⟩
end
theorem wN : type_of% (And.intro zP (And.intro rF (And.intro uU (And.intro yC (And.intro uE (And.intro sW (And.intro sV (And.intro xS (And.intro qE5 (And.intro wO rs18)))))))))) := And.intro zP (And.intro rF (And.intro uU (And.intro yC (And.intro uE (And.intro sW (And.intro sV (And.intro xS (And.intro qE5 (And.intro wO rs18)))))))))
def wM : Nat → List (Nat × List Nat) × List Nat
  | 15 => ([(0, []), (1, []), (3, []), (4, []), (2, [4]), (5, []), (6, [])], [0, 0, 3, 0, 8, 7, 63])
  | _ => ([], [])
theorem qE4 {P : Program} {t u e by_ : Nat} {z : Value} {du : TypeDesc} {h : GH} {y x1 : Value} {k1 m : Nat} {xs : List Value} {K : Value → GH → Prop} (hel : rT P t = some (e, 1, by_, z)) (hu : P.underlying u = some du) (hni : sD du = true)
    (mk : h k1 = some ⟨[x1], 1, true, false⟩) (hsrc : sK h 1 y = some (m, xs)) (hxl : xs.length = m) (hm : 1 ≤ m) (hcell : xs.all zF = true) (hsz : (m + 1) * by_ ≤ 140737488355328) (hml : m + 1 ≤ maxLen)
    (k : ∀ k2 c h', HS h h' → h' k2 = some ⟨x1 :: xs, 1, true, true⟩ → 2 * (m + 1) ≤ c → K (.slice (some ⟨k2, 0, none⟩) (m + 1) c) h') : jO P t u h (.slice (some ⟨k1, 0, none⟩) 1 3) y K := by
  refine .inl ⟨du, e, 1, by_, z, m, xs, hu, hni, hel, hsrc, e, 1, by_, z, hel, by omega, hcell, ?_⟩
  refine .inr ⟨by omega, by omega, by rw [Nat.add_comm]; exact hsz, .inl ⟨[x1], wP mk rfl rfl, by omega, by omega, fun k0 hk0' => ?_⟩⟩
  have hS := HS.new hk0' ⟨[x1] ++ xs, 1, true, true⟩
  rw [Nat.add_comm 1 m]
  exact k _ _ _ hS (by rw [zK]; rfl) (by omega)
section
variable {K : Type} {R : GH → List Value → K → Prop}
theorem c_rTexts (N : Nat) {h : GH} {cs : List Value} {p : Pn K} (r : RPn R h cs p) (fR : ∀ {h h'}, HS h h' → ∀ cs x, R h cs x → R h' cs x) (size : Int) (hl : p.pf.length ≤ 100000000) (hid : p.id.length ≤ 100000000) {a b : Option Addr} {c d : Nat} {id : List UInt8} (ri : RB h (.slice a id.length c) id) {hops : List Hp} (rh : RL 3 RHp h (.slice b hops.length d) hops) (hh : hops.length ≤ 100000000) :
    GTri Tryz.prog N 18 [.int .i64 size, .slice a id.length c, .agg (.slice b hops.length d :: cs).toArray] h fun v h' => HS h h' ∧ ∃ a c, v = .slice a (zN4 size id hops p).length c ∧ RL 1 RTx h' (.slice a (zN4 size id hops p).length c) (zN4 size id hops p) := by
  have hcs := r.len
  have hkl := vC id
  have r0 := r
  obtain ⟨a1, c1, a2, c2, a3, c3, a4, c4, a5, c5, a6, c6, ecs, r1, r2, r3, r4, r5, r6⟩ := r
  unfold zN4
  refine xH Tryz.func18 rfl gf18 ok18 (by simp [Tryz.ntmps18]) ?_
  repeat' (first | with_reducible apply qK | (with_reducible apply qB <;> try simp only [qM, qC, qF, qH, qD, qA, qG, reduceIte, seval, Int.cast_ofNat_Int, qN, qO, qL, qY, zA, zB, wN, wM]))
  refine yY (by simp only [List.all_cons, hcs.2.1]; rfl) fun k5 h1 m1 s1 f1 n1 => ?_
  have ld1 := zU (P := Tryz.prog) (t := 28) m1 gX (by simp only [List.length_cons, hcs.1])
  refine qJ ?_; repeat' (first | with_reducible apply qK | ((first | (with_reducible apply qI) | with_reducible apply qB) <;> try simp only [qM, qC, qF, qH, qD, qA, qG, reduceIte, seval, Int.cast_ofNat_Int, qN, qO, qL, qY, zA, zB, wN, wM, ld1]))
  refine (qZ9 N (r0.hs s1 (fR s1)) fR size hl hid (ri.hs s1) (RL.hs (R := RHp) s1 (fun _ _ q => q.hs s1) rh) hh).mono ?_
  rintro _ h2 ⟨rfl, s2⟩
  have S2 := s1.trans s2
  cases hck : qL4 size id hops p
  case false =>
    rw [if_neg (by decide)]
    refine qJ ?_; repeat' (first | with_reducible apply qK | ((first | (with_reducible apply qI) | (with_reducible first | apply qB | apply qS | apply qP)) <;> try simp only [qM, qC, qF, qH, qD, qA, qG, reduceIte, seval, Int.cast_ofNat_Int, qN, qO, qL, qY, zA, zB, wN, wM, cond]))
    exact ⟨S2, none, 0, rfl, RL.nil _⟩
  rw [if_pos rfl]
  obtain ⟨hs1, hs2, hid24, ⟨last, hlast, _⟩, hright, hk3⟩ := zH9 hck
  have hok := qH2 hops (-1) last (by omega) hlast
  have htx := zB2 (size := size) (row := qU id) (en := xK p) ⟨qO5 p, by have := qK4 hright hs2; omega⟩ (by omega)
  refine qJ ?_; repeat' (first | with_reducible apply qK | ((first | (with_reducible apply qI) | (with_reducible first | apply qB | apply qS | apply qR)) <;> try simp only [qM, qC, qF, qH, qD, qA, qG, reduceIte, seval, Int.cast_ofNat_Int, qN, qO, qL, qY, zA, zB, wN, wM, cond]))
  refine (tD N h2 (ri.hs S2) rfl).mono ?_
  rintro _ h3 ⟨s3, ar, cr, rfl, rr, _⟩
  refine qJ ?_; repeat' (first | with_reducible apply qK | ((first | (with_reducible apply qI) | with_reducible apply qB) <;> try simp only [qM, qC, qF, qH, qD, qA, qG, reduceIte, seval, Int.cast_ofNat_Int, qN, qO, qL, qY, zA, zB, wN, wM]))
  refine (qS8 N h3).mono ?_
  rintro _ h4 ⟨s4, a0, c0, rfl, re, sle⟩
  have S4 := S2.trans (s3.trans s4)
  have m4 := s4 _ _ (s3 _ _ (s2 _ _ m1))
  have m4' := m4
  rw [ecs] at m4'
  simp only [Pn.cs] at m4'
  have rr4 := rr.hs s4
  clear m1 ld1
  refine qJ ?_; repeat' (first | with_reducible apply qK | ((first | (with_reducible apply qI) | with_reducible apply qB) <;> try simp only [qM, qC, qF, qH, qD, qA, qG, reduceIte, seval, Int.cast_ofNat_Int, qN, qO, qL, qY, zA, zB, wN, wM]))
  simp only [qM, qC, qF, qH, qD, qA, qG, reduceIte, seval, Int.cast_ofNat_Int, qN, qO, wN, qE m4' zT, List.getElem?_cons_zero, List.getElem?_cons_succ]
  refine GW.mono (Q := fun x e' h' => x = .normal ∧ HS h4 h' ∧ lk e' 0 = .int .i64 size ∧ lk e' 5 = .pointer (some ⟨k5, 0, none⟩) ∧ lk e' 7 = .slice ar (qU id).length cr ∧ ∃ a c, lk e' 8 = .slice a (xK p).length c ∧ RB h' (.slice a (xK p).length c) (xK p) ∧ SL h' (.slice a (xK p).length c)) ?_ ?_
  · unfold xK
    by_cases k1 : p.kd = 1
    · have e1 : (p.kd == 1) = true := by simp [k1]
      have lf := p.right_leaf hright k1
      obtain ⟨w, hw⟩ : ∃ w : Nat, p.si = (w : Int) := ⟨p.si.toNat, by omega⟩
      rw [if_pos k1]
      refine qJ ?_; repeat' (first | (with_reducible first | apply qK | apply qQ) | ((first | (with_reducible apply qI) | (with_reducible first | apply qB | apply qS)) <;> try simp only [qM, qC, qF, qH, qD, qA, qG, reduceIte, seval, Int.cast_ofNat_Int, qN, qO, qL, qY, zA, zB, wN, wM, e1, qE m4' zT, qE m4' qV, hw]))
      refine (qZ7 N (w := w) (by omega) (r1.hs S4) (r2.hs S4) (by omega) (by omega)).mono ?_
      rintro _ h5 ⟨s5, a7, c7, rfl, q1, q2⟩
      rw [Int.toNat_natCast]
      refine qJ ?_; repeat' (first | ((with_reducible apply qI) <;> try simp only [qM, qC, qF, qH, qD, qA, qG, reduceIte, seval, Int.cast_ofNat_Int, qN, qO, qL, qY, zA, zB, wN, wM]))
      exact ⟨s5, a7, c7, rfl, q1, q2⟩
    have e1 : (p.kd == 1) = false := by simp [k1]
    rw [if_neg k1]
    by_cases k2 : p.kd = 2
    · have e2 : (p.kd == 2) = true := by simp [k2]
      obtain ⟨fk, fl, fr, _⟩ := p.right_closed hright k2
      have g := p.frk_ok fk
      obtain ⟨w, hw⟩ : ∃ w : Nat, p.nw = (w : Int) := ⟨p.nw.toNat, by omega⟩
      obtain ⟨dp, hdp⟩ : ∃ w : Nat, p.dp = (w : Int) := ⟨p.dp.toNat, by omega⟩
      rw [if_pos k2]
      refine qJ ?_; repeat' (first | (with_reducible first | apply qK | apply qQ) | ((first | (with_reducible apply qI) | (with_reducible first | apply qB | apply qS)) <;> try simp only [qM, qC, qF, qH, qD, qA, qG, reduceIte, seval, Int.cast_ofNat_Int, qN, qO, qL, qY, zA, zB, wN, wM, e1, e2, qE m4' zT, qE m4' qV, hw, hdp]))
      refine (pO N (d := dp) (w := w) (by omega) (by omega) (r3.hs S4) (r4.hs S4) (r5.hs S4) (by omega) (by omega) (by omega)).mono ?_
      rintro _ h5 ⟨s5, a7, c7, rfl, q1, q2⟩
      rw [Int.toNat_natCast, Int.toNat_natCast]
      refine qJ ?_; repeat' (first | ((with_reducible apply qI) <;> try simp only [qM, qC, qF, qH, qD, qA, qG, reduceIte, seval, Int.cast_ofNat_Int, qN, qO, qL, qY, zA, zB, wN, wM]))
      exact ⟨s5, a7, c7, rfl, q1, q2⟩
    have e2 : (p.kd == 2) = false := by simp [k2]
    rw [if_neg k2]
    refine qJ ?_; repeat' (first | (with_reducible first | apply qK | apply qQ) | ((first | (with_reducible apply qI) | (with_reducible first | apply qB | apply qS | apply qR)) <;> try simp only [qM, qC, qF, qH, qD, qA, qG, reduceIte, seval, Int.cast_ofNat_Int, qN, qO, qL, qY, zA, zB, wN, wM, e1, e2]))
    exact ⟨HS.refl _, a0, c0, rfl, re, sle⟩
  rintro _ e' h5 ⟨rfl, s5, q0, q5, q7, a8, c8, q8, r8, sl8⟩
  rw [gG]
  refine tC [(0, .int .i64 size), (5, .pointer (some ⟨k5, 0, none⟩)), (7, .slice ar (qU id).length cr), (8, .slice a8 (xK p).length c8)] (by simp [q0, q5, q7, q8]) ?_
  clear q0 q5 q7 q8
  have S5 := S4.trans s5
  have m5 := s5 _ _ m4
  have rr5 := rr4.hs s5
  refine qJ ?_; repeat' (first | with_reducible apply qK | ((first | (with_reducible apply qI) | with_reducible apply qB) <;> try simp only [qM, qC, qF, qH, qD, qA, qG, reduceIte, seval, Int.cast_ofNat_Int, qN, qO, qL, qY, zA, zB, wN, wM]))
  refine kU (cs := [.slice a8 (xK p).length c8]) dK rfl (by decide) (by decide) (by rw [xN _ rfl]; rfl) rfl fun kl h6 m6 s6 f6 n6 => ?_
  have m56 := s6 _ _ m5
  have S6 := S5.trans s6
  have wl : IntKind.i64.wrap ((hops.length : Int) - 1) = (hops.length : Int) - 1 := by rw [wrap64 (by omega) (by omega)]
  have rt0 : RTx h6 [.slice a8 (xK p).length c8] (xK p) := ⟨a8, c8, rfl, r8.hs s6, sl8.hs s6⟩
  have rl0 : RL 1 RTx h6 (.slice (some ⟨kl, 0, none⟩) (rI size (qU id) (xK p) (hops.drop hops.length)).length 3) (rI size (qU id) (xK p) (hops.drop hops.length)) := by
    rw [List.drop_length]
    refine .inr ⟨⟨kl, 0, none⟩, 3, _, rfl, wP m6 rfl rfl, by simp [rI], fun i x hx => ?_, .inr ⟨_, m6, .inl (by simp)⟩⟩
    rcases i with _ | i
    · simp only [rI, List.getElem?_cons_zero, Option.some.injEq] at hx
      subst hx
      exact rt0
    · simp [rI] at hx
  have el0 : (rI size (qU id) (xK p) (hops.drop hops.length)).length = 1 := by rw [List.drop_length]; rfl
  rw [el0] at rl0
  refine qJ ?_; repeat' (first | (with_reducible first | apply qK | apply qQ) | ((first | (with_reducible apply qI) | with_reducible apply qB) <;> try simp only [qM, qC, qF, qH, qD, qA, qG, reduceIte, seval, Int.cast_ofNat_Int, qN, qO, qL, qY, zA, zB, wN, wM, wl, qE m56 kC]))
  refine xL [0, 5, 6, 7] (fun (s : Nat × Value × Value) => [(8, s.2.1), (9, s.2.2), (10, .int .i64 ((s.1 : Int) - 1))]) (fun q s h' => s.1 = q ∧ s.1 ≤ hops.length ∧ HS h6 h' ∧ ∃ t0, (rI size (qU id) (xK p) (hops.drop s.1))[0]? = some t0 ∧ RTx h' [s.2.1] t0 ∧ ∃ a9 c9, s.2.2 = .slice a9 (rI size (qU id) (xK p) (hops.drop s.1)).length c9 ∧ RL 1 RTx h' s.2.2 (rI size (qU id) (xK p) (hops.drop s.1)))
    hops.length (hops.length, .slice a8 (xK p).length c8, .slice (some ⟨kl, 0, none⟩) 1 3) (by simp [lk]) ⟨rfl, Nat.le_refl _, HS.refl _, xK p, by rw [List.drop_length]; rfl, rt0, _, _, by rw [el0], by rw [← el0] at rl0 ⊢; exact rl0⟩ ?_
  rintro _ ⟨j, v8, v9⟩ h7 ⟨rfl, hj, s7, t0, ht0, rt, a9, c9, ev9, rl⟩
  simp only at hj ht0 rt ev9 rl
  subst ev9
  obtain ⟨at0, ct0, ev8, rb0, sb0⟩ := rt
  obtain rfl : v8 = .slice at0 t0.length ct0 := by simpa using ev8
  have S7 := S6.trans s7
  have m7 := s7 _ _ m56
  rcases j with _ | j
  · refine qJ ?_; repeat' (first | with_reducible apply qK | ((first | (with_reducible apply qI) | (with_reducible first | apply qB | apply qS | apply xX | apply qP)) <;> try simp only [qM, qC, qF, qH, qD, qA, qG, reduceIte, seval, Int.cast_ofNat_Int, qN, qO, qL, qY, zA, zB, wN, wM]))
    rw [List.drop_zero] at rl
    exact ⟨S7, a9, c9, rfl, rl⟩
  obtain ⟨x, hx⟩ := yK (show j < hops.length by omega)
  have hdr : hops.drop j = x :: hops.drop (j + 1) := by
    have h1 := List.getElem?_eq_some_iff.1 hx
    rw [List.drop_eq_getElem_cons h1.1, h1.2]
  have elt : (rI size (qU id) (xK p) (hops.drop (j + 1))).headD [] = t0 := by
    rw [List.headD_eq_head?_getD, List.head?_eq_getElem?, ht0]; rfl
  have wt : rI size (qU id) (xK p) (hops.drop j) = wY size (qU id) t0 x :: rI size (qU id) (xK p) (hops.drop (j + 1)) := by
    rw [hdr, rI, elt]
  obtain ⟨x1, x2, x3, x4, x5⟩ := hok x (List.mem_of_getElem? hx)
  obtain ⟨dp, hdp⟩ : ∃ dp : Nat, x.1 = (dp : Int) := ⟨x.1.toNat, by omega⟩
  obtain ⟨nw, hnw⟩ : ∃ nw : Nat, x.2.1 = (nw : Int) := ⟨x.2.1.toNat, by omega⟩
  have ht1 := (htx (hops.drop (j + 1)) (fun z hz => by have q := hok z (List.mem_of_mem_drop hz); have := q.2.2.2.2; omega) t0 (List.mem_of_getElem? ht0)).2
  have d0 : (decide ((j : Int) ≥ 0)) = true := by rw [decide_eq_true_eq]; omega
  have w1 : ((j + 1 : Nat) : Int) - 1 = (j : Int) := by omega
  have rh7 := RL.hs (R := RHp) S7 (fun _ _ q => q.hs S7) rh
  obtain ⟨ad, cs5, g1, g2, a5', c5', rfl, p1⟩ := RL.at (P := Tryz.prog) rh7 Tryz.underlying23 dW hx
  refine qJ ?_; repeat' (first | (with_reducible first | apply qK | apply qQ) | ((first | (with_reducible apply qI) | (with_reducible first | apply qB | apply qS | apply qR)) <;> try simp only [qM, qC, qF, qH, qD, qA, qG, reduceIte, seval, Int.cast_ofNat_Int, qN, qO, qL, qY, zA, zB, wN, wM, w1, d0, qE m7 kC, g1, fK dW g2]))
  refine xG fun k11 h8 m8 s8 f8 n8 => ?_
  refine qJ ?_; repeat' (first | ((with_reducible apply qI) <;> try simp only [qM, qC, qF, qH, qD, qA, qG, reduceIte, seval, Int.cast_ofNat_Int, qN, qO, qL, qY, zA, zB, wN, wM]))
  refine wC m8 dW rfl (by decide) rfl rfl rfl fun h9 m9 f9 => ?_
  simp only [vcells] at m9
  have s79 := s8.upd n8 f9
  refine qJ ?_; repeat' (first | with_reducible apply qK | ((first | (with_reducible apply qI) | with_reducible refine zH wM xQ (by kernel_rfl) ?_) <;> try simp only [qM, qC, qF, qH, qD, qA, qG, reduceIte, seval, Int.cast_ofNat_Int, qN, qO, qL, qY, zA, zB, wN, wM, qE m9 qV]))
  refine (c_rCut N (rb0.hs s79) (by omega) size).mono ?_
  rintro _ h10 ⟨s10, a10, c10, rfl, r10⟩
  have s7_10 := s79.trans s10
  have S10 := S7.trans s7_10
  have m10 := s10 _ _ m9
  have rr10 := (rr5.hs s6).hs (s7.trans s7_10)
  have rx10 := p1.hs s7_10
  have hcl : (vD size t0).length ≤ 32 := cutF_len _ _
  rcases sJ (gbit_nonneg.2 (show dp < 8 * (qU id).length by omega)) with hbit | hbit
  · have ebit : wY size (qU id) t0 x = wW dp (qU id) nw (vD size t0) x.2.2 := by
      unfold wY
      rw [hdp, hnw, Int.toNat_natCast, Int.toNat_natCast, if_neg (by rw [hbit]; decide)]
    have hbe : (xP (qU id) dp == 1) = false := by rw [hbit]; rfl
    refine qJ ?_; repeat' (first | with_reducible apply qK | ((first | (with_reducible apply qI) | (with_reducible first | apply qB | apply qS | apply qR) | ((refine GTri.mono (kN _ _ rr10 dp (by omega)) ?_); rintro _ _ ⟨rfl, hh9⟩; replace hh9 := hh9.symm; subst hh9)) <;> try simp only [qM, qC, qF, qH, qD, qA, qG, reduceIte, seval, Int.cast_ofNat_Int, qN, qO, qL, qY, zA, zB, wN, wM, hdp, hnw, hbe, qE m10 qV, qE m10 zT]))
    refine (pO N (d := dp) (w := nw) (by omega) (by omega) rr10 r10 rx10 (by omega) (by omega) (by omega)).mono ?_
    rintro _ h11 ⟨s11, a11, c11, rfl, r11, sl11⟩
    rw [← ebit] at r11 sl11 ⊢
    refine qJ ?_; repeat' (first | ((first | (with_reducible apply qI) | with_reducible apply qB) <;> try simp only [qM, qC, qF, qH, qD, qA, qG, reduceIte, seval, Int.cast_ofNat_Int, qN, qO, qL, qY, zA, zB, wN, wM]))
    refine kU (cs := [.slice a11 (wY size (qU id) t0 x).length c11]) dK rfl (by decide) (by decide) (by rw [xN _ rfl]; rfl) rfl fun k12 h12 m12 s12 f12 n12 => ?_
    have s7_12 := s7_10.trans (s11.trans s12)
    have rl12 := RL.hs (R := RTx) s7_12 (fun _ _ q => q.hs s7_12) rl
    obtain ⟨xs, src, hxl, hxs⟩ := rl12.src
    have hcell : xs.all zF = true := by
      refine all_el (es := 1) (by decide) hxl fun i hi => ?_
      obtain ⟨y, hy⟩ := yK hi
      obtain ⟨_, _, e, _⟩ := hxs i y hy
      rw [e]; rfl
    have hlen := sB size (qU id) (xK p) (hops.drop (j + 1))
    have hdl : (hops.drop (j + 1)).length ≤ hops.length := by rw [List.length_drop]; omega
    refine qJ ?_; repeat' (first | ((with_reducible apply qI) <;> try simp only [qM, qC, qF, qH, qD, qA, qG, reduceIte, seval, Int.cast_ofNat_Int, qN, qO, qL, qY, zA, zB, wN, wM]))
    refine qE4 dK Tryz.underlying36 rfl m12 src (by omega) (by omega) hcell (by omega) (by simp only [maxLen]; omega) fun k13 c13 h13 s13 m13 hc13 => ?_
    have s7_13 := s7_12.trans s13
    have rt13 : RTx h13 [.slice a11 (wY size (qU id) t0 x).length c11] (wY size (qU id) t0 x) := ⟨a11, c11, rfl, (r11.hs s12).hs s13, (sl11.hs s12).hs s13⟩
    have w2 : IntKind.i64.wrap ((j : Int) - 1) = (j : Int) - 1 := by rw [wrap64 (by omega) (by omega)]
    have el13 : (rI size (qU id) (xK p) (hops.drop j)).length = (rI size (qU id) (xK p) (hops.drop (j + 1))).length + 1 := by rw [wt]; rfl
    refine qJ ?_; repeat' (first | ((first | (with_reducible apply qI) | with_reducible apply qB) <;> try simp only [qM, qC, qF, qH, qD, qA, qG, reduceIte, seval, Int.cast_ofNat_Int, qN, qO, qL, qY, zA, zB, wN, wM, w2]))
    refine ⟨j, (j, .slice a11 (wY size (qU id) t0 x).length c11, .slice (some ⟨k13, 0, none⟩) ((rI size (qU id) (xK p) (hops.drop (j + 1))).length + 1) c13), by omega, (by simp only [List.forall_mem_cons, List.not_mem_nil, false_implies, implies_true, List.map, List.cons_append, List.nil_append, lk, Nat.reduceEqDiff, reduceIte, and_true, true_and]), rfl, (show j ≤ hops.length by omega), s7.trans s7_13, wY size (qU id) t0 x, by rw [wt]; rfl, rt13, _, c13, by rw [el13], ?_⟩
    rw [← el13]
    refine .inr ⟨⟨k13, 0, none⟩, c13, _, rfl, wP (cs := Value.slice a11 (wY size (qU id) t0 x).length c11 :: xs) m13 (by rw [List.drop_zero]; exact List.take_of_length_le (by simp only [List.length_cons, hxl, el13]; omega)) (by rw [el13, List.length_cons, hxl]; omega), by rw [el13]; exact hc13, fun i y hy => ?_, .inr ⟨_, m13, .inl (by simp)⟩⟩
    rw [wt] at hy
    rcases i with _ | i
    · simp only [List.getElem?_cons_zero, Option.some.injEq] at hy
      subst hy
      exact rt13
    · have h2 := hxs i y (by simpa using hy)
      have e1 : ((Value.slice a11 (wY size (qU id) t0 x).length c11 :: xs).drop ((i + 1) * 1)).take 1 = (xs.drop (i * 1)).take 1 := by simp
      rw [e1]
      exact h2.hs s13
  · have ebit : wY size (qU id) t0 x = wW dp (qU id) nw x.2.2 (vD size t0) := by
      unfold wY
      rw [hdp, hnw, Int.toNat_natCast, Int.toNat_natCast, if_pos hbit]
    have hbe : (xP (qU id) dp == 1) = true := by rw [hbit]; rfl
    refine qJ ?_; repeat' (first | with_reducible apply qK | ((first | (with_reducible apply qI) | (with_reducible first | apply qB | apply qS) | ((refine GTri.mono (kN _ _ rr10 dp (by omega)) ?_); rintro _ _ ⟨rfl, hh9⟩; replace hh9 := hh9.symm; subst hh9)) <;> try simp only [qM, qC, qF, qH, qD, qA, qG, reduceIte, seval, Int.cast_ofNat_Int, qN, qO, qL, qY, zA, zB, wN, wM, hdp, hnw, hbe, qE m10 qV, qE m10 zT]))
    refine (pO N (d := dp) (w := nw) (by omega) (by omega) rr10 rx10 r10 (by omega) (by omega) (by omega)).mono ?_
    rintro _ h11 ⟨s11, a11, c11, rfl, r11, sl11⟩
    rw [← ebit] at r11 sl11 ⊢
    refine qJ ?_; repeat' (first | ((first | (with_reducible apply qI) | with_reducible apply qB) <;> try simp only [qM, qC, qF, qH, qD, qA, qG, reduceIte, seval, Int.cast_ofNat_Int, qN, qO, qL, qY, zA, zB, wN, wM]))
    refine kU (cs := [.slice a11 (wY size (qU id) t0 x).length c11]) dK rfl (by decide) (by decide) (by rw [xN _ rfl]; rfl) rfl fun k12 h12 m12 s12 f12 n12 => ?_
    have s7_12 := s7_10.trans (s11.trans s12)
    have rl12 := RL.hs (R := RTx) s7_12 (fun _ _ q => q.hs s7_12) rl
    obtain ⟨xs, src, hxl, hxs⟩ := rl12.src
    have hcell : xs.all zF = true := by
      refine all_el (es := 1) (by decide) hxl fun i hi => ?_
      obtain ⟨y, hy⟩ := yK hi
      obtain ⟨_, _, e, _⟩ := hxs i y hy
      rw [e]; rfl
    have hlen := sB size (qU id) (xK p) (hops.drop (j + 1))
    have hdl : (hops.drop (j + 1)).length ≤ hops.length := by rw [List.length_drop]; omega
    refine qJ ?_; repeat' (first | ((with_reducible apply qI) <;> try simp only [qM, qC, qF, qH, qD, qA, qG, reduceIte, seval, Int.cast_ofNat_Int, qN, qO, qL, qY, zA, zB, wN, wM]))
    refine qE4 dK Tryz.underlying36 rfl m12 src (by omega) (by omega) hcell (by omega) (by simp only [maxLen]; omega) fun k13 c13 h13 s13 m13 hc13 => ?_
    have s7_13 := s7_12.trans s13
    have rt13 : RTx h13 [.slice a11 (wY size (qU id) t0 x).length c11] (wY size (qU id) t0 x) := ⟨a11, c11, rfl, (r11.hs s12).hs s13, (sl11.hs s12).hs s13⟩
    have w2 : IntKind.i64.wrap ((j : Int) - 1) = (j : Int) - 1 := by rw [wrap64 (by omega) (by omega)]
    have el13 : (rI size (qU id) (xK p) (hops.drop j)).length = (rI size (qU id) (xK p) (hops.drop (j + 1))).length + 1 := by rw [wt]; rfl
    refine qJ ?_; repeat' (first | ((first | (with_reducible apply qI) | with_reducible apply qB) <;> try simp only [qM, qC, qF, qH, qD, qA, qG, reduceIte, seval, Int.cast_ofNat_Int, qN, qO, qL, qY, zA, zB, wN, wM, w2]))
    refine ⟨j, (j, .slice a11 (wY size (qU id) t0 x).length c11, .slice (some ⟨k13, 0, none⟩) ((rI size (qU id) (xK p) (hops.drop (j + 1))).length + 1) c13), by omega, (by simp only [List.forall_mem_cons, List.not_mem_nil, false_implies, implies_true, List.map, List.cons_append, List.nil_append, lk, Nat.reduceEqDiff, reduceIte, and_true, true_and]), rfl, (show j ≤ hops.length by omega), s7.trans s7_13, wY size (qU id) t0 x, by rw [wt]; rfl, rt13, _, c13, by rw [el13], ?_⟩
    rw [← el13]
    refine .inr ⟨⟨k13, 0, none⟩, c13, _, rfl, wP (cs := Value.slice a11 (wY size (qU id) t0 x).length c11 :: xs) m13 (by rw [List.drop_zero]; exact List.take_of_length_le (by simp only [List.length_cons, hxl, el13]; omega)) (by rw [el13, List.length_cons, hxl]; omega), by rw [el13]; exact hc13, fun i y hy => ?_, .inr ⟨_, m13, .inl (by simp)⟩⟩
    rw [wt] at hy
    rcases i with _ | i
    · simp only [List.getElem?_cons_zero, Option.some.injEq] at hy
      subst hy
      exact rt13
    · have h2 := hxs i y (by simpa using hy)
      have e1 : ((Value.slice a11 (wY size (qU id) t0 x).length c11 :: xs).drop ((i + 1) * 1)).take 1 = (xs.drop (i * 1)).take 1 := by simp
      rw [e1]
      exact h2.hs s13
end
theorem zY : type_of% (And.intro zP (And.intro rF (And.intro uU (And.intro yW (And.intro uE (And.intro sW (And.intro sV (And.intro vW (And.intro xS (And.intro jG (And.intro gU (And.intro wO rs15)))))))))))) := And.intro zP (And.intro rF (And.intro uU (And.intro yW (And.intro uE (And.intro sW (And.intro sV (And.intro vW (And.intro xS (And.intro jG (And.intro gU (And.intro wO rs15)))))))))))
def zD : List (Nat × List Nat) := [(0, []), (1, []), (2, []), (3, []), (4, []), (5, []), (6, []), (7, [1, 3]), (8, []), (9, [1, 3]), (10, [])]
def qP1 : List Nat := [0, 1, 0, 4, 0, 0, 32, 112, 255, 240, 1023]
def zC : List (Nat × List Nat) := [(0, []), (1, []), (2, []), (3, []), (4, []), (5, []), (6, []), (9, [1, 3, 6]), (7, [1, 3]), (8, []), (10, [])]
def qP0 : List Nat := [0, 1, 0, 4, 0, 0, 32, 624, 767, 0, 1023]
def zV : Nat → List (Nat × List Nat) × List Nat
  | 12 => ([(0, []), (1, []), (2, []), (3, []), (4, []), (5, []), (6, []), (7, []), (8, []), (10, []), (11, []), (12, []), (9, [1, 3, 5, 12]), (13, [1, 3, 5]), (14, []), (15, []), (16, [])], [0, 1, 0, 4, 0, 16, 0, 0, 128, 448, 0, 0, 2048, 8128, 16383, 32767, 65535])
  | 17 => ([(0, []), (1, []), (2, []), (4, []), (5, []), (3, [5]), (6, []), (7, [5]), (8, [])], [0, 0, 2, 7, 0, 16, 15, 79, 255])
  | _ => ([], [])
section
variable {h0 h h' : GH} {k : Nat} {v : Value} {cs : List Value} {M : List Nd} {K : Type} {R : GH → List Value → K → Prop}
theorem zM2 (N : Nat) (x : AB h0 h k v cs M) {i : Int} (hi : i < 0 ∨ (M.length : Int) ≤ i) {a : Option Addr} {c : Nat} {id : List UInt8} (ri : RB h (.slice a id.length c) id) (hid : id.length ≤ 140737488355328) : GTri Tryz.prog N 15 [.pointer (some ⟨k, 0, none⟩), .int .i64 i, .slice a id.length c] h fun u h' => HS h h' ∧ zA5 R h' u [] noPart := by
  have hkl := vC id
  refine xH Tryz.func15 rfl gf15 ok15 (by simp [Tryz.ntmps15]) ?_
  repeat' (first | with_reducible apply qK | (with_reducible apply qB <;> try simp only [qM, qC, qF, qH, qD, qA, qG, reduceIte, seval, Int.cast_ofNat_Int, qN, qO, qL, qY, zA, zB, zY, zV, zD, zC]))
  refine xG fun k6 h6 m6 s6 f6 n6 => ?_
  refine qJ ?_; repeat' (first | with_reducible apply qK | ((first | (with_reducible apply qI) | with_reducible apply qB) <;> try simp only [qM, qC, qF, qH, qD, qA, qG, reduceIte, seval, Int.cast_ofNat_Int, qN, qO, qL, qY, zA, zB, zY, zV, zD, zC]))
  refine (tD N h6 (ri.hs s6) rfl).mono ?_
  rintro _ h7 ⟨s7, ar, cr, rfl, rr, _⟩
  refine qJ ?_; repeat' (first | with_reducible apply qK | ((first | (with_reducible apply qI) | with_reducible apply qB) <;> try simp only [qM, qC, qF, qH, qD, qA, qG, reduceIte, seval, Int.cast_ofNat_Int, qN, qO, qL, qY, zA, zB, zY, zV, zD, zC, xF, xZ, vH, Shape.pl, List.all_cons, List.all_nil, zF]))
  refine xG fun k8 h8 m8 s8 f8 n8 => ?_
  refine qJ ?_; repeat' (first | ((with_reducible apply qI) <;> try simp only [qM, qC, qF, qH, qD, qA, qG, reduceIte, seval, Int.cast_ofNat_Int, qN, qO, qL, qY, zA, zB, zY, zV, zD, zC]))
  refine wC m8 gX rfl (by decide) rfl rfl rfl fun h9 m9 f9 => ?_
  simp only [vcells] at m9
  have s79 := s8.upd n8 f9
  have S9 := (s6.trans s7).trans s79
  have m69 := s79 _ _ (s7 _ _ m6)
  have w8 : IntKind.i64.wrap (8 * ((qU id).length : Int)) = 8 * ((qU id).length : Int) := by rw [wrap64 (by omega) (by omega)]
  have w9 : IntKind.i64.wrap (8 * ((qU id).length : Int) + 1) = 8 * ((qU id).length : Int) + 1 := by rw [wrap64 (by omega) (by omega)]
  refine qJ ?_; repeat' (first | (with_reducible first | apply qK | apply qQ) | ((first | (with_reducible apply qI) | with_reducible apply qB) <;> try simp only [qM, qC, qF, qH, qD, qA, qG, reduceIte, seval, Int.cast_ofNat_Int, qN, qO, qL, qY, zA, zB, zY, zV, zD, zC, w8, w9]))
  refine xL [0, 6, 7, 8, 18] (fun (j : Nat) => [(1, .int .i64 i), (19, .int .i64 0)]) (fun q j h' => j = 0 ∧ q = 0 ∧ h' = h9) 0 0 (by simp [lk]) ⟨rfl, rfl, rfl⟩ ?_
  rintro _ _ _ ⟨rfl, rfl, rfl⟩
  have d0 : decide ((0 : Int) < 8 * ((qU id).length : Int) + 1) = true := decide_eq_true (by omega)
  refine qJ ?_; repeat' (first | (with_reducible first | apply qK | apply qQ) | ((first | (with_reducible apply qI) | (with_reducible first | apply qB | apply qS | apply qR)) <;> try simp only [qM, qC, qF, qH, qD, qA, qG, reduceIte, seval, Int.cast_ofNat_Int, qN, qO, qL, qY, zA, zB, zY, zV, zD, zC, d0]))
  refine (lO N (x.hs S9) hi).mono ?_
  rintro _ h10 ⟨s10, rfl⟩
  simp only [zN]
  refine qJ ?_; repeat' (first | ((with_reducible apply qI) <;> try simp only [qM, qC, qF, qH, qD, qA, qG, reduceIte, seval, Int.cast_ofNat_Int, qN, qO, qL, qY, zA, zB, zY, zV, zD, zC]))
  refine xG fun k11 h11 m11 s11 f11 n11 => ?_
  refine qJ ?_; repeat' (first | ((with_reducible apply qI) <;> try simp only [qM, qC, qF, qH, qD, qA, qG, reduceIte, seval, Int.cast_ofNat_Int, qN, qO, qL, qY, zA, zB, zY, zV, zD, zC]))
  refine wC m11 wF rfl (by decide) rfl rfl rfl fun h12 m12 f12 => ?_
  have S12 := s10.trans (s11.upd n11 f12)
  have ld := zU (P := Tryz.prog) (t := 28) (S12 _ _ m9) gX rfl
  refine qJ ?_; repeat' (first | with_reducible apply qK | ((first | (with_reducible apply qI) | (with_reducible first | apply qB | apply qS)) <;> try simp only [qM, qC, qF, qH, qD, qA, qG, reduceIte, seval, Int.cast_ofNat_Int, qN, qO, qL, qY, zA, zB, zY, zV, zD, zC, ld]))
  refine wC (S12 _ _ m69) gX rfl (by decide) rfl rfl rfl fun h14 m14 f14 => ?_
  simp only [vcells] at m14
  have ld2 := zU (P := Tryz.prog) (t := 28) m14 gX rfl
  refine qJ ?_; repeat' (first | ((first | (with_reducible apply qI) | with_reducible apply qP) <;> try simp only [qM, qC, qF, qH, qD, qA, qG, reduceIte, seval, Int.cast_ofNat_Int, qN, qO, qL, qY, zA, zB, zY, zV, zD, zC, fA, ld2]))
  exact ⟨(S9.trans S12).upd n6 f14, none, 0, _, rfl, RL.nil _, qV0 R _⟩
theorem c_rProve (N : Nat) (x : AB h0 h k v cs M) (ti : TI M) {a : Option Addr} {c : Nat} {id : List UInt8} (ri : RB h (.slice a id.length c) id) (hid : id.length ≤ 140737488355328) {i e : Nat} {fs : List Nat} {nd : Nd} (w : Way M (qU id) i fs e nd) (hfs : fs.length ≤ 8 * (qU id).length) :
    GTri Tryz.prog N 15 [.pointer (some ⟨k, 0, none⟩), .int .i64 (i : Int), .slice a id.length c] h fun u h' => HS h h' ∧ zA5 R h' u (fs.map (dE M (qU id))) (qL2 M nd) := by
  obtain ⟨w0, wf⟩ := w.at
  obtain ⟨we, ws⟩ := w.end
  have hkl := vC id
  refine xH Tryz.func15 rfl gf15 ok15 (by simp [Tryz.ntmps15]) ?_
  repeat' (first | with_reducible apply qK | (with_reducible apply qB <;> try simp only [qM, qC, qF, qH, qD, qA, qG, reduceIte, seval, Int.cast_ofNat_Int, qN, qO, qL, qY, zA, zB, zY, zV, zD, zC]))
  refine xG fun k6 h6 m6 s6 f6 n6 => ?_
  refine qJ ?_; repeat' (first | with_reducible apply qK | ((first | (with_reducible apply qI) | with_reducible apply qB) <;> try simp only [qM, qC, qF, qH, qD, qA, qG, reduceIte, seval, Int.cast_ofNat_Int, qN, qO, qL, qY, zA, zB, zY, zV, zD, zC]))
  refine (tD N h6 (ri.hs s6) rfl).mono ?_
  rintro _ h7 ⟨s7, ar, cr, rfl, rr, _⟩
  refine qJ ?_; repeat' (first | with_reducible apply qK | ((first | (with_reducible apply qI) | with_reducible apply qB) <;> try simp only [qM, qC, qF, qH, qD, qA, qG, reduceIte, seval, Int.cast_ofNat_Int, qN, qO, qL, qY, zA, zB, zY, zV, zD, zC, xF, xZ, vH, Shape.pl, List.all_cons, List.all_nil, zF]))
  refine xG fun k8 h8 m8 s8 f8 n8 => ?_
  refine qJ ?_; repeat' (first | ((with_reducible apply qI) <;> try simp only [qM, qC, qF, qH, qD, qA, qG, reduceIte, seval, Int.cast_ofNat_Int, qN, qO, qL, qY, zA, zB, zY, zV, zD, zC]))
  refine wC m8 gX rfl (by decide) rfl rfl rfl fun h9 m9 f9 => ?_
  simp only [vcells] at m9
  have s79 := s8.upd n8 f9
  have n8h : h k8 = none := (s6.trans s7).none_of n8
  have k68 : k6 ≠ k8 := yM (s7 _ _ m6) n8
  have S9 : HS h h9 := (s6.trans s7).trans s79
  have m69 := s79 _ _ (s7 _ _ m6)
  have sb : HS h (jI k8 h9) := sF S9 n8h
  have rb : RB (jI k8 h9) (.slice ar (qU id).length cr) (qU id) := rr.hs (sF s79 n8)
  have sb9 : HS (jI k8 h9) h9 := dG k8 h9
  have m6b := (dF h9 _ k68).trans m69
  have nb8 : jI k8 h9 k8 = none := mP k8 h9
  generalize jI k8 h9 = hb at sb rb sb9 m6b nb8
  have w8 : IntKind.i64.wrap (8 * ((qU id).length : Int)) = 8 * ((qU id).length : Int) := by rw [wrap64 (by omega) (by omega)]
  have w9 : IntKind.i64.wrap (8 * ((qU id).length : Int) + 1) = 8 * ((qU id).length : Int) + 1 := by rw [wrap64 (by omega) (by omega)]
  refine qJ ?_; repeat' (first | (with_reducible first | apply qK | apply qQ) | ((first | (with_reducible apply qI) | with_reducible apply qB) <;> try simp only [qM, qC, qF, qH, qD, qA, qG, reduceIte, seval, Int.cast_ofNat_Int, qN, qO, qL, qY, zA, zB, zY, zV, zD, zC, w8, w9]))
  refine xL [0, 6, 7, 8, 18] (fun (s : Nat × Nat) => [(1, .int .i64 (s.2 : Int)), (19, .int .i64 (s.1 : Int))]) (fun q s h' => fs.length - s.1 = q ∧ s.1 ≤ fs.length ∧ HS hb h' ∧ (fs ++ [e])[s.1]? = some s.2 ∧ ∃ (af : Option Addr) (cf : Nat) (cells : List Value), h' k8 = some ⟨[.slice af s.1 cf, .int .i64 0, .slice none 0 0, .slice none 0 0, .int .i64 0, .int .i64 0, .slice none 0 0, .int .i64 0, .slice none 0 0, .slice none 0 0, .slice none 0 0], 0, true, false⟩ ∧
      OWNC 3 hb h' (.slice af s.1 cf) s.1 cells ∧ cells.all uT = true ∧ ∀ (t : Nat) y, t < s.1 → (fs.map (dE M (qU id)))[t]? = some y → RHp h' ((cells.drop (t * 3)).take 3) y) fs.length (0, i) (by simp [lk]) ⟨rfl, Nat.zero_le _, sb9, w0, none, 0, [], m9, OWNC.nil _ _ _, rfl, fun t y ht => by simp at ht⟩ ?_
  rintro _ ⟨j, p⟩ h10 ⟨rfl, hj, s10, hp, af, cf, cells, m10, ow, hu, hel⟩
  simp only at hj hp m10 ow hel
  have hpM : ∃ y, M[p]? = some y ∧ (j < fs.length → fs[j]? = some p ∧ jF (qU id) y = false) ∧ (j = fs.length → e = p ∧ nd = y) := by
    by_cases hjl : j < fs.length
    · rw [List.getElem?_append_left hjl] at hp
      obtain ⟨y, q1, q2, _⟩ := wf j p hp
      exact ⟨y, q1, fun _ => ⟨hp, q2⟩, fun q => by omega⟩
    · have : j = fs.length := by omega
      subst this
      rw [List.getElem?_append_right (by omega), Nat.sub_self] at hp
      cases hp
      exact ⟨nd, we, fun q => by omega, fun _ => ⟨rfl, rfl⟩⟩
  obtain ⟨y, hy, yg, ye⟩ := hpM
  have x10 := (x.hs sb).hs s10
  have oky := x10.arr.ok.ok p y hy
  have hpf := oky.pf
  have hdpy := oky.dp
  have d0 : decide ((j : Int) < 8 * ((qU id).length : Int) + 1) = true := decide_eq_true (by omega)
  have wj : IntKind.i64.wrap ((j : Int) + 1) = ((j + 1 : Nat) : Int) := by rw [wrap64 (by omega) (by omega)]; omega
  refine qJ ?_; repeat' (first | (with_reducible first | apply qK | apply qQ) | ((first | (with_reducible apply qI) | (with_reducible first | apply qB | apply qS | apply qR)) <;> try simp only [qM, qC, qF, qH, qD, qA, qG, reduceIte, seval, Int.cast_ofNat_Int, qN, qO, qL, qY, zA, zB, zY, zV, zD, zC, d0]))
  refine (lP N x10 hy).mono ?_
  rintro _ h11 ⟨s11, cn, rfl, r11⟩
  obtain ⟨a1, c1, a2, c2, a3, c3, a4, c4, rfl, r1, r2, r3, r4⟩ := r11
  refine qJ ?_; repeat' (first | ((with_reducible apply qI) <;> try simp only [qM, qC, qF, qH, qD, qA, qG, reduceIte, seval, Int.cast_ofNat_Int, qN, qO, qL, qY, zA, zB, zY, zV, zD, zC]))
  refine xG fun k12 h12 m12 s12 f12 n12 => ?_
  refine qJ ?_; repeat' (first | ((with_reducible apply qI) <;> try simp only [qM, qC, qF, qH, qD, qA, qG, reduceIte, seval, Int.cast_ofNat_Int, qN, qO, qL, qY, zA, zB, zY, zV, zD, zC]))
  refine vJ m12 wF rfl (by decide) rfl rfl rfl fun h13 m13 f13 => ?_
  simp only [Nd.cs] at m13
  have S13 := s11.trans (s12.upd n12 f13)
  have m8b := S13 _ _ m10
  have z : ∀ {v l}, RB h11 v l → RB h13 v l := fun r => r.hs (s12.upd n12 f13)
  have q1 := z r1
  have q2 := z r2
  have q3 := z r3
  have rb13 := (rb.hs s10).hs S13
  have x13 := x10.hs S13
  have k812 : k12 ≠ k8 := (yM (s11 _ _ m10) n12).symm
  have n12h : h10 k12 = none := s11.none_of n12
  by_cases hjl : j < fs.length
  case neg =>
    obtain ⟨rfl, rfl⟩ := ye (by omega)
    obtain rfl : j = fs.length := by omega
    have elen : (fs.map (dE M (qU id))).length = fs.length := by simp
    unfold qL2
    cases hlf : nd.lf
    case true =>
      rw [hlf] at m13
      rw [if_pos rfl]
      refine qJ ?_; repeat' (first | with_reducible apply qK | ((first | (with_reducible apply qI) | (with_reducible first | apply qB | apply qS | apply qR)) <;> try simp only [qM, qC, qF, qH, qD, qA, qG, reduceIte, seval, Int.cast_ofNat_Int, qN, qO, qL, qY, zA, zB, zY, zV, zD, zC, qE m13 rY, qE m13 qV, qE m13 zT, xF, xZ, vH, Shape.pl, List.all_cons, List.all_nil, zF]))
      refine qA1 m8b rfl dC (by decide) rfl (by simp) rfl fun h15 m15 f15 => ?_
      simp only [yR, vcells, List.take_succ_cons, List.take_zero, List.drop_succ_cons, List.drop_zero, List.cons_append, List.nil_append, List.length_cons, List.length_nil, Nat.reduceAdd] at m15
      have m6_15 : h15 k6 = _ := (f15 k6 k68).trans (S13 _ _ (s10 _ _ m6b))
      have ld15 := zU (P := Tryz.prog) (t := 28) m15 gX rfl
      refine qJ ?_; repeat' (first | with_reducible apply qK | ((first | (with_reducible apply qI) | with_reducible apply qB) <;> try simp only [qM, qC, qF, qH, qD, qA, qG, reduceIte, seval, Int.cast_ofNat_Int, qN, qO, qL, qY, zA, zB, zY, zV, zD, zC, ld15]))
      refine vJ m6_15 gX rfl (by decide) rfl rfl rfl fun h16 m16 f16 => ?_
      have ld16 := zU (P := Tryz.prog) (t := 28) m16 gX rfl
      refine qJ ?_; repeat' (first | ((first | (with_reducible apply qI) | with_reducible apply qP) <;> try simp only [qM, qC, qF, qH, qD, qA, qG, reduceIte, seval, Int.cast_ofNat_Int, qN, qO, qL, qY, zA, zB, zY, zV, zD, zC, fA, ld16]))
      have zb : ∀ {v l}, RB h13 v l → RB h16 v l := fun r => (r.hx m8b rfl (zE f15)).hx m6_15 rfl (zE f16)
      have zh : ∀ {cs y}, RHp h13 cs y → RHp h16 cs y := fun r => (r.hx m8b rfl (zE f15)).hx m6_15 rfl (zE f16)
      have ow2 := ((ow.hs S13).by5 m8b f15).by5 m6_15 f16
      have rl := OWNC.rl (R := RHp) (l := fs.map (dE M (qU id))) (by rw [elen]; exact ow2) (fun t y hy => zh ((hel t y (by have := (List.getElem?_eq_some_iff.1 hy).1; simp at this; omega) hy).hs S13))
      refine ⟨(((sb.trans s10).trans S13).upd n8h f15).upd n6 f16, af, cf, _, by rw [elen]; rfl, ?_, a1, c1, a2, c2, none, 0, none, 0, none, 0, none, 0, rfl, zb q1, zb q2, RB.nil _, RB.nil _, RB.nil _, RL.nil _⟩
      rw [elen]; exact rl
    have hnb : fV (qU id) nd.pf (nd.dp : Int) = false := by
      unfold jF at ws
      rw [hlf] at ws
      simpa using ws
    have fi := ti.fork e nd we hlf
    obtain ⟨yl, hyl, _⟩ := fi.kl
    obtain ⟨yr, hyr, _⟩ := fi.kr
    rw [hlf] at m13
    rw [if_neg (by decide), vK hyl, vK hyr]
    refine qJ ?_; repeat' (first | with_reducible apply qK | ((first | (with_reducible apply qI) | (with_reducible first | apply qB | apply qS | apply qR)) <;> try simp only [qM, qC, qF, qH, qD, qA, qG, reduceIte, seval, Int.cast_ofNat_Int, qN, qO, qL, qY, zA, zB, zY, zV, zD, zC, qE m13 rY, qE m13 qV, qE m13 zT]))
    refine (fF N h13 rb13 q3 (by omega) (by omega) nd.dp (WalkArith.wf_i64 (by omega))).mono ?_
    rintro _ h14 ⟨rfl, s14⟩
    have m1314 := s14 _ _ m13
    have x14 := x13.hs s14
    refine qJ ?_; repeat' (first | with_reducible apply qK | ((first | (with_reducible apply qI) | with_reducible apply qS | with_reducible refine zH zV xQ (by kernel_rfl) ?_) <;> try simp only [qM, qC, qF, qH, qD, qA, qG, reduceIte, seval, Int.cast_ofNat_Int, qN, qO, qL, qY, zA, zB, zY, zV, zD, zC, hnb, qE m1314 qV, qE m1314 zT]))
    refine (pN N x14 hyl).mono ?_
    rintro _ h16 ⟨s16, al, cl, rfl, rl16⟩
    have m1316 := s16 _ _ m1314
    have x16 := x14.hs s16
    refine qJ ?_; repeat' (first | ((with_reducible apply qI) <;> try simp only [qM, qC, qF, qH, qD, qA, qG, reduceIte, seval, Int.cast_ofNat_Int, qN, qO, qL, qY, zA, zB, zY, zV, zD, zC, qE m1316 qV, qE m1316 zT]))
    refine (pN N x16 hyr).mono ?_
    rintro _ h17 ⟨s17, ar2, cr2, rfl, rr17⟩
    have m1317 := s17 _ _ m1316
    have S17 := S13.trans (s14.trans (s16.trans s17))
    have s13_17 := s14.trans (s16.trans s17)
    have m817 := s13_17 _ _ m8b
    refine qJ ?_; repeat' (first | ((with_reducible apply qI) <;> try simp only [qM, qC, qF, qH, qD, qA, qG, reduceIte, seval, Int.cast_ofNat_Int, qN, qO, qL, qY, zA, zB, zY, zV, zD, zC, qE m1317 qV, qE m1317 zT, xF, xZ, vH, Shape.pl, List.all_cons, List.all_nil, zF]))
    refine qA1 m817 rfl dC (by decide) rfl (by simp) rfl fun h18 m18 f18 => ?_
    simp only [yR, vcells, List.take_succ_cons, List.take_zero, List.drop_succ_cons, List.drop_zero, List.cons_append, List.nil_append, List.length_cons, List.length_nil, Nat.reduceAdd] at m18
    have m1318 := (f18 k12 k812).trans m1317
    have m6_18 : h18 k6 = _ := (f18 k6 k68).trans (S17 _ _ (s10 _ _ m6b))
    have ld18 := zU (P := Tryz.prog) (t := 28) m18 gX rfl
    refine qJ ?_; repeat' (first | with_reducible apply qK | ((first | (with_reducible apply qI) | with_reducible apply qB) <;> try simp only [qM, qC, qF, qH, qD, qA, qG, reduceIte, seval, Int.cast_ofNat_Int, qN, qO, qL, qY, zA, zB, zY, zV, zD, zC, ld18, qE m1318 qV, qE m1318 zT]))
    refine vJ m6_18 gX rfl (by decide) rfl rfl rfl fun h20 m20 f20 => ?_
    have ld20 := zU (P := Tryz.prog) (t := 28) m20 gX rfl
    refine qJ ?_; repeat' (first | ((first | (with_reducible apply qI) | with_reducible apply qP) <;> try simp only [qM, qC, qF, qH, qD, qA, qG, reduceIte, seval, Int.cast_ofNat_Int, qN, qO, qL, qY, zA, zB, zY, zV, zD, zC, fA, ld20]))
    have zc : ∀ {v l}, RB h17 v l → RB h20 v l := fun r => (r.hx m817 rfl (zE f18)).hx m6_18 rfl (zE f20)
    have zhc : ∀ {cs y}, RHp h17 cs y → RHp h20 cs y := fun r => (r.hx m817 rfl (zE f18)).hx m6_18 rfl (zE f20)
    have ow2 := ((ow.hs S17).by5 m817 f18).by5 m6_18 f20
    have rl := OWNC.rl (R := RHp) (l := fs.map (dE M (qU id))) (by rw [elen]; exact ow2) (fun t y hy => zhc ((hel t y (by have := (List.getElem?_eq_some_iff.1 hy).1; simp at this; omega) hy).hs S17))
    refine ⟨(((sb.trans s10).trans S17).upd n8h f18).upd n6 f20, af, cf, _, by rw [elen]; rfl, ?_, none, 0, none, 0, a3, c3, al, cl, ar2, cr2, none, 0, rfl, RB.nil _, RB.nil _, zc (q3.hs s13_17), zc (rl16.hs s17), zc rr17, RL.nil _⟩
    rw [elen]; exact rl
  obtain ⟨hfj, hst⟩ := yg hjl
  obtain ⟨hlf, hbg⟩ := vO hst
  have fi := ti.fork p y hy hlf
  obtain ⟨yl, hyl, _⟩ := fi.kl
  obtain ⟨yr, hyr, _⟩ := fi.kr
  rw [hlf] at m13
  obtain ⟨y', hy', _, hkid⟩ := wf j p hfj
  rw [hy] at hy'
  cases hy'
  have ej := ow.len
  have hgx : (fs.map (dE M (qU id)))[j]? = some (dE M (qU id) p) := by rw [List.getElem?_map, hfj]; rfl
  refine qJ ?_; repeat' (first | with_reducible apply qK | ((first | (with_reducible apply qI) | (with_reducible first | apply qB | apply qS | apply qR)) <;> try simp only [qM, qC, qF, qH, qD, qA, qG, reduceIte, seval, Int.cast_ofNat_Int, qN, qO, qL, qY, zA, zB, zY, zV, zD, zC, qE m13 rY, qE m13 qV, qE m13 zT]))
  refine (fF N h13 rb13 q3 (by omega) (by omega) y.dp (WalkArith.wf_i64 (by omega))).mono ?_
  rintro _ h14 ⟨rfl, s14⟩
  have m1314 := s14 _ _ m13
  have x14 := x13.hs s14
  refine qJ ?_; repeat' (first | with_reducible apply qK | ((first | (with_reducible apply qI) | (with_reducible first | apply qS | apply qR)) <;> try simp only [qM, qC, qF, qH, qD, qA, qG, reduceIte, seval, Int.cast_ofNat_Int, qN, qO, qL, qY, zA, zB, zY, zV, zD, zC, hbg, qE m1314 qV, qE m1314 zT]))
  refine GW.mono (Q := fun x e' h' => x = .normal ∧ HS h13 h' ∧ lk e' 0 = .pointer (some ⟨k, 0, none⟩) ∧ lk e' 6 = .pointer (some ⟨k6, 0, none⟩) ∧ lk e' 7 = .slice ar (qU id).length cr ∧ lk e' 8 = .pointer (some ⟨k8, 0, none⟩) ∧ lk e' 9 = .pointer (some ⟨k12, 0, none⟩) ∧ lk e' 18 = .int .i64 (8 * ((qU id).length : Int) + 1) ∧ lk e' 19 = .int .i64 (j : Int) ∧ ∃ k16, lk e' 11 = .pointer (some ⟨k16, 0, none⟩) ∧ h13 k16 = none ∧ ∃ ah ch, h' k16 = some ⟨[.int .i64 y.dp, .int .i64 y.nw, .slice ah yr.hs.length ch], 0, true, false⟩ ∧ RB h' (.slice ah yr.hs.length ch) yr.hs) ?_ ?_
  · refine qJ ?_; repeat' (first | ((first | (with_reducible apply qI) | with_reducible refine tK (id := 14) 7 9 zD qP1 zC qP0 xQ (by kernel_rfl) (by kernel_rfl) (by kernel_rfl) ?_ ?_) <;> try simp only [qM, qC, qF, qH, qD, qA, qG, reduceIte, seval, Int.cast_ofNat_Int, qN, qO, qL, qY, zA, zB, zY, zV, zD, zC, qE m1314 qV, qE m1314 zT]))
    · refine (pN N x14 hyr).mono ?_
      rintro _ h15 ⟨s15, ah, ch, rfl, rh15⟩
      have m1315 := s15 _ _ m1314
      refine qJ ?_; repeat' (first | ((with_reducible apply qI) <;> try simp only [qM, qC, qF, qH, qD, qA, qG, reduceIte, seval, Int.cast_ofNat_Int, qN, qO, qL, qY, zA, zB, zY, zV, zD, zC, qE m1315 qV, qE m1315 zT, xF, xZ, vH, Shape.pl, List.all_cons, List.all_nil, zF]))
      refine xG fun k16 h16 m16 s16 f16 n16 => ?_
      have m1316 := s16 _ _ m1315
      refine qJ ?_; repeat' (first | ((with_reducible apply qI) <;> try simp only [qM, qC, qF, qH, qD, qA, qG, reduceIte, seval, Int.cast_ofNat_Int, qN, qO, qL, qY, zA, zB, zY, zV, zD, zC, qE m1316 qV, qE m1316 zT]))
      refine wC m16 dW rfl (by decide) rfl rfl rfl fun h17 m17 f17 => ?_
      simp only [vcells] at m17
      refine qJ ?_; repeat' (first | ((with_reducible apply qI) <;> try simp only [qM, qC, qF, qH, qD, qA, qG, reduceIte, seval, Int.cast_ofNat_Int, qN, qO, qL, qY, zA, zB, zY, zV, zD, zC]))
      exact ⟨(s14.trans s15).trans (s16.upd n16 f17), k16, rfl, (s14.trans s15).none_of n16, ah, ch, m17, (rh15.hs s16).hx m16 rfl (zE f17)⟩
    · refine xG fun k16 h14b m16 s14b f16 n16 => ?_
      have m1314b := s14b _ _ m1314
      refine qJ ?_; repeat' (first | ((with_reducible apply qI) <;> try simp only [qM, qC, qF, qH, qD, qA, qG, reduceIte, seval, Int.cast_ofNat_Int, qN, qO, qL, qY, zA, zB, zY, zV, zD, zC, qE m1314b qV, qE m1314b zT]))
      refine (pN N (x14.hs s14b) hyr).mono ?_
      rintro _ h15 ⟨s15, ah, ch, rfl, rh15⟩
      have m1315 := s15 _ _ m1314b
      have m1615 := s15 _ _ m16
      refine qJ ?_; repeat' (first | ((with_reducible apply qI) <;> try simp only [qM, qC, qF, qH, qD, qA, qG, reduceIte, seval, Int.cast_ofNat_Int, qN, qO, qL, qY, zA, zB, zY, zV, zD, zC, qE m1315 qV, qE m1315 zT, xF, xZ, vH, Shape.pl, List.all_cons, List.all_nil, zF]))
      refine wC m1615 dW rfl (by decide) rfl rfl rfl fun h17 m17 f17 => ?_
      simp only [vcells] at m17
      refine qJ ?_; repeat' (first | ((with_reducible apply qI) <;> try simp only [qM, qC, qF, qH, qD, qA, qG, reduceIte, seval, Int.cast_ofNat_Int, qN, qO, qL, qY, zA, zB, zY, zV, zD, zC]))
      have n16h : h13 k16 = none := s14.none_of n16
      exact ⟨(s14.trans (s14b.trans s15)).upd n16h f17, k16, rfl, n16h, ah, ch, m17, rh15.hx m1615 rfl (zE f17)⟩
  rintro _ e' h17 ⟨rfl, s13_17, q0, q6, q7, q8, q9, q18, q19, k16, q11, n16h, ah, ch, m17, rh17⟩
  rw [gG]
  refine tC [(0, .pointer (some ⟨k, 0, none⟩)), (6, .pointer (some ⟨k6, 0, none⟩)), (7, .slice ar (qU id).length cr), (8, .pointer (some ⟨k8, 0, none⟩)), (9, .pointer (some ⟨k12, 0, none⟩)), (11, .pointer (some ⟨k16, 0, none⟩)), (18, .int .i64 (8 * ((qU id).length : Int) + 1)), (19, .int .i64 (j : Int))] (by simp [q0, q6, q7, q8, q9, q11, q18, q19]) ?_
  clear q0 q6 q7 q8 q9 q11 q18 q19
  have m1317 := s13_17 _ _ m13
  have m817 := s13_17 _ _ m8b
  have x17 := x13.hs s13_17
  have rb17 := rb13.hs s13_17
  have S17 := S13.trans s13_17
  cases hbt : (xP (qU id) y.dp == 1)
  · have hbq : (xP (qU id) y.dp = 1) = False := by simpa using hbt
    have ehop : dE M (qU id) p = ((y.dp : Int), (y.nw : Int), yr.hs) := by
      unfold dE
      rw [vK hy]
      simp only [hbq, if_true, if_false]
      rw [vK hyr]
    have ekid : kA (qU id) y = y.l := by unfold kA; simp only [hbq, if_true, if_false]
    rw [ekid] at hkid
    have ld17 := zU (P := Tryz.prog) (t := 79) m17 dW rfl
    refine qJ ?_; repeat' (first | with_reducible apply qK | ((first | (with_reducible apply qI) | (with_reducible first | apply qB | apply qS | apply qR) | ((refine GTri.mono (kN _ _ rb17 y.dp (by omega)) ?_); rintro _ _ ⟨rfl, hh9⟩; replace hh9 := hh9.symm; subst hh9)) <;> try simp only [qM, qC, qF, qH, qD, qA, qG, reduceIte, seval, Int.cast_ofNat_Int, qN, qO, qL, qY, zA, zB, zY, zV, zD, zC, hbt, qE m1317 zT, qE m1317 qV, qE m817 kC, ld17, xF, xZ, vH, Shape.pl, List.all_cons, List.all_nil, zF]))
    refine dA qS5 rfl rfl (by decide) (by decide) rfl fun k20 h20 b20 s20 f20 n20 => ?_
    have S20 := S17.trans s20
    have m820 := s20 _ _ m817
    refine qJ ?_; repeat' (first | ((with_reducible apply qI) <;> try simp only [qM, qC, qF, qH, qD, qA, qG, reduceIte, seval, Int.cast_ofNat_Int, qN, qO, qL, qY, zA, zB, zY, zV, zD, zC, qE m820 kC]))
    refine uO qS5 Tryz.underlying23 rfl (s10.trans S20) (ow.hs S20) b20 rfl rfl (by omega) (by simp only [maxLen]; omega) fun v21 h21 s21 fr21 o21 => ?_
    obtain ⟨a21, c21, rfl⟩ := o21.form
    have m821 := tU fr21 m820 (by simp)
    refine qJ ?_; repeat' (first | ((with_reducible apply qI) <;> try simp only [qM, qC, qF, qH, qD, qA, qG, reduceIte, seval, Int.cast_ofNat_Int, qN, qO, qL, qY, zA, zB, zY, zV, zD, zC, qE m821 kC]))
    refine zW m821 kC rfl (by simp) rfl rfl fun h22 m22 f22 => ?_
    simp only [List.set_cons_zero, List.set_cons_succ] at m22
    refine qJ ?_; repeat' (first | ((first | (with_reducible apply qI) | with_reducible apply qB) <;> try simp only [qM, qC, qF, qH, qD, qA, qG, reduceIte, seval, Int.cast_ofNat_Int, qN, qO, qL, qY, zA, zB, zY, zV, zD, zC, wj]))
    have zz : ∀ {v l}, RB h20 v l → RB h22 v l := fun r => (qN8 fr21 hu r).hx m821 rfl (zE f22)
    have zh : ∀ {cs y}, RHp h20 cs y → RHp h22 cs y := fun r => by
      obtain ⟨a, c, e, q⟩ := r
      exact ⟨a, c, e, zz q⟩
    refine ⟨_, (j + 1, y.l), by simp only; omega, (by simp only [List.forall_mem_cons, List.not_mem_nil, false_implies, implies_true, List.map, List.cons_append, List.nil_append, lk, Nat.reduceEqDiff, reduceIte, and_true, true_and]), rfl, by simp only; omega, s21.upd nb8 f22, hkid, a21, c21, _, m22, o21.by5 m821 f22, ?_, fun t z ht hz => ?_⟩
    · rw [List.all_append, hu]; rfl
    · by_cases htj : t < j
      · have h1 := hel t z htj hz
        rw [List.drop_append_of_le_length (by omega), List.take_append_of_le_length (by rw [List.length_drop]; omega)]
        exact zh (h1.hs S20)
      · have htj2 : t = j := by simp only at ht; omega
        subst htj2
        rw [← ej, List.drop_left]
        rw [hgx, ehop] at hz
        cases hz
        exact ⟨ah, ch, rfl, zz (rh17.hs s20)⟩
  · have hbq : (xP (qU id) y.dp = 1) = True := by simpa using hbt
    have ehop : dE M (qU id) p = ((y.dp : Int), (y.nw : Int), yl.hs) := by
      unfold dE
      rw [vK hy]
      simp only [hbq, if_true, if_false]
      rw [vK hyl]
    have ekid : kA (qU id) y = y.r := by unfold kA; simp only [hbq, if_true, if_false]
    rw [ekid] at hkid
    refine qJ ?_; repeat' (first | with_reducible apply qK | ((first | (with_reducible apply qI) | (with_reducible first | apply qB | apply qS) | with_reducible refine zH zV xQ (by kernel_rfl) ?_ | ((refine GTri.mono (kN _ _ rb17 y.dp (by omega)) ?_); rintro _ _ ⟨rfl, hh9⟩; replace hh9 := hh9.symm; subst hh9)) <;> try simp only [qM, qC, qF, qH, qD, qA, qG, reduceIte, seval, Int.cast_ofNat_Int, qN, qO, qL, qY, zA, zB, zY, zV, zD, zC, hbt, qE m1317 zT, qE m1317 qV, qE m817 kC]))
    refine (pN N x17 hyl).mono ?_
    rintro _ h18 ⟨s18, ah, ch, rfl, rh18⟩
    have m1318 := s18 _ _ m1317
    have m1718 := s18 _ _ m17
    have m818 := s18 _ _ m817
    refine qJ ?_; repeat' (first | ((with_reducible apply qI) <;> try simp only [qM, qC, qF, qH, qD, qA, qG, reduceIte, seval, Int.cast_ofNat_Int, qN, qO, qL, qY, zA, zB, zY, zV, zD, zC, qE m1318 zT, qE m1318 qV]))
    refine zW m1718 qV rfl (by simp) rfl rfl fun h19 m19 f19 => ?_
    simp only [List.set_cons_zero, List.set_cons_succ] at m19
    have s13_19 := (s13_17.trans s18).upd n16h f19
    have S19 := S13.trans s13_19
    have m1319 := s13_19 _ _ m13
    have m819 := s13_19 _ _ m8b
    have ld19 := zU (P := Tryz.prog) (t := 79) m19 dW rfl
    have rh19 := rh18.hx m1718 rfl (zE f19)
    refine qJ ?_; repeat' (first | ((first | (with_reducible apply qI) | with_reducible apply qB) <;> try simp only [qM, qC, qF, qH, qD, qA, qG, reduceIte, seval, Int.cast_ofNat_Int, qN, qO, qL, qY, zA, zB, zY, zV, zD, zC, qE m1319 zT, qE m819 kC, ld19, xF, xZ, vH, Shape.pl, List.all_cons, List.all_nil, zF]))
    refine dA qS5 rfl rfl (by decide) (by decide) rfl fun k20 h20 b20 s20 f20 n20 => ?_
    have S20 := S19.trans s20
    have m820 := s20 _ _ m819
    refine qJ ?_; repeat' (first | ((with_reducible apply qI) <;> try simp only [qM, qC, qF, qH, qD, qA, qG, reduceIte, seval, Int.cast_ofNat_Int, qN, qO, qL, qY, zA, zB, zY, zV, zD, zC, qE m820 kC]))
    refine uO qS5 Tryz.underlying23 rfl (s10.trans S20) (ow.hs S20) b20 rfl rfl (by omega) (by simp only [maxLen]; omega) fun v21 h21 s21 fr21 o21 => ?_
    obtain ⟨a21, c21, rfl⟩ := o21.form
    have m821 := tU fr21 m820 (by simp)
    refine qJ ?_; repeat' (first | ((with_reducible apply qI) <;> try simp only [qM, qC, qF, qH, qD, qA, qG, reduceIte, seval, Int.cast_ofNat_Int, qN, qO, qL, qY, zA, zB, zY, zV, zD, zC, qE m821 kC]))
    refine zW m821 kC rfl (by simp) rfl rfl fun h22 m22 f22 => ?_
    simp only [List.set_cons_zero, List.set_cons_succ] at m22
    refine qJ ?_; repeat' (first | ((first | (with_reducible apply qI) | with_reducible apply qB) <;> try simp only [qM, qC, qF, qH, qD, qA, qG, reduceIte, seval, Int.cast_ofNat_Int, qN, qO, qL, qY, zA, zB, zY, zV, zD, zC, wj]))
    have zz : ∀ {v l}, RB h20 v l → RB h22 v l := fun r => (qN8 fr21 hu r).hx m821 rfl (zE f22)
    have zh : ∀ {cs y}, RHp h20 cs y → RHp h22 cs y := fun r => by
      obtain ⟨a, c, e, q⟩ := r
      exact ⟨a, c, e, zz q⟩
    refine ⟨_, (j + 1, y.r), by simp only; omega, (by simp only [List.forall_mem_cons, List.not_mem_nil, false_implies, implies_true, List.map, List.cons_append, List.nil_append, lk, Nat.reduceEqDiff, reduceIte, and_true, true_and]), rfl, by simp only; omega, s21.upd nb8 f22, hkid, a21, c21, _, m22, o21.by5 m821 f22, ?_, fun t z ht hz => ?_⟩
    · rw [List.all_append, hu]; rfl
    · by_cases htj : t < j
      · have h1 := hel t z htj hz
        rw [List.drop_append_of_le_length (by omega), List.take_append_of_le_length (by rw [List.length_drop]; omega)]
        exact zh (h1.hs S20)
      · have htj2 : t = j := by simp only at ht; omega
        subst htj2
        rw [← ej, List.drop_left]
        rw [hgx, ehop] at hz
        cases hz
        exact ⟨ah, ch, rfl, zz (rh19.hs s20)⟩
end
theorem rA : type_of% (And.intro zP (And.intro uU (And.intro uE (And.intro xS (And.intro jG (And.intro wO (And.intro qT8 rs24))))))) := And.intro zP (And.intro uU (And.intro uE (And.intro xS (And.intro jG (And.intro wO (And.intro qT8 rs24))))))
def fO : Nat → List (Nat × List Nat) × List Nat
  | 6 => ([(0, []), (1, []), (2, []), (3, []), (4, []), (5, []), (6, []), (7, []), (8, []), (9, []), (10, []), (11, [])], [0, 1, 0, 7, 15, 0, 32, 0, 224, 480, 1023, 2047])
  | _ => ([], [])
theorem kG : type_of% (And.intro zP (And.intro rF (And.intro uU (And.intro uE (And.intro sW (And.intro sV (And.intro xS (And.intro jG (And.intro wO (And.intro qT8 rs16)))))))))) := And.intro zP (And.intro rF (And.intro uU (And.intro uE (And.intro sW (And.intro sV (And.intro xS (And.intro jG (And.intro wO (And.intro qT8 rs16)))))))))
theorem qI1 : type_of% (And.intro zP (And.intro yC (And.intro xS (And.intro jG (And.intro wO rs58))))) := And.intro zP (And.intro yC (And.intro xS (And.intro jG (And.intro wO rs58))))
theorem fxRsm_17 : type_of% (And.intro Tryz.underlying38 (And.intro zP (And.intro yC (And.intro ty38 rs17)))) := And.intro Tryz.underlying38 (And.intro zP (And.intro yC (And.intro ty38 rs17)))
section
variable {K : Type} {R : GH → List Value → K → Prop}
theorem c_rSameK (N : Nat) {p : Pn K} (ih : ∀ x ∈ p.kids, ∀ {h c1 c2}, R h c1 x → R h c2 x → GTri Tryz.prog N 24 [.agg c1.toArray, .agg c2.toArray] h fun v h' => v = .bool true ∧ HS h h') (fR : ∀ {h h'}, HS h h' → ∀ cs x, R h cs x → R h' cs x) {h : GH} {k1 k2 : List Value} (r : RPn R h k1 p) (q : RPn R h k2 p) (hk : p.kids.length ≤ 100000000) :
    GTri Tryz.prog N 24 [.agg k1.toArray, .agg k2.toArray] h fun v h' => v = .bool true ∧ HS h h' := by
  obtain ⟨a1, c1, a2, c2, a3, c3, a4, c4, a5, c5, a6, c6, rfl, r1, r2, r3, r4, r5, r6⟩ := r
  obtain ⟨b1, d1, b2, d2, b3, d3, b4, d4, b5, d5, b6, d6, rfl, q1, q2, q3, q4, q5, q6⟩ := q
  refine xH Tryz.func24 rfl gf24 ok24 (by simp [Tryz.ntmps24]) ?_
  repeat' (first | with_reducible apply qK | (with_reducible apply qB <;> try simp only [qM, qC, qF, qH, qD, qA, qG, reduceIte, seval, Int.cast_ofNat_Int, qN, qO, qL, qY, zA, zB, rA, fO]))
  refine yY rfl fun k1 h1 m1 s1 f1 n1 => ?_
  refine qJ ?_; repeat' (first | ((with_reducible apply qI) <;> try simp only [qM, qC, qF, qH, qD, qA, qG, reduceIte, seval, Int.cast_ofNat_Int, qN, qO, qL, qY, zA, zB, rA, fO]))
  refine yY rfl fun k2 h2 m2 s2 f2 n2 => ?_
  have m12 := s2 _ _ m1
  have S2 := s1.trans s2
  simp only [Pn.cs] at m12 m2
  have cv : ∀ {a : Option Addr} {n c : Nat} {l : List UInt8}, RB h (.slice a n c) l → yT Tryz.prog 22 9 h2 (.slice a n c) = some (.string (zE8 l)) := fun r => (r.hs S2).conv Tryz.underlying22 Tryz.underlying5 Tryz.underlying9
  refine qJ ?_; repeat' (first | with_reducible apply qK | ((first | (with_reducible apply qI) | with_reducible apply qB) <;> try simp only [qM, qC, qF, qH, qD, qA, qG, reduceIte, seval, Int.cast_ofNat_Int, qN, qO, qL, qY, zA, zB, rA, fO]))
  simp only [List.append_eq, List.cons_append, List.nil_append]
  refine qJ ?_; repeat' (first | (with_reducible first | apply qK | apply qQ) | ((first | (with_reducible apply qI) | (with_reducible first | apply qB | apply qS | apply qR)) <;> try simp only [qM, qC, qF, qH, qD, qA, qG, reduceIte, seval, Int.cast_ofNat_Int, qN, qO, qL, qY, zA, zB, rA, fO, qE m12 zT, qE m2 zT, qE m12 qV, qE m2 qV, qE m12 uB, qE m2 uB, cv r1, cv r2, cv r3, cv r4, cv r5, cv q1, cv q2, cv q3, cv q4, cv q5, jW, bne_self_eq_false, beq_self_eq_true, Bool.not_true, gPick]))
  refine xL [2, 3, 88] (fun (j : Nat) => [(89, .int .i64 (j : Int))]) (fun q j h' => p.kids.length - j = q ∧ j ≤ p.kids.length ∧ HS h2 h') p.kids.length 0 (by simp [lk]) ⟨rfl, by omega, HS.refl _⟩ ?_
  rintro _ j h3 ⟨rfl, hj, s3⟩
  have S3 := S2.trans s3
  by_cases hjl : j < p.kids.length
  case neg =>
    have d0 : decide ((j : Int) < (p.kids.length : Int)) = false := decide_eq_false (by omega)
    refine qJ ?_; repeat' (first | with_reducible apply qK | ((first | (with_reducible apply qI) | (with_reducible first | apply qB | apply qS | apply xX | apply qP)) <;> try simp only [qM, qC, qF, qH, qD, qA, qG, reduceIte, seval, Int.cast_ofNat_Int, qN, qO, qL, qY, zA, zB, rA, fO, d0]))
    exact S3
  have d0 : decide ((j : Int) < (p.kids.length : Int)) = true := decide_eq_true (by omega)
  have wj : IntKind.i64.wrap ((j : Int) + 1) = ((j + 1 : Nat) : Int) := by rw [wrap64 (by omega) (by omega)]; omega
  have m13 := s3 _ _ m12
  have m23 := s3 _ _ m2
  obtain ⟨x, hx⟩ := yK hjl
  obtain ⟨ad, cs5, g1, g2, e1⟩ := RL.at (P := Tryz.prog) (RL.hs S3 (fR S3) r6) Tryz.underlying24 dC hx
  obtain ⟨ad', cs6, g3, g4, e2⟩ := RL.at (P := Tryz.prog) (RL.hs S3 (fR S3) q6) Tryz.underlying24 dC hx
  refine qJ ?_; repeat' (first | (with_reducible first | apply qK | apply qQ) | ((first | (with_reducible apply qI) | (with_reducible first | apply qB | apply qS | apply qR) | with_reducible refine zH fO xQ (by kernel_rfl) ?_) <;> try simp only [qM, qC, qF, qH, qD, qA, qG, reduceIte, seval, Int.cast_ofNat_Int, qN, qO, qL, qY, zA, zB, rA, fO, d0, qE m13 uB, qE m23 uB, g1, g3, fK dC g2, fK dC g4]))
  refine (ih x (List.mem_of_getElem? hx) e1 e2).mono ?_
  rintro _ h4 ⟨rfl, s4⟩
  refine qJ ?_; repeat' (first | ((first | (with_reducible apply qI) | (with_reducible first | apply qB | apply qS | apply qR)) <;> try simp only [qM, qC, qF, qH, qD, qA, qG, reduceIte, seval, Int.cast_ofNat_Int, qN, qO, qL, qY, zA, zB, rA, fO, wj]))
  exact ⟨_, j + 1, by omega, (by simp only [List.forall_mem_cons, List.not_mem_nil, false_implies, implies_true, List.map, List.cons_append, List.nil_append, lk, Nat.reduceEqDiff, reduceIte, and_true, true_and]), rfl, by omega, s3.trans s4⟩
end
section
variable {K : Type} {R : GH → List Value → K → Prop}
theorem c_rSame (N : Nat) (fR : ∀ {h h'}, HS h h' → ∀ cs x, R h cs x → R h' cs x) {h : GH} {u1 u2 : Value} {hops : List Hp} {p : Pn K} (r : zA5 R h u1 hops p) (q : zA5 R h u2 hops p) (hk : p.kids = []) (hh : hops.length ≤ 100000000) :
    GTri Tryz.prog N 16 [u1, u2] h fun v h' => v = .bool true ∧ HS h h' := by
  obtain ⟨b, d, cs, rfl, r1, r2⟩ := r
  obtain ⟨b', d', cs', rfl, q1, q2⟩ := q
  have hcs := r2.len
  have hcs' := q2.len
  refine xH Tryz.func16 rfl gf16 ok16 (by simp [Tryz.ntmps16]) ?_
  repeat' (first | with_reducible apply qK | (with_reducible apply qB <;> try simp only [qM, qC, qF, qH, qD, qA, qG, reduceIte, seval, Int.cast_ofNat_Int, qN, qO, kG]))
  refine yY (by simp only [List.all_cons, hcs.2.1]; rfl) fun k2 h1 m1 s1 f1 n1 => ?_
  refine qJ ?_; repeat' (first | ((with_reducible apply qI) <;> try simp only [qM, qC, qF, qH, qD, qA, qG, reduceIte, seval, Int.cast_ofNat_Int, qN, qO, kG]))
  refine yY (by simp only [List.all_cons, hcs'.2.1]; rfl) fun k3 h2 m2 s2 f2 n2 => ?_
  have m12 := s2 _ _ m1
  have S2 := s1.trans s2
  have ld1 : wS Tryz.prog 26 h2 (.pointer (some ⟨k2, 1, none⟩)) = some (.agg cs.toArray) := wG m12 dC (by rw [List.drop_one, List.tail_cons, List.take_of_length_le (by omega)]) hcs.1
  have ld2 : wS Tryz.prog 26 h2 (.pointer (some ⟨k3, 1, none⟩)) = some (.agg cs'.toArray) := wG m2 dC (by rw [List.drop_one, List.tail_cons, List.take_of_length_le (by omega)]) hcs'.1
  refine qJ ?_; repeat' (first | with_reducible apply qK | ((first | (with_reducible apply qI) | with_reducible apply qB) <;> try simp only [qM, qC, qF, qH, qD, qA, qG, reduceIte, seval, Int.cast_ofNat_Int, qN, qO, kG, qE m12 kC, qE m2 kC, ld1, ld2, bne_self_eq_false, gPick]))
  refine (c_rSameK N (fun x hx => by rw [hk] at hx; cases hx) fR (r2.hs S2 (fR S2)) (q2.hs S2 (fR S2)) (by rw [hk]; simp)).mono ?_
  rintro _ h3 ⟨rfl, s3⟩
  have m13 := s3 _ _ m12
  have m23 := s3 _ _ m2
  have S3 := S2.trans s3
  refine qJ ?_; repeat' (first | (with_reducible first | apply qK | apply qQ) | ((first | (with_reducible apply qI) | (with_reducible first | apply qB | apply qS | apply qR)) <;> try simp only [qM, qC, qF, qH, qD, qA, qG, reduceIte, seval, Int.cast_ofNat_Int, qN, qO, kG, qE m13 kC, qE m23 kC, gPick]))
  refine xL [3, 24, 25] (fun (j : Nat) => [(26, .int .i64 (j : Int))]) (fun q j h' => hops.length - j = q ∧ j ≤ hops.length ∧ HS h3 h') hops.length 0 (by simp [lk]) ⟨rfl, by omega, HS.refl _⟩ ?_
  rintro _ j h4 ⟨rfl, hj, s4⟩
  have S4 := S3.trans s4
  by_cases hjl : j < hops.length
  case neg =>
    have d0 : decide ((j : Int) < (hops.length : Int)) = false := decide_eq_false (by omega)
    refine qJ ?_; repeat' (first | with_reducible apply qK | ((first | (with_reducible apply qI) | (with_reducible first | apply qB | apply qS | apply xX | apply qP)) <;> try simp only [qM, qC, qF, qH, qD, qA, qG, reduceIte, seval, Int.cast_ofNat_Int, qN, qO, kG, d0]))
    exact S4
  have d0 : decide ((j : Int) < (hops.length : Int)) = true := decide_eq_true (by omega)
  have wj : IntKind.i64.wrap ((j : Int) + 1) = ((j + 1 : Nat) : Int) := by rw [wrap64 (by omega) (by omega)]; omega
  have m24 := s4 _ _ m23
  obtain ⟨x, hx⟩ := yK hjl
  obtain ⟨ad, cs5, g1, g2, a7, c7, rfl, e1⟩ := RL.at (P := Tryz.prog) (RL.hs (R := RHp) S4 (fun _ _ q => q.hs S4) r1) Tryz.underlying23 dW hx
  obtain ⟨ad', cs6, g3, g4, a8, c8, rfl, e2⟩ := RL.at (P := Tryz.prog) (RL.hs (R := RHp) S4 (fun _ _ q => q.hs S4) q1) Tryz.underlying23 dW hx
  refine qJ ?_; repeat' (first | (with_reducible first | apply qK | apply qQ) | ((first | (with_reducible apply qI) | (with_reducible first | apply qB | apply qS | apply qR)) <;> try simp only [qM, qC, qF, qH, qD, qA, qG, reduceIte, seval, Int.cast_ofNat_Int, qN, qO, kG, d0, g1, fK dW g2]))
  refine xG fun k6 h5 m5 s5 f5 n5 => ?_
  refine qJ ?_; repeat' (first | ((with_reducible apply qI) <;> try simp only [qM, qC, qF, qH, qD, qA, qG, reduceIte, seval, Int.cast_ofNat_Int, qN, qO, kG]))
  refine wC m5 dW rfl (by decide) rfl rfl rfl fun h6 m6 f6 => ?_
  simp only [vcells] at m6
  have s46 := s5.upd n5 f6
  have m26 := s46 _ _ m24
  refine qJ ?_; repeat' (first | with_reducible apply qK | ((first | (with_reducible apply qI) | with_reducible apply qB) <;> try simp only [qM, qC, qF, qH, qD, qA, qG, reduceIte, seval, Int.cast_ofNat_Int, qN, qO, kG, qE m26 kC, g3, lE s46 (fK (P := Tryz.prog) dW g4)]))
  refine xG fun k7 h7 m7 s7 f7 n7 => ?_
  refine qJ ?_; repeat' (first | ((with_reducible apply qI) <;> try simp only [qM, qC, qF, qH, qD, qA, qG, reduceIte, seval, Int.cast_ofNat_Int, qN, qO, kG]))
  refine wC m7 dW rfl (by decide) rfl rfl rfl fun h8 m8 f8 => ?_
  simp only [vcells] at m8
  have s68 := s7.upd n7 f8
  have m68 := s68 _ _ m6
  have s48 := s46.trans s68
  have v1 := (e1.hs s48).conv Tryz.underlying22 Tryz.underlying5 Tryz.underlying9
  have v2 := (e2.hs s48).conv Tryz.underlying22 Tryz.underlying5 Tryz.underlying9
  refine qJ ?_; repeat' (first | with_reducible apply qK | ((first | (with_reducible apply qI) | (with_reducible first | apply qB | apply qS | apply qR)) <;> try simp only [qM, qC, qF, qH, qD, qA, qG, reduceIte, seval, Int.cast_ofNat_Int, qN, qO, kG, wj, qE m68 zT, qE m68 qV, qE m8 zT, qE m8 qV, v1, v2, jW, bne_self_eq_false, beq_self_eq_true, Bool.not_true, gPick]))
  exact ⟨_, j + 1, by omega, (by simp only [List.forall_mem_cons, List.not_mem_nil, false_implies, implies_true, List.map, List.cons_append, List.nil_append, lk, Nat.reduceEqDiff, reduceIte, and_true, true_and]), rfl, by omega, s4.trans s48⟩
end
theorem zA3 (N : Nat) {h : GH} {a b : Option Addr} {c d : Nat} {T : List (List UInt8)} (r1 : RL 1 RTx h (.slice a T.length c) T) (r2 : RL 1 RTx h (.slice b T.length d) T) (hl : T.length ≤ 1000000000) :
    GTri Tryz.prog N 58 [.slice a T.length c, .slice b T.length d, .func (.func 11) #[] #[]] h fun v h' => v = .bool true ∧ h' = h := by
  refine xH Tryz.func58 rfl gf58 ok58 (by simp [Tryz.ntmps58]) ?_
  repeat' (first | (with_reducible first | apply qK | apply qQ) | ((with_reducible first | apply qB | apply qS | apply qR) <;> try simp only [qM, qC, qF, qH, qD, qA, qG, reduceIte, seval, Int.cast_ofNat_Int, qN, qO, qI1, bne_self_eq_false]))
  refine xL [1, 2, 15, 16] (fun (j : Nat) => [(17, .int .i64 (j : Int))]) (fun q j h' => T.length - j = q ∧ j ≤ T.length ∧ h' = h) T.length 0 (by simp [lk]) ⟨rfl, by omega, rfl⟩ ?_
  rintro _ j _ ⟨rfl, hj, rfl⟩
  by_cases hjl : j < T.length
  case neg =>
    have d0 : decide ((j : Int) < (T.length : Int)) = false := decide_eq_false (by omega)
    refine qJ ?_; repeat' (first | with_reducible apply qK | ((first | (with_reducible apply qI) | (with_reducible first | apply qB | apply qS | apply xX | apply qP)) <;> try simp only [qM, qC, qF, qH, qD, qA, qG, reduceIte, seval, Int.cast_ofNat_Int, qN, qO, qI1, d0]))
  have d0 : decide ((j : Int) < (T.length : Int)) = true := decide_eq_true (by omega)
  have wj : IntKind.i64.wrap ((j : Int) + 1) = ((j + 1 : Nat) : Int) := by rw [wrap64 (by omega) (by omega)]; omega
  obtain ⟨x, hx⟩ := yK hjl
  obtain ⟨ad, cs5, g1, g2, a7, c7, rfl, q1, _⟩ := RL.at (P := Tryz.prog) r1 Tryz.underlying36 qV hx
  obtain ⟨ad', cs6, g3, g4, a8, c8, rfl, q3, _⟩ := RL.at (P := Tryz.prog) r2 Tryz.underlying36 qV hx
  refine qJ ?_; repeat' (first | (with_reducible first | apply qK | apply qQ) | ((first | (with_reducible apply qI) | (with_reducible first | apply qB | apply qS | apply qR) | ((refine GTri.mono (qT1 _ _ q1 q3) ?_); rintro _ _ ⟨rfl, hh9⟩; replace hh9 := hh9.symm; subst hh9)) <;> try simp only [qM, qC, qF, qH, qD, qA, qG, reduceIte, seval, Int.cast_ofNat_Int, qN, qO, qI1, d0, wj, g1, g3, pF qV g2, pF qV g4, beq_self_eq_true, Bool.not_true]))
  exact ⟨_, j + 1, by omega, (by simp only [List.forall_mem_cons, List.not_mem_nil, false_implies, implies_true, List.map, List.cons_append, List.nil_append, lk, Nat.reduceEqDiff, reduceIte, and_true, true_and]), rfl, by omega⟩
theorem zA1 (N : Nat) {h : GH} {a b : Option Addr} {c d : Nat} {T : List (List UInt8)} (r1 : RL 1 RTx h (.slice a T.length c) T) (r2 : RL 1 RTx h (.slice b T.length d) T) (hl : T.length ≤ 1000000000) :
    GTri Tryz.prog N 17 [.slice a T.length c, .slice b T.length d] h fun v h' => v = .bool true ∧ h' = h := by
  refine xH Tryz.func17 rfl gf17 ok17 (by simp [Tryz.ntmps17]) ?_
  repeat' (first | with_reducible apply qK | ((first | (with_reducible first | apply qB | apply qP) | ((refine GTri.mono (zA3 _ r1 r2 hl) ?_); rintro _ _ ⟨rfl, hh9⟩; replace hh9 := hh9.symm; subst hh9)) <;> try simp only [qM, qC, qF, qH, qD, qA, qG, reduceIte, seval, Int.cast_ofNat_Int, qN, qO, fxRsm_17]))
theorem uV : type_of% (And.intro zP (And.intro rF (And.intro yC (And.intro zJ5 (And.intro yB (And.intro yW (And.intro uE (And.intro sW (And.intro zJ4 (And.intro xS (And.intro qE5 (And.intro jG (And.intro jS (And.intro gU (And.intro wO rs4))))))))))))))) := And.intro zP (And.intro rF (And.intro yC (And.intro zJ5 (And.intro yB (And.intro yW (And.intro uE (And.intro sW (And.intro zJ4 (And.intro xS (And.intro qE5 (And.intro jG (And.intro jS (And.intro gU (And.intro wO rs4))))))))))))))
def uL : Nat → List (Nat × List Nat) × List Nat
  | 7 => ([(0, []), (1, []), (2, []), (3, []), (4, []), (5, []), (7, []), (8, []), (6, [8]), (9, []), (10, []), (11, []), (12, []), (13, []), (14, []), (16, []), (17, []), (15, [17]), (18, []), (19, []), (20, []), (21, []), (22, []), (23, []), (24, [])], [0, 0, 3, 7, 15, 15, 63, 15, 15, 511, 1023, 2047, 4095, 8191, 8191, 32767, 8191, 8191, 262143, 524287, 1048575, 2097151, 4194303, 8388607, 16777215])
  | _ => ([], [])
theorem zA9 {M : List Nd} (ti : TI M) (id : List UInt8) (rt : Int) : ((rt < 0 ∨ (M.length : Int) ≤ rt)) ∨ ∃ (i e : Nat) (fs : List Nat) (nd : Nd), rt = (i : Int) ∧ Way M (qU id) i fs e nd ∧ fs.length ≤ 8 * (qU id).length := by
  by_cases h : rt < 0 ∨ (M.length : Int) ≤ rt
  · exact .inl h
  · obtain ⟨fs, e, x, w, hl⟩ := way_of ti id (i := rt.toNat) (by omega)
    exact .inr ⟨rt.toNat, e, fs, x, by omega, w, hl⟩
theorem c_PathProves (N : Nat) {h : GH} (t : TK h) {a : Option Addr} {c : Nat} {l : List Pt} (r : RL 3 RPut h (.slice a l.length c) l) (hl : l.length ≤ 1000000000) (hp : ∀ x ∈ l, x.1.1.length ≤ 1000000000 ∧ x.1.2.length ≤ 1000000000)
    {ai : Option Addr} {ci : Nat} {id : List UInt8} (ri : RB h (.slice ai id.length ci) id) (hid : id.length ≤ 1000000000) (root : Int) :
    GTri Tryz.prog N 4 [.slice a l.length c, .slice ai id.length ci, .int .i64 root] h fun v h' => v = .bool true := by
  refine xH Tryz.func4 rfl gf4 ok4 (by simp [Tryz.ntmps4]) ?_
  refine qJ ?_; repeat' (first | with_reducible apply qK | ((first | (with_reducible apply qI) | with_reducible apply qB) <;> try simp only [qM, qC, qF, qH, qD, qA, qG, reduceIte, seval, Int.cast_ofNat_Int, qN, qO, qL, qY, zA, zB, uV, uL]))
  refine (qZ2 N t r hl hp).mono ?_
  rintro _ h1 ⟨s1, k, kq, M, rt, v, cs, v2, cs2, rfl, hne, x1, y1, ti, ro, _⟩
  refine qJ ?_; iterate 7 (first | with_reducible apply qK | ((first | (with_reducible apply qI) | (with_reducible first | apply qB | apply qS | apply qR)) <;> try simp only [qM, qC, qF, qH, qD, qA, qG, reduceIte, seval, Int.cast_ofNat_Int, qN, qO, qL, qY, zA, zB, uV, uL, Bool.not_true]))
  refine GW.mono (Q := fun x e' h' => x = .normal ∧ h1 = h' ∧ lk e' 1 = .slice ai id.length ci ∧ (∃ rt' : Int, lk e' 2 = .int .i64 rt') ∧ lk e' 7 = .pointer (some ⟨k, 0, none⟩) ∧ lk e' 8 = .pointer (some ⟨kq, 0, none⟩)) ?_ ?_
  · refine qJ ?_; repeat' (first | with_reducible apply qK | ((first | (with_reducible apply qI) | (with_reducible first | apply qB | apply qS | apply qR) | ((with_reducible first | apply qN1 | apply want_f) <;> intro hb <;> (try simp only [hb]) <;> (try simp only [hpr] at hb))) <;> try simp only [qM, qC, qF, qH, qD, qA, qG, reduceIte, seval, Int.cast_ofNat_Int, qN, qO, qL, qY, zA, zB, uV, uL, gPick]))
    all_goals exact ⟨_, rfl⟩
  rintro _ e' _ ⟨rfl, rfl, q1, ⟨rt', q2⟩, q7, q8⟩
  rw [gG]
  refine tC [(1, .slice ai id.length ci), (2, .int .i64 rt'), (7, .pointer (some ⟨k, 0, none⟩)), (8, .pointer (some ⟨kq, 0, none⟩))] (by simp [q1, q2, q7, q8]) ?_
  clear q1 q2 q7 q8
  have hkl := vC id
  have ri1 := ri.hs s1
  have key : ∃ (hops : List Hp) (en : Pn (Pd 0)), en.kids = [] ∧ hops.length ≤ 3000 ∧ en.pf.length ≤ 100000000 ∧ en.id.length ≤ 100000000 ∧
      GTri Tryz.prog N 14 [.pointer (some ⟨k, 0, none⟩), .int .i64 rt', .slice ai id.length ci] h1 (fun u h' => HS h1 h' ∧ zA5 (RPd 0) h' u hops en) ∧
      ∀ h2, HS h1 h2 → GTri Tryz.prog N 15 [.pointer (some ⟨kq, 0, none⟩), .int .i64 rt', .slice ai id.length ci] h2 (fun u h' => HS h2 h' ∧ zA5 (RPd 0) h' u hops en) := by
    rcases zA9 ti id rt' with hb | ⟨i, e, fs, nd, rfl, w, hf⟩
    · exact ⟨[], noPart, rfl, by simp, by simp [noPart], by simp [noPart], c_ProveN N x1 hb ri1, fun h2 s2 => zM2 N (y1.hs s2) hb (ri1.hs s2) (by omega)⟩
    · have hnd := w.end.1
      have ok := x1.arr.ok.ok e nd hnd
      have hpf := ok.pf
      have hdp := ok.dp
      refine ⟨fs.map (dE M (qU id)), qL2 M nd, by unfold qL2; split <;> rfl, by rw [List.length_map]; omega, ?_, ?_, zI8 N x1 ti ri1 (by omega) w (by omega), fun h2 s2 => c_rProve N (y1.hs s2) ti (ri1.hs s2) (by omega) w hf⟩
      · unfold qL2
        split
        · simp
        · simp only; omega
      · unfold qL2
        split
        · rename_i hlf
          have := ti.leaf e nd hnd hlf
          simp only; omega
        · simp
  obtain ⟨hops, en, hk0, hh, hpf, hid2, kp, kr⟩ := key
  refine qJ ?_; repeat' (first | with_reducible apply qK | ((first | (with_reducible apply qI) | with_reducible apply qB) <;> try simp only [qM, qC, qF, qH, qD, qA, qG, reduceIte, seval, Int.cast_ofNat_Int, qN, qO, qL, qY, zA, zB, uV, uL]))
  refine kp.mono ?_
  rintro _ h2 ⟨s2, b, d, cs3, rfl, rh, rp⟩
  refine qJ ?_; repeat' (first | ((with_reducible apply qI) <;> try simp only [qM, qC, qF, qH, qD, qA, qG, reduceIte, seval, Int.cast_ofNat_Int, qN, qO, qL, qY, zA, zB, uV, uL]))
  refine (kr h2 s2).mono ?_
  rintro _ h3 ⟨s3, b', d', cs4, rfl, qh, qp⟩
  have hcs := rp.len
  have hcs' := qp.len
  refine qJ ?_; repeat' (first | ((with_reducible apply qI) <;> try simp only [qM, qC, qF, qH, qD, qA, qG, reduceIte, seval, Int.cast_ofNat_Int, qN, qO, qL, qY, zA, zB, uV, uL]))
  refine xG fun k11 h4 m4 s4 f4 n4 => ?_
  refine qJ ?_; repeat' (first | ((with_reducible apply qI) <;> try simp only [qM, qC, qF, qH, qD, qA, qG, reduceIte, seval, Int.cast_ofNat_Int, qN, qO, qL, qY, zA, zB, uV, uL]))
  refine xG fun k12 h5 m5 s5 f5 n5 => ?_
  have m45 := s5 _ _ m4
  refine qJ ?_; repeat' (first | ((with_reducible apply qI) <;> try simp only [qM, qC, qF, qH, qD, qA, qG, reduceIte, seval, Int.cast_ofNat_Int, qN, qO, qL, qY, zA, zB, uV, uL]))
  refine vJ m45 gX rfl (by decide) (by simp only [List.length_cons, hcs.1]) rfl (by simp only [List.all_cons, hcs.2.1]; rfl) fun h6 m6 f6 => ?_
  have kne : k11 ≠ k12 := yM m4 n5
  have m56 := (f6 k12 kne.symm).trans m5
  refine qJ ?_; repeat' (first | ((with_reducible apply qI) <;> try simp only [qM, qC, qF, qH, qD, qA, qG, reduceIte, seval, Int.cast_ofNat_Int, qN, qO, qL, qY, zA, zB, uV, uL]))
  refine vJ m56 gX rfl (by decide) (by simp only [List.length_cons, hcs'.1]) rfl (by simp only [List.all_cons, hcs'.2.1]; rfl) fun h7 m7 f7 => ?_
  have m67 := (f7 k11 kne).trans m6
  have s37 : HS h3 h7 := ((s4.trans s5).upd n4 f6).upd (s4.none_of n5) f7
  have s27 := s3.trans s37
  have S7 : HS h h7 := s1.trans (s2.trans s27)
  have fR : ∀ {h h' : GH}, HS h h' → ∀ cs x, RPd 0 h cs x → RPd 0 h' cs x := fun s cs x r => RPd.hs s 0 r
  have rp7 := rp.hs s27 (fR s27)
  have qp7 := qp.hs s37 (fR s37)
  have rh7 := RL.hs (R := RHp) s27 (fun _ _ q => q.hs s27) rh
  have qh7 := RL.hs (R := RHp) s37 (fun _ _ q => q.hs s37) qh
  have ri7 := ri.hs S7
  have t7 := t.hs S7
  have l11 := zU (P := Tryz.prog) (t := 28) m67 gX (by simp only [List.length_cons, hcs.1])
  have l12 := zU (P := Tryz.prog) (t := 28) m7 gX (by simp only [List.length_cons, hcs'.1])
  simp only at l11 l12
  have lx : ∀ {h8 : GH}, HS h7 h8 → wS Tryz.prog 28 h8 (.pointer (some ⟨k11, 0, none⟩)) = some (.agg (.slice b hops.length d :: cs3).toArray) := fun s => lE s l11
  have ly : ∀ {h8 : GH}, HS h7 h8 → wS Tryz.prog 28 h8 (.pointer (some ⟨k12, 0, none⟩)) = some (.agg (.slice b' hops.length d' :: cs4).toArray) := fun s => lE s l12
  refine qJ ?_; repeat' (first | with_reducible apply qK | ((first | (with_reducible apply qI) | with_reducible refine zH uL xQ (by kernel_rfl) ?_) <;> try simp only [qM, qC, qF, qH, qD, qA, qG, reduceIte, seval, Int.cast_ofNat_Int, qN, qO, qL, qY, zA, zB, uV, uL, l11, l12, gPick]))
  refine (c_rSame N fR ⟨b, d, cs3, rfl, rh7, rp7⟩ ⟨b', d', cs4, rfl, qh7, qp7⟩ hk0 (by omega)).mono ?_
  rintro _ h8 ⟨rfl, s8⟩
  refine qJ ?_; repeat' (first | ((with_reducible apply qI) <;> try simp only [qM, qC, qF, qH, qD, qA, qG, reduceIte, seval, Int.cast_ofNat_Int, qN, qO, qL, qY, zA, zB, uV, uL, lx s8, ly s8, gPick]))
  refine (zI7 N (t7.hs s8) (rp7.hs s8 (fR s8)) fR 4 hpf hid2 (ri7.hs s8) (RL.hs (R := RHp) s8 (fun _ _ q => q.hs s8) rh7) (by omega)).mono ?_
  rintro _ h9 ⟨s9, a9, c9, rfl, x9⟩
  have s89 := s8.trans s9
  refine qJ ?_; repeat' (first | ((with_reducible apply qI) <;> try simp only [qM, qC, qF, qH, qD, qA, qG, reduceIte, seval, Int.cast_ofNat_Int, qN, qO, qL, qY, zA, zB, uV, uL, lx s89, ly s89, gPick]))
  refine (c_rTexts N (qp7.hs s89 (fR s89)) fR 4 hpf hid2 (ri7.hs s89) (RL.hs (R := RHp) s89 (fun _ _ q => q.hs s89) qh7) (by omega)).mono ?_
  rintro _ h10 ⟨s10, a10, c10, rfl, x10⟩
  have s8_10 := s89.trans s10
  have x9' := RL.hs (R := RTx) s10 (fun _ _ q => q.hs s10) x9
  have hT1 : (zN4 4 id hops en).length ≤ hops.length + 1 := by unfold zN4; split <;> simp [sB]
  refine qJ ?_; repeat' (first | ((first | (with_reducible apply qI) | ((refine GTri.mono (zA1 _ x9' x10 (by omega)) ?_); rintro _ _ ⟨rfl, hh9⟩; replace hh9 := hh9.symm; subst hh9)) <;> try simp only [qM, qC, qF, qH, qD, qA, qG, reduceIte, seval, Int.cast_ofNat_Int, qN, qO, qL, qY, zA, zB, uV, uL, lx s8_10, ly s8_10, gPick]))
  refine (zJ0 N (rp7.hs s8_10 (fR s8_10)) fR 4 hpf hid2 (ri7.hs s8_10) (RL.hs (R := RHp) s8_10 (fun _ _ q => q.hs s8_10) rh7) (by omega)).mono ?_
  rintro _ h11 ⟨rfl, s11⟩
  have s8_11 := s8_10.trans s11
  refine qJ ?_; repeat' (first | ((with_reducible apply qI) <;> try simp only [qM, qC, qF, qH, qD, qA, qG, reduceIte, seval, Int.cast_ofNat_Int, qN, qO, qL, qY, zA, zB, uV, uL, lx s8_11, ly s8_11, gPick]))
  refine (qZ9 N (qp7.hs s8_11 (fR s8_11)) fR 4 hpf hid2 (ri7.hs s8_11) (RL.hs (R := RHp) s8_11 (fun _ _ q => q.hs s8_11) qh7) (by omega)).mono ?_
  rintro _ h12 ⟨rfl, s12⟩
  have s8_12 := s8_11.trans s12
  refine qJ ?_; repeat' (first | ((with_reducible apply qI) <;> try simp only [qM, qC, qF, qH, qD, qA, qG, reduceIte, seval, Int.cast_ofNat_Int, qN, qO, qL, qY, zA, zB, uV, uL, lx s8_12, ly s8_12, beq_self_eq_true, gPick]))
  refine (zM4 N (t7.hs s8_12)).mono ?_
  rintro _ h13 ⟨rfl, s13⟩
  refine qJ ?_; repeat' (first | ((first | (with_reducible apply qI) | with_reducible apply qP) <;> try simp only [qM, qC, qF, qH, qD, qA, qG, reduceIte, seval, Int.cast_ofNat_Int, qN, qO, qL, qY, zA, zB, uV, uL, gPick]))
end Go.Gh
namespace Go.Gh
open Go Go.Proofs Go.RowKit Go.ChangeShapes Go.WideShapes Go.ChangeAt
set_option linter.unusedVariables false
set_option linter.unusedSimpArgs false
set_option maxRecDepth 100000
set_option maxHeartbeats 1000000
abbrev puTy : Ty := .fcons .bs (.fcons .bs (.fcons (.i .i64) .fnil))
def puv (x : puTy.den) : Pt := ((x.1, x.2.1), x.2.2.1)
theorem pu_R {h : GH} {cs : List Value} {x : puTy.den} (r : puTy.R h cs x) : RPut h cs (puv x) := by
  obtain ⟨y1, y2, y3, y4⟩ := x
  obtain ⟨_, _, rfl, _, ⟨v1, rfl, r1, _⟩, _, _, rfl, _, ⟨v2, rfl, r2, _⟩, _, _, rfl, _, ⟨rfl, _⟩, rfl⟩ := r
  obtain ⟨a1, c1, rfl, _⟩ := r1.form
  obtain ⟨a2, c2, rfl, _⟩ := r2.form
  exact ⟨a1, c1, a2, c2, rfl, r1, r2⟩
theorem zF9 (x : puTy.den) : (puv x).1.1.length + (puv x).1.2.length + 3 = puTy.bulk x := by
  obtain ⟨y1, y2, y3, y4⟩ := x
  show List.length y1 + List.length y2 + 3 = (List.length y1 + 1) + ((List.length y2 + 1) + (1 + 0))
  omega
theorem qU5 {α : Type} (g : α → Nat) : ∀ {l : List α} {x : α}, x ∈ l → g x ≤ (l.map g).sum
  | y :: l, x, h => by
    rcases List.mem_cons.1 h with rfl | h
    · simp only [List.map_cons, List.sum_cons]; omega
    · have := qU5 g h
      simp only [List.map_cons, List.sum_cons]; omega
section
variable {H : Type} {enc : TypeId × Value → H} {W : World} {base b0 : Nat} {v : Value} {d : DataW H} {ps : List MemPlace} {r : Reach}
theorem arg_puts {t : TypeId} (ok : Ty.ok Tryz.prog (.sl puTy) t = true) (h : DataW.Trod enc Tryz.prog W base (fun _ => true) true t v d ps) (hok : Value.okWide Tryz.prog W r b0 t v) :
    ∃ (l : List Pt) (a : Option Addr) (c : Nat), up W.heap.size v = .slice a l.length c ∧ RL 3 RPut (h0 W) (.slice a l.length c) l ∧ ∀ B A, BulkOk B A → l.length ≤ B d ∧ ∀ x ∈ l, x.1.1.length ≤ B d ∧ x.1.2.length ≤ B d := by
  obtain ⟨l, a, c, e, R, _, hb, _⟩ := arg_sl puTy ok h hok
  have hl : (l.map puv).length = l.length := List.length_map _
  refine ⟨l.map puv, a, c, by rw [hl]; exact e, by rw [hl]; exact RL.map (R' := RPut) R _ fun cs x hx => pu_R hx, fun B A k => ?_⟩
  have h1 := hb B A k
  have h2 := zF7 puTy.bulk (fun x => by rw [← zF9 x]; omega) l
  refine ⟨by rw [hl]; omega, fun x hx => ?_⟩
  obtain ⟨z, hz, rfl⟩ := List.mem_map.1 hx
  have h3 := qU5 puTy.bulk hz
  have h4 := zF9 z
  omega
end
end Go.Gh
