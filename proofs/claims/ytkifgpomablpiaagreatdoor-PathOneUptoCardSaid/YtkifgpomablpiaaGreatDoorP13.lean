/- Parts of this claim's proof, 13. No statement of the claim stands here. -/
import Derived.Test.YtkifgpomablpiaaGreatDoorP12
namespace Go.Gh
open Go Go.Proofs Go.RowKit
set_option linter.unusedVariables false
set_option linter.unusedSimpArgs false
set_option maxRecDepth 100000
set_option maxHeartbeats 4000000
theorem rQ : type_of% (And.intro zR (And.intro fC (And.intro kU (And.intro vW (And.intro xW (And.intro kC (And.intro wS rs51))))))) := And.intro zR (And.intro fC (And.intro kU (And.intro vW (And.intro xW (And.intro kC (And.intro wS rs51))))))
theorem wA : type_of% (And.intro zR (And.intro pO (And.intro fC (And.intro vX (And.intro kU (And.intro qD2 (And.intro qD1 (And.intro vW (And.intro xW (And.intro kC (And.intro jL (And.intro wS rs14)))))))))))) := And.intro zR (And.intro pO (And.intro fC (And.intro vX (And.intro kU (And.intro qD2 (And.intro qD1 (And.intro vW (And.intro xW (And.intro kC (And.intro jL (And.intro wS rs14)))))))))))
def xR : Nat → List (Nat × List Nat) × List Nat
  | 9 => ([(0, []), (1, []), (2, []), (4, []), (5, []), (6, []), (3, [6]), (8, []), (9, []), (7, []), (10, []), (11, []), (12, []), (13, [])], [0, 0, 2, 7, 0, 0, 32, 127, 15, 271, 1023, 2047, 4095, 8191])
  | 11 => ([(0, []), (1, []), (2, []), (3, []), (4, []), (5, [])], [0, 1, 0, 4, 3, 31])
  | 14 => ([(0, []), (1, []), (2, []), (3, []), (4, []), (5, []), (6, []), (7, []), (8, [1, 3, 5]), (9, []), (10, [1]), (11, []), (12, []), (13, [])], [0, 1, 0, 4, 0, 16, 0, 0, 192, 508, 1020, 2047, 4095, 8191])
  | _ => ([], [])
def ofN {K : Type} (nd : Nd) : Pn K := if nd.lf = true then ⟨1, nd.si, 0, 0, nd.id, nd.ky, [], [], [], []⟩ else ⟨2, 0, nd.dp, nd.nw, [], [], nd.pf, [], [], []⟩
def endN {K : Type} (M : List Nd) (nd : Nd) : Pn K := if nd.lf = true then ⟨1, nd.si, 0, 0, nd.id, nd.ky, [], [], [], []⟩ else ⟨2, 0, nd.dp, nd.nw, [], [], nd.pf, (kJ M nd.l).hs, (kJ M nd.r).hs, []⟩
def qD5 (M : List Nd) (row : List UInt8) (p : Nat) : Hp := ((kJ M p).dp, (kJ M p).nw, (kJ M (if xI row (kJ M p).dp = 1 then (kJ M p).l else (kJ M p).r)).hs)
theorem RL.nilk {α : Type} {es : Nat} {R : GH → List Value → α → Prop} {h h' : GH} {v : Value} (r : RL es R h v []) : RL es R h' v [] := by
  rcases r with ⟨c, e, _⟩ | ⟨ad, c, cs, e, h2, h3, _, _⟩
  · exact .inl ⟨c, e, rfl⟩
  · refine .inr ⟨ad, c, [], e, by simp [xT], h3, fun i x hx => by simp at hx, .inl (by simp)⟩
theorem RPn.bx {K : Type} {R : GH → List Value → K → Prop} {h h' : GH} (f : ∀ {v l}, RB h v l → RB h' v l) {cs : List Value} {p : Pn K} (hk : p.kids = []) (r : RPn R h cs p) : RPn R h' cs p := by
  obtain ⟨a1, c1, a2, c2, a3, c3, a4, c4, a5, c5, a6, c6, rfl, r1, r2, r3, r4, r5, r6⟩ := r
  rw [hk] at r6
  exact ⟨a1, c1, a2, c2, a3, c3, a4, c4, a5, c5, a6, c6, rfl, f r1, f r2, f r3, f r4, f r5, by rw [hk]; exact r6.nilk⟩
def PrvR {K : Type} (R : GH → List Value → K → Prop) (h' : GH) (u : Value) (hops : List Hp) (en : Pn K) : Prop := ∃ b d cs, u = .agg (.slice b hops.length d :: cs).toArray ∧ RL 3 RHp h' (.slice b hops.length d) hops ∧ RPn R h' cs en
section
variable {h0 h h' : GH} {k : Nat} {v : Value} {cs : List Value} {M : List Nd} {K : Type} {R : GH → List Value → K → Prop}
theorem c_Of (N : Nat) {cn : List Value} {nd : Nd} (r : RNd h cn nd) : GTri Tryz.prog N 51 [.agg cn.toArray] h fun u h' => HS h h' ∧ ∃ cs, u = .agg cs.toArray ∧ RPn R h' cs (ofN nd) := by
  obtain ⟨a1, c1, a2, c2, a3, c3, a4, c4, rfl, r1, r2, r3, r4⟩ := r
  unfold ofN
  refine xN Tryz.func51 rfl gf51 ok51 (by simp [Tryz.ntmps51]) ?_
  repeat' (first | with_reducible apply qK | (with_reducible apply qD <;> try simp only [qM, qB, qE, qG, qC, qA, qF, reduceIte, seval, Int.cast_ofNat_Int, qN, qO, rQ]))
  refine uL rfl fun k1 h1 m1 s1 f1 n1 => ?_
  simp only [Nd.cs] at m1
  refine qJ ?_; repeat' (first | ((with_reducible apply qI) <;> try simp only [qM, qB, qE, qG, qC, qA, qF, reduceIte, seval, Int.cast_ofNat_Int, qN, qO, rQ]))
  refine xQ fun k2 h2 m2 s2 f2 n2 => ?_
  have m12 := s2 _ _ m1
  have S2 := s1.trans s2
  have n2h : h k2 = none := s1.none_of n2
  cases hlf : nd.lf
  · rw [hlf] at m12
    rw [if_neg (by decide)]
    refine qJ ?_; repeat' (first | with_reducible apply qK | ((first | (with_reducible apply qI) | (with_reducible first | apply qD | apply qS | apply qP)) <;> try simp only [qM, qB, qE, qG, qC, qA, qF, reduceIte, seval, Int.cast_ofNat_Int, qN, qO, rQ, qH m12 rY, qH m12 qV, qH m12 zZ, xC, xU, vC, Shape.pl, List.all_cons, List.all_nil, zG]))
    refine wC m2 lI rfl (by decide) rfl rfl rfl fun h3 m3 f3 => ?_
    simp only [vcells] at m3
    have ld := zQ (P := Tryz.prog) (t := 26) m3 lI rfl
    refine qJ ?_; repeat' (first | ((first | (with_reducible apply qI) | with_reducible apply qQ) <;> try simp only [qM, qB, qE, qG, qC, qA, qF, reduceIte, seval, Int.cast_ofNat_Int, qN, qO, rQ, tI, ld]))
    exact ⟨S2.upd n2h f3, _, rfl, none, 0, none, 0, a3, c3, none, 0, none, 0, none, 0, rfl, RB.nil _, RB.nil _, (r3.hs S2).hx m2 rfl (zE f3), RB.nil _, RB.nil _, RL.nil _⟩
  · rw [hlf] at m12
    rw [if_pos rfl]
    refine qJ ?_; repeat' (first | with_reducible apply qK | ((first | (with_reducible apply qI) | (with_reducible first | apply qD | apply qS)) <;> try simp only [qM, qB, qE, qG, qC, qA, qF, reduceIte, seval, Int.cast_ofNat_Int, qN, qO, rQ, qH m12 rY, qH m12 qV, qH m12 zZ, xC, xU, vC, Shape.pl, List.all_cons, List.all_nil, zG]))
    refine wC m2 lI rfl (by decide) rfl rfl rfl fun h3 m3 f3 => ?_
    simp only [vcells] at m3
    have ld := zQ (P := Tryz.prog) (t := 26) m3 lI rfl
    refine qJ ?_; repeat' (first | ((first | (with_reducible apply qI) | with_reducible apply qQ) <;> try simp only [qM, qB, qE, qG, qC, qA, qF, reduceIte, seval, Int.cast_ofNat_Int, qN, qO, rQ, tI, ld]))
    exact ⟨S2.upd n2h f3, _, rfl, a1, c1, a2, c2, none, 0, none, 0, none, 0, none, 0, rfl, (r1.hs S2).hx m2 rfl (zE f3), (r2.hs S2).hx m2 rfl (zE f3), RB.nil _, RB.nil _, RB.nil _, RL.nil _⟩
theorem RHp.hx {j : Nat} {h h' : GH} {cs : List Value} {x : Hp} (r : RHp h cs x) {B : GB} (m : h j = some B) (hB : B.cells.all uJ = true) (y : HX j h h') : RHp h' cs x := by
  obtain ⟨a, c, e, q⟩ := r
  exact ⟨a, c, e, q.hx m hB y⟩
theorem c_Prove (N : Nat) (x : AA h0 h k v cs M) (ti : TI M) {a : Option Addr} {c : Nat} {id : List UInt8} (ri : RB h (.slice a id.length c) id) (hid : id.length ≤ 140737488355328) {i e : Nat} {fs : List Nat} {nd : Nd} (w : Way M (qY id) i fs e nd) (hfs : fs.length ≤ 3000) :
    GTri Tryz.prog N 14 [.pointer (some ⟨k, 0, none⟩), .int .i64 (i : Int), .slice a id.length c] h fun u h' => HS h h' ∧ PrvR R h' u (fs.map (qD5 M (qY id))) (endN M nd) := by
  obtain ⟨w0, wf⟩ := w.at
  obtain ⟨we, ws⟩ := w.end
  have hkl := vM id
  refine xN Tryz.func14 rfl gf14 ok14 (by simp [Tryz.ntmps14]) ?_
  repeat' (first | with_reducible apply qK | (with_reducible apply qD <;> try simp only [qM, qB, qE, qG, qC, qA, qF, reduceIte, seval, Int.cast_ofNat_Int, qN, qO, qL, qZ, zA, zB, wA, xR]))
  refine xQ fun k6 h6 m6 s6 f6 n6 => ?_
  refine qJ ?_; repeat' (first | with_reducible apply qK | ((first | (with_reducible apply qI) | with_reducible apply qD) <;> try simp only [qM, qB, qE, qG, qC, qA, qF, reduceIte, seval, Int.cast_ofNat_Int, qN, qO, qL, qZ, zA, zB, wA, xR]))
  refine (qC7 N h6 (ri.hs s6) rfl).mono ?_
  rintro _ h7 ⟨s7, ar, cr, rfl, rr, _⟩
  refine qJ ?_; repeat' (first | with_reducible apply qK | ((first | (with_reducible apply qI) | with_reducible apply qD) <;> try simp only [qM, qB, qE, qG, qC, qA, qF, reduceIte, seval, Int.cast_ofNat_Int, qN, qO, qL, qZ, zA, zB, wA, xR]))
  refine xQ fun k8 h9 m9 s9 f9 n9 => ?_
  have n8h : h k8 = none := (s6.trans s7).none_of n9
  have k68 : k6 ≠ k8 := yS (s7 _ _ m6) n9
  have S9 : HS h h9 := (s6.trans s7).trans s9
  have m69 := s9 _ _ (s7 _ _ m6)
  have sb : HS h (jX k8 h9) := mN S9 n8h
  have rb : RB (jX k8 h9) (.slice ar (qY id).length cr) (qY id) := rr.hs (mN s9 n9)
  have sb9 : HS (jX k8 h9) h9 := dP k8 h9
  have m6b := (dO h9 _ k68).trans m69
  have nb8 : jX k8 h9 k8 = none := lO k8 h9
  generalize jX k8 h9 = hb at sb rb sb9 m6b nb8
  refine qJ ?_; repeat' (first | with_reducible apply qR | ((with_reducible apply qI) <;> try simp only [qM, qB, qE, qG, qC, qA, qF, reduceIte, seval, Int.cast_ofNat_Int, qN, qO, qL, qZ, zA, zB, wA, xR]))
  refine xS [0, 6, 7, 8] (fun (s : Nat × Nat) => [(1, .int .i64 (s.2 : Int))]) (fun q s h' => fs.length - s.1 = q ∧ s.1 ≤ fs.length ∧ HS hb h' ∧ (fs ++ [e])[s.1]? = some s.2 ∧ ∃ (af : Option Addr) (cf : Nat) (cells : List Value), h' k8 = some ⟨[.slice af s.1 cf, .int .i64 0, .slice none 0 0, .slice none 0 0, .int .i64 0, .int .i64 0, .slice none 0 0, .int .i64 0, .slice none 0 0, .slice none 0 0, .slice none 0 0], 0, true, false⟩ ∧
      OWNC 3 hb h' (.slice af s.1 cf) s.1 cells ∧ cells.all uJ = true ∧ ∀ (t : Nat) y, t < s.1 → (fs.map (qD5 M (qY id)))[t]? = some y → RHp h' ((cells.drop (t * 3)).take 3) y) fs.length (0, i) (by simp [lk]) ⟨rfl, Nat.zero_le _, sb9, w0, none, 0, [], m9, OWNC.nil _ _ _, rfl, fun t y ht => by simp at ht⟩ ?_
  rintro _ ⟨j, p⟩ h10 ⟨rfl, hj, s10, hp, af, cf, cells, m10, ow, hu, hel⟩
  simp only at hj hp m10 ow hel
  have hpM : ∃ y, M[p]? = some y ∧ (j < fs.length → fs[j]? = some p ∧ uW (qY id) y = false) ∧ (j = fs.length → e = p ∧ nd = y) := by
    by_cases hjl : j < fs.length
    · rw [List.getElem?_append_left hjl] at hp
      obtain ⟨y, q1, q2, _⟩ := wf j p hp
      exact ⟨y, q1, fun _ => ⟨hp, q2⟩, fun q => by omega⟩
    · have : j = fs.length := by omega
      subst this
      rw [List.getElem?_append_right (by omega), Nat.sub_self] at hp
      cases hp
      exact ⟨nd, we, fun q => by omega, fun _ => ⟨rfl, rfl⟩⟩
  obtain ⟨y, hy, yg, ye⟩ := hpM
  have x10 := (x.hs sb).hs s10
  have oky := x10.arr.ok.ok p y hy
  have hpf := oky.pf
  have hdpy := oky.dp
  refine qJ ?_; repeat' (first | (with_reducible first | apply qK | apply qR) | ((first | (with_reducible apply qI) | with_reducible apply qD) <;> try simp only [qM, qB, qE, qG, qC, qA, qF, reduceIte, seval, Int.cast_ofNat_Int, qN, qO, qL, qZ, zA, zB, wA, xR]))
  refine (c_Node N x10 hy).mono ?_
  rintro _ h11 ⟨s11, cn, rfl, r11⟩
  obtain ⟨a1, c1, a2, c2, a3, c3, a4, c4, rfl, r1, r2, r3, r4⟩ := r11
  refine qJ ?_; repeat' (first | ((with_reducible apply qI) <;> try simp only [qM, qB, qE, qG, qC, qA, qF, reduceIte, seval, Int.cast_ofNat_Int, qN, qO, qL, qZ, zA, zB, wA, xR]))
  refine xQ fun k12 h12 m12 s12 f12 n12 => ?_
  refine qJ ?_; repeat' (first | ((with_reducible apply qI) <;> try simp only [qM, qB, qE, qG, qC, qA, qF, reduceIte, seval, Int.cast_ofNat_Int, qN, qO, qL, qZ, zA, zB, wA, xR]))
  refine vO m12 wB rfl (by decide) rfl rfl rfl fun h13 m13 f13 => ?_
  have ld0 := zQ (P := Tryz.prog) (t := 92) m13 wB rfl
  simp only [Nd.cs] at m13
  have S13 := s11.trans (s12.upd n12 f13)
  have m8b := S13 _ _ m10
  have z : ∀ {v l}, RB h11 v l → RB h13 v l := fun r => r.hs (s12.upd n12 f13)
  have q3 := z r3
  have rn : RNd h13 (y.cs (.slice a1 y.id.length c1) (.slice a2 y.ky.length c2) (.slice a3 y.pf.length c3) (.slice a4 y.hs.length c4)) y := ⟨a1, c1, a2, c2, a3, c3, a4, c4, rfl, z r1, z r2, z r3, z r4⟩
  have rb13 := (rb.hs s10).hs S13
  have x13 := x10.hs S13
  have k812 : k12 ≠ k8 := (yS (s11 _ _ m10) n12).symm
  have n12h : h10 k12 = none := s11.none_of n12
  by_cases hjl : j < fs.length
  case neg =>
    obtain ⟨rfl, rfl⟩ := ye (by omega)
    obtain rfl : j = fs.length := by omega
    have elen : (fs.map (qD5 M (qY id))).length = fs.length := by simp
    unfold endN
    cases hlf : nd.lf
    case true =>
      rw [hlf] at m13
      rw [if_pos rfl]
      refine qJ ?_; repeat' (first | with_reducible apply qK | ((first | (with_reducible apply qI) | (with_reducible first | apply qD | apply qS | apply qP)) <;> try simp only [qM, qB, qE, qG, qC, qA, qF, reduceIte, seval, Int.cast_ofNat_Int, qN, qO, qL, qZ, zA, zB, wA, xR, qH m13 rY, ld0]))
      refine (c_Of (R := R) N rn).mono ?_
      rintro _ h14 ⟨s14, cs14, rfl, rp14⟩
      have lp := rp14.len
      have m814 := s14 _ _ m8b
      have m1314 := s14 _ _ m13
      refine qJ ?_; repeat' (first | ((with_reducible apply qI) <;> try simp only [qM, qB, qE, qG, qC, qA, qF, reduceIte, seval, Int.cast_ofNat_Int, qN, qO, qL, qZ, zA, zB, wA, xR]))
      refine qO8 m814 rfl lI (by decide) (by simpa [vcells] using lp.1) (by simp) (by simpa [vcells] using lp.2.1) fun h15 m15 f15 => ?_
      have e15 : yT [.slice af fs.length cf, .int .i64 0, .slice none 0 0, .slice none 0 0, .int .i64 0, .int .i64 0, .slice none 0 0, .int .i64 0, .slice none 0 0, .slice none 0 0, .slice none 0 0] 1 (vcells (.agg cs14.toArray)) = .slice af fs.length cf :: cs14 := by
        simp only [yT, vcells, List.take_succ_cons, List.take_zero, List.cons_append, List.nil_append, lp.1, List.drop_succ_cons, List.drop_zero, Nat.reduceAdd, List.append_nil]
        try simp
      simp only [e15] at m15
      have m1315 := (f15 k12 k812).trans m1314
      have m6_15 : h15 k6 = _ := (f15 k6 k68).trans (s14 _ _ (S13 _ _ (s10 _ _ m6b)))
      have ld15 := zQ (P := Tryz.prog) (t := 28) m15 tY (by simp only [List.length_cons, lp.1])
      refine qJ ?_; repeat' (first | with_reducible apply qK | ((first | (with_reducible apply qI) | (with_reducible first | apply qD | apply qS | apply qP)) <;> try simp only [qM, qB, qE, qG, qC, qA, qF, reduceIte, seval, Int.cast_ofNat_Int, qN, qO, qL, qZ, zA, zB, wA, xR, qH m1315 rY, ld15]))
      refine vO m6_15 tY rfl (by decide) (by simp only [List.length_cons, lp.1]) rfl (by simp only [List.all_cons, lp.2.1]; rfl) fun h16 m16 f16 => ?_
      have ld16 := zQ (P := Tryz.prog) (t := 28) m16 tY (by simp only [List.length_cons, lp.1])
      refine qJ ?_; repeat' (first | ((first | (with_reducible apply qI) | with_reducible apply qQ) <;> try simp only [qM, qB, qE, qG, qC, qA, qF, reduceIte, seval, Int.cast_ofNat_Int, qN, qO, qL, qZ, zA, zB, wA, xR, tI, ld16]))
      have zb : ∀ {v l}, RB h14 v l → RB h16 v l := fun r => (r.hx m814 rfl (zE f15)).hx m6_15 rfl (zE f16)
      have zh : ∀ {cs y}, RHp h14 cs y → RHp h16 cs y := fun r => (r.hx m814 rfl (zE f15)).hx m6_15 rfl (zE f16)
      have eof : (ofN nd : Pn K) = ⟨1, nd.si, 0, 0, nd.id, nd.ky, [], [], [], []⟩ := by unfold ofN; rw [if_pos hlf]
      rw [eof] at rp14
      have ow2 := (((ow.hs S13).hs s14).by5 m814 f15).by5 m6_15 f16
      have rl := OWNC.rl (R := RHp) (l := fs.map (qD5 M (qY id))) (by rw [elen]; exact ow2) (fun t y hy => zh (((hel t y (by have := (List.getElem?_eq_some_iff.1 hy).1; simp at this; omega) hy).hs S13).hs s14))
      refine ⟨(((sb.trans s10).trans (S13.trans s14)).upd n8h f15).upd n6 f16, af, cf, cs14, by rw [elen], ?_, RPn.bx zb rfl rp14⟩
      rw [elen]; exact rl
    have hnb : dF (qY id) nd.pf (nd.dp : Int) = false := by
      unfold uW at ws
      rw [hlf] at ws
      simpa using ws
    have fi := ti.fork e nd we hlf
    obtain ⟨yl, hyl, _⟩ := fi.kl
    obtain ⟨yr, hyr, _⟩ := fi.kr
    rw [hlf] at m13
    rw [if_neg (by decide), yM hyl, yM hyr]
    refine qJ ?_; repeat' (first | with_reducible apply qK | ((first | (with_reducible apply qI) | (with_reducible first | apply qD | apply qS | apply qP) | ((refine GTri.mono (jS _ _ rb13 q3 (by omega) (by omega) _) ?_); rintro _ _ ⟨rfl, hh9⟩; replace hh9 := hh9.symm; subst hh9)) <;> try simp only [qM, qB, qE, qG, qC, qA, qF, reduceIte, seval, Int.cast_ofNat_Int, qN, qO, qL, qZ, zA, zB, wA, xR, qH m13 rY, qH m13 qV, qH m13 zZ, ld0, hnb]))
    refine (c_Of (R := R) N rn).mono ?_
    rintro _ h14 ⟨s14, cs14, rfl, rp14⟩
    have eof : (ofN nd : Pn K) = ⟨2, 0, nd.dp, nd.nw, [], [], nd.pf, [], [], []⟩ := by unfold ofN; rw [hlf]; rfl
    rw [eof] at rp14
    obtain ⟨e1, d1, e2, d2, e3, d3, e4, d4, e5, d5, e6, d6, rfl, y1, y2, y3, y4, y5, y6⟩ := rp14
    have m814 := s14 _ _ m8b
    have m1314 := s14 _ _ m13
    refine qJ ?_; repeat' (first | ((with_reducible apply qI) <;> try simp only [qM, qB, qE, qG, qC, qA, qF, reduceIte, seval, Int.cast_ofNat_Int, qN, qO, qL, qZ, zA, zB, wA, xR]))
    refine qO8 m814 rfl lI (by decide) rfl (by simp) rfl fun h15 m15 f15 => ?_
    simp only [yT, vcells, Pn.cs, List.take_succ_cons, List.take_zero, List.drop_succ_cons, List.drop_zero, List.cons_append, List.nil_append, List.length_cons, List.length_nil, Nat.reduceAdd] at m15
    have m1315 := (f15 k12 k812).trans m1314
    have x15 := (x13.hs s14).upd m814 rfl (fun q => by rw [← q, x10.obj] at m10; cases m10) f15
    have S15 : HS h h15 := ((sb.trans s10).trans (S13.trans s14)).upd n8h f15
    have zb15 : ∀ {v l}, RB h14 v l → RB h15 v l := fun r => r.hx m814 rfl (zE f15)
    have zh15 : ∀ {cs y}, RHp h14 cs y → RHp h15 cs y := fun r => r.hx m814 rfl (zE f15)
    refine qJ ?_; repeat' (first | with_reducible apply qK | ((first | (with_reducible apply qI) | (with_reducible first | apply qD | apply qS) | with_reducible refine zF xR xM (by kernel_rfl) ?_) <;> try simp only [qM, qB, qE, qG, qC, qA, qF, reduceIte, seval, Int.cast_ofNat_Int, qN, qO, qL, qZ, zA, zB, wA, xR, qH m1315 rY, qH m1315 zZ]))
    refine (mZ N x15 hyl).mono ?_
    rintro _ h16 ⟨s16, al, cl, rfl, rl16⟩
    have m1316 := s16 _ _ m1315
    have x16 := x15.hs s16
    refine qJ ?_; repeat' (first | ((with_reducible apply qI) <;> try simp only [qM, qB, qE, qG, qC, qA, qF, reduceIte, seval, Int.cast_ofNat_Int, qN, qO, qL, qZ, zA, zB, wA, xR, qH m1316 rY, qH m1316 zZ]))
    refine (mZ N x16 hyr).mono ?_
    rintro _ h17 ⟨s17, ar2, cr2, rfl, rr17⟩
    have m1317 := s17 _ _ m1316
    have m817 := s17 _ _ (s16 _ _ m15)
    refine qJ ?_; repeat' (first | ((with_reducible apply qI) <;> try simp only [qM, qB, qE, qG, qC, qA, qF, reduceIte, seval, Int.cast_ofNat_Int, qN, qO, qL, qZ, zA, zB, wA, xR, qH m1317 rY, qH m1317 zZ]))
    refine zU m817 qV rfl (by simp) rfl rfl fun h18 m18 f18 => ?_
    simp only [List.set_cons_zero, List.set_cons_succ] at m18
    have m1318 := (f18 k12 k812).trans m1317
    refine qJ ?_; repeat' (first | ((with_reducible apply qI) <;> try simp only [qM, qB, qE, qG, qC, qA, qF, reduceIte, seval, Int.cast_ofNat_Int, qN, qO, qL, qZ, zA, zB, wA, xR, qH m1318 rY, qH m1318 zZ]))
    refine zU m18 qV rfl (by simp) rfl rfl fun h19 m19 f19 => ?_
    simp only [List.set_cons_zero, List.set_cons_succ] at m19
    have m1319 := (f19 k12 k812).trans m1318
    have m6_19 : h19 k6 = _ := (f19 k6 k68).trans ((f18 k6 k68).trans (s17 _ _ (s16 _ _ ((f15 k6 k68).trans (s14 _ _ (S13 _ _ (s10 _ _ m6b)))))))
    have ld19 := zQ (P := Tryz.prog) (t := 28) m19 tY rfl
    refine qJ ?_; repeat' (first | with_reducible apply qK | ((first | (with_reducible apply qI) | with_reducible apply qD) <;> try simp only [qM, qB, qE, qG, qC, qA, qF, reduceIte, seval, Int.cast_ofNat_Int, qN, qO, qL, qZ, zA, zB, wA, xR, qH m1319 rY, qH m1319 zZ, ld19]))
    refine vO m6_19 tY rfl (by decide) rfl rfl rfl fun h20 m20 f20 => ?_
    have ld20 := zQ (P := Tryz.prog) (t := 28) m20 tY rfl
    refine qJ ?_; repeat' (first | ((first | (with_reducible apply qI) | with_reducible apply qQ) <;> try simp only [qM, qB, qE, qG, qC, qA, qF, reduceIte, seval, Int.cast_ofNat_Int, qN, qO, qL, qZ, zA, zB, wA, xR, tI, ld20]))
    have zc : ∀ {v l}, RB h17 v l → RB h20 v l := fun r => ((r.hx m817 rfl (zE f18)).hx m18 rfl (zE f19)).hx m6_19 rfl (zE f20)
    have zhc : ∀ {cs y}, RHp h17 cs y → RHp h20 cs y := fun r => ((r.hx m817 rfl (zE f18)).hx m18 rfl (zE f19)).hx m6_19 rfl (zE f20)
    have zd : ∀ {v l}, RB h14 v l → RB h20 v l := fun r => zc (((zb15 r).hs s16).hs s17)
    have ow2 := (((((((ow.hs S13).hs s14).by5 m814 f15).hs s16).hs s17).by5 m817 f18).by5 m18 f19).by5 m6_19 f20
    have rl := OWNC.rl (R := RHp) (l := fs.map (qD5 M (qY id))) (by rw [elen]; exact ow2) (fun t y hy => zhc (((zh15 (((hel t y (by have := (List.getElem?_eq_some_iff.1 hy).1; simp at this; omega) hy).hs S13).hs s14)).hs s16).hs s17))
    have S17 := (S15.trans s16).trans s17
    have n8h' : h k8 = none := n8h
    refine ⟨((S17.upd n8h f18).upd n8h f19).upd n6 f20, af, cf, _, by rw [elen]; rfl, ?_, e1, d1, e2, d2, e3, d3, al, cl, ar2, cr2, e6, d6, rfl, zd y1, zd y2, zd y3, zc (rl16.hs s17), zc rr17, y6.nilk⟩
    rw [elen]; exact rl
  obtain ⟨hfj, hst⟩ := yg hjl
  obtain ⟨hlf, hbg⟩ := vI hst
  have fi := ti.fork p y hy hlf
  obtain ⟨yl, hyl, _⟩ := fi.kl
  obtain ⟨yr, hyr, _⟩ := fi.kr
  rw [hlf] at m13
  obtain ⟨y', hy', _, hkid⟩ := wf j p hfj
  rw [hy] at hy'
  cases hy'
  have ej := ow.len
  have hgx : (fs.map (qD5 M (qY id)))[j]? = some (qD5 M (qY id) p) := by rw [List.getElem?_map, hfj]; rfl
  have wo := qH (P := Tryz.prog) (t := 23) m8b dW (o := 0)
  cases hbt : (xI (qY id) y.dp == 1)
  · have hbq : (xI (qY id) y.dp = 1) = False := by simpa using hbt
    have ehop : qD5 M (qY id) p = ((y.dp : Int), (y.nw : Int), yr.hs) := by
      unfold qD5
      rw [yM hy]
      simp only [hbq, if_true, if_false]
      rw [yM hyr]
    have ekid : kX (qY id) y = y.l := by unfold kX; simp only [hbq, if_true, if_false]
    rw [ekid] at hkid
    refine qJ ?_; repeat' (first | with_reducible apply qK | ((first | (with_reducible apply qI) | (with_reducible first | apply qD | apply qS | apply qP) | with_reducible refine zF xR xM (by kernel_rfl) ?_ | ((refine GTri.mono (jS _ _ rb13 q3 (by omega) (by omega) _) ?_); rintro _ _ ⟨rfl, hh9⟩; replace hh9 := hh9.symm; subst hh9) | ((refine GTri.mono (kR _ _ rb13 y.dp (by omega)) ?_); rintro _ _ ⟨rfl, hh9⟩; replace hh9 := hh9.symm; subst hh9)) <;> try simp only [qM, qB, qE, qG, qC, qA, qF, reduceIte, seval, Int.cast_ofNat_Int, qN, qO, qL, qZ, zA, zB, wA, xR, qH m13 rY, qH m13 qV, qH m13 zZ, qH m8b dW, ld0, hbg, hbt]))
    refine (mZ N x13 hyr).mono ?_
    rintro _ h14 ⟨s14, ah, ch, rfl, rh14⟩
    have m1314 := s14 _ _ m13
    have m814 := s14 _ _ m8b
    refine qJ ?_; repeat' (first | ((with_reducible apply qI) <;> try simp only [qM, qB, qE, qG, qC, qA, qF, reduceIte, seval, Int.cast_ofNat_Int, qN, qO, qL, qZ, zA, zB, wA, xR, qH m1314 zZ, qH m814 dW, xC, xU, vC, Shape.pl, List.all_cons, List.all_nil, zG]))
    refine rB el23 rfl rfl (by decide) (by decide) rfl fun k15 h15 b15 s15 f15 n15 => ?_
    have m1315 := s15 _ _ m1314
    have m815 := s15 _ _ m814
    have S15 := (S13.trans s14).trans s15
    refine qJ ?_; repeat' (first | ((with_reducible apply qI) <;> try simp only [qM, qB, qE, qG, qC, qA, qF, reduceIte, seval, Int.cast_ofNat_Int, qN, qO, qL, qZ, zA, zB, wA, xR, qH m1315 zZ, qH m815 dW, xC, xU, vC, Shape.pl, List.all_cons, List.all_nil, zG]))
    refine jD el23 Tryz.underlying23 rfl (s10.trans S15) (ow.hs S15) b15 rfl rfl (by omega) (by simp only [maxLen]; omega) fun v16 h16 s16 fr16 o16 => ?_
    obtain ⟨a16, c16, rfl⟩ := o16.form
    have m816 := sN fr16 m815 (by simp)
    have m1316 := sN fr16 m1315 (by simp)
    refine qJ ?_; repeat' (first | ((with_reducible apply qI) <;> try simp only [qM, qB, qE, qG, qC, qA, qF, reduceIte, seval, Int.cast_ofNat_Int, qN, qO, qL, qZ, zA, zB, wA, xR, qH m1316 zZ, qH m816 dW, xC, xU, vC, Shape.pl, List.all_cons, List.all_nil, zG]))
    refine zU m816 dW rfl (by simp) rfl rfl fun h17 m17 f17 => ?_
    simp only [List.set_cons_zero, List.set_cons_succ] at m17
    refine qJ ?_; repeat' (first | ((first | (with_reducible apply qI) | with_reducible apply qD) <;> try simp only [qM, qB, qE, qG, qC, qA, qF, reduceIte, seval, Int.cast_ofNat_Int, qN, qO, qL, qZ, zA, zB, wA, xR]))
    have zz : ∀ {v l}, RB h15 v l → RB h17 v l := fun r => (zF9 fr16 hu r).hx m816 rfl (zE f17)
    have zh : ∀ {cs y}, RHp h15 cs y → RHp h17 cs y := fun r => by
      obtain ⟨a, c, e, q⟩ := r
      exact ⟨a, c, e, zz q⟩
    refine ⟨_, (j + 1, y.l), by simp only; omega, (by simp only [List.forall_mem_cons, List.not_mem_nil, false_implies, implies_true, List.map, List.cons_append, List.nil_append, lk, Nat.reduceEqDiff, reduceIte, and_true, true_and]), rfl, by simp only; omega, s16.upd nb8 f17, hkid, a16, c16, _, m17, o16.by5 m816 f17, ?_, fun t z ht hz => ?_⟩
    · rw [List.all_append, hu]; rfl
    · by_cases htj : t < j
      · have h1 := hel t z htj hz
        rw [List.drop_append_of_le_length (by omega), List.take_append_of_le_length (by rw [List.length_drop]; omega)]
        exact zh (h1.hs S15)
      · have htj2 : t = j := by simp only at ht; omega
        subst htj2
        rw [← ej, List.drop_left]
        rw [hgx, ehop] at hz
        cases hz
        exact ⟨ah, ch, rfl, zz (rh14.hs s15)⟩
  · have hbq : (xI (qY id) y.dp = 1) = True := by simpa using hbt
    have ehop : qD5 M (qY id) p = ((y.dp : Int), (y.nw : Int), yl.hs) := by
      unfold qD5
      rw [yM hy]
      simp only [hbq, if_true, if_false]
      rw [yM hyl]
    have ekid : kX (qY id) y = y.r := by unfold kX; simp only [hbq, if_true, if_false]
    rw [ekid] at hkid
    refine qJ ?_; repeat' (first | with_reducible apply qK | ((first | (with_reducible apply qI) | (with_reducible first | apply qD | apply qS | apply qP) | with_reducible refine zF xR xM (by kernel_rfl) ?_ | ((refine GTri.mono (jS _ _ rb13 q3 (by omega) (by omega) _) ?_); rintro _ _ ⟨rfl, hh9⟩; replace hh9 := hh9.symm; subst hh9) | ((refine GTri.mono (kR _ _ rb13 y.dp (by omega)) ?_); rintro _ _ ⟨rfl, hh9⟩; replace hh9 := hh9.symm; subst hh9)) <;> try simp only [qM, qB, qE, qG, qC, qA, qF, reduceIte, seval, Int.cast_ofNat_Int, qN, qO, qL, qZ, zA, zB, wA, xR, qH m13 rY, qH m13 qV, qH m13 zZ, qH m8b dW, ld0, hbg, hbt]))
    refine (mZ N x13 hyl).mono ?_
    rintro _ h14 ⟨s14, ah, ch, rfl, rh14⟩
    have m1314 := s14 _ _ m13
    have m814 := s14 _ _ m8b
    refine qJ ?_; repeat' (first | ((with_reducible apply qI) <;> try simp only [qM, qB, qE, qG, qC, qA, qF, reduceIte, seval, Int.cast_ofNat_Int, qN, qO, qL, qZ, zA, zB, wA, xR, qH m1314 zZ, qH m814 dW, xC, xU, vC, Shape.pl, List.all_cons, List.all_nil, zG]))
    refine rB el23 rfl rfl (by decide) (by decide) rfl fun k15 h15 b15 s15 f15 n15 => ?_
    have m1315 := s15 _ _ m1314
    have m815 := s15 _ _ m814
    have S15 := (S13.trans s14).trans s15
    refine qJ ?_; repeat' (first | ((with_reducible apply qI) <;> try simp only [qM, qB, qE, qG, qC, qA, qF, reduceIte, seval, Int.cast_ofNat_Int, qN, qO, qL, qZ, zA, zB, wA, xR, qH m1315 zZ, qH m815 dW, xC, xU, vC, Shape.pl, List.all_cons, List.all_nil, zG]))
    refine jD el23 Tryz.underlying23 rfl (s10.trans S15) (ow.hs S15) b15 rfl rfl (by omega) (by simp only [maxLen]; omega) fun v16 h16 s16 fr16 o16 => ?_
    obtain ⟨a16, c16, rfl⟩ := o16.form
    have m816 := sN fr16 m815 (by simp)
    have m1316 := sN fr16 m1315 (by simp)
    refine qJ ?_; repeat' (first | ((with_reducible apply qI) <;> try simp only [qM, qB, qE, qG, qC, qA, qF, reduceIte, seval, Int.cast_ofNat_Int, qN, qO, qL, qZ, zA, zB, wA, xR, qH m1316 zZ, qH m816 dW, xC, xU, vC, Shape.pl, List.all_cons, List.all_nil, zG]))
    refine zU m816 dW rfl (by simp) rfl rfl fun h17 m17 f17 => ?_
    simp only [List.set_cons_zero, List.set_cons_succ] at m17
    refine qJ ?_; repeat' (first | ((first | (with_reducible apply qI) | with_reducible apply qD) <;> try simp only [qM, qB, qE, qG, qC, qA, qF, reduceIte, seval, Int.cast_ofNat_Int, qN, qO, qL, qZ, zA, zB, wA, xR]))
    have zz : ∀ {v l}, RB h15 v l → RB h17 v l := fun r => (zF9 fr16 hu r).hx m816 rfl (zE f17)
    have zh : ∀ {cs y}, RHp h15 cs y → RHp h17 cs y := fun r => by
      obtain ⟨a, c, e, q⟩ := r
      exact ⟨a, c, e, zz q⟩
    refine ⟨_, (j + 1, y.r), by simp only; omega, (by simp only [List.forall_mem_cons, List.not_mem_nil, false_implies, implies_true, List.map, List.cons_append, List.nil_append, lk, Nat.reduceEqDiff, reduceIte, and_true, true_and]), rfl, by simp only; omega, s16.upd nb8 f17, hkid, a16, c16, _, m17, o16.by5 m816 f17, ?_, fun t z ht hz => ?_⟩
    · rw [List.all_append, hu]; rfl
    · by_cases htj : t < j
      · have h1 := hel t z htj hz
        rw [List.drop_append_of_le_length (by omega), List.take_append_of_le_length (by rw [List.length_drop]; omega)]
        exact zh (h1.hs S15)
      · have htj2 : t = j := by simp only at ht; omega
        subst htj2
        rw [← ej, List.drop_left]
        rw [hgx, ehop] at hz
        cases hz
        exact ⟨ah, ch, rfl, zz (rh14.hs s15)⟩
end
theorem kP : type_of% (And.intro zR (And.intro pO (And.intro uG (And.intro ty41 (And.intro vX (And.intro kU (And.intro qD2 (And.intro ty72 (And.intro xW (And.intro jL (And.intro wS rs7))))))))))) := And.intro zR (And.intro pO (And.intro uG (And.intro ty41 (And.intro vX (And.intro kU (And.intro qD2 (And.intro ty72 (And.intro xW (And.intro jL (And.intro wS rs7))))))))))
theorem fill1 {es : Nat} {z x : Value} (hl : (vcells x).length = es) (hc : (vcells x).all zG = true) : xU (Shape.elems es).pl (jI z (1 * es)) [(0, x)] = some (vcells x) := by
  have hzl := kK z (1 * es)
  have hp : (Shape.elems es).pl 0 = some (0, es) := by simp [Shape.pl]
  simp only [xU, hp]
  have := qG0 (vcells x) (jI z (1 * es)) [] (by rw [hzl, hl, Nat.one_mul])
  simp only [List.nil_append, List.length_nil] at this
  rw [this, hzl, Nat.one_mul]
  simp [hl, hc]
theorem chk_a : qK7 4 [97] [] (endN (K := Pd 0) [wV [97] [] 0] (wV [97] [] 0)) = true := by decide +kernel
theorem gF (N : Nat) {h : GH} (t : TK h) : GTri Tryz.prog N 7 [] h fun v h' => v = .bool true ∧ HS h h' := by
  refine xN Tryz.func7 rfl gf7 ok7 (by simp [Tryz.ntmps7]) ?_
  refine qJ ?_; repeat' (first | with_reducible apply qK | ((first | (with_reducible apply qI) | with_reducible apply qD) <;> try simp only [qM, qB, qE, qG, qC, qA, qF, reduceIte, seval, Int.cast_ofNat_Int, qN, qO, kP]))
  refine gV (cs := [.int .u8 97]) wU rfl (by decide) (by decide) (by rw [xV _ rfl]; rfl) rfl fun k1 h1 m1 s1 f1 n1 => ?_
  refine qJ ?_; repeat' (first | ((with_reducible apply qI) <;> try simp only [qM, qB, qE, qG, qC, qA, qF, reduceIte, seval, Int.cast_ofNat_Int, qN, qO, kP]))
  refine qZ7 Tryz.underlying22 Tryz.underlying5 m1 rfl (by decide) fun h1b m1b f1b => ?_
  have s1b : HS h h1b := s1.upd n1 f1b
  refine qJ ?_; repeat' (first | ((with_reducible apply qI) <;> try simp only [qM, qB, qE, qG, qC, qA, qF, reduceIte, seval, Int.cast_ofNat_Int, qN, qO, kP, xC, xU, vC, Shape.pl, List.all_cons, List.all_nil, zG]))
  refine gV (cs := [.slice (some ⟨k1, 0, none⟩) 1 3, .slice none 0 0, .int .i64 0]) el41 rfl (by decide) (by decide) (fill1 rfl rfl) rfl fun k2 h2 m2 s2 f2 n2 => ?_
  have S2 := s1b.trans s2
  have rb1 : RB h1b (.slice (some ⟨k1, 0, none⟩) ([97] : List UInt8).length 3) [97] := .inr ⟨⟨k1, 0, none⟩, 3, rfl, vG m1b rfl rfl, by decide⟩
  have rp : RL 3 RPut h2 (.slice (some ⟨k2, 0, none⟩) ([(([97], []), 0)] : List Pt).length 3) [(([97], []), 0)] := .inr ⟨⟨k2, 0, none⟩, 3, _, rfl, vG m2 rfl rfl, by decide, fun i x hx => by
    rcases i with _ | i
    · cases hx
      exact ⟨_, _, _, _, rfl, rb1.hs s2, RB.nil _⟩
    · simp at hx, .inr ⟨_, m2, .inl (by simp)⟩⟩
  refine qJ ?_; repeat' (first | ((with_reducible apply qI) <;> try simp only [qM, qB, qE, qG, qC, qA, qF, reduceIte, seval, Int.cast_ofNat_Int, qN, qO, kP]))
  refine (c_tree17 N (t.hs S2) rp (by simp) (by simp)).mono ?_
  rintro _ h3 ⟨s3, k, kq, M, rt, v, cs, v2, cs2, rfl, _, x3, y3, ti, ro, hone⟩
  obtain ⟨eM, ert⟩ := hone _ rfl
  have es : qT4 0 = 0 := by decide
  simp only [es] at eM
  have eM' : M = [wV [97] [] 0] := eM
  subst eM'
  subst ert
  have S3 := S2.trans s3
  refine qJ ?_; repeat' (first | with_reducible apply qK | ((first | (with_reducible apply qI) | with_reducible apply qD) <;> try simp only [qM, qB, qE, qG, qC, qA, qF, reduceIte, seval, Int.cast_ofNat_Int, qN, qO, kP, gPick]))
  refine gV (cs := [.int .u8 97]) wU rfl (by decide) (by decide) (by rw [xV _ rfl]; rfl) rfl fun k4 h4 m4 s4 f4 n4 => ?_
  refine qJ ?_; repeat' (first | ((with_reducible apply qI) <;> try simp only [qM, qB, qE, qG, qC, qA, qF, reduceIte, seval, Int.cast_ofNat_Int, qN, qO, kP]))
  refine qZ7 Tryz.underlying22 Tryz.underlying5 m4 rfl (by decide) fun h5 m5 f5 => ?_
  have s35 : HS h3 h5 := s4.upd n4 f5
  refine qJ ?_; repeat' (first | ((with_reducible apply qI) <;> try simp only [qM, qB, qE, qG, qC, qA, qF, reduceIte, seval, Int.cast_ofNat_Int, qN, qO, kP, gPick]))
  refine gV (cs := [.int .u8 97]) wU rfl (by decide) (by decide) (by rw [xV _ rfl]; rfl) rfl fun k6 h6 m6 s6 f6 n6 => ?_
  refine qJ ?_; repeat' (first | ((with_reducible apply qI) <;> try simp only [qM, qB, qE, qG, qC, qA, qF, reduceIte, seval, Int.cast_ofNat_Int, qN, qO, kP]))
  refine qZ7 Tryz.underlying22 Tryz.underlying5 m6 rfl (by decide) fun h7 m7 f7 => ?_
  have s57 : HS h5 h7 := s6.upd n6 f7
  have rb5 : RB h7 (.slice (some ⟨k4, 0, none⟩) ([97] : List UInt8).length 3) [97] := RB.hs s57 (.inr ⟨⟨k4, 0, none⟩, 3, rfl, vG m5 rfl rfl, by decide⟩)
  have rb7 : RB h7 (.slice (some ⟨k6, 0, none⟩) ([97] : List UInt8).length 3) [97] := .inr ⟨⟨k6, 0, none⟩, 3, rfl, vG m7 rfl rfl, by decide⟩
  have S37 := s35.trans s57
  have w : Way [wV [97] [] 0] (qY [97]) 0 [] 0 (wV [97] [] 0) := .stop rfl rfl
  refine qJ ?_; repeat' (first | ((with_reducible apply qI) <;> try simp only [qM, qB, qE, qG, qC, qA, qF, reduceIte, seval, Int.cast_ofNat_Int, qN, qO, kP, gPick]))
  refine (c_Prove (R := RPd 0) N (x3.hs S37) ti rb7 (by decide) w (by decide)).mono ?_
  rintro _ h8 ⟨s8, b8, d8, cs8, rfl, rh8, rp8⟩
  have S8 := S3.trans (S37.trans s8)
  refine qJ ?_; repeat' (first | ((with_reducible apply qI) <;> try simp only [qM, qB, qE, qG, qC, qA, qF, reduceIte, seval, Int.cast_ofNat_Int, qN, qO, kP, gPick]))
  refine (pL N (t.hs S8) rp8 (fun s cs x r => RPd.hs s 0 r) 4 (by decide) (by decide) (rb5.hs s8) rh8 (by decide)).mono ?_
  rintro _ h9 ⟨s9, a9, c9, rfl, _⟩
  have e1 : (qJ9 4 [97] (List.map (qD5 [wV [97] [] 0] (qY [97])) []) (endN (K := Pd 0) [wV [97] [] 0] (wV [97] [] 0))).length = 1 := by
    unfold qJ9
    rw [List.map_nil, chk_a, if_pos rfl]; rfl
  rw [e1]
  refine qJ ?_; repeat' (first | ((first | (with_reducible apply qI) | with_reducible apply qQ) <;> try simp only [qM, qB, qE, qG, qC, qA, qF, reduceIte, seval, Int.cast_ofNat_Int, qN, qO, kP, gPick]))
  exact S8.trans s9
theorem fL {a b : Nat} (ha : a < 256) (hb : b < 256) (h : UInt8.ofNat a = UInt8.ofNat b) : a = b := by
  have := congrArg UInt8.toNat h
  simp only [UInt8.toNat_ofNat'] at this
  omega
theorem qL8 : ∀ (ps qs : List (List UInt8)), ps.length = qs.length → (∀ p ∈ ps, p.length ≤ 65535) → (∀ q ∈ qs, q.length ≤ 65535) → ps.flatMap partB = qs.flatMap partB → ps = qs
  | [], [], _, _, _, _ => rfl
  | [], _ :: _, h, _, _, _ => by simp at h
  | _ :: _, [], h, _, _, _ => by simp at h
  | p :: ps, q :: qs, h, hp, hq, he => by
    simp only [List.flatMap_cons, partB, List.cons_append, List.cons.injEq] at he
    obtain ⟨h1, h2, h3⟩ := he
    have lp := hp p (List.mem_cons_self ..)
    have lq := hq q (List.mem_cons_self ..)
    have e1 := fL (Nat.mod_lt _ (by decide)) (Nat.mod_lt _ (by decide)) h1
    have e2 := fL (Nat.mod_lt _ (by decide)) (Nat.mod_lt _ (by decide)) h2
    have el : p.length = q.length := by omega
    obtain ⟨e3, e4⟩ := List.append_inj h3 el
    rw [e3, qL8 ps qs (by simpa using h) (fun x hx => hp x (List.mem_cons_of_mem _ hx)) (fun x hx => hq x (List.mem_cons_of_mem _ hx)) e4]
theorem rD {t t' : Nat} {ps qs : List (List UInt8)} (ht : t < 256) (ht' : t' < 256) (h : vR t ps = vR t' qs) : t = t' ∧ (ps.length = qs.length → (∀ p ∈ ps, p.length ≤ 65535) → (∀ q ∈ qs, q.length ≤ 65535) → ps = qs) := by
  simp only [vR, List.cons.injEq] at h
  exact ⟨fL ht ht' h.1, fun hl hp hq => qL8 ps qs hl hp hq h.2⟩
theorem qF7 {n m : Nat} (hn : n ≤ 1000000) (hm : m ≤ 1000000) (h : vP n = vP m) : n = m := by
  have g : ∀ i (hi : i < 8), UInt8.ofNat (n / 256 ^ (7 - i) % 256) = UInt8.ofNat (m / 256 ^ (7 - i) % 256) := fun i hi => by
    have := congrArg (fun l : List UInt8 => l[i]?) h
    simpa [vP, arr, hi] using this
  have e5 := fL (Nat.mod_lt _ (by decide)) (Nat.mod_lt _ (by decide)) (g 5 (by decide))
  have e6 := fL (Nat.mod_lt _ (by decide)) (Nat.mod_lt _ (by decide)) (g 6 (by decide))
  have e7 := fL (Nat.mod_lt _ (by decide)) (Nat.mod_lt _ (by decide)) (g 7 (by decide))
  simp only [show (7 : Nat) - 5 = 2 from rfl, show (7 : Nat) - 6 = 1 from rfl, show (7 : Nat) - 7 = 0 from rfl, Nat.pow_zero, Nat.pow_one, Nat.div_one, show (256 : Nat) ^ 2 = 65536 from rfl] at e5 e6 e7
  omega
theorem pE {d d' w w' : Nat} {pf pf' l l' r r' : List UInt8} (hd : d ≤ 1000000) (hd' : d' ≤ 1000000) (hw : w ≤ 1000000) (hw' : w' ≤ 1000000) (hp : pf.length ≤ 65535) (hp' : pf'.length ≤ 65535) (hl : l.length ≤ 65535) (hl' : l'.length ≤ 65535) (hr : r.length ≤ 65535) (hr' : r'.length ≤ 65535) (h : wP d pf w l r = wP d' pf' w' l' r') :
    d = d' ∧ zH pf d = zH pf' d' ∧ w = w' ∧ l = l' ∧ r = r' := by
  have g1 := wK pf d
  have g2 := wK pf' d'
  have := (rD (by decide) (by decide) h).2 rfl (by
    intro x hx
    simp only [List.mem_cons, List.not_mem_nil, or_false] at hx
    rcases hx with rfl | rfl | rfl | rfl | rfl <;> first | omega | (rw [wR]; omega)) (by
    intro x hx
    simp only [List.mem_cons, List.not_mem_nil, or_false] at hx
    rcases hx with rfl | rfl | rfl | rfl | rfl <;> first | omega | (rw [wR]; omega))
  simp only [List.cons.injEq, and_true] at this
  obtain ⟨a, b, c, e, f⟩ := this
  exact ⟨qF7 hd hd' a, b, qF7 hw hw' c, e, f⟩
theorem zI1 {w w' : Nat} {id id' ky ky' : List UInt8} (hw : w ≤ 1000000) (hw' : w' ≤ 1000000) (hi : id.length ≤ 65535) (hi' : id'.length ≤ 65535) (hk : ky.length ≤ 65535) (hk' : ky'.length ≤ 65535) (h : gQ id ky w = gQ id' ky' w') : id = id' ∧ ky = ky' ∧ w = w' := by
  have := (rD (by decide) (by decide) h).2 rfl (by
    intro x hx
    simp only [List.mem_cons, List.not_mem_nil, or_false] at hx
    rcases hx with rfl | rfl | rfl <;> first | omega | (rw [wR]; omega)) (by
    intro x hx
    simp only [List.mem_cons, List.not_mem_nil, or_false] at hx
    rcases hx with rfl | rfl | rfl <;> first | omega | (rw [wR]; omega))
  simp only [List.cons.injEq, and_true] at this
  obtain ⟨a, b, c⟩ := this
  exact ⟨a, b, qF7 hw hw' c⟩
theorem qA4 {d w w' : Nat} {pf l r id ky : List UInt8} (h : wP d pf w l r = gQ id ky w') : False := by
  have := (rD (by decide) (by decide) h).1
  omega
theorem zC2 {d w : Nat} {pf l r : List UInt8} (h : wP d pf w l r = emptyB) : False := by
  have := (rD (by decide) (by decide) h).1
  omega
theorem qG1 {w : Nat} {id ky : List UInt8} (h : gQ id ky w = emptyB) : False := by
  have := (rD (by decide) (by decide) h).1
  omega
section
variable {K : Type}
structure EnOk (size : Int) (row : List UInt8) (p : Pn K) : Prop where
  right : p.right size = true
  k3 : p.kd ≠ 3
  cl : p.kd = 2 → dF row p.pf p.dp = false
def HpOk (size : Int) (row : List UInt8) (l : List Hp) : Prop := ∀ x ∈ l, 0 ≤ x.1 ∧ x.1 < 8 * (row.length : Int) ∧ 0 ≤ x.2.1 ∧ x.2.1 < 256 ∧ (x.2.2.length : Int) = size
theorem en_ok {size : Int} {id : List UInt8} {hops : List Hp} {p : Pn K} (h : qK7 size id hops p = true) : EnOk size (qY id) p ∧ HpOk size (qY id) hops := by
  obtain ⟨h1, h2, h3, ⟨last, h4, h5⟩, h6, h7⟩ := pJ h
  refine ⟨⟨h6, h7, fun k => ?_⟩, rJ hops (-1) last (by omega) h4⟩
  unfold Pn.ends at h5
  split at h5
  · cases h5
  · rw [if_neg (by omega)] at h5
    simp only [Bool.and_eq_true, Bool.or_eq_true, beq_iff_eq, Bool.not_eq_true'] at h5
    rcases h5.2 with q | q
    · omega
    · exact q.2
def shw (id : List UInt8) (p : Pn K) : Option (List UInt8 × Int) := if (p.kd == 1 && p.id == id) = true then some (p.ky, p.si) else none
def Unl (size : Int) (l m : List (List UInt8)) : Prop := ∃ (i : Nat) (a b : List UInt8), l[i]? = some a ∧ m[i]? = some b ∧ a ≠ b ∧ (∀ j, j < i → l[j]? = m[j]?) ∧ wL size a = wL size b
theorem qH5 (n : Int) (l : List UInt8) : (wL n l).length ≤ 32 := by
  have := uV l
  simp only [wL, List.length_take, this]; omega
theorem qT3 {size : Int} {row : List UInt8} (hs : size ≤ 32) (hr : row.length ≤ 300) {x : Hp} (hx : 0 ≤ x.1 ∧ x.1 < 8 * (row.length : Int) ∧ 0 ≤ x.2.1 ∧ x.2.1 < 256 ∧ (x.2.2.length : Int) = size) {t : List UInt8} {p : Pn K} (ho : EnOk size row p) (h : yI size row t x = xE p) : False := by
  have hc := qH5 size t
  have key : ∃ l r, l.length ≤ 65535 ∧ r.length ≤ 65535 ∧ wP x.1.toNat row x.2.1.toNat l r = xE p := by
    unfold yI at h
    split at h
    · exact ⟨_, _, by omega, by omega, h⟩
    · exact ⟨_, _, by omega, by omega, h⟩
  obtain ⟨l, r, hl, hr', h⟩ := key
  unfold xE at h
  split at h
  · exact qA4 h
  · split at h
    · rename_i k
      obtain ⟨f, a, b, _⟩ := p.right_closed ho.right k
      have g := p.frk_ok f
      obtain ⟨e1, e2, _⟩ := pE (by omega) (by omega) (by omega) (by omega) (by omega) (by omega) hl (by omega) hr' (by omega) h
      have hcl := ho.cl k
      obtain ⟨d, hd⟩ : ∃ d : Nat, p.dp = (d : Int) := ⟨p.dp.toNat, by omega⟩
      rw [hd] at hcl e1 e2
      rw [Int.toNat_natCast] at e1 e2
      have : dF row p.pf (d : Int) = true := (fX _ _ _).2 fun i hi => by
        have b1 := yN row x.1.toNat i (by omega)
        have b2 := yN p.pf d i hi
        rw [e2, b2] at b1
        refine ⟨gbit_nonneg.2 (by omega), b1.symm⟩
      rw [this] at hcl; cases hcl
    · exact zC2 h
theorem one_law {L : Type} {size : Int} {row id : List UInt8} (hs0 : 1 ≤ size) (hs : size ≤ 32) (hr : row.length ≤ 300) {p : Pn K} {q : Pn L} (hp : EnOk size row p) (hq : EnOk size row q) : ∀ (l m : List Hp), HpOk size row l → HpOk size row m →
    wL size ((rW size row (xE p) l).headD []) = wL size ((rW size row (xE q) m).headD []) → shw id p = shw id q ∨ Unl size (rW size row (xE p) l) (rW size row (xE q) m) := by
  intro l
  induction l with
  | nil =>
    intro m hl hm hc
    cases m with
    | nil =>
      by_cases he : xE p = xE q
      · left
        unfold shw
        unfold xE at he
        by_cases k1 : p.kd = 1
        · rw [if_pos k1] at he
          have o1 := p.right_leaf hp.right k1
          by_cases k2 : q.kd = 1
          · rw [if_pos k2] at he
            have o2 := q.right_leaf hq.right k2
            obtain ⟨e1, e2, e3⟩ := zI1 (by omega) (by omega) (by omega) (by omega) (by omega) (by omega) he
            rw [k1, k2, e1, e2, show p.si = q.si by omega]
          · rw [if_neg k2] at he
            split at he
            · exact (qA4 he.symm).elim
            · exact (qG1 he).elim
        · rw [if_neg k1] at he
          by_cases k2 : q.kd = 1
          · rw [if_pos k2] at he
            split at he
            · exact (qA4 he).elim
            · exact (qG1 he.symm).elim
          · rw [if_neg (by simp [k1]), if_neg (by simp [k2])]
      · exact .inr ⟨0, _, _, rfl, rfl, he, fun j hj => by omega, hc⟩
    | cons y m =>
      have hy := hm y (List.mem_cons_self ..)
      right
      refine ⟨0, _, _, rfl, rfl, fun he => ?_, fun j hj => by omega, hc⟩
      exact qT3 hs hr hy hp he.symm
  | cons x l ih =>
    intro m hl hm hc
    have hx := hl x (List.mem_cons_self ..)
    cases m with
    | nil =>
      right
      refine ⟨0, _, _, rfl, rfl, fun he => ?_, fun j hj => by omega, hc⟩
      exact qT3 hs hr hx hq he
    | cons y m =>
      have hy := hm y (List.mem_cons_self ..)
      by_cases he : yI size row ((rW size row (xE p) l).headD []) x = yI size row ((rW size row (xE q) m).headD []) y
      · have c1 := qH5 size ((rW size row (xE p) l).headD [])
        have c2 := qH5 size ((rW size row (xE q) m).headD [])
        have key : wL size ((rW size row (xE p) l).headD []) = wL size ((rW size row (xE q) m).headD []) := by
          have he' := he
          unfold yI at he'
          have ed : x.1.toNat = y.1.toNat := by
            split at he' <;> split at he' <;> exact (pE (by omega) (by omega) (by omega) (by omega) (by omega) (by omega) (by omega) (by omega) (by omega) (by omega) he').1
          rw [ed] at he'
          split at he'
          · exact (pE (by omega) (by omega) (by omega) (by omega) (by omega) (by omega) (by omega) (by omega) (by omega) (by omega) he').2.2.2.2
          · exact (pE (by omega) (by omega) (by omega) (by omega) (by omega) (by omega) (by omega) (by omega) (by omega) (by omega) he').2.2.2.1
        rcases ih m (fun z hz => hl z (List.mem_cons_of_mem _ hz)) (fun z hz => hm z (List.mem_cons_of_mem _ hz)) key with h | ⟨i, a, b, h1, h2, h3, h4, h5⟩
        · exact .inl h
        · refine .inr ⟨i + 1, a, b, h1, h2, h3, fun j hj => ?_, h5⟩
          rcases j with _ | j
          · show some _ = some _
            rw [he]
          · exact h4 j (by omega)
      · exact .inr ⟨0, _, _, rfl, rfl, he, fun j hj => by omega, hc⟩
end
end Go.Gh
namespace Go.Gh
open Go Go.Proofs Go.RowKit Go.ChangeShapes Go.WideShapes Go.ChangeAt
set_option linter.unusedVariables false
set_option linter.unusedSimpArgs false
set_option maxRecDepth 100000
set_option maxHeartbeats 1000000
def Pn.bulk {K : Type} (f : K → Nat) (p : Pn K) : Nat := p.id.length + p.ky.length + p.pf.length + p.lf.length + p.rt.length + (p.kids.map f).sum + 10
def Pd.bulk : (n : Nat) → Pd n → Nat
  | 0, p => nomatch (show Empty from p)
  | n + 1, p => Pn.bulk (Pd.bulk n) p
def Hp.bulk (x : Hp) : Nat := x.2.2.length + 3
theorem zD9 {α : Type} (g : α → Nat) (h : ∀ x, 1 ≤ g x) : ∀ l : List α, l.length ≤ (l.map g).sum
  | [] => by simp
  | x :: l => by
    have := zD9 g h l
    have := h x
    simp only [List.length_cons, List.map_cons, List.sum_cons]
    omega
abbrev ptF (T : Ty) : Ty := .fcons (.i .i64) (.fcons .bs (.fcons .bs (.fcons (.i .i64) (.fcons (.i .i64) (.fcons .bs (.fcons (.i .i64) (.fcons .bs (.fcons .bs (.fcons (.sl T) .fnil)))))))))
def mI : Nat → Ty
  | 0 => .no 10
  | n + 1 => ptF (mI n)
abbrev hpTy : Ty := .fcons (.i .i64) (.fcons (.i .i64) (.fcons .bs .fnil))
abbrev pwTy (n : Nat) : Ty := .fcons (.sl hpTy) (.fcons (mI n) .fnil)
theorem lL (n : Nat) : (mI n).size = 10 := by cases n <;> rfl
theorem ptF_ok (T : Ty) (hs : T.size = 10) (h : T.ok Tryz.prog 26 = true) : (ptF T).ok Tryz.prog 26 = true := by
  have e1 : (Tryz.prog).underlying 24 = some (.slice 26) := Tryz.underlying24
  have e2 : (Tryz.prog).cellsOf 26 = 10 := by kernel_rfl
  have e3 : decide (0 < (Tryz.prog).bytesOf 26) = true := by kernel_rfl
  have h2 : (Ty.sl T).ok Tryz.prog 24 = true := by
    rw [Ty.ok_sl, e1]
    simp only [h, e2, e3, hs]
    kernel_rfl
  have a3 : Ty.ok Tryz.prog (.i .i64) 3 = true := by kernel_rfl
  have a23 : Ty.ok Tryz.prog .bs 22 = true := by kernel_rfl
  have c3 : (Tryz.prog).cellsOf 3 = 1 := by kernel_rfl
  have c23 : (Tryz.prog).cellsOf 22 = 1 := by kernel_rfl
  have c29 : (Tryz.prog).cellsOf 24 = 1 := by kernel_rfl
  rw [Ty.ok_fcons, Tryz.underlying26]
  simp only [Ty.okF_cons, h2, a3, a23, c3, c23, c29, e2, Ty.size]
  rfl
theorem zE2 : ∀ n, (mI n).ok Tryz.prog 26 = true
  | 0 => by kernel_rfl
  | n + 1 => ptF_ok _ (lL n) (zE2 n)
theorem qL7 : ∀ n f, f ≤ 2 * n → (mI n).safe f
  | 0, f, h => by
    show f = 0
    omega
  | n + 1, f, h => ⟨trivial, trivial, trivial, trivial, trivial, trivial, trivial, trivial, trivial, qL7 n (f - 1 - 1) (by omega), trivial⟩
theorem pwTy_ok (n : Nat) : (pwTy n).ok Tryz.prog 28 = true := by
  have a28 : Ty.ok Tryz.prog (.sl hpTy) 23 = true := by kernel_rfl
  have a31 := zE2 n
  have c28 : (Tryz.prog).cellsOf 23 = 1 := by kernel_rfl
  have c31 : (Tryz.prog).cellsOf 26 = 10 := by kernel_rfl
  have c33 : (Tryz.prog).cellsOf 28 = 11 := by kernel_rfl
  have s31 := lL n
  rw [Ty.ok_fcons, Tryz.underlying28]
  simp only [Ty.okF_cons, a28, a31, c28, c31, c33, s31, Ty.size]
  rfl
def zL2 : (n : Nat) → (mI n).den → Pd n
  | 0, y => nomatch (show Empty from y)
  | n + 1, (y1, y2, y3, y4, y5, y6, y7, y8, y9, y10, _) => (⟨y1, y4, y5, y7, y2, y3, y6, y8, y9, List.map (zL2 n) y10⟩ : Pn (Pd n))
theorem pt_R : ∀ (n : Nat) {h : GH} {cs : List Value} {y : (mI n).den}, (mI n).R h cs y → RPd n h cs (zL2 n y)
  | 0, _, _, y, _ => nomatch (show Empty from y)
  | n + 1, h, cs, (y1, y2, y3, y4, y5, y6, y7, y8, y9, y10, y11), r => by
    obtain ⟨_, _, rfl, _, ⟨rfl, _⟩, _, _, rfl, _, ⟨v2, rfl, r2, _⟩, _, _, rfl, _, ⟨v3, rfl, r3, _⟩, _, _, rfl, _, ⟨rfl, _⟩, _, _, rfl, _, ⟨rfl, _⟩, _, _, rfl, _, ⟨v6, rfl, r6, _⟩, _, _, rfl, _, ⟨rfl, _⟩, _, _, rfl, _, ⟨v8, rfl, r8, _⟩, _, _, rfl, _, ⟨v9, rfl, r9, _⟩, _, _, rfl, _, ⟨v10, rfl, r10, _⟩, rfl⟩ := r
    rw [lL] at r10
    have r10' : RL 10 (RPd n) h v10 (List.map (zL2 n) y10) := RL.map (R' := RPd n) r10 _ fun cs x hx => pt_R n hx
    obtain ⟨a2, c2, rfl, _⟩ := r2.form
    obtain ⟨a3, c3, rfl, _⟩ := r3.form
    obtain ⟨a6, c6, rfl, _⟩ := r6.form
    obtain ⟨a8, c8, rfl, _⟩ := r8.form
    obtain ⟨a9, c9, rfl, _⟩ := r9.form
    obtain ⟨a10, c10, rfl, _⟩ := r10'.form
    exact ⟨a2, c2, a3, c3, a6, c6, a8, c8, a9, c9, a10, c10, rfl, r2, r3, r6, r8, r9, r10'⟩
theorem zE4 {α β : Type} (f : α → β) (g : β → Nat) (k : α → Nat) (h : ∀ x, g (f x) = k x) (l : List α) : ((l.map f).map g).sum = (l.map k).sum := by
  rw [List.map_map]
  congr 1
  exact List.map_congr_left fun x _ => h x
theorem zE1 : ∀ (n : Nat) (y : (mI n).den), (zL2 n y).bulk n = (mI n).bulk y
  | 0, y => nomatch (show Empty from y)
  | n + 1, (y1, y2, y3, y4, y5, y6, y7, y8, y9, y10, y11) => by
    have e := zE4 (zL2 n) (Pd.bulk n) (mI n).bulk (zE1 n) y10
    show List.length y2 + List.length y3 + List.length y6 + List.length y8 + List.length y9 + ((List.map (zL2 n) y10).map (Pd.bulk n)).sum + 10 =
      1 + ((List.length y2 + 1) + ((List.length y3 + 1) + (1 + (1 + ((List.length y6 + 1) + (1 + ((List.length y8 + 1) + ((List.length y9 + 1) + (((List.map (mI n).bulk y10).sum + 1) + 0)))))))))
    generalize ((List.map (zL2 n) y10).map (Pd.bulk n)).sum = S at e ⊢
    generalize (List.map (mI n).bulk y10).sum = S' at e ⊢
    generalize List.length y2 = a2
    generalize List.length y3 = a3
    generalize List.length y6 = a6
    generalize List.length y8 = a8
    generalize List.length y9 = a9
    omega
def hpv (x : hpTy.den) : Hp := (x.1, x.2.1, x.2.2.1)
theorem hp_R {h : GH} {cs : List Value} {x : hpTy.den} (r : hpTy.R h cs x) : RHp h cs (hpv x) := by
  obtain ⟨y1, y2, y3, y4⟩ := x
  obtain ⟨_, _, rfl, _, ⟨rfl, _⟩, _, _, rfl, _, ⟨rfl, _⟩, _, _, rfl, _, ⟨v, rfl, r1, _⟩, rfl⟩ := r
  obtain ⟨a, c, rfl, _⟩ := r1.form
  exact ⟨a, c, rfl, r1⟩
theorem hp_bulk (x : hpTy.den) : (hpv x).bulk = hpTy.bulk x := by
  obtain ⟨y1, y2, y3, y4⟩ := x
  show List.length y3 + 3 = 1 + (1 + ((List.length y3 + 1) + 0))
  omega
theorem zH6 (n : Nat) : (pwTy n).safe n := ⟨⟨trivial, trivial, trivial, trivial⟩, qL7 n _ (by omega), trivial⟩
theorem arg_pw {H : Type} {enc : TypeId × Value → H} {W : World} {base b0 : Nat} {v : Value} {d : DataW H} {ps : List MemPlace} {r : Reach} (h : DataW.Trod enc Tryz.prog W base (fun _ => true) true 28 v d ps) (hok : Value.okWide Tryz.prog W r b0 28 v) :
    ∃ (m : Nat) (hops : List Hp) (p : Pn (Pd m)) (a : Option Addr) (c : Nat) (ce : List Value), up W.heap.size v = .agg (.slice a hops.length c :: ce).toArray ∧ RL 3 RHp (h0 W) (.slice a hops.length c) hops ∧ RPn (RPd m) (h0 W) ce p ∧
      ∀ B A, BulkOk B A → hops.length ≤ B d ∧ p.pf.length ≤ B d ∧ p.id.length ≤ B d ∧ p.ky.length ≤ B d := by
  obtain ⟨n, y, R, hb, _⟩ := qL6 pwTy pwTy_ok zH6 h hok
  have : ∃ c : Array Value, v = .agg c := by
    simp only [Value.okWide, Tryz.underlying28] at hok
    obtain ⟨cs, h, _⟩ := hok
    exact ⟨cs, h⟩
  obtain ⟨c, rfl⟩ := this
  obtain ⟨y1, y2, y3⟩ := y
  obtain ⟨_, _, e1, _, ⟨v, rfl, r1, _⟩, ce, _, rfl, l2, r2, rfl⟩ := R
  have r1' : RL 3 RHp (h0 W) v (List.map hpv y1) := RL.map (R' := RHp) r1 _ fun cs x hx => hp_R hx
  obtain ⟨a, c', rfl, _⟩ := r1'.form
  have r2' := pt_R n r2
  cases n with
  | zero => exact nomatch (show Empty from y2)
  | succ m =>
    refine ⟨m, List.map hpv y1, zL2 (m + 1) y2, a, c', ce, ?_, r1', r2', fun B A k => ?_⟩
    · rw [List.append_nil] at e1
      simp only [List.cons_append, List.nil_append] at e1
      rw [← e1]
      simp [vcells, up]
    · have h1 := hb B A k
      have h2 : ((List.map hpTy.bulk y1).sum + 1) + ((mI (m + 1)).bulk y2 + 0) ≤ B d := h1
      have e2 := zE1 (m + 1) y2
      have e3 := zE4 hpv Hp.bulk hpTy.bulk hp_bulk y1
      have e4 := zD9 Hp.bulk (fun x => by unfold Hp.bulk; omega) (List.map hpv y1)
      have e5 : Pd.bulk (m + 1) (zL2 (m + 1) y2) = Pn.bulk (Pd.bulk m) (zL2 (m + 1) y2) := rfl
      have e6 : Pn.bulk (Pd.bulk m) (zL2 (m + 1) y2) ≤ B d := by omega
      unfold Pn.bulk at e6
      have e7 : List.length (List.map hpv y1) ≤ B d := by omega
      generalize ((zL2 (m + 1) y2 : Pn (Pd m))) = q at e6 ⊢
      exact ⟨e7, by omega, by omega, by omega⟩
end Go.Gh
namespace Go.Gh
open Go Go.Proofs Go.RowKit
set_option linter.unusedVariables false
set_option linter.unusedSimpArgs false
set_option maxRecDepth 100000
set_option maxHeartbeats 4000000
theorem xZ : type_of% (And.intro zR (And.intro pO (And.intro uG (And.intro kU (And.intro qD2 (And.intro qJ8 (And.intro qD1 (And.intro xW (And.intro qJ7 (And.intro kC (And.intro wS rs3))))))))))) := And.intro zR (And.intro pO (And.intro uG (And.intro kU (And.intro qD2 (And.intro qJ8 (And.intro qD1 (And.intro xW (And.intro qJ7 (And.intro kC (And.intro wS rs3))))))))))
def xL : Nat → List (Nat × List Nat) × List Nat
  | 7 => ([(0, []), (1, []), (2, []), (4, []), (5, []), (6, []), (3, [6]), (7, []), (8, []), (9, [])], [0, 0, 0, 7, 0, 0, 0, 127, 255, 511])
  | 11 => ([(0, []), (1, []), (2, []), (3, []), (4, []), (5, []), (6, []), (7, []), (8, []), (9, [])], [0, 0, 3, 7, 0, 0, 48, 112, 255, 511])
  | 12 => ([(0, []), (1, []), (2, []), (3, []), (4, []), (6, []), (7, []), (8, []), (9, []), (10, []), (5, [10]), (11, []), (12, []), (13, []), (14, []), (15, []), (16, [])], [0, 0, 0, 6, 14, 31, 0, 0, 0, 384, 896, 2047, 4095, 8191, 16383, 32767, 65535])
  | _ => ([], [])
section
variable {K L : Type} {R : GH → List Value → K → Prop} {R2 : GH → List Value → L → Prop}
theorem qX4 {size : Int} {root id : List UInt8} {hops : List Hp} {p : Pn K} (h : (uR size root id hops p).2.2 = 0) : qX5 size root id hops p = true ∧ (uR size root id hops p).2.1 = (shw id p).isSome ∧ (uR size root id hops p).1 = (match shw id p with | some (k, s) => ((id, k), s) | none => (([], []), 0)) := by
  unfold uR at h ⊢
  unfold shw
  cases hf : qX5 size root id hops p
  · rw [hf, if_pos rfl] at h; cases h
  · rw [if_neg (by simp)]
    cases hk : (p.kd == 1 && p.id == id) <;> simp
theorem ways_law {size : Int} {root id : List UInt8} {hops hops2 : List Hp} {p : Pn K} {q : Pn L} (h1 : (uR size root id hops p).2.2 = 0) (h2 : (uR size root id hops2 q).2.2 = 0)
    (hn : ¬ ((uR size root id hops p).2.1 = (uR size root id hops2 q).2.1 ∧ (uR size root id hops p).1 = (uR size root id hops2 q).1)) :
    Unl size (qJ9 size id hops p) (qJ9 size id hops2 q) ∧ (∀ y ∈ qJ9 size id hops p, y.length ≤ 10000) ∧ (∀ y ∈ qJ9 size id hops2 q, y.length ≤ 10000) := by
  obtain ⟨f1, s1, i1⟩ := qX4 h1
  obtain ⟨f2, s2, i2⟩ := qX4 h2
  unfold qX5 at f1 f2
  simp only [Bool.and_eq_true, beq_iff_eq] at f1 f2
  have o1 := en_ok f1.1
  have o2 := en_ok f2.1
  obtain ⟨hs0, hs, hid, ⟨la1, hl1, _⟩, r1, _⟩ := pJ f1.1
  obtain ⟨_, _, _, ⟨la2, hl2, _⟩, r2, _⟩ := pJ f2.1
  have hkl := vM id
  have ok1 := rJ hops (-1) la1 (by omega) hl1
  have ok2 := rJ hops2 (-1) la2 (by omega) hl2
  unfold qJ9
  rw [if_pos f1.1, if_pos f2.1]
  refine ⟨?_, fun y hy => (qF0 (size := size) (row := qY id) (en := xE p) ⟨pN p, by have := tQ r1 hs; omega⟩ (by omega) hops (fun z hz => by have := (ok1 z hz).2.2.2.2; omega) y hy).2,
    fun y hy => (qF0 (size := size) (row := qY id) (en := xE q) ⟨pN q, by have := tQ r2 hs; omega⟩ (by omega) hops2 (fun z hz => by have := (ok2 z hz).2.2.2.2; omega) y hy).2⟩
  rcases one_law hs0 hs (by omega) (id := id) (p := p) (q := q) o1.1 o2.1 hops hops2 o1.2 o2.2 (by rw [f1.2, f2.2]) with h | h
  · exact absurd ⟨by rw [s1, s2, h], by rw [i1, i2, h]⟩ hn
  · exact h
theorem c_PathOne (N : Nat) {h : GH} (t : TK h) (fR : ∀ {h h'}, HS h h' → ∀ cs x, R h cs x → R h' cs x) (fR2 : ∀ {h h'}, HS h h' → ∀ cs x, R2 h cs x → R2 h' cs x) (size : Int) {a g b b2 : Option Addr} {c e d d2 : Nat} {root id : List UInt8} (ri : RB h (.slice a id.length c) id) (rt : RB h (.slice g root.length e) root)
    {cs cs2 : List Value} {p : Pn K} {q : Pn L} {hops hops2 : List Hp} (r : RPn R h cs p) (rh : RL 3 RHp h (.slice b hops.length d) hops) (r2 : RPn R2 h cs2 q) (rh2 : RL 3 RHp h (.slice b2 hops2.length d2) hops2)
    (hh : hops.length ≤ 100000000) (hh2 : hops2.length ≤ 100000000) (hp1 : p.pf.length ≤ 100000000) (hp2 : p.id.length ≤ 100000000) (hp3 : p.ky.length ≤ 100000000) (hq1 : q.pf.length ≤ 100000000) (hq2 : q.id.length ≤ 100000000) (hq3 : q.ky.length ≤ 100000000) :
    GTri Tryz.prog N 3 [.int .i64 size, .slice g root.length e, .slice a id.length c, .agg (.slice b hops.length d :: cs).toArray, .agg (.slice b2 hops2.length d2 :: cs2).toArray] h fun v h' => v = .bool true := by
  have hcs := r.len
  have hcs2 := r2.len
  have law := ways_law (size := size) (root := root) (id := id) (hops := hops) (hops2 := hops2) (p := p) (q := q)
  refine xN Tryz.func3 rfl gf3 ok3 (by simp [Tryz.ntmps3]) ?_
  repeat' (first | with_reducible apply qK | (with_reducible apply qD <;> try simp only [qM, qB, qE, qG, qC, qA, qF, reduceIte, seval, Int.cast_ofNat_Int, qN, qO, qL, qZ, zA, zB, xZ, xL]))
  refine uL (by simp only [List.all_cons, hcs.2.1]; rfl) fun k8 h1 m1 s1 f1 n1 => ?_
  refine qJ ?_; repeat' (first | ((with_reducible apply qI) <;> try simp only [qM, qB, qE, qG, qC, qA, qF, reduceIte, seval, Int.cast_ofNat_Int, qN, qO, qL, qZ, zA, zB, xZ, xL]))
  refine uL (by simp only [List.all_cons, hcs2.2.1]; rfl) fun k9 h2 m2 s2 f2 n2 => ?_
  have S2 := s1.trans s2
  have m12 := s2 _ _ m1
  cases z1 : (decide ((hops.length : Int) > 300))
  case true =>
    refine qJ ?_; repeat' (first | with_reducible apply qK | ((first | (with_reducible apply qI) | (with_reducible first | apply qD | apply qS)) <;> try simp only [qM, qB, qE, qG, qC, qA, qF, reduceIte, seval, Int.cast_ofNat_Int, qN, qO, qL, qZ, zA, zB, xZ, xL, z1, gPick, qH m12 dW]))
    refine (gF N (t.hs S2)).mono ?_
    rintro _ h3 ⟨rfl, s3⟩
    refine qJ ?_; repeat' (first | ((first | (with_reducible apply qI) | with_reducible apply qQ) <;> try simp only [qM, qB, qE, qG, qC, qA, qF, reduceIte, seval, Int.cast_ofNat_Int, qN, qO, qL, qZ, zA, zB, xZ, xL]))
  cases z2 : (decide ((hops2.length : Int) > 300))
  case true =>
    refine qJ ?_; repeat' (first | with_reducible apply qK | ((first | (with_reducible apply qI) | (with_reducible first | apply qD | apply qS)) <;> try simp only [qM, qB, qE, qG, qC, qA, qF, reduceIte, seval, Int.cast_ofNat_Int, qN, qO, qL, qZ, zA, zB, xZ, xL, z1, z2, gPick, qH m12 dW, qH m2 dW]))
    refine (gF N (t.hs S2)).mono ?_
    rintro _ h3 ⟨rfl, s3⟩
    refine qJ ?_; repeat' (first | ((first | (with_reducible apply qI) | with_reducible apply qQ) <;> try simp only [qM, qB, qE, qG, qC, qA, qF, reduceIte, seval, Int.cast_ofNat_Int, qN, qO, qL, qZ, zA, zB, xZ, xL]))
  have ld1 := zQ (P := Tryz.prog) (t := 28) m12 tY (by simp only [List.length_cons, hcs.1])
  refine qJ ?_; repeat' (first | with_reducible apply qK | ((first | (with_reducible apply qI) | (with_reducible first | apply qD | apply qS | apply qP)) <;> try simp only [qM, qB, qE, qG, qC, qA, qF, reduceIte, seval, Int.cast_ofNat_Int, qN, qO, qL, qZ, zA, zB, xZ, xL, z1, z2, gPick, ld1, qH m12 dW, qH m2 dW]))
  refine (c_Find N (t.hs S2) (r.hs S2 (fR S2)) fR size hp1 hp2 hp3 (ri.hs S2) (rt.hs S2) (RL.hs (R := RHp) S2 (fun _ _ q => q.hs S2) rh) hh).mono ?_
  rintro _ h3 ⟨s3, cx, rfl, rx⟩
  obtain ⟨ax, cx1, bx, dx, rfl, rx1, rx2⟩ := rx
  refine qJ ?_; repeat' (first | ((with_reducible apply qI) <;> try simp only [qM, qB, qE, qG, qC, qA, qF, reduceIte, seval, Int.cast_ofNat_Int, qN, qO, qL, qZ, zA, zB, xZ, xL]))
  refine xQ fun k11 h4 m4 s4 f4 n4 => ?_
  refine qJ ?_; repeat' (first | ((with_reducible apply qI) <;> try simp only [qM, qB, qE, qG, qC, qA, qF, reduceIte, seval, Int.cast_ofNat_Int, qN, qO, qL, qZ, zA, zB, xZ, xL]))
  refine wC m4 gX rfl (by decide) rfl rfl rfl fun h5 m5 f5 => ?_
  simp only [vcells] at m5
  have s35 := s4.upd n4 f5
  have S5 := S2.trans (s3.trans s35)
  have m25 := s35 _ _ (s3 _ _ m2)
  have m15 := s35 _ _ (s3 _ _ m12)
  have ld2 := zQ (P := Tryz.prog) (t := 28) m25 tY (by simp only [List.length_cons, hcs2.1])
  refine qJ ?_; repeat' (first | with_reducible apply qK | ((first | (with_reducible apply qI) | with_reducible apply qD) <;> try simp only [qM, qB, qE, qG, qC, qA, qF, reduceIte, seval, Int.cast_ofNat_Int, qN, qO, qL, qZ, zA, zB, xZ, xL, ld2]))
  refine (c_Find N (t.hs S5) (r2.hs S5 (fR2 S5)) fR2 size hq1 hq2 hq3 (ri.hs S5) (rt.hs S5) (RL.hs (R := RHp) S5 (fun _ _ q => q.hs S5) rh2) hh2).mono ?_
  rintro _ h6 ⟨s6, cy, rfl, ry⟩
  obtain ⟨ay, cy1, by_, dy, rfl, ry1, ry2⟩ := ry
  refine qJ ?_; repeat' (first | ((with_reducible apply qI) <;> try simp only [qM, qB, qE, qG, qC, qA, qF, reduceIte, seval, Int.cast_ofNat_Int, qN, qO, qL, qZ, zA, zB, xZ, xL]))
  refine xQ fun k14 h7 m7 s7 f7 n7 => ?_
  refine qJ ?_; repeat' (first | ((with_reducible apply qI) <;> try simp only [qM, qB, qE, qG, qC, qA, qF, reduceIte, seval, Int.cast_ofNat_Int, qN, qO, qL, qZ, zA, zB, xZ, xL]))
  refine wC m7 gX rfl (by decide) rfl rfl rfl fun h8 m8 f8 => ?_
  simp only [vcells] at m8
  have s68 := s7.upd n7 f8
  have s58 := s6.trans s68
  have S8 := S5.trans s58
  have m58 := s58 _ _ m5
  have m18 := s58 _ _ m15
  have m28 := s58 _ _ m25
  have px : RPut h8 [.slice ax (uR size root id hops p).1.1.1.length cx1, .slice bx (uR size root id hops p).1.1.2.length dx, .int .i64 (uR size root id hops p).1.2] (uR size root id hops p).1 := RPut.hs (s35.trans s58) ⟨ax, cx1, bx, dx, rfl, rx1, rx2⟩
  have py : RPut h8 [.slice ay (uR size root id hops2 q).1.1.1.length cy1, .slice by_ (uR size root id hops2 q).1.1.2.length dy, .int .i64 (uR size root id hops2 q).1.2] (uR size root id hops2 q).1 := RPut.hs s68 ⟨ay, cy1, by_, dy, rfl, ry1, ry2⟩
  clear rx1 rx2 ry1 ry2
  generalize uR size root id hops p = F1 at *
  generalize uR size root id hops2 q = F2 at *
  obtain ⟨X1, B1, E1⟩ := F1
  obtain ⟨X2, B2, E2⟩ := F2
  simp only at px py law m58 m8
  have lx := zQ (P := Tryz.prog) (t := 31) m58 gX rfl
  have ly := zQ (P := Tryz.prog) (t := 31) m8 gX rfl
  cases y1 : (E1 != 0)
  case true =>
    refine qJ ?_; repeat' (first | with_reducible apply qK | ((first | (with_reducible apply qI) | (with_reducible first | apply qD | apply qS)) <;> try simp only [qM, qB, qE, qG, qC, qA, qF, reduceIte, seval, Int.cast_ofNat_Int, qN, qO, qL, qZ, zA, zB, xZ, xL, y1, gPick, lx, ly]))
    refine (gF N (t.hs S8)).mono ?_
    rintro _ h3 ⟨rfl, s3⟩
    refine qJ ?_; repeat' (first | ((first | (with_reducible apply qI) | with_reducible apply qQ) <;> try simp only [qM, qB, qE, qG, qC, qA, qF, reduceIte, seval, Int.cast_ofNat_Int, qN, qO, qL, qZ, zA, zB, xZ, xL]))
  cases y2 : (E2 != 0)
  case true =>
    refine qJ ?_; repeat' (first | with_reducible apply qK | ((first | (with_reducible apply qI) | (with_reducible first | apply qD | apply qS)) <;> try simp only [qM, qB, qE, qG, qC, qA, qF, reduceIte, seval, Int.cast_ofNat_Int, qN, qO, qL, qZ, zA, zB, xZ, xL, y1, y2, gPick, lx, ly]))
    refine (gF N (t.hs S8)).mono ?_
    rintro _ h3 ⟨rfl, s3⟩
    refine qJ ?_; repeat' (first | ((first | (with_reducible apply qI) | with_reducible apply qQ) <;> try simp only [qM, qB, qE, qG, qC, qA, qF, reduceIte, seval, Int.cast_ofNat_Int, qN, qO, qL, qZ, zA, zB, xZ, xL]))
  replace law := law (by simpa using y1) (by simpa using y2)
  have ldp := zQ (P := Tryz.prog) (t := 28) m18 tY (by simp only [List.length_cons, hcs.1])
  have ldq := zQ (P := Tryz.prog) (t := 28) m28 tY (by simp only [List.length_cons, hcs2.1])
  cases y3 : (B1 == B2)
  case false =>
    obtain ⟨⟨ix, ua, ub, u1, u2, u3, u4, u5⟩, len1, len2⟩ := law (fun q => by rw [q.1] at y3; simp at y3)
    refine qJ ?_; repeat' (first | with_reducible apply qK | ((first | (with_reducible apply qI) | (with_reducible first | apply qD | apply qS | apply qP) | with_reducible refine zF xL xM (by kernel_rfl) ?_) <;> try simp only [qM, qB, qE, qG, qC, qA, qF, reduceIte, seval, Int.cast_ofNat_Int, qN, qO, qL, qZ, zA, zB, xZ, xL, y1, y2, y3, gPick, ldp, ldq]))
    refine (pL N (t.hs S8) (r.hs S8 (fR S8)) fR size hp1 hp2 (ri.hs S8) (RL.hs (R := RHp) S8 (fun _ _ q => q.hs S8) rh) hh).mono ?_
    rintro _ h10 ⟨s10, a10, c10, rfl, x10⟩
    have S10 := S8.trans s10
    have m210 := s10 _ _ m28
    have ldq10 := zQ (P := Tryz.prog) (t := 28) m210 tY (by simp only [List.length_cons, hcs2.1])
    refine qJ ?_; repeat' (first | ((with_reducible apply qI) <;> try simp only [qM, qB, qE, qG, qC, qA, qF, reduceIte, seval, Int.cast_ofNat_Int, qN, qO, qL, qZ, zA, zB, xZ, xL, ldq10]))
    refine (pL N (t.hs S10) (r2.hs S10 (fR2 S10)) fR2 size hq1 hq2 (ri.hs S10) (RL.hs (R := RHp) S10 (fun _ _ q => q.hs S10) rh2) hh2).mono ?_
    rintro _ h11 ⟨s11, a11, c11, rfl, x11⟩
    have S11 := S10.trans s11
    replace x10 := RL.hs (R := RTx) s11 (fun _ _ q => q.hs s11) x10
    have t11 := t.hs S11
    clear law px py
    have hT1 : (qJ9 size id hops p).length ≤ hops.length + 1 := by unfold qJ9; split <;> simp [tB]
    generalize qJ9 size id hops p = T1 at *
    generalize qJ9 size id hops2 q = T2 at *
    have il1 := (List.getElem?_eq_some_iff.1 u1).1
    have il2 := (List.getElem?_eq_some_iff.1 u2).1
    refine qJ ?_; repeat' (first | (with_reducible first | apply qK | apply qR) | ((first | (with_reducible apply qI) | with_reducible apply qD) <;> try simp only [qM, qB, qE, qG, qC, qA, qF, reduceIte, seval, Int.cast_ofNat_Int, qN, qO, qL, qZ, zA, zB, xZ, xL, lM]))
    refine xS [0, 17, 18, 78] (fun (j : Nat) => [(79, .int .i64 (j : Int))]) (fun q j h' => q = min T1.length T2.length - j ∧ j ≤ ix ∧ h' = h11) (min T1.length T2.length) 0 (by simp [lk]) ⟨rfl, by omega, rfl⟩ ?_
    rintro _ j h12 ⟨rfl, hj, rfl⟩
    obtain ⟨xa, hxa⟩ := yO (show j < T1.length by omega)
    obtain ⟨xb, hxb⟩ := yO (show j < T2.length by omega)
    obtain ⟨ad, cs5, g1, g2, a7, c7, rfl, q1, q2⟩ := RL.at (P := Tryz.prog) x10 Tryz.underlying36 qV hxa
    obtain ⟨ad', cs6, g3, g4, a8, c8, rfl, q3, q4⟩ := RL.at (P := Tryz.prog) x11 Tryz.underlying36 qV hxb
    have lj : (decide ((j : Int) < ((min T1.length T2.length : Nat) : Int))) = true := by rw [decide_eq_true_eq]; omega
    cases ze : (xa == xb)
    case true =>
      have w1 : IntKind.i64.wrap ((j : Int) + 1) = ((j + 1 : Nat) : Int) := by rw [wrap64 (by omega) (by omega)]; omega
      refine qJ ?_; repeat' (first | (with_reducible first | apply qK | apply qR) | ((first | (with_reducible apply qI) | (with_reducible first | apply qD | apply qS | apply qP) | with_reducible refine zF xL xM (by kernel_rfl) ?_ | ((refine GTri.mono (uS _ _ q1 q3) ?_); rintro _ _ ⟨rfl, hh9⟩; replace hh9 := hh9.symm; subst hh9)) <;> try simp only [qM, qB, qE, qG, qC, qA, qF, reduceIte, seval, Int.cast_ofNat_Int, qN, qO, qL, qZ, zA, zB, xZ, xL, lj, g1, g3, yC qV g2, yC qV g4, ze, w1]))
      refine ⟨_, j + 1, by omega, (by simp only [List.forall_mem_cons, List.not_mem_nil, false_implies, implies_true, List.map, List.cons_append, List.nil_append, lk, Nat.reduceEqDiff, reduceIte, and_true, true_and]), rfl, ?_⟩
      by_cases qj : j = ix
      · subst qj
        rw [hxa] at u1
        rw [hxb] at u2
        cases u1; cases u2
        exact absurd (by simpa using ze) u3
      · omega
    have ej : ix = j := by
      by_cases qj : j = ix
      · exact qj.symm
      · have := u4 j (by omega)
        rw [hxa, hxb] at this
        cases this
        simp at ze
    subst ej
    rw [hxa] at u1
    rw [hxb] at u2
    have e1 : xa = ua := by simpa using u1
    have e2 : xb = ub := by simpa using u2
    subst e1
    subst e2
    refine qJ ?_; repeat' (first | (with_reducible first | apply qK | apply qR) | ((first | (with_reducible apply qI) | (with_reducible first | apply qD | apply qS | apply qP) | with_reducible refine zF xL xM (by kernel_rfl) ?_ | ((refine GTri.mono (uS _ _ q1 q3) ?_); rintro _ _ ⟨rfl, hh9⟩; replace hh9 := hh9.symm; subst hh9)) <;> try simp only [qM, qB, qE, qG, qC, qA, qF, reduceIte, seval, Int.cast_ofNat_Int, qN, qO, qL, qZ, zA, zB, xZ, xL, lj, g1, g3, yC qV g2, yC qV g4, ze]))
    refine (qC8 N t11 q1 q2 (by have := len1 _ (List.mem_of_getElem? hxa); omega) size).mono ?_
    rintro _ h13 ⟨s13, ac, cc, rfl, rc, _⟩
    have g4' := sG s13 (yC (P := Tryz.prog) qV g4)
    have g2' := sG s13 (yC (P := Tryz.prog) qV g2)
    refine qJ ?_; repeat' (first | ((with_reducible apply qI) <;> try simp only [qM, qB, qE, qG, qC, qA, qF, reduceIte, seval, Int.cast_ofNat_Int, qN, qO, qL, qZ, zA, zB, xZ, xL, g3, g1, g4', g2']))
    refine (qC8 N (t11.hs s13) (q3.hs s13) (q4.hs s13) (by have := len2 _ (List.mem_of_getElem? hxb); omega) size).mono ?_
    rintro _ h14 ⟨s14, ad2, cd2, rfl, rd, _⟩
    have ec : (wL size xa == wL size xb) = true := by simpa using u5
    refine qJ ?_; repeat' (first | ((first | (with_reducible apply qI) | ((refine GTri.mono (uS _ _ (rc.hs s14) rd) ?_); rintro _ _ ⟨rfl, hh9⟩; replace hh9 := hh9.symm; subst hh9)) <;> try simp only [qM, qB, qE, qG, qC, qA, qF, reduceIte, seval, Int.cast_ofNat_Int, qN, qO, qL, qZ, zA, zB, xZ, xL, ec, gPick]))
    refine (gF N (t11.hs (s13.trans s14))).mono ?_
    rintro _ h15 ⟨rfl, s15⟩
    refine qJ ?_; repeat' (first | ((first | (with_reducible apply qI) | with_reducible apply qQ) <;> try simp only [qM, qB, qE, qG, qC, qA, qF, reduceIte, seval, Int.cast_ofNat_Int, qN, qO, qL, qZ, zA, zB, xZ, xL]))
  refine qJ ?_; repeat' (first | with_reducible apply qK | ((first | (with_reducible apply qI) | with_reducible apply qD) <;> try simp only [qM, qB, qE, qG, qC, qA, qF, reduceIte, seval, Int.cast_ofNat_Int, qN, qO, qL, qZ, zA, zB, xZ, xL, y1, y2, y3, gPick, lx, ly]))
  refine (zC8 N px py).mono ?_
  rintro _ h9 ⟨rfl, s89⟩
  have S9 := S8.trans s89
  cases y4 : ((X1.1.1 == X2.1.1) && (X1.1.2 == X2.1.2) && (X1.2 == X2.2))
  case true =>
    refine qJ ?_; repeat' (first | with_reducible apply qK | ((first | (with_reducible apply qI) | (with_reducible first | apply qD | apply qS)) <;> try simp only [qM, qB, qE, qG, qC, qA, qF, reduceIte, seval, Int.cast_ofNat_Int, qN, qO, qL, qZ, zA, zB, xZ, xL, y4, gPick]))
    refine (gF N (t.hs S9)).mono ?_
    rintro _ h3 ⟨rfl, s3⟩
    refine qJ ?_; repeat' (first | ((first | (with_reducible apply qI) | with_reducible apply qQ) <;> try simp only [qM, qB, qE, qG, qC, qA, qF, reduceIte, seval, Int.cast_ofNat_Int, qN, qO, qL, qZ, zA, zB, xZ, xL]))
  obtain ⟨⟨ix, ua, ub, u1, u2, u3, u4, u5⟩, len1, len2⟩ := law (fun q => by rw [q.2] at y4; simp at y4)
  have m19 := s89 _ _ m18
  have m29 := s89 _ _ m28
  have ldp9 := zQ (P := Tryz.prog) (t := 28) m19 tY (by simp only [List.length_cons, hcs.1])
  have ldq9 := zQ (P := Tryz.prog) (t := 28) m29 tY (by simp only [List.length_cons, hcs2.1])
  refine qJ ?_; repeat' (first | with_reducible apply qK | ((first | (with_reducible apply qI) | (with_reducible first | apply qS | apply qP) | with_reducible refine zF xL xM (by kernel_rfl) ?_) <;> try simp only [qM, qB, qE, qG, qC, qA, qF, reduceIte, seval, Int.cast_ofNat_Int, qN, qO, qL, qZ, zA, zB, xZ, xL, y4, gPick, ldp9, ldq9]))
  refine (pL N (t.hs S9) (r.hs S9 (fR S9)) fR size hp1 hp2 (ri.hs S9) (RL.hs (R := RHp) S9 (fun _ _ q => q.hs S9) rh) hh).mono ?_
  rintro _ h10 ⟨s10, a10, c10, rfl, x10⟩
  have S10 := S9.trans s10
  have m210 := s10 _ _ m29
  have ldq10 := zQ (P := Tryz.prog) (t := 28) m210 tY (by simp only [List.length_cons, hcs2.1])
  refine qJ ?_; repeat' (first | ((with_reducible apply qI) <;> try simp only [qM, qB, qE, qG, qC, qA, qF, reduceIte, seval, Int.cast_ofNat_Int, qN, qO, qL, qZ, zA, zB, xZ, xL, ldq10]))
  refine (pL N (t.hs S10) (r2.hs S10 (fR2 S10)) fR2 size hq1 hq2 (ri.hs S10) (RL.hs (R := RHp) S10 (fun _ _ q => q.hs S10) rh2) hh2).mono ?_
  rintro _ h11 ⟨s11, a11, c11, rfl, x11⟩
  have S11 := S10.trans s11
  replace x10 := RL.hs (R := RTx) s11 (fun _ _ q => q.hs s11) x10
  have t11 := t.hs S11
  clear law px py
  have hT1 : (qJ9 size id hops p).length ≤ hops.length + 1 := by unfold qJ9; split <;> simp [tB]
  generalize qJ9 size id hops p = T1 at *
  generalize qJ9 size id hops2 q = T2 at *
  have il1 := (List.getElem?_eq_some_iff.1 u1).1
  have il2 := (List.getElem?_eq_some_iff.1 u2).1
  refine qJ ?_; repeat' (first | (with_reducible first | apply qK | apply qR) | ((first | (with_reducible apply qI) | with_reducible apply qD) <;> try simp only [qM, qB, qE, qG, qC, qA, qF, reduceIte, seval, Int.cast_ofNat_Int, qN, qO, qL, qZ, zA, zB, xZ, xL, lM]))
  refine xS [0, 17, 18, 78] (fun (j : Nat) => [(79, .int .i64 (j : Int))]) (fun q j h' => q = min T1.length T2.length - j ∧ j ≤ ix ∧ h' = h11) (min T1.length T2.length) 0 (by simp [lk]) ⟨rfl, by omega, rfl⟩ ?_
  rintro _ j h12 ⟨rfl, hj, rfl⟩
  obtain ⟨xa, hxa⟩ := yO (show j < T1.length by omega)
  obtain ⟨xb, hxb⟩ := yO (show j < T2.length by omega)
  obtain ⟨ad, cs5, g1, g2, a7, c7, rfl, q1, q2⟩ := RL.at (P := Tryz.prog) x10 Tryz.underlying36 qV hxa
  obtain ⟨ad', cs6, g3, g4, a8, c8, rfl, q3, q4⟩ := RL.at (P := Tryz.prog) x11 Tryz.underlying36 qV hxb
  have lj : (decide ((j : Int) < ((min T1.length T2.length : Nat) : Int))) = true := by rw [decide_eq_true_eq]; omega
  cases ze : (xa == xb)
  case true =>
    have w1 : IntKind.i64.wrap ((j : Int) + 1) = ((j + 1 : Nat) : Int) := by rw [wrap64 (by omega) (by omega)]; omega
    refine qJ ?_; repeat' (first | (with_reducible first | apply qK | apply qR) | ((first | (with_reducible apply qI) | (with_reducible first | apply qD | apply qS | apply qP) | with_reducible refine zF xL xM (by kernel_rfl) ?_ | ((refine GTri.mono (uS _ _ q1 q3) ?_); rintro _ _ ⟨rfl, hh9⟩; replace hh9 := hh9.symm; subst hh9)) <;> try simp only [qM, qB, qE, qG, qC, qA, qF, reduceIte, seval, Int.cast_ofNat_Int, qN, qO, qL, qZ, zA, zB, xZ, xL, lj, g1, g3, yC qV g2, yC qV g4, ze, w1]))
    refine ⟨_, j + 1, by omega, (by simp only [List.forall_mem_cons, List.not_mem_nil, false_implies, implies_true, List.map, List.cons_append, List.nil_append, lk, Nat.reduceEqDiff, reduceIte, and_true, true_and]), rfl, ?_⟩
    by_cases qj : j = ix
    · subst qj
      rw [hxa] at u1
      rw [hxb] at u2
      cases u1; cases u2
      exact absurd (by simpa using ze) u3
    · omega
  have ej : ix = j := by
    by_cases qj : j = ix
    · exact qj.symm
    · have := u4 j (by omega)
      rw [hxa, hxb] at this
      cases this
      simp at ze
  subst ej
  rw [hxa] at u1
  rw [hxb] at u2
  have e1 : xa = ua := by simpa using u1
  have e2 : xb = ub := by simpa using u2
  subst e1
  subst e2
  refine qJ ?_; repeat' (first | (with_reducible first | apply qK | apply qR) | ((first | (with_reducible apply qI) | (with_reducible first | apply qD | apply qS | apply qP) | with_reducible refine zF xL xM (by kernel_rfl) ?_ | ((refine GTri.mono (uS _ _ q1 q3) ?_); rintro _ _ ⟨rfl, hh9⟩; replace hh9 := hh9.symm; subst hh9)) <;> try simp only [qM, qB, qE, qG, qC, qA, qF, reduceIte, seval, Int.cast_ofNat_Int, qN, qO, qL, qZ, zA, zB, xZ, xL, lj, g1, g3, yC qV g2, yC qV g4, ze]))
  refine (qC8 N t11 q1 q2 (by have := len1 _ (List.mem_of_getElem? hxa); omega) size).mono ?_
  rintro _ h13 ⟨s13, ac, cc, rfl, rc, _⟩
  have g4' := sG s13 (yC (P := Tryz.prog) qV g4)
  have g2' := sG s13 (yC (P := Tryz.prog) qV g2)
  refine qJ ?_; repeat' (first | ((with_reducible apply qI) <;> try simp only [qM, qB, qE, qG, qC, qA, qF, reduceIte, seval, Int.cast_ofNat_Int, qN, qO, qL, qZ, zA, zB, xZ, xL, g3, g1, g4', g2']))
  refine (qC8 N (t11.hs s13) (q3.hs s13) (q4.hs s13) (by have := len2 _ (List.mem_of_getElem? hxb); omega) size).mono ?_
  rintro _ h14 ⟨s14, ad2, cd2, rfl, rd, _⟩
  have ec : (wL size xa == wL size xb) = true := by simpa using u5
  refine qJ ?_; repeat' (first | ((first | (with_reducible apply qI) | ((refine GTri.mono (uS _ _ (rc.hs s14) rd) ?_); rintro _ _ ⟨rfl, hh9⟩; replace hh9 := hh9.symm; subst hh9)) <;> try simp only [qM, qB, qE, qG, qC, qA, qF, reduceIte, seval, Int.cast_ofNat_Int, qN, qO, qL, qZ, zA, zB, xZ, xL, ec, gPick]))
  refine (gF N (t11.hs (s13.trans s14))).mono ?_
  rintro _ h15 ⟨rfl, s15⟩
  refine qJ ?_; repeat' (first | ((first | (with_reducible apply qI) | with_reducible apply qQ) <;> try simp only [qM, qB, qE, qG, qC, qA, qF, reduceIte, seval, Int.cast_ofNat_Int, qN, qO, qL, qZ, zA, zB, xZ, xL]))
end
end Go.Gh
