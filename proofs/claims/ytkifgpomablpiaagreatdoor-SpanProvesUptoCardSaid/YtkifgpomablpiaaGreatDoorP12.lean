/- Parts of this claim's proof, 12. No statement of the claim stands here. -/
import Derived.Test.YtkifgpomablpiaaGreatDoorP11
namespace Go.Gh
open Go Go.Proofs Go.RowKit
set_option linter.unusedVariables false
set_option linter.unusedSimpArgs false
set_option maxRecDepth 100000
set_option maxHeartbeats 4000000
theorem qE4 : type_of% (And.intro zF (And.intro vU (And.intro xB (And.intro uI (And.intro wF rs126))))) := And.intro zF (And.intro vU (And.intro xB (And.intro uI (And.intro wF rs126))))
theorem qA6 : type_of% (And.intro uK (And.intro qG2 (And.intro vU (And.intro xB (And.intro uI rs84))))) := And.intro uK (And.intro qG2 (And.intro vU (And.intro xB (And.intro uI rs84))))
theorem xS : type_of% (And.intro uK (And.intro zF (And.intro vT (And.intro qG2 (And.intro vU (And.intro xB (And.intro uI (And.intro jJ (And.intro wF rs83))))))))) := And.intro uK (And.intro zF (And.intro vT (And.intro qG2 (And.intro vU (And.intro xB (And.intro uI (And.intro jJ (And.intro wF rs83))))))))
def xL : Nat → List (Nat × List Nat) × List Nat
  | 8 => ([(0, []), (1, []), (2, []), (3, []), (4, []), (5, []), (6, []), (9, []), (7, [0]), (8, []), (10, []), (11, []), (12, [])], [0, 0, 2, 6, 14, 30, 14, 126, 254, 1, 767, 2047, 4095])
  | _ => ([], [])
def kP (k : Nat) (h : GH) : GH := fun i => if i = k then none else h i
theorem qC9 (k : Nat) (h : GH) : kP k h k = none := by unfold kP; rw [if_pos rfl]
theorem lV {k : Nat} (h : GH) : ∀ i, i ≠ k → kP k h i = h i := fun i n => by unfold kP; rw [if_neg n]
theorem rX (k : Nat) (h : GH) : HS (kP k h) h := fun i B e => by
  unfold kP at e
  split at e
  · cases e
  · exact e
theorem rW {k : Nat} {a h : GH} (s : HS a h) (n : a k = none) : HS a (kP k h) := fun i B e => by
  rw [lV h i (fun q => by rw [q, n] at e; cases e)]
  exact s i B e
theorem st_mid {P : Program} {h : GH} {k o : Nat} {B : GB} {t n : Nat} {b : Bool} {v : Value} {K : Value → GH → Prop} (hk : h k = some B) (hw : B.wr = true) (hz : vG P t = some (b, n)) (hn : n ≠ 0) (hl : (vcells v).length = n) (hB : o + n ≤ B.cells.length) (hc : (vcells v).all zK = true)
    (g : ∀ h', h' k = some { B with cells := jE B.cells o (vcells v) } → (∀ j, j ≠ k → h' j = h j) → K U h') : qV9 (dI P t h (.pointer (some ⟨k, o, none⟩)) v) K := by
  refine ⟨yB h k { B with cells := jE B.cells o (vcells v) }, ?_, g _ (zP _ _ _) (fun j hj => zT _ _ hj)⟩
  have hs : v.cells.size = n := by rw [← hl, ← vM]; simp
  simp only [dI, hz]
  rw [if_pos ⟨hs, by rw [vM]; exact hc⟩]
  simp only [kQ, hk, vM]
  rw [if_neg (by omega), if_pos ⟨hw, by omega⟩]
theorem HS.of2 {a b c d : GH} (_ : HS a d) (x : HS a b) (y : HS b c) : HS a c := x.trans y
section
variable {h0 h h' : GH} {k : Nat} {v : Value} {cs : List Value} {M : List Nd}
theorem c_below (N : Nat) {cn : List Value} {nd : Nd} (r : RNd h cn nd) {a : Option Addr} {c : Nat} {row : List UInt8} (rr : RB h (.slice a row.length c) row) (hd : nd.dp ≤ 1000000) : GTri Tryz.prog N 126 [.agg cn.toArray, .slice a row.length c] h fun u h' => HS h h' ∧ u = .int .i64 (rV row nd : Int) := by
  obtain ⟨a1, c1, a2, c2, a3, c3, a4, c4, rfl, r1, r2, r3, r4⟩ := r
  have e : ∀ b : Bool, (xA row nd.dp == 1) = b → (rV row nd) = if b = true then nd.r else nd.l := fun b hb => by
    unfold rV
    subst hb
    simp only [beq_iff_eq]
  refine zU Tryz.func126 rfl gf126 ok126 (by simp [Tryz.ntmps126]) ?_
  repeat' (first | with_reducible apply qK | ((with_reducible apply qB) <;> try simp only [qN, qC, qE, qG, qD, qA, qF, seval, qQ, qO, qP, qE4]))
  refine wP rfl fun k1 h1 m1 s1 f1 n1 => ?_
  simp only [Nd.cs] at m1
  cases hb : (xA row nd.dp == 1)
  · rw [e _ hb]
    refine qJ ?_; repeat' (first | with_reducible apply qK | ((first | (with_reducible first | apply qI | apply qB | apply qR | apply qT | apply qM) | ((refine GTri.mono (dJ _ _ (rr.hs s1) nd.dp (by omega)) ?_); rintro _ _ ⟨rfl, hh9⟩; replace hh9 := hh9.symm; subst hh9)) <;> try simp only [qN, qC, qE, qG, qD, qA, qF, seval, qQ, qO, qP, qE4, qH m1 zS, hb]))
    exact s1
  · rw [e _ hb]
    refine qJ ?_; repeat' (first | with_reducible apply qK | ((first | (with_reducible first | apply qI | apply qB | apply qR | apply qM) | ((refine GTri.mono (dJ _ _ (rr.hs s1) nd.dp (by omega)) ?_); rintro _ _ ⟨rfl, hh9⟩; replace hh9 := hh9.symm; subst hh9)) <;> try simp only [qN, qC, qE, qG, qD, qA, qF, seval, qQ, qO, qP, qE4, qH m1 zS, hb]))
    exact s1
def rQ (f : Value) (at_ : Int) (x : Nd) (i k p s : Value) (same : Bool) : List Value := [f, .int .i64 at_, .bool x.lf, i, k, .int .i64 x.si, .int .i64 x.dp, p, .int .i64 x.nw, .int .i64 x.l, .int .i64 x.r, s, .bool same]
def qJ0 (n : Nat) (at_ : Int) (same : Bool) : Nat := if (!(at_ == -1) && !same) = true then n + 2 else n + 1
theorem c_needs (N : Nat) (h : GH) {a : Option Addr} {n c : Nat} (hn : n ≤ 1000000) (at_ : Int) (x : Nd) (i k p s : Value) (hc : [i, k, p, s].all zK = true) (same : Bool) : GTri Tryz.prog N 84 [.agg (rQ (.slice a n c) at_ x i k p s same).toArray] h fun u h' => HS h h' ∧ u = .int .i64 (qJ0 n at_ same : Int) := by
  simp only [List.all_cons, List.all_nil, Bool.and_true, Bool.and_eq_true] at hc
  obtain ⟨c1, c2, c3, c4⟩ := hc
  have w1 : IntKind.i64.wrap ((n : Int) + 1) = ((n + 1 : Nat) : Int) := by rw [wrap64 (by omega) (by omega)]; omega
  have w2 : IntKind.i64.wrap (((n + 1 : Nat) : Int) + 1) = ((n + 2 : Nat) : Int) := by rw [wrap64 (by omega) (by omega)]; omega
  unfold qJ0
  refine zU Tryz.func84 rfl gf84 ok84 (by simp [Tryz.ntmps84]) ?_
  repeat' (first | with_reducible apply qK | ((with_reducible apply qB) <;> try simp only [qN, qC, qE, qG, qD, qA, qF, seval, qQ, qO, qP, qA6]))
  refine wP (by simp [rQ, zK] at *; exact ⟨c1, c2, c3, c4⟩) fun k1 h1 m1 s1 f1 n1 => ?_
  simp only [rQ] at m1
  cases hb : (at_ == -1)
  case true =>
    have hb2 : (at_ != -1) = false := by unfold bne; rw [hb]; rfl
    refine qJ ?_; repeat' (first | with_reducible apply qK | ((with_reducible first | apply qI | apply qB | apply qR | apply qT | apply qM) <;> try simp only [qN, qC, qE, qG, qD, qA, qF, seval, qQ, qO, qP, qA6, qH m1 zS, qH m1 gV, qH m1 uL, w1, w2, hb, hb2]))
    exact ⟨s1, by simp⟩
  have hb2 : (at_ != -1) = true := by unfold bne; rw [hb]; rfl
  cases same
  · refine qJ ?_; repeat' (first | with_reducible apply qK | ((with_reducible first | apply qI | apply qB | apply qR | apply qM) <;> try simp only [qN, qC, qE, qG, qD, qA, qF, seval, qQ, qO, qP, qA6, qH m1 zS, qH m1 gV, qH m1 uL, w1, w2, hb, hb2]))
    exact s1
  · refine qJ ?_; repeat' (first | with_reducible apply qK | ((with_reducible first | apply qI | apply qB | apply qR | apply qT | apply qM) <;> try simp only [qN, qC, qE, qG, qD, qA, qF, seval, qQ, qO, qP, qA6, qH m1 zS, qH m1 gV, qH m1 uL, w1, w2, hb, hb2]))
    exact s1
theorem c_findN (N : Nat) (x : AA h0 h k v cs M) {a : Option Addr} {c : Nat} {id : List UInt8} (ri : RB h (.slice a id.length c) id) : GTri Tryz.prog N 83 [.pointer (some ⟨k, 0, none⟩), .int .i64 (-1), .slice a id.length c] h fun u h' => HS h h' ∧ u = .agg (rQ (.slice none 0 0) (-1) ⟨false, [], [], 0, 0, [], 0, 0, 0, []⟩ (.slice none 0 0) (.slice none 0 0) (.slice none 0 0) (.slice none 0 0) false).toArray := by
  refine zU Tryz.func83 rfl gf83 ok83 (by simp [Tryz.ntmps83]) ?_
  repeat' (first | with_reducible apply qK | ((with_reducible apply qB) <;> try simp only [qN, qC, qE, qG, qD, qA, qF, seval, qQ, qO, qP, qL, qY, qZ, zC, xS, xL]))
  refine xE fun k6 h6 m6 s6 f6 n6 => ?_
  refine qJ ?_; repeat' (first | with_reducible apply qK | ((with_reducible first | apply qI | apply qB) <;> try simp only [qN, qC, qE, qG, qD, qA, qF, seval, qQ, qO, qP, qL, qY, qZ, zC, xS, xL]))
  refine (qO1 N h6 (ri.hs s6) rfl).mono ?_
  rintro _ h7 ⟨s7, ar, cr, rfl, rr, _⟩
  refine qJ ?_; repeat' (first | with_reducible apply qK | ((with_reducible first | apply qI | apply qB) <;> try simp only [qN, qC, qE, qG, qD, qA, qF, seval, qQ, qO, qP, qL, qY, qZ, zC, xS, xL, xP, xZ, vY, Shape.pl, List.all_cons, List.all_nil, zK]))
  refine xE fun k8 h8 m8 s8 f8 n8 => ?_
  refine qJ ?_; repeat' (first | ((with_reducible apply qI) <;> try simp only [qN, qC, qE, qG, qD, qA, qF, seval, qQ, qO, qP, qL, qY, qZ, zC, xS, xL]))
  refine wL m8 fT rfl (by decide) rfl rfl rfl fun h9 m9 f9 => ?_
  simp only [vcells] at m9
  have n8h : h k8 = none := (s6.trans s7).none_of n8
  have k68 : k6 ≠ k8 := yA (s7 _ _ m6) n8
  have S9 : HS h h9 := ((s6.trans s7).trans s8).upd n8h f9
  have m69 : h9 k6 = some ⟨[.slice none 0 0, .int .i64 0, .bool false, .slice none 0 0, .slice none 0 0, .int .i64 0, .int .i64 0, .slice none 0 0, .int .i64 0, .int .i64 0, .int .i64 0, .slice none 0 0, .bool false], 0, true, false⟩ := by rw [f9 k6 k68]; exact s8 _ _ (s7 _ _ m6)
  refine qJ ?_; repeat' (first | with_reducible apply qS | ((with_reducible apply qI) <;> try simp only [qN, qC, qE, qG, qD, qA, qF, seval, qQ, qO, qP, qL, qY, qZ, zC, xS, xL]))
  refine xR [0, 2, 6, 7, 8] (fun (j : Nat) => []) (fun q j h' => j = 0 ∧ q = 0 ∧ h' = h9) 0 0 (by simp [lk]) ⟨rfl, rfl, rfl⟩ ?_
  rintro _ _ _ ⟨rfl, rfl, rfl⟩
  refine qJ ?_; repeat' (first | (with_reducible first | apply qK | apply qS) | ((with_reducible first | apply qI | apply qB) <;> try simp only [qN, qC, qE, qG, qD, qA, qF, seval, qQ, qO, qP, qL, qY, qZ, zC, xS, xL, qH m9 zS]))
  refine (zQ0 N (x.hs S9) (.inl (by omega))).mono ?_
  rintro _ h10 ⟨s10, rfl⟩
  simp only [zN]
  refine qJ ?_; repeat' (first | ((with_reducible apply qI) <;> try simp only [qN, qC, qE, qG, qD, qA, qF, seval, qQ, qO, qP, qL, qY, qZ, zC, xS, xL]))
  refine xE fun k11 h11 m11 s11 f11 n11 => ?_
  refine qJ ?_; repeat' (first | ((with_reducible apply qI) <;> try simp only [qN, qC, qE, qG, qD, qA, qF, seval, qQ, qO, qP, qL, qY, qZ, zC, xS, xL]))
  refine wL m11 wE rfl (by decide) rfl rfl rfl fun h12 m12 f12 => ?_
  have S12 := s10.trans (s11.upd n11 f12)
  have m8b := S12 _ _ m9
  refine qJ ?_; repeat' (first | with_reducible apply qK | ((with_reducible first | apply qI | apply qB | apply qR) <;> try simp only [qN, qC, qE, qG, qD, qA, qF, seval, qQ, qO, qP, qL, qY, qZ, zC, xS, xL, qH m8b zS]))
  refine zW m8b zS rfl (by simp) rfl rfl fun h13 m13 f13 => ?_
  simp only [List.set_cons_zero, List.set_cons_succ] at m13
  have m613 := (f13 k6 k68).trans (S12 _ _ m69)
  have ld := zI (P := Tryz.prog) (t := 136) m13 fT rfl
  refine qJ ?_; repeat' (first | with_reducible apply qK | ((with_reducible first | apply qI | apply qB) <;> try simp only [qN, qC, qE, qG, qD, qA, qF, seval, qQ, qO, qP, qL, qY, qZ, zC, xS, xL, ld]))
  refine wL m613 fT rfl (by decide) rfl rfl rfl fun h14 m14 f14 => ?_
  simp only [vcells] at m14
  have ld2 := zI (P := Tryz.prog) (t := 136) m14 fT rfl
  refine qJ ?_; repeat' (first | ((with_reducible first | apply qI | apply qM) <;> try simp only [qN, qC, qE, qG, qD, qA, qF, seval, qQ, qO, qP, qL, qY, qZ, zC, xS, xL, uW, ld2]))
  exact ⟨((S9.trans S12).upd n8h f13).upd n6 f14, rfl⟩
theorem c_find (N : Nat) (x : AA h0 h k v cs M) {a : Option Addr} {c : Nat} {id : List UInt8} (ri : RB h (.slice a id.length c) id) (hid : id.length ≤ 140737488355328) {i e : Nat} {fs : List Nat} {nd : Nd} (w : Way M (zL id) i fs e nd) (hfs : fs.length ≤ 3000) :
    GTri Tryz.prog N 83 [.pointer (some ⟨k, 0, none⟩), .int .i64 (i : Int), .slice a id.length c] h fun u h' => HS h h' ∧ ∃ af cf a1 c1 a2 c2 a3 c3 a4 c4, u = .agg (rQ (.slice af fs.length cf) (e : Int) nd (.slice a1 nd.id.length c1) (.slice a2 nd.ky.length c2) (.slice a3 nd.pf.length c3) (.slice a4 nd.hs.length c4) (nd.lf && nd.id == id)).toArray ∧
      (∃ cells, OWNC 10 h h' (.slice af fs.length cf) fs.length cells ∧ cells.all vO = true ∧ ∀ (t : Nat) y, (fs.map (uR M))[t]? = some y → RNd h' ((cells.drop (t * 10)).take 10) y) ∧ RNd h' (nd.cs (.slice a1 nd.id.length c1) (.slice a2 nd.ky.length c2) (.slice a3 nd.pf.length c3) (.slice a4 nd.hs.length c4)) nd := by
  obtain ⟨w0, wf⟩ := w.at
  obtain ⟨we, ws⟩ := w.end
  have hkl := vV id
  refine zU Tryz.func83 rfl gf83 ok83 (by simp [Tryz.ntmps83]) ?_
  repeat' (first | with_reducible apply qK | ((with_reducible apply qB) <;> try simp only [qN, qC, qE, qG, qD, qA, qF, seval, qQ, qO, qP, qL, qY, qZ, zC, xS, xL]))
  refine xE fun k6 h6 m6 s6 f6 n6 => ?_
  refine qJ ?_; repeat' (first | with_reducible apply qK | ((with_reducible first | apply qI | apply qB) <;> try simp only [qN, qC, qE, qG, qD, qA, qF, seval, qQ, qO, qP, qL, qY, qZ, zC, xS, xL]))
  refine (qO1 N h6 (ri.hs s6) rfl).mono ?_
  rintro _ h7 ⟨s7, ar, cr, rfl, rr, _⟩
  refine qJ ?_; repeat' (first | with_reducible apply qK | ((with_reducible first | apply qI | apply qB) <;> try simp only [qN, qC, qE, qG, qD, qA, qF, seval, qQ, qO, qP, qL, qY, qZ, zC, xS, xL, xP, xZ, vY, Shape.pl, List.all_cons, List.all_nil, zK]))
  refine xE fun k8 h8 m8 s8 f8 n8 => ?_
  refine qJ ?_; repeat' (first | ((with_reducible apply qI) <;> try simp only [qN, qC, qE, qG, qD, qA, qF, seval, qQ, qO, qP, qL, qY, qZ, zC, xS, xL]))
  refine wL m8 fT rfl (by decide) rfl rfl rfl fun h9 m9 f9 => ?_
  simp only [vcells] at m9
  have n8h : h k8 = none := (s6.trans s7).none_of n8
  have k68 : k6 ≠ k8 := yA (s7 _ _ m6) n8
  have S79 : HS h7 h9 := s8.upd n8 f9
  have S9 : HS h h9 := (s6.trans s7).trans S79
  have m69 : h9 k6 = some ⟨[.slice none 0 0, .int .i64 0, .bool false, .slice none 0 0, .slice none 0 0, .int .i64 0, .int .i64 0, .slice none 0 0, .int .i64 0, .int .i64 0, .int .i64 0, .slice none 0 0, .bool false], 0, true, false⟩ := by rw [f9 k6 k68]; exact s8 _ _ (s7 _ _ m6)
  have sb : HS h (kP k8 h9) := rW S9 n8h
  have rb : RB (kP k8 h9) (.slice ar (zL id).length cr) (zL id) := rr.hs (rW S79 n8)
  have sb9 : HS (kP k8 h9) h9 := rX k8 h9
  have m6b := (lV h9 _ k68).trans m69
  have nb8 : kP k8 h9 k8 = none := qC9 k8 h9
  generalize kP k8 h9 = hb at sb rb sb9 m6b nb8
  refine qJ ?_; repeat' (first | with_reducible apply qS | ((with_reducible apply qI) <;> try simp only [qN, qC, qE, qG, qD, qA, qF, seval, qQ, qO, qP, qL, qY, qZ, zC, xS, xL]))
  refine xR [0, 2, 6, 7, 8] (fun (j : Nat) => []) (fun q j h' => fs.length - j = q ∧ j ≤ fs.length ∧ HS hb h' ∧ ∃ (af : Option Addr) (cf : Nat) (cells : List Value) (p : Nat), h' k8 = some ⟨[.slice af j cf, .int .i64 (p : Int), .bool false, .slice none 0 0, .slice none 0 0, .int .i64 0, .int .i64 0, .slice none 0 0, .int .i64 0, .int .i64 0, .int .i64 0, .slice none 0 0, .bool false], 0, true, false⟩ ∧
      (fs ++ [e])[j]? = some p ∧ OWNC 10 hb h' (.slice af j cf) j cells ∧ cells.all vO = true ∧ ∀ (t : Nat) y, t < j → (fs.map (uR M))[t]? = some y → RNd h' ((cells.drop (t * 10)).take 10) y) fs.length 0 (by simp [lk]) ⟨rfl, by omega, sb9, none, 0, [], i, m9, w0, OWNC.nil _ _ _, rfl, fun t y ht => by omega⟩ ?_
  rintro _ j h10 ⟨rfl, hj, s10, af, cf, cells, p, m10, hp, ow, hu, hel⟩
  have hpM : ∃ y, M[p]? = some y ∧ (j < fs.length → fs[j]? = some p ∧ kF (zL id) y = false) ∧ (j = fs.length → e = p ∧ nd = y) := by
    by_cases hjl : j < fs.length
    · rw [List.getElem?_append_left hjl] at hp
      obtain ⟨y, q1, q2, _⟩ := wf j p hp
      exact ⟨y, q1, fun _ => ⟨hp, q2⟩, fun q => by omega⟩
    · have : j = fs.length := by omega
      subst this
      rw [List.getElem?_append_right (by omega), Nat.sub_self] at hp
      cases hp
      exact ⟨nd, we, fun q => by omega, fun _ => ⟨rfl, rfl⟩⟩
  obtain ⟨y, hy, yg, ye⟩ := hpM
  have x10 := (x.hs sb).hs s10
  have oky := x10.arr.ok.ok p y hy
  have hpf := oky.pf
  refine qJ ?_; repeat' (first | (with_reducible first | apply qK | apply qS) | ((with_reducible first | apply qI | apply qB) <;> try simp only [qN, qC, qE, qG, qD, qA, qF, seval, qQ, qO, qP, qL, qY, qZ, zC, xS, xL, qH m10 zS]))
  refine (c_Node N x10 hy).mono ?_
  rintro _ h11 ⟨s11, cn, rfl, r11⟩
  obtain ⟨a1, c1, a2, c2, a3, c3, a4, c4, rfl, r1, r2, r3, r4⟩ := r11
  refine qJ ?_; repeat' (first | ((with_reducible apply qI) <;> try simp only [qN, qC, qE, qG, qD, qA, qF, seval, qQ, qO, qP, qL, qY, qZ, zC, xS, xL]))
  refine xE fun k12 h12 m12 s12 f12 n12 => ?_
  refine qJ ?_; repeat' (first | ((with_reducible apply qI) <;> try simp only [qN, qC, qE, qG, qD, qA, qF, seval, qQ, qO, qP, qL, qY, qZ, zC, xS, xL]))
  refine xY m12 wE rfl (by decide) rfl rfl rfl fun h13 m13 f13 => ?_
  simp only [Nd.cs] at m13
  have S13 := s11.trans (s12.upd n12 f13)
  have m8b := S13 _ _ m10
  have z : ∀ {v l}, RB h11 v l → RB h13 v l := fun r => r.hs (s12.upd n12 f13)
  have q1 := z r1
  have q2 := z r2
  have q3 := z r3
  have q4 := z r4
  have rn : RNd h13 (y.cs (.slice a1 y.id.length c1) (.slice a2 y.ky.length c2) (.slice a3 y.pf.length c3) (.slice a4 y.hs.length c4)) y := ⟨a1, c1, a2, c2, a3, c3, a4, c4, rfl, q1, q2, q3, q4⟩
  have rb13 := (rb.hs s10).hs S13
  by_cases hjl : j < fs.length
  case neg =>
    obtain ⟨rfl, rfl⟩ := ye (by omega)
    obtain rfl : j = fs.length := by omega
    cases hlf : nd.lf
    case true =>
      rw [hlf] at m13
      have ld := zI (P := Tryz.prog) (t := 92) m13 wE rfl
      refine qJ ?_; repeat' (first | with_reducible apply qK | ((first | (with_reducible first | apply qI | apply qB | apply qR | apply qT) | with_reducible refine zE xL xC (by kernel_rfl) ?_ | ((refine GTri.mono (qZ4 _ _ q1 (((ri.hs sb).hs s10).hs S13)) ?_); rintro _ _ ⟨rfl, hh9⟩; replace hh9 := hh9.symm; subst hh9)) <;> try simp only [qN, qC, qE, qG, qD, qA, qF, seval, qQ, qO, qP, qL, qY, qZ, zC, xS, xL, qH m13 gV, qH m13 zD, qH m13 zS, ld]))
      refine st_mid m8b rfl wE (by decide) rfl (by simp) rfl fun h14 m14 f14 => ?_
      simp only [jE, vcells, List.take_succ_cons, List.take_zero, List.drop_succ_cons, List.drop_zero, List.cons_append, List.nil_append, List.length_cons, List.length_nil, Nat.reduceAdd] at m14
      have k812 : k12 ≠ k8 := (yA (s11 _ _ m10) n12).symm
      have m134 := (f14 k12 k812).trans m13
      have ld4 := zI (P := Tryz.prog) (t := 92) m134 wE rfl
      refine qJ ?_; repeat' (first | ((with_reducible apply qI) <;> try simp only [qN, qC, qE, qG, qD, qA, qF, seval, qQ, qO, qP, qL, qY, qZ, zC, xS, xL, qH m134 gV, qH m134 zD, qH m134 zS, ld4]))
      refine zW m14 gV rfl (by simp) rfl rfl fun h15 m15 f15 => ?_
      simp only [List.set_cons_zero, List.set_cons_succ] at m15
      have m65 : h15 k6 = _ := (f15 k6 k68).trans ((f14 k6 k68).trans (S13 _ _ (s10 _ _ m6b)))
      have ld5 := zI (P := Tryz.prog) (t := 136) m15 fT rfl
      refine qJ ?_; repeat' (first | with_reducible apply qK | ((with_reducible first | apply qI | apply qB) <;> try simp only [qN, qC, qE, qG, qD, qA, qF, seval, qQ, qO, qP, qL, qY, qZ, zC, xS, xL, ld5]))
      refine wL m65 fT rfl (by decide) rfl rfl rfl fun h16 m16 f16 => ?_
      simp only [vcells] at m16
      have ld6 := zI (P := Tryz.prog) (t := 136) m16 fT rfl
      refine qJ ?_; repeat' (first | ((with_reducible first | apply qI | apply qM) <;> try simp only [qN, qC, qE, qG, qD, qA, qF, seval, qQ, qO, qP, qL, qY, qZ, zC, xS, xL, uW, ld6]))
      have zz : ∀ {v l}, RB h13 v l → RB h16 v l := fun r => ((r.hx m8b rfl (zH f14)).hx m14 rfl (zH f15)).hx m65 rfl (zH f16)
      have zr : ∀ {cs x}, RNd h13 cs x → RNd h16 cs x := fun r => ((r.hx m8b rfl (zH f14)).hx m14 rfl (zH f15)).hx m65 rfl (zH f16)
      refine ⟨((((S9.of2 sb (s10.trans S13)).upd n8h f14).upd n8h f15).upd n6 f16), af, cf, a1, c1, a2, c2, a3, c3, a4, c4, by simp [rQ, hlf], ?_, zr rn⟩
      have ow2 := ((((ow.hs S13).by5 m8b f14).by5 m14 f15).by5 m65 f16)
      exact ⟨cells, ow2.weak sb, hu, fun t y hy => zr ((hel t y (by have := (List.getElem?_eq_some_iff.1 hy).1; simp at this; omega) hy).hs S13)⟩
    have hnb : tV (zL id) nd.pf (nd.dp : Int) = false := by
      unfold kF at ws
      rw [hlf] at ws
      simpa using ws
    rw [hlf] at m13
    have ld := zI (P := Tryz.prog) (t := 92) m13 wE rfl
    refine qJ ?_; repeat' (first | with_reducible apply qK | ((first | (with_reducible first | apply qI | apply qB | apply qR | apply qT) | with_reducible refine zE xL xC (by kernel_rfl) ?_ | ((refine GTri.mono (pT _ _ rb13 q3 (by omega) (by omega) _) ?_); rintro _ _ ⟨rfl, hh9⟩; replace hh9 := hh9.symm; subst hh9)) <;> try simp only [qN, qC, qE, qG, qD, qA, qF, seval, qQ, qO, qP, qL, qY, qZ, zC, xS, xL, qH m13 gV, qH m13 zD, qH m13 zS, ld, hnb]))
    refine st_mid m8b rfl wE (by decide) rfl (by simp) rfl fun h14 m14 f14 => ?_
    simp only [jE, vcells, List.take_succ_cons, List.take_zero, List.drop_succ_cons, List.drop_zero, List.cons_append, List.nil_append, List.length_cons, List.length_nil, Nat.reduceAdd] at m14
    have k812 : k12 ≠ k8 := (yA (s11 _ _ m10) n12).symm
    have m134 := (f14 k12 k812).trans m13
    have ld4 := zI (P := Tryz.prog) (t := 92) m134 wE rfl
    refine qJ ?_; repeat' (first | ((with_reducible apply qI) <;> try simp only [qN, qC, qE, qG, qD, qA, qF, seval, qQ, qO, qP, qL, qY, qZ, zC, xS, xL, qH m134 gV, qH m134 zD, qH m134 zS, ld4]))
    refine zW m14 gV rfl (by simp) rfl rfl fun h15 m15 f15 => ?_
    simp only [List.set_cons_zero, List.set_cons_succ] at m15
    have m65 : h15 k6 = _ := (f15 k6 k68).trans ((f14 k6 k68).trans (S13 _ _ (s10 _ _ m6b)))
    have ld5 := zI (P := Tryz.prog) (t := 136) m15 fT rfl
    refine qJ ?_; repeat' (first | with_reducible apply qK | ((with_reducible first | apply qI | apply qB) <;> try simp only [qN, qC, qE, qG, qD, qA, qF, seval, qQ, qO, qP, qL, qY, qZ, zC, xS, xL, ld5]))
    refine wL m65 fT rfl (by decide) rfl rfl rfl fun h16 m16 f16 => ?_
    simp only [vcells] at m16
    have ld6 := zI (P := Tryz.prog) (t := 136) m16 fT rfl
    refine qJ ?_; repeat' (first | ((with_reducible first | apply qI | apply qM) <;> try simp only [qN, qC, qE, qG, qD, qA, qF, seval, qQ, qO, qP, qL, qY, qZ, zC, xS, xL, uW, ld6]))
    have zz : ∀ {v l}, RB h13 v l → RB h16 v l := fun r => ((r.hx m8b rfl (zH f14)).hx m14 rfl (zH f15)).hx m65 rfl (zH f16)
    have zr : ∀ {cs x}, RNd h13 cs x → RNd h16 cs x := fun r => ((r.hx m8b rfl (zH f14)).hx m14 rfl (zH f15)).hx m65 rfl (zH f16)
    refine ⟨((((S9.of2 sb (s10.trans S13)).upd n8h f14).upd n8h f15).upd n6 f16), af, cf, a1, c1, a2, c2, a3, c3, a4, c4, by simp [rQ, hlf], ?_, zr rn⟩
    have ow2 := ((((ow.hs S13).by5 m8b f14).by5 m14 f15).by5 m65 f16)
    exact ⟨cells, ow2.weak sb, hu, fun t y hy => zr ((hel t y (by have := (List.getElem?_eq_some_iff.1 hy).1; simp at this; omega) hy).hs S13)⟩
  obtain ⟨hfj, hst⟩ := yg hjl
  obtain ⟨hlf, hbg⟩ := yE hst
  rw [hlf] at m13
  have rnl : RNd h13 [.bool false, .slice a1 y.id.length c1, .slice a2 y.ky.length c2, .int .i64 y.si, .int .i64 y.dp, .slice a3 y.pf.length c3, .int .i64 y.nw, .int .i64 y.l, .int .i64 y.r, .slice a4 y.hs.length c4] y := by
    have := rn
    simp only [Nd.cs, hlf] at this
    exact this
  have ld := zI (P := Tryz.prog) (t := 92) m13 wE rfl
  refine qJ ?_; repeat' (first | with_reducible apply qK | ((first | (with_reducible first | apply qI | apply qB | apply qR | apply qT) | ((refine GTri.mono (pT _ _ rb13 q3 (by omega) (by omega) _) ?_); rintro _ _ ⟨rfl, hh9⟩; replace hh9 := hh9.symm; subst hh9)) <;> try simp only [qN, qC, qE, qG, qD, qA, qF, seval, qQ, qO, qP, qL, qY, qZ, zC, xS, xL, qH m13 gV, qH m13 zD, qH m13 zS, qH m8b uL, ld, hbg]))
  refine qO4 zF0 rfl rfl (by decide) (by decide) rfl fun k14 h14 b14 s14 f14 n14 => ?_
  have m14 := s14 _ _ m8b
  have S14 := S13.trans s14
  refine qJ ?_; repeat' (first | ((with_reducible apply qI) <;> try simp only [qN, qC, qE, qG, qD, qA, qF, seval, qQ, qO, qP, qL, qY, qZ, zC, xS, xL]))
  refine gG zF0 Tryz.underlying131 rfl (s10.trans S14) (ow.hs S14) b14 rfl rfl (by omega) (by simp only [maxLen]; omega) fun v15 h15 s15 fr15 o15 => ?_
  obtain ⟨a15, c15, rfl⟩ := o15.form
  have m15 := qH1 fr15 m14 (by simp)
  have m1315 := qH1 fr15 (s14 _ _ m13) (by simp)
  refine qJ ?_; repeat' (first | ((with_reducible apply qI) <;> try simp only [qN, qC, qE, qG, qD, qA, qF, seval, qQ, qO, qP, qL, qY, qZ, zC, xS, xL]))
  refine zW m15 uL rfl (by simp) rfl rfl fun h16 m16 f16 => ?_
  simp only [List.set_cons_zero, List.set_cons_succ] at m16
  have k812 : k12 ≠ k8 := (yA (s11 _ _ m10) n12).symm
  have m1316 := (f16 k12 k812).trans m1315
  have ld6 := zI (P := Tryz.prog) (t := 92) m1316 wE rfl
  have zz : ∀ {v l}, RB h13 v l → RB h16 v l := fun r => (fr_rb fr15 hu (r.hs s14)).hx m15 rfl (zH f16)
  have zr : ∀ {cs x}, RNd h13 cs x → RNd h16 cs x := fun r => by
    obtain ⟨a1, c1, a2, c2, a3, c3, a4, c4, rfl, r1, r2, r3, r4⟩ := r
    exact ⟨a1, c1, a2, c2, a3, c3, a4, c4, rfl, zz r1, zz r2, zz r3, zz r4⟩
  have s16 : HS hb h16 := s15.upd nb8 f16
  refine qJ ?_; repeat' (first | ((with_reducible first | apply qI | apply qB) <;> try simp only [qN, qC, qE, qG, qD, qA, qF, seval, qQ, qO, qP, qL, qY, qZ, zC, xS, xL, ld6]))
  refine (c_below N (zr rnl) (rb.hs s16) oky.dp).mono ?_
  rintro _ h17 ⟨s17, rfl⟩
  refine qJ ?_; repeat' (first | ((with_reducible apply qI) <;> try simp only [qN, qC, qE, qG, qD, qA, qF, seval, qQ, qO, qP, qL, qY, qZ, zC, xS, xL]))
  refine zW (s17 _ _ m16) zS rfl (by simp) rfl rfl fun h18 m18 f18 => ?_
  simp only [List.set_cons_zero, List.set_cons_succ] at m18
  obtain ⟨y', hy', _, hkid⟩ := wf j p hfj
  rw [hy] at hy'
  cases hy'
  have z18 : ∀ {cs x}, RNd h16 cs x → RNd h18 cs x := fun r => (r.hs s17).hx (s17 _ _ m16) rfl (zH f18)
  have ej := ow.len
  refine qJ ?_; repeat' (first | ((with_reducible apply qI) <;> try simp only [qN, qC, qE, qG, qD, qA, qF, seval, qQ, qO, qP, qL, qY, qZ, zC, xS, xL]))
  refine ⟨_, j + 1, by omega, (by simp only [List.forall_mem_cons, List.not_mem_nil, false_implies, implies_true, List.map, List.cons_append, List.nil_append, lk, Nat.reduceEqDiff, reduceIte, and_true, true_and]), rfl, by omega, (s16.trans s17).upd nb8 f18, a15, c15, _, rV (zL id) y, m18, hkid, ((o15.by5 m15 f16).hs s17).by5 (s17 _ _ m16) f18, ?_, fun t z ht hz => ?_⟩
  · rw [List.all_append, hu]; rfl
  · by_cases htj : t < j
    · have h1 := hel t z htj hz
      rw [List.drop_append_of_le_length (by omega), List.take_append_of_le_length (by rw [List.length_drop]; omega)]
      exact z18 (zr (h1.hs S13))
    · obtain rfl : t = j := by omega
      rw [← ej, List.drop_left]
      have : z = y := by
        rw [List.getElem?_map, hfj] at hz
        simp only [Option.map_some, Option.some.injEq] at hz
        rw [← hz, wT hy]
      subst this
      exact z18 (zr rnl)
end
theorem sA : type_of% (And.intro mS (And.intro xB rs130)) := And.intro mS (And.intro xB rs130)
def dR : Nat → List (Nat × List Nat) × List Nat
  | 3 => ([(0, []), (1, []), (2, []), (3, []), (4, []), (5, []), (6, []), (7, []), (8, []), (9, []), (10, []), (11, []), (12, []), (13, []), (14, []), (15, [])], [0, 0, 0, 0, 0, 0, 48, 112, 0, 0, 768, 1792, 4083, 8179, 16383, 32767])
  | _ => ([], [])
theorem yC : type_of% (And.intro Tryz.underlying170 (And.intro mS (And.intro uK (And.intro zF (And.intro vT (And.intro qG2 (And.intro vU (And.intro ty170 (And.intro xB (And.intro uI (And.intro jJ (And.intro wF rs87)))))))))))) := And.intro Tryz.underlying170 (And.intro mS (And.intro uK (And.intro zF (And.intro vT (And.intro qG2 (And.intro vU (And.intro ty170 (And.intro xB (And.intro uI (And.intro jJ (And.intro wF rs87)))))))))))
theorem zD6 : type_of% (And.intro uK (And.intro vU rs88)) := And.intro uK (And.intro vU rs88)
theorem yV : type_of% (And.intro uK (And.intro zF (And.intro vU (And.intro xB (And.intro uI rs131))))) := And.intro uK (And.intro zF (And.intro vU (And.intro xB (And.intro uI rs131))))
section
variable {h0 h h' : GH} {k : Nat} {v : Value} {cs : List Value} {M : List Nd}
theorem zN8 {k i : Nat} (h : i < 2) : zJ Tryz.prog 170 (.pointer (some ⟨k, 0, none⟩)) (i : Int) = some (.pointer (some ⟨k, i, none⟩)) := by
  simp [zJ, Tryz.underlying170, zS]; omega
theorem c_Rev2 (N : Nat) {k : Nat} {h : GH} {p q : Int} {c : Nat} (m : h k = some ⟨[.int .i64 p, .int .i64 q], 0, true, false⟩) : GTri Tryz.prog N 130 [.slice (some ⟨k, 0, none⟩) 2 c] h fun u h' => u = .tuple #[] ∧ h' k = some ⟨[.int .i64 q, .int .i64 p], 0, true, false⟩ ∧ HX k h h' := by
  have g0 : zJ Tryz.prog 127 (.slice (some ⟨k, 0, none⟩) 2 c) 0 = some (.pointer (some ⟨k, 0, none⟩)) := by simp [zJ, Tryz.underlying127, zS]
  have g1 : zJ Tryz.prog 127 (.slice (some ⟨k, 0, none⟩) 2 c) 1 = some (.pointer (some ⟨k, 1, none⟩)) := by simp [zJ, Tryz.underlying127, zS]
  refine zU Tryz.func130 rfl gf130 ok130 (by simp [Tryz.ntmps130]) ?_
  refine qJ ?_; repeat' (first | (with_reducible first | apply qK | apply qS) | ((with_reducible first | apply qI | apply qB) <;> try simp only [qN, qC, qE, qG, qD, qA, qF, seval, qQ, qO, qP, qL, qY, qZ, zC, sA, dR]))
  refine xR [0] (fun (j : Nat) => [(2, .int .i64 (j : Int)), (3, .int .i64 (1 - (j : Int)))]) (fun n j h' => n = 1 - j ∧ (j = 0 ∧ h' = h ∨ j = 1 ∧ h' k = some ⟨[.int .i64 q, .int .i64 p], 0, true, false⟩ ∧ HX k h h')) 1 0 (by simp [lk]) ⟨rfl, .inl ⟨rfl, rfl⟩⟩ ?_
  rintro _ j h1 ⟨rfl, ⟨rfl, rfl⟩ | ⟨rfl, m1, x1⟩⟩
  case inr =>
    refine qJ ?_; repeat' (first | with_reducible apply qK | ((with_reducible first | apply qI | apply qB | apply qR | apply xT) <;> try simp only [qN, qC, qE, qG, qD, qA, qF, seval, qQ, qO, qP, qL, qY, qZ, zC, sA, dR, Int.natCast_one, Int.sub_self, Int.reduceLT]))
    exact ⟨m1, x1⟩
  have e0 : ((0 : Nat) : Int) = 0 := rfl
  have e1 : (1 : Int) - ((0 : Nat) : Int) = 1 := rfl
  refine qJ ?_; repeat' (first | (with_reducible first | apply qK | apply qS) | ((first | (with_reducible first | apply qI | apply qB | apply qR | apply qT) | with_reducible refine zE dR xC (by kernel_rfl) ?_) <;> try simp only [qN, qC, qE, qG, qD, qA, qF, seval, qQ, qO, qP, qL, qY, qZ, zC, sA, dR, e0, e1, Int.sub_zero, Int.reduceLT, g0, g1, qH m zS]))
  refine zW m zS rfl (by simp) rfl rfl fun h2 m2 f2 => ?_
  simp only [List.set_cons_zero, List.set_cons_succ] at m2
  have w1 : IntKind.i64.wrap ((0 : Int) + 1) = 1 := rfl
  have w2 : IntKind.i64.wrap ((1 : Int) - 1) = 0 := rfl
  refine qJ ?_; repeat' (first | ((with_reducible apply qI) <;> try simp only [qN, qC, qE, qG, qD, qA, qF, seval, qQ, qO, qP, qL, qY, qZ, zC, sA, dR, e0, e1, Int.sub_zero, Int.reduceLT, g0, g1, qH m2 zS]))
  refine zW m2 zS rfl (by simp) rfl rfl fun h3 m3 f3 => ?_
  simp only [List.set_cons_zero, List.set_cons_succ] at m3
  refine qJ ?_; repeat' (first | ((with_reducible first | apply qI | apply qB) <;> try simp only [qN, qC, qE, qG, qD, qA, qF, seval, qQ, qO, qP, qL, qY, qZ, zC, sA, dR, e0, e1, w1, w2, Int.sub_zero, Int.reduceLT, g0, g1, qH m3 zS]))
  exact ⟨_, 1, by omega, (by simp [lk]), rfl, .inr ⟨rfl, m3, (zH f2).trans (zH f3)⟩⟩
theorem c_part (N : Nat) (s0 : HS h0 h) (t : TK h0) (x : AA h0 h k v cs M) {a : Option Addr} {c : Nat} {row : List UInt8} (rr : RB h (.slice a row.length c) row) (hrow : row.length ≤ 60000) {now e : Nat} (hnow : now < M.length) (he : e < M.length) (hm : M.length < 10000) {nd : Nd} {i : Nat} (ok : nd.ok i) (f : Value) (hf : zK f = true) (b : Bool)
    {a1 a2 a3 a4 : Option Addr} {c1 c2 c3 c4 : Nat} (rn : RNd h (nd.cs (.slice a1 nd.id.length c1) (.slice a2 nd.ky.length c2) (.slice a3 nd.pf.length c3) (.slice a4 nd.hs.length c4)) nd) (q1 : RB h (.slice a1 nd.id.length c1) nd.id) (q3 : RB h (.slice a3 nd.pf.length c3) nd.pf) :
    GTri Tryz.prog N 87 [.pointer (some ⟨k, 0, none⟩), .slice a row.length c, .int .i64 (now : Int), .agg (rQ f (e : Int) nd (.slice a1 nd.id.length c1) (.slice a2 nd.ky.length c2) (.slice a3 nd.pf.length c3) (.slice a4 nd.hs.length c4) b).toArray] h fun u h' =>
      u = .int .i64 ((fV row M now e nd).2 : Int) ∧ HS h0 h' ∧ FR 11 k h h' ∧ ∃ v' cs', AA h0 h' k v' cs' (fV row M now e nd).1 := by
  have hle := lR row (uU nd)
  have l1 := ok.id
  have l3 := ok.pf
  have hid : nd.lf = true → uU nd = zL nd.id := fun q => by unfold uU; rw [if_pos q]
  have hpf : nd.lf = false → uU nd = nd.pf := fun q => by unfold uU; rw [q]; rfl
  have hkl := vV nd.id
  refine zU Tryz.func87 rfl gf87 ok87 (by simp [Tryz.ntmps87]) ?_
  repeat' (first | with_reducible apply qK | ((with_reducible apply qB) <;> try simp only [qN, qC, qE, qG, qD, qA, qF, seval, qQ, qO, qP, yC]))
  refine wP (by simp only [List.toList_toArray, rQ, List.all_cons, List.all_nil, hf]; rfl) fun k1 h1 m1 s1 f1 n1 => ?_
  simp only [rQ] at m1
  generalize hd : yW row (uU nd) = d at hle
  cases hlf : nd.lf
  · rw [hlf] at m1
    have hd0 := hd
    rw [hpf hlf] at hd
    have S9 := s1
    have m1h := m1
    refine qJ ?_; repeat' (first | with_reducible apply qK | ((first | (with_reducible first | apply qI | apply qB | apply qR | apply qT) | ((refine GTri.mono (qB7 _ _ (rr.hs s1) (q3.hs s1) rfl rfl (by omega)) ?_); rintro _ _ ⟨rfl, hh9⟩; replace hh9 := hh9.symm; subst hh9)) <;> try simp only [qN, qC, qE, qG, qD, qA, qF, seval, qQ, qO, qP, yC, hd, qH m1 zD, qH m1 gV, qH m1 zS, xP, xZ, vY, Shape.pl, List.all_cons, List.all_nil, zK]))
    refine xE fun k10 h10 m10 s10 f10 n10 => ?_
    refine qJ ?_; repeat' (first | ((with_reducible apply qI) <;> try simp only [qN, qC, qE, qG, qD, qA, qF, seval, qQ, qO, qP, yC]))
    refine wL m10 sz170 rfl (by decide) rfl rfl rfl fun h11 m11 f11 => ?_
    simp only [vcells] at m11
    have n10h : h k10 = none := S9.none_of n10
    have k1k : k1 ≠ k10 := yA m1h n10
    have S11 : HS h h11 := S9.trans (s10.upd n10 f11)
    have gi0 : zJ Tryz.prog 170 (.pointer (some ⟨k10, 0, none⟩)) 0 = some (.pointer (some ⟨k10, 0, none⟩)) := zN8 (i := 0) (by omega)
    have gi1 : zJ Tryz.prog 170 (.pointer (some ⟨k10, 0, none⟩)) 1 = some (.pointer (some ⟨k10, 1, none⟩)) := zN8 (i := 1) (by omega)
    cases hbt : (xA row d == 1)
    · have hbq : (xA row d = 1) = False := by simpa using hbt
      have m1011 := (f11 k1 k1k).trans (s10 _ _ m1h)
      have rr11 : RB h11 (.slice a row.length c) row := (rr.hs S9).hs (s10.upd n10 f11)
      refine qJ ?_; repeat' (first | with_reducible apply qK | ((first | (with_reducible first | apply qI | apply qB | apply qR | apply qT) | ((refine GTri.mono (dJ _ _ rr11 d (by omega)) ?_); rintro _ _ ⟨rfl, hh9⟩; replace hh9 := hh9.symm; subst hh9)) <;> try simp only [qN, qC, qE, qG, qD, qA, qF, seval, qQ, qO, qP, yC, hbt, qH m1011 zS]))
      have m12 := m11
      have S12 := S11
      refine qJ ?_; repeat' (first | ((with_reducible apply qI) <;> try simp only [qN, qC, qE, qG, qD, qA, qF, seval, qQ, qO, qP, yC, gi0, gi1, qH m12 zS]))
      refine (sG N (s0.trans S12) t (x.hs S12) (rr.hs S12) hrow (d := d) (l := now) (r := e) (by omega) (by omega) (by omega) hm).mono ?_
      rintro _ h13 ⟨rfl, s13, fr13, v', cs', x13⟩
      have ep : fV row M now e nd = (M ++ [vF M d row now e], M.length) := by
        unfold fV
        rw [hd0]
        simp only [hbq, if_true, if_false]
      refine qJ ?_; repeat' (first | with_reducible apply qK | ((with_reducible first | apply qI | apply qB | apply qM) <;> try simp only [qN, qC, qE, qG, qD, qA, qF, seval, qQ, qO, qP, yC]))
      rw [ep]
      exact ⟨rfl, s13, (FR.of S12).trans fr13, v', cs', x13⟩
    · have hbq : (xA row d = 1) = True := by simpa using hbt
      have gs2 : vW Tryz.prog 170 h11 (.pointer (some ⟨k10, 0, none⟩)) none none none = some (.slice (some ⟨k10, 0, none⟩) 2 5) := by simp [vW, Tryz.underlying170, zS, gM, dP]
      have m1011 := (f11 k1 k1k).trans (s10 _ _ m1h)
      have rr11 : RB h11 (.slice a row.length c) row := (rr.hs S9).hs (s10.upd n10 f11)
      refine qJ ?_; repeat' (first | with_reducible apply qK | ((first | (with_reducible first | apply qI | apply qB | apply qR) | ((refine GTri.mono (dJ _ _ rr11 d (by omega)) ?_); rintro _ _ ⟨rfl, hh9⟩; replace hh9 := hh9.symm; subst hh9)) <;> try simp only [qN, qC, qE, qG, qD, qA, qF, seval, qQ, qO, qP, yC, hbt, gs2, qH m1011 zS]))
      refine (c_Rev2 N m11).mono ?_
      rintro _ h12 ⟨rfl, m12, x12⟩
      have S12 : HS h h12 := fun j B m => x12 j B (fun q => by rw [q, n10h] at m; cases m) (S11 j B m)
      refine qJ ?_; repeat' (first | with_reducible apply qK | ((with_reducible first | apply qI | apply qB) <;> try simp only [qN, qC, qE, qG, qD, qA, qF, seval, qQ, qO, qP, yC, gi0, gi1, qH m12 zS]))
      refine (sG N (s0.trans S12) t (x.hs S12) (rr.hs S12) hrow (d := d) (l := e) (r := now) (by omega) (by omega) (by omega) hm).mono ?_
      rintro _ h13 ⟨rfl, s13, fr13, v', cs', x13⟩
      have ep : fV row M now e nd = (M ++ [vF M d row e now], M.length) := by
        unfold fV
        rw [hd0]
        simp only [hbq, if_true, if_false]
      refine qJ ?_; repeat' (first | with_reducible apply qK | ((with_reducible first | apply qI | apply qB | apply qM) <;> try simp only [qN, qC, qE, qG, qD, qA, qF, seval, qQ, qO, qP, yC]))
      rw [ep]
      exact ⟨rfl, s13, (FR.of S12).trans fr13, v', cs', x13⟩
  · rw [hlf] at m1
    have hd0 := hd
    rw [hid hlf] at hd
    refine qJ ?_; repeat' (first | with_reducible apply qK | ((with_reducible first | apply qI | apply qB | apply qR) <;> try simp only [qN, qC, qE, qG, qD, qA, qF, seval, qQ, qO, qP, yC, qH m1 zD, qH m1 gV, qH m1 zS]))
    refine (qO1 N h1 (q1.hs s1) rfl).mono ?_
    rintro _ h9 ⟨s9, ar, cr, rfl, rk, _⟩
    have S9 := s1.trans s9
    have m1h := s9 _ _ m1
    refine qJ ?_; repeat' (first | with_reducible apply qK | ((first | (with_reducible first | apply qI | apply qB) | ((refine GTri.mono (qB7 _ _ (rr.hs S9) rk rfl rfl (by omega)) ?_); rintro _ _ ⟨rfl, hh9⟩; replace hh9 := hh9.symm; subst hh9)) <;> try simp only [qN, qC, qE, qG, qD, qA, qF, seval, qQ, qO, qP, yC, hd, qH m1h zD, qH m1h gV, qH m1h zS, xP, xZ, vY, Shape.pl, List.all_cons, List.all_nil, zK]))
    refine xE fun k10 h10 m10 s10 f10 n10 => ?_
    refine qJ ?_; repeat' (first | ((with_reducible apply qI) <;> try simp only [qN, qC, qE, qG, qD, qA, qF, seval, qQ, qO, qP, yC]))
    refine wL m10 sz170 rfl (by decide) rfl rfl rfl fun h11 m11 f11 => ?_
    simp only [vcells] at m11
    have n10h : h k10 = none := S9.none_of n10
    have k1k : k1 ≠ k10 := yA m1h n10
    have S11 : HS h h11 := S9.trans (s10.upd n10 f11)
    have gi0 : zJ Tryz.prog 170 (.pointer (some ⟨k10, 0, none⟩)) 0 = some (.pointer (some ⟨k10, 0, none⟩)) := zN8 (i := 0) (by omega)
    have gi1 : zJ Tryz.prog 170 (.pointer (some ⟨k10, 0, none⟩)) 1 = some (.pointer (some ⟨k10, 1, none⟩)) := zN8 (i := 1) (by omega)
    cases hbt : (xA row d == 1)
    · have hbq : (xA row d = 1) = False := by simpa using hbt
      have m1011 := (f11 k1 k1k).trans (s10 _ _ m1h)
      have rr11 : RB h11 (.slice a row.length c) row := (rr.hs S9).hs (s10.upd n10 f11)
      refine qJ ?_; repeat' (first | with_reducible apply qK | ((first | (with_reducible first | apply qI | apply qB | apply qR | apply qT) | ((refine GTri.mono (dJ _ _ rr11 d (by omega)) ?_); rintro _ _ ⟨rfl, hh9⟩; replace hh9 := hh9.symm; subst hh9)) <;> try simp only [qN, qC, qE, qG, qD, qA, qF, seval, qQ, qO, qP, yC, hbt, qH m1011 zS]))
      have m12 := m11
      have S12 := S11
      refine qJ ?_; repeat' (first | ((with_reducible apply qI) <;> try simp only [qN, qC, qE, qG, qD, qA, qF, seval, qQ, qO, qP, yC, gi0, gi1, qH m12 zS]))
      refine (sG N (s0.trans S12) t (x.hs S12) (rr.hs S12) hrow (d := d) (l := now) (r := e) (by omega) (by omega) (by omega) hm).mono ?_
      rintro _ h13 ⟨rfl, s13, fr13, v', cs', x13⟩
      have ep : fV row M now e nd = (M ++ [vF M d row now e], M.length) := by
        unfold fV
        rw [hd0]
        simp only [hbq, if_true, if_false]
      refine qJ ?_; repeat' (first | with_reducible apply qK | ((with_reducible first | apply qI | apply qB | apply qM) <;> try simp only [qN, qC, qE, qG, qD, qA, qF, seval, qQ, qO, qP, yC]))
      rw [ep]
      exact ⟨rfl, s13, (FR.of S12).trans fr13, v', cs', x13⟩
    · have hbq : (xA row d = 1) = True := by simpa using hbt
      have gs2 : vW Tryz.prog 170 h11 (.pointer (some ⟨k10, 0, none⟩)) none none none = some (.slice (some ⟨k10, 0, none⟩) 2 5) := by simp [vW, Tryz.underlying170, zS, gM, dP]
      have m1011 := (f11 k1 k1k).trans (s10 _ _ m1h)
      have rr11 : RB h11 (.slice a row.length c) row := (rr.hs S9).hs (s10.upd n10 f11)
      refine qJ ?_; repeat' (first | with_reducible apply qK | ((first | (with_reducible first | apply qI | apply qB | apply qR) | ((refine GTri.mono (dJ _ _ rr11 d (by omega)) ?_); rintro _ _ ⟨rfl, hh9⟩; replace hh9 := hh9.symm; subst hh9)) <;> try simp only [qN, qC, qE, qG, qD, qA, qF, seval, qQ, qO, qP, yC, hbt, gs2, qH m1011 zS]))
      refine (c_Rev2 N m11).mono ?_
      rintro _ h12 ⟨rfl, m12, x12⟩
      have S12 : HS h h12 := fun j B m => x12 j B (fun q => by rw [q, n10h] at m; cases m) (S11 j B m)
      refine qJ ?_; repeat' (first | with_reducible apply qK | ((with_reducible first | apply qI | apply qB) <;> try simp only [qN, qC, qE, qG, qD, qA, qF, seval, qQ, qO, qP, yC, gi0, gi1, qH m12 zS]))
      refine (sG N (s0.trans S12) t (x.hs S12) (rr.hs S12) hrow (d := d) (l := e) (r := now) (by omega) (by omega) (by omega) hm).mono ?_
      rintro _ h13 ⟨rfl, s13, fr13, v', cs', x13⟩
      have ep : fV row M now e nd = (M ++ [vF M d row e now], M.length) := by
        unfold fV
        rw [hd0]
        simp only [hbq, if_true, if_false]
      refine qJ ?_; repeat' (first | with_reducible apply qK | ((with_reducible first | apply qI | apply qB | apply qM) <;> try simp only [qN, qC, qE, qG, qD, qA, qF, seval, qQ, qO, qP, yC]))
      rw [ep]
      exact ⟨rfl, s13, (FR.of S12).trans fr13, v', cs', x13⟩
end
theorem c_BwdN (N : Nat) (h : GH) (a : Option Addr) (n c : Nat) : GTri Tryz.prog N 88 [.slice a n c] h fun u h' => (∃ kb, u = .func (.func 131) #[] #[.pointer (some ⟨kb, 0, none⟩)] ∧ h' kb = some ⟨[.slice a n c], 0, true, false⟩ ∧ h kb = none) ∧ HS h h' := by
  refine zU Tryz.func88 rfl gf88 ok88 (by simp [Tryz.ntmps88]) ?_
  repeat' (first | with_reducible apply qK | ((with_reducible apply qB) <;> try simp only [qN, qC, qE, qG, qD, qA, qF, seval, qQ, qO, qP, zD6]))
  refine wP rfl fun k1 h1 m1 s1 f1 n1 => ?_
  refine qJ ?_; repeat' (first | with_reducible apply qK | ((with_reducible first | apply qI | apply qB | apply qM) <;> try simp only [qN, qC, qE, qG, qD, qA, qF, seval, qQ, qO, qP, zD6, List.map_toArray, List.map_cons, List.map_nil]))
  exact ⟨⟨k1, rfl, m1, n1⟩, s1⟩
theorem c_bwdN1 (N l : Nat) (r : LRec) {h hx : GH} {kb : Nat} {a : Option Addr} {n c : Nat} {cells : List Value} (hn : n ≤ 1000000) (I : Nat → GH → Prop) (h0 : I n h)
    (hb : ∀ i h', I i h' → h' kb = some ⟨[.slice a n c], 0, true, false⟩ ∧ OWNC 10 hx h' (.slice a n c) n cells)
    (y : ∀ i h', i < n → I (i + 1) h' → YTri Tryz.prog N l r [.int .i64 (i : Int), .agg ((cells.drop (i * 10)).take 10).toArray] h' (I i)) :
    GTrio l r Tryz.prog N 131 [.func (.yield l) #[] #[], .pointer (some ⟨kb, 0, none⟩)] h (I 0) := by
  refine gtrio Tryz.func131 rfl gf131 ok131 rs131 (by simp [Tryz.ntmps131]) ?_
  obtain ⟨m0, r0⟩ := hb _ _ h0
  have w0 : IntKind.i64.wrap ((n : Int) - 1) = (n : Int) - 1 := by rw [wrap64 (by omega) (by omega)]
  simp only [qN, qC, qE, qG, qD, qA, qF, seval, qQ, qO, qP, yV]
  refine lW ?_
  refine qD1 (qB ?_)
  simp only [qN, qC, qE, qG, qD, qA, qF, seval, qQ, qO, qP, yV, qH m0 uL, w0, List.getElem?_cons_zero, List.getElem?_cons_succ]
  refine qR9 ?_
  refine gwo_loop (fun m e' h' => m ≤ n ∧ e' = [(0, .func (.yield l) #[] #[]), (1, .pointer (some ⟨kb, 0, none⟩)), (3, .int .i64 ((m : Int) - 1))] ∧ I m h') n
    (e0 := [(0, .func (.yield l) #[] #[]), (1, .pointer (some ⟨kb, 0, none⟩)), (3, .int .i64 ((n : Int) - 1))]) ?_ ⟨Nat.le_refl _, rfl, h0⟩ ?_
  · exact (pD (by simp only [List.forall_mem_cons, List.not_mem_nil, false_implies, implies_true, lk, Nat.reduceEqDiff, reduceIte, and_true, true_and]))
  rintro m e' h' ⟨hm, rfl, hI⟩
  obtain ⟨m1, r1⟩ := hb _ _ hI
  refine lW ?_
  refine lW ?_
  refine qD1 (qB ?_)
  by_cases hm0 : m = 0
  · have d : decide ((m : Int) - 1 ≥ 0) = false := decide_eq_false (by omega)
    simp only [qN, qC, qE, qG, qD, qA, qF, seval, qQ, qO, qP, yV, d]
    refine zI5 ?_
    simp only [qN, qC, qE, qG, qD, qA, qF, seval, qQ, qO, qP, yV, gif_f]
    refine qD1 (xT ?_)
    simp only [qN, qC, qE, qG, qD, qA, qF, seval, qQ, qO, qP, yV]
    subst hm0
    exact ⟨.inl trivial, hI⟩
  obtain ⟨i, rfl⟩ : ∃ i, m = i + 1 := ⟨m - 1, by omega⟩
  have e1 : ((i + 1 : Nat) : Int) - 1 = (i : Int) := by omega
  rw [e1]
  have d : decide ((i : Int) ≥ 0) = true := decide_eq_true (by omega)
  simp only [qN, qC, qE, qG, qD, qA, qF, seval, qQ, qO, qP, yV, d]
  refine zI5 ?_
  simp only [qN, qC, qE, qG, qD, qA, qF, seval, qQ, qO, qP, yV, gif_t]
  refine qD1 (qT ?_)
  simp only [qN, qC, qE, qG, qD, qA, qF, seval, qQ, qO, qP, yV]
  refine lW ?_
  refine qR9 ?_
  refine lW ?_
  obtain ⟨ad, g1, l4⟩ : ∃ ad, zJ Tryz.prog 131 (.slice a n c) (i : Int) = some (.pointer (some ad)) ∧ wZ Tryz.prog 92 h' (.pointer (some ad)) = some (.agg ((cells.drop (i * 10)).take 10).toArray) := by
    rcases r1 with ⟨_, q, _⟩ | ⟨_, _, q, _⟩ | ⟨kf, c', q, h2, h3, h4, h5, h6, h7⟩
    · omega
    · omega
    · cases q
      have hi : i < n := by omega
      refine ⟨_, kR Tryz.underlying131 wE hi, wN h6 wE rfl ?_⟩
      rw [List.length_take, List.length_drop, h5]
      have := Nat.mul_le_mul_right 10 (show i + 1 ≤ n by omega)
      omega
  refine gro_of ?_
  refine gro_cut 6 ?_
  simp only [qN, qC, qE, qG, qD, qA, qF, seval, qQ, qO, qP, yV, qH m1 uL, g1, l4, List.getElem?_cons_zero, List.getElem?_cons_succ, List.drop_succ_cons, List.drop_zero, List.take_succ_cons, List.take_zero]
  refine zR3 rfl ?_
  simp only [qN, qC, qE, qG, qD, qA, qF, seval, qQ, qO, qP, yV]
  have yy := y i h' (by omega) hI
  intro hG φ w args' sm hv hlo
  obtain ⟨fn, tmps, assign, body, q1, q2⟩ := yy hG φ w args' sm hv hlo
  refine ⟨fn, tmps, assign, body, q1, q2.mono ?_⟩
  rintro e w' ⟨φ', h2, p1, p2, p3, p4, p5⟩
  refine ⟨φ', h2, p1, p2, p3, p4, ?_⟩
  refine gro_end ?_
  simp only [qN, qC, qE, qG, qD, qA, qF, seval, qQ, qO, qP, yV, uH]
  refine zI5 ?_
  simp only [qN, qC, qE, qG, qD, qA, qF, seval, qQ, qO, qP, yV, gif_f, Bool.not_true]
  refine qD1 (qT ?_)
  simp only [qN, qC, qE, qG, qD, qA, qF, seval, qQ, qO, qP, yV]
  refine qD1 (qB ?_)
  have w1 : IntKind.i64.wrap ((i : Int) - 1) = (i : Int) - 1 := by rw [wrap64 (by omega) (by omega)]
  simp only [qN, qC, qE, qG, qD, qA, qF, seval, qQ, qO, qP, yV, w1]
  exact ⟨i, _, by omega, (pD (by simp only [List.forall_mem_cons, List.not_mem_nil, false_implies, implies_true, lk, Nat.reduceEqDiff, reduceIte, and_true, true_and])), by omega, rfl, p5⟩
theorem zX : type_of% (And.intro uK (And.intro zF (And.intro vT (And.intro qG2 (And.intro vU (And.intro xB (And.intro uI (And.intro jJ (And.intro wF rs47))))))))) := And.intro uK (And.intro zF (And.intro vT (And.intro qG2 (And.intro vU (And.intro xB (And.intro uI (And.intro jJ (And.intro wF rs47))))))))
def zY : Nat → List (Nat × List Nat) × List Nat
  | 8 => ([(0, []), (2, []), (1, [2]), (3, []), (4, [])], [0, 1, 0, 7, 15])
  | _ => ([], [])
theorem RB.some {h : GH} {a : Option Addr} {n c : Nat} {l : List UInt8} (r : RB h (.slice a n c) l) (hl : l ≠ []) : a.isNone = false := by
  rcases r with ⟨_, _, q⟩ | ⟨ad, _, q, _⟩
  · exact absurd q hl
  · cases q; rfl
inductive Spot (M : List Nd) (id ky : List UInt8) (si : Nat) : Int → List Nat → Int → Nd → Bool → List Nd × Nat → Prop
  | no : Spot M id ky si (-1) [] (-1) ⟨false, [], [], 0, 0, [], 0, 0, 0, []⟩ false (M ++ [vZ id ky si], M.length)
  | way {i e fs nd} : Way M (zL id) i fs e nd → Spot M id ky si (i : Int) fs (e : Int) nd (nd.lf && nd.id == id) (rE id ky si M e nd)
def InsI (M : List Nd) (id : List UInt8) (S0 : List Nd × Nat) (fs : List Nat) (h0 hb : GH) (k k14 : Nat) (i : Nat) (h' : GH) : Prop :=
  ∃ S : List Nd × Nat, S = (fs.drop i).reverse.foldl (pA (zL id)) S0 ∧ HS h0 h' ∧ FR 11 k hb h' ∧ h' k14 = some ⟨[.int .i64 (S.2 : Int)], 0, true, false⟩ ∧ S.2 < S.1.length ∧ S.1.length + i ≤ S0.1.length + fs.length ∧ (∃ L, S.1 = M ++ L) ∧ ∃ v cs, AA h0 h' k v cs S.1
theorem FR.new {e k j : Nat} {a b c d : GH} (x : FR e k a b) (n : b j = none) (s : HS b c) (f : ∀ i, i ≠ j → d i = c i) : FR e k a d := fun i B m q => by
  have h1 := x i B m q
  rw [f i (fun z => by rw [z, n] at h1; cases h1)]
  exact s _ _ h1
theorem sS {M : List Nd} {id : List UInt8} {S0 : List Nd × Nat} {fs : List Nat} {i p : Nat} (h : fs[i]? = some p) : (fs.drop i).reverse.foldl (pA (zL id)) S0 = pA (zL id) ((fs.drop (i + 1)).reverse.foldl (pA (zL id)) S0) p := by
  have h1 := List.getElem?_eq_some_iff.1 h
  rw [List.drop_eq_getElem_cons h1.1, h1.2, List.reverse_cons, List.foldl_append]; rfl
theorem Spot.facts {M : List Nd} {id ky : List UInt8} {si : Nat} {rt at_ : Int} {fs : List Nat} {nd : Nd} {same : Bool} {S0 : List Nd × Nat} (sp : Spot M id ky si rt fs at_ nd same S0) (ti : TI M) (hi : id.length ≤ 255) :
    (∃ L, S0.1 = M ++ L) ∧ S0.2 < S0.1.length ∧ S0.1.length ≤ M.length + 2 ∧ ∀ (j p : Nat), fs[j]? = some p → ∃ y, M[p]? = some y ∧ kF (zL id) y = false := by
  cases sp with
  | no => exact ⟨⟨_, rfl⟩, by simp, by simp, fun j p h => by simp at h⟩
  | @way i e fs nd w =>
    obtain ⟨_, b, c, d, _⟩ := low_ok ti hi (ky := ky) (si := si) w.end.1 w.end.2
    exact ⟨d, b, c, fun j p h => by
      obtain ⟨y, h1, h2, _⟩ := w.at.2 j p h
      exact ⟨y, h1, h2⟩⟩
section
variable {h0 h h' : GH} {k : Nat} {v : Value} {cs : List Value} {M : List Nd}
theorem AA.upd {j : Nat} {B : GB} (x : AA h0 h k v cs M) (m : h j = some B) (hu : B.cells.all vO = true) (hn : k ≠ j) (f : ∀ i, i ≠ j → h' i = h i) (h0' : B.es = 0 := by rfl) : AA h0 h' k v cs M :=
  ⟨by rw [f k hn]; exact x.obj, x.nk, x.arr.keep (x.arr.own.by5 m f (by rw [h0']; decide)) fun _ _ ⟨cn, e, r⟩ => ⟨cn, e, r.hx m hu (zH f)⟩⟩
theorem c_Insert (N : Nat) (s0 : HS h0 h) (t : TK h0) (x : AA h0 h k v cs M) (ti : TI M) {a b : Option Addr} {ca cb : Nat} {id ky : List UInt8} (ri : RB h (.slice a id.length ca) id) (rk : RB h (.slice b ky.length cb) ky) (hi : id.length ≤ 255) (hk : ky.length ≤ 60000) {si : Nat} (hs : si ≤ 1000000)
    {rt at_ : Int} {fs : List Nat} {nd : Nd} {same : Bool} {S0 : List Nd × Nat} (sp : Spot M id ky si rt fs at_ nd same S0) (hm : M.length + 2 + fs.length ≤ 9000) (hfs : fs.length ≤ 3000) :
    GTri Tryz.prog N 47 [.pointer (some ⟨k, 0, none⟩), .int .i64 rt, .slice a id.length ca, .slice b ky.length cb, .int .i64 (si : Int)] h fun u h' => u = .tuple #[.int .i64 ((fs.reverse.foldl (pA (zL id)) S0).2 : Int), .int .i64 0] ∧ HS h0 h' ∧ FR 11 k h h' ∧ ∃ v' cs', AA h0 h' k v' cs' (fs.reverse.foldl (pA (zL id)) S0).1 := by
  have d1 : decide ((si : Int) < 0) = false := decide_eq_false (by omega)
  have d2 : decide ((id.length : Int) > 255) = false := decide_eq_false (by omega)
  have d3 : decide ((ky.length : Int) > 65535) = false := decide_eq_false (by omega)
  refine zU Tryz.func47 rfl gf47 ok47 (by simp [Tryz.ntmps47]) ?_
  repeat' (first | with_reducible apply qK | ((with_reducible apply qB) <;> try simp only [qN, qC, qE, qG, qD, qA, qF, seval, qQ, qO, qP, qL, qY, qZ, zC, zX, zY]))
  refine wP rfl fun k5 h5 m5 s5 f5 n5 => ?_
  have x5 := x.hs s5
  simp only [qN, qC, qE, qG, qD, qA, qF, seval, qQ, qO, qP, zX]
  refine qK ?_
  refine GW.mono (Q := fun x e' h' => x = .normal ∧ HS h5 h' ∧ lk e' 1 = .int .i64 rt ∧ lk e' 2 = .slice a id.length ca ∧ lk e' 3 = .slice b ky.length cb ∧ lk e' 4 = .int .i64 (si : Int) ∧ lk e' 5 = .pointer (some ⟨k5, 0, none⟩)) ?_ ?_
  · cases sp with
    | no =>
      refine qJ ?_; repeat' (first | (with_reducible first | apply qK | apply qS) | ((first | (with_reducible first | apply qI | apply qB | apply qR | apply qT) | ((refine GTri.mono (c_Size _ x5) ?_); rintro _ _ ⟨rfl, hh9⟩; replace hh9 := hh9.symm; subst hh9)) <;> try simp only [qN, qC, qE, qG, qD, qA, qF, seval, qQ, qO, qP, qL, qY, qZ, zC, zX, zY, qH m5 qK3, d1, d2, d3]))
      exact HS.refl _
    | @way i e fs nd w =>
      have wi : ∃ y, M[i]? = some y := by
        cases w with
        | stop h1 _ => exact ⟨_, h1⟩
        | go h1 _ _ => exact ⟨_, h1⟩
      obtain ⟨y, hy⟩ := wi
      have hy4 := (x.arr.ok.ok i y hy).hs
      have d4 : ((i : Int) != -1) = true := by simp
      refine qJ ?_; repeat' (first | (with_reducible first | apply qK | apply qS) | ((first | (with_reducible first | apply qI | apply qB | apply qR) | ((refine GTri.mono (c_Size _ x5) ?_); rintro _ _ ⟨rfl, hh9⟩; replace hh9 := hh9.symm; subst hh9)) <;> try simp only [qN, qC, qE, qG, qD, qA, qF, seval, qQ, qO, qP, qL, qY, qZ, zC, zX, zY, qH m5 qK3, d4]))
      refine (qZ3 N x5 hy).mono ?_
      rintro _ h6 ⟨s6, a6, c6, rfl, r6⟩
      have q6 := r6.some (by intro q; rw [q] at hy4; cases hy4)
      refine qJ ?_; repeat' (first | with_reducible apply qK | ((with_reducible first | apply qI | apply qB | apply qR | apply qT) <;> try simp only [qN, qC, qE, qG, qD, qA, qF, seval, qQ, qO, qP, qL, qY, qZ, zC, zX, zY, q6, d1, d2, d3]))
      exact s6
  rintro _ e' h6 ⟨rfl, s6, q1, q2, q3, q4, q5⟩
  rw [jV]
  refine dH [(1, .int .i64 rt), (2, .slice a id.length ca), (3, .slice b ky.length cb), (4, .int .i64 (si : Int)), (5, .pointer (some ⟨k5, 0, none⟩))] (by simp [q1, q2, q3, q4, q5]) ?_
  clear q1 q2 q3 q4 q5
  have S6 := s5.trans s6
  have m56 := s6 _ _ m5
  refine qK ?_
  refine GW.mono (Q := fun x e' h' => x = .normal ∧ (lk e' 2 = .slice a id.length ca ∧ lk e' 3 = .slice b ky.length cb ∧ lk e' 4 = .int .i64 (si : Int) ∧ lk e' 5 = .pointer (some ⟨k5, 0, none⟩)) ∧ HS h6 h' ∧ ∃ k12 af cf a1 c1 a2 c2 a3 c3 a4 c4 cells, lk e' 12 = .pointer (some ⟨k12, 0, none⟩) ∧ h6 k12 = none ∧ h' k12 = some ⟨rQ (.slice af fs.length cf) at_ nd (.slice a1 nd.id.length c1) (.slice a2 nd.ky.length c2) (.slice a3 nd.pf.length c3) (.slice a4 nd.hs.length c4) same, 0, true, false⟩ ∧
      OWNC 10 h6 h' (.slice af fs.length cf) fs.length cells ∧ cells.all vO = true ∧ (∀ (t : Nat) y, (fs.map (uR M))[t]? = some y → RNd h' ((cells.drop (t * 10)).take 10) y) ∧ RNd h' (nd.cs (.slice a1 nd.id.length c1) (.slice a2 nd.ky.length c2) (.slice a3 nd.pf.length c3) (.slice a4 nd.hs.length c4)) nd) ?_ ?_
  · cases sp with
    | no =>
      refine qJ ?_; repeat' (first | ((with_reducible first | apply qI | apply qB) <;> try simp only [qN, qC, qE, qG, qD, qA, qF, seval, qQ, qO, qP, qL, qY, qZ, zC, zX, zY, qH m56 qK3]))
      refine (c_findN N (x.hs S6) (ri.hs S6)).mono ?_
      rintro _ h7 ⟨s7, rfl⟩
      refine qJ ?_; repeat' (first | ((with_reducible apply qI) <;> try simp only [qN, qC, qE, qG, qD, qA, qF, seval, qQ, qO, qP, qL, qY, qZ, zC, zX, zY]))
      refine xE fun k12 h8 m8 s8 f8 n8 => ?_
      simp only [rQ]
      refine qJ ?_; repeat' (first | ((with_reducible apply qI) <;> try simp only [qN, qC, qE, qG, qD, qA, qF, seval, qQ, qO, qP, qL, qY, qZ, zC, zX, zY]))
      refine wL m8 fT rfl (by decide) rfl rfl rfl fun h9 m9 f9 => ?_
      simp only [vcells] at m9
      refine qJ ?_; repeat' (first | ((with_reducible apply qI) <;> try simp only [qN, qC, qE, qG, qD, qA, qF, seval, qQ, qO, qP, qL, qY, qZ, zC, zX, zY]))
      exact ⟨s7.trans (s8.upd n8 f9), k12, none, 0, none, 0, none, 0, none, 0, none, 0, [], rfl, s7.none_of n8, m9, OWNC.nil _ _ _, rfl, fun t y h => by simp at h, none, 0, none, 0, none, 0, none, 0, rfl, RB.nil _, RB.nil _, RB.nil _, RB.nil _⟩
    | @way i e fs nd w =>
      refine qJ ?_; repeat' (first | ((with_reducible first | apply qI | apply qB) <;> try simp only [qN, qC, qE, qG, qD, qA, qF, seval, qQ, qO, qP, qL, qY, qZ, zC, zX, zY, qH m56 qK3]))
      refine (c_find N (x.hs S6) (ri.hs S6) (by omega) w (by omega)).mono ?_
      rintro _ h7 ⟨s7, af, cf, a1, c1, a2, c2, a3, c3, a4, c4, rfl, ⟨cells, ow, hu, hel⟩, rn⟩
      refine qJ ?_; repeat' (first | ((with_reducible apply qI) <;> try simp only [qN, qC, qE, qG, qD, qA, qF, seval, qQ, qO, qP, qL, qY, qZ, zC, zX, zY]))
      refine xE fun k12 h8 m8 s8 f8 n8 => ?_
      simp only [rQ]
      refine qJ ?_; repeat' (first | ((with_reducible apply qI) <;> try simp only [qN, qC, qE, qG, qD, qA, qF, seval, qQ, qO, qP, qL, qY, qZ, zC, zX, zY]))
      refine wL m8 fT rfl (by decide) rfl rfl rfl fun h9 m9 f9 => ?_
      simp only [vcells] at m9
      have s79 := s8.upd n8 f9
      refine qJ ?_; repeat' (first | ((with_reducible apply qI) <;> try simp only [qN, qC, qE, qG, qD, qA, qF, seval, qQ, qO, qP, qL, qY, qZ, zC, zX, zY]))
      exact ⟨s7.trans s79, k12, af, cf, a1, c1, a2, c2, a3, c3, a4, c4, cells, rfl, s7.none_of n8, m9, ow.hs s79, hu, fun t y h => (hel t y h).hs s79, rn.hs s79⟩
  rintro _ e' h7 ⟨rfl, ⟨q2, q3, q4, q5⟩, s7, k12, af, cf, a1, c1, a2, c2, a3, c3, a4, c4, cells, q12, n12, m12, ow, hu, hel, rn⟩
  rw [jV]
  refine dH [(2, .slice a id.length ca), (3, .slice b ky.length cb), (4, .int .i64 (si : Int)), (5, .pointer (some ⟨k5, 0, none⟩)), (12, .pointer (some ⟨k12, 0, none⟩))] (by simp [q2, q3, q4, q5, q12]) ?_
  clear q2 q3 q4 q5 q12
  have S7 := S6.trans s7
  have m57 := s7 _ _ m56
  have k12k : k12 ≠ k := fun q => by rw [q, (x.hs S6).obj] at n12; cases n12
  have k5k : k5 ≠ k := fun q => by rw [q, x.obj] at n5; cases n5
  have x7 := x.hs S7
  have hno : decide ((qJ0 fs.length at_ same : Int) > 16384 - (M.length : Int)) = false := decide_eq_false (by
    unfold qJ0
    split <;> omega)
  have ld7 := zI (P := Tryz.prog) (t := 136) m12 fT rfl
  refine qJ ?_; repeat' (first | with_reducible apply qK | ((first | (with_reducible apply qI) | with_reducible refine zE zY xC (by kernel_rfl) ?_) <;> try simp only [qN, qC, qE, qG, qD, qA, qF, seval, qQ, qO, qP, qL, qY, qZ, zC, zX, zY, ld7, qH m57 qK3]))
  refine (c_needs N h7 (by omega) at_ nd _ _ _ _ rfl same).mono ?_
  rintro _ h8 ⟨s8, rfl⟩
  have m58 := s8 _ _ m57
  have m128 := s8 _ _ m12
  have ld8 := zI (P := Tryz.prog) (t := 136) m128 fT rfl
  have x8 := x7.hs s8
  refine qJ ?_; repeat' (first | with_reducible apply qK | ((first | (with_reducible first | apply qI | apply qB | apply qR | apply qT) | ((refine GTri.mono (c_Room _ x8) ?_); rintro _ _ ⟨rfl, hh9⟩; replace hh9 := hh9.symm; subst hh9)) <;> try simp only [qN, qC, qE, qG, qD, qA, qF, seval, qQ, qO, qP, qL, qY, qZ, zC, zX, zY, ld8, hno, qH m58 qK3]))
  have S8 := S7.trans s8
  refine (qO1 N h8 (ri.hs S8) rfl).mono ?_
  rintro _ h9 ⟨s9, ar, cr, rfl, rr, _⟩
  refine qJ ?_; repeat' (first | ((with_reducible apply qI) <;> try simp only [qN, qC, qE, qG, qD, qA, qF, seval, qQ, qO, qP, qL, qY, qZ, zC, zX, zY]))
  refine xE fun k13 h10 m10 s10 f10 n10 => ?_
  refine qJ ?_; repeat' (first | ((with_reducible apply qI) <;> try simp only [qN, qC, qE, qG, qD, qA, qF, seval, qQ, qO, qP, qL, qY, qZ, zC, zX, zY]))
  refine zW m10 zD rfl (by simp) rfl rfl fun h11 m13 f11 => ?_
  simp only [List.set_cons_zero] at m13
  have s8b := s10.upd n10 f11
  have s811 : HS h8 h11 := s9.trans s8b
  have S11 := S8.trans s811
  have m511 := s811 _ _ m58
  have m1211 := s811 _ _ m128
  have x11 := x8.hs s811
  have rr11 := rr.hs s8b
  have n13h : h k13 = none := (S8.trans s9).none_of n10
  have k13k : k13 ≠ k := fun q => by rw [q, x.obj] at n13h; cases n13h
  refine qJ ?_; repeat' (first | with_reducible apply qK | ((with_reducible first | apply qI | apply qB) <;> try simp only [qN, qC, qE, qG, qD, qA, qF, seval, qQ, qO, qP, qL, qY, qZ, zC, zX, zY, qH m511 qK3]))
  refine (c_Leaf N (s0.trans S11) t x11 (ri.hs S11) (rk.hs S11) hi hk hs (by omega)).mono ?_
  rintro _ h12 ⟨rfl, s12, fr12, v2, cs2, x12⟩
  refine qJ ?_; repeat' (first | ((with_reducible apply qI) <;> try simp only [qN, qC, qE, qG, qD, qA, qF, seval, qQ, qO, qP, qL, qY, qZ, zC, zX, zY]))
  refine xE fun k14 h14 m14 s14 f14 n14 => ?_
  refine qJ ?_; repeat' (first | ((with_reducible apply qI) <;> try simp only [qN, qC, qE, qG, qD, qA, qF, seval, qQ, qO, qP, qL, qY, qZ, zC, zX, zY]))
  refine zW m14 zS rfl (by simp) rfl rfl fun h15 m15 f15 => ?_
  simp only [List.set_cons_zero] at m15
  have s1215 : HS h12 h15 := s14.upd n14 f15
  have fr15 : FR 11 k h11 h15 := fr12.hs s1215
  have S015 := s12.trans s1215
  have x15 := x12.hs s1215
  have m1215 := fr15 _ _ m1211 (.inr ⟨k12k, by simp⟩)
  have m515 := fr15 _ _ m511 (.inr ⟨k5k, by simp⟩)
  have m1315 := fr15 _ _ m13 (.inr ⟨k13k, by simp⟩)
  have rr15 := rr11.fr fr15
  have rn15 := (rn.hs (s8.trans s811)).fr fr15
  simp only [rQ] at m1215
  simp only [qN, qC, qE, qG, qD, qA, qF, seval, qQ, qO, qP, zX]
  have n14h : h12 k14 = none := n14
  have n11 : ∀ {j B}, h11 j = some B → (j ≠ k → B.es ≠ 11 → j ≠ k14) := fun m n e q => by
    rw [← q] at n14
    rw [fr12 _ _ m (.inr ⟨n, e⟩)] at n14; cases n14
  have k14k : k14 ≠ k := fun q => by rw [q, x12.obj] at n14; cases n14
  have sb15 : HS h0 (kP k14 h15) := rW S015 (s12.none_of n14)
  refine qK ?_
  refine GW.mono (Q := fun x e' h' => x = .normal ∧ (lk e' 5 = .pointer (some ⟨k5, 0, none⟩) ∧ lk e' 12 = .pointer (some ⟨k12, 0, none⟩) ∧ lk e' 13 = .pointer (some ⟨k13, 0, none⟩) ∧ lk e' 14 = .pointer (some ⟨k14, 0, none⟩)) ∧ HS h0 h' ∧ FR 11 k (kP k14 h15) h' ∧ h' k14 = some ⟨[.int .i64 (S0.2 : Int)], 0, true, false⟩ ∧ ∃ v3 cs3, AA h0 h' k v3 cs3 S0.1) ?_ ?_
  · cases sp with
    | no =>
      have d : ((-1 : Int) != -1) = false := by decide
      refine qJ ?_; repeat' (first | with_reducible apply qK | ((with_reducible first | apply qI | apply qB | apply qR | apply qT) <;> try simp only [qN, qC, qE, qG, qD, qA, qF, seval, qQ, qO, qP, qL, qY, qZ, zC, zX, zY, qH m1215 zS, qH m1215 gV, d]))
      exact ⟨S015, FR.of (rX _ _), m15, v2, cs2, x15⟩
    | @way i e fs nd w =>
      have d : ((e : Int) != -1) = true := by simp
      have he := (List.getElem?_eq_some_iff.1 w.end.1).1
      by_cases hsame : (nd.lf && nd.id == id) = true
      · rw [hsame] at m1215
        have el : rE id ky si M e nd = (M ++ [vZ id ky si], M.length) := by unfold rE; rw [if_pos hsame]
        rw [el]
        refine qJ ?_; repeat' (first | with_reducible apply qK | ((with_reducible first | apply qI | apply qB | apply qR | apply qT) <;> try simp only [qN, qC, qE, qG, qD, qA, qF, seval, qQ, qO, qP, qL, qY, qZ, zC, zX, zY, qH m1215 zS, qH m1215 gV, d]))
        exact ⟨S015, FR.of (rX _ _), m15, v2, cs2, x15⟩
      · have hsame' : (nd.lf && nd.id == id) = false := by simpa using hsame
        rw [hsame'] at m1215
        have el : rE id ky si M e nd = fV (zL id) (M ++ [vZ id ky si]) M.length e nd := by unfold rE; rw [if_neg hsame]
        rw [el]
        have rn15' := rn15
        obtain ⟨_, _, _, _, _, _, _, _, ee, y1, y2, y3, y4⟩ := rn15'
        simp only [Nd.cs] at ee
        injection ee with _ ee
        injection ee with ea ee
        injection ee with _ ee
        injection ee with _ ee
        injection ee with _ ee
        injection ee with ec ee
        injection ea with ea1 _ ea2
        injection ec with ec1 _ ec2
        subst ea1; subst ea2; subst ec1; subst ec2
        have ld := zI (P := Tryz.prog) (t := 136) m1215 fT rfl
        have ok := x.arr.ok.ok e nd w.end.1
        have hkl := vV id
        refine qJ ?_; repeat' (first | with_reducible apply qK | ((with_reducible first | apply qI | apply qB | apply qR) <;> try simp only [qN, qC, qE, qG, qD, qA, qF, seval, qQ, qO, qP, qL, qY, qZ, zC, zX, zY, qH m1215 zS, qH m1215 gV, qH m515 qK3, qH m1315 zD, qH m15 zS, ld, d]))
        refine (c_part N S015 t x15 rr15 (by omega) (now := M.length) (e := e) (by simp) (by simp; omega) (by simp; omega) ok (.slice af fs.length cf) rfl false rn15 y1 y3).mono ?_
        rintro _ h16 ⟨rfl, s16, fr16, v3, cs3, x16⟩
        have m1416 := fr16 _ _ m15 (.inr ⟨k14k, by simp⟩)
        refine qJ ?_; repeat' (first | ((with_reducible apply qI) <;> try simp only [qN, qC, qE, qG, qD, qA, qF, seval, qQ, qO, qP, qL, qY, qZ, zC, zX, zY]))
        refine zW m1416 zS rfl (by simp) rfl rfl fun h17 m17 f17 => ?_
        simp only [List.set_cons_zero] at m17
        have fr17 : FR 11 k (kP k14 h15) h17 := fun j B m q => by
          have hj : j ≠ k14 := fun z => by rw [z, qC9] at m; cases m
          rw [f17 j hj]
          exact fr16 j B (rX _ _ j B m) q
        refine qJ ?_; repeat' (first | ((with_reducible apply qI) <;> try simp only [qN, qC, qE, qG, qD, qA, qF, seval, qQ, qO, qP, qL, qY, qZ, zC, zX, zY]))
        exact ⟨s16.upd (s12.none_of n14) f17, fr17, m17, v3, cs3, x16.upd m1416 rfl k14k.symm f17⟩
  rintro _ e' h16 ⟨rfl, ⟨q5, q12, q13, q14⟩, S016, fr16, m1416, v3, cs3, x16⟩
  rw [jV]
  refine dH [(5, .pointer (some ⟨k5, 0, none⟩)), (12, .pointer (some ⟨k12, 0, none⟩)), (13, .pointer (some ⟨k13, 0, none⟩)), (14, .pointer (some ⟨k14, 0, none⟩))] (by simp [q5, q12, q13, q14]) ?_
  clear q5 q12 q13 q14
  obtain ⟨⟨L0, eL0⟩, hS2, hS1, hfork⟩ := sp.facts ti hi
  have hid15 : ∀ j, j ≠ k14 → kP k14 h15 j = h15 j := lV h15
  have n5' : k5 ≠ k14 := n11 m511 k5k (by simp)
  have n12' : k12 ≠ k14 := n11 m1211 k12k (by simp)
  have n13' : k13 ≠ k14 := n11 m13 k13k (by simp)
  have m516 := fr16 _ _ ((hid15 _ n5').trans m515) (.inr ⟨k5k, by simp⟩)
  have m1216 := fr16 _ _ ((hid15 _ n12').trans m1215) (.inr ⟨k12k, by simp⟩)
  have m1316 := fr16 _ _ ((hid15 _ n13').trans m1315) (.inr ⟨k13k, by simp⟩)
  have rr16 := (rr15.hx m15 rfl (zH hid15)).fr fr16
  have hel16 : ∀ (t : Nat) y, (fs.map (uR M))[t]? = some y → RNd h16 ((cells.drop (t * 10)).take 10) y := fun t y hy => ((((hel t y hy).hs (s8.trans s811)).fr fr15).hx m15 rfl (zH hid15)).fr fr16
  have xk15 : kP k14 h15 k = some ⟨[.int .i64 4, .int .i64 16384, v2, .slice none 0 0], 0, true, false⟩ := by rw [hid15 k k14k.symm]; exact x15.obj
  have ow16 : OWNC 10 h6 h16 (.slice af fs.length cf) fs.length cells := (((ow.hs (s8.trans s811)).fr fr15 x11.obj (by simp) (by decide)).by5 m15 hid15).fr fr16 xk15 (by simp) (by decide)
  refine qJ ?_; repeat' (first | with_reducible apply qK | ((with_reducible first | apply qI | apply qB) <;> try simp only [qN, qC, qE, qG, qD, qA, qF, seval, qQ, qO, qP, qL, qY, qZ, zC, zX, zY, qH m1216 uL]))
  refine (c_BwdN N h16 af fs.length cf).mono ?_
  rintro _ h17 ⟨⟨kb, rfl, mb, nb⟩, s17⟩
  have m1417 := s17 _ _ m1416
  have hid17 : ∀ j, j ≠ k14 → kP k14 h17 j = h17 j := lV h17
  have nkb : kb ≠ k14 := fun q => by rw [q, m1416] at nb; cases nb
  have nkbk : kb ≠ k := fun q => by rw [q, x16.obj] at nb; cases nb
  have b5 := (hid17 _ n5').trans (s17 _ _ m516)
  have b13 := (hid17 _ n13').trans (s17 _ _ m1316)
  have bb := (hid17 _ nkb).trans mb
  have rrb := (rr16.hs s17).hx m1417 rfl (zH hid17)
  have owb := (ow16.hs s17).by5 m1417 hid17
  have helb : ∀ (t : Nat) y, (fs.map (uR M))[t]? = some y → RNd (kP k14 h17) ((cells.drop (t * 10)).take 10) y := fun t y hy => ((hel16 t y hy).hs s17).hx m1417 rfl (zH hid17)
  have sbh : FR 11 k (kP k14 h17) h17 := FR.of (rX _ _)
  have xkb : kP k14 h17 k = some ⟨[.int .i64 4, .int .i64 16384, v3, .slice none 0 0], 0, true, false⟩ := by rw [hid17 k k14k.symm]; exact (x16.hs s17).obj
  have n14b : kP k14 h17 k14 = none := qC9 _ _
  have frb : FR 11 k h (kP k14 h17) := fun j B m q => by
    have hj14 : j ≠ k14 := fun z => by
      have := s811 _ _ (s8 _ _ (S7 j B m))
      have := fr12 j B this q
      rw [z, n14] at this; cases this
    have q2 := fr15 _ _ (s811 _ _ (s8 _ _ (S7 j B m))) q
    have q3 := fr16 _ _ ((hid15 _ hj14).trans q2) q
    exact (hid17 _ hj14).trans (s17 _ _ q3)
  generalize kP k14 h17 = hb at b5 b13 bb rrb owb helb sbh xkb n14b frb
  refine qJ ?_; repeat' (first | with_reducible apply qS | ((with_reducible apply qI) <;> try simp only [qN, qC, qE, qG, qD, qA, qF, seval, qQ, qO, qP, qL, qY, qZ, zC, zX, zY]))
  refine gw_range (gf := 131) (fb := [.pointer (some ⟨kb, 0, none⟩)]) (by simp [lk]) rfl fs.length
    (InsI M id S0 fs h0 hb k k14)
    (fun i => (.int .i64 (i : Int), .agg ((cells.drop (i * 10)).take 10).toArray)) ?_ (fun l' r' h2' hI y => c_bwdN1 N l' r' (hx := h6) (a := af) (c := cf) (by omega) (InsI M id S0 fs h0 hb k k14) hI (fun i h' hI => ?_) y) (fun i hi h18 hI => ?_) (fun h18 hI => ?_)
  · exact ⟨S0, by simp, S016.trans s17, sbh, m1417, hS2, by omega, ⟨L0, eL0⟩, v3, cs3, x16.hs s17⟩
  · obtain ⟨S, _, _, frS, _⟩ := hI
    exact ⟨frS _ _ bb (.inr ⟨nkbk, by simp⟩), owb.fr frS xkb (by simp) (by decide)⟩
  · obtain ⟨S, eS, s18, fr18, m18, hlt, hle, ⟨L, eL⟩, v18, cs18, x18⟩ := hI
    obtain ⟨p, hp⟩ := jP hi
    obtain ⟨y, hy, hst⟩ := hfork i p hp
    have hpM := (List.getElem?_eq_some_iff.1 hy).1
    have fi := ti.fork p y hy (yE hst).1
    have fil := fi.l
    have fir := fi.r
    have oky := x.arr.ok.ok p y hy
    have hpf := oky.pf
    have hdp : y.dp ≤ 8 * y.pf.length := by
      obtain ⟨jd, e1, e2⟩ := fi.pf
      rw [e1, wM]; omega
    have hML : M.length ≤ S.1.length := by rw [eL]; simp
    have enp : uR S.1 p = y := wT (by rw [eL, List.getElem?_append_left hpM]; exact hy)
    have rn := (helb i y (by simp [hp, wT hy])).fr fr18
    obtain ⟨b1, d1, b2, d2, b3, d3, b4, d4, ee, q1, q2, q3, q4⟩ := rn
    simp only [ee, Nd.cs, uH]
    have m518 := fr18 _ _ b5 (.inr ⟨k5k, by simp⟩)
    have m1318 := fr18 _ _ b13 (.inr ⟨k13k, by simp⟩)
    have rr18 := rrb.fr fr18
    refine qJ ?_; repeat' (first | ((with_reducible first | apply qI | apply qB) <;> try simp only [qN, qC, qE, qG, qD, qA, qF, seval, qQ, qO, qP, qL, qY, qZ, zC, zX, zY]))
    refine xE fun k17 h19 m19 s19 f19 n19 => ?_
    refine qJ ?_; repeat' (first | ((with_reducible apply qI) <;> try simp only [qN, qC, qE, qG, qD, qA, qF, seval, qQ, qO, qP, qL, qY, qZ, zC, zX, zY]))
    refine wL m19 wE rfl (by decide) rfl rfl rfl fun h20 m20 f20 => ?_
    simp only [vcells] at m20
    have s1820 := s19.upd n19 f20
    have m1320 := s1820 _ _ m1318
    have m1420 := s1820 _ _ m18
    have rr20 := rr18.hs s1820
    have oyd := oky.dp
    cases hbt : (xA (zL id) y.dp == 1)
    · have hbq : (xA (zL id) y.dp = 1) = False := by simpa using hbt
      refine qJ ?_; repeat' (first | (with_reducible first | apply qK | apply qS) | ((first | (with_reducible first | apply qI | apply qB | apply qR) | ((refine GTri.mono (dJ _ _ rr20 y.dp (by omega)) ?_); rintro _ _ ⟨rfl, hh9⟩; replace hh9 := hh9.symm; subst hh9)) <;> try simp only [qN, qC, qE, qG, qD, qA, qF, seval, qQ, qO, qP, qL, qY, qZ, zC, zX, zY, hbt, qH m1320 zD, qH m20 zS, qH m1420 zS]))
      refine zW m20 zS rfl (by simp) rfl rfl fun h21 m21 f21 => ?_
      simp only [List.set_cons_zero, List.set_cons_succ] at m21
      have S21 : HS h18 h21 := (s19.upd n19 f20).upd n19 f21
      have fr21 : FR 11 k hb h21 := fr18.new n19 (s19.upd n19 f20) f21
      have m1421 := S21 _ _ m18
      have m521 := S21 _ _ m518
      have x21 := x18.hs S21
      refine qJ ?_; repeat' (first | ((with_reducible first | apply qI | apply qB) <;> try simp only [qN, qC, qE, qG, qD, qA, qF, seval, qQ, qO, qP, qL, qY, qZ, zC, zX, zY, qH m521 qK3, qH m21 zS, qH m21 zD]))
      refine (sG N (s18.trans S21) t x21 (((q3.hs S21))) hpf (d := y.dp) (l := S.2) (r := y.r) hdp (by omega) (by omega) (by omega)).mono ?_
      rintro _ h22 ⟨rfl, s22, fr22, v22, cs22, x22⟩
      have m1422 := fr22 _ _ m1421 (.inr ⟨k14k, by simp⟩)
      refine qJ ?_; repeat' (first | ((with_reducible apply qI) <;> try simp only [qN, qC, qE, qG, qD, qA, qF, seval, qQ, qO, qP, qL, qY, qZ, zC, zX, zY]))
      refine zW m1422 zS rfl (by simp) rfl rfl fun h23 m23 f23 => ?_
      simp only [List.set_cons_zero] at m23
      have n14h0 : h0 k14 = none := s12.none_of n14
      have fr23 : FR 11 k hb h23 := fun j B m q => by
        have hj : j ≠ k14 := fun z => by rw [z, n14b] at m; cases m
        rw [f23 j hj]
        exact fr22 j B (fr21 j B m q) q
      have eu : pA (zL id) S p = (S.1 ++ [vF S.1 y.dp y.pf S.2 y.r], S.1.length) := by
        unfold pA
        rw [enp]
        simp only [hbq, if_true, if_false]
      refine qJ ?_; repeat' (first | ((with_reducible apply qI) <;> try simp only [qN, qC, qE, qG, qD, qA, qF, seval, qQ, qO, qP, qL, qY, qZ, zC, zX, zY, bq_n]))
      refine ⟨pA (zL id) S p, by rw [eS]; exact (sS (M := M) hp).symm, s22.upd n14h0 f23, fr23, by rw [eu]; exact m23, by rw [eu]; simp, by rw [eu]; simp; omega, ⟨L ++ [vF S.1 y.dp y.pf S.2 y.r], by rw [eu, eL, List.append_assoc]⟩, v22, cs22, ?_⟩
      rw [eu]
      exact x22.upd m1422 rfl k14k.symm f23
    · have hbq : (xA (zL id) y.dp = 1) = True := by simpa using hbt
      refine qJ ?_; repeat' (first | (with_reducible first | apply qK | apply qS) | ((first | (with_reducible first | apply qI | apply qB | apply qR) | ((refine GTri.mono (dJ _ _ rr20 y.dp (by omega)) ?_); rintro _ _ ⟨rfl, hh9⟩; replace hh9 := hh9.symm; subst hh9)) <;> try simp only [qN, qC, qE, qG, qD, qA, qF, seval, qQ, qO, qP, qL, qY, qZ, zC, zX, zY, hbt, qH m1320 zD, qH m20 zS, qH m1420 zS]))
      refine zW m20 zS rfl (by simp) rfl rfl fun h21 m21 f21 => ?_
      simp only [List.set_cons_zero, List.set_cons_succ] at m21
      have S21 : HS h18 h21 := (s19.upd n19 f20).upd n19 f21
      have fr21 : FR 11 k hb h21 := fr18.new n19 (s19.upd n19 f20) f21
      have m1421 := S21 _ _ m18
      have m521 := S21 _ _ m518
      have x21 := x18.hs S21
      refine qJ ?_; repeat' (first | ((with_reducible first | apply qI | apply qB) <;> try simp only [qN, qC, qE, qG, qD, qA, qF, seval, qQ, qO, qP, qL, qY, qZ, zC, zX, zY, qH m521 qK3, qH m21 zS, qH m21 zD]))
      refine (sG N (s18.trans S21) t x21 (((q3.hs S21))) hpf (d := y.dp) (l := y.l) (r := S.2) hdp (by omega) (by omega) (by omega)).mono ?_
      rintro _ h22 ⟨rfl, s22, fr22, v22, cs22, x22⟩
      have m1422 := fr22 _ _ m1421 (.inr ⟨k14k, by simp⟩)
      refine qJ ?_; repeat' (first | ((with_reducible apply qI) <;> try simp only [qN, qC, qE, qG, qD, qA, qF, seval, qQ, qO, qP, qL, qY, qZ, zC, zX, zY]))
      refine zW m1422 zS rfl (by simp) rfl rfl fun h23 m23 f23 => ?_
      simp only [List.set_cons_zero] at m23
      have n14h0 : h0 k14 = none := s12.none_of n14
      have fr23 : FR 11 k hb h23 := fun j B m q => by
        have hj : j ≠ k14 := fun z => by rw [z, n14b] at m; cases m
        rw [f23 j hj]
        exact fr22 j B (fr21 j B m q) q
      have eu : pA (zL id) S p = (S.1 ++ [vF S.1 y.dp y.pf y.l S.2], S.1.length) := by
        unfold pA
        rw [enp]
        simp only [hbq, if_true, if_false]
      refine qJ ?_; repeat' (first | ((with_reducible apply qI) <;> try simp only [qN, qC, qE, qG, qD, qA, qF, seval, qQ, qO, qP, qL, qY, qZ, zC, zX, zY, bq_n]))
      refine ⟨pA (zL id) S p, by rw [eS]; exact (sS (M := M) hp).symm, s22.upd n14h0 f23, fr23, by rw [eu]; exact m23, by rw [eu]; simp, by rw [eu]; simp; omega, ⟨L ++ [vF S.1 y.dp y.pf y.l S.2], by rw [eu, eL, List.append_assoc]⟩, v22, cs22, ?_⟩
      rw [eu]
      exact x22.upd m1422 rfl k14k.symm f23
  · obtain ⟨S, eS, s18, fr18, m18, hlt, hle, ⟨L, eL⟩, v18, cs18, x18⟩ := hI
    rw [List.drop_zero] at eS
    refine qJ ?_; repeat' (first | with_reducible apply qK | ((with_reducible first | apply qI | apply qB | apply qM) <;> try simp only [qN, qC, qE, qG, qD, qA, qF, seval, qQ, qO, qP, qL, qY, qZ, zC, zX, zY, qH m18 zS]))
    subst eS
    exact ⟨rfl, s18, fun j B m q => fr18 j B (frb j B m q) q, v18, cs18, x18⟩
end
theorem yY : type_of% (And.intro mS (And.intro zF (And.intro yJ (And.intro vU (And.intro xB (And.intro uI (And.intro kC (And.intro wF rs92)))))))) := And.intro mS (And.intro zF (And.intro yJ (And.intro vU (And.intro xB (And.intro uI (And.intro kC (And.intro wF rs92)))))))
theorem yT : type_of% (And.intro zF (And.intro yJ (And.intro qH9 (And.intro vU (And.intro xB (And.intro uI (And.intro kC (And.intro wF (And.intro zA1 rs133))))))))) := And.intro zF (And.intro yJ (And.intro qH9 (And.intro vU (And.intro xB (And.intro uI (And.intro kC (And.intro wF (And.intro zA1 rs133))))))))
theorem vX : type_of% (And.intro mS (And.intro zF (And.intro yJ (And.intro qH9 (And.intro vU (And.intro xB (And.intro uI (And.intro kC (And.intro wF rs90))))))))) := And.intro mS (And.intro zF (And.intro yJ (And.intro qH9 (And.intro vU (And.intro xB (And.intro uI (And.intro kC (And.intro wF rs90))))))))
def ivs (l : List Nat) : List Value := l.map fun (p : Nat) => .int .i64 (p : Int)
theorem ivs_u8 (l : List Nat) : (ivs l).all vO = true := by simp only [ivs, List.all_map]; exact List.all_eq_true.2 (fun _ _ => rfl)
section
variable {h0 h h' : GH} {k : Nat} {v : Value} {cs : List Value} {M : List Nd}
theorem zG0 (N : Nat) (x : AB h0 h k v cs M) {id ky : List UInt8} {si : Nat} {rt at_ : Int} {fs : List Nat} {nd : Nd} {same : Bool} {S0 : List Nd × Nat} (sp : Spot M id ky si rt fs at_ nd same S0) :
    GTri Tryz.prog N 54 [.pointer (some ⟨k, 0, none⟩), .int .i64 at_] h fun u h' => HS h h' ∧ ∃ cn, u = .tuple #[.agg cn.toArray, .bool (!(at_ == -1))] ∧ RNd h' cn nd := by
  cases sp with
  | no =>
    refine (qB3 N x (.inl (by omega))).mono ?_
    rintro _ h1 ⟨s1, rfl⟩
    exact ⟨s1, zN, rfl, none, 0, none, 0, none, 0, none, 0, rfl, RB.nil _, RB.nil _, RB.nil _, RB.nil _⟩
  | @way i e fs nd w =>
    refine (qB4 N x w.end.1).mono ?_
    rintro _ h1 ⟨s1, cn, rfl, r1⟩
    have : ((e : Int) == -1) = false := by first | (simp; done) | (simp; omega)
    exact ⟨s1, cn, by rw [this]; rfl, r1⟩
theorem zG1 (N : Nat) (x : AB h0 h k v cs M) {id ky : List UInt8} {si : Nat} {rt at_ : Int} {fs : List Nat} {nd : Nd} {same : Bool} {S0 : List Nd × Nat} (sp : Spot M id ky si rt fs at_ nd same S0) :
    GTri Tryz.prog N 54 [.pointer (some ⟨k, 0, none⟩), .int .i64 rt] h fun u h' => HS h h' ∧ ∃ cn y, u = .tuple #[.agg cn.toArray, .bool (!(rt == -1))] ∧ RNd h' cn y := by
  cases sp with
  | no =>
    refine (qB3 N x (.inl (by omega))).mono ?_
    rintro _ h1 ⟨s1, rfl⟩
    exact ⟨s1, zN, ⟨false, [], [], 0, 0, [], 0, 0, 0, []⟩, rfl, none, 0, none, 0, none, 0, none, 0, rfl, RB.nil _, RB.nil _, RB.nil _, RB.nil _⟩
  | @way i e fs nd w =>
    obtain ⟨y, hy⟩ : ∃ y, M[i]? = some y := by
      cases w with
      | stop h1 _ => exact ⟨_, h1⟩
      | go h1 _ _ => exact ⟨_, h1⟩
    refine (qB4 N x hy).mono ?_
    rintro _ h1 ⟨s1, cn, rfl, r1⟩
    have : ((i : Int) == -1) = false := by first | (simp; done) | (simp; omega)
    exact ⟨s1, cn, y, by rw [this]; rfl, r1⟩
theorem zP1 (N : Nat) (x : AB h0 h k v cs M) {a : Option Addr} {c : Nat} {id ky : List UInt8} {si : Nat} {rt at_ : Int} {fs : List Nat} {nd : Nd} {same : Bool} {S0 : List Nd × Nat} (sp : Spot M id ky si rt fs at_ nd same S0) (hfs : fs.length ≤ 8 * (zL id).length)
    (rr : RB h (.slice a (zL id).length c) (zL id)) :
    GTri Tryz.prog N 92 [.pointer (some ⟨k, 0, none⟩), .int .i64 rt, .slice a (zL id).length c] h fun u h' => HS h h' ∧ ∃ af cf, u = .tuple #[.slice af fs.length cf, .int .i64 at_] ∧ OWNC 1 h h' (.slice af fs.length cf) fs.length (ivs fs) := by
  have hkl := vV id
  have w8 : IntKind.i64.wrap (8 * ((zL id).length : Int)) = 8 * ((zL id).length : Int) := by rw [wrap64 (by omega) (by omega)]
  have w9 : IntKind.i64.wrap (8 * ((zL id).length : Int) + 1) = 8 * ((zL id).length : Int) + 1 := by rw [wrap64 (by omega) (by omega)]
  refine zU Tryz.func92 rfl gf92 ok92 (by simp [Tryz.ntmps92]) ?_
  refine qJ ?_; repeat' (first | (with_reducible first | apply qK | apply qS) | ((with_reducible first | apply qI | apply qB) <;> try simp only [qN, qC, qE, qG, qD, qA, qF, seval, qQ, qO, qP, yY, w8, w9]))
  cases sp with
  | no =>
    refine xR [0, 2, 16] (fun (j : Nat) => [(8, .slice none 0 0), (9, .int .i64 (-1)), (17, .int .i64 0)]) (fun q j h' => q = 0 ∧ h' = h) 0 0 (by simp [lk]) ⟨rfl, rfl⟩ ?_
    rintro _ _ _ ⟨rfl, rfl⟩
    have d : decide ((0 : Int) < 8 * ((zL id).length : Int) + 1) = true := decide_eq_true (by omega)
    refine qJ ?_; repeat' (first | (with_reducible first | apply qK | apply qS) | ((with_reducible first | apply qI | apply qB | apply qR | apply qT) <;> try simp only [qN, qC, qE, qG, qD, qA, qF, seval, qQ, qO, qP, yY, d]))
    refine (qB3 N x (.inl (by omega))).mono ?_
    rintro _ h1 ⟨s1, rfl⟩
    simp only [zN]
    refine qJ ?_; repeat' (first | ((with_reducible apply qI) <;> try simp only [qN, qC, qE, qG, qD, qA, qF, seval, qQ, qO, qP, yY]))
    refine xE fun k11 h11 m11 s11 f11 n11 => ?_
    refine qJ ?_; repeat' (first | ((with_reducible apply qI) <;> try simp only [qN, qC, qE, qG, qD, qA, qF, seval, qQ, qO, qP, yY]))
    refine wL m11 wE rfl (by decide) rfl rfl rfl fun h12 m12 f12 => ?_
    refine qJ ?_; repeat' (first | with_reducible apply qK | ((with_reducible first | apply qI | apply qB | apply qR | apply qM) <;> try simp only [qN, qC, qE, qG, qD, qA, qF, seval, qQ, qO, qP, yY]))
    exact ⟨s1.trans (s11.upd n11 f12), none, 0, rfl, OWNC.nil _ _ _⟩
  | @way i e fs nd w =>
    obtain ⟨w0, wf⟩ := w.at
    obtain ⟨we, ws⟩ := w.end
    refine xR [0, 2, 16] (fun (s : Nat × Option Addr × Nat × Nat) => [(8, .slice s.2.1 s.1 s.2.2.1), (9, .int .i64 (s.2.2.2 : Int)), (17, .int .i64 (s.1 : Int))])
      (fun q s h' => fs.length - s.1 = q ∧ s.1 ≤ fs.length ∧ HS h h' ∧ OWNC 1 h h' (.slice s.2.1 s.1 s.2.2.1) s.1 (ivs (fs.take s.1)) ∧ (fs ++ [e])[s.1]? = some s.2.2.2) fs.length (0, none, 0, i) (by simp [lk]) ⟨rfl, by simp, HS.refl _, OWNC.nil _ _ _, w0⟩ ?_
    rintro _ ⟨j, af, cf, p⟩ h10 ⟨rfl, hj, s10, ow, hp⟩
    simp only at hj ow hp
    have hpM : ∃ y, M[p]? = some y ∧ (j < fs.length → fs[j]? = some p ∧ kF (zL id) y = false) ∧ (j = fs.length → e = p ∧ nd = y) := by
      by_cases hjl : j < fs.length
      · rw [List.getElem?_append_left hjl] at hp
        obtain ⟨y, q1, q2, _⟩ := wf j p hp
        exact ⟨y, q1, fun _ => ⟨hp, q2⟩, fun q => by omega⟩
      · have : j = fs.length := by omega
        subst this
        rw [List.getElem?_append_right (by omega), Nat.sub_self] at hp
        cases hp
        exact ⟨nd, we, fun q => by omega, fun _ => ⟨rfl, rfl⟩⟩
    obtain ⟨y, hy, yg, ye⟩ := hpM
    have x10 := x.hs s10
    have oky := x10.arr.ok.ok p y hy
    have hpf := oky.pf
    have hdp := oky.dp
    have d : decide ((j : Int) < 8 * ((zL id).length : Int) + 1) = true := decide_eq_true (by omega)
    have wi : IntKind.i64.wrap ((j : Int) + 1) = ((j + 1 : Nat) : Int) := by rw [wrap64 (by omega) (by omega)]; omega
    refine qJ ?_; repeat' (first | (with_reducible first | apply qK | apply qS) | ((with_reducible first | apply qI | apply qB | apply qR | apply qT) <;> try simp only [qN, qC, qE, qG, qD, qA, qF, seval, qQ, qO, qP, yY, d]))
    refine (qB4 N x10 hy).mono ?_
    rintro _ h11 ⟨s11, cn, rfl, r11⟩
    obtain ⟨a1, c1, a2, c2, a3, c3, a4, c4, rfl, r1, r2, r3, r4⟩ := r11
    refine qJ ?_; repeat' (first | ((with_reducible apply qI) <;> try simp only [qN, qC, qE, qG, qD, qA, qF, seval, qQ, qO, qP, yY]))
    refine xE fun k12 h12 m12 s12 f12 n12 => ?_
    refine qJ ?_; repeat' (first | ((with_reducible apply qI) <;> try simp only [qN, qC, qE, qG, qD, qA, qF, seval, qQ, qO, qP, yY]))
    refine xY m12 wE rfl (by decide) rfl rfl rfl fun h13 m13 f13 => ?_
    simp only [Nd.cs] at m13
    have S13 := s11.trans (s12.upd n12 f13)
    have q3 := r3.hs (s12.upd n12 f13)
    have rb13 := (rr.hs s10).hs S13
    by_cases hjl : j < fs.length
    case neg =>
      obtain ⟨rfl, rfl⟩ := ye (by omega)
      obtain rfl : j = fs.length := by omega
      rw [List.take_of_length_le (Nat.le_refl _)] at ow
      cases hlf : nd.lf
      case true =>
        rw [hlf] at m13
        refine qJ ?_; repeat' (first | with_reducible apply qK | ((with_reducible first | apply qI | apply qB | apply qR | apply qT | apply qM) <;> try simp only [qN, qC, qE, qG, qD, qA, qF, seval, qQ, qO, qP, yY, qH m13 gV, qH m13 zD, qH m13 zS, wi]))
        exact ⟨s10.trans S13, af, cf, rfl, ow.hs S13⟩
      have hnb : tV (zL id) nd.pf (nd.dp : Int) = false := by
        unfold kF at ws
        rw [hlf] at ws
        simpa using ws
      rw [hlf] at m13
      refine qJ ?_; repeat' (first | with_reducible apply qK | ((with_reducible first | apply qI | apply qB | apply qR | apply qT) <;> try simp only [qN, qC, qE, qG, qD, qA, qF, seval, qQ, qO, qP, yY, qH m13 gV, qH m13 zD, qH m13 zS]))
      refine (mN N h13 rb13 q3 (by omega) (by omega) nd.dp (WalkArith.wf_i64 (by omega))).mono ?_
      rintro _ h14 ⟨rfl, s14⟩
      refine qJ ?_; repeat' (first | with_reducible apply qK | ((with_reducible first | apply qI | apply qB | apply qR | apply qM) <;> try simp only [qN, qC, qE, qG, qD, qA, qF, seval, qQ, qO, qP, yY, hnb]))
      exact ⟨(s10.trans S13).trans s14, af, cf, rfl, (ow.hs S13).hs s14⟩
    obtain ⟨hfj, hst⟩ := yg hjl
    obtain ⟨hlf, hbg⟩ := yE hst
    rw [hlf] at m13
    obtain ⟨y', hy', _, hkid⟩ := wf j p hfj
    rw [hy] at hy'
    cases hy'
    refine qJ ?_; repeat' (first | with_reducible apply qK | ((with_reducible first | apply qI | apply qB | apply qR | apply qT) <;> try simp only [qN, qC, qE, qG, qD, qA, qF, seval, qQ, qO, qP, yY, qH m13 gV, qH m13 zD, qH m13 zS]))
    refine (mN N h13 rb13 q3 (by omega) (by omega) y.dp (WalkArith.wf_i64 (by omega))).mono ?_
    rintro _ h14 ⟨rfl, s14⟩
    have m14 := s14 _ _ m13
    have S14 := S13.trans s14
    have rb14 := rb13.hs s14
    refine qJ ?_; repeat' (first | with_reducible apply qK | ((with_reducible first | apply qI | apply qB | apply qR | apply qT) <;> try simp only [qN, qC, qE, qG, qD, qA, qF, seval, qQ, qO, qP, yY, hbg]))
    refine qO4 el127 rfl rfl (by decide) (by decide) rfl fun k15 h15 b15 s15 f15 n15 => ?_
    have S15 := S14.trans s15
    refine qJ ?_; repeat' (first | ((with_reducible apply qI) <;> try simp only [qN, qC, qE, qG, qD, qA, qF, seval, qQ, qO, qP, yY]))
    refine gG el127 Tryz.underlying127 rfl (s10.trans S15) (ow.hs S15) b15 rfl rfl (by omega) (by simp only [maxLen]; omega) fun v16 h16 s16 fr16 o16 => ?_
    obtain ⟨a16, c16, rfl⟩ := o16.form
    have m16 := qH1 fr16 (s15 _ _ m14) (by simp)
    have hu : (ivs (fs.take j)).all vO = true := ivs_u8 _
    have rb16 := fr_rb fr16 hu (rb14.hs s15)
    have et : ivs (fs.take j) ++ vcells (.int .i64 (p : Int)) = ivs (fs.take (j + 1)) := by
      have h1 := List.getElem?_eq_some_iff.1 hfj
      rw [List.take_succ_eq_append_getElem h1.1, h1.2]
      simp [ivs, vcells]
    rw [et] at o16
    have ek : rV (zL id) y = if xA (zL id) y.dp = 1 then y.r else y.l := rfl
    cases hbt : (xA (zL id) y.dp == 1)
    · have hbq : ¬ (xA (zL id) y.dp = 1) := by simpa using hbt
      rw [if_neg hbq] at ek
      rw [ek] at hkid
      refine qJ ?_; repeat' (first | with_reducible apply qK | ((first | (with_reducible first | apply qI | apply qB | apply qR) | ((refine GTri.mono (jK _ _ rb16 y.dp (by omega)) ?_); rintro _ _ ⟨rfl, hh9⟩; replace hh9 := hh9.symm; subst hh9)) <;> try simp only [qN, qC, qE, qG, qD, qA, qF, seval, qQ, qO, qP, yY, hbt, qH m16 zS, wi]))
      exact ⟨_, (j + 1, a16, c16, y.l), by simp only; omega, (by simp only [List.forall_mem_cons, List.not_mem_nil, false_implies, implies_true, List.map, List.cons_append, List.nil_append, lk, Nat.reduceEqDiff, reduceIte, and_true, true_and]), rfl, by simp only; omega, s16, o16, hkid⟩
    · have hbq : xA (zL id) y.dp = 1 := by simpa using hbt
      rw [if_pos hbq] at ek
      rw [ek] at hkid
      refine qJ ?_; repeat' (first | with_reducible apply qK | ((first | (with_reducible first | apply qI | apply qB | apply qR) | ((refine GTri.mono (jK _ _ rb16 y.dp (by omega)) ?_); rintro _ _ ⟨rfl, hh9⟩; replace hh9 := hh9.symm; subst hh9)) <;> try simp only [qN, qC, qE, qG, qD, qA, qF, seval, qQ, qO, qP, yY, hbt, qH m16 zS, wi]))
      exact ⟨_, (j + 1, a16, c16, y.r), by simp only; omega, (by simp only [List.forall_mem_cons, List.not_mem_nil, false_implies, implies_true, List.map, List.cons_append, List.nil_append, lk, Nat.reduceEqDiff, reduceIte, and_true, true_and]), rfl, by simp only; omega, s16, o16, hkid⟩
theorem Spot.noa {id ky : List UInt8} {si : Nat} {rt at_ : Int} {fs : List Nat} {nd : Nd} {same : Bool} {S0 : List Nd × Nat} (sp : Spot M id ky si rt fs at_ nd same S0) : (at_ == -1) = (rt == -1) ∧ ((at_ == -1) = true → same = false) ∧ ((at_ == -1) = false → same = (nd.lf && nd.id == id) ∧ 0 ≤ at_) := by
  cases sp with
  | no => exact ⟨rfl, fun _ => rfl, fun q => by simp at q⟩
  | @way i e fs nd w =>
    have h1 : ((i : Int) == -1) = false := by first | (simp; done) | (simp; omega)
    have h2 : ((e : Int) == -1) = false := by first | (simp; done) | (simp; omega)
    exact ⟨by rw [h1, h2], (fun q => by rw [h2] at q; cases q), (fun _ => ⟨rfl, by omega⟩)⟩
theorem c_rGet (N : Nat) (x : AB h0 h k v cs M) {a : Option Addr} {c : Nat} {id ky : List UInt8} {si : Nat} {rt at_ : Int} {fs : List Nat} {nd : Nd} {same : Bool} {S0 : List Nd × Nat} (sp : Spot M id ky si rt fs at_ nd same S0) (hfs : fs.length ≤ 8 * (zL id).length)
    (ri : RB h (.slice a id.length c) id) :
    GTri Tryz.prog N 133 [.pointer (some ⟨k, 0, none⟩), .int .i64 rt, .slice a id.length c] h fun u h' => HS h h' ∧ ∃ y z w, u = .tuple #[.agg #[y, z, w], .bool same] ∧ [y, z, w].all zK = true := by
  obtain ⟨_, sn, sy⟩ := sp.noa
  refine zU Tryz.func133 rfl gf133 ok133 (by simp [Tryz.ntmps133]) ?_
  repeat' (first | with_reducible apply qK | ((with_reducible apply qB) <;> try simp only [qN, qC, qE, qG, qD, qA, qF, seval, qQ, qO, qP, yT]))
  refine xE fun k6 h6 m6 s6 f6 n6 => ?_
  refine qJ ?_; repeat' (first | with_reducible apply qK | ((with_reducible first | apply qI | apply qB) <;> try simp only [qN, qC, qE, qG, qD, qA, qF, seval, qQ, qO, qP, yT]))
  refine (pR N h6 (ri.hs s6) rfl).mono ?_
  rintro _ h7 ⟨s7, ar, cr, rfl, rr, _⟩
  have S7 := s6.trans s7
  refine qJ ?_; repeat' (first | ((with_reducible apply qI) <;> try simp only [qN, qC, qE, qG, qD, qA, qF, seval, qQ, qO, qP, yT]))
  refine (zP1 N (x.hs S7) sp hfs rr).mono ?_
  rintro _ h8 ⟨s8, af, cf, rfl, ow⟩
  have S8 := S7.trans s8
  refine qJ ?_; repeat' (first | with_reducible apply qK | ((with_reducible first | apply qI | apply qB) <;> try simp only [qN, qC, qE, qG, qD, qA, qF, seval, qQ, qO, qP, yT]))
  refine (zG0 N (x.hs S8) sp).mono ?_
  rintro _ h9 ⟨s9, cn, rfl, r9⟩
  obtain ⟨a1, c1, a2, c2, a3, c3, a4, c4, rfl, r1, r2, r3, r4⟩ := r9
  refine qJ ?_; repeat' (first | ((with_reducible apply qI) <;> try simp only [qN, qC, qE, qG, qD, qA, qF, seval, qQ, qO, qP, yT]))
  refine xE fun k10 h10 m10 s10 f10 n10 => ?_
  refine qJ ?_; repeat' (first | ((with_reducible apply qI) <;> try simp only [qN, qC, qE, qG, qD, qA, qF, seval, qQ, qO, qP, yT]))
  refine xY m10 wE rfl (by decide) rfl rfl rfl fun h11 m11 f11 => ?_
  simp only [Nd.cs] at m11
  have s911 := s10.upd n10 f11
  have S11 := (S8.trans s9).trans s911
  have m611 := s911 _ _ (s9 _ _ (s8 _ _ (s7 _ _ m6)))
  have n6h : h k6 = none := n6
  have cv1 := (r1.hs s911).conv Tryz.underlying22 Tryz.underlying5 Tryz.underlying9
  have cv2 := (ri.hs S11).conv Tryz.underlying22 Tryz.underlying5 Tryz.underlying9
  cases hn : (at_ == -1)
  case true =>
    rw [sn hn]
    refine qJ ?_; repeat' (first | with_reducible apply qK | ((with_reducible first | apply qI | apply qB | apply qR) <;> try simp only [qN, qC, qE, qG, qD, qA, qF, seval, qQ, qO, qP, yT, Bool.not_true, xP, xZ, vY, Shape.pl, List.all_cons, List.all_nil, zK]))
    refine wL m611 qI0 rfl (by decide) rfl rfl rfl fun h12 m12 f12 => ?_
    simp only [vcells] at m12
    have ld := zI (P := Tryz.prog) (t := 31) m12 qI0 rfl
    refine qJ ?_; repeat' (first | ((with_reducible first | apply qI | apply qM) <;> try simp only [qN, qC, qE, qG, qD, qA, qF, seval, qQ, qO, qP, yT, dN, ld]))
    exact ⟨S11.upd n6h f12, _, _, _, rfl, rfl⟩
  rw [(sy hn).1]
  cases hlf : nd.lf
  case false =>
    rw [hlf] at m11
    refine qJ ?_; repeat' (first | with_reducible apply qK | ((with_reducible first | apply qI | apply qB | apply qR) <;> try simp only [qN, qC, qE, qG, qD, qA, qF, seval, qQ, qO, qP, yT, qH m11 gV, Bool.not_false, xP, xZ, vY, Shape.pl, List.all_cons, List.all_nil, zK]))
    refine wL m611 qI0 rfl (by decide) rfl rfl rfl fun h12 m12 f12 => ?_
    simp only [vcells] at m12
    have ld := zI (P := Tryz.prog) (t := 31) m12 qI0 rfl
    refine qJ ?_; repeat' (first | ((with_reducible first | apply qI | apply qM) <;> try simp only [qN, qC, qE, qG, qD, qA, qF, seval, qQ, qO, qP, yT, dN, ld]))
    exact ⟨S11.upd n6h f12, _, _, _, rfl, rfl⟩
  rw [hlf] at m11
  cases hid : (nd.id == id)
  case false =>
    refine qJ ?_; repeat' (first | with_reducible apply qK | ((with_reducible first | apply qI | apply qB | apply qR) <;> try simp only [qN, qC, qE, qG, qD, qA, qF, seval, qQ, qO, qP, yT, qH m11 gV, qH m11 zD, Bool.not_false, cv1, cv2, kM, hid, xP, xZ, vY, Shape.pl, List.all_cons, List.all_nil, zK]))
    refine wL m611 qI0 rfl (by decide) rfl rfl rfl fun h12 m12 f12 => ?_
    simp only [vcells] at m12
    have ld := zI (P := Tryz.prog) (t := 31) m12 qI0 rfl
    refine qJ ?_; repeat' (first | ((with_reducible first | apply qI | apply qM) <;> try simp only [qN, qC, qE, qG, qD, qA, qF, seval, qQ, qO, qP, yT, dN, ld]))
    exact ⟨S11.upd n6h f12, _, _, _, rfl, rfl⟩
  refine qJ ?_; repeat' (first | with_reducible apply qK | ((with_reducible first | apply qI | apply qB | apply qR | apply qT) <;> try simp only [qN, qC, qE, qG, qD, qA, qF, seval, qQ, qO, qP, yT, qH m11 gV, qH m11 zD, qH m11 zS, Bool.not_false, cv1, cv2, kM, hid, xP, xZ, vY, Shape.pl, List.all_cons, List.all_nil, zK]))
  refine wL m611 qI0 rfl (by decide) rfl rfl rfl fun h12 m12 f12 => ?_
  simp only [vcells] at m12
  have ld := zI (P := Tryz.prog) (t := 31) m12 qI0 rfl
  refine qJ ?_; repeat' (first | ((with_reducible first | apply qI | apply qM) <;> try simp only [qN, qC, qE, qG, qD, qA, qF, seval, qQ, qO, qP, yT, dN, ld]))
  exact ⟨S11.upd n6h f12, _, _, _, rfl, rfl⟩
theorem c_rNeeds (N : Nat) (x : AB h0 h k v cs M) {a : Option Addr} {c : Nat} {id ky : List UInt8} {si : Nat} {rt at_ : Int} {fs : List Nat} {nd : Nd} {same : Bool} {S0 : List Nd × Nat} (sp : Spot M id ky si rt fs at_ nd same S0) (hfs : fs.length ≤ 8 * (zL id).length)
    (ri : RB h (.slice a id.length c) id) :
    GTri Tryz.prog N 90 [.pointer (some ⟨k, 0, none⟩), .int .i64 rt, .slice a id.length c] h fun u h' => HS h h' ∧ ∃ n : Nat, u = .int .i64 (n : Int) ∧ n ≤ fs.length + 2 := by
  obtain ⟨ea, sn, sy⟩ := sp.noa
  have hkl := vV id
  have w1 : IntKind.i64.wrap ((fs.length : Int) + 1) = ((fs.length + 1 : Nat) : Int) := by rw [wrap64 (by omega) (by omega)]; omega
  have w2 : IntKind.i64.wrap ((fs.length : Int) + 2) = ((fs.length + 2 : Nat) : Int) := by rw [wrap64 (by omega) (by omega)]; omega
  refine zU Tryz.func90 rfl gf90 ok90 (by simp [Tryz.ntmps90]) ?_
  refine qJ ?_; repeat' (first | with_reducible apply qK | ((with_reducible first | apply qI | apply qB) <;> try simp only [qN, qC, qE, qG, qD, qA, qF, seval, qQ, qO, qP, vX]))
  refine (zG1 N x sp).mono ?_
  rintro _ h1 ⟨s1, cn, y, rfl, r1⟩
  have l1 := r1.len
  refine qJ ?_; repeat' (first | ((with_reducible apply qI) <;> try simp only [qN, qC, qE, qG, qD, qA, qF, seval, qQ, qO, qP, vX]))
  refine xE fun k7 h7 m7 s7 f7 n7 => ?_
  refine qJ ?_; repeat' (first | ((with_reducible apply qI) <;> try simp only [qN, qC, qE, qG, qD, qA, qF, seval, qQ, qO, qP, vX]))
  refine xY m7 wE rfl (by decide) l1.1 rfl l1.2.1 fun h8 m8 f8 => ?_
  have S8 := s1.trans (s7.upd n7 f8)
  have cond : ∀ b, (rt == -1) = b → (if (rt != -1) = true then !(!b) else false) = false := fun b hb => by unfold bne; rw [hb]; cases b <;> rfl
  have hstep : (rt != -1) = !(rt == -1) := rfl
  cases hr : (rt == -1)
  all_goals
    rw [hr] at hstep
    simp only [Bool.not_true, Bool.not_false] at hstep
  · refine qJ ?_; repeat' (first | with_reducible apply qK | ((with_reducible first | apply qI | apply qB | apply qR | apply qT) <;> try simp only [qN, qC, qE, qG, qD, qA, qF, seval, qQ, qO, qP, vX, hstep, hr, Bool.not_false, Bool.not_true]))
    refine (pR N h8 (ri.hs S8) rfl).mono ?_
    rintro _ h9 ⟨s9, ar, cr, rfl, rr, _⟩
    have S9 := S8.trans s9
    refine qJ ?_; repeat' (first | ((with_reducible apply qI) <;> try simp only [qN, qC, qE, qG, qD, qA, qF, seval, qQ, qO, qP, vX]))
    refine (zP1 N (x.hs S9) sp hfs rr).mono ?_
    rintro _ h10 ⟨s10, af, cf, rfl, ow⟩
    have S10 := S9.trans s10
    refine qJ ?_; repeat' (first | with_reducible apply qK | ((with_reducible first | apply qI | apply qB) <;> try simp only [qN, qC, qE, qG, qD, qA, qF, seval, qQ, qO, qP, vX]))
    refine (c_rGet N (x.hs S10) sp hfs (ri.hs S10)).mono ?_
    rintro _ h11 ⟨s11, y1, y2, y3, rfl, hc⟩
    refine qJ ?_; repeat' (first | ((with_reducible apply qI) <;> try simp only [qN, qC, qE, qG, qD, qA, qF, seval, qQ, qO, qP, vX]))
    refine xE fun k12 h12 m12 s12 f12 n12 => ?_
    refine qJ ?_; repeat' (first | ((with_reducible apply qI) <;> try simp only [qN, qC, qE, qG, qD, qA, qF, seval, qQ, qO, qP, vX]))
    refine wL m12 qI0 rfl (by decide) rfl rfl (by simpa [vcells] using hc) fun h13 m13 f13 => ?_
    have S13 := (S10.trans s11).trans (s12.upd n12 f13)
    cases hsm : same
    case true =>
      refine qJ ?_; repeat' (first | with_reducible apply qK | ((with_reducible first | apply qI | apply qB | apply qR | apply qM) <;> try simp only [qN, qC, qE, qG, qD, qA, qF, seval, qQ, qO, qP, vX, w1, w2]))
      exact ⟨S13, fs.length + 1, rfl, by omega⟩
    by_cases ha : at_ < 0
    · have da : decide (at_ < 0) = true := decide_eq_true ha
      refine qJ ?_; repeat' (first | with_reducible apply qK | ((with_reducible first | apply qI | apply qB | apply qR | apply qM) <;> try simp only [qN, qC, qE, qG, qD, qA, qF, seval, qQ, qO, qP, vX, da, w1, w2]))
      exact ⟨S13, fs.length + 1, rfl, by omega⟩
    · have da : decide (at_ < 0) = false := decide_eq_false ha
      refine qJ ?_; repeat' (first | with_reducible apply qK | ((with_reducible first | apply qI | apply qB | apply qR | apply qT | apply qM) <;> try simp only [qN, qC, qE, qG, qD, qA, qF, seval, qQ, qO, qP, vX, da, w1, w2]))
      exact ⟨S13, fs.length + 2, rfl, by omega⟩
  · refine qJ ?_; repeat' (first | with_reducible apply qK | ((with_reducible first | apply qI | apply qB | apply qR | apply qT) <;> try simp only [qN, qC, qE, qG, qD, qA, qF, seval, qQ, qO, qP, vX, hstep, hr, Bool.not_false, Bool.not_true]))
    refine (pR N h8 (ri.hs S8) rfl).mono ?_
    rintro _ h9 ⟨s9, ar, cr, rfl, rr, _⟩
    have S9 := S8.trans s9
    refine qJ ?_; repeat' (first | ((with_reducible apply qI) <;> try simp only [qN, qC, qE, qG, qD, qA, qF, seval, qQ, qO, qP, vX]))
    refine (zP1 N (x.hs S9) sp hfs rr).mono ?_
    rintro _ h10 ⟨s10, af, cf, rfl, ow⟩
    have S10 := S9.trans s10
    refine qJ ?_; repeat' (first | with_reducible apply qK | ((with_reducible first | apply qI | apply qB) <;> try simp only [qN, qC, qE, qG, qD, qA, qF, seval, qQ, qO, qP, vX]))
    refine (c_rGet N (x.hs S10) sp hfs (ri.hs S10)).mono ?_
    rintro _ h11 ⟨s11, y1, y2, y3, rfl, hc⟩
    refine qJ ?_; repeat' (first | ((with_reducible apply qI) <;> try simp only [qN, qC, qE, qG, qD, qA, qF, seval, qQ, qO, qP, vX]))
    refine xE fun k12 h12 m12 s12 f12 n12 => ?_
    refine qJ ?_; repeat' (first | ((with_reducible apply qI) <;> try simp only [qN, qC, qE, qG, qD, qA, qF, seval, qQ, qO, qP, vX]))
    refine wL m12 qI0 rfl (by decide) rfl rfl (by simpa [vcells] using hc) fun h13 m13 f13 => ?_
    have S13 := (S10.trans s11).trans (s12.upd n12 f13)
    cases hsm : same
    case true =>
      refine qJ ?_; repeat' (first | with_reducible apply qK | ((with_reducible first | apply qI | apply qB | apply qR | apply qM) <;> try simp only [qN, qC, qE, qG, qD, qA, qF, seval, qQ, qO, qP, vX, w1, w2]))
      exact ⟨S13, fs.length + 1, rfl, by omega⟩
    by_cases ha : at_ < 0
    · have da : decide (at_ < 0) = true := decide_eq_true ha
      refine qJ ?_; repeat' (first | with_reducible apply qK | ((with_reducible first | apply qI | apply qB | apply qR | apply qM) <;> try simp only [qN, qC, qE, qG, qD, qA, qF, seval, qQ, qO, qP, vX, da, w1, w2]))
      exact ⟨S13, fs.length + 1, rfl, by omega⟩
    · have da : decide (at_ < 0) = false := decide_eq_false ha
      refine qJ ?_; repeat' (first | with_reducible apply qK | ((with_reducible first | apply qI | apply qB | apply qR | apply qT | apply qM) <;> try simp only [qN, qC, qE, qG, qD, qA, qF, seval, qQ, qO, qP, vX, da, w1, w2]))
      exact ⟨S13, fs.length + 2, rfl, by omega⟩
end
theorem pY : type_of% (And.intro zF (And.intro yJ (And.intro xB (And.intro kC (And.intro wF rs94))))) := And.intro zF (And.intro yJ (And.intro xB (And.intro kC (And.intro wF rs94))))
theorem xK : type_of% (And.intro mS (And.intro uK (And.intro zF (And.intro yJ (And.intro vU (And.intro xB (And.intro uI (And.intro kC (And.intro wF (And.intro zA1 rs48)))))))))) := And.intro mS (And.intro uK (And.intro zF (And.intro yJ (And.intro vU (And.intro xB (And.intro uI (And.intro kC (And.intro wF (And.intro zA1 rs48)))))))))
def xO : Nat → List (Nat × List Nat) × List Nat
  | 4 => ([(0, []), (1, []), (2, []), (4, []), (5, []), (6, []), (7, []), (8, []), (3, [7]), (9, [7]), (10, []), (11, [])], [0, 0, 0, 7, 0, 16, 48, 112, 0, 271, 1023, 2047])
  | _ => ([], [])
section
variable {h0 h h' : GH} {k : Nat} {v : Value} {cs : List Value} {M : List Nd}
theorem zP4 (N : Nat) (s0 : HS h0 h) (x : AB h0 h k v cs M) {a : Option Addr} {c : Nat} {row : List UInt8} (rr : RB h (.slice a row.length c) row) (hrow : row.length ≤ 60000) {d now e : Nat} (hd : d ≤ 8 * row.length) (hnow : now < M.length) (he : e < M.length) (hm : M.length < 10000) :
    GTri Tryz.prog N 94 [.pointer (some ⟨k, 0, none⟩), .int .i64 (d : Int), .slice a row.length c, .int .i64 (now : Int), .int .i64 (e : Int)] h fun u h' =>
      u = .int .i64 (M.length : Int) ∧ HS h0 h' ∧ FR 10 k h h' ∧ ∃ v' cs', AB h0 h' k v' cs' (M ++ [vF M d row (if xA row d = 1 then e else now) (if xA row d = 1 then now else e)]) := by
  refine zU Tryz.func94 rfl gf94 ok94 (by simp [Tryz.ntmps94]) ?_
  cases hbt : (xA row d == 1)
  · have hbq : (xA row d = 1) = False := by simpa using hbt
    simp only [hbq, if_true, if_false]
    refine qJ ?_; repeat' (first | with_reducible apply qK | ((first | (with_reducible first | apply qI | apply qB | apply qR | apply qT) | ((refine GTri.mono (jK _ _ rr d (by omega)) ?_); rintro _ _ ⟨rfl, hh9⟩; replace hh9 := hh9.symm; subst hh9)) <;> try simp only [qN, qC, qE, qG, qD, qA, qF, seval, qQ, qO, qP, pY, hbt]))
    refine (mM N s0 x rr hrow (d := d) (l := now) (r := e) hd (by omega) (by omega) hm).mono ?_
    rintro _ h13 ⟨rfl, s13, fr13, v', cs', x13⟩
    refine qJ ?_; repeat' (first | with_reducible apply qK | ((with_reducible first | apply qI | apply qB | apply qM) <;> try simp only [qN, qC, qE, qG, qD, qA, qF, seval, qQ, qO, qP, pY]))
    exact ⟨s13, fr13, v', cs', x13⟩
  · have hbq : (xA row d = 1) = True := by simpa using hbt
    simp only [hbq, if_true, if_false]
    refine qJ ?_; repeat' (first | with_reducible apply qK | ((first | (with_reducible first | apply qI | apply qB | apply qR) | ((refine GTri.mono (jK _ _ rr d (by omega)) ?_); rintro _ _ ⟨rfl, hh9⟩; replace hh9 := hh9.symm; subst hh9)) <;> try simp only [qN, qC, qE, qG, qD, qA, qF, seval, qQ, qO, qP, pY, hbt]))
    refine (mM N s0 x rr hrow (d := d) (l := e) (r := now) hd (by omega) (by omega) hm).mono ?_
    rintro _ h13 ⟨rfl, s13, fr13, v', cs', x13⟩
    refine qJ ?_; repeat' (first | with_reducible apply qK | ((with_reducible first | apply qI | apply qB | apply qM) <;> try simp only [qN, qC, qE, qG, qD, qA, qF, seval, qQ, qO, qP, pY]))
    exact ⟨s13, fr13, v', cs', x13⟩
def RinI (M : List Nd) (id : List UInt8) (S0 : List Nd × Nat) (fs : List Nat) (h0 hb : GH) (k : Nat) (i : Nat) (S : List Nd × Nat) (h' : GH) : Prop :=
  S = (fs.drop i).reverse.foldl (pA (zL id)) S0 ∧ HS h0 h' ∧ FR 10 k hb h' ∧ S.2 < S.1.length ∧ S.1.length + i ≤ S0.1.length + fs.length ∧ (∃ L, S.1 = M ++ L) ∧ ∃ v cs, AB h0 h' k v cs S.1
theorem zT3 (N : Nat) (s0 : HS h0 h) (x : AB h0 h k v cs M) (ti : TI M) {a b : Option Addr} {ca cb : Nat} {id ky : List UInt8} (ri : RB h (.slice a id.length ca) id) (rk : RB h (.slice b ky.length cb) ky) (hi : id.length ≤ 255) (hk : ky.length ≤ 60000) {si : Nat} (hs : si ≤ 1000000)
    {rt at_ : Int} {fs : List Nat} {nd : Nd} {same : Bool} {S0 : List Nd × Nat} (sp : Spot M id ky si rt fs at_ nd same S0) (hm : M.length + 2 + fs.length ≤ 9000) (hfs : fs.length ≤ 8 * (zL id).length) :
    GTri Tryz.prog N 48 [.pointer (some ⟨k, 0, none⟩), .int .i64 rt, .slice a id.length ca, .slice b ky.length cb, .int .i64 (si : Int)] h fun u h' => u = .tuple #[.int .i64 ((fs.reverse.foldl (pA (zL id)) S0).2 : Int), .int .i64 0] ∧ HS h0 h' ∧ FR 10 k h h' ∧ ∃ v' cs', AB h0 h' k v' cs' (fs.reverse.foldl (pA (zL id)) S0).1 := by
  obtain ⟨ea, sn, sy⟩ := sp.noa
  obtain ⟨⟨L0, eL0⟩, hS2, hS1, hfork⟩ := sp.facts ti hi
  have hkl := vV id
  have d1 : decide ((si : Int) < 0) = false := decide_eq_false (by omega)
  have d2 : decide ((id.length : Int) > 255) = false := decide_eq_false (by omega)
  have d3 : decide ((ky.length : Int) > 65535) = false := decide_eq_false (by omega)
  have wr : IntKind.i64.wrap (16384 - (M.length : Int)) = 16384 - (M.length : Int) := by rw [wrap64 (by omega) (by omega)]
  refine zU Tryz.func48 rfl gf48 ok48 (by simp [Tryz.ntmps48]) ?_
  refine qJ ?_; repeat' (first | with_reducible apply qK | ((with_reducible first | apply qI | apply qB) <;> try simp only [qN, qC, qE, qG, qD, qA, qF, seval, qQ, qO, qP, qL, qY, qZ, zC, xK, xO]))
  refine (zG1 N x sp).mono ?_
  rintro _ h1 ⟨s1, cn, y, rfl, r1⟩
  have l1 := r1.len
  refine qJ ?_; repeat' (first | ((with_reducible apply qI) <;> try simp only [qN, qC, qE, qG, qD, qA, qF, seval, qQ, qO, qP, qL, qY, qZ, zC, xK, xO]))
  refine xE fun k12 h2 m2 s2 f2 n2 => ?_
  refine qJ ?_; repeat' (first | ((with_reducible apply qI) <;> try simp only [qN, qC, qE, qG, qD, qA, qF, seval, qQ, qO, qP, qL, qY, qZ, zC, xK, xO]))
  refine xY m2 wE rfl (by decide) l1.1 rfl l1.2.1 fun h3 m3 f3 => ?_
  have S3 := s1.trans (s2.upd n2 f3)
  simp only [qN, qC, qE, qG, qD, qA, qF, seval, qQ, qO, qP, xK]
  refine qK ?_
  refine GW.mono (Q := fun x e' h' => x = .normal ∧ HS h3 h' ∧ lk e' 0 = .pointer (some ⟨k, 0, none⟩) ∧ lk e' 1 = .int .i64 rt ∧ lk e' 2 = .slice a id.length ca ∧ lk e' 3 = .slice b ky.length cb ∧ lk e' 4 = .int .i64 (si : Int)) ?_ ?_
  · have hstep : (rt != -1) = !(rt == -1) := rfl
    cases hr : (rt == -1)
    all_goals
      rw [hr] at hstep
      simp only [Bool.not_true, Bool.not_false] at hstep
    · refine qJ ?_; repeat' (first | with_reducible apply qK | ((with_reducible first | apply qI | apply qB | apply qR | apply qT) <;> try simp only [qN, qC, qE, qG, qD, qA, qF, seval, qQ, qO, qP, qL, qY, qZ, zC, xK, xO, hstep, hr, d1, d2, d3, Bool.not_false, Bool.not_true]))
      exact HS.refl _
    · refine qJ ?_; repeat' (first | with_reducible apply qK | ((with_reducible first | apply qI | apply qB | apply qR | apply qT) <;> try simp only [qN, qC, qE, qG, qD, qA, qF, seval, qQ, qO, qP, qL, qY, qZ, zC, xK, xO, hstep, hr, d1, d2, d3, Bool.not_false, Bool.not_true]))
      exact HS.refl _
  rintro _ e' h4 ⟨rfl, s4, q0, q1, q2, q3, q4⟩
  rw [jV]
  refine dH [(0, .pointer (some ⟨k, 0, none⟩)), (1, .int .i64 rt), (2, .slice a id.length ca), (3, .slice b ky.length cb), (4, .int .i64 (si : Int))] (by simp [q0, q1, q2, q3, q4]) ?_
  clear q0 q1 q2 q3 q4
  have S4 := S3.trans s4
  have ho4 := (x.hs S4).obj
  refine qJ ?_; repeat' (first | with_reducible apply qK | ((first | (with_reducible apply qI) | with_reducible refine zE xO xC (by kernel_rfl) ?_) <;> try simp only [qN, qC, qE, qG, qD, qA, qF, seval, qQ, qO, qP, qL, qY, qZ, zC, xK, xO, gNil, qH ho4 zS]))
  refine (c_rNeeds N (x.hs S4) sp hfs (ri.hs S4)).mono ?_
  rintro _ h5 ⟨s5, n, rfl, hn⟩
  have S5 := S4.trans s5
  have x5 := x.hs S5
  have ho5 := x5.obj
  have dn : decide ((n : Int) > 16384 - (M.length : Int)) = false := decide_eq_false (by omega)
  refine qJ ?_; repeat' (first | with_reducible apply qK | ((first | (with_reducible first | apply qI | apply qB | apply qR | apply qT) | ((refine GTri.mono (zP5 _ x5) ?_); rintro _ _ ⟨rfl, hh9⟩; replace hh9 := hh9.symm; subst hh9)) <;> try simp only [qN, qC, qE, qG, qD, qA, qF, seval, qQ, qO, qP, qL, qY, qZ, zC, xK, xO, gNil, qH ho5 zS, wr, dn]))
  refine (pR N h5 (ri.hs S5) rfl).mono ?_
  rintro _ h6 ⟨s6, ar, cr, rfl, rr, _⟩
  have S6 := S5.trans s6
  refine qJ ?_; repeat' (first | with_reducible apply qK | ((with_reducible first | apply qI | apply qB) <;> try simp only [qN, qC, qE, qG, qD, qA, qF, seval, qQ, qO, qP, qL, qY, qZ, zC, xK, xO]))
  refine (zP1 N (x.hs S6) sp hfs rr).mono ?_
  rintro _ h7 ⟨s7, af, cf, rfl, ow⟩
  have S7 := S6.trans s7
  refine qJ ?_; repeat' (first | with_reducible apply qK | ((with_reducible first | apply qI | apply qB) <;> try simp only [qN, qC, qE, qG, qD, qA, qF, seval, qQ, qO, qP, qL, qY, qZ, zC, xK, xO]))
  refine (zG0 N (x.hs S7) sp).mono ?_
  rintro _ h8 ⟨s8, cn8, rfl, r8⟩
  obtain ⟨a1, c1, a2, c2, a3, c3, a4, c4, rfl, y1, y2, y3, y4⟩ := r8
  refine qJ ?_; repeat' (first | ((with_reducible apply qI) <;> try simp only [qN, qC, qE, qG, qD, qA, qF, seval, qQ, qO, qP, qL, qY, qZ, zC, xK, xO]))
  refine xE fun k17 h9 m9 s9 f9 n9 => ?_
  refine qJ ?_; repeat' (first | ((with_reducible apply qI) <;> try simp only [qN, qC, qE, qG, qD, qA, qF, seval, qQ, qO, qP, qL, qY, qZ, zC, xK, xO]))
  refine xY m9 wE rfl (by decide) rfl rfl rfl fun h10 m10 f10 => ?_
  simp only [Nd.cs] at m10
  have s810 := s9.upd n9 f10
  have S10 := (S7.trans s8).trans s810
  have x10 := x.hs S10
  have n17h : h k17 = none := (S7.trans s8).none_of n9
  have k17k : k17 ≠ k := fun q => by rw [q, x.obj] at n17h; cases n17h
  refine qJ ?_; repeat' (first | with_reducible apply qK | ((with_reducible first | apply qI | apply qB) <;> try simp only [qN, qC, qE, qG, qD, qA, qF, seval, qQ, qO, qP, qL, qY, qZ, zC, xK, xO]))
  refine (c_rLeaf N (s0.trans S10) x10 (ri.hs S10) (rk.hs S10) hi hk hs (by omega)).mono ?_
  rintro _ h11 ⟨rfl, s11, fr11, v2, cs2, x11⟩
  have m11 := fr11 _ _ m10 (.inr ⟨k17k, by simp⟩)
  have z : ∀ {v l}, RB h8 v l → RB h11 v l := fun r => (r.hs s810).fr fr11
  have z1 := z y1
  have z3 := z y3
  have ri11 := (ri.hs S10).fr fr11
  have rr11 := z ((rr.hs s7).hs s8)
  have ow11 : OWNC 1 h6 h11 (.slice af fs.length cf) fs.length (ivs fs) := ((ow.hs s8).hs s810).fr fr11 x10.obj (by simp) (by decide)
  have cv1 := z1.conv Tryz.underlying22 Tryz.underlying5 Tryz.underlying9
  have cv2 := ri11.conv Tryz.underlying22 Tryz.underlying5 Tryz.underlying9
  simp only [qN, qC, qE, qG, qD, qA, qF, seval, qQ, qO, qP, xK]
  refine qK ?_
  refine GW.mono (Q := fun x e' h' => x = .normal ∧ (lk e' 0 = .pointer (some ⟨k, 0, none⟩) ∧ lk e' 14 = .slice ar (zL id).length cr ∧ lk e' 15 = .slice af fs.length cf ∧ lk e' 19 = .int .i64 (S0.2 : Int)) ∧ HS h0 h' ∧ FR 10 k h11 h' ∧ ∃ v3 cs3, AB h0 h' k v3 cs3 S0.1) ?_ ?_
  · cases sp with
    | no =>
      refine qJ ?_; repeat' (first | with_reducible apply qK | ((with_reducible first | apply qI | apply qB | apply qR | apply qT) <;> try simp only [qN, qC, qE, qG, qD, qA, qF, seval, qQ, qO, qP, qL, qY, qZ, zC, xK, xO, Bool.not_true]))
      exact ⟨s11, FR.of (HS.refl _), v2, cs2, x11⟩
    | @way i e fs nd w =>
      have d : ((e : Int) == -1) = false := by first | (simp; done) | (simp; omega)
      have he := (List.getElem?_eq_some_iff.1 w.end.1).1
      have okn := x.arr.ok.ok e nd w.end.1
      have okd := okn.id
      have hle := lR (zL id) (uU nd)
      have hkn := vV nd.id
      cases hlf : nd.lf
      case false =>
        rw [hlf] at m11
        have el : rE id ky si M e nd = fV (zL id) (M ++ [vZ id ky si]) M.length e nd := by unfold rE; rw [hlf]; rfl
        have ey : uU nd = nd.pf := by unfold uU; rw [hlf]; rfl
        rw [el]
        unfold fV
        rw [ey] at hle ⊢
        refine qJ ?_; repeat' (first | with_reducible apply qK | ((first | (with_reducible first | apply qI | apply qB | apply qR | apply qT) | ((refine GTri.mono (qF4 _ _ rr11 z3 rfl rfl (by omega)) ?_); rintro _ _ ⟨rfl, hh9⟩; replace hh9 := hh9.symm; subst hh9)) <;> try simp only [qN, qC, qE, qG, qD, qA, qF, seval, qQ, qO, qP, qL, qY, qZ, zC, xK, xO, d, qH m11 gV, qH m11 zD, Bool.not_false]))
        refine (zP4 N s11 x11 rr11 (by omega) (d := yW (zL id) nd.pf) (now := M.length) (e := e) (by omega) (by simp) (by simp; omega) (by simp; omega)).mono ?_
        rintro _ h12 ⟨rfl, s12, fr12, v3, cs3, x12⟩
        refine qJ ?_; repeat' (first | ((with_reducible apply qI) <;> try simp only [qN, qC, qE, qG, qD, qA, qF, seval, qQ, qO, qP, qL, qY, qZ, zC, xK, xO]))
        exact ⟨s12, fr12, v3, cs3, x12⟩
      rw [hlf] at m11
      have ey : uU nd = zL nd.id := by unfold uU; rw [hlf]; rfl
      cases hid : (nd.id == id)
      case true =>
        have el : rE id ky si M e nd = (M ++ [vZ id ky si], M.length) := by unfold rE; rw [hlf, hid]; rfl
        rw [el]
        refine qJ ?_; repeat' (first | with_reducible apply qK | ((with_reducible first | apply qI | apply qB | apply qR | apply qT) <;> try simp only [qN, qC, qE, qG, qD, qA, qF, seval, qQ, qO, qP, qL, qY, qZ, zC, xK, xO, d, qH m11 gV, qH m11 zD, cv1, cv2, kM, hid, Bool.not_false]))
        exact ⟨s11, FR.of (HS.refl _), v2, cs2, x11⟩
      have el : rE id ky si M e nd = fV (zL id) (M ++ [vZ id ky si]) M.length e nd := by unfold rE; rw [hlf, hid]; rfl
      rw [el]
      unfold fV
      rw [ey] at hle ⊢
      refine qJ ?_; repeat' (first | with_reducible apply qK | ((with_reducible first | apply qI | apply qB | apply qR) <;> try simp only [qN, qC, qE, qG, qD, qA, qF, seval, qQ, qO, qP, qL, qY, qZ, zC, xK, xO, d, qH m11 gV, qH m11 zD, cv1, cv2, kM, hid, Bool.not_false]))
      refine (pR N h11 z1 rfl).mono ?_
      rintro _ h12 ⟨s12, ak, ck, rfl, rk12, _⟩
      refine qJ ?_; repeat' (first | ((first | (with_reducible first | apply qI | apply qB) | ((refine GTri.mono (qF4 _ _ (rr11.hs s12) rk12 rfl rfl (by omega)) ?_); rintro _ _ ⟨rfl, hh9⟩; replace hh9 := hh9.symm; subst hh9)) <;> try simp only [qN, qC, qE, qG, qD, qA, qF, seval, qQ, qO, qP, qL, qY, qZ, zC, xK, xO, d, qH m11 gV, qH m11 zD, Bool.not_false]))
      refine (zP4 N (s11.trans s12) (x11.hs s12) (rr11.hs s12) (by omega) (d := yW (zL id) (zL nd.id)) (now := M.length) (e := e) (by omega) (by simp) (by simp; omega) (by simp; omega)).mono ?_
      rintro _ h13 ⟨rfl, s13, fr13, v3, cs3, x13⟩
      refine qJ ?_; repeat' (first | ((with_reducible apply qI) <;> try simp only [qN, qC, qE, qG, qD, qA, qF, seval, qQ, qO, qP, qL, qY, qZ, zC, xK, xO]))
      exact ⟨s13, (FR.of s12).trans fr13, v3, cs3, x13⟩
  rintro _ e' h12 ⟨rfl, ⟨q0, q14, q15, q19⟩, S12, fr12, v3, cs3, x12⟩
  rw [jV]
  refine dH [(0, .pointer (some ⟨k, 0, none⟩)), (14, .slice ar (zL id).length cr), (15, .slice af fs.length cf), (19, .int .i64 (S0.2 : Int))] (by simp [q0, q14, q15, q19]) ?_
  clear q0 q14 q15 q19
  have w0 : IntKind.i64.wrap ((fs.length : Int) - 1) = (fs.length : Int) - 1 := by rw [wrap64 (by omega) (by omega)]
  refine qJ ?_; repeat' (first | (with_reducible first | apply qK | apply qS) | ((with_reducible first | apply qI | apply qB) <;> try simp only [qN, qC, qE, qG, qD, qA, qF, seval, qQ, qO, qP, qL, qY, qZ, zC, xK, xO, w0]))
  refine xR [0, 10, 11, 14, 15] (fun (s : Nat × (List Nd × Nat)) => [(19, .int .i64 (s.2.2 : Int)), (22, .int .i64 ((s.1 : Int) - 1))])
    (fun q s h' => s.1 = q ∧ s.1 ≤ fs.length ∧ RinI M id S0 fs h0 h12 k s.1 s.2 h') fs.length (fs.length, S0) (by simp [lk]) ⟨rfl, Nat.le_refl _, by simp, S12, FR.of (HS.refl _), hS2, by simp only; omega, ⟨L0, eL0⟩, v3, cs3, x12⟩ ?_
  rintro _ ⟨i, S⟩ h13 ⟨rfl, hil, eS, s13, fr13, hlt, hle, ⟨L, eL⟩, v13, cs13, x13⟩
  simp only at hil eS hlt hle eL x13
  have ow13 : OWNC 1 h6 h13 (.slice af fs.length cf) fs.length (ivs fs) := (ow11.fr fr12 x11.obj (by simp) (by decide)).fr fr13 x12.obj (by simp) (by decide)
  have rr13 := (rr11.fr fr12).fr fr13
  by_cases hi0 : i = 0
  · subst hi0
    have dd : decide ((((0 : Nat) : Int) - 1) ≥ 0) = false := decide_eq_false (by omega)
    refine qJ ?_; repeat' (first | with_reducible apply qK | ((with_reducible first | apply qI | apply qB | apply qR | apply xT | apply qM) <;> try simp only [qN, qC, qE, qG, qD, qA, qF, seval, qQ, qO, qP, qL, qY, qZ, zC, xK, xO, dd]))
    rw [List.drop_zero] at eS
    subst eS
    have frh : FR 10 k h h11 := (FR.of S10).trans fr11
    exact ⟨rfl, s13, (frh.trans fr12).trans fr13, v13, cs13, x13⟩
  obtain ⟨j, rfl⟩ : ∃ j, i = j + 1 := ⟨i - 1, by omega⟩
  have ej : (((j + 1 : Nat) : Int) - 1) = (j : Int) := by omega
  have dd : decide ((j : Int) ≥ 0) = true := decide_eq_true (by omega)
  have wj : IntKind.i64.wrap ((j : Int) - 1) = (j : Int) - 1 := by rw [wrap64 (by omega) (by omega)]
  obtain ⟨p, hp⟩ := jP (show j < fs.length by omega)
  obtain ⟨y, hy, hst⟩ := hfork j p hp
  have hpM := (List.getElem?_eq_some_iff.1 hy).1
  have fi := ti.fork p y hy (yE hst).1
  have fil := fi.l
  have fir := fi.r
  have oky := x.arr.ok.ok p y hy
  have hpf := oky.pf
  have oyd := oky.dp
  have hdp : y.dp ≤ 8 * y.pf.length := by
    obtain ⟨jd, e1, e2⟩ := fi.pf
    rw [e1, wM]; omega
  have hML : M.length ≤ S.1.length := by rw [eL]; simp
  have hyS : S.1[p]? = some y := by rw [eL, List.getElem?_append_left hpM]; exact hy
  have enp : uR S.1 p = y := wT hyS
  obtain ⟨ad, g1, l4⟩ : ∃ ad, zJ Tryz.prog 127 (.slice af fs.length cf) (j : Int) = some (.pointer (some ad)) ∧ wZ Tryz.prog 3 h13 (.pointer (some ad)) = some (.int .i64 (p : Int)) := by
    rcases ow13 with ⟨_, q, _⟩ | ⟨_, _, q, _⟩ | ⟨kf, c', q, z2, z3, z4, z5, z6, z7⟩
    · omega
    · omega
    · cases q
      refine ⟨_, kR Tryz.underlying127 zS (by omega), ?_⟩
      rw [qH z6 zS, Nat.mul_one]
      simp only [ivs, List.getElem?_map, hp, Option.map_some]
  simp only [ej]
  refine qJ ?_; repeat' (first | (with_reducible first | apply qK | apply qS) | ((with_reducible first | apply qI | apply qB | apply qR | apply qT) <;> try simp only [qN, qC, qE, qG, qD, qA, qF, seval, qQ, qO, qP, qL, qY, qZ, zC, xK, xO, dd, g1, l4]))
  refine (qB4 N x13 hyS).mono ?_
  rintro _ h14 ⟨s14, cn14, rfl, r14⟩
  obtain ⟨b1, e1, b2, e2, b3, e3, b4, e4, rfl, u1, u2, u3, u4⟩ := r14
  refine qJ ?_; repeat' (first | ((with_reducible apply qI) <;> try simp only [qN, qC, qE, qG, qD, qA, qF, seval, qQ, qO, qP, qL, qY, qZ, zC, xK, xO]))
  refine xE fun k23 h15 m15 s15 f15 n15 => ?_
  refine qJ ?_; repeat' (first | ((with_reducible apply qI) <;> try simp only [qN, qC, qE, qG, qD, qA, qF, seval, qQ, qO, qP, qL, qY, qZ, zC, xK, xO]))
  refine xY m15 wE rfl (by decide) rfl rfl rfl fun h16 m16 f16 => ?_
  simp only [Nd.cs] at m16
  have s1416 := s15.upd n15 f16
  have S16 := s14.trans s1416
  have x16 := x13.hs S16
  have rr16 := rr13.hs S16
  have v3b := u3.hs s1416
  cases hbt : (xA (zL id) y.dp == 1)
  · have hbq : (xA (zL id) y.dp = 1) = False := by simpa using hbt
    refine qJ ?_; repeat' (first | with_reducible apply qK | ((first | (with_reducible first | apply qI | apply qB | apply qR) | ((refine GTri.mono (jK _ _ rr16 y.dp (by omega)) ?_); rintro _ _ ⟨rfl, hh9⟩; replace hh9 := hh9.symm; subst hh9)) <;> try simp only [qN, qC, qE, qG, qD, qA, qF, seval, qQ, qO, qP, qL, qY, qZ, zC, xK, xO, hbt, qH m16 zS, qH m16 zD]))
    refine (mM N (s13.trans S16) x16 v3b hpf (d := y.dp) (l := S.2) (r := y.r) hdp (by omega) (by omega) (by omega)).mono ?_
    rintro _ h22 ⟨rfl, s22, fr22, v22, cs22, x22⟩
    have eu : pA (zL id) S p = (S.1 ++ [vF S.1 y.dp y.pf S.2 y.r], S.1.length) := by
      unfold pA
      rw [enp]
      simp only [hbq, if_true, if_false]
    refine qJ ?_; repeat' (first | ((with_reducible first | apply qI | apply qB) <;> try simp only [qN, qC, qE, qG, qD, qA, qF, seval, qQ, qO, qP, qL, qY, qZ, zC, xK, xO, wj]))
    refine ⟨_, (j, pA (zL id) S p), by simp only; omega, ?_, rfl, by simp only; omega, by rw [eS]; exact (sS (M := M) hp).symm, s22, fr13.trans ((FR.of S16).trans fr22), by rw [eu]; simp, by rw [eu]; simp; omega, ⟨L ++ [vF S.1 y.dp y.pf S.2 y.r], by rw [eu, eL, List.append_assoc]⟩, v22, cs22, by rw [eu]; exact x22⟩
    rw [eu]
    exact (by simp only [List.forall_mem_cons, List.not_mem_nil, false_implies, implies_true, List.map, List.cons_append, List.nil_append, lk, Nat.reduceEqDiff, reduceIte, and_true, true_and])
  · have hbq : (xA (zL id) y.dp = 1) = True := by simpa using hbt
    refine qJ ?_; repeat' (first | with_reducible apply qK | ((first | (with_reducible first | apply qI | apply qB | apply qR) | ((refine GTri.mono (jK _ _ rr16 y.dp (by omega)) ?_); rintro _ _ ⟨rfl, hh9⟩; replace hh9 := hh9.symm; subst hh9)) <;> try simp only [qN, qC, qE, qG, qD, qA, qF, seval, qQ, qO, qP, qL, qY, qZ, zC, xK, xO, hbt, qH m16 zS, qH m16 zD]))
    refine (mM N (s13.trans S16) x16 v3b hpf (d := y.dp) (l := y.l) (r := S.2) hdp (by omega) (by omega) (by omega)).mono ?_
    rintro _ h22 ⟨rfl, s22, fr22, v22, cs22, x22⟩
    have eu : pA (zL id) S p = (S.1 ++ [vF S.1 y.dp y.pf y.l S.2], S.1.length) := by
      unfold pA
      rw [enp]
      simp only [hbq, if_true, if_false]
    refine qJ ?_; repeat' (first | ((with_reducible first | apply qI | apply qB) <;> try simp only [qN, qC, qE, qG, qD, qA, qF, seval, qQ, qO, qP, qL, qY, qZ, zC, xK, xO, wj]))
    refine ⟨_, (j, pA (zL id) S p), by simp only; omega, ?_, rfl, by simp only; omega, by rw [eS]; exact (sS (M := M) hp).symm, s22, fr13.trans ((FR.of S16).trans fr22), by rw [eu]; simp, by rw [eu]; simp; omega, ⟨L ++ [vF S.1 y.dp y.pf y.l S.2], by rw [eu, eL, List.append_assoc]⟩, v22, cs22, by rw [eu]; exact x22⟩
    rw [eu]
    exact (by simp only [List.forall_mem_cons, List.not_mem_nil, false_implies, implies_true, List.map, List.cons_append, List.nil_append, lk, Nat.reduceEqDiff, reduceIte, and_true, true_and])
end
abbrev Pt : Type := (List UInt8 × List UInt8) × Int
def RPut (h : GH) (cs : List Value) (x : Pt) : Prop := ∃ a c b d, cs = [.slice a x.1.1.length c, .slice b x.1.2.length d, .int .i64 x.2] ∧ RB h (.slice a x.1.1.length c) x.1.1 ∧ RB h (.slice b x.1.2.length d) x.1.2
theorem RPut.hs {h h' : GH} (s : HS h h') {cs : List Value} {x : Pt} (r : RPut h cs x) : RPut h' cs x := by
  obtain ⟨a, c, b, d, e, r1, r2⟩ := r
  exact ⟨a, c, b, d, e, r1.hs s, r2.hs s⟩
def zA7 (z : Int) : Nat := (IntKind.u64.wrap z % 256).toNat
theorem siOf_lt (z : Int) : zA7 z < 256 := by unfold zA7; omega
theorem siOf_eq (z : Int) : IntKind.i64.wrap (Int.tmod (IntKind.u64.wrap z) 256) = (zA7 z : Int) := by
  have h0 : 0 ≤ IntKind.u64.wrap z ∧ IntKind.u64.wrap z < 18446744073709551616 := by
    simp [IntKind.wrap, IntKind.signed, IntKind.bits]
    omega
  have e1 : Int.tmod (IntKind.u64.wrap z) 256 = IntKind.u64.wrap z % 256 := Int.tmod_eq_emod_of_nonneg h0.1
  rw [e1]
  unfold zA7
  generalize IntKind.u64.wrap z = w at *
  rw [wrap64 (by omega) (by omega)]
  omega
theorem AB.weak {a h0 h : GH} {k : Nat} {v : Value} {cs : List Value} {M : List Nd} (s : HS a h0) (x : AB h0 h k v cs M) : AB a h k v cs M := ⟨x.obj, s.none_of x.nk, ⟨x.arr.own.weak s, x.arr.u8, x.arr.nd, x.arr.ok⟩⟩
theorem gret_4 {P : Program} {e : Env} {h : GH} {Q : Value → GH → Prop} (t u v w : Nat) : uO P e h [.tmp t, .tmp u, .tmp v, .tmp w] Q = Q (.tuple #[lk e t, lk e u, lk e v, lk e w]) h := by simp [uO, kH, qM0]
def zU5 (M : List Nd) (rt : Int) : Prop := (rt = -1 ∧ M = []) ∨ ∃ r : Nat, rt = (r : Int) ∧ r < M.length
def KB (M : List Nd) : Prop := ∀ y ∈ M, y.ky.length ≤ 48
theorem KB.push {M : List Nd} (h : KB M) {x : Nd} (hx : x.ky.length ≤ 48) : KB (M ++ [x]) := fun y hy => by
  rcases List.mem_append.1 hy with hy | hy
  · exact h y hy
  · rw [List.mem_singleton] at hy
    rw [hy]; exact hx
theorem ups_kb (row : List UInt8) : ∀ (rs : List Nat) (S : List Nd × Nat), KB S.1 → KB (rs.foldl (pA row) S).1
  | [], S, h => h
  | p :: rs, S, h => ups_kb row rs (pA row S p) (KB.push h (Nat.zero_le _))
theorem Spot.kb {M : List Nd} {id ky : List UInt8} {si : Nat} {rt at_ : Int} {fs : List Nat} {nd : Nd} {same : Bool} {S0 : List Nd × Nat} (sp : Spot M id ky si rt fs at_ nd same S0) (h : KB M) (hk : ky.length ≤ 48) : KB S0.1 := by
  cases sp with
  | no => exact h.push hk
  | @way i e fs nd w =>
    unfold rE
    split
    · exact h.push hk
    · exact (h.push hk).push (Nat.zero_le _)
def TreeP (l : List Pt) (h h' : GH) (u : Value) : Prop := HS h h' ∧ ∃ k kq M rt v cs v2 cs2, u = .tuple #[.pointer (some ⟨k, 0, none⟩), .pointer (some ⟨kq, 0, none⟩), .int .i64 rt, .bool true] ∧ k ≠ kq ∧ AA h h' k v cs M ∧ AB h h' kq v2 cs2 M ∧ TI M ∧ zU5 M rt ∧ (∀ x, l = [x] → M = [vZ (x.1.1.take 24) (x.1.2.take 48) (zA7 x.2)] ∧ rt = 0) ∧ KB M
theorem spot_ex {M : List Nd} (ti : TI M) (id ky : List UInt8) (si : Nat) {rt : Int} (ro : zU5 M rt) (hid : id.length ≤ 255) : ∃ fs at_ nd same S0, Spot M id ky si rt fs at_ nd same S0 ∧ fs.length ≤ 8 * (zL id).length ∧
    TI (fs.reverse.foldl (pA (zL id)) S0).1 ∧ (fs.reverse.foldl (pA (zL id)) S0).2 < (fs.reverse.foldl (pA (zL id)) S0).1.length ∧ (fs.reverse.foldl (pA (zL id)) S0).1.length ≤ M.length + 2 + fs.length ∧ (rt = -1 → fs.reverse.foldl (pA (zL id)) S0 = (M ++ [vZ id ky si], M.length)) := by
  rcases ro with ⟨rfl, rfl⟩ | ⟨r, rfl, hr⟩
  · refine ⟨[], _, _, _, _, .no, by simp, ?_, by simp, by simp, fun _ => rfl⟩
    exact TI.nil.push (fun q => by simp [vZ] at q) (fun _ => hid)
  · obtain ⟨fs, e, x, w, hf⟩ := way_of ti id hr
    obtain ⟨a, b, c⟩ := ins_ok ti hid (ky := ky) (si := si) w
    exact ⟨fs, _, _, _, _, .way w, hf, a, b, c, fun q => by omega⟩
theorem uG : type_of% (And.intro qN1 (And.intro zL0 (And.intro zF (And.intro zQ4 (And.intro qQ8 (And.intro vT (And.intro yJ (And.intro xB (And.intro mP (And.intro jJ (And.intro kC (And.intro wF (And.intro ty64 rs21))))))))))))) := And.intro qN1 (And.intro zL0 (And.intro zF (And.intro zQ4 (And.intro qQ8 (And.intro vT (And.intro yJ (And.intro xB (And.intro mP (And.intro jJ (And.intro kC (And.intro wF (And.intro ty64 rs21))))))))))))
def uE : Nat → List (Nat × List Nat) × List Nat
  | 10 => ([(0, []), (1, []), (2, []), (3, []), (4, []), (5, []), (6, []), (7, []), (8, []), (9, []), (10, []), (11, []), (12, []), (13, []), (14, []), (15, []), (16, []), (17, []), (18, []), (19, []), (20, []), (21, [])], [0, 1, 0, 4, 12, 28, 63, 0, 128, 0, 512, 1536, 3584, 8064, 0, 16384, 49152, 114688, 245760, 127, 540671, 2097151])
  | _ => ([], [])
theorem zF5 (N : Nat) {h : GH} (t : TK h) {a : Option Addr} {c : Nat} {l : List Pt} (r : RL 3 RPut h (.slice a l.length c) l) (hl : l.length ≤ 1000000000) (hp : ∀ x ∈ l, x.1.1.length ≤ 1000000000 ∧ x.1.2.length ≤ 1000000000) :
    GTri Tryz.prog N 21 [.slice a l.length c] h fun u h' => TreeP l h h' u := by
  refine zU Tryz.func21 rfl gf21 ok21 (by simp [Tryz.ntmps21]) ?_
  refine qJ ?_; repeat' (first | with_reducible apply qK | ((with_reducible first | apply qI | apply qB) <;> try simp only [qN, qC, qE, qG, qD, qA, qF, seval, qQ, qO, qP, qL, qY, qZ, zC, uG, uE]))
  refine (c_New N h).mono ?_
  rintro _ h1 ⟨s1, k, rfl, x1⟩
  refine qJ ?_; repeat' (first | with_reducible apply qK | ((with_reducible first | apply qI | apply qB) <;> try simp only [qN, qC, qE, qG, qD, qA, qF, seval, qQ, qO, qP, qL, qY, qZ, zC, uG, uE]))
  refine (c_rNew N h1).mono ?_
  rintro _ h2 ⟨s2, kq, rfl, y2⟩
  have x2 := x1.hs s2
  have y2' := y2.weak s1
  have kkq : k ≠ kq := yA x1.obj y2.nk
  have S2 := s1.trans s2
  refine qJ ?_; repeat' (first | (with_reducible first | apply qK | apply qS) | ((with_reducible first | apply qI | apply qB | apply qR | apply qT) <;> try simp only [qN, qC, qE, qG, qD, qA, qF, seval, qQ, qO, qP, qL, qY, qZ, zC, uG, uE, Option.isNone_some]))
  refine xR [2, 3, 4, 5, 6, 8, 35, 36] (fun (s : Nat × Int) => [(10, .int .i64 s.2), (11, .bool true), (37, .int .i64 (s.1 : Int))])
    (fun q s h' => l.length - s.1 = q ∧ s.1 ≤ l.length ∧ HS h h' ∧ ∃ M v cs v2 cs2, AA h h' k v cs M ∧ AB h h' kq v2 cs2 M ∧ TI M ∧ zU5 M s.2 ∧ M.length ≤ 202 * min s.1 20 ∧ (s.1 = 0 → s.2 = -1) ∧ (s.1 = 1 → ∀ x, l[0]? = some x → M = [vZ (x.1.1.take 24) (x.1.2.take 48) (zA7 x.2)] ∧ s.2 = 0) ∧ KB M) l.length (0, -1) (by simp [lk]) ⟨rfl, Nat.zero_le _, S2, [], _, _, _, _, x2, y2', TI.nil, .inl ⟨rfl, rfl⟩, by simp, fun _ => rfl, fun q => by simp at q, fun y hy => by simp at hy⟩ ?_
  rintro _ ⟨i, rt⟩ h3 ⟨rfl, hil, s3, M, v, cs, v2, cs2, x3, y3, ti, ro, hM, z0, z1, kb⟩
  simp only at hil ro hM z0 z1
  by_cases hi : i < l.length
  case neg =>
    obtain rfl : i = l.length := by omega
    have d3 : decide ((l.length : Int) < (l.length : Int)) = false := decide_eq_false (by omega)
    refine qJ ?_; repeat' (first | with_reducible apply qK | ((with_reducible first | apply qI | apply qB | apply qR | apply xT | apply qM) <;> try simp only [qN, qC, qE, qG, qD, qA, qF, seval, qQ, qO, qP, qL, qY, qZ, zC, uG, uE, d3]))
    rw [gret_4]
    simp only [qN, qC, qE, qG, qD, qA, qF, seval, qQ, qO, qP, uG]
    refine ⟨s3, k, kq, M, rt, v, cs, v2, cs2, rfl, kkq, x3, y3, ti, ro, fun x hx => z1 (by rw [hx]; rfl) x (by rw [hx]; rfl), kb⟩
  have d3 : decide ((i : Int) < (l.length : Int)) = true := decide_eq_true (by omega)
  have wi : IntKind.i64.wrap ((i : Int) + 1) = ((i + 1 : Nat) : Int) := by rw [wrap64 (by omega) (by omega)]; omega
  obtain ⟨x, hx⟩ := jP hi
  obtain ⟨hx1, hx2⟩ := hp x (List.mem_of_getElem? hx)
  have r3 := RL.hcR (R := RPut) r s3.hc fun _ _ q => q.hs s3
  obtain ⟨ad, cs5, g1, g2, a5, c5, b5, d5, rfl, p1, p2⟩ := RL.at (P := Tryz.prog) r3 Tryz.underlying52 zM7 hx
  refine qJ ?_; repeat' (first | (with_reducible first | apply qK | apply qS) | ((with_reducible first | apply qI | apply qB | apply qR | apply qT) <;> try simp only [qN, qC, qE, qG, qD, qA, qF, seval, qQ, qO, qP, qL, qY, qZ, zC, uG, uE, d3, g1, gK zM7 g2]))
  refine xE fun k13 h4 m4 s4 f4 n4 => ?_
  refine qJ ?_; repeat' (first | ((with_reducible apply qI) <;> try simp only [qN, qC, qE, qG, qD, qA, qF, seval, qQ, qO, qP, qL, qY, qZ, zC, uG, uE]))
  refine wL m4 zM7 rfl (by decide) rfl rfl rfl fun h5 m5 f5 => ?_
  simp only [vcells] at m5
  have s35 := s4.upd n4 f5
  by_cases h20 : i < 20
  case neg =>
    have d4 : decide ((i : Int) < 20) = false := decide_eq_false (by omega)
    refine qJ ?_; repeat' (first | with_reducible apply qK | ((with_reducible first | apply qI | apply qB | apply qR | apply qT) <;> try simp only [qN, qC, qE, qG, qD, qA, qF, seval, qQ, qO, qP, qL, qY, qZ, zC, uG, uE, d4, wi]))
    exact ⟨_, (i + 1, rt), by simp only; omega, (by simp only [List.forall_mem_cons, List.not_mem_nil, false_implies, implies_true, List.map, List.cons_append, List.nil_append, lk, Nat.reduceEqDiff, reduceIte, and_true, true_and]), rfl, by simp only; omega, s3.trans s35, M, v, cs, v2, cs2, x3.hs s35, y3.hs s35, ti, ro, by simp only; omega, fun q => by simp at q, fun q => by simp only at q; omega, kb⟩
  have d4 : decide ((i : Int) < 20) = true := decide_eq_true (by omega)
  have mn1 : (if (24 : Int) < (x.1.1.length : Int) then (24 : Int) else (x.1.1.length : Int)) = ((min x.1.1.length 24 : Nat) : Int) := by split <;> omega
  have mn2 : (if (48 : Int) < (x.1.2.length : Int) then (48 : Int) else (x.1.2.length : Int)) = ((min x.1.2.length 48 : Nat) : Int) := by split <;> omega
  obtain ⟨a6, c6, e6, r6, _⟩ := RB.cut (P := Tryz.prog) (p1.hs s35) Tryz.underlying22 sH (hi := ((min x.1.1.length 24 : Nat) : Int)) (by omega) (by omega) .i64
  obtain ⟨a7, c7, e7, r7, _⟩ := RB.cut (P := Tryz.prog) (p2.hs s35) Tryz.underlying22 sH (hi := ((min x.1.2.length 48 : Nat) : Int)) (by omega) (by omega) .i64
  rw [Int.toNat_natCast] at e6 e7 r6 r7
  have et1 : x.1.1.take (min x.1.1.length 24) = x.1.1.take 24 := by rw [List.take_eq_take_iff]; omega
  have et2 : x.1.2.take (min x.1.2.length 48) = x.1.2.take 48 := by rw [List.take_eq_take_iff]; omega
  have el1 : min x.1.1.length 24 = (x.1.1.take 24).length := by simp; omega
  have el2 : min x.1.2.length 48 = (x.1.2.take 48).length := by simp; omega
  rw [et1] at r6
  rw [et2] at r7
  refine qJ ?_; repeat' (first | with_reducible apply qK | ((first | (with_reducible first | apply qI | apply qB | apply qR) | with_reducible refine zE uE xC (by kernel_rfl) ?_) <;> try simp only [qN, qC, qE, qG, qD, qA, qF, seval, qQ, qO, qP, qL, qY, qZ, zC, uG, uE, d4, qH m5 zD, qH m5 zS, mn1, mn2, e6, e7, qN1, zL0, siOf_eq]))
  obtain ⟨fs, at_, nd, same, S0, sp, hfs, ti', hlt, hle, hno⟩ := spot_ex ti (x.1.1.take 24) (x.1.2.take 48) (zA7 x.2) ro (by simp; omega)
  have hgk := vV (x.1.1.take 24)
  have hlt24 : (x.1.1.take 24).length ≤ 24 := by simp; omega
  have hlt48 : (x.1.2.take 48).length ≤ 48 := by simp; omega
  have hsi := siOf_lt x.2
  have hfs2 : fs.length ≤ 200 := by omega
  have S5 := s3.trans s35
  rw [el1] at r6
  rw [el2] at r7
  rw [el1, el2]
  have x5 := x3.hs s35
  have y5 := y3.hs s35
  refine (c_Insert N S5 t x5 ti r6 r7 (by omega) (by omega) (by omega) sp (by omega) (by omega)).mono ?_
  rintro _ h6 ⟨rfl, s6, fr6, v6, cs6, x6⟩
  have y6 := y5.fr fr6 x5.obj rfl kkq.symm (by decide) (by decide)
  refine qJ ?_; repeat' (first | with_reducible apply qK | ((with_reducible first | apply qI | apply qB) <;> try simp only [qN, qC, qE, qG, qD, qA, qF, seval, qQ, qO, qP, qL, qY, qZ, zC, uG, uE]))
  refine (zT3 N s6 y6 ti (r6.fr fr6) (r7.fr fr6) (by omega) (by omega) (by omega) sp (by omega) hfs).mono ?_
  rintro _ h7 ⟨rfl, s7, fr7, v7, cs7, y7⟩
  have x7 := x6.fr fr7 y6.obj rfl kkq (by decide) (by decide)
  generalize hS : fs.reverse.foldl (pA (zL (x.1.1.take 24))) S0 = S at *
  have bs : ((S.2 : Int) == (S.2 : Int)) = true := by simp
  refine qJ ?_; repeat' (first | with_reducible apply qK | ((with_reducible first | apply qI | apply qB) <;> try simp only [qN, qC, qE, qG, qD, qA, qF, seval, qQ, qO, qP, qL, qY, qZ, zC, uG, uE, wi, bs]))
  refine ⟨_, (i + 1, (S.2 : Int)), by simp only; omega, (by simp only [List.forall_mem_cons, List.not_mem_nil, false_implies, implies_true, List.map, List.cons_append, List.nil_append, lk, Nat.reduceEqDiff, reduceIte, and_true, true_and]), rfl, by simp only; omega, s7, S.1, v6, cs6, v7, cs7, x7, y7, ti', .inr ⟨S.2, rfl, hlt⟩, by simp only; omega, fun q => by simp at q, fun q x' hx' => ?_, hS ▸ ups_kb _ _ _ (sp.kb kb hlt48)⟩
  simp only at q
  obtain rfl : i = 0 := by omega
  rw [hx] at hx'
  cases hx'
  have hrt := z0 rfl
  have hM0 : M = [] := by
    rcases ro with ⟨_, q⟩ | ⟨r, q, _⟩
    · exact q
    · rw [hrt] at q; omega
  have := hno hrt
  rw [this, hM0]
  exact ⟨rfl, rfl⟩
structure Pn (K : Type) where
  (kd si dp nw : Int)
  (id ky pf lf rt : List UInt8)
  (kids : List K)
def Pn.cs {K : Type} (p : Pn K) (i k x l r s : Value) : List Value := [.int .i64 p.kd, i, k, .int .i64 p.si, .int .i64 p.dp, x, .int .i64 p.nw, l, r, s]
def RPn {K : Type} (R : GH → List Value → K → Prop) (h : GH) (cs : List Value) (p : Pn K) : Prop :=
  ∃ a1 c1 a2 c2 a3 c3 a4 c4 a5 c5 a6 c6, cs = p.cs (.slice a1 p.id.length c1) (.slice a2 p.ky.length c2) (.slice a3 p.pf.length c3) (.slice a4 p.lf.length c4) (.slice a5 p.rt.length c5) (.slice a6 p.kids.length c6) ∧
    RB h (.slice a1 p.id.length c1) p.id ∧ RB h (.slice a2 p.ky.length c2) p.ky ∧ RB h (.slice a3 p.pf.length c3) p.pf ∧ RB h (.slice a4 p.lf.length c4) p.lf ∧ RB h (.slice a5 p.rt.length c5) p.rt ∧ RL 10 R h (.slice a6 p.kids.length c6) p.kids
theorem RL.hs {α : Type} {es : Nat} {R : GH → List Value → α → Prop} {h h' : GH} {v : Value} {l : List α} (s : HS h h') (f : ∀ cs x, R h cs x → R h' cs x) (r : RL es R h v l) : RL es R h' v l := RL.hcR (R := R) r s.hc f
theorem RPn.hs {K : Type} {R : GH → List Value → K → Prop} {h h' : GH} (s : HS h h') (f : ∀ cs x, R h cs x → R h' cs x) {cs : List Value} {p : Pn K} (r : RPn R h cs p) : RPn R h' cs p := by
  obtain ⟨a1, c1, a2, c2, a3, c3, a4, c4, a5, c5, a6, c6, rfl, r1, r2, r3, r4, r5, r6⟩ := r
  exact ⟨a1, c1, a2, c2, a3, c3, a4, c4, a5, c5, a6, c6, rfl, r1.hs s, r2.hs s, r3.hs s, r4.hs s, r5.hs s, RL.hs s f r6⟩
theorem RPn.len {K : Type} {R : GH → List Value → K → Prop} {h : GH} {cs : List Value} {p : Pn K} (r : RPn R h cs p) : cs.length = 10 ∧ cs.all zK = true ∧ cs.all vO = true := by
  obtain ⟨a1, c1, a2, c2, a3, c3, a4, c4, a5, c5, a6, c6, rfl, _⟩ := r
  exact ⟨rfl, rfl, rfl⟩
def Pd : Nat → Type
  | 0 => Empty
  | n + 1 => Pn (Pd n)
def RPd : (n : Nat) → GH → List Value → Pd n → Prop
  | 0, _, _, _ => False
  | n + 1, h, cs, p => RPn (RPd n) h cs p
theorem RPd.hs {h h' : GH} (s : HS h h') : ∀ (n : Nat) {cs : List Value} {p : Pd n}, RPd n h cs p → RPd n h' cs p
  | 0, _, _, r => r
  | n + 1, _, _, r => RPn.hs s (fun _ _ q => RPd.hs s n q) r
theorem RPd.cells : ∀ {n : Nat} {h : GH} {cs : List Value} {p : Pd n}, RPd n h cs p → cs.all zK = true ∧ cs.length = 10
  | 0, _, _, _, r => r.elim
  | n + 1, _, _, _, r => by
    obtain ⟨_, _, _, _, _, _, _, _, _, _, _, _, rfl, _⟩ := r
    exact ⟨rfl, rfl⟩
def zE8 (n : Int) : Bool := decide (n ≥ 0) && decide (n < 256)
section
variable {K : Type}
def Pn.noLeaf (p : Pn K) : Bool := ((p.id.length : Int) == 0) && ((p.ky.length : Int) == 0) && (p.si == 0)
def Pn.noFork (p : Pn K) : Bool := (p.dp == 0) && ((p.pf.length : Int) == 0) && (p.nw == 0) && ((p.lf.length : Int) == 0) && ((p.rt.length : Int) == 0) && ((p.kids.length : Int) == 0)
def Pn.blank (p : Pn K) (leaf fork : Bool) : Bool := (leaf || p.noLeaf) && (fork || p.noFork)
def Pn.frk (p : Pn K) : Bool := p.blank false true && zE8 p.nw && decide (p.dp ≥ 0) && decide (p.dp ≤ 2048) && ((p.pf.length : Int) == Int.tdiv (p.dp + 7) 8) && (zG p.pf p.dp.toNat == p.pf)
def Pn.hsh (p : Pn K) (n : Int) : Bool := ((p.lf.length : Int) == n) && ((p.rt.length : Int) == n)
def Pn.right (size : Int) (p : Pn K) : Bool :=
  if p.kd = 0 then p.blank false false
  else if p.kd = 1 then p.blank true false && zE8 p.si && decide ((p.id.length : Int) ≤ 255) && decide ((p.ky.length : Int) ≤ 48)
  else if p.kd = 2 then p.frk && p.hsh size && ((p.kids.length : Int) == 0)
  else if p.kd = 3 then p.frk && p.hsh 0 && ((p.kids.length : Int) == 2)
  else false
def Pn.bits (p : Pn K) : List UInt8 := if p.kd = 1 then zL p.id else p.pf
def jT (p : Pn K) : List UInt8 :=
  if p.kd = 1 then fW p.id p.ky p.si.toNat else if p.kd = 2 then vQ p.dp.toNat p.pf p.nw.toNat p.lf p.rt else emptyB
end
theorem yU : type_of% (And.intro zF (And.intro wS (And.intro wR (And.intro xB (And.intro wF rs145))))) := And.intro zF (And.intro wS (And.intro wR (And.intro xB (And.intro wF rs145))))
theorem qE1 : type_of% (And.intro zF (And.intro wS (And.intro wR (And.intro xB (And.intro wF rs143))))) := And.intro zF (And.intro wS (And.intro wR (And.intro xB (And.intro wF rs143))))
theorem gD : type_of% (And.intro zF (And.intro wS (And.intro wR (And.intro xB (And.intro uI (And.intro wF rs144)))))) := And.intro zF (And.intro wS (And.intro wR (And.intro xB (And.intro uI (And.intro wF rs144)))))
def jW : Nat → List (Nat × List Nat) × List Nat
  | 1 => ([(0, []), (1, []), (2, []), (3, []), (4, []), (5, []), (6, []), (7, []), (8, []), (9, []), (10, []), (11, []), (12, []), (13, []), (14, []), (15, []), (16, []), (17, []), (18, []), (19, []), (20, []), (21, []), (22, []), (23, []), (24, []), (25, []), (26, []), (27, []), (28, []), (29, []), (30, []), (31, []), (33, []), (34, []), (32, [34]), (35, []), (36, []), (37, [])], [0, 1, 3, 7, 15, 31, 63, 127, 255, 511, 1023, 2047, 4095, 8191, 16383, 32767, 65535, 131071, 262143, 524287, 1048575, 262143, 2359295, 6553599, 14942207, 33554431, 67108863, 134217727, 268435455, 536870911, 268435455, 1342177279, 4294967295, 268435455, 8858370047, 34359738367, 68719476735, 137438953471])
  | _ => ([], [])
theorem wX : type_of% (And.intro zF (And.intro wS (And.intro wR (And.intro xB (And.intro uI (And.intro wF rs108)))))) := And.intro zF (And.intro wS (And.intro wR (And.intro xB (And.intro uI (And.intro wF rs108)))))
theorem tZ : type_of% (And.intro zF (And.intro wS (And.intro wR (And.intro xB (And.intro wF rs109))))) := And.intro zF (And.intro wS (And.intro wR (And.intro xB (And.intro wF rs109))))
theorem jZ (N : Nat) (h : GH) (n : Int) : GTri Tryz.prog N 63 [.int .i64 n] h fun v h' => v = .bool (zE8 n) ∧ h' = h := by
  unfold zE8
  refine zU Tryz.func63 rfl gf63 ok63 (by simp [Tryz.ntmps63]) ?_
  cases z0 : (decide (n ≥ 0))
  case false =>
    refine qJ ?_; repeat' (first | with_reducible apply qK | ((with_reducible first | apply qI | apply qB | apply qM) <;> try simp only [qN, qC, qE, qG, qD, qA, qF, seval, qQ, qO, qP, xB, rs63, z0, gPick]))
    all_goals simp only [Bool.false_and]
  cases z1 : (decide (n < 256))
  case false =>
    refine qJ ?_; repeat' (first | with_reducible apply qK | ((with_reducible first | apply qI | apply qB | apply qM) <;> try simp only [qN, qC, qE, qG, qD, qA, qF, seval, qQ, qO, qP, xB, rs63, z0, z1, gPick]))
    all_goals simp only [Bool.false_and]
  refine qJ ?_; repeat' (first | with_reducible apply qK | ((with_reducible first | apply qI | apply qB | apply qM) <;> try simp only [qN, qC, qE, qG, qD, qA, qF, seval, qQ, qO, qP, xB, rs63, z0, z1, gPick]))
section
variable {K : Type} {R : GH → List Value → K → Prop}
theorem qZ2 (N : Nat) {h : GH} {cs : List Value} {p : Pn K} (r : RPn R h cs p) (lf fk : Bool) : GTri Tryz.prog N 145 [.agg cs.toArray, .bool lf, .bool fk] h fun v h' => v = .bool (p.blank lf fk) ∧ HS h h' := by
  obtain ⟨a1, c1, a2, c2, a3, c3, a4, c4, a5, c5, a6, c6, rfl, r1, r2, r3, r4, r5, r6⟩ := r
  refine zU Tryz.func145 rfl gf145 ok145 (by simp [Tryz.ntmps145]) ?_
  repeat' (first | with_reducible apply qK | ((with_reducible apply qB) <;> try simp only [qN, qC, qE, qG, qD, qA, qF, seval, qQ, qO, qP, yU]))
  refine wP rfl fun k1 h1 m1 s1 f1 n1 => ?_
  simp only [Pn.cs] at m1
  simp only [qN, qC, qE, qG, qD, qA, qF, seval, qQ, qO, qP, yU]
  refine qK ?_
  refine GW.mono (Q := fun x e' h' => x = .normal ∧ h1 = h' ∧ lk e' 1 = .bool lf ∧ lk e' 2 = .bool fk ∧ lk e' 3 = .pointer (some ⟨k1, 0, none⟩) ∧ lk e' 7 = .bool p.noLeaf) ?_ ?_
  · unfold Pn.noLeaf
    cases z0 : ((p.id.length : Int) == 0)
    case false =>
      refine qJ ?_; repeat' (first | ((with_reducible first | apply qI | apply qB) <;> try simp only [qN, qC, qE, qG, qD, qA, qF, seval, qQ, qO, qP, yU, z0, qH m1 zS, qH m1 zD, qH m1 wO, gPick]))
      all_goals simp only [Bool.false_and]
    cases z1 : ((p.ky.length : Int) == 0)
    case false =>
      refine qJ ?_; repeat' (first | ((with_reducible first | apply qI | apply qB) <;> try simp only [qN, qC, qE, qG, qD, qA, qF, seval, qQ, qO, qP, yU, z0, z1, qH m1 zS, qH m1 zD, qH m1 wO, gPick]))
      all_goals simp only [Bool.false_and]
    cases z2 : (p.si == 0)
    case false =>
      refine qJ ?_; repeat' (first | ((with_reducible first | apply qI | apply qB) <;> try simp only [qN, qC, qE, qG, qD, qA, qF, seval, qQ, qO, qP, yU, z0, z1, z2, qH m1 zS, qH m1 zD, qH m1 wO, gPick]))
      all_goals simp only [Bool.false_and]
    refine qJ ?_; repeat' (first | ((with_reducible first | apply qI | apply qB) <;> try simp only [qN, qC, qE, qG, qD, qA, qF, seval, qQ, qO, qP, yU, z0, z1, z2, qH m1 zS, qH m1 zD, qH m1 wO, gPick]))
  rintro _ e' _ ⟨rfl, rfl, q1, q2, q3, q7⟩
  rw [jV]
  refine dH [(1, .bool lf), (2, .bool fk), (3, .pointer (some ⟨k1, 0, none⟩)), (7, .bool p.noLeaf)] (by simp [q1, q2, q3, q7]) ?_
  clear q1 q2 q3 q7
  refine qK ?_
  refine GW.mono (Q := fun x e' h' => x = .normal ∧ h1 = h' ∧ lk e' 1 = .bool lf ∧ lk e' 2 = .bool fk ∧ lk e' 7 = .bool p.noLeaf ∧ lk e' 8 = .bool p.noFork) ?_ ?_
  · generalize p.noLeaf = nl
    unfold Pn.noFork
    cases z0 : (p.dp == 0)
    case false =>
      refine qJ ?_; repeat' (first | ((with_reducible first | apply qI | apply qB) <;> try simp only [qN, qC, qE, qG, qD, qA, qF, seval, qQ, qO, qP, yU, z0, qH m1 zS, qH m1 zD, qH m1 wO, gPick]))
      all_goals simp only [Bool.false_and]
    cases z1 : ((p.pf.length : Int) == 0)
    case false =>
      refine qJ ?_; repeat' (first | ((with_reducible first | apply qI | apply qB) <;> try simp only [qN, qC, qE, qG, qD, qA, qF, seval, qQ, qO, qP, yU, z0, z1, qH m1 zS, qH m1 zD, qH m1 wO, gPick]))
      all_goals simp only [Bool.false_and]
    cases z2 : (p.nw == 0)
    case false =>
      refine qJ ?_; repeat' (first | ((with_reducible first | apply qI | apply qB) <;> try simp only [qN, qC, qE, qG, qD, qA, qF, seval, qQ, qO, qP, yU, z0, z1, z2, qH m1 zS, qH m1 zD, qH m1 wO, gPick]))
      all_goals simp only [Bool.false_and]
    cases z3 : ((p.lf.length : Int) == 0)
    case false =>
      refine qJ ?_; repeat' (first | ((with_reducible first | apply qI | apply qB) <;> try simp only [qN, qC, qE, qG, qD, qA, qF, seval, qQ, qO, qP, yU, z0, z1, z2, z3, qH m1 zS, qH m1 zD, qH m1 wO, gPick]))
      all_goals simp only [Bool.false_and]
    cases z4 : ((p.rt.length : Int) == 0)
    case false =>
      refine qJ ?_; repeat' (first | ((with_reducible first | apply qI | apply qB) <;> try simp only [qN, qC, qE, qG, qD, qA, qF, seval, qQ, qO, qP, yU, z0, z1, z2, z3, z4, qH m1 zS, qH m1 zD, qH m1 wO, gPick]))
      all_goals simp only [Bool.false_and]
    cases z5 : ((p.kids.length : Int) == 0)
    case false =>
      refine qJ ?_; repeat' (first | ((with_reducible first | apply qI | apply qB) <;> try simp only [qN, qC, qE, qG, qD, qA, qF, seval, qQ, qO, qP, yU, z0, z1, z2, z3, z4, z5, qH m1 zS, qH m1 zD, qH m1 wO, gPick]))
      all_goals simp only [Bool.false_and]
    refine qJ ?_; repeat' (first | ((with_reducible first | apply qI | apply qB) <;> try simp only [qN, qC, qE, qG, qD, qA, qF, seval, qQ, qO, qP, yU, z0, z1, z2, z3, z4, z5, qH m1 zS, qH m1 zD, qH m1 wO, gPick]))
  rintro _ e' _ ⟨rfl, rfl, q1, q2, q7, q8⟩
  rw [jV]
  refine dH [(1, .bool lf), (2, .bool fk), (7, .bool p.noLeaf), (8, .bool p.noFork)] (by simp [q1, q2, q7, q8]) ?_
  clear q1 q2 q7 q8
  unfold Pn.blank
  generalize p.noLeaf = nl
  generalize p.noFork = nf
  cases lf <;> cases nl <;> cases fk
  all_goals
    refine qJ ?_; repeat' (first | with_reducible apply qK | ((with_reducible first | apply qI | apply qB | apply qM) <;> try simp only [qN, qC, qE, qG, qD, qA, qF, seval, qQ, qO, qP, yU, gPick]))
    first | exact s1 | exact ⟨rfl, s1⟩
theorem sE (N : Nat) {h : GH} {k : Nat} {p : Pn K} {a1 c1 a2 c2 a3 c3 a4 c4 a5 c5 a6 c6} (m : h k = some ⟨p.cs (.slice a1 p.id.length c1) (.slice a2 p.ky.length c2) (.slice a3 p.pf.length c3) (.slice a4 p.lf.length c4) (.slice a5 p.rt.length c5) (.slice a6 p.kids.length c6), 0, true, false⟩) (n : Int) : GTri Tryz.prog N 143 [.int .i64 n, .pointer (some ⟨k, 0, none⟩)] h fun v h' => v = .bool (p.hsh n) ∧ h' = h := by
  simp only [Pn.cs] at m
  unfold Pn.hsh
  refine zU Tryz.func143 rfl gf143 ok143 (by simp [Tryz.ntmps143]) ?_
  cases z0 : ((p.lf.length : Int) == n)
  case false =>
    refine qJ ?_; repeat' (first | with_reducible apply qK | ((with_reducible first | apply qI | apply qB | apply qM) <;> try simp only [qN, qC, qE, qG, qD, qA, qF, seval, qQ, qO, qP, qE1, z0, qH m zD, gPick]))
    all_goals simp only [Bool.false_and]
  cases z1 : ((p.rt.length : Int) == n)
  case false =>
    refine qJ ?_; repeat' (first | with_reducible apply qK | ((with_reducible first | apply qI | apply qB | apply qM) <;> try simp only [qN, qC, qE, qG, qD, qA, qF, seval, qQ, qO, qP, qE1, z0, z1, qH m zD, gPick]))
    all_goals simp only [Bool.false_and]
  refine qJ ?_; repeat' (first | with_reducible apply qK | ((with_reducible first | apply qI | apply qB | apply qM) <;> try simp only [qN, qC, qE, qG, qD, qA, qF, seval, qQ, qO, qP, qE1, z0, z1, qH m zD, gPick]))
theorem zF8 (N : Nat) {h : GH} {k : Nat} {p : Pn K} {a1 c1 a2 c2 a3 c3 a4 c4 a5 c5 a6 c6} (m : h k = some ⟨p.cs (.slice a1 p.id.length c1) (.slice a2 p.ky.length c2) (.slice a3 p.pf.length c3) (.slice a4 p.lf.length c4) (.slice a5 p.rt.length c5) (.slice a6 p.kids.length c6), 0, true, false⟩) (r : RPn R h (p.cs (.slice a1 p.id.length c1) (.slice a2 p.ky.length c2) (.slice a3 p.pf.length c3) (.slice a4 p.lf.length c4) (.slice a5 p.rt.length c5) (.slice a6 p.kids.length c6)) p) (r3 : RB h (.slice a3 p.pf.length c3) p.pf) (hl : p.pf.length ≤ 100000000) : GTri Tryz.prog N 144 [.pointer (some ⟨k, 0, none⟩)] h fun v h' => v = .bool p.frk ∧ HS h h' := by
  have ld := zI (P := Tryz.prog) (t := 26) m xX rfl
  unfold Pn.frk
  refine zU Tryz.func144 rfl gf144 ok144 (by simp [Tryz.ntmps144]) ?_
  refine qJ ?_; repeat' (first | with_reducible apply qK | ((first | (with_reducible first | apply qI | apply qB) | with_reducible refine zE jW xC (by kernel_rfl) ?_) <;> try simp only [qN, qC, qE, qG, qD, qA, qF, seval, qQ, qO, qP, qL, qY, qZ, zC, gD, jW, ld]))
  refine (qZ2 N r false true).mono ?_
  rintro _ h2 ⟨rfl, s2⟩
  have m2 := s2 _ _ m
  simp only [Pn.cs] at m2
  cases hbl : p.blank false true
  case false =>
    refine qJ ?_; repeat' (first | ((with_reducible first | apply qI | apply qM) <;> try simp only [qN, qC, qE, qG, qD, qA, qF, seval, qQ, qO, qP, qL, qY, qZ, zC, gD, jW, gPick]))
    all_goals simp only [Bool.false_and]
    first | exact s2 | exact ⟨by first | rfl | trivial, s2⟩
  cases z0 : (zE8 p.nw)
  case false =>
    refine qJ ?_; repeat' (first | ((first | (with_reducible first | apply qI | apply qM) | ((refine GTri.mono (jZ _ _ _) ?_); rintro _ _ ⟨rfl, hh9⟩; replace hh9 := hh9.symm; subst hh9)) <;> try simp only [qN, qC, qE, qG, qD, qA, qF, seval, qQ, qO, qP, qL, qY, qZ, zC, gD, jW, z0, qH m2 zS, qH m2 zD, gPick]))
    simp only [hbl, z0, Bool.false_and, Bool.true_and, Bool.and_false]
    exact ⟨by first | rfl | trivial, s2⟩
  cases z1 : (decide (p.dp ≥ 0))
  case false =>
    refine qJ ?_; repeat' (first | ((first | (with_reducible first | apply qI | apply qM) | ((refine GTri.mono (jZ _ _ _) ?_); rintro _ _ ⟨rfl, hh9⟩; replace hh9 := hh9.symm; subst hh9)) <;> try simp only [qN, qC, qE, qG, qD, qA, qF, seval, qQ, qO, qP, qL, qY, qZ, zC, gD, jW, z0, z1, qH m2 zS, qH m2 zD, gPick]))
    simp only [hbl, z0, z1, Bool.false_and, Bool.true_and, Bool.and_false]
    exact ⟨by first | rfl | trivial, s2⟩
  cases z2 : (decide (p.dp ≤ 2048))
  case false =>
    refine qJ ?_; repeat' (first | ((first | (with_reducible first | apply qI | apply qM) | ((refine GTri.mono (jZ _ _ _) ?_); rintro _ _ ⟨rfl, hh9⟩; replace hh9 := hh9.symm; subst hh9)) <;> try simp only [qN, qC, qE, qG, qD, qA, qF, seval, qQ, qO, qP, qL, qY, qZ, zC, gD, jW, z0, z1, z2, qH m2 zS, qH m2 zD, gPick]))
    simp only [hbl, z0, z1, z2, Bool.false_and, Bool.true_and, Bool.and_false]
    exact ⟨by first | rfl | trivial, s2⟩
  have y1 : 0 ≤ p.dp := by simpa using z1
  have y2 : p.dp ≤ 2048 := by simpa using z2
  have w7 : IntKind.i64.wrap (p.dp + 7) = p.dp + 7 := by rw [wrap64 (by omega) (by omega)]
  have t0 := Int.tdiv_eq_ediv_of_nonneg (a := p.dp + 7) (b := 8) (by omega)
  have w8 : IntKind.i64.wrap (Int.tdiv (p.dp + 7) 8) = Int.tdiv (p.dp + 7) 8 := by rw [wrap64 (by omega) (by omega)]
  cases z3 : ((p.pf.length : Int) == Int.tdiv (p.dp + 7) 8)
  case false =>
    refine qJ ?_; repeat' (first | ((first | (with_reducible first | apply qI | apply qM) | ((refine GTri.mono (jZ _ _ _) ?_); rintro _ _ ⟨rfl, hh9⟩; replace hh9 := hh9.symm; subst hh9)) <;> try simp only [qN, qC, qE, qG, qD, qA, qF, seval, qQ, qO, qP, qL, qY, qZ, zC, gD, jW, z0, z1, z2, z3, w7, w8, qH m2 zS, qH m2 zD, gPick]))
    simp only [hbl, z0, z1, z2, z3, Bool.false_and, Bool.true_and, Bool.and_false]
    exact ⟨by first | rfl | trivial, s2⟩
  refine qJ ?_; repeat' (first | ((first | (with_reducible apply qI) | ((refine GTri.mono (jZ _ _ _) ?_); rintro _ _ ⟨rfl, hh9⟩; replace hh9 := hh9.symm; subst hh9)) <;> try simp only [qN, qC, qE, qG, qD, qA, qF, seval, qQ, qO, qP, qL, qY, qZ, zC, gD, jW, z0, z1, z2, z3, w7, w8, qH m2 zS, qH m2 zD, gPick]))
  refine (qB6 N h2 (r3.hs s2) (by omega) p.dp).mono ?_
  rintro _ h3 ⟨s3, a7, c7, rfl, r7⟩
  have m3 := s3 _ _ m2
  refine qJ ?_; repeat' (first | ((first | (with_reducible first | apply qI | apply qM) | ((refine GTri.mono (qZ4 _ _ r7 ((r3.hs s2).hs s3)) ?_); rintro _ _ ⟨rfl, hh9⟩; replace hh9 := hh9.symm; subst hh9)) <;> try simp only [qN, qC, qE, qG, qD, qA, qF, seval, qQ, qO, qP, qL, qY, qZ, zC, gD, jW, qH m3 zD, qH m3 zS, gPick]))
  try simp only [z0, z1, z2, z3, Bool.true_and]
  first | exact s2.trans s3 | exact ⟨by first | rfl | trivial, s2.trans s3⟩
theorem zP9 (N : Nat) {h : GH} {cs : List Value} {p : Pn K} (r : RPn R h cs p) (fR : ∀ {h h'}, HS h h' → ∀ cs x, R h cs x → R h' cs x) (size : Int) (hl : p.pf.length ≤ 100000000) : GTri Tryz.prog N 108 [.int .i64 size, .agg cs.toArray] h fun v h' => v = .bool (p.right size) ∧ HS h h' := by
  have r0 := r
  obtain ⟨a1, c1, a2, c2, a3, c3, a4, c4, a5, c5, a6, c6, rfl, r1, r2, r3, r4, r5, r6⟩ := r
  unfold Pn.right
  refine zU Tryz.func108 rfl gf108 ok108 (by simp [Tryz.ntmps108]) ?_
  repeat' (first | with_reducible apply qK | ((with_reducible apply qB) <;> try simp only [qN, qC, qE, qG, qD, qA, qF, seval, qQ, qO, qP, wX]))
  refine wP rfl fun k1 h1 m1 s1 f1 n1 => ?_
  have rr := r0.hs s1 (fR s1)
  have q3 := r3.hs s1
  have ld := zI (P := Tryz.prog) (t := 26) m1 xX rfl
  have m1' := m1
  simp only [Pn.cs] at m1'
  by_cases k0 : p.kd = 0
  · have e0 : (p.kd == 0) = true := by simp [k0]
    rw [if_pos k0]
    refine qJ ?_; repeat' (first | (with_reducible first | apply qK | apply qS) | ((with_reducible first | apply qI | apply qB | apply qR) <;> try simp only [qN, qC, qE, qG, qD, qA, qF, seval, qQ, qO, qP, wX, qH m1' zS, e0, ld, List.map_toArray, List.map_cons, List.map_nil]))
    refine (qZ2 N rr false false).mono ?_
    rintro _ h2 ⟨rfl, s2⟩
    refine qJ ?_; repeat' (first | ((with_reducible first | apply qI | apply qM) <;> try simp only [qN, qC, qE, qG, qD, qA, qF, seval, qQ, qO, qP, wX]))
    exact s1.trans s2
  have e0 : (p.kd == 0) = false := by simp [k0]
  rw [if_neg k0]
  by_cases k1' : p.kd = 1
  · have e1 : (p.kd == 1) = true := by simp [k1']
    rw [if_pos k1']
    refine qJ ?_; repeat' (first | (with_reducible first | apply qK | apply qS) | ((with_reducible first | apply qI | apply qB | apply qR) <;> try simp only [qN, qC, qE, qG, qD, qA, qF, seval, qQ, qO, qP, wX, qH m1' zS, e0, e1, ld, List.map_toArray, List.map_cons, List.map_nil]))
    refine (qZ2 N rr true false).mono ?_
    rintro _ h2 ⟨rfl, s2⟩
    have m2 := s2 _ _ m1'
    cases hbl : p.blank true false
    case false =>
      refine qJ ?_; repeat' (first | ((with_reducible first | apply qI | apply qM) <;> try simp only [qN, qC, qE, qG, qD, qA, qF, seval, qQ, qO, qP, wX, gPick]))
      all_goals simp only [Bool.false_and]
      first | exact s1.trans s2 | exact ⟨by first | rfl | trivial, s1.trans s2⟩
    cases z0 : (zE8 p.si)
    case false =>
      refine qJ ?_; repeat' (first | ((first | (with_reducible first | apply qI | apply qM) | ((refine GTri.mono (jZ _ _ _) ?_); rintro _ _ ⟨rfl, hh9⟩; replace hh9 := hh9.symm; subst hh9)) <;> try simp only [qN, qC, qE, qG, qD, qA, qF, seval, qQ, qO, qP, wX, z0, qH m2 zS, qH m2 zD, gPick]))
      try simp only [hbl, z0, Bool.false_and, Bool.true_and, Bool.and_false]
      first | exact s1.trans s2 | exact ⟨by first | rfl | trivial, s1.trans s2⟩
    cases z1 : (decide ((p.id.length : Int) ≤ 255))
    case false =>
      refine qJ ?_; repeat' (first | ((first | (with_reducible first | apply qI | apply qM) | ((refine GTri.mono (jZ _ _ _) ?_); rintro _ _ ⟨rfl, hh9⟩; replace hh9 := hh9.symm; subst hh9)) <;> try simp only [qN, qC, qE, qG, qD, qA, qF, seval, qQ, qO, qP, wX, z0, z1, qH m2 zS, qH m2 zD, gPick]))
      try simp only [hbl, z0, z1, Bool.false_and, Bool.true_and, Bool.and_false]
      first | exact s1.trans s2 | exact ⟨by first | rfl | trivial, s1.trans s2⟩
    cases z2 : (decide ((p.ky.length : Int) ≤ 48))
    case false =>
      refine qJ ?_; repeat' (first | ((first | (with_reducible first | apply qI | apply qM) | ((refine GTri.mono (jZ _ _ _) ?_); rintro _ _ ⟨rfl, hh9⟩; replace hh9 := hh9.symm; subst hh9)) <;> try simp only [qN, qC, qE, qG, qD, qA, qF, seval, qQ, qO, qP, wX, z0, z1, z2, qH m2 zS, qH m2 zD, gPick]))
      try simp only [hbl, z0, z1, z2, Bool.false_and, Bool.true_and, Bool.and_false]
      first | exact s1.trans s2 | exact ⟨by first | rfl | trivial, s1.trans s2⟩
    refine qJ ?_; repeat' (first | ((first | (with_reducible first | apply qI | apply qM) | ((refine GTri.mono (jZ _ _ _) ?_); rintro _ _ ⟨rfl, hh9⟩; replace hh9 := hh9.symm; subst hh9)) <;> try simp only [qN, qC, qE, qG, qD, qA, qF, seval, qQ, qO, qP, wX, z0, z1, z2, qH m2 zS, qH m2 zD, gPick]))
    first | exact s1.trans s2 | exact ⟨by first | rfl | trivial, s1.trans s2⟩
  have e1 : (p.kd == 1) = false := by simp [k1']
  rw [if_neg k1']
  by_cases k2 : p.kd = 2
  · have e2 : (p.kd == 2) = true := by simp [k2]
    rw [if_pos k2]
    refine qJ ?_; repeat' (first | (with_reducible first | apply qK | apply qS) | ((with_reducible first | apply qI | apply qB | apply qR) <;> try simp only [qN, qC, qE, qG, qD, qA, qF, seval, qQ, qO, qP, wX, qH m1' zS, e0, e1, e2, ld, List.map_toArray, List.map_cons, List.map_nil]))
    refine (zF8 N m1 rr q3 hl).mono ?_
    rintro _ h2 ⟨rfl, s2⟩
    have m2 := s2 _ _ m1'
    cases hbl : p.frk
    case false =>
      refine qJ ?_; repeat' (first | ((with_reducible first | apply qI | apply qM) <;> try simp only [qN, qC, qE, qG, qD, qA, qF, seval, qQ, qO, qP, wX, gPick]))
      all_goals simp only [Bool.false_and]
      first | exact s1.trans s2 | exact ⟨by first | rfl | trivial, s1.trans s2⟩
    cases z0 : (p.hsh size)
    case false =>
      refine qJ ?_; repeat' (first | ((first | (with_reducible first | apply qI | apply qM) | ((refine GTri.mono (sE _ (s2 _ _ m1) _) ?_); rintro _ _ ⟨rfl, hh9⟩; replace hh9 := hh9.symm; subst hh9)) <;> try simp only [qN, qC, qE, qG, qD, qA, qF, seval, qQ, qO, qP, wX, z0, qH m2 zS, qH m2 zD, gPick, qH m2 wO]))
      try simp only [hbl, z0, Bool.false_and, Bool.true_and, Bool.and_false]
      first | exact s1.trans s2 | exact ⟨by first | rfl | trivial, s1.trans s2⟩
    cases z1 : ((p.kids.length : Int) == 0)
    case false =>
      refine qJ ?_; repeat' (first | ((first | (with_reducible first | apply qI | apply qM) | ((refine GTri.mono (sE _ (s2 _ _ m1) _) ?_); rintro _ _ ⟨rfl, hh9⟩; replace hh9 := hh9.symm; subst hh9)) <;> try simp only [qN, qC, qE, qG, qD, qA, qF, seval, qQ, qO, qP, wX, z0, z1, qH m2 zS, qH m2 zD, gPick, qH m2 wO]))
      try simp only [hbl, z0, z1, Bool.false_and, Bool.true_and, Bool.and_false]
      first | exact s1.trans s2 | exact ⟨by first | rfl | trivial, s1.trans s2⟩
    refine qJ ?_; repeat' (first | ((first | (with_reducible first | apply qI | apply qM) | ((refine GTri.mono (sE _ (s2 _ _ m1) _) ?_); rintro _ _ ⟨rfl, hh9⟩; replace hh9 := hh9.symm; subst hh9)) <;> try simp only [qN, qC, qE, qG, qD, qA, qF, seval, qQ, qO, qP, wX, z0, z1, qH m2 zS, qH m2 zD, gPick, qH m2 wO]))
    first | exact s1.trans s2 | exact ⟨by first | rfl | trivial, s1.trans s2⟩
  have e2 : (p.kd == 2) = false := by simp [k2]
  rw [if_neg k2]
  by_cases k3 : p.kd = 3
  · have e3 : (p.kd == 3) = true := by simp [k3]
    rw [if_pos k3]
    refine qJ ?_; repeat' (first | (with_reducible first | apply qK | apply qS) | ((with_reducible first | apply qI | apply qB | apply qR) <;> try simp only [qN, qC, qE, qG, qD, qA, qF, seval, qQ, qO, qP, wX, qH m1' zS, e0, e1, e2, e3, ld, List.map_toArray, List.map_cons, List.map_nil]))
    refine (zF8 N m1 rr q3 hl).mono ?_
    rintro _ h2 ⟨rfl, s2⟩
    have m2 := s2 _ _ m1'
    cases hbl : p.frk
    case false =>
      refine qJ ?_; repeat' (first | ((with_reducible first | apply qI | apply qM) <;> try simp only [qN, qC, qE, qG, qD, qA, qF, seval, qQ, qO, qP, wX, gPick]))
      all_goals simp only [Bool.false_and]
      first | exact s1.trans s2 | exact ⟨by first | rfl | trivial, s1.trans s2⟩
    cases z0 : (p.hsh 0)
    case false =>
      refine qJ ?_; repeat' (first | ((first | (with_reducible first | apply qI | apply qM) | ((refine GTri.mono (sE _ (s2 _ _ m1) _) ?_); rintro _ _ ⟨rfl, hh9⟩; replace hh9 := hh9.symm; subst hh9)) <;> try simp only [qN, qC, qE, qG, qD, qA, qF, seval, qQ, qO, qP, wX, z0, qH m2 zS, qH m2 zD, gPick, qH m2 wO]))
      try simp only [hbl, z0, Bool.false_and, Bool.true_and, Bool.and_false]
      first | exact s1.trans s2 | exact ⟨by first | rfl | trivial, s1.trans s2⟩
    cases z1 : ((p.kids.length : Int) == 2)
    case false =>
      refine qJ ?_; repeat' (first | ((first | (with_reducible first | apply qI | apply qM) | ((refine GTri.mono (sE _ (s2 _ _ m1) _) ?_); rintro _ _ ⟨rfl, hh9⟩; replace hh9 := hh9.symm; subst hh9)) <;> try simp only [qN, qC, qE, qG, qD, qA, qF, seval, qQ, qO, qP, wX, z0, z1, qH m2 zS, qH m2 zD, gPick, qH m2 wO]))
      try simp only [hbl, z0, z1, Bool.false_and, Bool.true_and, Bool.and_false]
      first | exact s1.trans s2 | exact ⟨by first | rfl | trivial, s1.trans s2⟩
    refine qJ ?_; repeat' (first | ((first | (with_reducible first | apply qI | apply qM) | ((refine GTri.mono (sE _ (s2 _ _ m1) _) ?_); rintro _ _ ⟨rfl, hh9⟩; replace hh9 := hh9.symm; subst hh9)) <;> try simp only [qN, qC, qE, qG, qD, qA, qF, seval, qQ, qO, qP, wX, z0, z1, qH m2 zS, qH m2 zD, gPick, qH m2 wO]))
    first | exact s1.trans s2 | exact ⟨by first | rfl | trivial, s1.trans s2⟩
  have e3 : (p.kd == 3) = false := by simp [k3]
  rw [if_neg k3]
  refine qJ ?_; repeat' (first | (with_reducible first | apply qK | apply qS) | ((with_reducible first | apply qI | apply qB | apply qR | apply qT | apply qM) <;> try simp only [qN, qC, qE, qG, qD, qA, qF, seval, qQ, qO, qP, wX, qH m1' zS, e0, e1, e2, e3, ld, List.map_toArray, List.map_cons, List.map_nil]))
  exact s1
theorem c_Bits (N : Nat) {h : GH} {cs : List Value} {p : Pn K} (r : RPn R h cs p) (hl : p.pf.length ≤ 100000000) : GTri Tryz.prog N 109 [.agg cs.toArray] h fun v h' => HS h h' ∧ ∃ a c, v = .slice a p.bits.length c ∧ RB h' (.slice a p.bits.length c) p.bits := by
  obtain ⟨a1, c1, a2, c2, a3, c3, a4, c4, a5, c5, a6, c6, rfl, r1, r2, r3, r4, r5, r6⟩ := r
  unfold Pn.bits
  refine zU Tryz.func109 rfl gf109 ok109 (by simp [Tryz.ntmps109]) ?_
  repeat' (first | with_reducible apply qK | ((with_reducible apply qB) <;> try simp only [qN, qC, qE, qG, qD, qA, qF, seval, qQ, qO, qP, tZ]))
  refine wP rfl fun k1 h1 m1 s1 f1 n1 => ?_
  simp only [Pn.cs] at m1
  by_cases k1' : p.kd = 1
  · have e1 : (p.kd == 1) = true := by simp [k1']
    rw [if_pos k1']
    refine qJ ?_; repeat' (first | with_reducible apply qK | ((with_reducible first | apply qI | apply qB | apply qR) <;> try simp only [qN, qC, qE, qG, qD, qA, qF, seval, qQ, qO, qP, tZ, qH m1 zS, qH m1 zD, e1]))
    refine (qO1 N h1 (r1.hs s1) rfl).mono ?_
    rintro _ h2 ⟨s2, a7, c7, rfl, r7, _⟩
    refine qJ ?_; repeat' (first | ((with_reducible first | apply qI | apply qM) <;> try simp only [qN, qC, qE, qG, qD, qA, qF, seval, qQ, qO, qP, tZ]))
    exact ⟨s1.trans s2, a7, c7, rfl, r7⟩
  · have e1 : (p.kd == 1) = false := by simp [k1']
    rw [if_neg k1']
    refine qJ ?_; repeat' (first | with_reducible apply qK | ((with_reducible first | apply qI | apply qB | apply qR | apply qT) <;> try simp only [qN, qC, qE, qG, qD, qA, qF, seval, qQ, qO, qP, tZ, qH m1 zS, qH m1 zD, e1]))
    refine (gT N h1 (r3.hs s1) (by omega)).mono ?_
    rintro _ h2 ⟨s2, o2⟩
    obtain ⟨a7, c7, rfl⟩ := o2.form
    refine qJ ?_; repeat' (first | ((with_reducible first | apply qI | apply qM) <;> try simp only [qN, qC, qE, qG, qD, qA, qF, seval, qQ, qO, qP, tZ]))
    exact ⟨s1.trans s2, a7, c7, rfl, o2.rb⟩
end
theorem gP : type_of% (And.intro zF (And.intro wS (And.intro jA (And.intro wR (And.intro xB (And.intro wF rs39)))))) := And.intro zF (And.intro wS (And.intro jA (And.intro wR (And.intro xB (And.intro wF rs39)))))
def kE : Nat → List (Nat × List Nat) × List Nat
  | 3 => ([(0, []), (1, []), (2, []), (3, []), (4, []), (5, []), (6, [1, 3]), (7, []), (8, []), (9, [])], [0, 1, 0, 4, 0, 16, 48, 127, 255, 511])
  | _ => ([], [])
section
variable {K : Type} {R : GH → List Value → K → Prop}
theorem Pn.right_leaf {p : Pn K} {size : Int} (h : p.right size = true) (k : p.kd = 1) : 0 ≤ p.si ∧ p.si < 256 ∧ p.id.length ≤ 255 ∧ p.ky.length ≤ 48 ∧ p.noFork = true := by
  unfold Pn.right at h
  rw [if_neg (by omega), if_pos k] at h
  simp only [Bool.and_eq_true, zE8, decide_eq_true_eq, Pn.blank, Bool.true_or, Bool.true_and, Bool.false_or] at h
  obtain ⟨⟨⟨h0, h1, h2⟩, h3⟩, h4⟩ := h
  exact ⟨h1, h2, by omega, by omega, h0⟩
theorem Pn.frk_ok {p : Pn K} (h : p.frk = true) : 0 ≤ p.dp ∧ p.dp ≤ 2048 ∧ 0 ≤ p.nw ∧ p.nw < 256 ∧ p.pf.length = (p.dp.toNat + 7) / 8 ∧ zG p.pf p.dp.toNat = p.pf ∧ p.noLeaf = true := by
  unfold Pn.frk at h
  simp only [Bool.and_eq_true, zE8, decide_eq_true_eq, Pn.blank, Bool.or_true, Bool.true_and, Bool.false_or, Bool.and_true, beq_iff_eq] at h
  obtain ⟨⟨⟨⟨⟨h0, h1, h2⟩, h3⟩, h4⟩, h5⟩, h6⟩ := h
  have t0 := Int.tdiv_eq_ediv_of_nonneg (a := p.dp + 7) (b := 8) (by omega)
  refine ⟨h3, h4, h1, h2, by omega, h6, h0.1⟩
theorem Pn.right_closed {p : Pn K} {size : Int} (h : p.right size = true) (k : p.kd = 2) : p.frk = true ∧ (p.lf.length : Int) = size ∧ (p.rt.length : Int) = size ∧ p.kids.length = 0 := by
  unfold Pn.right at h
  rw [if_neg (by omega), if_neg (by omega), if_pos k] at h
  simp only [Bool.and_eq_true, Pn.hsh, beq_iff_eq] at h
  exact ⟨h.1.1, h.1.2.1, h.1.2.2, by omega⟩
theorem qT2 (d : Nat) (pf : List UInt8) (w : Nat) (l r : List UInt8) : (vQ d pf w l r).length ≤ pf.length + l.length + r.length + 30 := by
  have h1 := wM pf d
  simp only [vQ, yX, List.length_cons, fD, gJ, List.map_cons, List.map_nil, List.sum_cons, List.sum_nil, vD]
  omega
theorem zR1 (id ky : List UInt8) (w : Nat) : (fW id ky w).length ≤ id.length + ky.length + 30 := by
  simp only [fW, yX, List.length_cons, fD, gJ, List.map_cons, List.map_nil, List.sum_cons, List.sum_nil, vD]
  omega
theorem zK8 : emptyB.length = 1 := rfl
theorem zL7 {p : Pn K} {size : Int} (h : p.right size = true) (hs : size ≤ 32) : (jT p).length ≤ 1000 := by
  unfold jT
  split
  · rename_i k
    have := p.right_leaf h k
    have := zR1 p.id p.ky p.si.toNat
    omega
  · split
    · rename_i _ k
      obtain ⟨f, a, b, _⟩ := p.right_closed h k
      have g := p.frk_ok f
      have := qT2 p.dp.toNat p.pf p.nw.toNat p.lf p.rt
      omega
    · rw [zK8]; omega
theorem zQ1 (N : Nat) {h : GH} {cs : List Value} {p : Pn K} (r : RPn R h cs p) {size : Int} (hr : p.right size = true) (hs : size ≤ 32) :
    GTri Tryz.prog N 39 [.agg cs.toArray] h fun v h' => HS h h' ∧ ∃ a c, v = .slice a (jT p).length c ∧ RB h' (.slice a (jT p).length c) (jT p) ∧ SL h' (.slice a (jT p).length c) := by
  obtain ⟨a1, c1, a2, c2, a3, c3, a4, c4, a5, c5, a6, c6, rfl, r1, r2, r3, r4, r5, r6⟩ := r
  unfold jT
  refine zU Tryz.func39 rfl gf39 ok39 (by simp [Tryz.ntmps39]) ?_
  repeat' (first | with_reducible apply qK | ((with_reducible apply qB) <;> try simp only [qN, qC, qE, qG, qD, qA, qF, seval, qQ, qO, qP, qL, qY, qZ, zC, gP, kE]))
  refine wP rfl fun k1 h1 m1 s1 f1 n1 => ?_
  simp only [Pn.cs] at m1
  by_cases k1' : p.kd = 1
  · have e1 : (p.kd == 1) = true := by simp [k1']
    obtain ⟨b1, b2, b3, b4, _⟩ := p.right_leaf hr k1'
    rw [if_pos k1']
    obtain ⟨w, hw⟩ : ∃ w : Nat, p.si = (w : Int) := ⟨p.si.toNat, by omega⟩
    rw [hw, Int.toNat_natCast]
    rw [hw] at m1
    refine qJ ?_; repeat' (first | (with_reducible first | apply qK | apply qS) | ((first | (with_reducible first | apply qI | apply qB | apply qR) | with_reducible refine zE kE xC (by kernel_rfl) ?_) <;> try simp only [qN, qC, qE, qG, qD, qA, qF, seval, qQ, qO, qP, qL, qY, qZ, zC, gP, kE, qH m1 zS, qH m1 zD, e1]))
    refine (sF N h1 w (by omega)).mono ?_
    rintro _ h3 ⟨t3, k3, rfl, r3'⟩
    have m3 := t3 _ _ m1
    refine qJ ?_; repeat' (first | ((with_reducible apply qI) <;> try simp only [qN, qC, qE, qG, qD, qA, qF, seval, qQ, qO, qP, qL, qY, qZ, zC, gP, kE, qH m3 zS, qH m3 zD, e1]))
    refine fJ (cs := [.slice a1 p.id.length c1, .slice a2 p.ky.length c2, .slice (some ⟨k3, 0, none⟩) 8 17]) qP8 rfl (by decide) (by decide) (by rw [wD _ rfl]; rfl) rfl fun k4 h4 m4 s4 f4 n4 => ?_
    have t4 := (s1.trans t3).trans s4
    have q4 : RBs h4 (.slice (some ⟨k4, 0, none⟩) ([p.id, p.ky, vJ w] : List (List UInt8)).length 7) [p.id, p.ky, vJ w] := kZ m4 (by decide) rfl fun i x hx => by
      rcases i with _ | _ | _ | i
      · cases hx; exact ⟨_, _, rfl, r1.hs t4⟩
      · cases hx; exact ⟨_, _, rfl, r2.hs t4⟩
      · cases hx; exact ⟨_, _, rfl, r3'.hs s4⟩
      · simp at hx
    have hs4 : ∀ x ∈ ([p.id, p.ky, vJ w] : List (List UInt8)), x.length ≤ 65535 := by
      intro x hx
      simp only [List.mem_cons, List.not_mem_nil, or_false] at hx
      rcases hx with rfl | rfl | rfl <;> first | omega | (rw [vD]; omega)
    have hp4 : gJ [p.id, p.ky, vJ w] ≤ 100000000 := by simp only [gJ, List.map_cons, List.map_nil, List.sum_cons, List.sum_nil, vD]; omega
    have m14 := s4 _ _ m3
    refine qJ ?_; repeat' (first | ((with_reducible apply qI) <;> try simp only [qN, qC, qE, qG, qD, qA, qF, seval, qQ, qO, qP, qL, qY, qZ, zC, gP, kE, qH m14 zS, qH m14 zD, e1]))
    refine (qZ0 N h4 (tag := 1) (by omega) q4 hs4 (by simp) hp4).mono ?_
    rintro _ h5 ⟨s5, a7, c7, rfl, r7, sl7⟩
    refine qJ ?_; repeat' (first | ((with_reducible first | apply qI | apply qM) <;> try simp only [qN, qC, qE, qG, qD, qA, qF, seval, qQ, qO, qP, qL, qY, qZ, zC, gP, kE]))
    exact ⟨t4.trans s5, a7, c7, rfl, r7, sl7⟩
  have e1 : (p.kd == 1) = false := by simp [k1']
  rw [if_neg k1']
  by_cases k2 : p.kd = 2
  · have e2 : (p.kd == 2) = true := by simp [k2]
    obtain ⟨f, g1, g2, _⟩ := p.right_closed hr k2
    have g := p.frk_ok f
    rw [if_pos k2]
    obtain ⟨w, hw⟩ : ∃ w : Nat, p.nw = (w : Int) := ⟨p.nw.toNat, by omega⟩
    obtain ⟨d, hd⟩ : ∃ d : Nat, p.dp = (d : Int) := ⟨p.dp.toNat, by omega⟩
    rw [hw, hd, Int.toNat_natCast, Int.toNat_natCast]
    rw [hw, hd] at m1
    refine qJ ?_; repeat' (first | (with_reducible first | apply qK | apply qS) | ((with_reducible first | apply qI | apply qB | apply qR) <;> try simp only [qN, qC, qE, qG, qD, qA, qF, seval, qQ, qO, qP, qL, qY, qZ, zC, gP, kE, qH m1 zS, qH m1 zD, e1, e2]))
    refine (c_Fork N (d := d) (w := w) (by omega) (by omega) (r3.hs s1) (r4.hs s1) (r5.hs s1) (by omega) (by omega) (by omega)).mono ?_
    rintro _ h5 ⟨s5, a7, c7, rfl, r7, sl7⟩
    refine qJ ?_; repeat' (first | ((with_reducible first | apply qI | apply qM) <;> try simp only [qN, qC, qE, qG, qD, qA, qF, seval, qQ, qO, qP, qL, qY, qZ, zC, gP, kE]))
    exact ⟨s1.trans s5, a7, c7, rfl, r7, sl7⟩
  have e2 : (p.kd == 2) = false := by simp [k2]
  rw [if_neg k2]
  refine qJ ?_; repeat' (first | (with_reducible first | apply qK | apply qS) | ((with_reducible first | apply qI | apply qB | apply qR | apply qT) <;> try simp only [qN, qC, qE, qG, qD, qA, qF, seval, qQ, qO, qP, qL, qY, qZ, zC, gP, kE, qH m1 zS, qH m1 zD, e1, e2]))
  refine (qZ0 N h1 (tag := 0) (by omega) (ps := []) (RL.nil _) (by simp) (by simp) (by simp [gJ])).mono ?_
  rintro _ h5 ⟨s5, a7, c7, rfl, r7, sl7⟩
  refine qJ ?_; repeat' (first | ((with_reducible first | apply qI | apply qM) <;> try simp only [qN, qC, qE, qG, qD, qA, qF, seval, qQ, qO, qP, qL, qY, qZ, zC, gP, kE]))
  exact ⟨s1.trans s5, a7, c7, rfl, r7, sl7⟩
end
section
variable {h0 h h' : GH} {v : Value} {n : Nat} {cs : List Value}
end
section
variable {K : Type} {R : GH → List Value → K → Prop}
theorem zU4 (p : Pn K) : jT p ≠ [] := by
  unfold jT
  split
  · simp [fW, yX]
  · split <;> simp [vQ, emptyB, yX]
end
theorem gi80 {k i : Nat} (h : i < 2) : zJ Tryz.prog 80 (.pointer (some ⟨k, 0, none⟩)) (i : Int) = some (.pointer (some ⟨k, i, none⟩)) := by
  simp [zJ, Tryz.underlying80, zD]; omega
section
variable {K : Type} {R : GH → List Value → K → Prop}
end
section
variable {K : Type} {R : GH → List Value → K → Prop}
end
def zQ9 {K : Type} (nd : Nd) : Pn K := if nd.lf = true then ⟨1, nd.si, 0, 0, nd.id, nd.ky, [], [], [], []⟩ else ⟨2, 0, nd.dp, nd.nw, [], [], nd.pf, [], [], []⟩
def lE {K : Type} (M : List Nd) (nd : Nd) : Pn K := if nd.lf = true then ⟨1, nd.si, 0, 0, nd.id, nd.ky, [], [], [], []⟩ else ⟨2, 0, nd.dp, nd.nw, [], [], nd.pf, (uR M nd.l).hs, (uR M nd.r).hs, []⟩
def noPart {K : Type} : Pn K := ⟨0, 0, 0, 0, [], [], [], [], [], []⟩
theorem zB1 {K : Type} (R : GH → List Value → K → Prop) (h : GH) : RPn R h [.int .i64 0, .slice none 0 0, .slice none 0 0, .int .i64 0, .int .i64 0, .slice none 0 0, .int .i64 0, .slice none 0 0, .slice none 0 0, .slice none 0 0] noPart := ⟨none, 0, none, 0, none, 0, none, 0, none, 0, none, 0, rfl, RB.nil _, RB.nil _, RB.nil _, RB.nil _, RB.nil _, RL.nil _⟩
theorem RL.nilk {α : Type} {es : Nat} {R : GH → List Value → α → Prop} {h h' : GH} {v : Value} (r : RL es R h v []) : RL es R h' v [] := by
  rcases r with ⟨c, e, _⟩ | ⟨ad, c, cs, e, h2, h3, _, _⟩
  · exact .inl ⟨c, e, rfl⟩
  · refine .inr ⟨ad, c, [], e, by simp [wA], h3, fun i x hx => by simp at hx, .inl (by simp)⟩
theorem RPn.bx {K : Type} {R : GH → List Value → K → Prop} {h h' : GH} (f : ∀ {v l}, RB h v l → RB h' v l) {cs : List Value} {p : Pn K} (hk : p.kids = []) (r : RPn R h cs p) : RPn R h' cs p := by
  obtain ⟨a1, c1, a2, c2, a3, c3, a4, c4, a5, c5, a6, c6, rfl, r1, r2, r3, r4, r5, r6⟩ := r
  rw [hk] at r6
  exact ⟨a1, c1, a2, c2, a3, c3, a4, c4, a5, c5, a6, c6, rfl, f r1, f r2, f r3, f r4, f r5, by rw [hk]; exact r6.nilk⟩
section
variable {h0 h h' : GH} {k : Nat} {v : Value} {cs : List Value} {M : List Nd} {K : Type} {R : GH → List Value → K → Prop}
end
theorem fill1 {es : Nat} {z x : Value} (hl : (vcells x).length = es) (hc : (vcells x).all zK = true) : xZ (Shape.elems es).pl (uT z (1 * es)) [(0, x)] = some (vcells x) := by
  have hzl := jU z (1 * es)
  have hp : (Shape.elems es).pl 0 = some (0, es) := by simp [Shape.pl]
  simp only [xZ, hp]
  have := qL4 (vcells x) (uT z (1 * es)) [] (by rw [hzl, hl, Nat.one_mul])
  simp only [List.nil_append, List.length_nil] at this
  rw [this, hzl, Nat.one_mul]
  simp [hl, hc]
section
variable {K : Type}
theorem sD (n : Int) (l : List UInt8) : (vS n l).length ≤ 32 := by
  have := fU l
  simp only [vS, List.length_take, this]; omega
end
end Go.Gh
namespace Go.Gh
open Go Go.Proofs Go.RowKit Go.ChangeShapes Go.WideShapes Go.ChangeAt
set_option linter.unusedVariables false
set_option linter.unusedSimpArgs false
set_option maxRecDepth 100000
set_option maxHeartbeats 1000000
def Pn.bulk {K : Type} (f : K → Nat) (p : Pn K) : Nat := p.id.length + p.ky.length + p.pf.length + p.lf.length + p.rt.length + (p.kids.map f).sum + 10
def Pd.bulk : (n : Nat) → Pd n → Nat
  | 0, p => nomatch (show Empty from p)
  | n + 1, p => Pn.bulk (Pd.bulk n) p
theorem qV4 {α : Type} (g : α → Nat) (h : ∀ x, 1 ≤ g x) : ∀ l : List α, l.length ≤ (l.map g).sum
  | [] => by simp
  | x :: l => by
    have := qV4 g h l
    have := h x
    simp only [List.length_cons, List.map_cons, List.sum_cons]
    omega
end Go.Gh
namespace Go.Gh
open Go Go.Proofs Go.RowKit
set_option linter.unusedVariables false
set_option linter.unusedSimpArgs false
set_option maxRecDepth 100000
set_option maxHeartbeats 4000000
def Sm (d : Nat) (l m : List UInt8) : Prop := ∀ i, i < d → 0 ≤ xA l i ∧ xA l i = xA m i
theorem Sm.trans {d : Nat} {l m k : List UInt8} (s : Sm d l m) (s2 : Sm d m k) : Sm d l k := fun i hi => ⟨(s i hi).1, (s i hi).2.trans (s2 i hi).2⟩
theorem Sm.le {d e : Nat} {l m : List UInt8} (s : Sm d l m) (h : e ≤ d) : Sm e l m := fun i hi => s i (by omega)
def Pn.newest {K : Type} (p : Pn K) : Int := if p.kd = 1 then p.si else p.nw
def kG {K L : Type} (up : Pn K) (s : Int) (k : Pn L) : Bool := (k.kd == 1 || (k.kd != 0 && decide (k.dp > up.dp))) && tV k.bits up.pf up.dp && (xA k.bits up.dp.toNat == s)
def wY (size : Int) : (n : Nat) → Pn (Pd n) → Bool
  | 0, p => p.right size && !(p.kd == 3)
  | n + 1, p => p.right size && (!(p.kd == 3) || (match p.kids with
    | [a, b] => kG p 0 (show Pn (Pd n) from a) && wY size n a && (kG p 1 (show Pn (Pd n) from b) && wY size n b) && (max (max 0 (Pn.newest (show Pn (Pd n) from a))) (Pn.newest (show Pn (Pd n) from b)) == p.nw)
    | _ => false))
def kN (size : Int) : (n : Nat) → Pn (Pd n) → List UInt8
  | 0, p => jT p
  | n + 1, p => if p.kd = 3 then (match p.kids with | [a, b] => vQ p.dp.toNat p.pf p.nw.toNat (vS size (kN size n a)) (vS size (kN size n b)) | _ => []) else jT p
structure Pq where
  (fr : Int)
  (sm : Bool)
  (row : List UInt8)
  (lim : Int)
def Pq.idle {K : Type} (q : Pq) (p : Pn K) : Bool := decide (p.nw ≤ q.fr) || (q.sm && decide (pH p.pf p.dp q.row < 0))
def Pq.has (q : Pq) (id : List UInt8) (si : Int) : Bool := decide (si > q.fr) && (!q.sm || decide (Lib.compareBytes (zL id) q.row > 0))
abbrev St : Type := List Pt × Bool
def Pq.full (q : Pq) (s : St) : Bool := decide ((s.1.length : Int) ≥ q.lim)
def Pq.see {K : Type} (q : Pq) (p : Pn K) (s : St) : St := if q.has p.id p.si = true then (if q.full s = true then (s.1, true) else (s.1 ++ [((p.id, p.ky), p.si)], s.2)) else s
def zH8 {K : Type} (q : Pq) (p : Pn K) (s : St) : Bool × St := if p.kd = 1 then (true, q.see p s) else if p.kd = 2 then (if q.idle p = true then (true, s) else (q.full s, (s.1, true))) else (true, s)
def gZ (q : Pq) : (n : Nat) → Pn (Pd n) → St → Bool × St
  | 0, p, s => zH8 q p s
  | n + 1, p, s => if p.kd = 3 then (match p.kids with
    | [a, b] => (match gZ q n a s with | (true, s1) => gZ q n b s1 | (false, s1) => (false, s1))
    | _ => (true, s)) else zH8 q p s
def zL9 : (n : Nat) → Pn (Pd n) → (k : Nat) → Pn (Pd k) → Pn (Pd k) → Prop
  | 0, _, _, _, _ => False
  | n + 1, p, k, a, b => ∃ e : n = k, p.kids = [(e ▸ a : Pn (Pd n)), (e ▸ b : Pn (Pd n))]
section
variable {size : Int} {n : Nat} {p : Pn (Pd n)}
theorem gB (h : wY size n p = true) : p.right size = true := by
  cases n with
  | zero => simp only [wY, Bool.and_eq_true] at h; exact h.1
  | succ m => simp only [wY, Bool.and_eq_true] at h; exact h.1
theorem may_open (h : wY size n p = true) (h3 : p.kd = 3) : ∃ k, ∃ a b : Pn (Pd k), k < n ∧ zL9 n p k a b ∧ kG p 0 a = true ∧ wY size k a = true ∧ kG p 1 b = true ∧ wY size k b = true ∧ max (max 0 a.newest) b.newest = p.nw := by
  cases n with
  | zero => simp [wY, h3] at h
  | succ m =>
    simp only [wY, h3, beq_self_eq_true, Bool.not_true, Bool.false_or, Bool.and_eq_true] at h
    obtain ⟨_, h⟩ := h
    split at h
    · rename_i a b hk
      simp only [Bool.and_eq_true, beq_iff_eq] at h
      obtain ⟨⟨⟨h1, h2⟩, h4, h5⟩, h6⟩ := h
      exact ⟨m, a, b, by omega, ⟨rfl, hk⟩, h1, h2, h4, h5, h6⟩
    · cases h
theorem lI (h3 : p.kd ≠ 3) : kN size n p = jT p := by
  cases n with
  | zero => rfl
  | succ m => simp only [kN, if_neg h3]
theorem qK1 {k : Nat} {a b : Pn (Pd k)} (h3 : p.kd = 3) (hk : zL9 n p k a b) : kN size n p = vQ p.dp.toNat p.pf p.nw.toNat (vS size (kN size k a)) (vS size (kN size k b)) := by
  cases n with
  | zero => exact hk.elim
  | succ m =>
    obtain ⟨rfl, hk⟩ := hk
    simp only [kN, if_pos h3, hk]
theorem qL5 {q : Pq} {s : St} (h3 : p.kd ≠ 3) : gZ q n p s = zH8 q p s := by
  cases n with
  | zero => rfl
  | succ m => simp only [gZ, if_neg h3]
theorem qR5 {q : Pq} {s : St} {k : Nat} {a b : Pn (Pd k)} (h3 : p.kd = 3) (hk : zL9 n p k a b) : gZ q n p s = (match gZ q k a s with | (true, s1) => gZ q k b s1 | (false, s1) => (false, s1)) := by
  cases n with
  | zero => exact hk.elim
  | succ m =>
    obtain ⟨rfl, hk⟩ := hk
    simp only [gZ, if_pos h3, hk]
    all_goals (rcases gZ q m a s with ⟨_ | _, s1⟩ <;> rfl)
end
section
variable {K L : Type}
def dpt (p : Pn K) : Nat := if p.kd = 1 then 8 * (zL p.id).length else p.dp.toNat
theorem Pn.kinds {p : Pn K} {size : Int} (h : p.right size = true) : p.kd = 0 ∨ p.kd = 1 ∨ ((p.kd = 2 ∨ p.kd = 3) ∧ p.frk = true) := by
  unfold Pn.right at h
  split at h
  · exact .inl ‹_›
  split at h
  · exact .inr (.inl ‹_›)
  split at h
  · simp only [Bool.and_eq_true] at h
    exact .inr (.inr ⟨.inl ‹_›, h.1.1⟩)
  split at h
  · simp only [Bool.and_eq_true] at h
    exact .inr (.inr ⟨.inr ‹_›, h.1.1⟩)
  · cases h
theorem Pn.bits_1 {p : Pn K} (h : p.kd = 1) : p.bits = zL p.id := by unfold Pn.bits; rw [if_pos h]
theorem dpt_1 {p : Pn K} (h : p.kd = 1) : dpt p = 8 * (zL p.id).length := by unfold dpt; rw [if_pos h]
theorem dpt_f {p : Pn K} (h : p.kd ≠ 1) : dpt p = p.dp.toNat := by unfold dpt; rw [if_neg h]
theorem Sm.self {l : List UInt8} {d : Nat} (h : d ≤ 8 * l.length) : Sm d l l := fun i hi => ⟨gbit_nonneg.2 (by omega), rfl⟩
theorem kid_ok {up : Pn K} {s : Int} {k : Pn L} (h : kG up s k = true) (hd : 0 ≤ up.dp) (hs : 0 ≤ s) : k.kd ≠ 0 ∧ up.dp.toNat < dpt k ∧ Sm up.dp.toNat k.bits up.pf ∧ xA k.bits up.dp.toNat = s ∧ (k.kd ≠ 1 → up.dp < k.dp) := by
  unfold kG at h
  simp only [Bool.and_eq_true, Bool.or_eq_true, beq_iff_eq, bne_iff_ne, decide_eq_true_eq] at h
  obtain ⟨⟨h1, h2⟩, h3⟩ := h
  have e : up.dp = (up.dp.toNat : Int) := by omega
  rw [e] at h2
  have h4 := (fZ _ _ _).1 h2
  have h5 := gbit_nonneg.1 (show 0 ≤ xA k.bits up.dp.toNat by omega)
  refine ⟨by omega, ?_, h4, h3, by omega⟩
  by_cases k1 : k.kd = 1
  · rw [Pn.bits_1 k1] at h5
    rw [dpt_1 k1]; exact h5
  · rw [dpt_f k1]; omega
theorem zH9 {p : Pn K} {size : Int} (h : p.right size = true) (h0 : p.kd ≠ 0) : 0 ≤ p.newest := by
  unfold Pn.newest
  rcases p.kinds h with k | k | ⟨k, f⟩
  · exact absurd k h0
  · have := p.right_leaf h k
    rw [if_pos k]; omega
  · have := p.frk_ok f
    rw [if_neg (by omega)]; omega
end
theorem uM : type_of% (And.intro zF (And.intro wS (And.intro wR (And.intro xB (And.intro wF rs110))))) := And.intro zF (And.intro wS (And.intro wR (And.intro xB (And.intro wF rs110))))
theorem uY : type_of% (And.intro zF (And.intro wS (And.intro wR (And.intro xB (And.intro wF rs111))))) := And.intro zF (And.intro wS (And.intro wR (And.intro xB (And.intro wF rs111))))
theorem uX : type_of% (And.intro zF (And.intro wS (And.intro wR (And.intro xB (And.intro wF (And.intro zA1 rs113)))))) := And.intro zF (And.intro wS (And.intro wR (And.intro xB (And.intro wF (And.intro zA1 rs113)))))
def yD : Nat → List (Nat × List Nat) × List Nat
  | 1 => ([(0, []), (1, []), (2, []), (3, []), (4, []), (5, []), (6, []), (7, []), (8, []), (9, []), (10, []), (11, []), (12, []), (13, []), (14, []), (15, []), (16, []), (17, []), (18, []), (19, []), (20, []), (21, []), (22, []), (25, []), (26, []), (27, []), (23, [26, 27]), (24, []), (28, []), (29, []), (30, [])], [0, 1, 3, 7, 15, 31, 63, 127, 255, 511, 1023, 2047, 511, 4607, 12799, 29183, 65535, 131071, 262143, 524287, 1048575, 524287, 2621439, 8388607, 16777215, 524287, 34078719, 101187583, 268435455, 536870911, 1073741823])
  | _ => ([], [])
theorem dX : type_of% (And.intro zF (And.intro wS (And.intro wR (And.intro xB (And.intro wF rs112))))) := And.intro zF (And.intro wS (And.intro wR (And.intro xB (And.intro wF rs112))))
theorem uZ (N : Nat) (h : GH) (n : Int) : GTri Tryz.prog N 65 [.int .i64 n] h fun v h' => v = .bool (zE8 n) ∧ h' = h := by
  unfold zE8
  refine zU Tryz.func65 rfl gf65 ok65 (by simp [Tryz.ntmps65]) ?_
  cases z0 : (decide (n ≥ 0))
  case false =>
    refine qJ ?_; repeat' (first | with_reducible apply qK | ((with_reducible first | apply qI | apply qB | apply qM) <;> try simp only [qN, qC, qE, qG, qD, qA, qF, seval, qQ, qO, qP, xB, rs65, z0, gPick]))
    all_goals simp only [Bool.false_and]
  cases z1 : (decide (n < 256))
  case false =>
    refine qJ ?_; repeat' (first | with_reducible apply qK | ((with_reducible first | apply qI | apply qB | apply qM) <;> try simp only [qN, qC, qE, qG, qD, qA, qF, seval, qQ, qO, qP, xB, rs65, z0, z1, gPick]))
    all_goals simp only [Bool.false_and]
  refine qJ ?_; repeat' (first | with_reducible apply qK | ((with_reducible first | apply qI | apply qB | apply qM) <;> try simp only [qN, qC, qE, qG, qD, qA, qF, seval, qQ, qO, qP, xB, rs65, z0, z1, gPick]))
section
variable {K : Type} {R : GH → List Value → K → Prop}
def Pn.rnoth (p : Pn K) : Bool := ((((((((((p.kd == 0) && ((p.id.length : Int) == 0)) && ((p.ky.length : Int) == 0)) && (p.si == 0)) && (p.dp == 0)) && ((p.pf.length : Int) == 0)) && (p.nw == 0)) && ((p.lf.length : Int) == 0)) && ((p.rt.length : Int) == 0)) && ((p.kids.length : Int) == 0))
theorem Pn.rnoth_eq (p : Pn K) : p.rnoth = ((p.kd == 0) && p.blank false false) := by
  unfold Pn.rnoth Pn.blank
  simp only [Bool.false_or, Bool.true_or, Bool.true_and]
  unfold Pn.noFork
  try unfold Pn.noLeaf
  ac_rfl
theorem qH5 (N : Nat) {h : GH} {cs : List Value} {p : Pn K} (r : RPn R h cs p) : GTri Tryz.prog N 110 [.agg cs.toArray] h fun v h' => v = .bool p.rnoth ∧ HS h h' := by
  obtain ⟨a1, c1, a2, c2, a3, c3, a4, c4, a5, c5, a6, c6, rfl, r1, r2, r3, r4, r5, r6⟩ := r
  unfold Pn.rnoth
  refine zU Tryz.func110 rfl gf110 ok110 (by simp [Tryz.ntmps110]) ?_
  repeat' (first | with_reducible apply qK | ((with_reducible apply qB) <;> try simp only [qN, qC, qE, qG, qD, qA, qF, seval, qQ, qO, qP, uM]))
  refine wP rfl fun k1 h1 m1 s1 f1 n1 => ?_
  simp only [Pn.cs] at m1
  cases z0 : (p.kd == 0)
  case false =>
    refine qJ ?_; repeat' (first | with_reducible apply qK | ((with_reducible first | apply qI | apply qB | apply qM) <;> try simp only [qN, qC, qE, qG, qD, qA, qF, seval, qQ, qO, qP, uM, z0, qH m1 zS, qH m1 zD, qH m1 wO, gPick]))
    first | exact s1 | exact ⟨by simp, s1⟩
  cases z1 : ((p.id.length : Int) == 0)
  case false =>
    refine qJ ?_; repeat' (first | with_reducible apply qK | ((with_reducible first | apply qI | apply qB | apply qM) <;> try simp only [qN, qC, qE, qG, qD, qA, qF, seval, qQ, qO, qP, uM, z0, z1, qH m1 zS, qH m1 zD, qH m1 wO, gPick]))
    first | exact s1 | exact ⟨by simp, s1⟩
  cases z2 : ((p.ky.length : Int) == 0)
  case false =>
    refine qJ ?_; repeat' (first | with_reducible apply qK | ((with_reducible first | apply qI | apply qB | apply qM) <;> try simp only [qN, qC, qE, qG, qD, qA, qF, seval, qQ, qO, qP, uM, z0, z1, z2, qH m1 zS, qH m1 zD, qH m1 wO, gPick]))
    first | exact s1 | exact ⟨by simp, s1⟩
  cases z3 : (p.si == 0)
  case false =>
    refine qJ ?_; repeat' (first | with_reducible apply qK | ((with_reducible first | apply qI | apply qB | apply qM) <;> try simp only [qN, qC, qE, qG, qD, qA, qF, seval, qQ, qO, qP, uM, z0, z1, z2, z3, qH m1 zS, qH m1 zD, qH m1 wO, gPick]))
    first | exact s1 | exact ⟨by simp, s1⟩
  cases z4 : (p.dp == 0)
  case false =>
    refine qJ ?_; repeat' (first | with_reducible apply qK | ((with_reducible first | apply qI | apply qB | apply qM) <;> try simp only [qN, qC, qE, qG, qD, qA, qF, seval, qQ, qO, qP, uM, z0, z1, z2, z3, z4, qH m1 zS, qH m1 zD, qH m1 wO, gPick]))
    first | exact s1 | exact ⟨by simp, s1⟩
  cases z5 : ((p.pf.length : Int) == 0)
  case false =>
    refine qJ ?_; repeat' (first | with_reducible apply qK | ((with_reducible first | apply qI | apply qB | apply qM) <;> try simp only [qN, qC, qE, qG, qD, qA, qF, seval, qQ, qO, qP, uM, z0, z1, z2, z3, z4, z5, qH m1 zS, qH m1 zD, qH m1 wO, gPick]))
    first | exact s1 | exact ⟨by simp, s1⟩
  cases z6 : (p.nw == 0)
  case false =>
    refine qJ ?_; repeat' (first | with_reducible apply qK | ((with_reducible first | apply qI | apply qB | apply qM) <;> try simp only [qN, qC, qE, qG, qD, qA, qF, seval, qQ, qO, qP, uM, z0, z1, z2, z3, z4, z5, z6, qH m1 zS, qH m1 zD, qH m1 wO, gPick]))
    first | exact s1 | exact ⟨by simp, s1⟩
  cases z7 : ((p.lf.length : Int) == 0)
  case false =>
    refine qJ ?_; repeat' (first | with_reducible apply qK | ((with_reducible first | apply qI | apply qB | apply qM) <;> try simp only [qN, qC, qE, qG, qD, qA, qF, seval, qQ, qO, qP, uM, z0, z1, z2, z3, z4, z5, z6, z7, qH m1 zS, qH m1 zD, qH m1 wO, gPick]))
    first | exact s1 | exact ⟨by simp, s1⟩
  cases z8 : ((p.rt.length : Int) == 0)
  case false =>
    refine qJ ?_; repeat' (first | with_reducible apply qK | ((with_reducible first | apply qI | apply qB | apply qM) <;> try simp only [qN, qC, qE, qG, qD, qA, qF, seval, qQ, qO, qP, uM, z0, z1, z2, z3, z4, z5, z6, z7, z8, qH m1 zS, qH m1 zD, qH m1 wO, gPick]))
    first | exact s1 | exact ⟨by simp, s1⟩
  cases z9 : ((p.kids.length : Int) == 0)
  case false =>
    refine qJ ?_; repeat' (first | with_reducible apply qK | ((with_reducible first | apply qI | apply qB | apply qM) <;> try simp only [qN, qC, qE, qG, qD, qA, qF, seval, qQ, qO, qP, uM, z0, z1, z2, z3, z4, z5, z6, z7, z8, z9, qH m1 zS, qH m1 zD, qH m1 wO, gPick]))
    first | exact s1 | exact ⟨by simp, s1⟩
  refine qJ ?_; repeat' (first | with_reducible apply qK | ((with_reducible first | apply qI | apply qB | apply qM) <;> try simp only [qN, qC, qE, qG, qD, qA, qF, seval, qQ, qO, qP, uM, z0, z1, z2, z3, z4, z5, z6, z7, z8, z9, qH m1 zS, qH m1 zD, qH m1 wO, gPick]))
  first | exact s1 | exact ⟨by simp, s1⟩
def Pn.rleaf (p : Pn K) : Bool := (((((((((decide ((p.id.length : Int) ≤ 255)) && (decide ((p.ky.length : Int) ≤ 48))) && (zE8 p.si)) && (p.dp == 0)) && ((p.pf.length : Int) == 0)) && (p.nw == 0)) && ((p.lf.length : Int) == 0)) && ((p.rt.length : Int) == 0)) && ((p.kids.length : Int) == 0))
theorem Pn.rleaf_eq (p : Pn K) : p.rleaf = (p.blank true false && zE8 p.si && decide ((p.id.length : Int) ≤ 255) && decide ((p.ky.length : Int) ≤ 48)) := by
  unfold Pn.rleaf Pn.blank
  simp only [Bool.false_or, Bool.true_or, Bool.true_and]
  unfold Pn.noFork
  try unfold Pn.noLeaf
  ac_rfl
theorem zG3 (N : Nat) {h : GH} {cs : List Value} {p : Pn K} (r : RPn R h cs p) : GTri Tryz.prog N 111 [.agg cs.toArray] h fun v h' => v = .bool p.rleaf ∧ HS h h' := by
  obtain ⟨a1, c1, a2, c2, a3, c3, a4, c4, a5, c5, a6, c6, rfl, r1, r2, r3, r4, r5, r6⟩ := r
  unfold Pn.rleaf
  refine zU Tryz.func111 rfl gf111 ok111 (by simp [Tryz.ntmps111]) ?_
  repeat' (first | with_reducible apply qK | ((with_reducible apply qB) <;> try simp only [qN, qC, qE, qG, qD, qA, qF, seval, qQ, qO, qP, uY]))
  refine wP rfl fun k1 h1 m1 s1 f1 n1 => ?_
  simp only [Pn.cs] at m1
  cases z0 : (decide ((p.id.length : Int) ≤ 255))
  case false =>
    refine qJ ?_; repeat' (first | with_reducible apply qK | ((with_reducible first | apply qI | apply qB | apply qM) <;> try simp only [qN, qC, qE, qG, qD, qA, qF, seval, qQ, qO, qP, uY, z0, qH m1 zS, qH m1 zD, qH m1 wO, gPick]))
    first | exact s1 | exact ⟨by simp, s1⟩
  cases z1 : (decide ((p.ky.length : Int) ≤ 48))
  case false =>
    refine qJ ?_; repeat' (first | with_reducible apply qK | ((with_reducible first | apply qI | apply qB | apply qM) <;> try simp only [qN, qC, qE, qG, qD, qA, qF, seval, qQ, qO, qP, uY, z0, z1, qH m1 zS, qH m1 zD, qH m1 wO, gPick]))
    first | exact s1 | exact ⟨by simp, s1⟩
  cases z2 : (zE8 p.si)
  case false =>
    refine qJ ?_; repeat' (first | with_reducible apply qK | ((first | (with_reducible first | apply qI | apply qB | apply qM) | ((refine GTri.mono (uZ _ _ _) ?_); rintro _ _ ⟨rfl, hh9⟩; replace hh9 := hh9.symm; subst hh9)) <;> try simp only [qN, qC, qE, qG, qD, qA, qF, seval, qQ, qO, qP, uY, z0, z1, z2, qH m1 zS, qH m1 zD, qH m1 wO, gPick]))
    first | exact s1 | exact ⟨by simp, s1⟩
  cases z3 : (p.dp == 0)
  case false =>
    refine qJ ?_; repeat' (first | with_reducible apply qK | ((first | (with_reducible first | apply qI | apply qB | apply qM) | ((refine GTri.mono (uZ _ _ _) ?_); rintro _ _ ⟨rfl, hh9⟩; replace hh9 := hh9.symm; subst hh9)) <;> try simp only [qN, qC, qE, qG, qD, qA, qF, seval, qQ, qO, qP, uY, z0, z1, z2, z3, qH m1 zS, qH m1 zD, qH m1 wO, gPick]))
    first | exact s1 | exact ⟨by simp, s1⟩
  cases z4 : ((p.pf.length : Int) == 0)
  case false =>
    refine qJ ?_; repeat' (first | with_reducible apply qK | ((first | (with_reducible first | apply qI | apply qB | apply qM) | ((refine GTri.mono (uZ _ _ _) ?_); rintro _ _ ⟨rfl, hh9⟩; replace hh9 := hh9.symm; subst hh9)) <;> try simp only [qN, qC, qE, qG, qD, qA, qF, seval, qQ, qO, qP, uY, z0, z1, z2, z3, z4, qH m1 zS, qH m1 zD, qH m1 wO, gPick]))
    first | exact s1 | exact ⟨by simp, s1⟩
  cases z5 : (p.nw == 0)
  case false =>
    refine qJ ?_; repeat' (first | with_reducible apply qK | ((first | (with_reducible first | apply qI | apply qB | apply qM) | ((refine GTri.mono (uZ _ _ _) ?_); rintro _ _ ⟨rfl, hh9⟩; replace hh9 := hh9.symm; subst hh9)) <;> try simp only [qN, qC, qE, qG, qD, qA, qF, seval, qQ, qO, qP, uY, z0, z1, z2, z3, z4, z5, qH m1 zS, qH m1 zD, qH m1 wO, gPick]))
    first | exact s1 | exact ⟨by simp, s1⟩
  cases z6 : ((p.lf.length : Int) == 0)
  case false =>
    refine qJ ?_; repeat' (first | with_reducible apply qK | ((first | (with_reducible first | apply qI | apply qB | apply qM) | ((refine GTri.mono (uZ _ _ _) ?_); rintro _ _ ⟨rfl, hh9⟩; replace hh9 := hh9.symm; subst hh9)) <;> try simp only [qN, qC, qE, qG, qD, qA, qF, seval, qQ, qO, qP, uY, z0, z1, z2, z3, z4, z5, z6, qH m1 zS, qH m1 zD, qH m1 wO, gPick]))
    first | exact s1 | exact ⟨by simp, s1⟩
  cases z7 : ((p.rt.length : Int) == 0)
  case false =>
    refine qJ ?_; repeat' (first | with_reducible apply qK | ((first | (with_reducible first | apply qI | apply qB | apply qM) | ((refine GTri.mono (uZ _ _ _) ?_); rintro _ _ ⟨rfl, hh9⟩; replace hh9 := hh9.symm; subst hh9)) <;> try simp only [qN, qC, qE, qG, qD, qA, qF, seval, qQ, qO, qP, uY, z0, z1, z2, z3, z4, z5, z6, z7, qH m1 zS, qH m1 zD, qH m1 wO, gPick]))
    first | exact s1 | exact ⟨by simp, s1⟩
  cases z8 : ((p.kids.length : Int) == 0)
  case false =>
    refine qJ ?_; repeat' (first | with_reducible apply qK | ((first | (with_reducible first | apply qI | apply qB | apply qM) | ((refine GTri.mono (uZ _ _ _) ?_); rintro _ _ ⟨rfl, hh9⟩; replace hh9 := hh9.symm; subst hh9)) <;> try simp only [qN, qC, qE, qG, qD, qA, qF, seval, qQ, qO, qP, uY, z0, z1, z2, z3, z4, z5, z6, z7, z8, qH m1 zS, qH m1 zD, qH m1 wO, gPick]))
    first | exact s1 | exact ⟨by simp, s1⟩
  refine qJ ?_; repeat' (first | with_reducible apply qK | ((first | (with_reducible first | apply qI | apply qB | apply qM) | ((refine GTri.mono (uZ _ _ _) ?_); rintro _ _ ⟨rfl, hh9⟩; replace hh9 := hh9.symm; subst hh9)) <;> try simp only [qN, qC, qE, qG, qD, qA, qF, seval, qQ, qO, qP, uY, z0, z1, z2, z3, z4, z5, z6, z7, z8, qH m1 zS, qH m1 zD, qH m1 wO, gPick]))
  first | exact s1 | exact ⟨by simp, s1⟩
def Pn.rfork (p : Pn K) : Bool := ((((((((decide (p.dp ≥ 0)) && (decide (p.dp ≤ 2048))) && ((p.pf.length : Int) == Int.tdiv (p.dp + 7) 8)) && (zG p.pf p.dp.toNat == p.pf)) && (zE8 p.nw)) && ((p.id.length : Int) == 0)) && ((p.ky.length : Int) == 0)) && (p.si == 0))
theorem Pn.rfork_eq (p : Pn K) : p.rfork = p.frk := by
  unfold Pn.rfork Pn.frk Pn.blank
  simp only [Bool.false_or, Bool.true_or, Bool.true_and, Bool.and_true]
  unfold Pn.noLeaf
  ac_rfl
theorem qJ7 (N : Nat) {h : GH} {cs : List Value} {p : Pn K} (r : RPn R h cs p) (hl : p.pf.length ≤ 100000000) : GTri Tryz.prog N 113 [.agg cs.toArray] h fun v h' => v = .bool p.rfork ∧ HS h h' := by
  obtain ⟨a1, c1, a2, c2, a3, c3, a4, c4, a5, c5, a6, c6, rfl, r1, r2, r3, r4, r5, r6⟩ := r
  unfold Pn.rfork
  refine zU Tryz.func113 rfl gf113 ok113 (by simp [Tryz.ntmps113]) ?_
  repeat' (first | with_reducible apply qK | ((with_reducible apply qB) <;> try simp only [qN, qC, qE, qG, qD, qA, qF, seval, qQ, qO, qP, qL, qY, qZ, zC, uX, yD]))
  refine wP rfl fun k1 h1 m1 s1 f1 n1 => ?_
  simp only [Pn.cs] at m1
  cases z0 : (decide (p.dp ≥ 0))
  case false =>
    refine qJ ?_; repeat' (first | with_reducible apply qK | ((first | (with_reducible first | apply qI | apply qB | apply qM) | with_reducible refine zE yD xC (by kernel_rfl) ?_) <;> try simp only [qN, qC, qE, qG, qD, qA, qF, seval, qQ, qO, qP, qL, qY, qZ, zC, uX, yD, z0, qH m1 zS, qH m1 zD, gPick]))
    first | exact s1 | exact ⟨by simp, s1⟩
  cases z1 : (decide (p.dp ≤ 2048))
  case false =>
    refine qJ ?_; repeat' (first | with_reducible apply qK | ((first | (with_reducible first | apply qI | apply qB | apply qM) | with_reducible refine zE yD xC (by kernel_rfl) ?_) <;> try simp only [qN, qC, qE, qG, qD, qA, qF, seval, qQ, qO, qP, qL, qY, qZ, zC, uX, yD, z0, z1, qH m1 zS, qH m1 zD, gPick]))
    first | exact s1 | exact ⟨by simp, s1⟩
  have y1 : 0 ≤ p.dp := by simpa using z0
  have y2 : p.dp ≤ 2048 := by simpa using z1
  have w7 : IntKind.i64.wrap (p.dp + 7) = p.dp + 7 := by rw [wrap64 (by omega) (by omega)]
  have t0 := Int.tdiv_eq_ediv_of_nonneg (a := p.dp + 7) (b := 8) (by omega)
  have w8 : IntKind.i64.wrap (Int.tdiv (p.dp + 7) 8) = Int.tdiv (p.dp + 7) 8 := by rw [wrap64 (by omega) (by omega)]
  cases z2 : ((p.pf.length : Int) == Int.tdiv (p.dp + 7) 8)
  case false =>
    refine qJ ?_; repeat' (first | with_reducible apply qK | ((first | (with_reducible first | apply qI | apply qB | apply qM) | with_reducible refine zE yD xC (by kernel_rfl) ?_) <;> try simp only [qN, qC, qE, qG, qD, qA, qF, seval, qQ, qO, qP, qL, qY, qZ, zC, uX, yD, z0, z1, z2, w7, w8, qH m1 zS, qH m1 zD, gPick]))
    first | exact s1 | exact ⟨by simp, s1⟩
  have v0 := (r3.hs s1).conv Tryz.underlying22 Tryz.underlying5 Tryz.underlying9
  refine qJ ?_; repeat' (first | with_reducible apply qK | ((first | (with_reducible apply qI) | with_reducible refine zE yD xC (by kernel_rfl) ?_) <;> try simp only [qN, qC, qE, qG, qD, qA, qF, seval, qQ, qO, qP, qL, qY, qZ, zC, uX, yD, z0, z1, z2, w7, w8, v0, qH m1 zS, qH m1 zD, gPick]))
  refine (gR N h1 (r3.hs s1) (by omega) p.dp (WalkArith.wf_i64 (by omega))).mono ?_
  rintro _ h2 ⟨s2, a7, c7, rfl, r7⟩
  have m2 := s2 _ _ m1
  have S2 := s1.trans s2
  have v1 := r7.conv Tryz.underlying22 Tryz.underlying5 Tryz.underlying9
  have v2 := ((r3.hs s1).hs s2).conv Tryz.underlying22 Tryz.underlying5 Tryz.underlying9
  cases z3 : (zG p.pf p.dp.toNat == p.pf)
  case false =>
    refine qJ ?_; repeat' (first | with_reducible apply qK | ((with_reducible first | apply qI | apply qB | apply qM) <;> try simp only [qN, qC, qE, qG, qD, qA, qF, seval, qQ, qO, qP, qL, qY, qZ, zC, uX, yD, z3, qH m2 zS, qH m2 zD, v1, v2, kM, gPick]))
    first | exact S2 | exact ⟨by simp, S2⟩
  cases y4 : (zE8 p.nw)
  case false =>
    refine qJ ?_; repeat' (first | with_reducible apply qK | ((first | (with_reducible first | apply qI | apply qB | apply qM) | ((refine GTri.mono (uZ _ _ _) ?_); rintro _ _ ⟨rfl, hh9⟩; replace hh9 := hh9.symm; subst hh9)) <;> try simp only [qN, qC, qE, qG, qD, qA, qF, seval, qQ, qO, qP, qL, qY, qZ, zC, uX, yD, z3, y4, qH m2 zS, qH m2 zD, v1, v2, kM, gPick]))
    first | exact S2 | exact ⟨by simp, S2⟩
  cases y5 : ((p.id.length : Int) == 0)
  case false =>
    refine qJ ?_; repeat' (first | with_reducible apply qK | ((first | (with_reducible first | apply qI | apply qB | apply qM) | ((refine GTri.mono (uZ _ _ _) ?_); rintro _ _ ⟨rfl, hh9⟩; replace hh9 := hh9.symm; subst hh9)) <;> try simp only [qN, qC, qE, qG, qD, qA, qF, seval, qQ, qO, qP, qL, qY, qZ, zC, uX, yD, z3, y4, y5, qH m2 zS, qH m2 zD, v1, v2, kM, gPick]))
    first | exact S2 | exact ⟨by simp, S2⟩
  cases y6 : ((p.ky.length : Int) == 0)
  case false =>
    refine qJ ?_; repeat' (first | with_reducible apply qK | ((first | (with_reducible first | apply qI | apply qB | apply qM) | ((refine GTri.mono (uZ _ _ _) ?_); rintro _ _ ⟨rfl, hh9⟩; replace hh9 := hh9.symm; subst hh9)) <;> try simp only [qN, qC, qE, qG, qD, qA, qF, seval, qQ, qO, qP, qL, qY, qZ, zC, uX, yD, z3, y4, y5, y6, qH m2 zS, qH m2 zD, v1, v2, kM, gPick]))
    first | exact S2 | exact ⟨by simp, S2⟩
  cases y7 : (p.si == 0)
  case false =>
    refine qJ ?_; repeat' (first | with_reducible apply qK | ((first | (with_reducible first | apply qI | apply qB | apply qM) | ((refine GTri.mono (uZ _ _ _) ?_); rintro _ _ ⟨rfl, hh9⟩; replace hh9 := hh9.symm; subst hh9)) <;> try simp only [qN, qC, qE, qG, qD, qA, qF, seval, qQ, qO, qP, qL, qY, qZ, zC, uX, yD, z3, y4, y5, y6, y7, qH m2 zS, qH m2 zD, v1, v2, kM, gPick]))
    first | exact S2 | exact ⟨by simp, S2⟩
  refine qJ ?_; repeat' (first | with_reducible apply qK | ((first | (with_reducible first | apply qI | apply qB | apply qM) | ((refine GTri.mono (uZ _ _ _) ?_); rintro _ _ ⟨rfl, hh9⟩; replace hh9 := hh9.symm; subst hh9)) <;> try simp only [qN, qC, qE, qG, qD, qA, qF, seval, qQ, qO, qP, qL, qY, qZ, zC, uX, yD, z3, y4, y5, y6, y7, qH m2 zS, qH m2 zD, v1, v2, kM, gPick]))
  first | exact S2 | exact ⟨by simp, S2⟩
theorem c_rBits (N : Nat) {h : GH} {cs : List Value} {p : Pn K} (r : RPn R h cs p) (hl : p.pf.length ≤ 100000000) : GTri Tryz.prog N 112 [.agg cs.toArray] h fun v h' => HS h h' ∧ ∃ a c, v = .slice a p.bits.length c ∧ RB h' (.slice a p.bits.length c) p.bits := by
  obtain ⟨a1, c1, a2, c2, a3, c3, a4, c4, a5, c5, a6, c6, rfl, r1, r2, r3, r4, r5, r6⟩ := r
  unfold Pn.bits
  refine zU Tryz.func112 rfl gf112 ok112 (by simp [Tryz.ntmps112]) ?_
  repeat' (first | with_reducible apply qK | ((with_reducible apply qB) <;> try simp only [qN, qC, qE, qG, qD, qA, qF, seval, qQ, qO, qP, dX]))
  refine wP rfl fun k1 h1 m1 s1 f1 n1 => ?_
  simp only [Pn.cs] at m1
  by_cases k1' : p.kd = 1
  · have e1 : (p.kd == 1) = true := by simp [k1']
    rw [if_pos k1']
    refine qJ ?_; repeat' (first | with_reducible apply qK | ((with_reducible first | apply qI | apply qB | apply qR) <;> try simp only [qN, qC, qE, qG, qD, qA, qF, seval, qQ, qO, qP, dX, qH m1 zS, qH m1 zD, e1]))
    refine (pR N h1 (r1.hs s1) rfl).mono ?_
    rintro _ h2 ⟨s2, a7, c7, rfl, r7, _⟩
    refine qJ ?_; repeat' (first | ((with_reducible first | apply qI | apply qM) <;> try simp only [qN, qC, qE, qG, qD, qA, qF, seval, qQ, qO, qP, dX]))
    exact ⟨s1.trans s2, a7, c7, rfl, r7⟩
  · have e1 : (p.kd == 1) = false := by simp [k1']
    rw [if_neg k1']
    refine qJ ?_; repeat' (first | with_reducible apply qK | ((with_reducible first | apply qI | apply qB | apply qR | apply qT) <;> try simp only [qN, qC, qE, qG, qD, qA, qF, seval, qQ, qO, qP, dX, qH m1 zS, qH m1 zD, e1]))
    refine mX vA rfl ?_
    refine qJ ?_; repeat' (first | ((with_reducible apply qI) <;> try simp only [qN, qC, qE, qG, qD, qA, qF, seval, qQ, qO, qP, dX, qH m1 zS, qH m1 zD, e1]))
    refine xW vA Tryz.underlying22 rfl (HS.refl h1) (.inr (.inl ⟨_, rfl, rfl⟩)) (r3.hs s1).src (by simp; omega) fun v2 h2 s2 f2 o2 => ?_
    rw [List.nil_append] at o2
    obtain ⟨a7, c7, rfl⟩ := o2.form
    refine qJ ?_; repeat' (first | ((with_reducible first | apply qI | apply qM) <;> try simp only [qN, qC, qE, qG, qD, qA, qF, seval, qQ, qO, qP, dX]))
    exact ⟨s1.trans s2, a7, c7, rfl, o2.rb⟩
end
section
variable {K : Type} {R : GH → List Value → K → Prop}
end
section
variable {h0 h h' : GH} {k : Nat} {v : Value} {cs : List Value} {M : List Nd} {K : Type} {R : GH → List Value → K → Prop}
theorem AB.upd {j : Nat} {B : GB} (x : AB h0 h k v cs M) (m : h j = some B) (hu : B.cells.all vO = true) (hn : k ≠ j) (f : ∀ i, i ≠ j → h' i = h i) (h0' : B.es = 0 := by rfl) : AB h0 h' k v cs M :=
  ⟨by rw [f k hn]; exact x.obj, x.nk, x.arr.keep (x.arr.own.by5 m f (by rw [h0']; decide)) fun _ _ r => r.hx m hu (zH f)⟩
end
theorem rG : type_of% (And.intro zF (And.intro wS (And.intro wR (And.intro xB (And.intro uI (And.intro wF (And.intro zA1 rs24))))))) := And.intro zF (And.intro wS (And.intro wR (And.intro xB (And.intro uI (And.intro wF (And.intro zA1 rs24))))))
def fS : Nat → List (Nat × List Nat) × List Nat
  | 6 => ([(0, []), (1, []), (2, []), (3, []), (4, []), (5, []), (6, []), (7, []), (8, []), (9, []), (10, []), (11, [])], [0, 1, 0, 7, 15, 0, 32, 0, 224, 480, 1023, 2047])
  | _ => ([], [])
section
variable {K : Type} {R : GH → List Value → K → Prop}
theorem zF9 (N : Nat) {p : Pn K} (ih : ∀ x ∈ p.kids, ∀ {h c1 c2}, R h c1 x → R h c2 x → GTri Tryz.prog N 24 [.agg c1.toArray, .agg c2.toArray] h fun v h' => v = .bool true ∧ HS h h') (fR : ∀ {h h'}, HS h h' → ∀ cs x, R h cs x → R h' cs x) {h : GH} {k1 k2 : List Value} (r : RPn R h k1 p) (q : RPn R h k2 p) (hk : p.kids.length ≤ 100000000) :
    GTri Tryz.prog N 24 [.agg k1.toArray, .agg k2.toArray] h fun v h' => v = .bool true ∧ HS h h' := by
  obtain ⟨a1, c1, a2, c2, a3, c3, a4, c4, a5, c5, a6, c6, rfl, r1, r2, r3, r4, r5, r6⟩ := r
  obtain ⟨b1, d1, b2, d2, b3, d3, b4, d4, b5, d5, b6, d6, rfl, q1, q2, q3, q4, q5, q6⟩ := q
  refine zU Tryz.func24 rfl gf24 ok24 (by simp [Tryz.ntmps24]) ?_
  repeat' (first | with_reducible apply qK | ((with_reducible apply qB) <;> try simp only [qN, qC, qE, qG, qD, qA, qF, seval, qQ, qO, qP, qL, qY, qZ, zC, rG, fS]))
  refine wP rfl fun k1 h1 m1 s1 f1 n1 => ?_
  refine qJ ?_; repeat' (first | ((with_reducible apply qI) <;> try simp only [qN, qC, qE, qG, qD, qA, qF, seval, qQ, qO, qP, qL, qY, qZ, zC, rG, fS]))
  refine wP rfl fun k2 h2 m2 s2 f2 n2 => ?_
  have m12 := s2 _ _ m1
  have S2 := s1.trans s2
  simp only [Pn.cs] at m12 m2
  have cv : ∀ {a : Option Addr} {n c : Nat} {l : List UInt8}, RB h (.slice a n c) l → uA Tryz.prog 22 9 h2 (.slice a n c) = some (.string (qI6 l)) := fun r => (r.hs S2).conv Tryz.underlying22 Tryz.underlying5 Tryz.underlying9
  refine qJ ?_; repeat' (first | with_reducible apply qK | ((with_reducible first | apply qI | apply qB) <;> try simp only [qN, qC, qE, qG, qD, qA, qF, seval, qQ, qO, qP, qL, qY, qZ, zC, rG, fS]))
  simp only [List.append_eq, List.cons_append, List.nil_append]
  refine qJ ?_; repeat' (first | (with_reducible first | apply qK | apply qS) | ((with_reducible first | apply qI | apply qB | apply qR | apply qT) <;> try simp only [qN, qC, qE, qG, qD, qA, qF, seval, qQ, qO, qP, qL, qY, qZ, zC, rG, fS, qH m12 zS, qH m2 zS, qH m12 zD, qH m2 zD, qH m12 wO, qH m2 wO, cv r1, cv r2, cv r3, cv r4, cv r5, cv q1, cv q2, cv q3, cv q4, cv q5, kM, bne_self_eq_false, beq_self_eq_true, Bool.not_true, gPick]))
  refine xR [2, 3, 88] (fun (j : Nat) => [(89, .int .i64 (j : Int))]) (fun q j h' => p.kids.length - j = q ∧ j ≤ p.kids.length ∧ HS h2 h') p.kids.length 0 (by simp [lk]) ⟨rfl, by omega, HS.refl _⟩ ?_
  rintro _ j h3 ⟨rfl, hj, s3⟩
  have S3 := S2.trans s3
  by_cases hjl : j < p.kids.length
  case neg =>
    have d0 : decide ((j : Int) < (p.kids.length : Int)) = false := decide_eq_false (by omega)
    refine qJ ?_; repeat' (first | with_reducible apply qK | ((with_reducible first | apply qI | apply qB | apply qR | apply xT | apply qM) <;> try simp only [qN, qC, qE, qG, qD, qA, qF, seval, qQ, qO, qP, qL, qY, qZ, zC, rG, fS, d0]))
    exact S3
  have d0 : decide ((j : Int) < (p.kids.length : Int)) = true := decide_eq_true (by omega)
  have wj : IntKind.i64.wrap ((j : Int) + 1) = ((j + 1 : Nat) : Int) := by rw [wrap64 (by omega) (by omega)]; omega
  have m13 := s3 _ _ m12
  have m23 := s3 _ _ m2
  obtain ⟨x, hx⟩ := jP hjl
  obtain ⟨ad, cs5, g1, g2, e1⟩ := RL.at (P := Tryz.prog) (RL.hs S3 (fR S3) r6) Tryz.underlying24 xX hx
  obtain ⟨ad', cs6, g3, g4, e2⟩ := RL.at (P := Tryz.prog) (RL.hs S3 (fR S3) q6) Tryz.underlying24 xX hx
  refine qJ ?_; repeat' (first | (with_reducible first | apply qK | apply qS) | ((first | (with_reducible first | apply qI | apply qB | apply qR | apply qT) | with_reducible refine zE fS xC (by kernel_rfl) ?_) <;> try simp only [qN, qC, qE, qG, qD, qA, qF, seval, qQ, qO, qP, qL, qY, qZ, zC, rG, fS, d0, qH m13 wO, qH m23 wO, g1, g3, gK xX g2, gK xX g4]))
  refine (ih x (List.mem_of_getElem? hx) e1 e2).mono ?_
  rintro _ h4 ⟨rfl, s4⟩
  refine qJ ?_; repeat' (first | ((with_reducible first | apply qI | apply qB | apply qR | apply qT) <;> try simp only [qN, qC, qE, qG, qD, qA, qF, seval, qQ, qO, qP, qL, qY, qZ, zC, rG, fS, wj]))
  exact ⟨_, j + 1, by omega, (by simp only [List.forall_mem_cons, List.not_mem_nil, false_implies, implies_true, List.map, List.cons_append, List.nil_append, lk, Nat.reduceEqDiff, reduceIte, and_true, true_and]), rfl, by omega, s3.trans s4⟩
end
theorem zM8 {α : Type} (g : α → Nat) : ∀ {l : List α} {x : α}, x ∈ l → g x ≤ (l.map g).sum
  | y :: l, x, h => by
    rcases List.mem_cons.1 h with rfl | h
    · simp only [List.map_cons, List.sum_cons]; omega
    · have := zM8 g h
      simp only [List.map_cons, List.sum_cons]; omega
theorem Pn.kids_bulk {n : Nat} {p : Pn (Pd (n + 1))} {x : Pn (Pd n)} (h : x ∈ (show List (Pn (Pd n)) from p.kids)) : Pn.bulk (Pd.bulk n) x + 10 ≤ Pn.bulk (Pd.bulk (n + 1)) p := by
  have h1 : Pd.bulk (n + 1) x ≤ (p.kids.map (Pd.bulk (n + 1))).sum := zM8 (Pd.bulk (n + 1)) h
  have h2 : Pd.bulk (n + 1) x = Pn.bulk (Pd.bulk n) x := rfl
  have h3 : Pn.bulk (Pd.bulk (n + 1)) p = p.id.length + p.ky.length + p.pf.length + p.lf.length + p.rt.length + (p.kids.map (Pd.bulk (n + 1))).sum + 10 := rfl
  omega
theorem Pd.bulk_pos : ∀ (n : Nat) (x : Pd n), 1 ≤ Pd.bulk n x
  | 0, x => nomatch (show Empty from x)
  | n + 1, x => by
    have h3 : Pd.bulk (n + 1) x = (show Pn (Pd n) from x).id.length + (show Pn (Pd n) from x).ky.length + (show Pn (Pd n) from x).pf.length + (show Pn (Pd n) from x).lf.length + (show Pn (Pd n) from x).rt.length + ((show Pn (Pd n) from x).kids.map (Pd.bulk n)).sum + 10 := rfl
    omega
theorem Pn.bulk_parts {n : Nat} (p : Pn (Pd n)) : p.kids.length ≤ Pn.bulk (Pd.bulk n) p ∧ p.id.length ≤ Pn.bulk (Pd.bulk n) p ∧ p.ky.length ≤ Pn.bulk (Pd.bulk n) p ∧ p.pf.length ≤ Pn.bulk (Pd.bulk n) p := by
  have h3 : Pn.bulk (Pd.bulk n) p = p.id.length + p.ky.length + p.pf.length + p.lf.length + p.rt.length + (p.kids.map (Pd.bulk n)).sum + 10 := rfl
  have := qV4 (Pd.bulk n) (Pd.bulk_pos n) p.kids
  omega
theorem qH4 (N : Nat) : ∀ (n : Nat) {h : GH} {k1 k2 : List Value} {p : Pn (Pd n)} (r : RPn (RPd n) h k1 p) (q : RPn (RPd n) h k2 p) (hk : Pn.bulk (Pd.bulk n) p ≤ 100000000),
    GTri Tryz.prog N 24 [.agg k1.toArray, .agg k2.toArray] h fun v h' => v = .bool true ∧ HS h h'
  | 0, h, k1, k2, p, r, q, hk => zF9 (K := Pd 0) (R := RPd 0) N (fun x hx => nomatch (show Empty from x)) (fun s cs x r => RPd.hs s 0 r) r q (Nat.le_trans (Pn.bulk_parts p).1 hk)
  | n + 1, h, k1, k2, p, r, q, hk => zF9 (K := Pd (n + 1)) (R := RPd (n + 1)) N (fun x hx {h c1 c2} e1 e2 => qH4 N n (p := x) e1 e2 (by have := Pn.kids_bulk (p := p) (x := x) hx; omega)) (fun s cs x r => RPd.hs s (n + 1) r) r q (Nat.le_trans (Pn.bulk_parts p).1 hk)
section
variable {K : Type} {R : GH → List Value → K → Prop}
end
theorem dE : type_of% (And.intro zF (And.intro wS (And.intro wR (And.intro xB rs27)))) := And.intro zF (And.intro wS (And.intro wR (And.intro xB rs27)))
theorem qD9 : type_of% (And.intro zF (And.intro wS (And.intro wR (And.intro xB rs119)))) := And.intro zF (And.intro wS (And.intro wR (And.intro xB rs119)))
theorem dD : type_of% (And.intro zF (And.intro wS (And.intro wR (And.intro xB rs28)))) := And.intro zF (And.intro wS (And.intro wR (And.intro xB rs28)))
theorem qD8 : type_of% (And.intro zF (And.intro wS (And.intro wR (And.intro xB rs121)))) := And.intro zF (And.intro wS (And.intro wR (And.intro xB rs121)))
theorem wU : type_of% (And.intro zF (And.intro wS (And.intro wR (And.intro xB (And.intro uI (And.intro wF rs72)))))) := And.intro zF (And.intro wS (And.intro wR (And.intro xB (And.intro uI (And.intro wF rs72)))))
def gH : (n : Nat) → Pn (Pd n) → Nat
  | 0, _ => 1
  | n + 1, p => 1 + (if p.kd = 3 then (@List.map (Pd (n + 1)) Nat (gH n) p.kids).sum else 0)
theorem qI8 {α : Type} {f g : α → Nat} : ∀ {l : List α}, (∀ x ∈ l, f x ≤ g x) → (l.map f).sum ≤ (l.map g).sum
  | [], _ => by simp
  | x :: l, h => by
    have := qI8 (l := l) (fun y hy => h y (List.mem_cons_of_mem _ hy))
    have := h x (List.mem_cons_self ..)
    simp only [List.map_cons, List.sum_cons]; omega
theorem qB1 : ∀ (n : Nat) (p : Pn (Pd n)), gH n p ≤ Pn.bulk (Pd.bulk n) p
  | 0, p => by
    have h3 : Pn.bulk (Pd.bulk 0) p = p.id.length + p.ky.length + p.pf.length + p.lf.length + p.rt.length + (p.kids.map (Pd.bulk 0)).sum + 10 := rfl
    unfold gH; omega
  | n + 1, p => by
    have h3 : Pn.bulk (Pd.bulk (n + 1)) p = p.id.length + p.ky.length + p.pf.length + p.lf.length + p.rt.length + (p.kids.map (Pd.bulk (n + 1))).sum + 10 := rfl
    have := qI8 (α := Pd (n + 1)) (l := p.kids) (f := gH n) (g := Pd.bulk (n + 1)) (fun x _ => qB1 n x)
    unfold gH
    split <;> omega
theorem zA5 {α : Type} (f : α → Nat) (l : List α) (j : Nat) : ((l.take j).map f).sum ≤ (l.map f).sum := by
  have e : (l.map f).sum = ((l.take j).map f).sum + ((l.drop j).map f).sum := by
    rw [← List.sum_append, ← List.map_append, List.take_append_drop]
  omega
theorem qR3 {α : Type} (f : α → Nat) {l : List α} {j : Nat} {x : α} (h : l[j]? = some x) : ((l.take (j + 1)).map f).sum = ((l.take j).map f).sum + f x := by
  rw [List.take_add_one, h, List.map_append, List.sum_append]
  simp
theorem tQ (p : Pn (Pd 0)) : p.kids = [] := by
  cases hk : p.kids with
  | nil => rfl
  | cons a l => exact nomatch (show Empty from a)
theorem max_if (x y : Int) : (if x < y then y else x) = max x y := by split <;> omega
section
variable {K : Type} {R : GH → List Value → K → Prop}
theorem zG9 (N : Nat) {p : Pn K} (f : K → Nat) (ih : ∀ x ∈ p.kids, ∀ {h c1}, R h c1 x → GTri Tryz.prog N 27 [.agg c1.toArray] h fun v h' => v = .int .i64 (f x : Int) ∧ HS h h') (fR : ∀ {h h'}, HS h h' → ∀ cs x, R h cs x → R h' cs x) (hR : ∀ {h cs x}, R h cs x → cs.all zK = true ∧ cs.length = 10) {h : GH} {cs : List Value} (r : RPn R h cs p) (hb : (p.kids.map f).sum ≤ 1000000000) (hk : p.kids.length ≤ 1000000000) :
    GTri Tryz.prog N 27 [.agg cs.toArray] h fun v h' => v = .int .i64 ((1 + (if p.kd = 3 then (p.kids.map f).sum else 0) : Nat) : Int) ∧ HS h h' := by
  obtain ⟨a1, c1, a2, c2, a3, c3, a4, c4, a5, c5, a6, c6, rfl, r1, r2, r3, r4, r5, r6⟩ := r
  refine zU Tryz.func27 rfl gf27 ok27 (by simp [Tryz.ntmps27]) ?_
  repeat' (first | with_reducible apply qK | ((with_reducible apply qB) <;> try simp only [qN, qC, qE, qG, qD, qA, qF, seval, qQ, qO, qP, dE]))
  refine wP rfl fun k1 h1 m1 s1 f1 n1 => ?_
  simp only [Pn.cs] at m1
  by_cases k3 : p.kd = 3
  case neg =>
    have e3 : (p.kd == 3) = false := by simp [k3]
    rw [if_neg k3]
    refine qJ ?_; repeat' (first | with_reducible apply qK | ((with_reducible first | apply qI | apply qB | apply qR | apply qT | apply qM) <;> try simp only [qN, qC, qE, qG, qD, qA, qF, seval, qQ, qO, qP, dE, qH m1 zS, e3]))
    first | exact s1 | exact ⟨rfl, s1⟩
  have e3 : (p.kd == 3) = true := by simp [k3]
  rw [if_pos k3]
  refine qJ ?_; repeat' (first | (with_reducible first | apply qK | apply qS) | ((with_reducible first | apply qI | apply qB | apply qR) <;> try simp only [qN, qC, qE, qG, qD, qA, qF, seval, qQ, qO, qP, dE, qH m1 zS, qH m1 wO, e3]))
  refine xR [2, 10, 11] (fun (j : Nat) => [(3, .int .i64 ((1 + ((p.kids.take j).map f).sum : Nat) : Int)), (12, .int .i64 (j : Int))]) (fun q j h' => p.kids.length - j = q ∧ j ≤ p.kids.length ∧ HS h1 h') p.kids.length 0 (by simp [lk]) ⟨rfl, by omega, HS.refl _⟩ ?_
  rintro _ j h3 ⟨rfl, hj, s3⟩
  have S3 := s1.trans s3
  by_cases hjl : j < p.kids.length
  case neg =>
    obtain rfl : j = p.kids.length := by omega
    have d0 : decide ((p.kids.length : Int) < (p.kids.length : Int)) = false := decide_eq_false (by omega)
    rw [List.take_length]
    refine qJ ?_; repeat' (first | with_reducible apply qK | ((with_reducible first | apply qI | apply qB | apply qR | apply xT | apply qM) <;> try simp only [qN, qC, qE, qG, qD, qA, qF, seval, qQ, qO, qP, dE, d0]))
    first | exact S3 | exact ⟨rfl, S3⟩
  have d0 : decide ((j : Int) < (p.kids.length : Int)) = true := decide_eq_true (by omega)
  have wj : IntKind.i64.wrap ((j : Int) + 1) = ((j + 1 : Nat) : Int) := by rw [wrap64 (by omega) (by omega)]; omega
  obtain ⟨x, hx⟩ := jP hjl
  obtain ⟨ad, cs5, g1, g2, e1⟩ := RL.at (P := Tryz.prog) (RL.hs S3 (fR S3) r6) Tryz.underlying24 xX hx
  have hc := hR e1
  have t1 := qR3 f hx
  have t2 := zA5 f p.kids (j + 1)
  refine qJ ?_; repeat' (first | (with_reducible first | apply qK | apply qS) | ((with_reducible first | apply qI | apply qB | apply qR | apply qT) <;> try simp only [qN, qC, qE, qG, qD, qA, qF, seval, qQ, qO, qP, dE, d0, g1, gK xX g2]))
  refine xE fun k4 h4 m4 s4 f4 n4 => ?_
  refine qJ ?_; repeat' (first | ((with_reducible apply qI) <;> try simp only [qN, qC, qE, qG, qD, qA, qF, seval, qQ, qO, qP, dE]))
  refine xY m4 xX rfl (by decide) hc.2 rfl hc.1 fun h5 m5 f5 => ?_
  have s35 := s4.upd n4 f5
  have ld := zI (P := Tryz.prog) (t := 26) m5 xX hc.2
  refine qJ ?_; repeat' (first | ((with_reducible first | apply qI | apply qB) <;> try simp only [qN, qC, qE, qG, qD, qA, qF, seval, qQ, qO, qP, dE, ld]))
  refine (ih x (List.mem_of_getElem? hx) (fR s35 _ _ e1)).mono ?_
  rintro _ h6 ⟨rfl, s6⟩
  have w2 : IntKind.i64.wrap (((1 + ((p.kids.take j).map f).sum : Nat) : Int) + (f x : Int)) = ((1 + ((p.kids.take (j + 1)).map f).sum : Nat) : Int) := by rw [wrap64 (by omega) (by omega), t1]; omega
  refine qJ ?_; repeat' (first | ((with_reducible first | apply qI | apply qB) <;> try simp only [qN, qC, qE, qG, qD, qA, qF, seval, qQ, qO, qP, dE, wj, w2]))
  exact ⟨_, j + 1, by omega, (by simp only [List.forall_mem_cons, List.not_mem_nil, false_implies, implies_true, List.map, List.cons_append, List.nil_append, lk, Nat.reduceEqDiff, reduceIte, and_true, true_and]), rfl, by omega, s3.trans (s35.trans s6)⟩
end
theorem qZ5 (N : Nat) : ∀ (n : Nat) {h : GH} {cs : List Value} {p : Pn (Pd n)} (r : RPn (RPd n) h cs p) (hk : Pn.bulk (Pd.bulk n) p ≤ 100000000),
    GTri Tryz.prog N 27 [.agg cs.toArray] h fun v h' => v = .int .i64 (gH n p : Int) ∧ HS h h'
  | 0, h, cs, p, r, hk => by
    have e := zG9 (K := Pd 0) (R := RPd 0) N (fun _ => 0) (fun x hx => nomatch (show Empty from x)) (fun s cs x r => RPd.hs s 0 r) (fun r => r.elim) r (by rw [tQ p]; decide) (Nat.le_trans (Pn.bulk_parts p).1 (by omega))
    refine e.mono ?_
    rintro v h' ⟨rfl, s⟩
    refine ⟨?_, s⟩
    unfold gH
    rw [tQ p]
    simp
  | n + 1, h, cs, p, r, hk => by
    have hb : Pn.bulk (Pd.bulk (n + 1)) p = p.id.length + p.ky.length + p.pf.length + p.lf.length + p.rt.length + (p.kids.map (Pd.bulk (n + 1))).sum + 10 := rfl
    have := qI8 (α := Pd (n + 1)) (l := p.kids) (f := gH n) (g := Pd.bulk (n + 1)) (fun x _ => qB1 n x)
    exact zG9 (K := Pd (n + 1)) (R := RPd (n + 1)) N (gH n) (fun x hx {h c1} e1 => qZ5 N n (p := x) e1 (by have := Pn.kids_bulk (p := p) (x := x) hx; omega)) (fun s cs x r => RPd.hs s (n + 1) r) (fun r => RPd.cells r) r (by omega) (Nat.le_trans (Pn.bulk_parts p).1 (by omega))
section
variable {K : Type} {R : GH → List Value → K → Prop}
theorem c_newest (N : Nat) {p : Pn K} {h : GH} {cs : List Value} (r : RPn R h cs p) : GTri Tryz.prog N 119 [.agg cs.toArray] h fun v h' => v = .int .i64 p.newest ∧ HS h h' := by
  obtain ⟨a1, c1, a2, c2, a3, c3, a4, c4, a5, c5, a6, c6, rfl, r1, r2, r3, r4, r5, r6⟩ := r
  unfold Pn.newest
  refine zU Tryz.func119 rfl gf119 ok119 (by simp [Tryz.ntmps119]) ?_
  repeat' (first | with_reducible apply qK | ((with_reducible apply qB) <;> try simp only [qN, qC, qE, qG, qD, qA, qF, seval, qQ, qO, qP, qD9]))
  refine wP rfl fun k1 h1 m1 s1 f1 n1 => ?_
  simp only [Pn.cs] at m1
  by_cases k1 : p.kd = 1
  · have e1 : (p.kd == 1) = true := by simp [k1]
    rw [if_pos k1]
    refine qJ ?_; repeat' (first | with_reducible apply qK | ((with_reducible first | apply qI | apply qB | apply qR | apply qM) <;> try simp only [qN, qC, qE, qG, qD, qA, qF, seval, qQ, qO, qP, qD9, qH m1 zS, e1]))
    first | exact s1 | exact ⟨rfl, s1⟩
  · have e1 : (p.kd == 1) = false := by simp [k1]
    rw [if_neg k1]
    refine qJ ?_; repeat' (first | with_reducible apply qK | ((with_reducible first | apply qI | apply qB | apply qR | apply qT | apply qM) <;> try simp only [qN, qC, qE, qG, qD, qA, qF, seval, qQ, qO, qP, qD9, qH m1 zS, e1]))
    first | exact s1 | exact ⟨rfl, s1⟩
end
section
variable {K : Type} {R : GH → List Value → K → Prop}
theorem qT9 (N : Nat) {p : Pn K} (f : K → Nat) (ih : ∀ x ∈ p.kids, ∀ {h c1}, R h c1 x → GTri Tryz.prog N 28 [.agg c1.toArray] h fun v h' => v = .int .i64 (f x : Int) ∧ HS h h') (fR : ∀ {h h'}, HS h h' → ∀ cs x, R h cs x → R h' cs x) (hR : ∀ {h cs x}, R h cs x → cs.all zK = true ∧ cs.length = 10) {h : GH} {cs : List Value} (r : RPn R h cs p) (hb : (p.kids.map f).sum ≤ 1000000000) (hk : p.kids.length ≤ 1000000000) :
    GTri Tryz.prog N 28 [.agg cs.toArray] h fun v h' => v = .int .i64 ((1 + (if p.kd = 3 then (p.kids.map f).sum else 0) : Nat) : Int) ∧ HS h h' := by
  obtain ⟨a1, c1, a2, c2, a3, c3, a4, c4, a5, c5, a6, c6, rfl, r1, r2, r3, r4, r5, r6⟩ := r
  refine zU Tryz.func28 rfl gf28 ok28 (by simp [Tryz.ntmps28]) ?_
  repeat' (first | with_reducible apply qK | ((with_reducible apply qB) <;> try simp only [qN, qC, qE, qG, qD, qA, qF, seval, qQ, qO, qP, dD]))
  refine wP rfl fun k1 h1 m1 s1 f1 n1 => ?_
  simp only [Pn.cs] at m1
  by_cases k3 : p.kd = 3
  case neg =>
    have e3 : (p.kd == 3) = false := by simp [k3]
    rw [if_neg k3]
    refine qJ ?_; repeat' (first | with_reducible apply qK | ((with_reducible first | apply qI | apply qB | apply qR | apply qT | apply qM) <;> try simp only [qN, qC, qE, qG, qD, qA, qF, seval, qQ, qO, qP, dD, qH m1 zS, e3]))
    first | exact s1 | exact ⟨rfl, s1⟩
  have e3 : (p.kd == 3) = true := by simp [k3]
  rw [if_pos k3]
  refine qJ ?_; repeat' (first | (with_reducible first | apply qK | apply qS) | ((with_reducible first | apply qI | apply qB | apply qR) <;> try simp only [qN, qC, qE, qG, qD, qA, qF, seval, qQ, qO, qP, dD, qH m1 zS, qH m1 wO, e3]))
  refine xR [2, 10, 11] (fun (j : Nat) => [(3, .int .i64 ((1 + ((p.kids.take j).map f).sum : Nat) : Int)), (12, .int .i64 (j : Int))]) (fun q j h' => p.kids.length - j = q ∧ j ≤ p.kids.length ∧ HS h1 h') p.kids.length 0 (by simp [lk]) ⟨rfl, by omega, HS.refl _⟩ ?_
  rintro _ j h3 ⟨rfl, hj, s3⟩
  have S3 := s1.trans s3
  by_cases hjl : j < p.kids.length
  case neg =>
    obtain rfl : j = p.kids.length := by omega
    have d0 : decide ((p.kids.length : Int) < (p.kids.length : Int)) = false := decide_eq_false (by omega)
    rw [List.take_length]
    refine qJ ?_; repeat' (first | with_reducible apply qK | ((with_reducible first | apply qI | apply qB | apply qR | apply xT | apply qM) <;> try simp only [qN, qC, qE, qG, qD, qA, qF, seval, qQ, qO, qP, dD, d0]))
    first | exact S3 | exact ⟨rfl, S3⟩
  have d0 : decide ((j : Int) < (p.kids.length : Int)) = true := decide_eq_true (by omega)
  have wj : IntKind.i64.wrap ((j : Int) + 1) = ((j + 1 : Nat) : Int) := by rw [wrap64 (by omega) (by omega)]; omega
  obtain ⟨x, hx⟩ := jP hjl
  obtain ⟨ad, cs5, g1, g2, e1⟩ := RL.at (P := Tryz.prog) (RL.hs S3 (fR S3) r6) Tryz.underlying24 xX hx
  have hc := hR e1
  have t1 := qR3 f hx
  have t2 := zA5 f p.kids (j + 1)
  refine qJ ?_; repeat' (first | (with_reducible first | apply qK | apply qS) | ((with_reducible first | apply qI | apply qB | apply qR | apply qT) <;> try simp only [qN, qC, qE, qG, qD, qA, qF, seval, qQ, qO, qP, dD, d0, g1, gK xX g2]))
  refine xE fun k4 h4 m4 s4 f4 n4 => ?_
  refine qJ ?_; repeat' (first | ((with_reducible apply qI) <;> try simp only [qN, qC, qE, qG, qD, qA, qF, seval, qQ, qO, qP, dD]))
  refine xY m4 xX rfl (by decide) hc.2 rfl hc.1 fun h5 m5 f5 => ?_
  have s35 := s4.upd n4 f5
  have ld := zI (P := Tryz.prog) (t := 26) m5 xX hc.2
  refine qJ ?_; repeat' (first | ((with_reducible first | apply qI | apply qB) <;> try simp only [qN, qC, qE, qG, qD, qA, qF, seval, qQ, qO, qP, dD, ld]))
  refine (ih x (List.mem_of_getElem? hx) (fR s35 _ _ e1)).mono ?_
  rintro _ h6 ⟨rfl, s6⟩
  have w2 : IntKind.i64.wrap (((1 + ((p.kids.take j).map f).sum : Nat) : Int) + (f x : Int)) = ((1 + ((p.kids.take (j + 1)).map f).sum : Nat) : Int) := by rw [wrap64 (by omega) (by omega), t1]; omega
  refine qJ ?_; repeat' (first | ((with_reducible first | apply qI | apply qB) <;> try simp only [qN, qC, qE, qG, qD, qA, qF, seval, qQ, qO, qP, dD, wj, w2]))
  exact ⟨_, j + 1, by omega, (by simp only [List.forall_mem_cons, List.not_mem_nil, false_implies, implies_true, List.map, List.cons_append, List.nil_append, lk, Nat.reduceEqDiff, reduceIte, and_true, true_and]), rfl, by omega, s3.trans (s35.trans s6)⟩
end
theorem qN8 (N : Nat) : ∀ (n : Nat) {h : GH} {cs : List Value} {p : Pn (Pd n)} (r : RPn (RPd n) h cs p) (hk : Pn.bulk (Pd.bulk n) p ≤ 100000000),
    GTri Tryz.prog N 28 [.agg cs.toArray] h fun v h' => v = .int .i64 (gH n p : Int) ∧ HS h h'
  | 0, h, cs, p, r, hk => by
    have e := qT9 (K := Pd 0) (R := RPd 0) N (fun _ => 0) (fun x hx => nomatch (show Empty from x)) (fun s cs x r => RPd.hs s 0 r) (fun r => r.elim) r (by rw [tQ p]; decide) (Nat.le_trans (Pn.bulk_parts p).1 (by omega))
    refine e.mono ?_
    rintro v h' ⟨rfl, s⟩
    refine ⟨?_, s⟩
    unfold gH
    rw [tQ p]
    simp
  | n + 1, h, cs, p, r, hk => by
    have hb : Pn.bulk (Pd.bulk (n + 1)) p = p.id.length + p.ky.length + p.pf.length + p.lf.length + p.rt.length + (p.kids.map (Pd.bulk (n + 1))).sum + 10 := rfl
    have := qI8 (α := Pd (n + 1)) (l := p.kids) (f := gH n) (g := Pd.bulk (n + 1)) (fun x _ => qB1 n x)
    exact qT9 (K := Pd (n + 1)) (R := RPd (n + 1)) N (gH n) (fun x hx {h c1} e1 => qN8 N n (p := x) e1 (by have := Pn.kids_bulk (p := p) (x := x) hx; omega)) (fun s cs x r => RPd.hs s (n + 1) r) (fun r => RPd.cells r) r (by omega) (Nat.le_trans (Pn.bulk_parts p).1 (by omega))
section
variable {K : Type} {R : GH → List Value → K → Prop}
theorem qT7 (N : Nat) {p : Pn K} {h : GH} {cs : List Value} (r : RPn R h cs p) : GTri Tryz.prog N 121 [.agg cs.toArray] h fun v h' => v = .int .i64 p.newest ∧ HS h h' := by
  obtain ⟨a1, c1, a2, c2, a3, c3, a4, c4, a5, c5, a6, c6, rfl, r1, r2, r3, r4, r5, r6⟩ := r
  unfold Pn.newest
  refine zU Tryz.func121 rfl gf121 ok121 (by simp [Tryz.ntmps121]) ?_
  repeat' (first | with_reducible apply qK | ((with_reducible apply qB) <;> try simp only [qN, qC, qE, qG, qD, qA, qF, seval, qQ, qO, qP, qD8]))
  refine wP rfl fun k1 h1 m1 s1 f1 n1 => ?_
  simp only [Pn.cs] at m1
  by_cases k1 : p.kd = 1
  · have e1 : (p.kd == 1) = true := by simp [k1]
    rw [if_pos k1]
    refine qJ ?_; repeat' (first | with_reducible apply qK | ((with_reducible first | apply qI | apply qB | apply qR | apply qM) <;> try simp only [qN, qC, qE, qG, qD, qA, qF, seval, qQ, qO, qP, qD8, qH m1 zS, e1]))
    first | exact s1 | exact ⟨rfl, s1⟩
  · have e1 : (p.kd == 1) = false := by simp [k1]
    rw [if_neg k1]
    refine qJ ?_; repeat' (first | with_reducible apply qK | ((with_reducible first | apply qI | apply qB | apply qR | apply qT | apply qM) <;> try simp only [qN, qC, qE, qG, qD, qA, qF, seval, qQ, qO, qP, qD8, qH m1 zS, e1]))
    first | exact s1 | exact ⟨rfl, s1⟩
end
theorem tP {K : Type} {p : Pn K} {size : Int} (h : p.right size = true) (h3 : p.kd = 3) : ∃ a b, p.kids = [a, b] := by
  unfold Pn.right at h
  rw [if_neg (by omega), if_neg (by omega), if_neg (by omega), if_pos h3] at h
  simp only [Bool.and_eq_true, beq_iff_eq] at h
  have h2 : p.kids.length = 2 := by omega
  match p.kids, h2 with
  | [a, b], _ => exact ⟨a, b, rfl⟩
theorem c_may (N : Nat) (size : Int) : ∀ (n : Nat) {h : GH} {cs : List Value} {p : Pn (Pd n)} (r : RPn (RPd n) h cs p) (hk : Pn.bulk (Pd.bulk n) p ≤ 100000000),
    GTri Tryz.prog N 72 [.int .i64 size, .agg cs.toArray] h fun v h' => v = .bool (wY size n p) ∧ HS h h' := by
  intro n
  induction n with
  | zero =>
    intro h cs p r hk
    have hbp := Pn.bulk_parts p
    have r0 := r
    obtain ⟨a1, c1, a2, c2, a3, c3, a4, c4, a5, c5, a6, c6, rfl, r1, r2, r3, r4, r5, r6⟩ := r
    unfold wY
    refine zU Tryz.func72 rfl gf72 ok72 (by simp [Tryz.ntmps72]) ?_
    repeat' (first | with_reducible apply qK | ((with_reducible apply qB) <;> try simp only [qN, qC, qE, qG, qD, qA, qF, seval, qQ, qO, qP, wU]))
    refine wP rfl fun k1 h1 m1 s1 f1 n1 => ?_
    have ld := zI (P := Tryz.prog) (t := 26) m1 xX rfl
    refine qJ ?_; repeat' (first | with_reducible apply qK | ((with_reducible first | apply qI | apply qB) <;> try simp only [qN, qC, qE, qG, qD, qA, qF, seval, qQ, qO, qP, wU, ld]))
    refine (zP9 N (r0.hs s1 (fun cs x r => RPd.hs s1 0 r)) (fun s cs x r => RPd.hs s 0 r) size (by omega)).mono ?_
    rintro _ h2 ⟨rfl, s2⟩
    have S2 := s1.trans s2
    have m2 := s2 _ _ m1
    simp only [Pn.cs] at m2
    cases hr : p.right size
    case false =>
      refine qJ ?_; repeat' (first | with_reducible apply qK | ((with_reducible first | apply qI | apply qB | apply qR | apply qM) <;> try simp only [qN, qC, qE, qG, qD, qA, qF, seval, qQ, qO, qP, wU]))
      first | exact S2 | exact ⟨by simp, S2⟩
    by_cases k3 : p.kd = 3
    · obtain ⟨a, b, e⟩ := tP hr k3
      exact nomatch (show Empty from a)
    have e3 : (p.kd == 3) = false := by simp [k3]
    have e3' : (p.kd != 3) = true := by simp [k3]
    refine qJ ?_; repeat' (first | with_reducible apply qK | ((with_reducible first | apply qI | apply qB | apply qR | apply qT | apply qM) <;> try simp only [qN, qC, qE, qG, qD, qA, qF, seval, qQ, qO, qP, wU, qH m2 zS, e3']))
    first | exact S2 | exact ⟨by simp [e3], S2⟩
  | succ n ih =>
    intro h cs p r hk
    have hbp := Pn.bulk_parts p
    have r0 := r
    obtain ⟨a1, c1, a2, c2, a3, c3, a4, c4, a5, c5, a6, c6, rfl, r1, r2, r3, r4, r5, r6⟩ := r
    generalize hmv : wY size (n + 1) p = mv
    unfold wY at hmv
    refine zU Tryz.func72 rfl gf72 ok72 (by simp [Tryz.ntmps72]) ?_
    repeat' (first | with_reducible apply qK | ((with_reducible apply qB) <;> try simp only [qN, qC, qE, qG, qD, qA, qF, seval, qQ, qO, qP, wU]))
    refine wP rfl fun k1 h1 m1 s1 f1 n1 => ?_
    have ld := zI (P := Tryz.prog) (t := 26) m1 xX rfl
    refine qJ ?_; repeat' (first | with_reducible apply qK | ((with_reducible first | apply qI | apply qB) <;> try simp only [qN, qC, qE, qG, qD, qA, qF, seval, qQ, qO, qP, wU, ld]))
    refine (zP9 N (r0.hs s1 (fun cs x r => RPd.hs s1 (n + 1) r)) (fun s cs x r => RPd.hs s (n + 1) r) size (by omega)).mono ?_
    rintro _ h2 ⟨rfl, s2⟩
    have S2 := s1.trans s2
    have m2 := s2 _ _ m1
    simp only [Pn.cs] at m2
    cases hr : p.right size
    case false =>
      rw [hr, Bool.false_and] at hmv
      refine qJ ?_; repeat' (first | with_reducible apply qK | ((with_reducible first | apply qI | apply qB | apply qR | apply qM) <;> try simp only [qN, qC, qE, qG, qD, qA, qF, seval, qQ, qO, qP, wU]))
      first | exact S2 | exact ⟨by rw [← hmv], S2⟩ | (subst hmv; exact S2)
    rw [hr, Bool.true_and] at hmv
    by_cases k3 : p.kd = 3
    case neg =>
      have e3 : (p.kd == 3) = false := by simp [k3]
      have e3' : (p.kd != 3) = true := by simp [k3]
      rw [e3, Bool.not_false, Bool.true_or] at hmv
      refine qJ ?_; repeat' (first | with_reducible apply qK | ((with_reducible first | apply qI | apply qB | apply qR | apply qT | apply qM) <;> try simp only [qN, qC, qE, qG, qD, qA, qF, seval, qQ, qO, qP, wU, qH m2 zS, e3']))
      first | exact S2 | exact ⟨by rw [← hmv], S2⟩ | (subst hmv; exact S2)
    have e3 : (p.kd == 3) = true := by simp [k3]
    have e3' : (p.kd != 3) = false := by simp [k3]
    obtain ⟨a, b, hkids⟩ := tP hr k3
    rw [e3, Bool.not_true, Bool.false_or, hkids] at hmv
    simp only at hmv
    have fk : p.frk = true := by rcases p.kinds hr with q | q | q <;> first | omega | exact q.2
    have fk := p.frk_ok fk
    obtain ⟨dp, hdp⟩ : ∃ w : Nat, p.dp = (w : Int) := ⟨p.dp.toNat, by omega⟩
    have hkl : p.kids.length = 2 := by rw [hkids]; rfl
    have r6' := r6
    rw [hkl] at r6' m2
    refine qJ ?_; repeat' (first | (with_reducible first | apply qK | apply qS) | ((with_reducible first | apply qI | apply qB | apply qR | apply qT) <;> try simp only [qN, qC, qE, qG, qD, qA, qF, seval, qQ, qO, qP, wU, qH m2 zS, qH m2 wO, e3']))
    refine xR [0, 3, 18, 19] (fun (s : Nat × Int) => [(5, .int .i64 s.2), (20, .int .i64 (s.1 : Int))]) (fun q s h' => 2 - s.1 = q ∧ HS h2 h' ∧ (s.1 = 0 ∧ s.2 = 0 ∨ s.1 = 1 ∧ (kG p 0 (show Pn (Pd n) from a) && wY size n a) = true ∧ s.2 = max 0 (Pn.newest (show Pn (Pd n) from a)) ∨ s.1 = 2 ∧ (kG p 0 (show Pn (Pd n) from a) && wY size n a && (kG p 1 (show Pn (Pd n) from b) && wY size n b)) = true ∧ s.2 = max (max 0 (Pn.newest (show Pn (Pd n) from a))) (Pn.newest (show Pn (Pd n) from b)))) 2 (0, 0) (by simp [lk]) ⟨rfl, HS.refl _, .inl ⟨rfl, rfl⟩⟩ ?_
    rintro _ ⟨j, most⟩ h3 ⟨rfl, s3, hst⟩
    simp only at hst
    have S3 := S2.trans s3
    have m3 := s3 _ _ m2
    by_cases hj2 : j = 2
    · obtain ⟨hA, hM⟩ : (kG p 0 (show Pn (Pd n) from a) && wY size n a && (kG p 1 (show Pn (Pd n) from b) && wY size n b)) = true ∧ most = max (max 0 (Pn.newest (show Pn (Pd n) from a))) (Pn.newest (show Pn (Pd n) from b)) := by
        rcases hst with q | q | q
        · omega
        · omega
        · exact q.2
      subst hj2
      rw [hA, Bool.true_and, ← hM] at hmv
      refine qJ ?_; repeat' (first | with_reducible apply qK | ((with_reducible first | apply qI | apply qB | apply qR | apply xT | apply qM) <;> try simp only [qN, qC, qE, qG, qD, qA, qF, seval, qQ, qO, qP, wU, qH m3 zS]))
      first | exact S3 | exact ⟨by rw [← hmv], S3⟩ | (subst hmv; exact S3)
    have hjl : j < 2 := by omega
    obtain ⟨x, hx, hfail, hsucc⟩ : ∃ x : Pn (Pd n), p.kids[j]? = some x ∧ ((kG p (j : Int) x && wY size n x) = false → mv = false) ∧ ((kG p (j : Int) x && wY size n x) = true → (j + 1 = 0 ∧ max most x.newest = 0 ∨ j + 1 = 1 ∧ (kG p 0 (show Pn (Pd n) from a) && wY size n a) = true ∧ max most x.newest = max 0 (Pn.newest (show Pn (Pd n) from a)) ∨ j + 1 = 2 ∧ (kG p 0 (show Pn (Pd n) from a) && wY size n a && (kG p 1 (show Pn (Pd n) from b) && wY size n b)) = true ∧ max most x.newest = max (max 0 (Pn.newest (show Pn (Pd n) from a))) (Pn.newest (show Pn (Pd n) from b)))) := by
      rcases hst with ⟨rfl, rfl⟩ | ⟨rfl, q1, q2⟩ | ⟨rfl, _⟩
      · refine ⟨a, by rw [hkids]; rfl, fun q => ?_, fun q => .inr (.inl ⟨rfl, q, rfl⟩)⟩
        rw [← hmv, show (kG p 0 (show Pn (Pd n) from a) && wY size n a) = false from q]; rfl
      · refine ⟨b, by rw [hkids]; rfl, fun q => ?_, fun q => .inr (.inr ⟨rfl, by rw [q1, Bool.true_and]; exact q, by rw [q2]⟩)⟩
        rw [← hmv, show (kG p 1 (show Pn (Pd n) from b) && wY size n b) = false from q, q1]; rfl
      · omega
    have d0 : decide ((j : Int) < 2) = true := decide_eq_true (by omega)
    have wj : IntKind.i64.wrap ((j : Int) + 1) = ((j + 1 : Nat) : Int) := by rw [wrap64 (by omega) (by omega)]; omega
    have hxb := Pn.kids_bulk (p := p) (x := x) (List.mem_of_getElem? hx)
    have hxp := Pn.bulk_parts x
    obtain ⟨ad, cs5, g1, g2, e1⟩ := RL.at (P := Tryz.prog) (RL.hs S3 (fun cs x r => RPd.hs S3 (n + 1) r) r6) Tryz.underlying24 xX hx
    rw [hkl] at g1
    have e1' : RPn (RPd n) h3 cs5 x := e1
    have hc := RPd.cells e1
    refine qJ ?_; repeat' (first | (with_reducible first | apply qK | apply qS) | ((with_reducible first | apply qI | apply qB | apply qR | apply qT) <;> try simp only [qN, qC, qE, qG, qD, qA, qF, seval, qQ, qO, qP, wU, d0, g1, gK xX g2]))
    refine xE fun k4 h4 m4 s4 f4 n4 => ?_
    refine qJ ?_; repeat' (first | ((with_reducible apply qI) <;> try simp only [qN, qC, qE, qG, qD, qA, qF, seval, qQ, qO, qP, wU]))
    refine xY m4 xX rfl (by decide) hc.2 rfl hc.1 fun h5 m5 f5 => ?_
    have s35 := s4.upd n4 f5
    have x5 := e1'.hs s35 (fun cs x r => RPd.hs s35 n r)
    have ld5 := zI (P := Tryz.prog) (t := 26) m5 xX hc.2
    refine qJ ?_; repeat' (first | with_reducible apply qK | ((with_reducible first | apply qI | apply qB) <;> try simp only [qN, qC, qE, qG, qD, qA, qF, seval, qQ, qO, qP, wU, ld5]))
    refine (c_Bits N x5 (by omega)).mono ?_
    rintro _ h6 ⟨s6, a7, c7, rfl, r7⟩
    have s36 := s35.trans s6
    have S6 := S3.trans s36
    have m36 := s36 _ _ m3
    have m56 := s6 _ _ m5
    have ld6 := zI (P := Tryz.prog) (t := 26) m56 xX hc.2
    have hbl : x.bits.length ≤ 100000000 := by
      unfold Pn.bits
      split
      · rw [vV]; omega
      · omega
    have x6 := x5.hs s6 (fun cs x r => RPd.hs s6 n r)
    have x6' := x6
    obtain ⟨z1, y1, z2, y2, z3, y3, z4, y4, z5, y5, z6, y6, ecs5, _⟩ := x6'
    rw [ecs5] at m56
    simp only [Pn.cs] at m56
    simp only at ld6
    have rp6 := r3.hs S6
    have hB := r7
    have ret0 : (kG p (j : Int) x && wY size n x) = false → ∀ {h' : GH}, HS h h' → Value.bool false = Value.bool mv ∧ HS h h' := fun q h' s => ⟨by rw [hfail q], s⟩
    refine qJ ?_; iterate 1 (first | ((with_reducible apply qI) <;> try simp only [qN, qC, qE, qG, qD, qA, qF, seval, qQ, qO, qP, wU]))
    refine qK ?_
    refine GW.mono (Q := fun z e' h' => z = .normal ∧ h6 = h' ∧ lk e' 0 = .int .i64 size ∧ lk e' 3 = .pointer (some ⟨k1, 0, none⟩) ∧ lk e' 5 = .int .i64 most ∧ lk e' 6 = .int .i64 (j : Int) ∧ lk e' 7 = .pointer (some ⟨k4, 0, none⟩) ∧ lk e' 8 = .slice a7 x.bits.length c7 ∧ lk e' 18 = .slice a6 2 c6 ∧ lk e' 19 = .int .i64 2 ∧ lk e' 20 = .int .i64 (j : Int) ∧ lk e' 9 = .bool (x.kd == 1 || (x.kd != 0 && decide (x.dp > p.dp)))) ?_ ?_
    · cases w0 : (x.kd == 1)
      case true =>
        refine qJ ?_; repeat' (first | ((with_reducible first | apply qI | apply qB) <;> try simp only [qN, qC, qE, qG, qD, qA, qF, seval, qQ, qO, qP, wU, w0, qH m36 zS, qH m36 zD, qH m56 zS, ld6, hdp, gPick]))
        all_goals simp only [Bool.true_or]
      cases w1 : (x.kd != 0)
      case false =>
        refine qJ ?_; repeat' (first | ((with_reducible first | apply qI | apply qB) <;> try simp only [qN, qC, qE, qG, qD, qA, qF, seval, qQ, qO, qP, wU, w0, w1, qH m36 zS, qH m36 zD, qH m56 zS, ld6, hdp, gPick]))
        all_goals simp only [Bool.false_and, Bool.false_or]
      refine qJ ?_; repeat' (first | ((with_reducible first | apply qI | apply qB) <;> try simp only [qN, qC, qE, qG, qD, qA, qF, seval, qQ, qO, qP, wU, w0, w1, qH m36 zS, qH m36 zD, qH m56 zS, ld6, hdp, gPick]))
      all_goals try simp only [hdp, Bool.false_or, Bool.true_and]
    rintro _ e' _ ⟨rfl, rfl, q0, q3, q5, q6, q7, q8, q18, q19, q20, q9⟩
    rw [jV]
    refine dH [(0, .int .i64 size), (3, .pointer (some ⟨k1, 0, none⟩)), (5, .int .i64 most), (6, .int .i64 (j : Int)), (7, .pointer (some ⟨k4, 0, none⟩)), (8, .slice a7 x.bits.length c7), (18, .slice a6 2 c6), (19, .int .i64 2), (20, .int .i64 (j : Int)), (9, .bool (x.kd == 1 || (x.kd != 0 && decide (x.dp > p.dp))))] (by simp [q0, q3, q5, q6, q7, q8, q9, q18, q19, q20]) ?_
    clear q0 q3 q5 q6 q7 q8 q9 q18 q19 q20
    cases y0 : (x.kd == 1 || (x.kd != 0 && decide (x.dp > p.dp)))
    case false =>
      refine qJ ?_; repeat' (first | with_reducible apply qK | ((with_reducible first | apply qI | apply qB | apply qR | apply qM) <;> try simp only [qN, qC, qE, qG, qD, qA, qF, seval, qQ, qO, qP, wU, qH m36 zS, qH m36 zD, qH m56 zS, ld6, hdp, gPick]))
      exact ret0 (by unfold kG; rw [y0]; rfl) S6
    cases y1 : tV x.bits p.pf (dp : Int)
    case false =>
      refine qJ ?_; repeat' (first | with_reducible apply qK | ((first | (with_reducible first | apply qI | apply qB | apply qR | apply qM) | ((refine GTri.mono (pT _ _ hB rp6 (by omega) (by omega) _) ?_); rintro _ _ ⟨rfl, hh9⟩; replace hh9 := hh9.symm; subst hh9)) <;> try simp only [qN, qC, qE, qG, qD, qA, qF, seval, qQ, qO, qP, wU, y1, qH m36 zS, qH m36 zD, qH m56 zS, ld6, hdp, gPick]))
      exact ret0 (by unfold kG; rw [y0, hdp, y1]; rfl) S6
    cases y2 : (xA x.bits dp == (j : Int))
    case false =>
      have y2' : (xA x.bits dp != (j : Int)) = true := by simp only [bne, y2, Bool.not_false]
      refine qJ ?_; repeat' (first | with_reducible apply qK | ((first | (with_reducible first | apply qI | apply qB | apply qR | apply qM) | ((refine GTri.mono (pT _ _ hB rp6 (by omega) (by omega) _) ?_); rintro _ _ ⟨rfl, hh9⟩; replace hh9 := hh9.symm; subst hh9) | ((refine GTri.mono (dJ _ _ hB dp (by omega)) ?_); rintro _ _ ⟨rfl, hh9⟩; replace hh9 := hh9.symm; subst hh9)) <;> try simp only [qN, qC, qE, qG, qD, qA, qF, seval, qQ, qO, qP, wU, y1, y2', qH m36 zS, qH m36 zD, qH m56 zS, ld6, hdp, gPick]))
      exact ret0 (by unfold kG; rw [y0, hdp, y1, Int.toNat_natCast, y2]; rfl) S6
    have y2' : (xA x.bits dp != (j : Int)) = false := by simp only [bne, y2, Bool.not_true]
    have hkb : kG p (j : Int) x = true := by unfold kG; rw [y0, hdp, y1, Int.toNat_natCast, y2]; rfl
    refine qJ ?_; repeat' (first | with_reducible apply qK | ((first | (with_reducible first | apply qI | apply qB) | ((refine GTri.mono (pT _ _ hB rp6 (by omega) (by omega) _) ?_); rintro _ _ ⟨rfl, hh9⟩; replace hh9 := hh9.symm; subst hh9) | ((refine GTri.mono (dJ _ _ hB dp (by omega)) ?_); rintro _ _ ⟨rfl, hh9⟩; replace hh9 := hh9.symm; subst hh9)) <;> try simp only [qN, qC, qE, qG, qD, qA, qF, seval, qQ, qO, qP, wU, y1, y2', qH m36 zS, qH m36 zD, qH m56 zS, ld6, hdp, gPick]))
    refine (ih x6 (by omega)).mono ?_
    rintro _ h7 ⟨rfl, s7⟩
    have S7 := S6.trans s7
    cases hmx : wY size n x
    case false =>
      refine qJ ?_; repeat' (first | with_reducible apply qK | ((with_reducible first | apply qI | apply qB | apply qR | apply qM) <;> try simp only [qN, qC, qE, qG, qD, qA, qF, seval, qQ, qO, qP, wU, gPick]))
      exact ret0 (by rw [hmx, Bool.and_false]) S7
    have ld7 := yO s7 ld6
    refine qJ ?_; repeat' (first | ((with_reducible first | apply qI | apply qB | apply qR | apply qT) <;> try simp only [qN, qC, qE, qG, qD, qA, qF, seval, qQ, qO, qP, wU, gPick, ld7]))
    refine (c_newest N (x6.hs s7 (fun cs x r => RPd.hs s7 n r))).mono ?_
    rintro _ h8 ⟨rfl, s8⟩
    refine qJ ?_; repeat' (first | ((with_reducible first | apply qI | apply qB) <;> try simp only [qN, qC, qE, qG, qD, qA, qF, seval, qQ, qO, qP, wU, max_if, wj]))
    exact ⟨_, (j + 1, max most x.newest), by simp only; omega, (by simp only [List.forall_mem_cons, List.not_mem_nil, false_implies, implies_true, List.map, List.cons_append, List.nil_append, lk, Nat.reduceEqDiff, reduceIte, and_true, true_and]), rfl, s3.trans (s36.trans (s7.trans s8)), hsucc (by rw [hkb, hmx]; rfl)⟩
end Go.Gh
