/- Parts of this claim's proof, 12. No statement of the claim stands here. -/
import Derived.Test.YtkifgpomablpiaaGreatDoorP11
namespace Go.Gh
open Go Go.Proofs Go.RowKit
set_option linter.unusedVariables false
set_option linter.unusedSimpArgs false
set_option maxRecDepth 100000
set_option maxHeartbeats 4000000
theorem qB6 : type_of% (And.intro zP (And.intro vW (And.intro xS (And.intro jG (And.intro wO rs126))))) := And.intro zP (And.intro vW (And.intro xS (And.intro jG (And.intro wO rs126))))
theorem lK : type_of% (And.intro uF (And.intro qD2 (And.intro vW (And.intro xS (And.intro jG rs84))))) := And.intro uF (And.intro qD2 (And.intro vW (And.intro xS (And.intro jG rs84))))
theorem wA : type_of% (And.intro uF (And.intro zP (And.intro yB (And.intro qD2 (And.intro vW (And.intro xS (And.intro jG (And.intro jS (And.intro wO rs83))))))))) := And.intro uF (And.intro zP (And.intro yB (And.intro qD2 (And.intro vW (And.intro xS (And.intro jG (And.intro jS (And.intro wO rs83))))))))
def xT : Nat → List (Nat × List Nat) × List Nat
  | 8 => ([(0, []), (1, []), (2, []), (3, []), (4, []), (5, []), (6, []), (9, []), (7, [0]), (8, []), (10, []), (11, []), (12, [])], [0, 0, 2, 6, 14, 30, 14, 126, 254, 1, 767, 2047, 4095])
  | _ => ([], [])
def jI (k : Nat) (h : GH) : GH := fun i => if i = k then none else h i
theorem mP (k : Nat) (h : GH) : jI k h k = none := by unfold jI; rw [if_pos rfl]
theorem dF {k : Nat} (h : GH) : ∀ i, i ≠ k → jI k h i = h i := fun i n => by unfold jI; rw [if_neg n]
theorem dG (k : Nat) (h : GH) : HS (jI k h) h := fun i B e => by
  unfold jI at e
  split at e
  · cases e
  · exact e
theorem sF {k : Nat} {a h : GH} (s : HS a h) (n : a k = none) : HS a (jI k h) := fun i B e => by
  rw [dF h i (fun q => by rw [q, n] at e; cases e)]
  exact s i B e
theorem qA1 {P : Program} {h : GH} {k o : Nat} {B : GB} {t n : Nat} {b : Bool} {v : Value} {K : Value → GH → Prop} (hk : h k = some B) (hw : B.wr = true) (hz : vL P t = some (b, n)) (hn : n ≠ 0) (hl : (vcells v).length = n) (hB : o + n ≤ B.cells.length) (hc : (vcells v).all zF = true)
    (g : ∀ h', h' k = some { B with cells := yR B.cells o (vcells v) } → (∀ j, j ≠ k → h' j = h j) → K U h') : qP9 (fZ P t h (.pointer (some ⟨k, o, none⟩)) v) K := by
  refine ⟨vX h k { B with cells := yR B.cells o (vcells v) }, ?_, g _ (zK _ _ _) (fun j hj => zS _ _ hj)⟩
  have hs : v.cells.size = n := by rw [← hl, ← vP]; simp
  simp only [fZ, hz]
  rw [if_pos ⟨hs, by rw [vP]; exact hc⟩]
  simp only [kP, hk, vP]
  rw [if_neg (by omega), if_pos ⟨hw, by omega⟩]
theorem HS.of2 {a b c d : GH} (_ : HS a d) (x : HS a b) (y : HS b c) : HS a c := x.trans y
section
variable {h0 h h' : GH} {k : Nat} {v : Value} {cs : List Value} {M : List Nd}
theorem c_below (N : Nat) {cn : List Value} {nd : Nd} (r : RNd h cn nd) {a : Option Addr} {c : Nat} {row : List UInt8} (rr : RB h (.slice a row.length c) row) (hd : nd.dp ≤ 1000000) : GTri Tryz.prog N 126 [.agg cn.toArray, .slice a row.length c] h fun u h' => HS h h' ∧ u = .int .i64 (kA row nd : Int) := by
  obtain ⟨a1, c1, a2, c2, a3, c3, a4, c4, rfl, r1, r2, r3, r4⟩ := r
  have e : ∀ b : Bool, (xP row nd.dp == 1) = b → (kA row nd) = if b = true then nd.r else nd.l := fun b hb => by
    unfold kA
    subst hb
    simp only [beq_iff_eq]
  refine xH Tryz.func126 rfl gf126 ok126 (by simp [Tryz.ntmps126]) ?_
  repeat' (first | with_reducible apply qK | (with_reducible apply qB <;> try simp only [qM, qC, qF, qH, qD, qA, qG, reduceIte, seval, Int.cast_ofNat_Int, qN, qO, qB6]))
  refine yY rfl fun k1 h1 m1 s1 f1 n1 => ?_
  simp only [Nd.cs] at m1
  cases hb : (xP row nd.dp == 1)
  · rw [e _ hb]
    refine qJ ?_; repeat' (first | with_reducible apply qK | ((first | (with_reducible apply qI) | (with_reducible first | apply qB | apply qS | apply qR | apply qP) | ((refine GTri.mono (gR _ _ (rr.hs s1) nd.dp (by omega)) ?_); rintro _ _ ⟨rfl, hh9⟩; replace hh9 := hh9.symm; subst hh9)) <;> try simp only [qM, qC, qF, qH, qD, qA, qG, reduceIte, seval, Int.cast_ofNat_Int, qN, qO, qB6, qE m1 zT, hb]))
    exact s1
  · rw [e _ hb]
    refine qJ ?_; repeat' (first | with_reducible apply qK | ((first | (with_reducible apply qI) | (with_reducible first | apply qB | apply qS | apply qP) | ((refine GTri.mono (gR _ _ (rr.hs s1) nd.dp (by omega)) ?_); rintro _ _ ⟨rfl, hh9⟩; replace hh9 := hh9.symm; subst hh9)) <;> try simp only [qM, qC, qF, qH, qD, qA, qG, reduceIte, seval, Int.cast_ofNat_Int, qN, qO, qB6, qE m1 zT, hb]))
    exact s1
def rM (f : Value) (at_ : Int) (x : Nd) (i k p s : Value) (same : Bool) : List Value := [f, .int .i64 at_, .bool x.lf, i, k, .int .i64 x.si, .int .i64 x.dp, p, .int .i64 x.nw, .int .i64 x.l, .int .i64 x.r, s, .bool same]
def qF2 (n : Nat) (at_ : Int) (same : Bool) : Nat := if (!(at_ == -1) && !same) = true then n + 2 else n + 1
theorem c_needs (N : Nat) (h : GH) {a : Option Addr} {n c : Nat} (hn : n ≤ 1000000) (at_ : Int) (x : Nd) (i k p s : Value) (hc : [i, k, p, s].all zF = true) (same : Bool) : GTri Tryz.prog N 84 [.agg (rM (.slice a n c) at_ x i k p s same).toArray] h fun u h' => HS h h' ∧ u = .int .i64 (qF2 n at_ same : Int) := by
  simp only [List.all_cons, List.all_nil, Bool.and_true, Bool.and_eq_true] at hc
  obtain ⟨c1, c2, c3, c4⟩ := hc
  have w1 : IntKind.i64.wrap ((n : Int) + 1) = ((n + 1 : Nat) : Int) := by rw [wrap64 (by omega) (by omega)]; omega
  have w2 : IntKind.i64.wrap (((n + 1 : Nat) : Int) + 1) = ((n + 2 : Nat) : Int) := by rw [wrap64 (by omega) (by omega)]; omega
  unfold qF2
  refine xH Tryz.func84 rfl gf84 ok84 (by simp [Tryz.ntmps84]) ?_
  repeat' (first | with_reducible apply qK | (with_reducible apply qB <;> try simp only [qM, qC, qF, qH, qD, qA, qG, reduceIte, seval, Int.cast_ofNat_Int, qN, qO, lK]))
  refine yY (by simp [rM, zF] at *; exact ⟨c1, c2, c3, c4⟩) fun k1 h1 m1 s1 f1 n1 => ?_
  simp only [rM] at m1
  cases hb : (at_ == -1)
  case true =>
    have hb2 : (at_ != -1) = false := by unfold bne; rw [hb]; rfl
    refine qJ ?_; repeat' (first | with_reducible apply qK | ((first | (with_reducible apply qI) | (with_reducible first | apply qB | apply qS | apply qR | apply qP)) <;> try simp only [qM, qC, qF, qH, qD, qA, qG, reduceIte, seval, Int.cast_ofNat_Int, qN, qO, lK, qE m1 zT, qE m1 rY, qE m1 uG, w1, w2, hb, hb2]))
    exact ⟨s1, by simp⟩
  have hb2 : (at_ != -1) = true := by unfold bne; rw [hb]; rfl
  cases same
  · refine qJ ?_; repeat' (first | with_reducible apply qK | ((first | (with_reducible apply qI) | (with_reducible first | apply qB | apply qS | apply qP)) <;> try simp only [qM, qC, qF, qH, qD, qA, qG, reduceIte, seval, Int.cast_ofNat_Int, qN, qO, lK, qE m1 zT, qE m1 rY, qE m1 uG, w1, w2, hb, hb2]))
    exact s1
  · refine qJ ?_; repeat' (first | with_reducible apply qK | ((first | (with_reducible apply qI) | (with_reducible first | apply qB | apply qS | apply qR | apply qP)) <;> try simp only [qM, qC, qF, qH, qD, qA, qG, reduceIte, seval, Int.cast_ofNat_Int, qN, qO, lK, qE m1 zT, qE m1 rY, qE m1 uG, w1, w2, hb, hb2]))
    exact s1
theorem c_findN (N : Nat) (x : AA h0 h k v cs M) {a : Option Addr} {c : Nat} {id : List UInt8} (ri : RB h (.slice a id.length c) id) : GTri Tryz.prog N 83 [.pointer (some ⟨k, 0, none⟩), .int .i64 (-1), .slice a id.length c] h fun u h' => HS h h' ∧ u = .agg (rM (.slice none 0 0) (-1) ⟨false, [], [], 0, 0, [], 0, 0, 0, []⟩ (.slice none 0 0) (.slice none 0 0) (.slice none 0 0) (.slice none 0 0) false).toArray := by
  refine xH Tryz.func83 rfl gf83 ok83 (by simp [Tryz.ntmps83]) ?_
  repeat' (first | with_reducible apply qK | (with_reducible apply qB <;> try simp only [qM, qC, qF, qH, qD, qA, qG, reduceIte, seval, Int.cast_ofNat_Int, qN, qO, qL, qY, zA, zB, wA, xT]))
  refine xG fun k6 h6 m6 s6 f6 n6 => ?_
  refine qJ ?_; repeat' (first | with_reducible apply qK | ((first | (with_reducible apply qI) | with_reducible apply qB) <;> try simp only [qM, qC, qF, qH, qD, qA, qG, reduceIte, seval, Int.cast_ofNat_Int, qN, qO, qL, qY, zA, zB, wA, xT]))
  refine (lQ N h6 (ri.hs s6) rfl).mono ?_
  rintro _ h7 ⟨s7, ar, cr, rfl, rr, _⟩
  refine qJ ?_; repeat' (first | with_reducible apply qK | ((first | (with_reducible apply qI) | with_reducible apply qB) <;> try simp only [qM, qC, qF, qH, qD, qA, qG, reduceIte, seval, Int.cast_ofNat_Int, qN, qO, qL, qY, zA, zB, wA, xT, xF, xZ, vH, Shape.pl, List.all_cons, List.all_nil, zF]))
  refine xG fun k8 h8 m8 s8 f8 n8 => ?_
  refine qJ ?_; repeat' (first | ((with_reducible apply qI) <;> try simp only [qM, qC, qF, qH, qD, qA, qG, reduceIte, seval, Int.cast_ofNat_Int, qN, qO, qL, qY, zA, zB, wA, xT]))
  refine wC m8 fP rfl (by decide) rfl rfl rfl fun h9 m9 f9 => ?_
  simp only [vcells] at m9
  have n8h : h k8 = none := (s6.trans s7).none_of n8
  have k68 : k6 ≠ k8 := yM (s7 _ _ m6) n8
  have S9 : HS h h9 := ((s6.trans s7).trans s8).upd n8h f9
  have m69 : h9 k6 = some ⟨[.slice none 0 0, .int .i64 0, .bool false, .slice none 0 0, .slice none 0 0, .int .i64 0, .int .i64 0, .slice none 0 0, .int .i64 0, .int .i64 0, .int .i64 0, .slice none 0 0, .bool false], 0, true, false⟩ := by rw [f9 k6 k68]; exact s8 _ _ (s7 _ _ m6)
  refine qJ ?_; repeat' (first | with_reducible apply qQ | ((with_reducible apply qI) <;> try simp only [qM, qC, qF, qH, qD, qA, qG, reduceIte, seval, Int.cast_ofNat_Int, qN, qO, qL, qY, zA, zB, wA, xT]))
  refine xL [0, 2, 6, 7, 8] (fun (j : Nat) => []) (fun q j h' => j = 0 ∧ q = 0 ∧ h' = h9) 0 0 (by simp [lk]) ⟨rfl, rfl, rfl⟩ ?_
  rintro _ _ _ ⟨rfl, rfl, rfl⟩
  refine qJ ?_; repeat' (first | (with_reducible first | apply qK | apply qQ) | ((first | (with_reducible apply qI) | with_reducible apply qB) <;> try simp only [qM, qC, qF, qH, qD, qA, qG, reduceIte, seval, Int.cast_ofNat_Int, qN, qO, qL, qY, zA, zB, wA, xT, qE m9 zT]))
  refine (zI9 N (x.hs S9) (.inl (by omega))).mono ?_
  rintro _ h10 ⟨s10, rfl⟩
  simp only [zN]
  refine qJ ?_; repeat' (first | ((with_reducible apply qI) <;> try simp only [qM, qC, qF, qH, qD, qA, qG, reduceIte, seval, Int.cast_ofNat_Int, qN, qO, qL, qY, zA, zB, wA, xT]))
  refine xG fun k11 h11 m11 s11 f11 n11 => ?_
  refine qJ ?_; repeat' (first | ((with_reducible apply qI) <;> try simp only [qM, qC, qF, qH, qD, qA, qG, reduceIte, seval, Int.cast_ofNat_Int, qN, qO, qL, qY, zA, zB, wA, xT]))
  refine wC m11 wF rfl (by decide) rfl rfl rfl fun h12 m12 f12 => ?_
  have S12 := s10.trans (s11.upd n11 f12)
  have m8b := S12 _ _ m9
  refine qJ ?_; repeat' (first | with_reducible apply qK | ((first | (with_reducible apply qI) | (with_reducible first | apply qB | apply qS)) <;> try simp only [qM, qC, qF, qH, qD, qA, qG, reduceIte, seval, Int.cast_ofNat_Int, qN, qO, qL, qY, zA, zB, wA, xT, qE m8b zT]))
  refine zW m8b zT rfl (by simp) rfl rfl fun h13 m13 f13 => ?_
  simp only [List.set_cons_zero, List.set_cons_succ] at m13
  have m613 := (f13 k6 k68).trans (S12 _ _ m69)
  have ld := zU (P := Tryz.prog) (t := 136) m13 fP rfl
  refine qJ ?_; repeat' (first | with_reducible apply qK | ((first | (with_reducible apply qI) | with_reducible apply qB) <;> try simp only [qM, qC, qF, qH, qD, qA, qG, reduceIte, seval, Int.cast_ofNat_Int, qN, qO, qL, qY, zA, zB, wA, xT, ld]))
  refine wC m613 fP rfl (by decide) rfl rfl rfl fun h14 m14 f14 => ?_
  simp only [vcells] at m14
  have ld2 := zU (P := Tryz.prog) (t := 136) m14 fP rfl
  refine qJ ?_; repeat' (first | ((first | (with_reducible apply qI) | with_reducible apply qP) <;> try simp only [qM, qC, qF, qH, qD, qA, qG, reduceIte, seval, Int.cast_ofNat_Int, qN, qO, qL, qY, zA, zB, wA, xT, fA, ld2]))
  exact ⟨((S9.trans S12).upd n8h f13).upd n6 f14, rfl⟩
theorem c_find (N : Nat) (x : AA h0 h k v cs M) {a : Option Addr} {c : Nat} {id : List UInt8} (ri : RB h (.slice a id.length c) id) (hid : id.length ≤ 140737488355328) {i e : Nat} {fs : List Nat} {nd : Nd} (w : Way M (qU id) i fs e nd) (hfs : fs.length ≤ 3000) :
    GTri Tryz.prog N 83 [.pointer (some ⟨k, 0, none⟩), .int .i64 (i : Int), .slice a id.length c] h fun u h' => HS h h' ∧ ∃ af cf a1 c1 a2 c2 a3 c3 a4 c4, u = .agg (rM (.slice af fs.length cf) (e : Int) nd (.slice a1 nd.id.length c1) (.slice a2 nd.ky.length c2) (.slice a3 nd.pf.length c3) (.slice a4 nd.hs.length c4) (nd.lf && nd.id == id)).toArray ∧
      (∃ cells, OWNC 10 h h' (.slice af fs.length cf) fs.length cells ∧ cells.all uT = true ∧ ∀ (t : Nat) y, (fs.map (gE M))[t]? = some y → RNd h' ((cells.drop (t * 10)).take 10) y) ∧ RNd h' (nd.cs (.slice a1 nd.id.length c1) (.slice a2 nd.ky.length c2) (.slice a3 nd.pf.length c3) (.slice a4 nd.hs.length c4)) nd := by
  obtain ⟨w0, wf⟩ := w.at
  obtain ⟨we, ws⟩ := w.end
  have hkl := vC id
  refine xH Tryz.func83 rfl gf83 ok83 (by simp [Tryz.ntmps83]) ?_
  repeat' (first | with_reducible apply qK | (with_reducible apply qB <;> try simp only [qM, qC, qF, qH, qD, qA, qG, reduceIte, seval, Int.cast_ofNat_Int, qN, qO, qL, qY, zA, zB, wA, xT]))
  refine xG fun k6 h6 m6 s6 f6 n6 => ?_
  refine qJ ?_; repeat' (first | with_reducible apply qK | ((first | (with_reducible apply qI) | with_reducible apply qB) <;> try simp only [qM, qC, qF, qH, qD, qA, qG, reduceIte, seval, Int.cast_ofNat_Int, qN, qO, qL, qY, zA, zB, wA, xT]))
  refine (lQ N h6 (ri.hs s6) rfl).mono ?_
  rintro _ h7 ⟨s7, ar, cr, rfl, rr, _⟩
  refine qJ ?_; repeat' (first | with_reducible apply qK | ((first | (with_reducible apply qI) | with_reducible apply qB) <;> try simp only [qM, qC, qF, qH, qD, qA, qG, reduceIte, seval, Int.cast_ofNat_Int, qN, qO, qL, qY, zA, zB, wA, xT, xF, xZ, vH, Shape.pl, List.all_cons, List.all_nil, zF]))
  refine xG fun k8 h8 m8 s8 f8 n8 => ?_
  refine qJ ?_; repeat' (first | ((with_reducible apply qI) <;> try simp only [qM, qC, qF, qH, qD, qA, qG, reduceIte, seval, Int.cast_ofNat_Int, qN, qO, qL, qY, zA, zB, wA, xT]))
  refine wC m8 fP rfl (by decide) rfl rfl rfl fun h9 m9 f9 => ?_
  simp only [vcells] at m9
  have n8h : h k8 = none := (s6.trans s7).none_of n8
  have k68 : k6 ≠ k8 := yM (s7 _ _ m6) n8
  have S79 : HS h7 h9 := s8.upd n8 f9
  have S9 : HS h h9 := (s6.trans s7).trans S79
  have m69 : h9 k6 = some ⟨[.slice none 0 0, .int .i64 0, .bool false, .slice none 0 0, .slice none 0 0, .int .i64 0, .int .i64 0, .slice none 0 0, .int .i64 0, .int .i64 0, .int .i64 0, .slice none 0 0, .bool false], 0, true, false⟩ := by rw [f9 k6 k68]; exact s8 _ _ (s7 _ _ m6)
  have sb : HS h (jI k8 h9) := sF S9 n8h
  have rb : RB (jI k8 h9) (.slice ar (qU id).length cr) (qU id) := rr.hs (sF S79 n8)
  have sb9 : HS (jI k8 h9) h9 := dG k8 h9
  have m6b := (dF h9 _ k68).trans m69
  have nb8 : jI k8 h9 k8 = none := mP k8 h9
  generalize jI k8 h9 = hb at sb rb sb9 m6b nb8
  refine qJ ?_; repeat' (first | with_reducible apply qQ | ((with_reducible apply qI) <;> try simp only [qM, qC, qF, qH, qD, qA, qG, reduceIte, seval, Int.cast_ofNat_Int, qN, qO, qL, qY, zA, zB, wA, xT]))
  refine xL [0, 2, 6, 7, 8] (fun (j : Nat) => []) (fun q j h' => fs.length - j = q ∧ j ≤ fs.length ∧ HS hb h' ∧ ∃ (af : Option Addr) (cf : Nat) (cells : List Value) (p : Nat), h' k8 = some ⟨[.slice af j cf, .int .i64 (p : Int), .bool false, .slice none 0 0, .slice none 0 0, .int .i64 0, .int .i64 0, .slice none 0 0, .int .i64 0, .int .i64 0, .int .i64 0, .slice none 0 0, .bool false], 0, true, false⟩ ∧
      (fs ++ [e])[j]? = some p ∧ OWNC 10 hb h' (.slice af j cf) j cells ∧ cells.all uT = true ∧ ∀ (t : Nat) y, t < j → (fs.map (gE M))[t]? = some y → RNd h' ((cells.drop (t * 10)).take 10) y) fs.length 0 (by simp [lk]) ⟨rfl, by omega, sb9, none, 0, [], i, m9, w0, OWNC.nil _ _ _, rfl, fun t y ht => by omega⟩ ?_
  rintro _ j h10 ⟨rfl, hj, s10, af, cf, cells, p, m10, hp, ow, hu, hel⟩
  have hpM : ∃ y, M[p]? = some y ∧ (j < fs.length → fs[j]? = some p ∧ jF (qU id) y = false) ∧ (j = fs.length → e = p ∧ nd = y) := by
    by_cases hjl : j < fs.length
    · rw [List.getElem?_append_left hjl] at hp
      obtain ⟨y, q1, q2, _⟩ := wf j p hp
      exact ⟨y, q1, fun _ => ⟨hp, q2⟩, fun q => by omega⟩
    · have : j = fs.length := by omega
      subst this
      rw [List.getElem?_append_right (by omega), Nat.sub_self] at hp
      cases hp
      exact ⟨nd, we, fun q => by omega, fun _ => ⟨rfl, rfl⟩⟩
  obtain ⟨y, hy, yg, ye⟩ := hpM
  have x10 := (x.hs sb).hs s10
  have oky := x10.arr.ok.ok p y hy
  have hpf := oky.pf
  refine qJ ?_; repeat' (first | (with_reducible first | apply qK | apply qQ) | ((first | (with_reducible apply qI) | with_reducible apply qB) <;> try simp only [qM, qC, qF, qH, qD, qA, qG, reduceIte, seval, Int.cast_ofNat_Int, qN, qO, qL, qY, zA, zB, wA, xT, qE m10 zT]))
  refine (c_Node N x10 hy).mono ?_
  rintro _ h11 ⟨s11, cn, rfl, r11⟩
  obtain ⟨a1, c1, a2, c2, a3, c3, a4, c4, rfl, r1, r2, r3, r4⟩ := r11
  refine qJ ?_; repeat' (first | ((with_reducible apply qI) <;> try simp only [qM, qC, qF, qH, qD, qA, qG, reduceIte, seval, Int.cast_ofNat_Int, qN, qO, qL, qY, zA, zB, wA, xT]))
  refine xG fun k12 h12 m12 s12 f12 n12 => ?_
  refine qJ ?_; repeat' (first | ((with_reducible apply qI) <;> try simp only [qM, qC, qF, qH, qD, qA, qG, reduceIte, seval, Int.cast_ofNat_Int, qN, qO, qL, qY, zA, zB, wA, xT]))
  refine vJ m12 wF rfl (by decide) rfl rfl rfl fun h13 m13 f13 => ?_
  simp only [Nd.cs] at m13
  have S13 := s11.trans (s12.upd n12 f13)
  have m8b := S13 _ _ m10
  have z : ∀ {v l}, RB h11 v l → RB h13 v l := fun r => r.hs (s12.upd n12 f13)
  have q1 := z r1
  have q2 := z r2
  have q3 := z r3
  have q4 := z r4
  have rn : RNd h13 (y.cs (.slice a1 y.id.length c1) (.slice a2 y.ky.length c2) (.slice a3 y.pf.length c3) (.slice a4 y.hs.length c4)) y := ⟨a1, c1, a2, c2, a3, c3, a4, c4, rfl, q1, q2, q3, q4⟩
  have rb13 := (rb.hs s10).hs S13
  by_cases hjl : j < fs.length
  case neg =>
    obtain ⟨rfl, rfl⟩ := ye (by omega)
    obtain rfl : j = fs.length := by omega
    cases hlf : nd.lf
    case true =>
      rw [hlf] at m13
      have ld := zU (P := Tryz.prog) (t := 92) m13 wF rfl
      refine qJ ?_; repeat' (first | with_reducible apply qK | ((first | (with_reducible apply qI) | (with_reducible first | apply qB | apply qS | apply qR) | with_reducible refine zH xT xQ (by kernel_rfl) ?_ | ((refine GTri.mono (qT1 _ _ q1 (((ri.hs sb).hs s10).hs S13)) ?_); rintro _ _ ⟨rfl, hh9⟩; replace hh9 := hh9.symm; subst hh9)) <;> try simp only [qM, qC, qF, qH, qD, qA, qG, reduceIte, seval, Int.cast_ofNat_Int, qN, qO, qL, qY, zA, zB, wA, xT, qE m13 rY, qE m13 qV, qE m13 zT, ld]))
      refine qA1 m8b rfl wF (by decide) rfl (by simp) rfl fun h14 m14 f14 => ?_
      simp only [yR, vcells, List.take_succ_cons, List.take_zero, List.drop_succ_cons, List.drop_zero, List.cons_append, List.nil_append, List.length_cons, List.length_nil, Nat.reduceAdd] at m14
      have k812 : k12 ≠ k8 := (yM (s11 _ _ m10) n12).symm
      have m134 := (f14 k12 k812).trans m13
      have ld4 := zU (P := Tryz.prog) (t := 92) m134 wF rfl
      refine qJ ?_; repeat' (first | ((with_reducible apply qI) <;> try simp only [qM, qC, qF, qH, qD, qA, qG, reduceIte, seval, Int.cast_ofNat_Int, qN, qO, qL, qY, zA, zB, wA, xT, qE m134 rY, qE m134 qV, qE m134 zT, ld4]))
      refine zW m14 rY rfl (by simp) rfl rfl fun h15 m15 f15 => ?_
      simp only [List.set_cons_zero, List.set_cons_succ] at m15
      have m65 : h15 k6 = _ := (f15 k6 k68).trans ((f14 k6 k68).trans (S13 _ _ (s10 _ _ m6b)))
      have ld5 := zU (P := Tryz.prog) (t := 136) m15 fP rfl
      refine qJ ?_; repeat' (first | with_reducible apply qK | ((first | (with_reducible apply qI) | with_reducible apply qB) <;> try simp only [qM, qC, qF, qH, qD, qA, qG, reduceIte, seval, Int.cast_ofNat_Int, qN, qO, qL, qY, zA, zB, wA, xT, ld5]))
      refine wC m65 fP rfl (by decide) rfl rfl rfl fun h16 m16 f16 => ?_
      simp only [vcells] at m16
      have ld6 := zU (P := Tryz.prog) (t := 136) m16 fP rfl
      refine qJ ?_; repeat' (first | ((first | (with_reducible apply qI) | with_reducible apply qP) <;> try simp only [qM, qC, qF, qH, qD, qA, qG, reduceIte, seval, Int.cast_ofNat_Int, qN, qO, qL, qY, zA, zB, wA, xT, fA, ld6]))
      have zz : ∀ {v l}, RB h13 v l → RB h16 v l := fun r => ((r.hx m8b rfl (zE f14)).hx m14 rfl (zE f15)).hx m65 rfl (zE f16)
      have zr : ∀ {cs x}, RNd h13 cs x → RNd h16 cs x := fun r => ((r.hx m8b rfl (zE f14)).hx m14 rfl (zE f15)).hx m65 rfl (zE f16)
      refine ⟨((((S9.of2 sb (s10.trans S13)).upd n8h f14).upd n8h f15).upd n6 f16), af, cf, a1, c1, a2, c2, a3, c3, a4, c4, by simp [rM, hlf], ?_, zr rn⟩
      have ow2 := ((((ow.hs S13).by5 m8b f14).by5 m14 f15).by5 m65 f16)
      exact ⟨cells, ow2.weak sb, hu, fun t y hy => zr ((hel t y (by have := (List.getElem?_eq_some_iff.1 hy).1; simp at this; omega) hy).hs S13)⟩
    have hnb : fV (qU id) nd.pf (nd.dp : Int) = false := by
      unfold jF at ws
      rw [hlf] at ws
      simpa using ws
    rw [hlf] at m13
    have ld := zU (P := Tryz.prog) (t := 92) m13 wF rfl
    refine qJ ?_; repeat' (first | with_reducible apply qK | ((first | (with_reducible apply qI) | (with_reducible first | apply qB | apply qS | apply qR) | with_reducible refine zH xT xQ (by kernel_rfl) ?_ | ((refine GTri.mono (kJ _ _ rb13 q3 (by omega) (by omega) _) ?_); rintro _ _ ⟨rfl, hh9⟩; replace hh9 := hh9.symm; subst hh9)) <;> try simp only [qM, qC, qF, qH, qD, qA, qG, reduceIte, seval, Int.cast_ofNat_Int, qN, qO, qL, qY, zA, zB, wA, xT, qE m13 rY, qE m13 qV, qE m13 zT, ld, hnb]))
    refine qA1 m8b rfl wF (by decide) rfl (by simp) rfl fun h14 m14 f14 => ?_
    simp only [yR, vcells, List.take_succ_cons, List.take_zero, List.drop_succ_cons, List.drop_zero, List.cons_append, List.nil_append, List.length_cons, List.length_nil, Nat.reduceAdd] at m14
    have k812 : k12 ≠ k8 := (yM (s11 _ _ m10) n12).symm
    have m134 := (f14 k12 k812).trans m13
    have ld4 := zU (P := Tryz.prog) (t := 92) m134 wF rfl
    refine qJ ?_; repeat' (first | ((with_reducible apply qI) <;> try simp only [qM, qC, qF, qH, qD, qA, qG, reduceIte, seval, Int.cast_ofNat_Int, qN, qO, qL, qY, zA, zB, wA, xT, qE m134 rY, qE m134 qV, qE m134 zT, ld4]))
    refine zW m14 rY rfl (by simp) rfl rfl fun h15 m15 f15 => ?_
    simp only [List.set_cons_zero, List.set_cons_succ] at m15
    have m65 : h15 k6 = _ := (f15 k6 k68).trans ((f14 k6 k68).trans (S13 _ _ (s10 _ _ m6b)))
    have ld5 := zU (P := Tryz.prog) (t := 136) m15 fP rfl
    refine qJ ?_; repeat' (first | with_reducible apply qK | ((first | (with_reducible apply qI) | with_reducible apply qB) <;> try simp only [qM, qC, qF, qH, qD, qA, qG, reduceIte, seval, Int.cast_ofNat_Int, qN, qO, qL, qY, zA, zB, wA, xT, ld5]))
    refine wC m65 fP rfl (by decide) rfl rfl rfl fun h16 m16 f16 => ?_
    simp only [vcells] at m16
    have ld6 := zU (P := Tryz.prog) (t := 136) m16 fP rfl
    refine qJ ?_; repeat' (first | ((first | (with_reducible apply qI) | with_reducible apply qP) <;> try simp only [qM, qC, qF, qH, qD, qA, qG, reduceIte, seval, Int.cast_ofNat_Int, qN, qO, qL, qY, zA, zB, wA, xT, fA, ld6]))
    have zz : ∀ {v l}, RB h13 v l → RB h16 v l := fun r => ((r.hx m8b rfl (zE f14)).hx m14 rfl (zE f15)).hx m65 rfl (zE f16)
    have zr : ∀ {cs x}, RNd h13 cs x → RNd h16 cs x := fun r => ((r.hx m8b rfl (zE f14)).hx m14 rfl (zE f15)).hx m65 rfl (zE f16)
    refine ⟨((((S9.of2 sb (s10.trans S13)).upd n8h f14).upd n8h f15).upd n6 f16), af, cf, a1, c1, a2, c2, a3, c3, a4, c4, by simp [rM, hlf], ?_, zr rn⟩
    have ow2 := ((((ow.hs S13).by5 m8b f14).by5 m14 f15).by5 m65 f16)
    exact ⟨cells, ow2.weak sb, hu, fun t y hy => zr ((hel t y (by have := (List.getElem?_eq_some_iff.1 hy).1; simp at this; omega) hy).hs S13)⟩
  obtain ⟨hfj, hst⟩ := yg hjl
  obtain ⟨hlf, hbg⟩ := vO hst
  rw [hlf] at m13
  have rnl : RNd h13 [.bool false, .slice a1 y.id.length c1, .slice a2 y.ky.length c2, .int .i64 y.si, .int .i64 y.dp, .slice a3 y.pf.length c3, .int .i64 y.nw, .int .i64 y.l, .int .i64 y.r, .slice a4 y.hs.length c4] y := by
    have := rn
    simp only [Nd.cs, hlf] at this
    exact this
  have ld := zU (P := Tryz.prog) (t := 92) m13 wF rfl
  refine qJ ?_; repeat' (first | with_reducible apply qK | ((first | (with_reducible apply qI) | (with_reducible first | apply qB | apply qS | apply qR) | ((refine GTri.mono (kJ _ _ rb13 q3 (by omega) (by omega) _) ?_); rintro _ _ ⟨rfl, hh9⟩; replace hh9 := hh9.symm; subst hh9)) <;> try simp only [qM, qC, qF, qH, qD, qA, qG, reduceIte, seval, Int.cast_ofNat_Int, qN, qO, qL, qY, zA, zB, wA, xT, qE m13 rY, qE m13 qV, qE m13 zT, qE m8b uG, ld, hbg]))
  refine dA qY9 rfl rfl (by decide) (by decide) rfl fun k14 h14 b14 s14 f14 n14 => ?_
  have m14 := s14 _ _ m8b
  have S14 := S13.trans s14
  refine qJ ?_; repeat' (first | ((with_reducible apply qI) <;> try simp only [qM, qC, qF, qH, qD, qA, qG, reduceIte, seval, Int.cast_ofNat_Int, qN, qO, qL, qY, zA, zB, wA, xT]))
  refine uO qY9 Tryz.underlying131 rfl (s10.trans S14) (ow.hs S14) b14 rfl rfl (by omega) (by simp only [maxLen]; omega) fun v15 h15 s15 fr15 o15 => ?_
  obtain ⟨a15, c15, rfl⟩ := o15.form
  have m15 := tU fr15 m14 (by simp)
  have m1315 := tU fr15 (s14 _ _ m13) (by simp)
  refine qJ ?_; repeat' (first | ((with_reducible apply qI) <;> try simp only [qM, qC, qF, qH, qD, qA, qG, reduceIte, seval, Int.cast_ofNat_Int, qN, qO, qL, qY, zA, zB, wA, xT]))
  refine zW m15 uG rfl (by simp) rfl rfl fun h16 m16 f16 => ?_
  simp only [List.set_cons_zero, List.set_cons_succ] at m16
  have k812 : k12 ≠ k8 := (yM (s11 _ _ m10) n12).symm
  have m1316 := (f16 k12 k812).trans m1315
  have ld6 := zU (P := Tryz.prog) (t := 92) m1316 wF rfl
  have zz : ∀ {v l}, RB h13 v l → RB h16 v l := fun r => (qN8 fr15 hu (r.hs s14)).hx m15 rfl (zE f16)
  have zr : ∀ {cs x}, RNd h13 cs x → RNd h16 cs x := fun r => by
    obtain ⟨a1, c1, a2, c2, a3, c3, a4, c4, rfl, r1, r2, r3, r4⟩ := r
    exact ⟨a1, c1, a2, c2, a3, c3, a4, c4, rfl, zz r1, zz r2, zz r3, zz r4⟩
  have s16 : HS hb h16 := s15.upd nb8 f16
  refine qJ ?_; repeat' (first | ((first | (with_reducible apply qI) | with_reducible apply qB) <;> try simp only [qM, qC, qF, qH, qD, qA, qG, reduceIte, seval, Int.cast_ofNat_Int, qN, qO, qL, qY, zA, zB, wA, xT, ld6]))
  refine (c_below N (zr rnl) (rb.hs s16) oky.dp).mono ?_
  rintro _ h17 ⟨s17, rfl⟩
  refine qJ ?_; repeat' (first | ((with_reducible apply qI) <;> try simp only [qM, qC, qF, qH, qD, qA, qG, reduceIte, seval, Int.cast_ofNat_Int, qN, qO, qL, qY, zA, zB, wA, xT]))
  refine zW (s17 _ _ m16) zT rfl (by simp) rfl rfl fun h18 m18 f18 => ?_
  simp only [List.set_cons_zero, List.set_cons_succ] at m18
  obtain ⟨y', hy', _, hkid⟩ := wf j p hfj
  rw [hy] at hy'
  cases hy'
  have z18 : ∀ {cs x}, RNd h16 cs x → RNd h18 cs x := fun r => (r.hs s17).hx (s17 _ _ m16) rfl (zE f18)
  have ej := ow.len
  refine qJ ?_; repeat' (first | ((with_reducible apply qI) <;> try simp only [qM, qC, qF, qH, qD, qA, qG, reduceIte, seval, Int.cast_ofNat_Int, qN, qO, qL, qY, zA, zB, wA, xT]))
  refine ⟨_, j + 1, by omega, (by simp only [List.forall_mem_cons, List.not_mem_nil, false_implies, implies_true, List.map, List.cons_append, List.nil_append, lk, Nat.reduceEqDiff, reduceIte, and_true, true_and]), rfl, by omega, (s16.trans s17).upd nb8 f18, a15, c15, _, kA (qU id) y, m18, hkid, ((o15.by5 m15 f16).hs s17).by5 (s17 _ _ m16) f18, ?_, fun t z ht hz => ?_⟩
  · rw [List.all_append, hu]; rfl
  · by_cases htj : t < j
    · have h1 := hel t z htj hz
      rw [List.drop_append_of_le_length (by omega), List.take_append_of_le_length (by rw [List.length_drop]; omega)]
      exact z18 (zr (h1.hs S13))
    · obtain rfl : t = j := by omega
      rw [← ej, List.drop_left]
      have : z = y := by
        rw [List.getElem?_map, hfj] at hz
        simp only [Option.map_some, Option.some.injEq] at hz
        rw [← hz, vK hy]
      subst this
      exact z18 (zr rnl)
end
theorem tR : type_of% (And.intro mJ (And.intro xS rs130)) := And.intro mJ (And.intro xS rs130)
def dM : Nat → List (Nat × List Nat) × List Nat
  | 3 => ([(0, []), (1, []), (2, []), (3, []), (4, []), (5, []), (6, []), (7, []), (8, []), (9, []), (10, []), (11, []), (12, []), (13, []), (14, []), (15, [])], [0, 0, 0, 0, 0, 0, 48, 112, 0, 0, 768, 1792, 4083, 8179, 16383, 32767])
  | _ => ([], [])
theorem vY : type_of% (And.intro Tryz.underlying170 (And.intro mJ (And.intro uF (And.intro zP (And.intro yB (And.intro qD2 (And.intro vW (And.intro ty170 (And.intro xS (And.intro jG (And.intro jS (And.intro wO rs87)))))))))))) := And.intro Tryz.underlying170 (And.intro mJ (And.intro uF (And.intro zP (And.intro yB (And.intro qD2 (And.intro vW (And.intro ty170 (And.intro xS (And.intro jG (And.intro jS (And.intro wO rs87)))))))))))
theorem qX9 : type_of% (And.intro uF (And.intro vW rs88)) := And.intro uF (And.intro vW rs88)
theorem yJ : type_of% (And.intro uF (And.intro zP (And.intro vW (And.intro xS (And.intro jG rs131))))) := And.intro uF (And.intro zP (And.intro vW (And.intro xS (And.intro jG rs131))))
section
variable {h0 h h' : GH} {k : Nat} {v : Value} {cs : List Value} {M : List Nd}
theorem zG6 {k i : Nat} (h : i < 2) : zL Tryz.prog 170 (.pointer (some ⟨k, 0, none⟩)) (i : Int) = some (.pointer (some ⟨k, i, none⟩)) := by
  simp [zL, Tryz.underlying170, zT]; omega
theorem c_Rev2 (N : Nat) {k : Nat} {h : GH} {p q : Int} {c : Nat} (m : h k = some ⟨[.int .i64 p, .int .i64 q], 0, true, false⟩) : GTri Tryz.prog N 130 [.slice (some ⟨k, 0, none⟩) 2 c] h fun u h' => u = .tuple #[] ∧ h' k = some ⟨[.int .i64 q, .int .i64 p], 0, true, false⟩ ∧ HX k h h' := by
  have g0 : zL Tryz.prog 127 (.slice (some ⟨k, 0, none⟩) 2 c) 0 = some (.pointer (some ⟨k, 0, none⟩)) := by simp [zL, Tryz.underlying127, zT]
  have g1 : zL Tryz.prog 127 (.slice (some ⟨k, 0, none⟩) 2 c) 1 = some (.pointer (some ⟨k, 1, none⟩)) := by simp [zL, Tryz.underlying127, zT]
  refine xH Tryz.func130 rfl gf130 ok130 (by simp [Tryz.ntmps130]) ?_
  refine qJ ?_; repeat' (first | (with_reducible first | apply qK | apply qQ) | ((first | (with_reducible apply qI) | with_reducible apply qB) <;> try simp only [qM, qC, qF, qH, qD, qA, qG, reduceIte, seval, Int.cast_ofNat_Int, qN, qO, qL, qY, zA, zB, tR, dM]))
  refine xL [0] (fun (j : Nat) => [(2, .int .i64 (j : Int)), (3, .int .i64 (1 - (j : Int)))]) (fun n j h' => n = 1 - j ∧ (j = 0 ∧ h' = h ∨ j = 1 ∧ h' k = some ⟨[.int .i64 q, .int .i64 p], 0, true, false⟩ ∧ HX k h h')) 1 0 (by simp [lk]) ⟨rfl, .inl ⟨rfl, rfl⟩⟩ ?_
  rintro _ j h1 ⟨rfl, ⟨rfl, rfl⟩ | ⟨rfl, m1, x1⟩⟩
  case inr =>
    refine qJ ?_; repeat' (first | with_reducible apply qK | ((first | (with_reducible apply qI) | (with_reducible first | apply qB | apply qS | apply xX)) <;> try simp only [qM, qC, qF, qH, qD, qA, qG, reduceIte, seval, Int.cast_ofNat_Int, qN, qO, qL, qY, zA, zB, tR, dM, Int.natCast_one, Int.sub_self, Int.reduceLT]))
    exact ⟨m1, x1⟩
  have e0 : ((0 : Nat) : Int) = 0 := rfl
  have e1 : (1 : Int) - ((0 : Nat) : Int) = 1 := rfl
  refine qJ ?_; repeat' (first | (with_reducible first | apply qK | apply qQ) | ((first | (with_reducible apply qI) | (with_reducible first | apply qB | apply qS | apply qR) | with_reducible refine zH dM xQ (by kernel_rfl) ?_) <;> try simp only [qM, qC, qF, qH, qD, qA, qG, reduceIte, seval, Int.cast_ofNat_Int, qN, qO, qL, qY, zA, zB, tR, dM, e0, e1, Int.sub_zero, Int.reduceLT, g0, g1, qE m zT]))
  refine zW m zT rfl (by simp) rfl rfl fun h2 m2 f2 => ?_
  simp only [List.set_cons_zero, List.set_cons_succ] at m2
  have w1 : IntKind.i64.wrap ((0 : Int) + 1) = 1 := rfl
  have w2 : IntKind.i64.wrap ((1 : Int) - 1) = 0 := rfl
  refine qJ ?_; repeat' (first | ((with_reducible apply qI) <;> try simp only [qM, qC, qF, qH, qD, qA, qG, reduceIte, seval, Int.cast_ofNat_Int, qN, qO, qL, qY, zA, zB, tR, dM, e0, e1, Int.sub_zero, Int.reduceLT, g0, g1, qE m2 zT]))
  refine zW m2 zT rfl (by simp) rfl rfl fun h3 m3 f3 => ?_
  simp only [List.set_cons_zero, List.set_cons_succ] at m3
  refine qJ ?_; repeat' (first | ((first | (with_reducible apply qI) | with_reducible apply qB) <;> try simp only [qM, qC, qF, qH, qD, qA, qG, reduceIte, seval, Int.cast_ofNat_Int, qN, qO, qL, qY, zA, zB, tR, dM, e0, e1, w1, w2, Int.sub_zero, Int.reduceLT, g0, g1, qE m3 zT]))
  exact ⟨_, 1, by omega, (by simp [lk]), rfl, .inr ⟨rfl, m3, (zE f2).trans (zE f3)⟩⟩
theorem c_part (N : Nat) (s0 : HS h0 h) (t : TK h0) (x : AA h0 h k v cs M) {a : Option Addr} {c : Nat} {row : List UInt8} (rr : RB h (.slice a row.length c) row) (hrow : row.length ≤ 60000) {now e : Nat} (hnow : now < M.length) (he : e < M.length) (hm : M.length < 10000) {nd : Nd} {i : Nat} (ok : nd.ok i) (f : Value) (hf : zF f = true) (b : Bool)
    {a1 a2 a3 a4 : Option Addr} {c1 c2 c3 c4 : Nat} (rn : RNd h (nd.cs (.slice a1 nd.id.length c1) (.slice a2 nd.ky.length c2) (.slice a3 nd.pf.length c3) (.slice a4 nd.hs.length c4)) nd) (q1 : RB h (.slice a1 nd.id.length c1) nd.id) (q3 : RB h (.slice a3 nd.pf.length c3) nd.pf) :
    GTri Tryz.prog N 87 [.pointer (some ⟨k, 0, none⟩), .slice a row.length c, .int .i64 (now : Int), .agg (rM f (e : Int) nd (.slice a1 nd.id.length c1) (.slice a2 nd.ky.length c2) (.slice a3 nd.pf.length c3) (.slice a4 nd.hs.length c4) b).toArray] h fun u h' =>
      u = .int .i64 ((fQ row M now e nd).2 : Int) ∧ HS h0 h' ∧ FR 11 k h h' ∧ ∃ v' cs', AA h0 h' k v' cs' (fQ row M now e nd).1 := by
  have hle := qF3 row (jR nd)
  have l1 := ok.id
  have l3 := ok.pf
  have hid : nd.lf = true → jR nd = qU nd.id := fun q => by unfold jR; rw [if_pos q]
  have hpf : nd.lf = false → jR nd = nd.pf := fun q => by unfold jR; rw [q]; rfl
  have hkl := vC nd.id
  refine xH Tryz.func87 rfl gf87 ok87 (by simp [Tryz.ntmps87]) ?_
  repeat' (first | with_reducible apply qK | (with_reducible apply qB <;> try simp only [qM, qC, qF, qH, qD, qA, qG, reduceIte, seval, Int.cast_ofNat_Int, qN, qO, vY]))
  refine yY (by simp only [List.toList_toArray, rM, List.all_cons, List.all_nil, hf]; rfl) fun k1 h1 m1 s1 f1 n1 => ?_
  simp only [rM] at m1
  generalize hd : uQ row (jR nd) = d at hle
  cases hlf : nd.lf
  · rw [hlf] at m1
    have hd0 := hd
    rw [hpf hlf] at hd
    have S9 := s1
    have m1h := m1
    refine qJ ?_; repeat' (first | with_reducible apply qK | ((first | (with_reducible apply qI) | (with_reducible first | apply qB | apply qS | apply qR) | ((refine GTri.mono (qJ7 _ _ (rr.hs s1) (q3.hs s1) rfl rfl (by omega)) ?_); rintro _ _ ⟨rfl, hh9⟩; replace hh9 := hh9.symm; subst hh9)) <;> try simp only [qM, qC, qF, qH, qD, qA, qG, reduceIte, seval, Int.cast_ofNat_Int, qN, qO, vY, hd, qE m1 qV, qE m1 rY, qE m1 zT, xF, xZ, vH, Shape.pl, List.all_cons, List.all_nil, zF]))
    refine xG fun k10 h10 m10 s10 f10 n10 => ?_
    refine qJ ?_; repeat' (first | ((with_reducible apply qI) <;> try simp only [qM, qC, qF, qH, qD, qA, qG, reduceIte, seval, Int.cast_ofNat_Int, qN, qO, vY]))
    refine wC m10 sz170 rfl (by decide) rfl rfl rfl fun h11 m11 f11 => ?_
    simp only [vcells] at m11
    have n10h : h k10 = none := S9.none_of n10
    have k1k : k1 ≠ k10 := yM m1h n10
    have S11 : HS h h11 := S9.trans (s10.upd n10 f11)
    have gi0 : zL Tryz.prog 170 (.pointer (some ⟨k10, 0, none⟩)) 0 = some (.pointer (some ⟨k10, 0, none⟩)) := zG6 (i := 0) (by omega)
    have gi1 : zL Tryz.prog 170 (.pointer (some ⟨k10, 0, none⟩)) 1 = some (.pointer (some ⟨k10, 1, none⟩)) := zG6 (i := 1) (by omega)
    cases hbt : (xP row d == 1)
    · have hbq : (xP row d = 1) = False := by simpa using hbt
      have m1011 := (f11 k1 k1k).trans (s10 _ _ m1h)
      have rr11 : RB h11 (.slice a row.length c) row := (rr.hs S9).hs (s10.upd n10 f11)
      refine qJ ?_; repeat' (first | with_reducible apply qK | ((first | (with_reducible apply qI) | (with_reducible first | apply qB | apply qS | apply qR) | ((refine GTri.mono (gR _ _ rr11 d (by omega)) ?_); rintro _ _ ⟨rfl, hh9⟩; replace hh9 := hh9.symm; subst hh9)) <;> try simp only [qM, qC, qF, qH, qD, qA, qG, reduceIte, seval, Int.cast_ofNat_Int, qN, qO, vY, hbt, qE m1011 zT]))
      have m12 := m11
      have S12 := S11
      refine qJ ?_; repeat' (first | ((with_reducible apply qI) <;> try simp only [qM, qC, qF, qH, qD, qA, qG, reduceIte, seval, Int.cast_ofNat_Int, qN, qO, vY, gi0, gi1, qE m12 zT]))
      refine (tX N (s0.trans S12) t (x.hs S12) (rr.hs S12) hrow (d := d) (l := now) (r := e) (by omega) (by omega) (by omega) hm).mono ?_
      rintro _ h13 ⟨rfl, s13, fr13, v', cs', x13⟩
      have ep : fQ row M now e nd = (M ++ [vG M d row now e], M.length) := by
        unfold fQ
        rw [hd0]
        simp only [hbq, if_true, if_false]
      refine qJ ?_; repeat' (first | with_reducible apply qK | ((first | (with_reducible apply qI) | (with_reducible first | apply qB | apply qP)) <;> try simp only [qM, qC, qF, qH, qD, qA, qG, reduceIte, seval, Int.cast_ofNat_Int, qN, qO, vY]))
      rw [ep]
      exact ⟨rfl, s13, (FR.of S12).trans fr13, v', cs', x13⟩
    · have hbq : (xP row d = 1) = True := by simpa using hbt
      have gs2 : vU Tryz.prog 170 h11 (.pointer (some ⟨k10, 0, none⟩)) none none none = some (.slice (some ⟨k10, 0, none⟩) 2 5) := by simp [vU, Tryz.underlying170, zT, gL, dJ]
      have m1011 := (f11 k1 k1k).trans (s10 _ _ m1h)
      have rr11 : RB h11 (.slice a row.length c) row := (rr.hs S9).hs (s10.upd n10 f11)
      refine qJ ?_; repeat' (first | with_reducible apply qK | ((first | (with_reducible apply qI) | (with_reducible first | apply qB | apply qS) | ((refine GTri.mono (gR _ _ rr11 d (by omega)) ?_); rintro _ _ ⟨rfl, hh9⟩; replace hh9 := hh9.symm; subst hh9)) <;> try simp only [qM, qC, qF, qH, qD, qA, qG, reduceIte, seval, Int.cast_ofNat_Int, qN, qO, vY, hbt, gs2, qE m1011 zT]))
      refine (c_Rev2 N m11).mono ?_
      rintro _ h12 ⟨rfl, m12, x12⟩
      have S12 : HS h h12 := fun j B m => x12 j B (fun q => by rw [q, n10h] at m; cases m) (S11 j B m)
      refine qJ ?_; repeat' (first | with_reducible apply qK | ((first | (with_reducible apply qI) | with_reducible apply qB) <;> try simp only [qM, qC, qF, qH, qD, qA, qG, reduceIte, seval, Int.cast_ofNat_Int, qN, qO, vY, gi0, gi1, qE m12 zT]))
      refine (tX N (s0.trans S12) t (x.hs S12) (rr.hs S12) hrow (d := d) (l := e) (r := now) (by omega) (by omega) (by omega) hm).mono ?_
      rintro _ h13 ⟨rfl, s13, fr13, v', cs', x13⟩
      have ep : fQ row M now e nd = (M ++ [vG M d row e now], M.length) := by
        unfold fQ
        rw [hd0]
        simp only [hbq, if_true, if_false]
      refine qJ ?_; repeat' (first | with_reducible apply qK | ((first | (with_reducible apply qI) | (with_reducible first | apply qB | apply qP)) <;> try simp only [qM, qC, qF, qH, qD, qA, qG, reduceIte, seval, Int.cast_ofNat_Int, qN, qO, vY]))
      rw [ep]
      exact ⟨rfl, s13, (FR.of S12).trans fr13, v', cs', x13⟩
  · rw [hlf] at m1
    have hd0 := hd
    rw [hid hlf] at hd
    refine qJ ?_; repeat' (first | with_reducible apply qK | ((first | (with_reducible apply qI) | (with_reducible first | apply qB | apply qS)) <;> try simp only [qM, qC, qF, qH, qD, qA, qG, reduceIte, seval, Int.cast_ofNat_Int, qN, qO, vY, qE m1 qV, qE m1 rY, qE m1 zT]))
    refine (lQ N h1 (q1.hs s1) rfl).mono ?_
    rintro _ h9 ⟨s9, ar, cr, rfl, rk, _⟩
    have S9 := s1.trans s9
    have m1h := s9 _ _ m1
    refine qJ ?_; repeat' (first | with_reducible apply qK | ((first | (with_reducible apply qI) | with_reducible apply qB | ((refine GTri.mono (qJ7 _ _ (rr.hs S9) rk rfl rfl (by omega)) ?_); rintro _ _ ⟨rfl, hh9⟩; replace hh9 := hh9.symm; subst hh9)) <;> try simp only [qM, qC, qF, qH, qD, qA, qG, reduceIte, seval, Int.cast_ofNat_Int, qN, qO, vY, hd, qE m1h qV, qE m1h rY, qE m1h zT, xF, xZ, vH, Shape.pl, List.all_cons, List.all_nil, zF]))
    refine xG fun k10 h10 m10 s10 f10 n10 => ?_
    refine qJ ?_; repeat' (first | ((with_reducible apply qI) <;> try simp only [qM, qC, qF, qH, qD, qA, qG, reduceIte, seval, Int.cast_ofNat_Int, qN, qO, vY]))
    refine wC m10 sz170 rfl (by decide) rfl rfl rfl fun h11 m11 f11 => ?_
    simp only [vcells] at m11
    have n10h : h k10 = none := S9.none_of n10
    have k1k : k1 ≠ k10 := yM m1h n10
    have S11 : HS h h11 := S9.trans (s10.upd n10 f11)
    have gi0 : zL Tryz.prog 170 (.pointer (some ⟨k10, 0, none⟩)) 0 = some (.pointer (some ⟨k10, 0, none⟩)) := zG6 (i := 0) (by omega)
    have gi1 : zL Tryz.prog 170 (.pointer (some ⟨k10, 0, none⟩)) 1 = some (.pointer (some ⟨k10, 1, none⟩)) := zG6 (i := 1) (by omega)
    cases hbt : (xP row d == 1)
    · have hbq : (xP row d = 1) = False := by simpa using hbt
      have m1011 := (f11 k1 k1k).trans (s10 _ _ m1h)
      have rr11 : RB h11 (.slice a row.length c) row := (rr.hs S9).hs (s10.upd n10 f11)
      refine qJ ?_; repeat' (first | with_reducible apply qK | ((first | (with_reducible apply qI) | (with_reducible first | apply qB | apply qS | apply qR) | ((refine GTri.mono (gR _ _ rr11 d (by omega)) ?_); rintro _ _ ⟨rfl, hh9⟩; replace hh9 := hh9.symm; subst hh9)) <;> try simp only [qM, qC, qF, qH, qD, qA, qG, reduceIte, seval, Int.cast_ofNat_Int, qN, qO, vY, hbt, qE m1011 zT]))
      have m12 := m11
      have S12 := S11
      refine qJ ?_; repeat' (first | ((with_reducible apply qI) <;> try simp only [qM, qC, qF, qH, qD, qA, qG, reduceIte, seval, Int.cast_ofNat_Int, qN, qO, vY, gi0, gi1, qE m12 zT]))
      refine (tX N (s0.trans S12) t (x.hs S12) (rr.hs S12) hrow (d := d) (l := now) (r := e) (by omega) (by omega) (by omega) hm).mono ?_
      rintro _ h13 ⟨rfl, s13, fr13, v', cs', x13⟩
      have ep : fQ row M now e nd = (M ++ [vG M d row now e], M.length) := by
        unfold fQ
        rw [hd0]
        simp only [hbq, if_true, if_false]
      refine qJ ?_; repeat' (first | with_reducible apply qK | ((first | (with_reducible apply qI) | (with_reducible first | apply qB | apply qP)) <;> try simp only [qM, qC, qF, qH, qD, qA, qG, reduceIte, seval, Int.cast_ofNat_Int, qN, qO, vY]))
      rw [ep]
      exact ⟨rfl, s13, (FR.of S12).trans fr13, v', cs', x13⟩
    · have hbq : (xP row d = 1) = True := by simpa using hbt
      have gs2 : vU Tryz.prog 170 h11 (.pointer (some ⟨k10, 0, none⟩)) none none none = some (.slice (some ⟨k10, 0, none⟩) 2 5) := by simp [vU, Tryz.underlying170, zT, gL, dJ]
      have m1011 := (f11 k1 k1k).trans (s10 _ _ m1h)
      have rr11 : RB h11 (.slice a row.length c) row := (rr.hs S9).hs (s10.upd n10 f11)
      refine qJ ?_; repeat' (first | with_reducible apply qK | ((first | (with_reducible apply qI) | (with_reducible first | apply qB | apply qS) | ((refine GTri.mono (gR _ _ rr11 d (by omega)) ?_); rintro _ _ ⟨rfl, hh9⟩; replace hh9 := hh9.symm; subst hh9)) <;> try simp only [qM, qC, qF, qH, qD, qA, qG, reduceIte, seval, Int.cast_ofNat_Int, qN, qO, vY, hbt, gs2, qE m1011 zT]))
      refine (c_Rev2 N m11).mono ?_
      rintro _ h12 ⟨rfl, m12, x12⟩
      have S12 : HS h h12 := fun j B m => x12 j B (fun q => by rw [q, n10h] at m; cases m) (S11 j B m)
      refine qJ ?_; repeat' (first | with_reducible apply qK | ((first | (with_reducible apply qI) | with_reducible apply qB) <;> try simp only [qM, qC, qF, qH, qD, qA, qG, reduceIte, seval, Int.cast_ofNat_Int, qN, qO, vY, gi0, gi1, qE m12 zT]))
      refine (tX N (s0.trans S12) t (x.hs S12) (rr.hs S12) hrow (d := d) (l := e) (r := now) (by omega) (by omega) (by omega) hm).mono ?_
      rintro _ h13 ⟨rfl, s13, fr13, v', cs', x13⟩
      have ep : fQ row M now e nd = (M ++ [vG M d row e now], M.length) := by
        unfold fQ
        rw [hd0]
        simp only [hbq, if_true, if_false]
      refine qJ ?_; repeat' (first | with_reducible apply qK | ((first | (with_reducible apply qI) | (with_reducible first | apply qB | apply qP)) <;> try simp only [qM, qC, qF, qH, qD, qA, qG, reduceIte, seval, Int.cast_ofNat_Int, qN, qO, vY]))
      rw [ep]
      exact ⟨rfl, s13, (FR.of S12).trans fr13, v', cs', x13⟩
end
theorem c_BwdN (N : Nat) (h : GH) (a : Option Addr) (n c : Nat) : GTri Tryz.prog N 88 [.slice a n c] h fun u h' => (∃ kb, u = .func (.func 131) #[] #[.pointer (some ⟨kb, 0, none⟩)] ∧ h' kb = some ⟨[.slice a n c], 0, true, false⟩ ∧ h kb = none) ∧ HS h h' := by
  refine xH Tryz.func88 rfl gf88 ok88 (by simp [Tryz.ntmps88]) ?_
  repeat' (first | with_reducible apply qK | (with_reducible apply qB <;> try simp only [qM, qC, qF, qH, qD, qA, qG, reduceIte, seval, Int.cast_ofNat_Int, qN, qO, qX9]))
  refine yY rfl fun k1 h1 m1 s1 f1 n1 => ?_
  refine qJ ?_; repeat' (first | with_reducible apply qK | ((first | (with_reducible apply qI) | (with_reducible first | apply qB | apply qP)) <;> try simp only [qM, qC, qF, qH, qD, qA, qG, reduceIte, seval, Int.cast_ofNat_Int, qN, qO, qX9, List.map_toArray, List.map_cons, List.map_nil]))
  exact ⟨⟨k1, rfl, m1, n1⟩, s1⟩
theorem c_bwdN1 (N l : Nat) (r : LRec) {h hx : GH} {kb : Nat} {a : Option Addr} {n c : Nat} {cells : List Value} (hn : n ≤ 1000000) (I : Nat → GH → Prop) (h0 : I n h)
    (hb : ∀ i h', I i h' → h' kb = some ⟨[.slice a n c], 0, true, false⟩ ∧ OWNC 10 hx h' (.slice a n c) n cells)
    (y : ∀ i h', i < n → I (i + 1) h' → zN3 Tryz.prog N l r [.int .i64 (i : Int), .agg ((cells.drop (i * 10)).take 10).toArray] h' (I i)) :
    zJ2 l r Tryz.prog N 131 [.func (.yield l) #[] #[], .pointer (some ⟨kb, 0, none⟩)] h (I 0) := by
  refine gtrio Tryz.func131 rfl gf131 ok131 rs131 (by simp [Tryz.ntmps131]) ?_
  obtain ⟨m0, r0⟩ := hb _ _ h0
  have w0 : IntKind.i64.wrap ((n : Int) - 1) = (n : Int) - 1 := by rw [wrap64 (by omega) (by omega)]
  simp only [qM, qC, qF, qH, qD, qA, qG, reduceIte, seval, Int.cast_ofNat_Int, qN, qO, yJ]
  refine fJ ?_
  refine fY (qB ?_)
  simp only [qM, qC, qF, qH, qD, qA, qG, reduceIte, seval, Int.cast_ofNat_Int, qN, qO, yJ, qE m0 uG, w0, List.getElem?_cons_zero, List.getElem?_cons_succ]
  refine pR ?_
  refine qV4 (fun m e' h' => m ≤ n ∧ e' = [(0, .func (.yield l) #[] #[]), (1, .pointer (some ⟨kb, 0, none⟩)), (3, .int .i64 ((m : Int) - 1))] ∧ I m h') n
    (e0 := [(0, .func (.yield l) #[] #[]), (1, .pointer (some ⟨kb, 0, none⟩)), (3, .int .i64 ((n : Int) - 1))]) ?_ ⟨Nat.le_refl _, rfl, h0⟩ ?_
  · exact (rZ (by simp only [List.forall_mem_cons, List.not_mem_nil, false_implies, implies_true, lk, Nat.reduceEqDiff, reduceIte, and_true, true_and]))
  rintro m e' h' ⟨hm, rfl, hI⟩
  obtain ⟨m1, r1⟩ := hb _ _ hI
  refine fJ ?_
  refine fJ ?_
  refine fY (qB ?_)
  by_cases hm0 : m = 0
  · have d : decide ((m : Int) - 1 ≥ 0) = false := decide_eq_false (by omega)
    simp only [qM, qC, qF, qH, qD, qA, qG, reduceIte, seval, Int.cast_ofNat_Int, qN, qO, yJ, d]
    refine qA6 ?_
    simp only [qM, qC, qF, qH, qD, qA, qG, reduceIte, seval, Int.cast_ofNat_Int, qN, qO, yJ, qW0]
    refine fY (xX ?_)
    simp only [qM, qC, qF, qH, qD, qA, qG, reduceIte, seval, Int.cast_ofNat_Int, qN, qO, yJ]
    subst hm0
    exact ⟨.inl trivial, hI⟩
  obtain ⟨i, rfl⟩ : ∃ i, m = i + 1 := ⟨m - 1, by omega⟩
  have e1 : ((i + 1 : Nat) : Int) - 1 = (i : Int) := by omega
  rw [e1]
  have d : decide ((i : Int) ≥ 0) = true := decide_eq_true (by omega)
  simp only [qM, qC, qF, qH, qD, qA, qG, reduceIte, seval, Int.cast_ofNat_Int, qN, qO, yJ, d]
  refine qA6 ?_
  simp only [qM, qC, qF, qH, qD, qA, qG, reduceIte, seval, Int.cast_ofNat_Int, qN, qO, yJ, gif_t]
  refine fY (qR ?_)
  simp only [qM, qC, qF, qH, qD, qA, qG, reduceIte, seval, Int.cast_ofNat_Int, qN, qO, yJ]
  refine fJ ?_
  refine pR ?_
  refine fJ ?_
  obtain ⟨ad, g1, l4⟩ : ∃ ad, zL Tryz.prog 131 (.slice a n c) (i : Int) = some (.pointer (some ad)) ∧ wS Tryz.prog 92 h' (.pointer (some ad)) = some (.agg ((cells.drop (i * 10)).take 10).toArray) := by
    rcases r1 with ⟨_, q, _⟩ | ⟨_, _, q, _⟩ | ⟨kf, c', q, h2, h3, h4, h5, h6, h7⟩
    · omega
    · omega
    · cases q
      have hi : i < n := by omega
      refine ⟨_, uR Tryz.underlying131 wF hi, wG h6 wF rfl ?_⟩
      rw [List.length_take, List.length_drop, h5]
      have := Nat.mul_le_mul_right 10 (show i + 1 ≤ n by omega)
      omega
  refine gro_of ?_
  refine zG5 6 ?_
  simp only [qM, qC, qF, qH, qD, qA, qG, reduceIte, seval, Int.cast_ofNat_Int, qN, qO, yJ, qE m1 uG, g1, l4, List.getElem?_cons_zero, List.getElem?_cons_succ, List.drop_succ_cons, List.drop_zero, List.take_succ_cons, List.take_zero]
  refine qM9 rfl ?_
  simp only [qM, qC, qF, qH, qD, qA, qG, reduceIte, seval, Int.cast_ofNat_Int, qN, qO, yJ]
  have yy := y i h' (by omega) hI
  intro hG φ w args' sm hv hlo
  obtain ⟨fn, tmps, assign, body, q1, q2⟩ := yy hG φ w args' sm hv hlo
  refine ⟨fn, tmps, assign, body, q1, q2.mono ?_⟩
  rintro e w' ⟨φ', h2, p1, p2, p3, p4, p5⟩
  refine ⟨φ', h2, p1, p2, p3, p4, ?_⟩
  refine zG4 ?_
  simp only [qM, qC, qF, qH, qD, qA, qG, reduceIte, seval, Int.cast_ofNat_Int, qN, qO, yJ, yV]
  refine qA6 ?_
  simp only [qM, qC, qF, qH, qD, qA, qG, reduceIte, seval, Int.cast_ofNat_Int, qN, qO, yJ, qW0, Bool.not_true]
  refine fY (qR ?_)
  simp only [qM, qC, qF, qH, qD, qA, qG, reduceIte, seval, Int.cast_ofNat_Int, qN, qO, yJ]
  refine fY (qB ?_)
  have w1 : IntKind.i64.wrap ((i : Int) - 1) = (i : Int) - 1 := by rw [wrap64 (by omega) (by omega)]
  simp only [qM, qC, qF, qH, qD, qA, qG, reduceIte, seval, Int.cast_ofNat_Int, qN, qO, yJ, w1]
  exact ⟨i, _, by omega, (rZ (by simp only [List.forall_mem_cons, List.not_mem_nil, false_implies, implies_true, lk, Nat.reduceEqDiff, reduceIte, and_true, true_and])), by omega, rfl, p5⟩
theorem zZ : type_of% (And.intro uF (And.intro zP (And.intro yB (And.intro qD2 (And.intro vW (And.intro xS (And.intro jG (And.intro jS (And.intro wO rs47))))))))) := And.intro uF (And.intro zP (And.intro yB (And.intro qD2 (And.intro vW (And.intro xS (And.intro jG (And.intro jS (And.intro wO rs47))))))))
def xA : Nat → List (Nat × List Nat) × List Nat
  | 8 => ([(0, []), (2, []), (1, [2]), (3, []), (4, [])], [0, 1, 0, 7, 15])
  | _ => ([], [])
theorem RB.some {h : GH} {a : Option Addr} {n c : Nat} {l : List UInt8} (r : RB h (.slice a n c) l) (hl : l ≠ []) : a.isNone = false := by
  rcases r with ⟨_, _, q⟩ | ⟨ad, _, q, _⟩
  · exact absurd q hl
  · cases q; rfl
inductive Spot (M : List Nd) (id ky : List UInt8) (si : Nat) : Int → List Nat → Int → Nd → Bool → List Nd × Nat → Prop
  | no : Spot M id ky si (-1) [] (-1) ⟨false, [], [], 0, 0, [], 0, 0, 0, []⟩ false (M ++ [vF id ky si], M.length)
  | way {i e fs nd} : Way M (qU id) i fs e nd → Spot M id ky si (i : Int) fs (e : Int) nd (nd.lf && nd.id == id) (rG id ky si M e nd)
def InsI (M : List Nd) (id : List UInt8) (S0 : List Nd × Nat) (fs : List Nat) (h0 hb : GH) (k k14 : Nat) (i : Nat) (h' : GH) : Prop :=
  ∃ S : List Nd × Nat, S = (fs.drop i).reverse.foldl (pP (qU id)) S0 ∧ HS h0 h' ∧ FR 11 k hb h' ∧ h' k14 = some ⟨[.int .i64 (S.2 : Int)], 0, true, false⟩ ∧ S.2 < S.1.length ∧ S.1.length + i ≤ S0.1.length + fs.length ∧ (∃ L, S.1 = M ++ L) ∧ ∃ v cs, AA h0 h' k v cs S.1
theorem FR.new {e k j : Nat} {a b c d : GH} (x : FR e k a b) (n : b j = none) (s : HS b c) (f : ∀ i, i ≠ j → d i = c i) : FR e k a d := fun i B m q => by
  have h1 := x i B m q
  rw [f i (fun z => by rw [z, n] at h1; cases h1)]
  exact s _ _ h1
theorem sN {M : List Nd} {id : List UInt8} {S0 : List Nd × Nat} {fs : List Nat} {i p : Nat} (h : fs[i]? = some p) : (fs.drop i).reverse.foldl (pP (qU id)) S0 = pP (qU id) ((fs.drop (i + 1)).reverse.foldl (pP (qU id)) S0) p := by
  have h1 := List.getElem?_eq_some_iff.1 h
  rw [List.drop_eq_getElem_cons h1.1, h1.2, List.reverse_cons, List.foldl_append]; rfl
theorem Spot.facts {M : List Nd} {id ky : List UInt8} {si : Nat} {rt at_ : Int} {fs : List Nat} {nd : Nd} {same : Bool} {S0 : List Nd × Nat} (sp : Spot M id ky si rt fs at_ nd same S0) (ti : TI M) (hi : id.length ≤ 255) :
    (∃ L, S0.1 = M ++ L) ∧ S0.2 < S0.1.length ∧ S0.1.length ≤ M.length + 2 ∧ ∀ (j p : Nat), fs[j]? = some p → ∃ y, M[p]? = some y ∧ jF (qU id) y = false := by
  cases sp with
  | no => exact ⟨⟨_, rfl⟩, by simp, by simp, fun j p h => by simp at h⟩
  | @way i e fs nd w =>
    obtain ⟨_, b, c, d, _⟩ := low_ok ti hi (ky := ky) (si := si) w.end.1 w.end.2
    exact ⟨d, b, c, fun j p h => by
      obtain ⟨y, h1, h2, _⟩ := w.at.2 j p h
      exact ⟨y, h1, h2⟩⟩
section
variable {h0 h h' : GH} {k : Nat} {v : Value} {cs : List Value} {M : List Nd}
theorem AA.upd {j : Nat} {B : GB} (x : AA h0 h k v cs M) (m : h j = some B) (hu : B.cells.all uT = true) (hn : k ≠ j) (f : ∀ i, i ≠ j → h' i = h i) (h0' : B.es = 0 := by rfl) : AA h0 h' k v cs M :=
  ⟨by rw [f k hn]; exact x.obj, x.nk, x.arr.keep (x.arr.own.by5 m f (by rw [h0']; decide)) fun _ _ ⟨cn, e, r⟩ => ⟨cn, e, r.hx m hu (zE f)⟩⟩
theorem c_Insert (N : Nat) (s0 : HS h0 h) (t : TK h0) (x : AA h0 h k v cs M) (ti : TI M) {a b : Option Addr} {ca cb : Nat} {id ky : List UInt8} (ri : RB h (.slice a id.length ca) id) (rk : RB h (.slice b ky.length cb) ky) (hi : id.length ≤ 255) (hk : ky.length ≤ 60000) {si : Nat} (hs : si ≤ 1000000)
    {rt at_ : Int} {fs : List Nat} {nd : Nd} {same : Bool} {S0 : List Nd × Nat} (sp : Spot M id ky si rt fs at_ nd same S0) (hm : M.length + 2 + fs.length ≤ 9000) (hfs : fs.length ≤ 3000) :
    GTri Tryz.prog N 47 [.pointer (some ⟨k, 0, none⟩), .int .i64 rt, .slice a id.length ca, .slice b ky.length cb, .int .i64 (si : Int)] h fun u h' => u = .tuple #[.int .i64 ((fs.reverse.foldl (pP (qU id)) S0).2 : Int), .int .i64 0] ∧ HS h0 h' ∧ FR 11 k h h' ∧ ∃ v' cs', AA h0 h' k v' cs' (fs.reverse.foldl (pP (qU id)) S0).1 := by
  have d1 : decide ((si : Int) < 0) = false := decide_eq_false (by omega)
  have d2 : decide ((id.length : Int) > 255) = false := decide_eq_false (by omega)
  have d3 : decide ((ky.length : Int) > 65535) = false := decide_eq_false (by omega)
  refine xH Tryz.func47 rfl gf47 ok47 (by simp [Tryz.ntmps47]) ?_
  repeat' (first | with_reducible apply qK | (with_reducible apply qB <;> try simp only [qM, qC, qF, qH, qD, qA, qG, reduceIte, seval, Int.cast_ofNat_Int, qN, qO, qL, qY, zA, zB, zZ, xA]))
  refine yY rfl fun k5 h5 m5 s5 f5 n5 => ?_
  have x5 := x.hs s5
  simp only [qM, qC, qF, qH, qD, qA, qG, reduceIte, seval, Int.cast_ofNat_Int, qN, qO, zZ]
  refine qK ?_
  refine GW.mono (Q := fun x e' h' => x = .normal ∧ HS h5 h' ∧ lk e' 1 = .int .i64 rt ∧ lk e' 2 = .slice a id.length ca ∧ lk e' 3 = .slice b ky.length cb ∧ lk e' 4 = .int .i64 (si : Int) ∧ lk e' 5 = .pointer (some ⟨k5, 0, none⟩)) ?_ ?_
  · cases sp with
    | no =>
      refine qJ ?_; repeat' (first | (with_reducible first | apply qK | apply qQ) | ((first | (with_reducible apply qI) | (with_reducible first | apply qB | apply qS | apply qR) | ((refine GTri.mono (c_Size _ x5) ?_); rintro _ _ ⟨rfl, hh9⟩; replace hh9 := hh9.symm; subst hh9)) <;> try simp only [qM, qC, qF, qH, qD, qA, qG, reduceIte, seval, Int.cast_ofNat_Int, qN, qO, qL, qY, zA, zB, zZ, xA, qE m5 qG3, d1, d2, d3]))
      exact HS.refl _
    | @way i e fs nd w =>
      have wi : ∃ y, M[i]? = some y := by
        cases w with
        | stop h1 _ => exact ⟨_, h1⟩
        | go h1 _ _ => exact ⟨_, h1⟩
      obtain ⟨y, hy⟩ := wi
      have hy4 := (x.arr.ok.ok i y hy).hs
      have d4 : ((i : Int) != -1) = true := by simp
      refine qJ ?_; repeat' (first | (with_reducible first | apply qK | apply qQ) | ((first | (with_reducible apply qI) | (with_reducible first | apply qB | apply qS) | ((refine GTri.mono (c_Size _ x5) ?_); rintro _ _ ⟨rfl, hh9⟩; replace hh9 := hh9.symm; subst hh9)) <;> try simp only [qM, qC, qF, qH, qD, qA, qG, reduceIte, seval, Int.cast_ofNat_Int, qN, qO, qL, qY, zA, zB, zZ, xA, qE m5 qG3, d4]))
      refine (lR N x5 hy).mono ?_
      rintro _ h6 ⟨s6, a6, c6, rfl, r6⟩
      have q6 := r6.some (by intro q; rw [q] at hy4; cases hy4)
      refine qJ ?_; repeat' (first | with_reducible apply qK | ((first | (with_reducible apply qI) | (with_reducible first | apply qB | apply qS | apply qR)) <;> try simp only [qM, qC, qF, qH, qD, qA, qG, reduceIte, seval, Int.cast_ofNat_Int, qN, qO, qL, qY, zA, zB, zZ, xA, q6, d1, d2, d3]))
      exact s6
  rintro _ e' h6 ⟨rfl, s6, q1, q2, q3, q4, q5⟩
  rw [gG]
  refine tC [(1, .int .i64 rt), (2, .slice a id.length ca), (3, .slice b ky.length cb), (4, .int .i64 (si : Int)), (5, .pointer (some ⟨k5, 0, none⟩))] (by simp [q1, q2, q3, q4, q5]) ?_
  clear q1 q2 q3 q4 q5
  have S6 := s5.trans s6
  have m56 := s6 _ _ m5
  refine qK ?_
  refine GW.mono (Q := fun x e' h' => x = .normal ∧ (lk e' 2 = .slice a id.length ca ∧ lk e' 3 = .slice b ky.length cb ∧ lk e' 4 = .int .i64 (si : Int) ∧ lk e' 5 = .pointer (some ⟨k5, 0, none⟩)) ∧ HS h6 h' ∧ ∃ k12 af cf a1 c1 a2 c2 a3 c3 a4 c4 cells, lk e' 12 = .pointer (some ⟨k12, 0, none⟩) ∧ h6 k12 = none ∧ h' k12 = some ⟨rM (.slice af fs.length cf) at_ nd (.slice a1 nd.id.length c1) (.slice a2 nd.ky.length c2) (.slice a3 nd.pf.length c3) (.slice a4 nd.hs.length c4) same, 0, true, false⟩ ∧
      OWNC 10 h6 h' (.slice af fs.length cf) fs.length cells ∧ cells.all uT = true ∧ (∀ (t : Nat) y, (fs.map (gE M))[t]? = some y → RNd h' ((cells.drop (t * 10)).take 10) y) ∧ RNd h' (nd.cs (.slice a1 nd.id.length c1) (.slice a2 nd.ky.length c2) (.slice a3 nd.pf.length c3) (.slice a4 nd.hs.length c4)) nd) ?_ ?_
  · cases sp with
    | no =>
      refine qJ ?_; repeat' (first | ((first | (with_reducible apply qI) | with_reducible apply qB) <;> try simp only [qM, qC, qF, qH, qD, qA, qG, reduceIte, seval, Int.cast_ofNat_Int, qN, qO, qL, qY, zA, zB, zZ, xA, qE m56 qG3]))
      refine (c_findN N (x.hs S6) (ri.hs S6)).mono ?_
      rintro _ h7 ⟨s7, rfl⟩
      refine qJ ?_; repeat' (first | ((with_reducible apply qI) <;> try simp only [qM, qC, qF, qH, qD, qA, qG, reduceIte, seval, Int.cast_ofNat_Int, qN, qO, qL, qY, zA, zB, zZ, xA]))
      refine xG fun k12 h8 m8 s8 f8 n8 => ?_
      simp only [rM]
      refine qJ ?_; repeat' (first | ((with_reducible apply qI) <;> try simp only [qM, qC, qF, qH, qD, qA, qG, reduceIte, seval, Int.cast_ofNat_Int, qN, qO, qL, qY, zA, zB, zZ, xA]))
      refine wC m8 fP rfl (by decide) rfl rfl rfl fun h9 m9 f9 => ?_
      simp only [vcells] at m9
      refine qJ ?_; repeat' (first | ((with_reducible apply qI) <;> try simp only [qM, qC, qF, qH, qD, qA, qG, reduceIte, seval, Int.cast_ofNat_Int, qN, qO, qL, qY, zA, zB, zZ, xA]))
      exact ⟨s7.trans (s8.upd n8 f9), k12, none, 0, none, 0, none, 0, none, 0, none, 0, [], rfl, s7.none_of n8, m9, OWNC.nil _ _ _, rfl, fun t y h => by simp at h, none, 0, none, 0, none, 0, none, 0, rfl, RB.nil _, RB.nil _, RB.nil _, RB.nil _⟩
    | @way i e fs nd w =>
      refine qJ ?_; repeat' (first | ((first | (with_reducible apply qI) | with_reducible apply qB) <;> try simp only [qM, qC, qF, qH, qD, qA, qG, reduceIte, seval, Int.cast_ofNat_Int, qN, qO, qL, qY, zA, zB, zZ, xA, qE m56 qG3]))
      refine (c_find N (x.hs S6) (ri.hs S6) (by omega) w (by omega)).mono ?_
      rintro _ h7 ⟨s7, af, cf, a1, c1, a2, c2, a3, c3, a4, c4, rfl, ⟨cells, ow, hu, hel⟩, rn⟩
      refine qJ ?_; repeat' (first | ((with_reducible apply qI) <;> try simp only [qM, qC, qF, qH, qD, qA, qG, reduceIte, seval, Int.cast_ofNat_Int, qN, qO, qL, qY, zA, zB, zZ, xA]))
      refine xG fun k12 h8 m8 s8 f8 n8 => ?_
      simp only [rM]
      refine qJ ?_; repeat' (first | ((with_reducible apply qI) <;> try simp only [qM, qC, qF, qH, qD, qA, qG, reduceIte, seval, Int.cast_ofNat_Int, qN, qO, qL, qY, zA, zB, zZ, xA]))
      refine wC m8 fP rfl (by decide) rfl rfl rfl fun h9 m9 f9 => ?_
      simp only [vcells] at m9
      have s79 := s8.upd n8 f9
      refine qJ ?_; repeat' (first | ((with_reducible apply qI) <;> try simp only [qM, qC, qF, qH, qD, qA, qG, reduceIte, seval, Int.cast_ofNat_Int, qN, qO, qL, qY, zA, zB, zZ, xA]))
      exact ⟨s7.trans s79, k12, af, cf, a1, c1, a2, c2, a3, c3, a4, c4, cells, rfl, s7.none_of n8, m9, ow.hs s79, hu, fun t y h => (hel t y h).hs s79, rn.hs s79⟩
  rintro _ e' h7 ⟨rfl, ⟨q2, q3, q4, q5⟩, s7, k12, af, cf, a1, c1, a2, c2, a3, c3, a4, c4, cells, q12, n12, m12, ow, hu, hel, rn⟩
  rw [gG]
  refine tC [(2, .slice a id.length ca), (3, .slice b ky.length cb), (4, .int .i64 (si : Int)), (5, .pointer (some ⟨k5, 0, none⟩)), (12, .pointer (some ⟨k12, 0, none⟩))] (by simp [q2, q3, q4, q5, q12]) ?_
  clear q2 q3 q4 q5 q12
  have S7 := S6.trans s7
  have m57 := s7 _ _ m56
  have k12k : k12 ≠ k := fun q => by rw [q, (x.hs S6).obj] at n12; cases n12
  have k5k : k5 ≠ k := fun q => by rw [q, x.obj] at n5; cases n5
  have x7 := x.hs S7
  have hno : decide ((qF2 fs.length at_ same : Int) > 16384 - (M.length : Int)) = false := decide_eq_false (by
    unfold qF2
    split <;> omega)
  have ld7 := zU (P := Tryz.prog) (t := 136) m12 fP rfl
  refine qJ ?_; repeat' (first | with_reducible apply qK | ((first | (with_reducible apply qI) | with_reducible refine zH xA xQ (by kernel_rfl) ?_) <;> try simp only [qM, qC, qF, qH, qD, qA, qG, reduceIte, seval, Int.cast_ofNat_Int, qN, qO, qL, qY, zA, zB, zZ, xA, ld7, qE m57 qG3]))
  refine (c_needs N h7 (by omega) at_ nd _ _ _ _ rfl same).mono ?_
  rintro _ h8 ⟨s8, rfl⟩
  have m58 := s8 _ _ m57
  have m128 := s8 _ _ m12
  have ld8 := zU (P := Tryz.prog) (t := 136) m128 fP rfl
  have x8 := x7.hs s8
  refine qJ ?_; repeat' (first | with_reducible apply qK | ((first | (with_reducible apply qI) | (with_reducible first | apply qB | apply qS | apply qR) | ((refine GTri.mono (c_Room _ x8) ?_); rintro _ _ ⟨rfl, hh9⟩; replace hh9 := hh9.symm; subst hh9)) <;> try simp only [qM, qC, qF, qH, qD, qA, qG, reduceIte, seval, Int.cast_ofNat_Int, qN, qO, qL, qY, zA, zB, zZ, xA, ld8, hno, qE m58 qG3]))
  have S8 := S7.trans s8
  refine (lQ N h8 (ri.hs S8) rfl).mono ?_
  rintro _ h9 ⟨s9, ar, cr, rfl, rr, _⟩
  refine qJ ?_; repeat' (first | ((with_reducible apply qI) <;> try simp only [qM, qC, qF, qH, qD, qA, qG, reduceIte, seval, Int.cast_ofNat_Int, qN, qO, qL, qY, zA, zB, zZ, xA]))
  refine xG fun k13 h10 m10 s10 f10 n10 => ?_
  refine qJ ?_; repeat' (first | ((with_reducible apply qI) <;> try simp only [qM, qC, qF, qH, qD, qA, qG, reduceIte, seval, Int.cast_ofNat_Int, qN, qO, qL, qY, zA, zB, zZ, xA]))
  refine zW m10 qV rfl (by simp) rfl rfl fun h11 m13 f11 => ?_
  simp only [List.set_cons_zero] at m13
  have s8b := s10.upd n10 f11
  have s811 : HS h8 h11 := s9.trans s8b
  have S11 := S8.trans s811
  have m511 := s811 _ _ m58
  have m1211 := s811 _ _ m128
  have x11 := x8.hs s811
  have rr11 := rr.hs s8b
  have n13h : h k13 = none := (S8.trans s9).none_of n10
  have k13k : k13 ≠ k := fun q => by rw [q, x.obj] at n13h; cases n13h
  refine qJ ?_; repeat' (first | with_reducible apply qK | ((first | (with_reducible apply qI) | with_reducible apply qB) <;> try simp only [qM, qC, qF, qH, qD, qA, qG, reduceIte, seval, Int.cast_ofNat_Int, qN, qO, qL, qY, zA, zB, zZ, xA, qE m511 qG3]))
  refine (c_Leaf N (s0.trans S11) t x11 (ri.hs S11) (rk.hs S11) hi hk hs (by omega)).mono ?_
  rintro _ h12 ⟨rfl, s12, fr12, v2, cs2, x12⟩
  refine qJ ?_; repeat' (first | ((with_reducible apply qI) <;> try simp only [qM, qC, qF, qH, qD, qA, qG, reduceIte, seval, Int.cast_ofNat_Int, qN, qO, qL, qY, zA, zB, zZ, xA]))
  refine xG fun k14 h14 m14 s14 f14 n14 => ?_
  refine qJ ?_; repeat' (first | ((with_reducible apply qI) <;> try simp only [qM, qC, qF, qH, qD, qA, qG, reduceIte, seval, Int.cast_ofNat_Int, qN, qO, qL, qY, zA, zB, zZ, xA]))
  refine zW m14 zT rfl (by simp) rfl rfl fun h15 m15 f15 => ?_
  simp only [List.set_cons_zero] at m15
  have s1215 : HS h12 h15 := s14.upd n14 f15
  have fr15 : FR 11 k h11 h15 := fr12.hs s1215
  have S015 := s12.trans s1215
  have x15 := x12.hs s1215
  have m1215 := fr15 _ _ m1211 (.inr ⟨k12k, by simp⟩)
  have m515 := fr15 _ _ m511 (.inr ⟨k5k, by simp⟩)
  have m1315 := fr15 _ _ m13 (.inr ⟨k13k, by simp⟩)
  have rr15 := rr11.fr fr15
  have rn15 := (rn.hs (s8.trans s811)).fr fr15
  simp only [rM] at m1215
  simp only [qM, qC, qF, qH, qD, qA, qG, reduceIte, seval, Int.cast_ofNat_Int, qN, qO, zZ]
  have n14h : h12 k14 = none := n14
  have n11 : ∀ {j B}, h11 j = some B → (j ≠ k → B.es ≠ 11 → j ≠ k14) := fun m n e q => by
    rw [← q] at n14
    rw [fr12 _ _ m (.inr ⟨n, e⟩)] at n14; cases n14
  have k14k : k14 ≠ k := fun q => by rw [q, x12.obj] at n14; cases n14
  have sb15 : HS h0 (jI k14 h15) := sF S015 (s12.none_of n14)
  refine qK ?_
  refine GW.mono (Q := fun x e' h' => x = .normal ∧ (lk e' 5 = .pointer (some ⟨k5, 0, none⟩) ∧ lk e' 12 = .pointer (some ⟨k12, 0, none⟩) ∧ lk e' 13 = .pointer (some ⟨k13, 0, none⟩) ∧ lk e' 14 = .pointer (some ⟨k14, 0, none⟩)) ∧ HS h0 h' ∧ FR 11 k (jI k14 h15) h' ∧ h' k14 = some ⟨[.int .i64 (S0.2 : Int)], 0, true, false⟩ ∧ ∃ v3 cs3, AA h0 h' k v3 cs3 S0.1) ?_ ?_
  · cases sp with
    | no =>
      have d : ((-1 : Int) != -1) = false := by decide
      refine qJ ?_; repeat' (first | with_reducible apply qK | ((first | (with_reducible apply qI) | (with_reducible first | apply qB | apply qS | apply qR)) <;> try simp only [qM, qC, qF, qH, qD, qA, qG, reduceIte, seval, Int.cast_ofNat_Int, qN, qO, qL, qY, zA, zB, zZ, xA, qE m1215 zT, qE m1215 rY, d]))
      exact ⟨S015, FR.of (dG _ _), m15, v2, cs2, x15⟩
    | @way i e fs nd w =>
      have d : ((e : Int) != -1) = true := by simp
      have he := (List.getElem?_eq_some_iff.1 w.end.1).1
      by_cases hsame : (nd.lf && nd.id == id) = true
      · rw [hsame] at m1215
        have el : rG id ky si M e nd = (M ++ [vF id ky si], M.length) := by unfold rG; rw [if_pos hsame]
        rw [el]
        refine qJ ?_; repeat' (first | with_reducible apply qK | ((first | (with_reducible apply qI) | (with_reducible first | apply qB | apply qS | apply qR)) <;> try simp only [qM, qC, qF, qH, qD, qA, qG, reduceIte, seval, Int.cast_ofNat_Int, qN, qO, qL, qY, zA, zB, zZ, xA, qE m1215 zT, qE m1215 rY, d]))
        exact ⟨S015, FR.of (dG _ _), m15, v2, cs2, x15⟩
      · have hsame' : (nd.lf && nd.id == id) = false := by simpa using hsame
        rw [hsame'] at m1215
        have el : rG id ky si M e nd = fQ (qU id) (M ++ [vF id ky si]) M.length e nd := by unfold rG; rw [if_neg hsame]
        rw [el]
        have rn15' := rn15
        obtain ⟨_, _, _, _, _, _, _, _, ee, y1, y2, y3, y4⟩ := rn15'
        simp only [Nd.cs] at ee
        injection ee with _ ee
        injection ee with ea ee
        injection ee with _ ee
        injection ee with _ ee
        injection ee with _ ee
        injection ee with ec ee
        injection ea with ea1 _ ea2
        injection ec with ec1 _ ec2
        subst ea1; subst ea2; subst ec1; subst ec2
        have ld := zU (P := Tryz.prog) (t := 136) m1215 fP rfl
        have ok := x.arr.ok.ok e nd w.end.1
        have hkl := vC id
        refine qJ ?_; repeat' (first | with_reducible apply qK | ((first | (with_reducible apply qI) | (with_reducible first | apply qB | apply qS)) <;> try simp only [qM, qC, qF, qH, qD, qA, qG, reduceIte, seval, Int.cast_ofNat_Int, qN, qO, qL, qY, zA, zB, zZ, xA, qE m1215 zT, qE m1215 rY, qE m515 qG3, qE m1315 qV, qE m15 zT, ld, d]))
        refine (c_part N S015 t x15 rr15 (by omega) (now := M.length) (e := e) (by simp) (by simp; omega) (by simp; omega) ok (.slice af fs.length cf) rfl false rn15 y1 y3).mono ?_
        rintro _ h16 ⟨rfl, s16, fr16, v3, cs3, x16⟩
        have m1416 := fr16 _ _ m15 (.inr ⟨k14k, by simp⟩)
        refine qJ ?_; repeat' (first | ((with_reducible apply qI) <;> try simp only [qM, qC, qF, qH, qD, qA, qG, reduceIte, seval, Int.cast_ofNat_Int, qN, qO, qL, qY, zA, zB, zZ, xA]))
        refine zW m1416 zT rfl (by simp) rfl rfl fun h17 m17 f17 => ?_
        simp only [List.set_cons_zero] at m17
        have fr17 : FR 11 k (jI k14 h15) h17 := fun j B m q => by
          have hj : j ≠ k14 := fun z => by rw [z, mP] at m; cases m
          rw [f17 j hj]
          exact fr16 j B (dG _ _ j B m) q
        refine qJ ?_; repeat' (first | ((with_reducible apply qI) <;> try simp only [qM, qC, qF, qH, qD, qA, qG, reduceIte, seval, Int.cast_ofNat_Int, qN, qO, qL, qY, zA, zB, zZ, xA]))
        exact ⟨s16.upd (s12.none_of n14) f17, fr17, m17, v3, cs3, x16.upd m1416 rfl k14k.symm f17⟩
  rintro _ e' h16 ⟨rfl, ⟨q5, q12, q13, q14⟩, S016, fr16, m1416, v3, cs3, x16⟩
  rw [gG]
  refine tC [(5, .pointer (some ⟨k5, 0, none⟩)), (12, .pointer (some ⟨k12, 0, none⟩)), (13, .pointer (some ⟨k13, 0, none⟩)), (14, .pointer (some ⟨k14, 0, none⟩))] (by simp [q5, q12, q13, q14]) ?_
  clear q5 q12 q13 q14
  obtain ⟨⟨L0, eL0⟩, hS2, hS1, hfork⟩ := sp.facts ti hi
  have hid15 : ∀ j, j ≠ k14 → jI k14 h15 j = h15 j := dF h15
  have n5' : k5 ≠ k14 := n11 m511 k5k (by simp)
  have n12' : k12 ≠ k14 := n11 m1211 k12k (by simp)
  have n13' : k13 ≠ k14 := n11 m13 k13k (by simp)
  have m516 := fr16 _ _ ((hid15 _ n5').trans m515) (.inr ⟨k5k, by simp⟩)
  have m1216 := fr16 _ _ ((hid15 _ n12').trans m1215) (.inr ⟨k12k, by simp⟩)
  have m1316 := fr16 _ _ ((hid15 _ n13').trans m1315) (.inr ⟨k13k, by simp⟩)
  have rr16 := (rr15.hx m15 rfl (zE hid15)).fr fr16
  have hel16 : ∀ (t : Nat) y, (fs.map (gE M))[t]? = some y → RNd h16 ((cells.drop (t * 10)).take 10) y := fun t y hy => ((((hel t y hy).hs (s8.trans s811)).fr fr15).hx m15 rfl (zE hid15)).fr fr16
  have xk15 : jI k14 h15 k = some ⟨[.int .i64 4, .int .i64 16384, v2, .slice none 0 0], 0, true, false⟩ := by rw [hid15 k k14k.symm]; exact x15.obj
  have ow16 : OWNC 10 h6 h16 (.slice af fs.length cf) fs.length cells := (((ow.hs (s8.trans s811)).fr fr15 x11.obj (by simp) (by decide)).by5 m15 hid15).fr fr16 xk15 (by simp) (by decide)
  refine qJ ?_; repeat' (first | with_reducible apply qK | ((first | (with_reducible apply qI) | with_reducible apply qB) <;> try simp only [qM, qC, qF, qH, qD, qA, qG, reduceIte, seval, Int.cast_ofNat_Int, qN, qO, qL, qY, zA, zB, zZ, xA, qE m1216 uG]))
  refine (c_BwdN N h16 af fs.length cf).mono ?_
  rintro _ h17 ⟨⟨kb, rfl, mb, nb⟩, s17⟩
  have m1417 := s17 _ _ m1416
  have hid17 : ∀ j, j ≠ k14 → jI k14 h17 j = h17 j := dF h17
  have nkb : kb ≠ k14 := fun q => by rw [q, m1416] at nb; cases nb
  have nkbk : kb ≠ k := fun q => by rw [q, x16.obj] at nb; cases nb
  have b5 := (hid17 _ n5').trans (s17 _ _ m516)
  have b13 := (hid17 _ n13').trans (s17 _ _ m1316)
  have bb := (hid17 _ nkb).trans mb
  have rrb := (rr16.hs s17).hx m1417 rfl (zE hid17)
  have owb := (ow16.hs s17).by5 m1417 hid17
  have helb : ∀ (t : Nat) y, (fs.map (gE M))[t]? = some y → RNd (jI k14 h17) ((cells.drop (t * 10)).take 10) y := fun t y hy => ((hel16 t y hy).hs s17).hx m1417 rfl (zE hid17)
  have sbh : FR 11 k (jI k14 h17) h17 := FR.of (dG _ _)
  have xkb : jI k14 h17 k = some ⟨[.int .i64 4, .int .i64 16384, v3, .slice none 0 0], 0, true, false⟩ := by rw [hid17 k k14k.symm]; exact (x16.hs s17).obj
  have n14b : jI k14 h17 k14 = none := mP _ _
  have frb : FR 11 k h (jI k14 h17) := fun j B m q => by
    have hj14 : j ≠ k14 := fun z => by
      have := s811 _ _ (s8 _ _ (S7 j B m))
      have := fr12 j B this q
      rw [z, n14] at this; cases this
    have q2 := fr15 _ _ (s811 _ _ (s8 _ _ (S7 j B m))) q
    have q3 := fr16 _ _ ((hid15 _ hj14).trans q2) q
    exact (hid17 _ hj14).trans (s17 _ _ q3)
  generalize jI k14 h17 = hb at b5 b13 bb rrb owb helb sbh xkb n14b frb
  refine qJ ?_; repeat' (first | with_reducible apply qQ | ((with_reducible apply qI) <;> try simp only [qM, qC, qF, qH, qD, qA, qG, reduceIte, seval, Int.cast_ofNat_Int, qN, qO, qL, qY, zA, zB, zZ, xA]))
  refine qV5 (gf := 131) (fb := [.pointer (some ⟨kb, 0, none⟩)]) (by simp [lk]) rfl fs.length
    (InsI M id S0 fs h0 hb k k14)
    (fun i => (.int .i64 (i : Int), .agg ((cells.drop (i * 10)).take 10).toArray)) ?_ (fun l' r' h2' hI y => c_bwdN1 N l' r' (hx := h6) (a := af) (c := cf) (by omega) (InsI M id S0 fs h0 hb k k14) hI (fun i h' hI => ?_) y) (fun i hi h18 hI => ?_) (fun h18 hI => ?_)
  · exact ⟨S0, by simp, S016.trans s17, sbh, m1417, hS2, by omega, ⟨L0, eL0⟩, v3, cs3, x16.hs s17⟩
  · obtain ⟨S, _, _, frS, _⟩ := hI
    exact ⟨frS _ _ bb (.inr ⟨nkbk, by simp⟩), owb.fr frS xkb (by simp) (by decide)⟩
  · obtain ⟨S, eS, s18, fr18, m18, hlt, hle, ⟨L, eL⟩, v18, cs18, x18⟩ := hI
    obtain ⟨p, hp⟩ := yK hi
    obtain ⟨y, hy, hst⟩ := hfork i p hp
    have hpM := (List.getElem?_eq_some_iff.1 hy).1
    have fi := ti.fork p y hy (vO hst).1
    have fil := fi.l
    have fir := fi.r
    have oky := x.arr.ok.ok p y hy
    have hpf := oky.pf
    have hdp : y.dp ≤ 8 * y.pf.length := by
      obtain ⟨jd, e1, e2⟩ := fi.pf
      rw [e1, wR]; omega
    have hML : M.length ≤ S.1.length := by rw [eL]; simp
    have enp : gE S.1 p = y := vK (by rw [eL, List.getElem?_append_left hpM]; exact hy)
    have rn := (helb i y (by simp [hp, vK hy])).fr fr18
    obtain ⟨b1, d1, b2, d2, b3, d3, b4, d4, ee, q1, q2, q3, q4⟩ := rn
    simp only [ee, Nd.cs, yV]
    have m518 := fr18 _ _ b5 (.inr ⟨k5k, by simp⟩)
    have m1318 := fr18 _ _ b13 (.inr ⟨k13k, by simp⟩)
    have rr18 := rrb.fr fr18
    refine qJ ?_; repeat' (first | ((first | (with_reducible apply qI) | with_reducible apply qB) <;> try simp only [qM, qC, qF, qH, qD, qA, qG, reduceIte, seval, Int.cast_ofNat_Int, qN, qO, qL, qY, zA, zB, zZ, xA]))
    refine xG fun k17 h19 m19 s19 f19 n19 => ?_
    refine qJ ?_; repeat' (first | ((with_reducible apply qI) <;> try simp only [qM, qC, qF, qH, qD, qA, qG, reduceIte, seval, Int.cast_ofNat_Int, qN, qO, qL, qY, zA, zB, zZ, xA]))
    refine wC m19 wF rfl (by decide) rfl rfl rfl fun h20 m20 f20 => ?_
    simp only [vcells] at m20
    have s1820 := s19.upd n19 f20
    have m1320 := s1820 _ _ m1318
    have m1420 := s1820 _ _ m18
    have rr20 := rr18.hs s1820
    have oyd := oky.dp
    cases hbt : (xP (qU id) y.dp == 1)
    · have hbq : (xP (qU id) y.dp = 1) = False := by simpa using hbt
      refine qJ ?_; repeat' (first | (with_reducible first | apply qK | apply qQ) | ((first | (with_reducible apply qI) | (with_reducible first | apply qB | apply qS) | ((refine GTri.mono (gR _ _ rr20 y.dp (by omega)) ?_); rintro _ _ ⟨rfl, hh9⟩; replace hh9 := hh9.symm; subst hh9)) <;> try simp only [qM, qC, qF, qH, qD, qA, qG, reduceIte, seval, Int.cast_ofNat_Int, qN, qO, qL, qY, zA, zB, zZ, xA, hbt, qE m1320 qV, qE m20 zT, qE m1420 zT]))
      refine zW m20 zT rfl (by simp) rfl rfl fun h21 m21 f21 => ?_
      simp only [List.set_cons_zero, List.set_cons_succ] at m21
      have S21 : HS h18 h21 := (s19.upd n19 f20).upd n19 f21
      have fr21 : FR 11 k hb h21 := fr18.new n19 (s19.upd n19 f20) f21
      have m1421 := S21 _ _ m18
      have m521 := S21 _ _ m518
      have x21 := x18.hs S21
      refine qJ ?_; repeat' (first | ((first | (with_reducible apply qI) | with_reducible apply qB) <;> try simp only [qM, qC, qF, qH, qD, qA, qG, reduceIte, seval, Int.cast_ofNat_Int, qN, qO, qL, qY, zA, zB, zZ, xA, qE m521 qG3, qE m21 zT, qE m21 qV]))
      refine (tX N (s18.trans S21) t x21 (((q3.hs S21))) hpf (d := y.dp) (l := S.2) (r := y.r) hdp (by omega) (by omega) (by omega)).mono ?_
      rintro _ h22 ⟨rfl, s22, fr22, v22, cs22, x22⟩
      have m1422 := fr22 _ _ m1421 (.inr ⟨k14k, by simp⟩)
      refine qJ ?_; repeat' (first | ((with_reducible apply qI) <;> try simp only [qM, qC, qF, qH, qD, qA, qG, reduceIte, seval, Int.cast_ofNat_Int, qN, qO, qL, qY, zA, zB, zZ, xA]))
      refine zW m1422 zT rfl (by simp) rfl rfl fun h23 m23 f23 => ?_
      simp only [List.set_cons_zero] at m23
      have n14h0 : h0 k14 = none := s12.none_of n14
      have fr23 : FR 11 k hb h23 := fun j B m q => by
        have hj : j ≠ k14 := fun z => by rw [z, n14b] at m; cases m
        rw [f23 j hj]
        exact fr22 j B (fr21 j B m q) q
      have eu : pP (qU id) S p = (S.1 ++ [vG S.1 y.dp y.pf S.2 y.r], S.1.length) := by
        unfold pP
        rw [enp]
        simp only [hbq, if_true, if_false]
      refine qJ ?_; repeat' (first | ((with_reducible apply qI) <;> try simp only [qM, qC, qF, qH, qD, qA, qG, reduceIte, seval, Int.cast_ofNat_Int, qN, qO, qL, qY, zA, zB, zZ, xA, zM7]))
      refine ⟨pP (qU id) S p, by rw [eS]; exact (sN (M := M) hp).symm, s22.upd n14h0 f23, fr23, by rw [eu]; exact m23, by rw [eu]; simp, by rw [eu]; simp; omega, ⟨L ++ [vG S.1 y.dp y.pf S.2 y.r], by rw [eu, eL, List.append_assoc]⟩, v22, cs22, ?_⟩
      rw [eu]
      exact x22.upd m1422 rfl k14k.symm f23
    · have hbq : (xP (qU id) y.dp = 1) = True := by simpa using hbt
      refine qJ ?_; repeat' (first | (with_reducible first | apply qK | apply qQ) | ((first | (with_reducible apply qI) | (with_reducible first | apply qB | apply qS) | ((refine GTri.mono (gR _ _ rr20 y.dp (by omega)) ?_); rintro _ _ ⟨rfl, hh9⟩; replace hh9 := hh9.symm; subst hh9)) <;> try simp only [qM, qC, qF, qH, qD, qA, qG, reduceIte, seval, Int.cast_ofNat_Int, qN, qO, qL, qY, zA, zB, zZ, xA, hbt, qE m1320 qV, qE m20 zT, qE m1420 zT]))
      refine zW m20 zT rfl (by simp) rfl rfl fun h21 m21 f21 => ?_
      simp only [List.set_cons_zero, List.set_cons_succ] at m21
      have S21 : HS h18 h21 := (s19.upd n19 f20).upd n19 f21
      have fr21 : FR 11 k hb h21 := fr18.new n19 (s19.upd n19 f20) f21
      have m1421 := S21 _ _ m18
      have m521 := S21 _ _ m518
      have x21 := x18.hs S21
      refine qJ ?_; repeat' (first | ((first | (with_reducible apply qI) | with_reducible apply qB) <;> try simp only [qM, qC, qF, qH, qD, qA, qG, reduceIte, seval, Int.cast_ofNat_Int, qN, qO, qL, qY, zA, zB, zZ, xA, qE m521 qG3, qE m21 zT, qE m21 qV]))
      refine (tX N (s18.trans S21) t x21 (((q3.hs S21))) hpf (d := y.dp) (l := y.l) (r := S.2) hdp (by omega) (by omega) (by omega)).mono ?_
      rintro _ h22 ⟨rfl, s22, fr22, v22, cs22, x22⟩
      have m1422 := fr22 _ _ m1421 (.inr ⟨k14k, by simp⟩)
      refine qJ ?_; repeat' (first | ((with_reducible apply qI) <;> try simp only [qM, qC, qF, qH, qD, qA, qG, reduceIte, seval, Int.cast_ofNat_Int, qN, qO, qL, qY, zA, zB, zZ, xA]))
      refine zW m1422 zT rfl (by simp) rfl rfl fun h23 m23 f23 => ?_
      simp only [List.set_cons_zero] at m23
      have n14h0 : h0 k14 = none := s12.none_of n14
      have fr23 : FR 11 k hb h23 := fun j B m q => by
        have hj : j ≠ k14 := fun z => by rw [z, n14b] at m; cases m
        rw [f23 j hj]
        exact fr22 j B (fr21 j B m q) q
      have eu : pP (qU id) S p = (S.1 ++ [vG S.1 y.dp y.pf y.l S.2], S.1.length) := by
        unfold pP
        rw [enp]
        simp only [hbq, if_true, if_false]
      refine qJ ?_; repeat' (first | ((with_reducible apply qI) <;> try simp only [qM, qC, qF, qH, qD, qA, qG, reduceIte, seval, Int.cast_ofNat_Int, qN, qO, qL, qY, zA, zB, zZ, xA, zM7]))
      refine ⟨pP (qU id) S p, by rw [eS]; exact (sN (M := M) hp).symm, s22.upd n14h0 f23, fr23, by rw [eu]; exact m23, by rw [eu]; simp, by rw [eu]; simp; omega, ⟨L ++ [vG S.1 y.dp y.pf y.l S.2], by rw [eu, eL, List.append_assoc]⟩, v22, cs22, ?_⟩
      rw [eu]
      exact x22.upd m1422 rfl k14k.symm f23
  · obtain ⟨S, eS, s18, fr18, m18, hlt, hle, ⟨L, eL⟩, v18, cs18, x18⟩ := hI
    rw [List.drop_zero] at eS
    refine qJ ?_; repeat' (first | with_reducible apply qK | ((first | (with_reducible apply qI) | (with_reducible first | apply qB | apply qP)) <;> try simp only [qM, qC, qF, qH, qD, qA, qG, reduceIte, seval, Int.cast_ofNat_Int, qN, qO, qL, qY, zA, zB, zZ, xA, qE m18 zT]))
    subst eS
    exact ⟨rfl, s18, fun j B m q => fr18 j B (frb j B m q) q, v18, cs18, x18⟩
end
theorem yO : type_of% (And.intro mJ (And.intro zP (And.intro yW (And.intro vW (And.intro xS (And.intro jG (And.intro gU (And.intro wO rs92)))))))) := And.intro mJ (And.intro zP (And.intro yW (And.intro vW (And.intro xS (And.intro jG (And.intro gU (And.intro wO rs92)))))))
theorem yH : type_of% (And.intro zP (And.intro yW (And.intro ty31 (And.intro vW (And.intro xS (And.intro jG (And.intro gU (And.intro wO (And.intro qT8 rs133))))))))) := And.intro zP (And.intro yW (And.intro ty31 (And.intro vW (And.intro xS (And.intro jG (And.intro gU (And.intro wO (And.intro qT8 rs133))))))))
theorem vV : type_of% (And.intro mJ (And.intro zP (And.intro yW (And.intro ty31 (And.intro vW (And.intro xS (And.intro jG (And.intro gU (And.intro wO rs90))))))))) := And.intro mJ (And.intro zP (And.intro yW (And.intro ty31 (And.intro vW (And.intro xS (And.intro jG (And.intro gU (And.intro wO rs90))))))))
def ivs (l : List Nat) : List Value := l.map fun (p : Nat) => .int .i64 (p : Int)
theorem ivs_u8 (l : List Nat) : (ivs l).all uT = true := by simp only [ivs, List.all_map]; exact List.all_eq_true.2 (fun _ _ => rfl)
section
variable {h0 h h' : GH} {k : Nat} {v : Value} {cs : List Value} {M : List Nd}
theorem qZ5 (N : Nat) (x : AB h0 h k v cs M) {id ky : List UInt8} {si : Nat} {rt at_ : Int} {fs : List Nat} {nd : Nd} {same : Bool} {S0 : List Nd × Nat} (sp : Spot M id ky si rt fs at_ nd same S0) :
    GTri Tryz.prog N 54 [.pointer (some ⟨k, 0, none⟩), .int .i64 at_] h fun u h' => HS h h' ∧ ∃ cn, u = .tuple #[.agg cn.toArray, .bool (!(at_ == -1))] ∧ RNd h' cn nd := by
  cases sp with
  | no =>
    refine (lO N x (.inl (by omega))).mono ?_
    rintro _ h1 ⟨s1, rfl⟩
    exact ⟨s1, zN, rfl, none, 0, none, 0, none, 0, none, 0, rfl, RB.nil _, RB.nil _, RB.nil _, RB.nil _⟩
  | @way i e fs nd w =>
    refine (lP N x w.end.1).mono ?_
    rintro _ h1 ⟨s1, cn, rfl, r1⟩
    have : ((e : Int) == -1) = false := by first | (simp; done) | (simp; omega)
    exact ⟨s1, cn, by rw [this]; rfl, r1⟩
theorem qZ6 (N : Nat) (x : AB h0 h k v cs M) {id ky : List UInt8} {si : Nat} {rt at_ : Int} {fs : List Nat} {nd : Nd} {same : Bool} {S0 : List Nd × Nat} (sp : Spot M id ky si rt fs at_ nd same S0) :
    GTri Tryz.prog N 54 [.pointer (some ⟨k, 0, none⟩), .int .i64 rt] h fun u h' => HS h h' ∧ ∃ cn y, u = .tuple #[.agg cn.toArray, .bool (!(rt == -1))] ∧ RNd h' cn y := by
  cases sp with
  | no =>
    refine (lO N x (.inl (by omega))).mono ?_
    rintro _ h1 ⟨s1, rfl⟩
    exact ⟨s1, zN, ⟨false, [], [], 0, 0, [], 0, 0, 0, []⟩, rfl, none, 0, none, 0, none, 0, none, 0, rfl, RB.nil _, RB.nil _, RB.nil _, RB.nil _⟩
  | @way i e fs nd w =>
    obtain ⟨y, hy⟩ : ∃ y, M[i]? = some y := by
      cases w with
      | stop h1 _ => exact ⟨_, h1⟩
      | go h1 _ _ => exact ⟨_, h1⟩
    refine (lP N x hy).mono ?_
    rintro _ h1 ⟨s1, cn, rfl, r1⟩
    have : ((i : Int) == -1) = false := by first | (simp; done) | (simp; omega)
    exact ⟨s1, cn, y, by rw [this]; rfl, r1⟩
theorem zI0 (N : Nat) (x : AB h0 h k v cs M) {a : Option Addr} {c : Nat} {id ky : List UInt8} {si : Nat} {rt at_ : Int} {fs : List Nat} {nd : Nd} {same : Bool} {S0 : List Nd × Nat} (sp : Spot M id ky si rt fs at_ nd same S0) (hfs : fs.length ≤ 8 * (qU id).length)
    (rr : RB h (.slice a (qU id).length c) (qU id)) :
    GTri Tryz.prog N 92 [.pointer (some ⟨k, 0, none⟩), .int .i64 rt, .slice a (qU id).length c] h fun u h' => HS h h' ∧ ∃ af cf, u = .tuple #[.slice af fs.length cf, .int .i64 at_] ∧ OWNC 1 h h' (.slice af fs.length cf) fs.length (ivs fs) := by
  have hkl := vC id
  have w8 : IntKind.i64.wrap (8 * ((qU id).length : Int)) = 8 * ((qU id).length : Int) := by rw [wrap64 (by omega) (by omega)]
  have w9 : IntKind.i64.wrap (8 * ((qU id).length : Int) + 1) = 8 * ((qU id).length : Int) + 1 := by rw [wrap64 (by omega) (by omega)]
  refine xH Tryz.func92 rfl gf92 ok92 (by simp [Tryz.ntmps92]) ?_
  refine qJ ?_; repeat' (first | (with_reducible first | apply qK | apply qQ) | ((first | (with_reducible apply qI) | with_reducible apply qB) <;> try simp only [qM, qC, qF, qH, qD, qA, qG, reduceIte, seval, Int.cast_ofNat_Int, qN, qO, yO, w8, w9]))
  cases sp with
  | no =>
    refine xL [0, 2, 16] (fun (j : Nat) => [(8, .slice none 0 0), (9, .int .i64 (-1)), (17, .int .i64 0)]) (fun q j h' => q = 0 ∧ h' = h) 0 0 (by simp [lk]) ⟨rfl, rfl⟩ ?_
    rintro _ _ _ ⟨rfl, rfl⟩
    have d : decide ((0 : Int) < 8 * ((qU id).length : Int) + 1) = true := decide_eq_true (by omega)
    refine qJ ?_; repeat' (first | (with_reducible first | apply qK | apply qQ) | ((first | (with_reducible apply qI) | (with_reducible first | apply qB | apply qS | apply qR)) <;> try simp only [qM, qC, qF, qH, qD, qA, qG, reduceIte, seval, Int.cast_ofNat_Int, qN, qO, yO, d]))
    refine (lO N x (.inl (by omega))).mono ?_
    rintro _ h1 ⟨s1, rfl⟩
    simp only [zN]
    refine qJ ?_; repeat' (first | ((with_reducible apply qI) <;> try simp only [qM, qC, qF, qH, qD, qA, qG, reduceIte, seval, Int.cast_ofNat_Int, qN, qO, yO]))
    refine xG fun k11 h11 m11 s11 f11 n11 => ?_
    refine qJ ?_; repeat' (first | ((with_reducible apply qI) <;> try simp only [qM, qC, qF, qH, qD, qA, qG, reduceIte, seval, Int.cast_ofNat_Int, qN, qO, yO]))
    refine wC m11 wF rfl (by decide) rfl rfl rfl fun h12 m12 f12 => ?_
    refine qJ ?_; repeat' (first | with_reducible apply qK | ((first | (with_reducible apply qI) | (with_reducible first | apply qB | apply qS | apply qP)) <;> try simp only [qM, qC, qF, qH, qD, qA, qG, reduceIte, seval, Int.cast_ofNat_Int, qN, qO, yO]))
    exact ⟨s1.trans (s11.upd n11 f12), none, 0, rfl, OWNC.nil _ _ _⟩
  | @way i e fs nd w =>
    obtain ⟨w0, wf⟩ := w.at
    obtain ⟨we, ws⟩ := w.end
    refine xL [0, 2, 16] (fun (s : Nat × Option Addr × Nat × Nat) => [(8, .slice s.2.1 s.1 s.2.2.1), (9, .int .i64 (s.2.2.2 : Int)), (17, .int .i64 (s.1 : Int))])
      (fun q s h' => fs.length - s.1 = q ∧ s.1 ≤ fs.length ∧ HS h h' ∧ OWNC 1 h h' (.slice s.2.1 s.1 s.2.2.1) s.1 (ivs (fs.take s.1)) ∧ (fs ++ [e])[s.1]? = some s.2.2.2) fs.length (0, none, 0, i) (by simp [lk]) ⟨rfl, by simp, HS.refl _, OWNC.nil _ _ _, w0⟩ ?_
    rintro _ ⟨j, af, cf, p⟩ h10 ⟨rfl, hj, s10, ow, hp⟩
    simp only at hj ow hp
    have hpM : ∃ y, M[p]? = some y ∧ (j < fs.length → fs[j]? = some p ∧ jF (qU id) y = false) ∧ (j = fs.length → e = p ∧ nd = y) := by
      by_cases hjl : j < fs.length
      · rw [List.getElem?_append_left hjl] at hp
        obtain ⟨y, q1, q2, _⟩ := wf j p hp
        exact ⟨y, q1, fun _ => ⟨hp, q2⟩, fun q => by omega⟩
      · have : j = fs.length := by omega
        subst this
        rw [List.getElem?_append_right (by omega), Nat.sub_self] at hp
        cases hp
        exact ⟨nd, we, fun q => by omega, fun _ => ⟨rfl, rfl⟩⟩
    obtain ⟨y, hy, yg, ye⟩ := hpM
    have x10 := x.hs s10
    have oky := x10.arr.ok.ok p y hy
    have hpf := oky.pf
    have hdp := oky.dp
    have d : decide ((j : Int) < 8 * ((qU id).length : Int) + 1) = true := decide_eq_true (by omega)
    have wi : IntKind.i64.wrap ((j : Int) + 1) = ((j + 1 : Nat) : Int) := by rw [wrap64 (by omega) (by omega)]; omega
    refine qJ ?_; repeat' (first | (with_reducible first | apply qK | apply qQ) | ((first | (with_reducible apply qI) | (with_reducible first | apply qB | apply qS | apply qR)) <;> try simp only [qM, qC, qF, qH, qD, qA, qG, reduceIte, seval, Int.cast_ofNat_Int, qN, qO, yO, d]))
    refine (lP N x10 hy).mono ?_
    rintro _ h11 ⟨s11, cn, rfl, r11⟩
    obtain ⟨a1, c1, a2, c2, a3, c3, a4, c4, rfl, r1, r2, r3, r4⟩ := r11
    refine qJ ?_; repeat' (first | ((with_reducible apply qI) <;> try simp only [qM, qC, qF, qH, qD, qA, qG, reduceIte, seval, Int.cast_ofNat_Int, qN, qO, yO]))
    refine xG fun k12 h12 m12 s12 f12 n12 => ?_
    refine qJ ?_; repeat' (first | ((with_reducible apply qI) <;> try simp only [qM, qC, qF, qH, qD, qA, qG, reduceIte, seval, Int.cast_ofNat_Int, qN, qO, yO]))
    refine vJ m12 wF rfl (by decide) rfl rfl rfl fun h13 m13 f13 => ?_
    simp only [Nd.cs] at m13
    have S13 := s11.trans (s12.upd n12 f13)
    have q3 := r3.hs (s12.upd n12 f13)
    have rb13 := (rr.hs s10).hs S13
    by_cases hjl : j < fs.length
    case neg =>
      obtain ⟨rfl, rfl⟩ := ye (by omega)
      obtain rfl : j = fs.length := by omega
      rw [List.take_of_length_le (Nat.le_refl _)] at ow
      cases hlf : nd.lf
      case true =>
        rw [hlf] at m13
        refine qJ ?_; repeat' (first | with_reducible apply qK | ((first | (with_reducible apply qI) | (with_reducible first | apply qB | apply qS | apply qR | apply qP)) <;> try simp only [qM, qC, qF, qH, qD, qA, qG, reduceIte, seval, Int.cast_ofNat_Int, qN, qO, yO, qE m13 rY, qE m13 qV, qE m13 zT, wi]))
        exact ⟨s10.trans S13, af, cf, rfl, ow.hs S13⟩
      have hnb : fV (qU id) nd.pf (nd.dp : Int) = false := by
        unfold jF at ws
        rw [hlf] at ws
        simpa using ws
      rw [hlf] at m13
      refine qJ ?_; repeat' (first | with_reducible apply qK | ((first | (with_reducible apply qI) | (with_reducible first | apply qB | apply qS | apply qR)) <;> try simp only [qM, qC, qF, qH, qD, qA, qG, reduceIte, seval, Int.cast_ofNat_Int, qN, qO, yO, qE m13 rY, qE m13 qV, qE m13 zT]))
      refine (fF N h13 rb13 q3 (by omega) (by omega) nd.dp (WalkArith.wf_i64 (by omega))).mono ?_
      rintro _ h14 ⟨rfl, s14⟩
      refine qJ ?_; repeat' (first | with_reducible apply qK | ((first | (with_reducible apply qI) | (with_reducible first | apply qB | apply qS | apply qP)) <;> try simp only [qM, qC, qF, qH, qD, qA, qG, reduceIte, seval, Int.cast_ofNat_Int, qN, qO, yO, hnb]))
      exact ⟨(s10.trans S13).trans s14, af, cf, rfl, (ow.hs S13).hs s14⟩
    obtain ⟨hfj, hst⟩ := yg hjl
    obtain ⟨hlf, hbg⟩ := vO hst
    rw [hlf] at m13
    obtain ⟨y', hy', _, hkid⟩ := wf j p hfj
    rw [hy] at hy'
    cases hy'
    refine qJ ?_; repeat' (first | with_reducible apply qK | ((first | (with_reducible apply qI) | (with_reducible first | apply qB | apply qS | apply qR)) <;> try simp only [qM, qC, qF, qH, qD, qA, qG, reduceIte, seval, Int.cast_ofNat_Int, qN, qO, yO, qE m13 rY, qE m13 qV, qE m13 zT]))
    refine (fF N h13 rb13 q3 (by omega) (by omega) y.dp (WalkArith.wf_i64 (by omega))).mono ?_
    rintro _ h14 ⟨rfl, s14⟩
    have m14 := s14 _ _ m13
    have S14 := S13.trans s14
    have rb14 := rb13.hs s14
    refine qJ ?_; repeat' (first | with_reducible apply qK | ((first | (with_reducible apply qI) | (with_reducible first | apply qB | apply qS | apply qR)) <;> try simp only [qM, qC, qF, qH, qD, qA, qG, reduceIte, seval, Int.cast_ofNat_Int, qN, qO, yO, hbg]))
    refine dA el127 rfl rfl (by decide) (by decide) rfl fun k15 h15 b15 s15 f15 n15 => ?_
    have S15 := S14.trans s15
    refine qJ ?_; repeat' (first | ((with_reducible apply qI) <;> try simp only [qM, qC, qF, qH, qD, qA, qG, reduceIte, seval, Int.cast_ofNat_Int, qN, qO, yO]))
    refine uO el127 Tryz.underlying127 rfl (s10.trans S15) (ow.hs S15) b15 rfl rfl (by omega) (by simp only [maxLen]; omega) fun v16 h16 s16 fr16 o16 => ?_
    obtain ⟨a16, c16, rfl⟩ := o16.form
    have m16 := tU fr16 (s15 _ _ m14) (by simp)
    have hu : (ivs (fs.take j)).all uT = true := ivs_u8 _
    have rb16 := qN8 fr16 hu (rb14.hs s15)
    have et : ivs (fs.take j) ++ vcells (.int .i64 (p : Int)) = ivs (fs.take (j + 1)) := by
      have h1 := List.getElem?_eq_some_iff.1 hfj
      rw [List.take_succ_eq_append_getElem h1.1, h1.2]
      simp [ivs, vcells]
    rw [et] at o16
    have ek : kA (qU id) y = if xP (qU id) y.dp = 1 then y.r else y.l := rfl
    cases hbt : (xP (qU id) y.dp == 1)
    · have hbq : ¬ (xP (qU id) y.dp = 1) := by simpa using hbt
      rw [if_neg hbq] at ek
      rw [ek] at hkid
      refine qJ ?_; repeat' (first | with_reducible apply qK | ((first | (with_reducible apply qI) | (with_reducible first | apply qB | apply qS) | ((refine GTri.mono (kN _ _ rb16 y.dp (by omega)) ?_); rintro _ _ ⟨rfl, hh9⟩; replace hh9 := hh9.symm; subst hh9)) <;> try simp only [qM, qC, qF, qH, qD, qA, qG, reduceIte, seval, Int.cast_ofNat_Int, qN, qO, yO, hbt, qE m16 zT, wi]))
      exact ⟨_, (j + 1, a16, c16, y.l), by simp only; omega, (by simp only [List.forall_mem_cons, List.not_mem_nil, false_implies, implies_true, List.map, List.cons_append, List.nil_append, lk, Nat.reduceEqDiff, reduceIte, and_true, true_and]), rfl, by simp only; omega, s16, o16, hkid⟩
    · have hbq : xP (qU id) y.dp = 1 := by simpa using hbt
      rw [if_pos hbq] at ek
      rw [ek] at hkid
      refine qJ ?_; repeat' (first | with_reducible apply qK | ((first | (with_reducible apply qI) | (with_reducible first | apply qB | apply qS) | ((refine GTri.mono (kN _ _ rb16 y.dp (by omega)) ?_); rintro _ _ ⟨rfl, hh9⟩; replace hh9 := hh9.symm; subst hh9)) <;> try simp only [qM, qC, qF, qH, qD, qA, qG, reduceIte, seval, Int.cast_ofNat_Int, qN, qO, yO, hbt, qE m16 zT, wi]))
      exact ⟨_, (j + 1, a16, c16, y.r), by simp only; omega, (by simp only [List.forall_mem_cons, List.not_mem_nil, false_implies, implies_true, List.map, List.cons_append, List.nil_append, lk, Nat.reduceEqDiff, reduceIte, and_true, true_and]), rfl, by simp only; omega, s16, o16, hkid⟩
theorem Spot.noa {id ky : List UInt8} {si : Nat} {rt at_ : Int} {fs : List Nat} {nd : Nd} {same : Bool} {S0 : List Nd × Nat} (sp : Spot M id ky si rt fs at_ nd same S0) : (at_ == -1) = (rt == -1) ∧ ((at_ == -1) = true → same = false) ∧ ((at_ == -1) = false → same = (nd.lf && nd.id == id) ∧ 0 ≤ at_) := by
  cases sp with
  | no => exact ⟨rfl, fun _ => rfl, fun q => by simp at q⟩
  | @way i e fs nd w =>
    have h1 : ((i : Int) == -1) = false := by first | (simp; done) | (simp; omega)
    have h2 : ((e : Int) == -1) = false := by first | (simp; done) | (simp; omega)
    exact ⟨by rw [h1, h2], (fun q => by rw [h2] at q; cases q), (fun _ => ⟨rfl, by omega⟩)⟩
theorem c_rGet (N : Nat) (x : AB h0 h k v cs M) {a : Option Addr} {c : Nat} {id ky : List UInt8} {si : Nat} {rt at_ : Int} {fs : List Nat} {nd : Nd} {same : Bool} {S0 : List Nd × Nat} (sp : Spot M id ky si rt fs at_ nd same S0) (hfs : fs.length ≤ 8 * (qU id).length)
    (ri : RB h (.slice a id.length c) id) :
    GTri Tryz.prog N 133 [.pointer (some ⟨k, 0, none⟩), .int .i64 rt, .slice a id.length c] h fun u h' => HS h h' ∧ ∃ y z w, u = .tuple #[.agg #[y, z, w], .bool same] ∧ [y, z, w].all zF = true := by
  obtain ⟨_, sn, sy⟩ := sp.noa
  refine xH Tryz.func133 rfl gf133 ok133 (by simp [Tryz.ntmps133]) ?_
  repeat' (first | with_reducible apply qK | (with_reducible apply qB <;> try simp only [qM, qC, qF, qH, qD, qA, qG, reduceIte, seval, Int.cast_ofNat_Int, qN, qO, yH]))
  refine xG fun k6 h6 m6 s6 f6 n6 => ?_
  refine qJ ?_; repeat' (first | with_reducible apply qK | ((first | (with_reducible apply qI) | with_reducible apply qB) <;> try simp only [qM, qC, qF, qH, qD, qA, qG, reduceIte, seval, Int.cast_ofNat_Int, qN, qO, yH]))
  refine (tD N h6 (ri.hs s6) rfl).mono ?_
  rintro _ h7 ⟨s7, ar, cr, rfl, rr, _⟩
  have S7 := s6.trans s7
  refine qJ ?_; repeat' (first | ((with_reducible apply qI) <;> try simp only [qM, qC, qF, qH, qD, qA, qG, reduceIte, seval, Int.cast_ofNat_Int, qN, qO, yH]))
  refine (zI0 N (x.hs S7) sp hfs rr).mono ?_
  rintro _ h8 ⟨s8, af, cf, rfl, ow⟩
  have S8 := S7.trans s8
  refine qJ ?_; repeat' (first | with_reducible apply qK | ((first | (with_reducible apply qI) | with_reducible apply qB) <;> try simp only [qM, qC, qF, qH, qD, qA, qG, reduceIte, seval, Int.cast_ofNat_Int, qN, qO, yH]))
  refine (qZ5 N (x.hs S8) sp).mono ?_
  rintro _ h9 ⟨s9, cn, rfl, r9⟩
  obtain ⟨a1, c1, a2, c2, a3, c3, a4, c4, rfl, r1, r2, r3, r4⟩ := r9
  refine qJ ?_; repeat' (first | ((with_reducible apply qI) <;> try simp only [qM, qC, qF, qH, qD, qA, qG, reduceIte, seval, Int.cast_ofNat_Int, qN, qO, yH]))
  refine xG fun k10 h10 m10 s10 f10 n10 => ?_
  refine qJ ?_; repeat' (first | ((with_reducible apply qI) <;> try simp only [qM, qC, qF, qH, qD, qA, qG, reduceIte, seval, Int.cast_ofNat_Int, qN, qO, yH]))
  refine vJ m10 wF rfl (by decide) rfl rfl rfl fun h11 m11 f11 => ?_
  simp only [Nd.cs] at m11
  have s911 := s10.upd n10 f11
  have S11 := (S8.trans s9).trans s911
  have m611 := s911 _ _ (s9 _ _ (s8 _ _ (s7 _ _ m6)))
  have n6h : h k6 = none := n6
  have cv1 := (r1.hs s911).conv Tryz.underlying22 Tryz.underlying5 Tryz.underlying9
  have cv2 := (ri.hs S11).conv Tryz.underlying22 Tryz.underlying5 Tryz.underlying9
  cases hn : (at_ == -1)
  case true =>
    rw [sn hn]
    refine qJ ?_; repeat' (first | with_reducible apply qK | ((first | (with_reducible apply qI) | (with_reducible first | apply qB | apply qS)) <;> try simp only [qM, qC, qF, qH, qD, qA, qG, reduceIte, seval, Int.cast_ofNat_Int, qN, qO, yH, Bool.not_true, xF, xZ, vH, Shape.pl, List.all_cons, List.all_nil, zF]))
    refine wC m611 qG4 rfl (by decide) rfl rfl rfl fun h12 m12 f12 => ?_
    simp only [vcells] at m12
    have ld := zU (P := Tryz.prog) (t := 31) m12 qG4 rfl
    refine qJ ?_; repeat' (first | ((first | (with_reducible apply qI) | with_reducible apply qP) <;> try simp only [qM, qC, qF, qH, qD, qA, qG, reduceIte, seval, Int.cast_ofNat_Int, qN, qO, yH, dH, ld]))
    exact ⟨S11.upd n6h f12, _, _, _, rfl, rfl⟩
  rw [(sy hn).1]
  cases hlf : nd.lf
  case false =>
    rw [hlf] at m11
    refine qJ ?_; repeat' (first | with_reducible apply qK | ((first | (with_reducible apply qI) | (with_reducible first | apply qB | apply qS)) <;> try simp only [qM, qC, qF, qH, qD, qA, qG, reduceIte, seval, Int.cast_ofNat_Int, qN, qO, yH, qE m11 rY, Bool.not_false, xF, xZ, vH, Shape.pl, List.all_cons, List.all_nil, zF]))
    refine wC m611 qG4 rfl (by decide) rfl rfl rfl fun h12 m12 f12 => ?_
    simp only [vcells] at m12
    have ld := zU (P := Tryz.prog) (t := 31) m12 qG4 rfl
    refine qJ ?_; repeat' (first | ((first | (with_reducible apply qI) | with_reducible apply qP) <;> try simp only [qM, qC, qF, qH, qD, qA, qG, reduceIte, seval, Int.cast_ofNat_Int, qN, qO, yH, dH, ld]))
    exact ⟨S11.upd n6h f12, _, _, _, rfl, rfl⟩
  rw [hlf] at m11
  cases hid : (nd.id == id)
  case false =>
    refine qJ ?_; repeat' (first | with_reducible apply qK | ((first | (with_reducible apply qI) | (with_reducible first | apply qB | apply qS)) <;> try simp only [qM, qC, qF, qH, qD, qA, qG, reduceIte, seval, Int.cast_ofNat_Int, qN, qO, yH, qE m11 rY, qE m11 qV, Bool.not_false, cv1, cv2, jW, hid, xF, xZ, vH, Shape.pl, List.all_cons, List.all_nil, zF]))
    refine wC m611 qG4 rfl (by decide) rfl rfl rfl fun h12 m12 f12 => ?_
    simp only [vcells] at m12
    have ld := zU (P := Tryz.prog) (t := 31) m12 qG4 rfl
    refine qJ ?_; repeat' (first | ((first | (with_reducible apply qI) | with_reducible apply qP) <;> try simp only [qM, qC, qF, qH, qD, qA, qG, reduceIte, seval, Int.cast_ofNat_Int, qN, qO, yH, dH, ld]))
    exact ⟨S11.upd n6h f12, _, _, _, rfl, rfl⟩
  refine qJ ?_; repeat' (first | with_reducible apply qK | ((first | (with_reducible apply qI) | (with_reducible first | apply qB | apply qS | apply qR)) <;> try simp only [qM, qC, qF, qH, qD, qA, qG, reduceIte, seval, Int.cast_ofNat_Int, qN, qO, yH, qE m11 rY, qE m11 qV, qE m11 zT, Bool.not_false, cv1, cv2, jW, hid, xF, xZ, vH, Shape.pl, List.all_cons, List.all_nil, zF]))
  refine wC m611 qG4 rfl (by decide) rfl rfl rfl fun h12 m12 f12 => ?_
  simp only [vcells] at m12
  have ld := zU (P := Tryz.prog) (t := 31) m12 qG4 rfl
  refine qJ ?_; repeat' (first | ((first | (with_reducible apply qI) | with_reducible apply qP) <;> try simp only [qM, qC, qF, qH, qD, qA, qG, reduceIte, seval, Int.cast_ofNat_Int, qN, qO, yH, dH, ld]))
  exact ⟨S11.upd n6h f12, _, _, _, rfl, rfl⟩
theorem c_rNeeds (N : Nat) (x : AB h0 h k v cs M) {a : Option Addr} {c : Nat} {id ky : List UInt8} {si : Nat} {rt at_ : Int} {fs : List Nat} {nd : Nd} {same : Bool} {S0 : List Nd × Nat} (sp : Spot M id ky si rt fs at_ nd same S0) (hfs : fs.length ≤ 8 * (qU id).length)
    (ri : RB h (.slice a id.length c) id) :
    GTri Tryz.prog N 90 [.pointer (some ⟨k, 0, none⟩), .int .i64 rt, .slice a id.length c] h fun u h' => HS h h' ∧ ∃ n : Nat, u = .int .i64 (n : Int) ∧ n ≤ fs.length + 2 := by
  obtain ⟨ea, sn, sy⟩ := sp.noa
  have hkl := vC id
  have w1 : IntKind.i64.wrap ((fs.length : Int) + 1) = ((fs.length + 1 : Nat) : Int) := by rw [wrap64 (by omega) (by omega)]; omega
  have w2 : IntKind.i64.wrap ((fs.length : Int) + 2) = ((fs.length + 2 : Nat) : Int) := by rw [wrap64 (by omega) (by omega)]; omega
  refine xH Tryz.func90 rfl gf90 ok90 (by simp [Tryz.ntmps90]) ?_
  refine qJ ?_; repeat' (first | with_reducible apply qK | ((first | (with_reducible apply qI) | with_reducible apply qB) <;> try simp only [qM, qC, qF, qH, qD, qA, qG, reduceIte, seval, Int.cast_ofNat_Int, qN, qO, vV]))
  refine (qZ6 N x sp).mono ?_
  rintro _ h1 ⟨s1, cn, y, rfl, r1⟩
  have l1 := r1.len
  refine qJ ?_; repeat' (first | ((with_reducible apply qI) <;> try simp only [qM, qC, qF, qH, qD, qA, qG, reduceIte, seval, Int.cast_ofNat_Int, qN, qO, vV]))
  refine xG fun k7 h7 m7 s7 f7 n7 => ?_
  refine qJ ?_; repeat' (first | ((with_reducible apply qI) <;> try simp only [qM, qC, qF, qH, qD, qA, qG, reduceIte, seval, Int.cast_ofNat_Int, qN, qO, vV]))
  refine vJ m7 wF rfl (by decide) l1.1 rfl l1.2.1 fun h8 m8 f8 => ?_
  have S8 := s1.trans (s7.upd n7 f8)
  have cond : ∀ b, (rt == -1) = b → (if (rt != -1) = true then !(!b) else false) = false := fun b hb => by unfold bne; rw [hb]; cases b <;> rfl
  have hstep : (rt != -1) = !(rt == -1) := rfl
  cases hr : (rt == -1)
  all_goals
    rw [hr] at hstep
    simp only [Bool.not_true, Bool.not_false] at hstep
  · refine qJ ?_; repeat' (first | with_reducible apply qK | ((first | (with_reducible apply qI) | (with_reducible first | apply qB | apply qS | apply qR)) <;> try simp only [qM, qC, qF, qH, qD, qA, qG, reduceIte, seval, Int.cast_ofNat_Int, qN, qO, vV, hstep, hr, Bool.not_false, Bool.not_true]))
    refine (tD N h8 (ri.hs S8) rfl).mono ?_
    rintro _ h9 ⟨s9, ar, cr, rfl, rr, _⟩
    have S9 := S8.trans s9
    refine qJ ?_; repeat' (first | ((with_reducible apply qI) <;> try simp only [qM, qC, qF, qH, qD, qA, qG, reduceIte, seval, Int.cast_ofNat_Int, qN, qO, vV]))
    refine (zI0 N (x.hs S9) sp hfs rr).mono ?_
    rintro _ h10 ⟨s10, af, cf, rfl, ow⟩
    have S10 := S9.trans s10
    refine qJ ?_; repeat' (first | with_reducible apply qK | ((first | (with_reducible apply qI) | with_reducible apply qB) <;> try simp only [qM, qC, qF, qH, qD, qA, qG, reduceIte, seval, Int.cast_ofNat_Int, qN, qO, vV]))
    refine (c_rGet N (x.hs S10) sp hfs (ri.hs S10)).mono ?_
    rintro _ h11 ⟨s11, y1, y2, y3, rfl, hc⟩
    refine qJ ?_; repeat' (first | ((with_reducible apply qI) <;> try simp only [qM, qC, qF, qH, qD, qA, qG, reduceIte, seval, Int.cast_ofNat_Int, qN, qO, vV]))
    refine xG fun k12 h12 m12 s12 f12 n12 => ?_
    refine qJ ?_; repeat' (first | ((with_reducible apply qI) <;> try simp only [qM, qC, qF, qH, qD, qA, qG, reduceIte, seval, Int.cast_ofNat_Int, qN, qO, vV]))
    refine wC m12 qG4 rfl (by decide) rfl rfl (by simpa [vcells] using hc) fun h13 m13 f13 => ?_
    have S13 := (S10.trans s11).trans (s12.upd n12 f13)
    cases hsm : same
    case true =>
      refine qJ ?_; repeat' (first | with_reducible apply qK | ((first | (with_reducible apply qI) | (with_reducible first | apply qB | apply qS | apply qP)) <;> try simp only [qM, qC, qF, qH, qD, qA, qG, reduceIte, seval, Int.cast_ofNat_Int, qN, qO, vV, w1, w2]))
      exact ⟨S13, fs.length + 1, rfl, by omega⟩
    by_cases ha : at_ < 0
    · have da : decide (at_ < 0) = true := decide_eq_true ha
      refine qJ ?_; repeat' (first | with_reducible apply qK | ((first | (with_reducible apply qI) | (with_reducible first | apply qB | apply qS | apply qP)) <;> try simp only [qM, qC, qF, qH, qD, qA, qG, reduceIte, seval, Int.cast_ofNat_Int, qN, qO, vV, da, w1, w2]))
      exact ⟨S13, fs.length + 1, rfl, by omega⟩
    · have da : decide (at_ < 0) = false := decide_eq_false ha
      refine qJ ?_; repeat' (first | with_reducible apply qK | ((first | (with_reducible apply qI) | (with_reducible first | apply qB | apply qS | apply qR | apply qP)) <;> try simp only [qM, qC, qF, qH, qD, qA, qG, reduceIte, seval, Int.cast_ofNat_Int, qN, qO, vV, da, w1, w2]))
      exact ⟨S13, fs.length + 2, rfl, by omega⟩
  · refine qJ ?_; repeat' (first | with_reducible apply qK | ((first | (with_reducible apply qI) | (with_reducible first | apply qB | apply qS | apply qR)) <;> try simp only [qM, qC, qF, qH, qD, qA, qG, reduceIte, seval, Int.cast_ofNat_Int, qN, qO, vV, hstep, hr, Bool.not_false, Bool.not_true]))
    refine (tD N h8 (ri.hs S8) rfl).mono ?_
    rintro _ h9 ⟨s9, ar, cr, rfl, rr, _⟩
    have S9 := S8.trans s9
    refine qJ ?_; repeat' (first | ((with_reducible apply qI) <;> try simp only [qM, qC, qF, qH, qD, qA, qG, reduceIte, seval, Int.cast_ofNat_Int, qN, qO, vV]))
    refine (zI0 N (x.hs S9) sp hfs rr).mono ?_
    rintro _ h10 ⟨s10, af, cf, rfl, ow⟩
    have S10 := S9.trans s10
    refine qJ ?_; repeat' (first | with_reducible apply qK | ((first | (with_reducible apply qI) | with_reducible apply qB) <;> try simp only [qM, qC, qF, qH, qD, qA, qG, reduceIte, seval, Int.cast_ofNat_Int, qN, qO, vV]))
    refine (c_rGet N (x.hs S10) sp hfs (ri.hs S10)).mono ?_
    rintro _ h11 ⟨s11, y1, y2, y3, rfl, hc⟩
    refine qJ ?_; repeat' (first | ((with_reducible apply qI) <;> try simp only [qM, qC, qF, qH, qD, qA, qG, reduceIte, seval, Int.cast_ofNat_Int, qN, qO, vV]))
    refine xG fun k12 h12 m12 s12 f12 n12 => ?_
    refine qJ ?_; repeat' (first | ((with_reducible apply qI) <;> try simp only [qM, qC, qF, qH, qD, qA, qG, reduceIte, seval, Int.cast_ofNat_Int, qN, qO, vV]))
    refine wC m12 qG4 rfl (by decide) rfl rfl (by simpa [vcells] using hc) fun h13 m13 f13 => ?_
    have S13 := (S10.trans s11).trans (s12.upd n12 f13)
    cases hsm : same
    case true =>
      refine qJ ?_; repeat' (first | with_reducible apply qK | ((first | (with_reducible apply qI) | (with_reducible first | apply qB | apply qS | apply qP)) <;> try simp only [qM, qC, qF, qH, qD, qA, qG, reduceIte, seval, Int.cast_ofNat_Int, qN, qO, vV, w1, w2]))
      exact ⟨S13, fs.length + 1, rfl, by omega⟩
    by_cases ha : at_ < 0
    · have da : decide (at_ < 0) = true := decide_eq_true ha
      refine qJ ?_; repeat' (first | with_reducible apply qK | ((first | (with_reducible apply qI) | (with_reducible first | apply qB | apply qS | apply qP)) <;> try simp only [qM, qC, qF, qH, qD, qA, qG, reduceIte, seval, Int.cast_ofNat_Int, qN, qO, vV, da, w1, w2]))
      exact ⟨S13, fs.length + 1, rfl, by omega⟩
    · have da : decide (at_ < 0) = false := decide_eq_false ha
      refine qJ ?_; repeat' (first | with_reducible apply qK | ((first | (with_reducible apply qI) | (with_reducible first | apply qB | apply qS | apply qR | apply qP)) <;> try simp only [qM, qC, qF, qH, qD, qA, qG, reduceIte, seval, Int.cast_ofNat_Int, qN, qO, vV, da, w1, w2]))
      exact ⟨S13, fs.length + 2, rfl, by omega⟩
end
theorem pV : type_of% (And.intro zP (And.intro yW (And.intro xS (And.intro gU (And.intro wO rs94))))) := And.intro zP (And.intro yW (And.intro xS (And.intro gU (And.intro wO rs94))))
theorem xR : type_of% (And.intro mJ (And.intro uF (And.intro zP (And.intro yW (And.intro vW (And.intro xS (And.intro jG (And.intro gU (And.intro wO (And.intro qT8 rs48)))))))))) := And.intro mJ (And.intro uF (And.intro zP (And.intro yW (And.intro vW (And.intro xS (And.intro jG (And.intro gU (And.intro wO (And.intro qT8 rs48)))))))))
def xW : Nat → List (Nat × List Nat) × List Nat
  | 4 => ([(0, []), (1, []), (2, []), (4, []), (5, []), (6, []), (7, []), (8, []), (3, [7]), (9, [7]), (10, []), (11, [])], [0, 0, 0, 7, 0, 16, 48, 112, 0, 271, 1023, 2047])
  | _ => ([], [])
section
variable {h0 h h' : GH} {k : Nat} {v : Value} {cs : List Value} {M : List Nd}
theorem zI3 (N : Nat) (s0 : HS h0 h) (x : AB h0 h k v cs M) {a : Option Addr} {c : Nat} {row : List UInt8} (rr : RB h (.slice a row.length c) row) (hrow : row.length ≤ 60000) {d now e : Nat} (hd : d ≤ 8 * row.length) (hnow : now < M.length) (he : e < M.length) (hm : M.length < 10000) :
    GTri Tryz.prog N 94 [.pointer (some ⟨k, 0, none⟩), .int .i64 (d : Int), .slice a row.length c, .int .i64 (now : Int), .int .i64 (e : Int)] h fun u h' =>
      u = .int .i64 (M.length : Int) ∧ HS h0 h' ∧ FR 10 k h h' ∧ ∃ v' cs', AB h0 h' k v' cs' (M ++ [vG M d row (if xP row d = 1 then e else now) (if xP row d = 1 then now else e)]) := by
  refine xH Tryz.func94 rfl gf94 ok94 (by simp [Tryz.ntmps94]) ?_
  cases hbt : (xP row d == 1)
  · have hbq : (xP row d = 1) = False := by simpa using hbt
    simp only [hbq, if_true, if_false]
    refine qJ ?_; repeat' (first | with_reducible apply qK | ((first | (with_reducible apply qI) | (with_reducible first | apply qB | apply qS | apply qR) | ((refine GTri.mono (kN _ _ rr d (by omega)) ?_); rintro _ _ ⟨rfl, hh9⟩; replace hh9 := hh9.symm; subst hh9)) <;> try simp only [qM, qC, qF, qH, qD, qA, qG, reduceIte, seval, Int.cast_ofNat_Int, qN, qO, pV, hbt]))
    refine (mG N s0 x rr hrow (d := d) (l := now) (r := e) hd (by omega) (by omega) hm).mono ?_
    rintro _ h13 ⟨rfl, s13, fr13, v', cs', x13⟩
    refine qJ ?_; repeat' (first | with_reducible apply qK | ((first | (with_reducible apply qI) | (with_reducible first | apply qB | apply qP)) <;> try simp only [qM, qC, qF, qH, qD, qA, qG, reduceIte, seval, Int.cast_ofNat_Int, qN, qO, pV]))
    exact ⟨s13, fr13, v', cs', x13⟩
  · have hbq : (xP row d = 1) = True := by simpa using hbt
    simp only [hbq, if_true, if_false]
    refine qJ ?_; repeat' (first | with_reducible apply qK | ((first | (with_reducible apply qI) | (with_reducible first | apply qB | apply qS) | ((refine GTri.mono (kN _ _ rr d (by omega)) ?_); rintro _ _ ⟨rfl, hh9⟩; replace hh9 := hh9.symm; subst hh9)) <;> try simp only [qM, qC, qF, qH, qD, qA, qG, reduceIte, seval, Int.cast_ofNat_Int, qN, qO, pV, hbt]))
    refine (mG N s0 x rr hrow (d := d) (l := e) (r := now) hd (by omega) (by omega) hm).mono ?_
    rintro _ h13 ⟨rfl, s13, fr13, v', cs', x13⟩
    refine qJ ?_; repeat' (first | with_reducible apply qK | ((first | (with_reducible apply qI) | (with_reducible first | apply qB | apply qP)) <;> try simp only [qM, qC, qF, qH, qD, qA, qG, reduceIte, seval, Int.cast_ofNat_Int, qN, qO, pV]))
    exact ⟨s13, fr13, v', cs', x13⟩
def RinI (M : List Nd) (id : List UInt8) (S0 : List Nd × Nat) (fs : List Nat) (h0 hb : GH) (k : Nat) (i : Nat) (S : List Nd × Nat) (h' : GH) : Prop :=
  S = (fs.drop i).reverse.foldl (pP (qU id)) S0 ∧ HS h0 h' ∧ FR 10 k hb h' ∧ S.2 < S.1.length ∧ S.1.length + i ≤ S0.1.length + fs.length ∧ (∃ L, S.1 = M ++ L) ∧ ∃ v cs, AB h0 h' k v cs S.1
theorem zM3 (N : Nat) (s0 : HS h0 h) (x : AB h0 h k v cs M) (ti : TI M) {a b : Option Addr} {ca cb : Nat} {id ky : List UInt8} (ri : RB h (.slice a id.length ca) id) (rk : RB h (.slice b ky.length cb) ky) (hi : id.length ≤ 255) (hk : ky.length ≤ 60000) {si : Nat} (hs : si ≤ 1000000)
    {rt at_ : Int} {fs : List Nat} {nd : Nd} {same : Bool} {S0 : List Nd × Nat} (sp : Spot M id ky si rt fs at_ nd same S0) (hm : M.length + 2 + fs.length ≤ 9000) (hfs : fs.length ≤ 8 * (qU id).length) :
    GTri Tryz.prog N 48 [.pointer (some ⟨k, 0, none⟩), .int .i64 rt, .slice a id.length ca, .slice b ky.length cb, .int .i64 (si : Int)] h fun u h' => u = .tuple #[.int .i64 ((fs.reverse.foldl (pP (qU id)) S0).2 : Int), .int .i64 0] ∧ HS h0 h' ∧ FR 10 k h h' ∧ ∃ v' cs', AB h0 h' k v' cs' (fs.reverse.foldl (pP (qU id)) S0).1 := by
  obtain ⟨ea, sn, sy⟩ := sp.noa
  obtain ⟨⟨L0, eL0⟩, hS2, hS1, hfork⟩ := sp.facts ti hi
  have hkl := vC id
  have d1 : decide ((si : Int) < 0) = false := decide_eq_false (by omega)
  have d2 : decide ((id.length : Int) > 255) = false := decide_eq_false (by omega)
  have d3 : decide ((ky.length : Int) > 65535) = false := decide_eq_false (by omega)
  have wr : IntKind.i64.wrap (16384 - (M.length : Int)) = 16384 - (M.length : Int) := by rw [wrap64 (by omega) (by omega)]
  refine xH Tryz.func48 rfl gf48 ok48 (by simp [Tryz.ntmps48]) ?_
  refine qJ ?_; repeat' (first | with_reducible apply qK | ((first | (with_reducible apply qI) | with_reducible apply qB) <;> try simp only [qM, qC, qF, qH, qD, qA, qG, reduceIte, seval, Int.cast_ofNat_Int, qN, qO, qL, qY, zA, zB, xR, xW]))
  refine (qZ6 N x sp).mono ?_
  rintro _ h1 ⟨s1, cn, y, rfl, r1⟩
  have l1 := r1.len
  refine qJ ?_; repeat' (first | ((with_reducible apply qI) <;> try simp only [qM, qC, qF, qH, qD, qA, qG, reduceIte, seval, Int.cast_ofNat_Int, qN, qO, qL, qY, zA, zB, xR, xW]))
  refine xG fun k12 h2 m2 s2 f2 n2 => ?_
  refine qJ ?_; repeat' (first | ((with_reducible apply qI) <;> try simp only [qM, qC, qF, qH, qD, qA, qG, reduceIte, seval, Int.cast_ofNat_Int, qN, qO, qL, qY, zA, zB, xR, xW]))
  refine vJ m2 wF rfl (by decide) l1.1 rfl l1.2.1 fun h3 m3 f3 => ?_
  have S3 := s1.trans (s2.upd n2 f3)
  simp only [qM, qC, qF, qH, qD, qA, qG, reduceIte, seval, Int.cast_ofNat_Int, qN, qO, xR]
  refine qK ?_
  refine GW.mono (Q := fun x e' h' => x = .normal ∧ HS h3 h' ∧ lk e' 0 = .pointer (some ⟨k, 0, none⟩) ∧ lk e' 1 = .int .i64 rt ∧ lk e' 2 = .slice a id.length ca ∧ lk e' 3 = .slice b ky.length cb ∧ lk e' 4 = .int .i64 (si : Int)) ?_ ?_
  · have hstep : (rt != -1) = !(rt == -1) := rfl
    cases hr : (rt == -1)
    all_goals
      rw [hr] at hstep
      simp only [Bool.not_true, Bool.not_false] at hstep
    · refine qJ ?_; repeat' (first | with_reducible apply qK | ((first | (with_reducible apply qI) | (with_reducible first | apply qB | apply qS | apply qR)) <;> try simp only [qM, qC, qF, qH, qD, qA, qG, reduceIte, seval, Int.cast_ofNat_Int, qN, qO, qL, qY, zA, zB, xR, xW, hstep, hr, d1, d2, d3, Bool.not_false, Bool.not_true]))
      exact HS.refl _
    · refine qJ ?_; repeat' (first | with_reducible apply qK | ((first | (with_reducible apply qI) | (with_reducible first | apply qB | apply qS | apply qR)) <;> try simp only [qM, qC, qF, qH, qD, qA, qG, reduceIte, seval, Int.cast_ofNat_Int, qN, qO, qL, qY, zA, zB, xR, xW, hstep, hr, d1, d2, d3, Bool.not_false, Bool.not_true]))
      exact HS.refl _
  rintro _ e' h4 ⟨rfl, s4, q0, q1, q2, q3, q4⟩
  rw [gG]
  refine tC [(0, .pointer (some ⟨k, 0, none⟩)), (1, .int .i64 rt), (2, .slice a id.length ca), (3, .slice b ky.length cb), (4, .int .i64 (si : Int))] (by simp [q0, q1, q2, q3, q4]) ?_
  clear q0 q1 q2 q3 q4
  have S4 := S3.trans s4
  have ho4 := (x.hs S4).obj
  refine qJ ?_; repeat' (first | with_reducible apply qK | ((first | (with_reducible apply qI) | with_reducible refine zH xW xQ (by kernel_rfl) ?_) <;> try simp only [qM, qC, qF, qH, qD, qA, qG, reduceIte, seval, Int.cast_ofNat_Int, qN, qO, qL, qY, zA, zB, xR, xW, gNil, qE ho4 zT]))
  refine (c_rNeeds N (x.hs S4) sp hfs (ri.hs S4)).mono ?_
  rintro _ h5 ⟨s5, n, rfl, hn⟩
  have S5 := S4.trans s5
  have x5 := x.hs S5
  have ho5 := x5.obj
  have dn : decide ((n : Int) > 16384 - (M.length : Int)) = false := decide_eq_false (by omega)
  refine qJ ?_; repeat' (first | with_reducible apply qK | ((first | (with_reducible apply qI) | (with_reducible first | apply qB | apply qS | apply qR) | ((refine GTri.mono (zI4 _ x5) ?_); rintro _ _ ⟨rfl, hh9⟩; replace hh9 := hh9.symm; subst hh9)) <;> try simp only [qM, qC, qF, qH, qD, qA, qG, reduceIte, seval, Int.cast_ofNat_Int, qN, qO, qL, qY, zA, zB, xR, xW, gNil, qE ho5 zT, wr, dn]))
  refine (tD N h5 (ri.hs S5) rfl).mono ?_
  rintro _ h6 ⟨s6, ar, cr, rfl, rr, _⟩
  have S6 := S5.trans s6
  refine qJ ?_; repeat' (first | with_reducible apply qK | ((first | (with_reducible apply qI) | with_reducible apply qB) <;> try simp only [qM, qC, qF, qH, qD, qA, qG, reduceIte, seval, Int.cast_ofNat_Int, qN, qO, qL, qY, zA, zB, xR, xW]))
  refine (zI0 N (x.hs S6) sp hfs rr).mono ?_
  rintro _ h7 ⟨s7, af, cf, rfl, ow⟩
  have S7 := S6.trans s7
  refine qJ ?_; repeat' (first | with_reducible apply qK | ((first | (with_reducible apply qI) | with_reducible apply qB) <;> try simp only [qM, qC, qF, qH, qD, qA, qG, reduceIte, seval, Int.cast_ofNat_Int, qN, qO, qL, qY, zA, zB, xR, xW]))
  refine (qZ5 N (x.hs S7) sp).mono ?_
  rintro _ h8 ⟨s8, cn8, rfl, r8⟩
  obtain ⟨a1, c1, a2, c2, a3, c3, a4, c4, rfl, y1, y2, y3, y4⟩ := r8
  refine qJ ?_; repeat' (first | ((with_reducible apply qI) <;> try simp only [qM, qC, qF, qH, qD, qA, qG, reduceIte, seval, Int.cast_ofNat_Int, qN, qO, qL, qY, zA, zB, xR, xW]))
  refine xG fun k17 h9 m9 s9 f9 n9 => ?_
  refine qJ ?_; repeat' (first | ((with_reducible apply qI) <;> try simp only [qM, qC, qF, qH, qD, qA, qG, reduceIte, seval, Int.cast_ofNat_Int, qN, qO, qL, qY, zA, zB, xR, xW]))
  refine vJ m9 wF rfl (by decide) rfl rfl rfl fun h10 m10 f10 => ?_
  simp only [Nd.cs] at m10
  have s810 := s9.upd n9 f10
  have S10 := (S7.trans s8).trans s810
  have x10 := x.hs S10
  have n17h : h k17 = none := (S7.trans s8).none_of n9
  have k17k : k17 ≠ k := fun q => by rw [q, x.obj] at n17h; cases n17h
  refine qJ ?_; repeat' (first | with_reducible apply qK | ((first | (with_reducible apply qI) | with_reducible apply qB) <;> try simp only [qM, qC, qF, qH, qD, qA, qG, reduceIte, seval, Int.cast_ofNat_Int, qN, qO, qL, qY, zA, zB, xR, xW]))
  refine (c_rLeaf N (s0.trans S10) x10 (ri.hs S10) (rk.hs S10) hi hk hs (by omega)).mono ?_
  rintro _ h11 ⟨rfl, s11, fr11, v2, cs2, x11⟩
  have m11 := fr11 _ _ m10 (.inr ⟨k17k, by simp⟩)
  have z : ∀ {v l}, RB h8 v l → RB h11 v l := fun r => (r.hs s810).fr fr11
  have z1 := z y1
  have z3 := z y3
  have ri11 := (ri.hs S10).fr fr11
  have rr11 := z ((rr.hs s7).hs s8)
  have ow11 : OWNC 1 h6 h11 (.slice af fs.length cf) fs.length (ivs fs) := ((ow.hs s8).hs s810).fr fr11 x10.obj (by simp) (by decide)
  have cv1 := z1.conv Tryz.underlying22 Tryz.underlying5 Tryz.underlying9
  have cv2 := ri11.conv Tryz.underlying22 Tryz.underlying5 Tryz.underlying9
  simp only [qM, qC, qF, qH, qD, qA, qG, reduceIte, seval, Int.cast_ofNat_Int, qN, qO, xR]
  refine qK ?_
  refine GW.mono (Q := fun x e' h' => x = .normal ∧ (lk e' 0 = .pointer (some ⟨k, 0, none⟩) ∧ lk e' 14 = .slice ar (qU id).length cr ∧ lk e' 15 = .slice af fs.length cf ∧ lk e' 19 = .int .i64 (S0.2 : Int)) ∧ HS h0 h' ∧ FR 10 k h11 h' ∧ ∃ v3 cs3, AB h0 h' k v3 cs3 S0.1) ?_ ?_
  · cases sp with
    | no =>
      refine qJ ?_; repeat' (first | with_reducible apply qK | ((first | (with_reducible apply qI) | (with_reducible first | apply qB | apply qS | apply qR)) <;> try simp only [qM, qC, qF, qH, qD, qA, qG, reduceIte, seval, Int.cast_ofNat_Int, qN, qO, qL, qY, zA, zB, xR, xW, Bool.not_true]))
      exact ⟨s11, FR.of (HS.refl _), v2, cs2, x11⟩
    | @way i e fs nd w =>
      have d : ((e : Int) == -1) = false := by first | (simp; done) | (simp; omega)
      have he := (List.getElem?_eq_some_iff.1 w.end.1).1
      have okn := x.arr.ok.ok e nd w.end.1
      have okd := okn.id
      have hle := qF3 (qU id) (jR nd)
      have hkn := vC nd.id
      cases hlf : nd.lf
      case false =>
        rw [hlf] at m11
        have el : rG id ky si M e nd = fQ (qU id) (M ++ [vF id ky si]) M.length e nd := by unfold rG; rw [hlf]; rfl
        have ey : jR nd = nd.pf := by unfold jR; rw [hlf]; rfl
        rw [el]
        unfold fQ
        rw [ey] at hle ⊢
        refine qJ ?_; repeat' (first | with_reducible apply qK | ((first | (with_reducible apply qI) | (with_reducible first | apply qB | apply qS | apply qR) | ((refine GTri.mono (qC5 _ _ rr11 z3 rfl rfl (by omega)) ?_); rintro _ _ ⟨rfl, hh9⟩; replace hh9 := hh9.symm; subst hh9)) <;> try simp only [qM, qC, qF, qH, qD, qA, qG, reduceIte, seval, Int.cast_ofNat_Int, qN, qO, qL, qY, zA, zB, xR, xW, d, qE m11 rY, qE m11 qV, Bool.not_false]))
        refine (zI3 N s11 x11 rr11 (by omega) (d := uQ (qU id) nd.pf) (now := M.length) (e := e) (by omega) (by simp) (by simp; omega) (by simp; omega)).mono ?_
        rintro _ h12 ⟨rfl, s12, fr12, v3, cs3, x12⟩
        refine qJ ?_; repeat' (first | ((with_reducible apply qI) <;> try simp only [qM, qC, qF, qH, qD, qA, qG, reduceIte, seval, Int.cast_ofNat_Int, qN, qO, qL, qY, zA, zB, xR, xW]))
        exact ⟨s12, fr12, v3, cs3, x12⟩
      rw [hlf] at m11
      have ey : jR nd = qU nd.id := by unfold jR; rw [hlf]; rfl
      cases hid : (nd.id == id)
      case true =>
        have el : rG id ky si M e nd = (M ++ [vF id ky si], M.length) := by unfold rG; rw [hlf, hid]; rfl
        rw [el]
        refine qJ ?_; repeat' (first | with_reducible apply qK | ((first | (with_reducible apply qI) | (with_reducible first | apply qB | apply qS | apply qR)) <;> try simp only [qM, qC, qF, qH, qD, qA, qG, reduceIte, seval, Int.cast_ofNat_Int, qN, qO, qL, qY, zA, zB, xR, xW, d, qE m11 rY, qE m11 qV, cv1, cv2, jW, hid, Bool.not_false]))
        exact ⟨s11, FR.of (HS.refl _), v2, cs2, x11⟩
      have el : rG id ky si M e nd = fQ (qU id) (M ++ [vF id ky si]) M.length e nd := by unfold rG; rw [hlf, hid]; rfl
      rw [el]
      unfold fQ
      rw [ey] at hle ⊢
      refine qJ ?_; repeat' (first | with_reducible apply qK | ((first | (with_reducible apply qI) | (with_reducible first | apply qB | apply qS)) <;> try simp only [qM, qC, qF, qH, qD, qA, qG, reduceIte, seval, Int.cast_ofNat_Int, qN, qO, qL, qY, zA, zB, xR, xW, d, qE m11 rY, qE m11 qV, cv1, cv2, jW, hid, Bool.not_false]))
      refine (tD N h11 z1 rfl).mono ?_
      rintro _ h12 ⟨s12, ak, ck, rfl, rk12, _⟩
      refine qJ ?_; repeat' (first | ((first | (with_reducible apply qI) | with_reducible apply qB | ((refine GTri.mono (qC5 _ _ (rr11.hs s12) rk12 rfl rfl (by omega)) ?_); rintro _ _ ⟨rfl, hh9⟩; replace hh9 := hh9.symm; subst hh9)) <;> try simp only [qM, qC, qF, qH, qD, qA, qG, reduceIte, seval, Int.cast_ofNat_Int, qN, qO, qL, qY, zA, zB, xR, xW, d, qE m11 rY, qE m11 qV, Bool.not_false]))
      refine (zI3 N (s11.trans s12) (x11.hs s12) (rr11.hs s12) (by omega) (d := uQ (qU id) (qU nd.id)) (now := M.length) (e := e) (by omega) (by simp) (by simp; omega) (by simp; omega)).mono ?_
      rintro _ h13 ⟨rfl, s13, fr13, v3, cs3, x13⟩
      refine qJ ?_; repeat' (first | ((with_reducible apply qI) <;> try simp only [qM, qC, qF, qH, qD, qA, qG, reduceIte, seval, Int.cast_ofNat_Int, qN, qO, qL, qY, zA, zB, xR, xW]))
      exact ⟨s13, (FR.of s12).trans fr13, v3, cs3, x13⟩
  rintro _ e' h12 ⟨rfl, ⟨q0, q14, q15, q19⟩, S12, fr12, v3, cs3, x12⟩
  rw [gG]
  refine tC [(0, .pointer (some ⟨k, 0, none⟩)), (14, .slice ar (qU id).length cr), (15, .slice af fs.length cf), (19, .int .i64 (S0.2 : Int))] (by simp [q0, q14, q15, q19]) ?_
  clear q0 q14 q15 q19
  have w0 : IntKind.i64.wrap ((fs.length : Int) - 1) = (fs.length : Int) - 1 := by rw [wrap64 (by omega) (by omega)]
  refine qJ ?_; repeat' (first | (with_reducible first | apply qK | apply qQ) | ((first | (with_reducible apply qI) | with_reducible apply qB) <;> try simp only [qM, qC, qF, qH, qD, qA, qG, reduceIte, seval, Int.cast_ofNat_Int, qN, qO, qL, qY, zA, zB, xR, xW, w0]))
  refine xL [0, 10, 11, 14, 15] (fun (s : Nat × (List Nd × Nat)) => [(19, .int .i64 (s.2.2 : Int)), (22, .int .i64 ((s.1 : Int) - 1))])
    (fun q s h' => s.1 = q ∧ s.1 ≤ fs.length ∧ RinI M id S0 fs h0 h12 k s.1 s.2 h') fs.length (fs.length, S0) (by simp [lk]) ⟨rfl, Nat.le_refl _, by simp, S12, FR.of (HS.refl _), hS2, by simp only; omega, ⟨L0, eL0⟩, v3, cs3, x12⟩ ?_
  rintro _ ⟨i, S⟩ h13 ⟨rfl, hil, eS, s13, fr13, hlt, hle, ⟨L, eL⟩, v13, cs13, x13⟩
  simp only at hil eS hlt hle eL x13
  have ow13 : OWNC 1 h6 h13 (.slice af fs.length cf) fs.length (ivs fs) := (ow11.fr fr12 x11.obj (by simp) (by decide)).fr fr13 x12.obj (by simp) (by decide)
  have rr13 := (rr11.fr fr12).fr fr13
  by_cases hi0 : i = 0
  · subst hi0
    have dd : decide ((((0 : Nat) : Int) - 1) ≥ 0) = false := decide_eq_false (by omega)
    refine qJ ?_; repeat' (first | with_reducible apply qK | ((first | (with_reducible apply qI) | (with_reducible first | apply qB | apply qS | apply xX | apply qP)) <;> try simp only [qM, qC, qF, qH, qD, qA, qG, reduceIte, seval, Int.cast_ofNat_Int, qN, qO, qL, qY, zA, zB, xR, xW, dd]))
    rw [List.drop_zero] at eS
    subst eS
    have frh : FR 10 k h h11 := (FR.of S10).trans fr11
    exact ⟨rfl, s13, (frh.trans fr12).trans fr13, v13, cs13, x13⟩
  obtain ⟨j, rfl⟩ : ∃ j, i = j + 1 := ⟨i - 1, by omega⟩
  have ej : (((j + 1 : Nat) : Int) - 1) = (j : Int) := by omega
  have dd : decide ((j : Int) ≥ 0) = true := decide_eq_true (by omega)
  have wj : IntKind.i64.wrap ((j : Int) - 1) = (j : Int) - 1 := by rw [wrap64 (by omega) (by omega)]
  obtain ⟨p, hp⟩ := yK (show j < fs.length by omega)
  obtain ⟨y, hy, hst⟩ := hfork j p hp
  have hpM := (List.getElem?_eq_some_iff.1 hy).1
  have fi := ti.fork p y hy (vO hst).1
  have fil := fi.l
  have fir := fi.r
  have oky := x.arr.ok.ok p y hy
  have hpf := oky.pf
  have oyd := oky.dp
  have hdp : y.dp ≤ 8 * y.pf.length := by
    obtain ⟨jd, e1, e2⟩ := fi.pf
    rw [e1, wR]; omega
  have hML : M.length ≤ S.1.length := by rw [eL]; simp
  have hyS : S.1[p]? = some y := by rw [eL, List.getElem?_append_left hpM]; exact hy
  have enp : gE S.1 p = y := vK hyS
  obtain ⟨ad, g1, l4⟩ : ∃ ad, zL Tryz.prog 127 (.slice af fs.length cf) (j : Int) = some (.pointer (some ad)) ∧ wS Tryz.prog 3 h13 (.pointer (some ad)) = some (.int .i64 (p : Int)) := by
    rcases ow13 with ⟨_, q, _⟩ | ⟨_, _, q, _⟩ | ⟨kf, c', q, z2, z3, z4, z5, z6, z7⟩
    · omega
    · omega
    · cases q
      refine ⟨_, uR Tryz.underlying127 zT (by omega), ?_⟩
      rw [qE z6 zT, Nat.mul_one]
      simp only [ivs, List.getElem?_map, hp, Option.map_some]
  simp only [ej]
  refine qJ ?_; repeat' (first | (with_reducible first | apply qK | apply qQ) | ((first | (with_reducible apply qI) | (with_reducible first | apply qB | apply qS | apply qR)) <;> try simp only [qM, qC, qF, qH, qD, qA, qG, reduceIte, seval, Int.cast_ofNat_Int, qN, qO, qL, qY, zA, zB, xR, xW, dd, g1, l4]))
  refine (lP N x13 hyS).mono ?_
  rintro _ h14 ⟨s14, cn14, rfl, r14⟩
  obtain ⟨b1, e1, b2, e2, b3, e3, b4, e4, rfl, u1, u2, u3, u4⟩ := r14
  refine qJ ?_; repeat' (first | ((with_reducible apply qI) <;> try simp only [qM, qC, qF, qH, qD, qA, qG, reduceIte, seval, Int.cast_ofNat_Int, qN, qO, qL, qY, zA, zB, xR, xW]))
  refine xG fun k23 h15 m15 s15 f15 n15 => ?_
  refine qJ ?_; repeat' (first | ((with_reducible apply qI) <;> try simp only [qM, qC, qF, qH, qD, qA, qG, reduceIte, seval, Int.cast_ofNat_Int, qN, qO, qL, qY, zA, zB, xR, xW]))
  refine vJ m15 wF rfl (by decide) rfl rfl rfl fun h16 m16 f16 => ?_
  simp only [Nd.cs] at m16
  have s1416 := s15.upd n15 f16
  have S16 := s14.trans s1416
  have x16 := x13.hs S16
  have rr16 := rr13.hs S16
  have v3b := u3.hs s1416
  cases hbt : (xP (qU id) y.dp == 1)
  · have hbq : (xP (qU id) y.dp = 1) = False := by simpa using hbt
    refine qJ ?_; repeat' (first | with_reducible apply qK | ((first | (with_reducible apply qI) | (with_reducible first | apply qB | apply qS) | ((refine GTri.mono (kN _ _ rr16 y.dp (by omega)) ?_); rintro _ _ ⟨rfl, hh9⟩; replace hh9 := hh9.symm; subst hh9)) <;> try simp only [qM, qC, qF, qH, qD, qA, qG, reduceIte, seval, Int.cast_ofNat_Int, qN, qO, qL, qY, zA, zB, xR, xW, hbt, qE m16 zT, qE m16 qV]))
    refine (mG N (s13.trans S16) x16 v3b hpf (d := y.dp) (l := S.2) (r := y.r) hdp (by omega) (by omega) (by omega)).mono ?_
    rintro _ h22 ⟨rfl, s22, fr22, v22, cs22, x22⟩
    have eu : pP (qU id) S p = (S.1 ++ [vG S.1 y.dp y.pf S.2 y.r], S.1.length) := by
      unfold pP
      rw [enp]
      simp only [hbq, if_true, if_false]
    refine qJ ?_; repeat' (first | ((first | (with_reducible apply qI) | with_reducible apply qB) <;> try simp only [qM, qC, qF, qH, qD, qA, qG, reduceIte, seval, Int.cast_ofNat_Int, qN, qO, qL, qY, zA, zB, xR, xW, wj]))
    refine ⟨_, (j, pP (qU id) S p), by simp only; omega, ?_, rfl, by simp only; omega, by rw [eS]; exact (sN (M := M) hp).symm, s22, fr13.trans ((FR.of S16).trans fr22), by rw [eu]; simp, by rw [eu]; simp; omega, ⟨L ++ [vG S.1 y.dp y.pf S.2 y.r], by rw [eu, eL, List.append_assoc]⟩, v22, cs22, by rw [eu]; exact x22⟩
    rw [eu]
    exact (by simp only [List.forall_mem_cons, List.not_mem_nil, false_implies, implies_true, List.map, List.cons_append, List.nil_append, lk, Nat.reduceEqDiff, reduceIte, and_true, true_and])
  · have hbq : (xP (qU id) y.dp = 1) = True := by simpa using hbt
    refine qJ ?_; repeat' (first | with_reducible apply qK | ((first | (with_reducible apply qI) | (with_reducible first | apply qB | apply qS) | ((refine GTri.mono (kN _ _ rr16 y.dp (by omega)) ?_); rintro _ _ ⟨rfl, hh9⟩; replace hh9 := hh9.symm; subst hh9)) <;> try simp only [qM, qC, qF, qH, qD, qA, qG, reduceIte, seval, Int.cast_ofNat_Int, qN, qO, qL, qY, zA, zB, xR, xW, hbt, qE m16 zT, qE m16 qV]))
    refine (mG N (s13.trans S16) x16 v3b hpf (d := y.dp) (l := y.l) (r := S.2) hdp (by omega) (by omega) (by omega)).mono ?_
    rintro _ h22 ⟨rfl, s22, fr22, v22, cs22, x22⟩
    have eu : pP (qU id) S p = (S.1 ++ [vG S.1 y.dp y.pf y.l S.2], S.1.length) := by
      unfold pP
      rw [enp]
      simp only [hbq, if_true, if_false]
    refine qJ ?_; repeat' (first | ((first | (with_reducible apply qI) | with_reducible apply qB) <;> try simp only [qM, qC, qF, qH, qD, qA, qG, reduceIte, seval, Int.cast_ofNat_Int, qN, qO, qL, qY, zA, zB, xR, xW, wj]))
    refine ⟨_, (j, pP (qU id) S p), by simp only; omega, ?_, rfl, by simp only; omega, by rw [eS]; exact (sN (M := M) hp).symm, s22, fr13.trans ((FR.of S16).trans fr22), by rw [eu]; simp, by rw [eu]; simp; omega, ⟨L ++ [vG S.1 y.dp y.pf y.l S.2], by rw [eu, eL, List.append_assoc]⟩, v22, cs22, by rw [eu]; exact x22⟩
    rw [eu]
    exact (by simp only [List.forall_mem_cons, List.not_mem_nil, false_implies, implies_true, List.map, List.cons_append, List.nil_append, lk, Nat.reduceEqDiff, reduceIte, and_true, true_and])
end
theorem uC : type_of% (And.intro qI6 (And.intro zE4 (And.intro zP (And.intro zJ5 (And.intro yB (And.intro yW (And.intro zJ4 (And.intro xS (And.intro qE5 (And.intro jS (And.intro gU (And.intro wO (And.intro ty64 rs13))))))))))))) := And.intro qI6 (And.intro zE4 (And.intro zP (And.intro zJ5 (And.intro yB (And.intro yW (And.intro zJ4 (And.intro xS (And.intro qE5 (And.intro jS (And.intro gU (And.intro wO (And.intro ty64 rs13))))))))))))
def uA : Nat → List (Nat × List Nat) × List Nat
  | 10 => ([(0, []), (1, []), (2, []), (3, []), (4, []), (5, []), (6, []), (7, []), (8, []), (9, []), (10, []), (11, []), (12, []), (13, []), (14, []), (15, []), (16, []), (17, []), (18, []), (19, []), (20, []), (21, [])], [0, 1, 0, 4, 12, 28, 63, 0, 128, 0, 512, 1536, 3584, 8064, 0, 16384, 49152, 114688, 245760, 127, 540671, 2097151])
  | _ => ([], [])
abbrev Pt : Type := (List UInt8 × List UInt8) × Int
def RPut (h : GH) (cs : List Value) (x : Pt) : Prop := ∃ a c b d, cs = [.slice a x.1.1.length c, .slice b x.1.2.length d, .int .i64 x.2] ∧ RB h (.slice a x.1.1.length c) x.1.1 ∧ RB h (.slice b x.1.2.length d) x.1.2
theorem RPut.hs {h h' : GH} (s : HS h h') {cs : List Value} {x : Pt} (r : RPut h cs x) : RPut h' cs x := by
  obtain ⟨a, c, b, d, e, r1, r2⟩ := r
  exact ⟨a, c, b, d, e, r1.hs s, r2.hs s⟩
def qU6 (z : Int) : Nat := (IntKind.u64.wrap z % 256).toNat
theorem siOf_lt (z : Int) : qU6 z < 256 := by unfold qU6; omega
theorem siOf_eq (z : Int) : IntKind.i64.wrap (Int.tmod (IntKind.u64.wrap z) 256) = (qU6 z : Int) := by
  have h0 : 0 ≤ IntKind.u64.wrap z ∧ IntKind.u64.wrap z < 18446744073709551616 := by
    simp [IntKind.wrap, IntKind.signed, IntKind.bits]
    omega
  have e1 : Int.tmod (IntKind.u64.wrap z) 256 = IntKind.u64.wrap z % 256 := Int.tmod_eq_emod_of_nonneg h0.1
  rw [e1]
  unfold qU6
  generalize IntKind.u64.wrap z = w at *
  rw [wrap64 (by omega) (by omega)]
  omega
theorem AB.weak {a h0 h : GH} {k : Nat} {v : Value} {cs : List Value} {M : List Nd} (s : HS a h0) (x : AB h0 h k v cs M) : AB a h k v cs M := ⟨x.obj, s.none_of x.nk, ⟨x.arr.own.weak s, x.arr.u8, x.arr.nd, x.arr.ok⟩⟩
theorem gret_4 {P : Program} {e : Env} {h : GH} {Q : Value → GH → Prop} (t u v w : Nat) : uM P e h [.tmp t, .tmp u, .tmp v, .tmp w] Q = Q (.tuple #[lk e t, lk e u, lk e v, lk e w]) h := by simp [uM, kF, qH5]
def RtOk (M : List Nd) (rt : Int) : Prop := (rt = -1 ∧ M = []) ∨ ∃ r : Nat, rt = (r : Int) ∧ r < M.length
def TreeP (l : List Pt) (h h' : GH) (u : Value) : Prop := HS h h' ∧ ∃ k kq M rt v cs v2 cs2, u = .tuple #[.pointer (some ⟨k, 0, none⟩), .pointer (some ⟨kq, 0, none⟩), .int .i64 rt, .bool true] ∧ k ≠ kq ∧ AA h h' k v cs M ∧ AB h h' kq v2 cs2 M ∧ TI M ∧ RtOk M rt ∧ (∀ x, l = [x] → M = [vF (x.1.1.take 24) (x.1.2.take 48) (qU6 x.2)] ∧ rt = 0)
theorem spot_ex {M : List Nd} (ti : TI M) (id ky : List UInt8) (si : Nat) {rt : Int} (ro : RtOk M rt) (hid : id.length ≤ 255) : ∃ fs at_ nd same S0, Spot M id ky si rt fs at_ nd same S0 ∧ fs.length ≤ 8 * (qU id).length ∧
    TI (fs.reverse.foldl (pP (qU id)) S0).1 ∧ (fs.reverse.foldl (pP (qU id)) S0).2 < (fs.reverse.foldl (pP (qU id)) S0).1.length ∧ (fs.reverse.foldl (pP (qU id)) S0).1.length ≤ M.length + 2 + fs.length ∧ (rt = -1 → fs.reverse.foldl (pP (qU id)) S0 = (M ++ [vF id ky si], M.length)) := by
  rcases ro with ⟨rfl, rfl⟩ | ⟨r, rfl, hr⟩
  · refine ⟨[], _, _, _, _, .no, by simp, ?_, by simp, by simp, fun _ => rfl⟩
    exact TI.nil.push (fun q => by simp [vF] at q) (fun _ => hid)
  · obtain ⟨fs, e, x, w, hf⟩ := way_of ti id hr
    obtain ⟨a, b, c⟩ := ins_ok ti hid (ky := ky) (si := si) w
    exact ⟨fs, _, _, _, _, .way w, hf, a, b, c, fun q => by omega⟩
theorem qZ2 (N : Nat) {h : GH} (t : TK h) {a : Option Addr} {c : Nat} {l : List Pt} (r : RL 3 RPut h (.slice a l.length c) l) (hl : l.length ≤ 1000000000) (hp : ∀ x ∈ l, x.1.1.length ≤ 1000000000 ∧ x.1.2.length ≤ 1000000000) :
    GTri Tryz.prog N 13 [.slice a l.length c] h fun u h' => TreeP l h h' u := by
  refine xH Tryz.func13 rfl gf13 ok13 (by simp [Tryz.ntmps13]) ?_
  refine qJ ?_; repeat' (first | with_reducible apply qK | ((first | (with_reducible apply qI) | with_reducible apply qB) <;> try simp only [qM, qC, qF, qH, qD, qA, qG, reduceIte, seval, Int.cast_ofNat_Int, qN, qO, qL, qY, zA, zB, uC, uA]))
  refine (c_New N h).mono ?_
  rintro _ h1 ⟨s1, k, rfl, x1⟩
  refine qJ ?_; repeat' (first | with_reducible apply qK | ((first | (with_reducible apply qI) | with_reducible apply qB) <;> try simp only [qM, qC, qF, qH, qD, qA, qG, reduceIte, seval, Int.cast_ofNat_Int, qN, qO, qL, qY, zA, zB, uC, uA]))
  refine (c_rNew N h1).mono ?_
  rintro _ h2 ⟨s2, kq, rfl, y2⟩
  have x2 := x1.hs s2
  have y2' := y2.weak s1
  have kkq : k ≠ kq := yM x1.obj y2.nk
  have S2 := s1.trans s2
  refine qJ ?_; repeat' (first | (with_reducible first | apply qK | apply qQ) | ((first | (with_reducible apply qI) | (with_reducible first | apply qB | apply qS | apply qR)) <;> try simp only [qM, qC, qF, qH, qD, qA, qG, reduceIte, seval, Int.cast_ofNat_Int, qN, qO, qL, qY, zA, zB, uC, uA, Option.isNone_some]))
  refine xL [2, 3, 4, 5, 6, 8, 35, 36] (fun (s : Nat × Int) => [(10, .int .i64 s.2), (11, .bool true), (37, .int .i64 (s.1 : Int))])
    (fun q s h' => l.length - s.1 = q ∧ s.1 ≤ l.length ∧ HS h h' ∧ ∃ M v cs v2 cs2, AA h h' k v cs M ∧ AB h h' kq v2 cs2 M ∧ TI M ∧ RtOk M s.2 ∧ M.length ≤ 202 * min s.1 20 ∧ (s.1 = 0 → s.2 = -1) ∧ (s.1 = 1 → ∀ x, l[0]? = some x → M = [vF (x.1.1.take 24) (x.1.2.take 48) (qU6 x.2)] ∧ s.2 = 0)) l.length (0, -1) (by simp [lk]) ⟨rfl, Nat.zero_le _, S2, [], _, _, _, _, x2, y2', TI.nil, .inl ⟨rfl, rfl⟩, by simp, fun _ => rfl, fun q => by simp at q⟩ ?_
  rintro _ ⟨i, rt⟩ h3 ⟨rfl, hil, s3, M, v, cs, v2, cs2, x3, y3, ti, ro, hM, z0, z1⟩
  simp only at hil ro hM z0 z1
  by_cases hi : i < l.length
  case neg =>
    obtain rfl : i = l.length := by omega
    have d3 : decide ((l.length : Int) < (l.length : Int)) = false := decide_eq_false (by omega)
    refine qJ ?_; repeat' (first | with_reducible apply qK | ((first | (with_reducible apply qI) | (with_reducible first | apply qB | apply qS | apply xX | apply qP)) <;> try simp only [qM, qC, qF, qH, qD, qA, qG, reduceIte, seval, Int.cast_ofNat_Int, qN, qO, qL, qY, zA, zB, uC, uA, d3]))
    rw [gret_4]
    simp only [qM, qC, qF, qH, qD, qA, qG, reduceIte, seval, Int.cast_ofNat_Int, qN, qO, uC]
    refine ⟨s3, k, kq, M, rt, v, cs, v2, cs2, rfl, kkq, x3, y3, ti, ro, fun x hx => z1 (by rw [hx]; rfl) x (by rw [hx]; rfl)⟩
  have d3 : decide ((i : Int) < (l.length : Int)) = true := decide_eq_true (by omega)
  have wi : IntKind.i64.wrap ((i : Int) + 1) = ((i + 1 : Nat) : Int) := by rw [wrap64 (by omega) (by omega)]; omega
  obtain ⟨x, hx⟩ := yK hi
  obtain ⟨hx1, hx2⟩ := hp x (List.mem_of_getElem? hx)
  have r3 := RL.hcR (R := RPut) r s3.hc fun _ _ q => q.hs s3
  obtain ⟨ad, cs5, g1, g2, a5, c5, b5, d5, rfl, p1, p2⟩ := RL.at (P := Tryz.prog) r3 Tryz.underlying41 sz72 hx
  refine qJ ?_; repeat' (first | (with_reducible first | apply qK | apply qQ) | ((first | (with_reducible apply qI) | (with_reducible first | apply qB | apply qS | apply qR)) <;> try simp only [qM, qC, qF, qH, qD, qA, qG, reduceIte, seval, Int.cast_ofNat_Int, qN, qO, qL, qY, zA, zB, uC, uA, d3, g1, fK sz72 g2]))
  refine xG fun k13 h4 m4 s4 f4 n4 => ?_
  refine qJ ?_; repeat' (first | ((with_reducible apply qI) <;> try simp only [qM, qC, qF, qH, qD, qA, qG, reduceIte, seval, Int.cast_ofNat_Int, qN, qO, qL, qY, zA, zB, uC, uA]))
  refine wC m4 sz72 rfl (by decide) rfl rfl rfl fun h5 m5 f5 => ?_
  simp only [vcells] at m5
  have s35 := s4.upd n4 f5
  by_cases h20 : i < 20
  case neg =>
    have d4 : decide ((i : Int) < 20) = false := decide_eq_false (by omega)
    refine qJ ?_; repeat' (first | with_reducible apply qK | ((first | (with_reducible apply qI) | (with_reducible first | apply qB | apply qS | apply qR)) <;> try simp only [qM, qC, qF, qH, qD, qA, qG, reduceIte, seval, Int.cast_ofNat_Int, qN, qO, qL, qY, zA, zB, uC, uA, d4, wi]))
    exact ⟨_, (i + 1, rt), by simp only; omega, (by simp only [List.forall_mem_cons, List.not_mem_nil, false_implies, implies_true, List.map, List.cons_append, List.nil_append, lk, Nat.reduceEqDiff, reduceIte, and_true, true_and]), rfl, by simp only; omega, s3.trans s35, M, v, cs, v2, cs2, x3.hs s35, y3.hs s35, ti, ro, by simp only; omega, fun q => by simp at q, fun q => by simp only at q; omega⟩
  have d4 : decide ((i : Int) < 20) = true := decide_eq_true (by omega)
  have mn1 : (if (24 : Int) < (x.1.1.length : Int) then (24 : Int) else (x.1.1.length : Int)) = ((min x.1.1.length 24 : Nat) : Int) := by split <;> omega
  have mn2 : (if (48 : Int) < (x.1.2.length : Int) then (48 : Int) else (x.1.2.length : Int)) = ((min x.1.2.length 48 : Nat) : Int) := by split <;> omega
  obtain ⟨a6, c6, e6, r6, _⟩ := RB.cut (P := Tryz.prog) (p1.hs s35) Tryz.underlying22 tY (hi := ((min x.1.1.length 24 : Nat) : Int)) (by omega) (by omega) .i64
  obtain ⟨a7, c7, e7, r7, _⟩ := RB.cut (P := Tryz.prog) (p2.hs s35) Tryz.underlying22 tY (hi := ((min x.1.2.length 48 : Nat) : Int)) (by omega) (by omega) .i64
  rw [Int.toNat_natCast] at e6 e7 r6 r7
  have et1 : x.1.1.take (min x.1.1.length 24) = x.1.1.take 24 := by rw [List.take_eq_take_iff]; omega
  have et2 : x.1.2.take (min x.1.2.length 48) = x.1.2.take 48 := by rw [List.take_eq_take_iff]; omega
  have el1 : min x.1.1.length 24 = (x.1.1.take 24).length := by simp; omega
  have el2 : min x.1.2.length 48 = (x.1.2.take 48).length := by simp; omega
  rw [et1] at r6
  rw [et2] at r7
  refine qJ ?_; repeat' (first | with_reducible apply qK | ((first | (with_reducible apply qI) | (with_reducible first | apply qB | apply qS) | with_reducible refine zH uA xQ (by kernel_rfl) ?_) <;> try simp only [qM, qC, qF, qH, qD, qA, qG, reduceIte, seval, Int.cast_ofNat_Int, qN, qO, qL, qY, zA, zB, uC, uA, d4, qE m5 qV, qE m5 zT, mn1, mn2, e6, e7, qI6, zE4, siOf_eq]))
  obtain ⟨fs, at_, nd, same, S0, sp, hfs, ti', hlt, hle, hno⟩ := spot_ex ti (x.1.1.take 24) (x.1.2.take 48) (qU6 x.2) ro (by simp; omega)
  have hgk := vC (x.1.1.take 24)
  have hlt24 : (x.1.1.take 24).length ≤ 24 := by simp; omega
  have hlt48 : (x.1.2.take 48).length ≤ 48 := by simp; omega
  have hsi := siOf_lt x.2
  have hfs2 : fs.length ≤ 200 := by omega
  have S5 := s3.trans s35
  rw [el1] at r6
  rw [el2] at r7
  rw [el1, el2]
  have x5 := x3.hs s35
  have y5 := y3.hs s35
  refine (c_Insert N S5 t x5 ti r6 r7 (by omega) (by omega) (by omega) sp (by omega) (by omega)).mono ?_
  rintro _ h6 ⟨rfl, s6, fr6, v6, cs6, x6⟩
  have y6 := y5.fr fr6 x5.obj rfl kkq.symm (by decide) (by decide)
  refine qJ ?_; repeat' (first | with_reducible apply qK | ((first | (with_reducible apply qI) | with_reducible apply qB) <;> try simp only [qM, qC, qF, qH, qD, qA, qG, reduceIte, seval, Int.cast_ofNat_Int, qN, qO, qL, qY, zA, zB, uC, uA]))
  refine (zM3 N s6 y6 ti (r6.fr fr6) (r7.fr fr6) (by omega) (by omega) (by omega) sp (by omega) hfs).mono ?_
  rintro _ h7 ⟨rfl, s7, fr7, v7, cs7, y7⟩
  have x7 := x6.fr fr7 y6.obj rfl kkq (by decide) (by decide)
  generalize hS : fs.reverse.foldl (pP (qU (x.1.1.take 24))) S0 = S at *
  have bs : ((S.2 : Int) == (S.2 : Int)) = true := by simp
  refine qJ ?_; repeat' (first | with_reducible apply qK | ((first | (with_reducible apply qI) | with_reducible apply qB) <;> try simp only [qM, qC, qF, qH, qD, qA, qG, reduceIte, seval, Int.cast_ofNat_Int, qN, qO, qL, qY, zA, zB, uC, uA, wi, bs]))
  refine ⟨_, (i + 1, (S.2 : Int)), by simp only; omega, (by simp only [List.forall_mem_cons, List.not_mem_nil, false_implies, implies_true, List.map, List.cons_append, List.nil_append, lk, Nat.reduceEqDiff, reduceIte, and_true, true_and]), rfl, by simp only; omega, s7, S.1, v6, cs6, v7, cs7, x7, y7, ti', .inr ⟨S.2, rfl, hlt⟩, by simp only; omega, fun q => by simp at q, fun q x' hx' => ?_⟩
  simp only at q
  obtain rfl : i = 0 := by omega
  rw [hx] at hx'
  cases hx'
  have hrt := z0 rfl
  have hM0 : M = [] := by
    rcases ro with ⟨_, q⟩ | ⟨r, q, _⟩
    · exact q
    · rw [hrt] at q; omega
  have := hno hrt
  rw [this, hM0]
  exact ⟨rfl, rfl⟩
structure Pn (K : Type) where
  (kd si dp nw : Int)
  (id ky pf lf rt : List UInt8)
  (kids : List K)
def Pn.cs {K : Type} (p : Pn K) (i k x l r s : Value) : List Value := [.int .i64 p.kd, i, k, .int .i64 p.si, .int .i64 p.dp, x, .int .i64 p.nw, l, r, s]
def RPn {K : Type} (R : GH → List Value → K → Prop) (h : GH) (cs : List Value) (p : Pn K) : Prop :=
  ∃ a1 c1 a2 c2 a3 c3 a4 c4 a5 c5 a6 c6, cs = p.cs (.slice a1 p.id.length c1) (.slice a2 p.ky.length c2) (.slice a3 p.pf.length c3) (.slice a4 p.lf.length c4) (.slice a5 p.rt.length c5) (.slice a6 p.kids.length c6) ∧
    RB h (.slice a1 p.id.length c1) p.id ∧ RB h (.slice a2 p.ky.length c2) p.ky ∧ RB h (.slice a3 p.pf.length c3) p.pf ∧ RB h (.slice a4 p.lf.length c4) p.lf ∧ RB h (.slice a5 p.rt.length c5) p.rt ∧ RL 10 R h (.slice a6 p.kids.length c6) p.kids
theorem RL.hs {α : Type} {es : Nat} {R : GH → List Value → α → Prop} {h h' : GH} {v : Value} {l : List α} (s : HS h h') (f : ∀ cs x, R h cs x → R h' cs x) (r : RL es R h v l) : RL es R h' v l := RL.hcR (R := R) r s.hc f
theorem RPn.hs {K : Type} {R : GH → List Value → K → Prop} {h h' : GH} (s : HS h h') (f : ∀ cs x, R h cs x → R h' cs x) {cs : List Value} {p : Pn K} (r : RPn R h cs p) : RPn R h' cs p := by
  obtain ⟨a1, c1, a2, c2, a3, c3, a4, c4, a5, c5, a6, c6, rfl, r1, r2, r3, r4, r5, r6⟩ := r
  exact ⟨a1, c1, a2, c2, a3, c3, a4, c4, a5, c5, a6, c6, rfl, r1.hs s, r2.hs s, r3.hs s, r4.hs s, r5.hs s, RL.hs s f r6⟩
theorem RPn.len {K : Type} {R : GH → List Value → K → Prop} {h : GH} {cs : List Value} {p : Pn K} (r : RPn R h cs p) : cs.length = 10 ∧ cs.all zF = true ∧ cs.all uT = true := by
  obtain ⟨a1, c1, a2, c2, a3, c3, a4, c4, a5, c5, a6, c6, rfl, _⟩ := r
  exact ⟨rfl, rfl, rfl⟩
def Pd : Nat → Type
  | 0 => Empty
  | n + 1 => Pn (Pd n)
def RPd : (n : Nat) → GH → List Value → Pd n → Prop
  | 0, _, _, _ => False
  | n + 1, h, cs, p => RPn (RPd n) h cs p
theorem RPd.hs {h h' : GH} (s : HS h h') : ∀ (n : Nat) {cs : List Value} {p : Pd n}, RPd n h cs p → RPd n h' cs p
  | 0, _, _, r => r
  | n + 1, _, _, r => RPn.hs s (fun _ _ q => RPd.hs s n q) r
abbrev Hp : Type := Int × Int × List UInt8
def RHp (h : GH) (cs : List Value) (x : Hp) : Prop := ∃ a c, cs = [.int .i64 x.1, .int .i64 x.2.1, .slice a x.2.2.length c] ∧ RB h (.slice a x.2.2.length c) x.2.2
theorem RHp.hs {h h' : GH} (s : HS h h') {cs : List Value} {x : Hp} (r : RHp h cs x) : RHp h' cs x := by
  obtain ⟨a, c, rfl, q⟩ := r
  exact ⟨a, c, rfl, q.hs s⟩
def qN9 (n : Int) : Bool := decide (n ≥ 0) && decide (n < 256)
section
variable {K : Type}
def Pn.noLeaf (p : Pn K) : Bool := ((p.id.length : Int) == 0) && ((p.ky.length : Int) == 0) && (p.si == 0)
def Pn.noFork (p : Pn K) : Bool := (p.dp == 0) && ((p.pf.length : Int) == 0) && (p.nw == 0) && ((p.lf.length : Int) == 0) && ((p.rt.length : Int) == 0) && ((p.kids.length : Int) == 0)
def Pn.blank (p : Pn K) (leaf fork : Bool) : Bool := (leaf || p.noLeaf) && (fork || p.noFork)
def Pn.frk (p : Pn K) : Bool := p.blank false true && qN9 p.nw && decide (p.dp ≥ 0) && decide (p.dp ≤ 2048) && ((p.pf.length : Int) == Int.tdiv (p.dp + 7) 8) && (zG p.pf p.dp.toNat == p.pf)
def Pn.hsh (p : Pn K) (n : Int) : Bool := ((p.lf.length : Int) == n) && ((p.rt.length : Int) == n)
def Pn.right (size : Int) (p : Pn K) : Bool :=
  if p.kd = 0 then p.blank false false
  else if p.kd = 1 then p.blank true false && qN9 p.si && decide ((p.id.length : Int) ≤ 255) && decide ((p.ky.length : Int) ≤ 48)
  else if p.kd = 2 then p.frk && p.hsh size && ((p.kids.length : Int) == 0)
  else if p.kd = 3 then p.frk && p.hsh 0 && ((p.kids.length : Int) == 2)
  else false
def Pn.bits (p : Pn K) : List UInt8 := if p.kd = 1 then qU p.id else p.pf
def Pn.ends (size : Int) (row : List UInt8) (last : Int) (p : Pn K) : Bool :=
  if (p.kd == 3 || !p.right size) = true then false
  else if p.kd = 0 then decide (last < 0)
  else fV p.bits row (last + 1) && (p.kd == 1 || decide (p.dp > last) && !fV row p.pf p.dp)
def kB (size : Int) (row : List UInt8) (last : Int) (x : Hp) : Bool := !(decide (x.1 ≤ last) || decide (x.1 ≥ 8 * (row.length : Int)) || !qN9 x.2.1 || ((x.2.2.length : Int) != size))
def rS (size : Int) (row : List UInt8) : Int → List Hp → Option Int
  | last, [] => some last
  | last, x :: l => if kB size row last x = true then rS size row x.1 l else none
def qG0 (size : Int) (id : List UInt8) : Bool := decide (size < 1) || decide (size > 32) || decide ((id.length : Int) > 24)
def qL4 (size : Int) (id : List UInt8) (hops : List Hp) (en : Pn K) : Bool :=
  !qG0 size id && (match rS size (qU id) (-1) hops with | some last => en.ends size (qU id) last | none => false)
def xK (p : Pn K) : List UInt8 :=
  if p.kd = 1 then fS p.id p.ky p.si.toNat else if p.kd = 2 then wW p.dp.toNat p.pf p.nw.toNat p.lf p.rt else emptyB
def wY (size : Int) (row : List UInt8) (t : List UInt8) (x : Hp) : List UInt8 :=
  if xP row x.1.toNat = 1 then wW x.1.toNat row x.2.1.toNat x.2.2 (vD size t) else wW x.1.toNat row x.2.1.toNat (vD size t) x.2.2
def rI (size : Int) (row : List UInt8) (en : List UInt8) : List Hp → List (List UInt8)
  | [] => [en]
  | x :: l => wY size row ((rI size row en l).headD []) x :: rI size row en l
end
theorem yI : type_of% (And.intro zP (And.intro uU (And.intro uE (And.intro xS (And.intro wO rs145))))) := And.intro zP (And.intro uU (And.intro uE (And.intro xS (And.intro wO rs145))))
theorem qB3 : type_of% (And.intro zP (And.intro uU (And.intro uE (And.intro xS (And.intro wO rs143))))) := And.intro zP (And.intro uU (And.intro uE (And.intro xS (And.intro wO rs143))))
theorem gB : type_of% (And.intro zP (And.intro uU (And.intro uE (And.intro xS (And.intro jG (And.intro wO rs144)))))) := And.intro zP (And.intro uU (And.intro uE (And.intro xS (And.intro jG (And.intro wO rs144)))))
def jT : Nat → List (Nat × List Nat) × List Nat
  | 1 => ([(0, []), (1, []), (2, []), (3, []), (4, []), (5, []), (6, []), (7, []), (8, []), (9, []), (10, []), (11, []), (12, []), (13, []), (14, []), (15, []), (16, []), (17, []), (18, []), (19, []), (20, []), (21, []), (22, []), (23, []), (24, []), (25, []), (26, []), (27, []), (28, []), (29, []), (30, []), (31, []), (33, []), (34, []), (32, [34]), (35, []), (36, []), (37, [])], [0, 1, 3, 7, 15, 31, 63, 127, 255, 511, 1023, 2047, 4095, 8191, 16383, 32767, 65535, 131071, 262143, 524287, 1048575, 262143, 2359295, 6553599, 14942207, 33554431, 67108863, 134217727, 268435455, 536870911, 268435455, 1342177279, 4294967295, 268435455, 8858370047, 34359738367, 68719476735, 137438953471])
  | _ => ([], [])
theorem wU : type_of% (And.intro zP (And.intro uU (And.intro uE (And.intro xS (And.intro jG (And.intro wO rs108)))))) := And.intro zP (And.intro uU (And.intro uE (And.intro xS (And.intro jG (And.intro wO rs108)))))
theorem tP : type_of% (And.intro zP (And.intro uU (And.intro uE (And.intro xS (And.intro wO rs109))))) := And.intro zP (And.intro uU (And.intro uE (And.intro xS (And.intro wO rs109))))
theorem kH : type_of% (And.intro zP (And.intro uU (And.intro uE (And.intro xS (And.intro jG (And.intro wO rs64)))))) := And.intro zP (And.intro uU (And.intro uE (And.intro xS (And.intro jG (And.intro wO rs64)))))
theorem yP : type_of% (And.intro zP (And.intro rF (And.intro uU (And.intro uE (And.intro sW (And.intro sV (And.intro xS (And.intro jG (And.intro wO rs19))))))))) := And.intro zP (And.intro rF (And.intro uU (And.intro uE (And.intro sW (And.intro sV (And.intro xS (And.intro jG (And.intro wO rs19))))))))
theorem uJ (N : Nat) (h : GH) (n : Int) : GTri Tryz.prog N 63 [.int .i64 n] h fun v h' => v = .bool (qN9 n) ∧ h' = h := by
  unfold qN9
  refine xH Tryz.func63 rfl gf63 ok63 (by simp [Tryz.ntmps63]) ?_
  cases z0 : (decide (n ≥ 0))
  case false =>
    refine qJ ?_; repeat' (first | with_reducible apply qK | ((first | (with_reducible apply qI) | (with_reducible first | apply qB | apply qP)) <;> try simp only [qM, qC, qF, qH, qD, qA, qG, reduceIte, seval, Int.cast_ofNat_Int, qN, qO, xS, rs63, z0, gPick]))
    all_goals simp only [Bool.false_and]
  cases z1 : (decide (n < 256))
  case false =>
    refine qJ ?_; repeat' (first | with_reducible apply qK | ((first | (with_reducible apply qI) | (with_reducible first | apply qB | apply qP)) <;> try simp only [qM, qC, qF, qH, qD, qA, qG, reduceIte, seval, Int.cast_ofNat_Int, qN, qO, xS, rs63, z0, z1, gPick]))
    all_goals simp only [Bool.false_and]
  refine qJ ?_; repeat' (first | with_reducible apply qK | ((first | (with_reducible apply qI) | (with_reducible first | apply qB | apply qP)) <;> try simp only [qM, qC, qF, qH, qD, qA, qG, reduceIte, seval, Int.cast_ofNat_Int, qN, qO, xS, rs63, z0, z1, gPick]))
section
variable {K : Type} {R : GH → List Value → K → Prop}
theorem qT0 (N : Nat) {h : GH} {cs : List Value} {p : Pn K} (r : RPn R h cs p) (lf fk : Bool) : GTri Tryz.prog N 145 [.agg cs.toArray, .bool lf, .bool fk] h fun v h' => v = .bool (p.blank lf fk) ∧ HS h h' := by
  obtain ⟨a1, c1, a2, c2, a3, c3, a4, c4, a5, c5, a6, c6, rfl, r1, r2, r3, r4, r5, r6⟩ := r
  refine xH Tryz.func145 rfl gf145 ok145 (by simp [Tryz.ntmps145]) ?_
  repeat' (first | with_reducible apply qK | (with_reducible apply qB <;> try simp only [qM, qC, qF, qH, qD, qA, qG, reduceIte, seval, Int.cast_ofNat_Int, qN, qO, yI]))
  refine yY rfl fun k1 h1 m1 s1 f1 n1 => ?_
  simp only [Pn.cs] at m1
  simp only [qM, qC, qF, qH, qD, qA, qG, reduceIte, seval, Int.cast_ofNat_Int, qN, qO, yI]
  refine qK ?_
  refine GW.mono (Q := fun x e' h' => x = .normal ∧ h1 = h' ∧ lk e' 1 = .bool lf ∧ lk e' 2 = .bool fk ∧ lk e' 3 = .pointer (some ⟨k1, 0, none⟩) ∧ lk e' 7 = .bool p.noLeaf) ?_ ?_
  · unfold Pn.noLeaf
    cases z0 : ((p.id.length : Int) == 0)
    case false =>
      refine qJ ?_; repeat' (first | ((first | (with_reducible apply qI) | with_reducible apply qB) <;> try simp only [qM, qC, qF, qH, qD, qA, qG, reduceIte, seval, Int.cast_ofNat_Int, qN, qO, yI, z0, qE m1 zT, qE m1 qV, qE m1 uB, gPick]))
      all_goals simp only [Bool.false_and]
    cases z1 : ((p.ky.length : Int) == 0)
    case false =>
      refine qJ ?_; repeat' (first | ((first | (with_reducible apply qI) | with_reducible apply qB) <;> try simp only [qM, qC, qF, qH, qD, qA, qG, reduceIte, seval, Int.cast_ofNat_Int, qN, qO, yI, z0, z1, qE m1 zT, qE m1 qV, qE m1 uB, gPick]))
      all_goals simp only [Bool.false_and]
    cases z2 : (p.si == 0)
    case false =>
      refine qJ ?_; repeat' (first | ((first | (with_reducible apply qI) | with_reducible apply qB) <;> try simp only [qM, qC, qF, qH, qD, qA, qG, reduceIte, seval, Int.cast_ofNat_Int, qN, qO, yI, z0, z1, z2, qE m1 zT, qE m1 qV, qE m1 uB, gPick]))
      all_goals simp only [Bool.false_and]
    refine qJ ?_; repeat' (first | ((first | (with_reducible apply qI) | with_reducible apply qB) <;> try simp only [qM, qC, qF, qH, qD, qA, qG, reduceIte, seval, Int.cast_ofNat_Int, qN, qO, yI, z0, z1, z2, qE m1 zT, qE m1 qV, qE m1 uB, gPick]))
  rintro _ e' _ ⟨rfl, rfl, q1, q2, q3, q7⟩
  rw [gG]
  refine tC [(1, .bool lf), (2, .bool fk), (3, .pointer (some ⟨k1, 0, none⟩)), (7, .bool p.noLeaf)] (by simp [q1, q2, q3, q7]) ?_
  clear q1 q2 q3 q7
  refine qK ?_
  refine GW.mono (Q := fun x e' h' => x = .normal ∧ h1 = h' ∧ lk e' 1 = .bool lf ∧ lk e' 2 = .bool fk ∧ lk e' 7 = .bool p.noLeaf ∧ lk e' 8 = .bool p.noFork) ?_ ?_
  · generalize p.noLeaf = nl
    unfold Pn.noFork
    cases z0 : (p.dp == 0)
    case false =>
      refine qJ ?_; repeat' (first | ((first | (with_reducible apply qI) | with_reducible apply qB) <;> try simp only [qM, qC, qF, qH, qD, qA, qG, reduceIte, seval, Int.cast_ofNat_Int, qN, qO, yI, z0, qE m1 zT, qE m1 qV, qE m1 uB, gPick]))
      all_goals simp only [Bool.false_and]
    cases z1 : ((p.pf.length : Int) == 0)
    case false =>
      refine qJ ?_; repeat' (first | ((first | (with_reducible apply qI) | with_reducible apply qB) <;> try simp only [qM, qC, qF, qH, qD, qA, qG, reduceIte, seval, Int.cast_ofNat_Int, qN, qO, yI, z0, z1, qE m1 zT, qE m1 qV, qE m1 uB, gPick]))
      all_goals simp only [Bool.false_and]
    cases z2 : (p.nw == 0)
    case false =>
      refine qJ ?_; repeat' (first | ((first | (with_reducible apply qI) | with_reducible apply qB) <;> try simp only [qM, qC, qF, qH, qD, qA, qG, reduceIte, seval, Int.cast_ofNat_Int, qN, qO, yI, z0, z1, z2, qE m1 zT, qE m1 qV, qE m1 uB, gPick]))
      all_goals simp only [Bool.false_and]
    cases z3 : ((p.lf.length : Int) == 0)
    case false =>
      refine qJ ?_; repeat' (first | ((first | (with_reducible apply qI) | with_reducible apply qB) <;> try simp only [qM, qC, qF, qH, qD, qA, qG, reduceIte, seval, Int.cast_ofNat_Int, qN, qO, yI, z0, z1, z2, z3, qE m1 zT, qE m1 qV, qE m1 uB, gPick]))
      all_goals simp only [Bool.false_and]
    cases z4 : ((p.rt.length : Int) == 0)
    case false =>
      refine qJ ?_; repeat' (first | ((first | (with_reducible apply qI) | with_reducible apply qB) <;> try simp only [qM, qC, qF, qH, qD, qA, qG, reduceIte, seval, Int.cast_ofNat_Int, qN, qO, yI, z0, z1, z2, z3, z4, qE m1 zT, qE m1 qV, qE m1 uB, gPick]))
      all_goals simp only [Bool.false_and]
    cases z5 : ((p.kids.length : Int) == 0)
    case false =>
      refine qJ ?_; repeat' (first | ((first | (with_reducible apply qI) | with_reducible apply qB) <;> try simp only [qM, qC, qF, qH, qD, qA, qG, reduceIte, seval, Int.cast_ofNat_Int, qN, qO, yI, z0, z1, z2, z3, z4, z5, qE m1 zT, qE m1 qV, qE m1 uB, gPick]))
      all_goals simp only [Bool.false_and]
    refine qJ ?_; repeat' (first | ((first | (with_reducible apply qI) | with_reducible apply qB) <;> try simp only [qM, qC, qF, qH, qD, qA, qG, reduceIte, seval, Int.cast_ofNat_Int, qN, qO, yI, z0, z1, z2, z3, z4, z5, qE m1 zT, qE m1 qV, qE m1 uB, gPick]))
  rintro _ e' _ ⟨rfl, rfl, q1, q2, q7, q8⟩
  rw [gG]
  refine tC [(1, .bool lf), (2, .bool fk), (7, .bool p.noLeaf), (8, .bool p.noFork)] (by simp [q1, q2, q7, q8]) ?_
  clear q1 q2 q7 q8
  unfold Pn.blank
  generalize p.noLeaf = nl
  generalize p.noFork = nf
  cases lf <;> cases nl <;> cases fk
  all_goals
    refine qJ ?_; repeat' (first | with_reducible apply qK | ((first | (with_reducible apply qI) | (with_reducible first | apply qB | apply qP)) <;> try simp only [qM, qC, qF, qH, qD, qA, qG, reduceIte, seval, Int.cast_ofNat_Int, qN, qO, yI, gPick]))
    first | exact s1 | exact ⟨rfl, s1⟩
theorem tV (N : Nat) {h : GH} {k : Nat} {p : Pn K} {a1 c1 a2 c2 a3 c3 a4 c4 a5 c5 a6 c6} (m : h k = some ⟨p.cs (.slice a1 p.id.length c1) (.slice a2 p.ky.length c2) (.slice a3 p.pf.length c3) (.slice a4 p.lf.length c4) (.slice a5 p.rt.length c5) (.slice a6 p.kids.length c6), 0, true, false⟩) (n : Int) : GTri Tryz.prog N 143 [.int .i64 n, .pointer (some ⟨k, 0, none⟩)] h fun v h' => v = .bool (p.hsh n) ∧ h' = h := by
  simp only [Pn.cs] at m
  unfold Pn.hsh
  refine xH Tryz.func143 rfl gf143 ok143 (by simp [Tryz.ntmps143]) ?_
  cases z0 : ((p.lf.length : Int) == n)
  case false =>
    refine qJ ?_; repeat' (first | with_reducible apply qK | ((first | (with_reducible apply qI) | (with_reducible first | apply qB | apply qP)) <;> try simp only [qM, qC, qF, qH, qD, qA, qG, reduceIte, seval, Int.cast_ofNat_Int, qN, qO, qB3, z0, qE m qV, gPick]))
    all_goals simp only [Bool.false_and]
  cases z1 : ((p.rt.length : Int) == n)
  case false =>
    refine qJ ?_; repeat' (first | with_reducible apply qK | ((first | (with_reducible apply qI) | (with_reducible first | apply qB | apply qP)) <;> try simp only [qM, qC, qF, qH, qD, qA, qG, reduceIte, seval, Int.cast_ofNat_Int, qN, qO, qB3, z0, z1, qE m qV, gPick]))
    all_goals simp only [Bool.false_and]
  refine qJ ?_; repeat' (first | with_reducible apply qK | ((first | (with_reducible apply qI) | (with_reducible first | apply qB | apply qP)) <;> try simp only [qM, qC, qF, qH, qD, qA, qG, reduceIte, seval, Int.cast_ofNat_Int, qN, qO, qB3, z0, z1, qE m qV, gPick]))
theorem qZ3 (N : Nat) {h : GH} {k : Nat} {p : Pn K} {a1 c1 a2 c2 a3 c3 a4 c4 a5 c5 a6 c6} (m : h k = some ⟨p.cs (.slice a1 p.id.length c1) (.slice a2 p.ky.length c2) (.slice a3 p.pf.length c3) (.slice a4 p.lf.length c4) (.slice a5 p.rt.length c5) (.slice a6 p.kids.length c6), 0, true, false⟩) (r : RPn R h (p.cs (.slice a1 p.id.length c1) (.slice a2 p.ky.length c2) (.slice a3 p.pf.length c3) (.slice a4 p.lf.length c4) (.slice a5 p.rt.length c5) (.slice a6 p.kids.length c6)) p) (r3 : RB h (.slice a3 p.pf.length c3) p.pf) (hl : p.pf.length ≤ 100000000) : GTri Tryz.prog N 144 [.pointer (some ⟨k, 0, none⟩)] h fun v h' => v = .bool p.frk ∧ HS h h' := by
  have ld := zU (P := Tryz.prog) (t := 26) m dC rfl
  unfold Pn.frk
  refine xH Tryz.func144 rfl gf144 ok144 (by simp [Tryz.ntmps144]) ?_
  refine qJ ?_; repeat' (first | with_reducible apply qK | ((first | (with_reducible apply qI) | with_reducible apply qB | with_reducible refine zH jT xQ (by kernel_rfl) ?_) <;> try simp only [qM, qC, qF, qH, qD, qA, qG, reduceIte, seval, Int.cast_ofNat_Int, qN, qO, qL, qY, zA, zB, gB, jT, ld]))
  refine (qT0 N r false true).mono ?_
  rintro _ h2 ⟨rfl, s2⟩
  have m2 := s2 _ _ m
  simp only [Pn.cs] at m2
  cases hbl : p.blank false true
  case false =>
    refine qJ ?_; repeat' (first | ((first | (with_reducible apply qI) | with_reducible apply qP) <;> try simp only [qM, qC, qF, qH, qD, qA, qG, reduceIte, seval, Int.cast_ofNat_Int, qN, qO, qL, qY, zA, zB, gB, jT, gPick]))
    all_goals simp only [Bool.false_and]
    first | exact s2 | exact ⟨by first | rfl | trivial, s2⟩
  cases z0 : (qN9 p.nw)
  case false =>
    refine qJ ?_; repeat' (first | ((first | (with_reducible apply qI) | with_reducible apply qP | ((refine GTri.mono (uJ _ _ _) ?_); rintro _ _ ⟨rfl, hh9⟩; replace hh9 := hh9.symm; subst hh9)) <;> try simp only [qM, qC, qF, qH, qD, qA, qG, reduceIte, seval, Int.cast_ofNat_Int, qN, qO, qL, qY, zA, zB, gB, jT, z0, qE m2 zT, qE m2 qV, gPick]))
    simp only [hbl, z0, Bool.false_and, Bool.true_and, Bool.and_false]
    exact ⟨by first | rfl | trivial, s2⟩
  cases z1 : (decide (p.dp ≥ 0))
  case false =>
    refine qJ ?_; repeat' (first | ((first | (with_reducible apply qI) | with_reducible apply qP | ((refine GTri.mono (uJ _ _ _) ?_); rintro _ _ ⟨rfl, hh9⟩; replace hh9 := hh9.symm; subst hh9)) <;> try simp only [qM, qC, qF, qH, qD, qA, qG, reduceIte, seval, Int.cast_ofNat_Int, qN, qO, qL, qY, zA, zB, gB, jT, z0, z1, qE m2 zT, qE m2 qV, gPick]))
    simp only [hbl, z0, z1, Bool.false_and, Bool.true_and, Bool.and_false]
    exact ⟨by first | rfl | trivial, s2⟩
  cases z2 : (decide (p.dp ≤ 2048))
  case false =>
    refine qJ ?_; repeat' (first | ((first | (with_reducible apply qI) | with_reducible apply qP | ((refine GTri.mono (uJ _ _ _) ?_); rintro _ _ ⟨rfl, hh9⟩; replace hh9 := hh9.symm; subst hh9)) <;> try simp only [qM, qC, qF, qH, qD, qA, qG, reduceIte, seval, Int.cast_ofNat_Int, qN, qO, qL, qY, zA, zB, gB, jT, z0, z1, z2, qE m2 zT, qE m2 qV, gPick]))
    simp only [hbl, z0, z1, z2, Bool.false_and, Bool.true_and, Bool.and_false]
    exact ⟨by first | rfl | trivial, s2⟩
  have y1 : 0 ≤ p.dp := by simpa using z1
  have y2 : p.dp ≤ 2048 := by simpa using z2
  have w7 : IntKind.i64.wrap (p.dp + 7) = p.dp + 7 := by rw [wrap64 (by omega) (by omega)]
  have t0 := Int.tdiv_eq_ediv_of_nonneg (a := p.dp + 7) (b := 8) (by omega)
  have w8 : IntKind.i64.wrap (Int.tdiv (p.dp + 7) 8) = Int.tdiv (p.dp + 7) 8 := by rw [wrap64 (by omega) (by omega)]
  cases z3 : ((p.pf.length : Int) == Int.tdiv (p.dp + 7) 8)
  case false =>
    refine qJ ?_; repeat' (first | ((first | (with_reducible apply qI) | with_reducible apply qP | ((refine GTri.mono (uJ _ _ _) ?_); rintro _ _ ⟨rfl, hh9⟩; replace hh9 := hh9.symm; subst hh9)) <;> try simp only [qM, qC, qF, qH, qD, qA, qG, reduceIte, seval, Int.cast_ofNat_Int, qN, qO, qL, qY, zA, zB, gB, jT, z0, z1, z2, z3, w7, w8, qE m2 zT, qE m2 qV, gPick]))
    simp only [hbl, z0, z1, z2, z3, Bool.false_and, Bool.true_and, Bool.and_false]
    exact ⟨by first | rfl | trivial, s2⟩
  refine qJ ?_; repeat' (first | ((first | (with_reducible apply qI) | ((refine GTri.mono (uJ _ _ _) ?_); rintro _ _ ⟨rfl, hh9⟩; replace hh9 := hh9.symm; subst hh9)) <;> try simp only [qM, qC, qF, qH, qD, qA, qG, reduceIte, seval, Int.cast_ofNat_Int, qN, qO, qL, qY, zA, zB, gB, jT, z0, z1, z2, z3, w7, w8, qE m2 zT, qE m2 qV, gPick]))
  refine (lS N h2 (r3.hs s2) (by omega) p.dp).mono ?_
  rintro _ h3 ⟨s3, a7, c7, rfl, r7⟩
  have m3 := s3 _ _ m2
  refine qJ ?_; repeat' (first | ((first | (with_reducible apply qI) | with_reducible apply qP | ((refine GTri.mono (qT1 _ _ r7 ((r3.hs s2).hs s3)) ?_); rintro _ _ ⟨rfl, hh9⟩; replace hh9 := hh9.symm; subst hh9)) <;> try simp only [qM, qC, qF, qH, qD, qA, qG, reduceIte, seval, Int.cast_ofNat_Int, qN, qO, qL, qY, zA, zB, gB, jT, qE m3 qV, qE m3 zT, gPick]))
  try simp only [z0, z1, z2, z3, Bool.true_and]
  first | exact s2.trans s3 | exact ⟨by first | rfl | trivial, s2.trans s3⟩
theorem c_Right (N : Nat) {h : GH} {cs : List Value} {p : Pn K} (r : RPn R h cs p) (fR : ∀ {h h'}, HS h h' → ∀ cs x, R h cs x → R h' cs x) (size : Int) (hl : p.pf.length ≤ 100000000) : GTri Tryz.prog N 108 [.int .i64 size, .agg cs.toArray] h fun v h' => v = .bool (p.right size) ∧ HS h h' := by
  have r0 := r
  obtain ⟨a1, c1, a2, c2, a3, c3, a4, c4, a5, c5, a6, c6, rfl, r1, r2, r3, r4, r5, r6⟩ := r
  unfold Pn.right
  refine xH Tryz.func108 rfl gf108 ok108 (by simp [Tryz.ntmps108]) ?_
  repeat' (first | with_reducible apply qK | (with_reducible apply qB <;> try simp only [qM, qC, qF, qH, qD, qA, qG, reduceIte, seval, Int.cast_ofNat_Int, qN, qO, wU]))
  refine yY rfl fun k1 h1 m1 s1 f1 n1 => ?_
  have rr := r0.hs s1 (fR s1)
  have q3 := r3.hs s1
  have ld := zU (P := Tryz.prog) (t := 26) m1 dC rfl
  have m1' := m1
  simp only [Pn.cs] at m1'
  by_cases k0 : p.kd = 0
  · have e0 : (p.kd == 0) = true := by simp [k0]
    rw [if_pos k0]
    refine qJ ?_; repeat' (first | (with_reducible first | apply qK | apply qQ) | ((first | (with_reducible apply qI) | (with_reducible first | apply qB | apply qS)) <;> try simp only [qM, qC, qF, qH, qD, qA, qG, reduceIte, seval, Int.cast_ofNat_Int, qN, qO, wU, qE m1' zT, e0, ld, List.map_toArray, List.map_cons, List.map_nil]))
    refine (qT0 N rr false false).mono ?_
    rintro _ h2 ⟨rfl, s2⟩
    refine qJ ?_; repeat' (first | ((first | (with_reducible apply qI) | with_reducible apply qP) <;> try simp only [qM, qC, qF, qH, qD, qA, qG, reduceIte, seval, Int.cast_ofNat_Int, qN, qO, wU]))
    exact s1.trans s2
  have e0 : (p.kd == 0) = false := by simp [k0]
  rw [if_neg k0]
  by_cases k1' : p.kd = 1
  · have e1 : (p.kd == 1) = true := by simp [k1']
    rw [if_pos k1']
    refine qJ ?_; repeat' (first | (with_reducible first | apply qK | apply qQ) | ((first | (with_reducible apply qI) | (with_reducible first | apply qB | apply qS)) <;> try simp only [qM, qC, qF, qH, qD, qA, qG, reduceIte, seval, Int.cast_ofNat_Int, qN, qO, wU, qE m1' zT, e0, e1, ld, List.map_toArray, List.map_cons, List.map_nil]))
    refine (qT0 N rr true false).mono ?_
    rintro _ h2 ⟨rfl, s2⟩
    have m2 := s2 _ _ m1'
    cases hbl : p.blank true false
    case false =>
      refine qJ ?_; repeat' (first | ((first | (with_reducible apply qI) | with_reducible apply qP) <;> try simp only [qM, qC, qF, qH, qD, qA, qG, reduceIte, seval, Int.cast_ofNat_Int, qN, qO, wU, gPick]))
      all_goals simp only [Bool.false_and]
      first | exact s1.trans s2 | exact ⟨by first | rfl | trivial, s1.trans s2⟩
    cases z0 : (qN9 p.si)
    case false =>
      refine qJ ?_; repeat' (first | ((first | (with_reducible apply qI) | with_reducible apply qP | ((refine GTri.mono (uJ _ _ _) ?_); rintro _ _ ⟨rfl, hh9⟩; replace hh9 := hh9.symm; subst hh9)) <;> try simp only [qM, qC, qF, qH, qD, qA, qG, reduceIte, seval, Int.cast_ofNat_Int, qN, qO, wU, z0, qE m2 zT, qE m2 qV, gPick]))
      try simp only [hbl, z0, Bool.false_and, Bool.true_and, Bool.and_false]
      first | exact s1.trans s2 | exact ⟨by first | rfl | trivial, s1.trans s2⟩
    cases z1 : (decide ((p.id.length : Int) ≤ 255))
    case false =>
      refine qJ ?_; repeat' (first | ((first | (with_reducible apply qI) | with_reducible apply qP | ((refine GTri.mono (uJ _ _ _) ?_); rintro _ _ ⟨rfl, hh9⟩; replace hh9 := hh9.symm; subst hh9)) <;> try simp only [qM, qC, qF, qH, qD, qA, qG, reduceIte, seval, Int.cast_ofNat_Int, qN, qO, wU, z0, z1, qE m2 zT, qE m2 qV, gPick]))
      try simp only [hbl, z0, z1, Bool.false_and, Bool.true_and, Bool.and_false]
      first | exact s1.trans s2 | exact ⟨by first | rfl | trivial, s1.trans s2⟩
    cases z2 : (decide ((p.ky.length : Int) ≤ 48))
    case false =>
      refine qJ ?_; repeat' (first | ((first | (with_reducible apply qI) | with_reducible apply qP | ((refine GTri.mono (uJ _ _ _) ?_); rintro _ _ ⟨rfl, hh9⟩; replace hh9 := hh9.symm; subst hh9)) <;> try simp only [qM, qC, qF, qH, qD, qA, qG, reduceIte, seval, Int.cast_ofNat_Int, qN, qO, wU, z0, z1, z2, qE m2 zT, qE m2 qV, gPick]))
      try simp only [hbl, z0, z1, z2, Bool.false_and, Bool.true_and, Bool.and_false]
      first | exact s1.trans s2 | exact ⟨by first | rfl | trivial, s1.trans s2⟩
    refine qJ ?_; repeat' (first | ((first | (with_reducible apply qI) | with_reducible apply qP | ((refine GTri.mono (uJ _ _ _) ?_); rintro _ _ ⟨rfl, hh9⟩; replace hh9 := hh9.symm; subst hh9)) <;> try simp only [qM, qC, qF, qH, qD, qA, qG, reduceIte, seval, Int.cast_ofNat_Int, qN, qO, wU, z0, z1, z2, qE m2 zT, qE m2 qV, gPick]))
    first | exact s1.trans s2 | exact ⟨by first | rfl | trivial, s1.trans s2⟩
  have e1 : (p.kd == 1) = false := by simp [k1']
  rw [if_neg k1']
  by_cases k2 : p.kd = 2
  · have e2 : (p.kd == 2) = true := by simp [k2]
    rw [if_pos k2]
    refine qJ ?_; repeat' (first | (with_reducible first | apply qK | apply qQ) | ((first | (with_reducible apply qI) | (with_reducible first | apply qB | apply qS)) <;> try simp only [qM, qC, qF, qH, qD, qA, qG, reduceIte, seval, Int.cast_ofNat_Int, qN, qO, wU, qE m1' zT, e0, e1, e2, ld, List.map_toArray, List.map_cons, List.map_nil]))
    refine (qZ3 N m1 rr q3 hl).mono ?_
    rintro _ h2 ⟨rfl, s2⟩
    have m2 := s2 _ _ m1'
    cases hbl : p.frk
    case false =>
      refine qJ ?_; repeat' (first | ((first | (with_reducible apply qI) | with_reducible apply qP) <;> try simp only [qM, qC, qF, qH, qD, qA, qG, reduceIte, seval, Int.cast_ofNat_Int, qN, qO, wU, gPick]))
      all_goals simp only [Bool.false_and]
      first | exact s1.trans s2 | exact ⟨by first | rfl | trivial, s1.trans s2⟩
    cases z0 : (p.hsh size)
    case false =>
      refine qJ ?_; repeat' (first | ((first | (with_reducible apply qI) | with_reducible apply qP | ((refine GTri.mono (tV _ (s2 _ _ m1) _) ?_); rintro _ _ ⟨rfl, hh9⟩; replace hh9 := hh9.symm; subst hh9)) <;> try simp only [qM, qC, qF, qH, qD, qA, qG, reduceIte, seval, Int.cast_ofNat_Int, qN, qO, wU, z0, qE m2 zT, qE m2 qV, gPick, qE m2 uB]))
      try simp only [hbl, z0, Bool.false_and, Bool.true_and, Bool.and_false]
      first | exact s1.trans s2 | exact ⟨by first | rfl | trivial, s1.trans s2⟩
    cases z1 : ((p.kids.length : Int) == 0)
    case false =>
      refine qJ ?_; repeat' (first | ((first | (with_reducible apply qI) | with_reducible apply qP | ((refine GTri.mono (tV _ (s2 _ _ m1) _) ?_); rintro _ _ ⟨rfl, hh9⟩; replace hh9 := hh9.symm; subst hh9)) <;> try simp only [qM, qC, qF, qH, qD, qA, qG, reduceIte, seval, Int.cast_ofNat_Int, qN, qO, wU, z0, z1, qE m2 zT, qE m2 qV, gPick, qE m2 uB]))
      try simp only [hbl, z0, z1, Bool.false_and, Bool.true_and, Bool.and_false]
      first | exact s1.trans s2 | exact ⟨by first | rfl | trivial, s1.trans s2⟩
    refine qJ ?_; repeat' (first | ((first | (with_reducible apply qI) | with_reducible apply qP | ((refine GTri.mono (tV _ (s2 _ _ m1) _) ?_); rintro _ _ ⟨rfl, hh9⟩; replace hh9 := hh9.symm; subst hh9)) <;> try simp only [qM, qC, qF, qH, qD, qA, qG, reduceIte, seval, Int.cast_ofNat_Int, qN, qO, wU, z0, z1, qE m2 zT, qE m2 qV, gPick, qE m2 uB]))
    first | exact s1.trans s2 | exact ⟨by first | rfl | trivial, s1.trans s2⟩
  have e2 : (p.kd == 2) = false := by simp [k2]
  rw [if_neg k2]
  by_cases k3 : p.kd = 3
  · have e3 : (p.kd == 3) = true := by simp [k3]
    rw [if_pos k3]
    refine qJ ?_; repeat' (first | (with_reducible first | apply qK | apply qQ) | ((first | (with_reducible apply qI) | (with_reducible first | apply qB | apply qS)) <;> try simp only [qM, qC, qF, qH, qD, qA, qG, reduceIte, seval, Int.cast_ofNat_Int, qN, qO, wU, qE m1' zT, e0, e1, e2, e3, ld, List.map_toArray, List.map_cons, List.map_nil]))
    refine (qZ3 N m1 rr q3 hl).mono ?_
    rintro _ h2 ⟨rfl, s2⟩
    have m2 := s2 _ _ m1'
    cases hbl : p.frk
    case false =>
      refine qJ ?_; repeat' (first | ((first | (with_reducible apply qI) | with_reducible apply qP) <;> try simp only [qM, qC, qF, qH, qD, qA, qG, reduceIte, seval, Int.cast_ofNat_Int, qN, qO, wU, gPick]))
      all_goals simp only [Bool.false_and]
      first | exact s1.trans s2 | exact ⟨by first | rfl | trivial, s1.trans s2⟩
    cases z0 : (p.hsh 0)
    case false =>
      refine qJ ?_; repeat' (first | ((first | (with_reducible apply qI) | with_reducible apply qP | ((refine GTri.mono (tV _ (s2 _ _ m1) _) ?_); rintro _ _ ⟨rfl, hh9⟩; replace hh9 := hh9.symm; subst hh9)) <;> try simp only [qM, qC, qF, qH, qD, qA, qG, reduceIte, seval, Int.cast_ofNat_Int, qN, qO, wU, z0, qE m2 zT, qE m2 qV, gPick, qE m2 uB]))
      try simp only [hbl, z0, Bool.false_and, Bool.true_and, Bool.and_false]
      first | exact s1.trans s2 | exact ⟨by first | rfl | trivial, s1.trans s2⟩
    cases z1 : ((p.kids.length : Int) == 2)
    case false =>
      refine qJ ?_; repeat' (first | ((first | (with_reducible apply qI) | with_reducible apply qP | ((refine GTri.mono (tV _ (s2 _ _ m1) _) ?_); rintro _ _ ⟨rfl, hh9⟩; replace hh9 := hh9.symm; subst hh9)) <;> try simp only [qM, qC, qF, qH, qD, qA, qG, reduceIte, seval, Int.cast_ofNat_Int, qN, qO, wU, z0, z1, qE m2 zT, qE m2 qV, gPick, qE m2 uB]))
      try simp only [hbl, z0, z1, Bool.false_and, Bool.true_and, Bool.and_false]
      first | exact s1.trans s2 | exact ⟨by first | rfl | trivial, s1.trans s2⟩
    refine qJ ?_; repeat' (first | ((first | (with_reducible apply qI) | with_reducible apply qP | ((refine GTri.mono (tV _ (s2 _ _ m1) _) ?_); rintro _ _ ⟨rfl, hh9⟩; replace hh9 := hh9.symm; subst hh9)) <;> try simp only [qM, qC, qF, qH, qD, qA, qG, reduceIte, seval, Int.cast_ofNat_Int, qN, qO, wU, z0, z1, qE m2 zT, qE m2 qV, gPick, qE m2 uB]))
    first | exact s1.trans s2 | exact ⟨by first | rfl | trivial, s1.trans s2⟩
  have e3 : (p.kd == 3) = false := by simp [k3]
  rw [if_neg k3]
  refine qJ ?_; repeat' (first | (with_reducible first | apply qK | apply qQ) | ((first | (with_reducible apply qI) | (with_reducible first | apply qB | apply qS | apply qR | apply qP)) <;> try simp only [qM, qC, qF, qH, qD, qA, qG, reduceIte, seval, Int.cast_ofNat_Int, qN, qO, wU, qE m1' zT, e0, e1, e2, e3, ld, List.map_toArray, List.map_cons, List.map_nil]))
  exact s1
theorem c_Bits (N : Nat) {h : GH} {cs : List Value} {p : Pn K} (r : RPn R h cs p) (hl : p.pf.length ≤ 100000000) : GTri Tryz.prog N 109 [.agg cs.toArray] h fun v h' => HS h h' ∧ ∃ a c, v = .slice a p.bits.length c ∧ RB h' (.slice a p.bits.length c) p.bits := by
  obtain ⟨a1, c1, a2, c2, a3, c3, a4, c4, a5, c5, a6, c6, rfl, r1, r2, r3, r4, r5, r6⟩ := r
  unfold Pn.bits
  refine xH Tryz.func109 rfl gf109 ok109 (by simp [Tryz.ntmps109]) ?_
  repeat' (first | with_reducible apply qK | (with_reducible apply qB <;> try simp only [qM, qC, qF, qH, qD, qA, qG, reduceIte, seval, Int.cast_ofNat_Int, qN, qO, tP]))
  refine yY rfl fun k1 h1 m1 s1 f1 n1 => ?_
  simp only [Pn.cs] at m1
  by_cases k1' : p.kd = 1
  · have e1 : (p.kd == 1) = true := by simp [k1']
    rw [if_pos k1']
    refine qJ ?_; repeat' (first | with_reducible apply qK | ((first | (with_reducible apply qI) | (with_reducible first | apply qB | apply qS)) <;> try simp only [qM, qC, qF, qH, qD, qA, qG, reduceIte, seval, Int.cast_ofNat_Int, qN, qO, tP, qE m1 zT, qE m1 qV, e1]))
    refine (lQ N h1 (r1.hs s1) rfl).mono ?_
    rintro _ h2 ⟨s2, a7, c7, rfl, r7, _⟩
    refine qJ ?_; repeat' (first | ((first | (with_reducible apply qI) | with_reducible apply qP) <;> try simp only [qM, qC, qF, qH, qD, qA, qG, reduceIte, seval, Int.cast_ofNat_Int, qN, qO, tP]))
    exact ⟨s1.trans s2, a7, c7, rfl, r7⟩
  · have e1 : (p.kd == 1) = false := by simp [k1']
    rw [if_neg k1']
    refine qJ ?_; repeat' (first | with_reducible apply qK | ((first | (with_reducible apply qI) | (with_reducible first | apply qB | apply qS | apply qR)) <;> try simp only [qM, qC, qF, qH, qD, qA, qG, reduceIte, seval, Int.cast_ofNat_Int, qN, qO, tP, qE m1 zT, qE m1 qV, e1]))
    refine (gQ N h1 (r3.hs s1) (by omega)).mono ?_
    rintro _ h2 ⟨s2, o2⟩
    obtain ⟨a7, c7, rfl⟩ := o2.form
    refine qJ ?_; repeat' (first | ((first | (with_reducible apply qI) | with_reducible apply qP) <;> try simp only [qM, qC, qF, qH, qD, qA, qG, reduceIte, seval, Int.cast_ofNat_Int, qN, qO, tP]))
    exact ⟨s1.trans s2, a7, c7, rfl, o2.rb⟩
theorem c_ends (N : Nat) {h : GH} {cs : List Value} {p : Pn K} (r : RPn R h cs p) (fR : ∀ {h h'}, HS h h' → ∀ cs x, R h cs x → R h' cs x) (size : Int) (hl : p.pf.length ≤ 100000000) (hid : p.id.length ≤ 100000000) {a : Option Addr} {c : Nat} {row : List UInt8} (rr : RB h (.slice a row.length c) row) (hrow : row.length ≤ 100000000) (last : Int) (hla : -1 ≤ last) (hlb : last ≤ 1000000000) :
    GTri Tryz.prog N 64 [.int .i64 size, .slice a row.length c, .int .i64 last, .agg cs.toArray] h fun v h' => v = .bool (p.ends size row last) ∧ HS h h' := by
  have r0 := r
  obtain ⟨a1, c1, a2, c2, a3, c3, a4, c4, a5, c5, a6, c6, rfl, r1, r2, r3, r4, r5, r6⟩ := r
  have wl : IntKind.i64.wrap (last + 1) = last + 1 := by rw [wrap64 (by omega) (by omega)]
  have hbl : p.bits.length ≤ 100000000 := by
    unfold Pn.bits
    split
    · rw [vC]; omega
    · exact hl
  unfold Pn.ends
  refine xH Tryz.func64 rfl gf64 ok64 (by simp [Tryz.ntmps64]) ?_
  repeat' (first | with_reducible apply qK | (with_reducible apply qB <;> try simp only [qM, qC, qF, qH, qD, qA, qG, reduceIte, seval, Int.cast_ofNat_Int, qN, qO, kH]))
  refine yY rfl fun k1 h1 m1 s1 f1 n1 => ?_
  have q0 := r0.hs s1 (fR s1)
  have q3 := r3.hs s1
  have ld := zU (P := Tryz.prog) (t := 26) m1 dC rfl
  have m1' := m1
  simp only [Pn.cs] at m1'
  cases e3 : (p.kd == 3)
  case true =>
    rw [if_pos (by simp)]
    refine qJ ?_; repeat' (first | with_reducible apply qK | ((first | (with_reducible apply qI) | (with_reducible first | apply qB | apply qS | apply qP)) <;> try simp only [qM, qC, qF, qH, qD, qA, qG, reduceIte, seval, Int.cast_ofNat_Int, qN, qO, kH, qE m1' zT, e3, gPick]))
    exact s1
  refine qJ ?_; repeat' (first | with_reducible apply qK | ((first | (with_reducible apply qI) | with_reducible apply qB) <;> try simp only [qM, qC, qF, qH, qD, qA, qG, reduceIte, seval, Int.cast_ofNat_Int, qN, qO, kH, qE m1' zT, e3, ld, gPick]))
  refine (c_Right N q0 fR size hl).mono ?_
  rintro _ h2 ⟨rfl, s2⟩
  have S2 := s1.trans s2
  have m2 := s2 _ _ m1'
  cases hr : p.right size
  case false =>
    rw [if_pos (by simp)]
    refine qJ ?_; repeat' (first | with_reducible apply qK | ((first | (with_reducible apply qI) | (with_reducible first | apply qB | apply qS | apply qP)) <;> try simp only [qM, qC, qF, qH, qD, qA, qG, reduceIte, seval, Int.cast_ofNat_Int, qN, qO, kH, qE m2 zT, e3, gPick]))
    exact S2
  rw [if_neg (by simp)]
  by_cases k0 : p.kd = 0
  · have e0 : (p.kd == 0) = true := by simp [k0]
    rw [if_pos k0]
    refine qJ ?_; repeat' (first | with_reducible apply qK | ((first | (with_reducible apply qI) | (with_reducible first | apply qB | apply qS | apply qR | apply qP)) <;> try simp only [qM, qC, qF, qH, qD, qA, qG, reduceIte, seval, Int.cast_ofNat_Int, qN, qO, kH, qE m2 zT, e3, e0, gPick]))
    exact S2
  have e0 : (p.kd == 0) = false := by simp [k0]
  rw [if_neg k0]
  have ld2 := zU (P := Tryz.prog) (t := 26) (s2 _ _ m1) dC rfl
  refine qJ ?_; repeat' (first | with_reducible apply qK | ((first | (with_reducible apply qI) | (with_reducible first | apply qB | apply qS | apply qR)) <;> try simp only [qM, qC, qF, qH, qD, qA, qG, reduceIte, seval, Int.cast_ofNat_Int, qN, qO, kH, qE m2 zT, e3, e0, ld2, gPick]))
  refine (c_Bits N (q0.hs s2 (fR s2)) hl).mono ?_
  rintro _ h3 ⟨s3, a7, c7, rfl, r7⟩
  have m3 := s3 _ _ m2
  have S3 := S2.trans s3
  have rr3 := rr.hs S3
  have q33 := (q3.hs s2).hs s3
  cases hb1 : fV p.bits row (last + 1)
  case false =>
    refine qJ ?_; repeat' (first | with_reducible apply qK | ((first | (with_reducible apply qI) | (with_reducible first | apply qB | apply qP) | ((refine GTri.mono (kJ _ _ r7 rr3 (by omega) (by omega) _) ?_); rintro _ _ ⟨rfl, hh9⟩; replace hh9 := hh9.symm; subst hh9)) <;> try simp only [qM, qC, qF, qH, qD, qA, qG, reduceIte, seval, Int.cast_ofNat_Int, qN, qO, kH, wl, hb1, gPick]))
    first | exact S3 | exact ⟨by simp, S3⟩
  cases e1 : (p.kd == 1)
  case true =>
    refine qJ ?_; repeat' (first | with_reducible apply qK | ((first | (with_reducible apply qI) | (with_reducible first | apply qB | apply qP) | ((refine GTri.mono (kJ _ _ r7 rr3 (by omega) (by omega) _) ?_); rintro _ _ ⟨rfl, hh9⟩; replace hh9 := hh9.symm; subst hh9)) <;> try simp only [qM, qC, qF, qH, qD, qA, qG, reduceIte, seval, Int.cast_ofNat_Int, qN, qO, kH, wl, hb1, gPick, qE m3 zT, e1]))
    first | exact S3 | exact ⟨by simp, S3⟩
  cases dl : decide (p.dp > last)
  case false =>
    refine qJ ?_; repeat' (first | with_reducible apply qK | ((first | (with_reducible apply qI) | (with_reducible first | apply qB | apply qP) | ((refine GTri.mono (kJ _ _ r7 rr3 (by omega) (by omega) _) ?_); rintro _ _ ⟨rfl, hh9⟩; replace hh9 := hh9.symm; subst hh9)) <;> try simp only [qM, qC, qF, qH, qD, qA, qG, reduceIte, seval, Int.cast_ofNat_Int, qN, qO, kH, wl, hb1, gPick, qE m3 zT, e1, dl]))
    first | exact S3 | exact ⟨by simp, S3⟩
  refine qJ ?_; repeat' (first | with_reducible apply qK | ((first | (with_reducible apply qI) | (with_reducible first | apply qB | apply qP) | ((refine GTri.mono (kJ _ _ r7 rr3 (by omega) (by omega) _) ?_); rintro _ _ ⟨rfl, hh9⟩; replace hh9 := hh9.symm; subst hh9) | ((refine GTri.mono (kJ _ _ rr3 q33 (by omega) (by omega) _) ?_); rintro _ _ ⟨rfl, hh9⟩; replace hh9 := hh9.symm; subst hh9)) <;> try simp only [qM, qC, qF, qH, qD, qA, qG, reduceIte, seval, Int.cast_ofNat_Int, qN, qO, kH, wl, hb1, gPick, qE m3 zT, qE m3 qV, e1, dl]))
  first | exact S3 | exact ⟨by simp, S3⟩
theorem zJ0 (N : Nat) {h : GH} {cs : List Value} {p : Pn K} (r : RPn R h cs p) (fR : ∀ {h h'}, HS h h' → ∀ cs x, R h cs x → R h' cs x) (size : Int) (hl : p.pf.length ≤ 100000000) (hid : p.id.length ≤ 100000000) {a b : Option Addr} {c d : Nat} {id : List UInt8} (ri : RB h (.slice a id.length c) id) {hops : List Hp} (rh : RL 3 RHp h (.slice b hops.length d) hops) (hh : hops.length ≤ 100000000) :
    GTri Tryz.prog N 19 [.int .i64 size, .slice a id.length c, .agg (.slice b hops.length d :: cs).toArray] h fun v h' => v = .int .i64 (cond (qL4 size id hops p) 0 95) ∧ HS h h' := by
  have hcs := r.len
  have hkl := vC id
  unfold qL4 qG0
  refine xH Tryz.func19 rfl gf19 ok19 (by simp [Tryz.ntmps19]) ?_
  repeat' (first | with_reducible apply qK | (with_reducible apply qB <;> try simp only [qM, qC, qF, qH, qD, qA, qG, reduceIte, seval, Int.cast_ofNat_Int, qN, qO, yP]))
  refine yY (by simp only [List.all_cons, hcs.2.1]; rfl) fun k1 h1 m1 s1 f1 n1 => ?_
  cases z0 : decide (size < 1)
  case true =>
    refine qJ ?_; repeat' (first | with_reducible apply qK | ((first | (with_reducible apply qI) | (with_reducible first | apply qB | apply qS | apply qP)) <;> try simp only [qM, qC, qF, qH, qD, qA, qG, reduceIte, seval, Int.cast_ofNat_Int, qN, qO, yP, z0, gPick]))
    exact ⟨by first | rfl | simp, s1⟩
  cases z1 : decide (size > 32)
  case true =>
    refine qJ ?_; repeat' (first | with_reducible apply qK | ((first | (with_reducible apply qI) | (with_reducible first | apply qB | apply qS | apply qP)) <;> try simp only [qM, qC, qF, qH, qD, qA, qG, reduceIte, seval, Int.cast_ofNat_Int, qN, qO, yP, z0, z1, gPick]))
    exact ⟨by first | rfl | simp, s1⟩
  cases z2 : decide ((id.length : Int) > 24)
  case true =>
    refine qJ ?_; repeat' (first | with_reducible apply qK | ((first | (with_reducible apply qI) | (with_reducible first | apply qB | apply qS | apply qP)) <;> try simp only [qM, qC, qF, qH, qD, qA, qG, reduceIte, seval, Int.cast_ofNat_Int, qN, qO, yP, z0, z1, z2, gPick]))
    exact ⟨by first | rfl | simp, s1⟩
  simp only [Bool.or_false, Bool.not_false, Bool.true_and]
  have hid24 : (id.length : Int) ≤ 24 := by simpa using z2
  refine qJ ?_; repeat' (first | with_reducible apply qK | ((first | (with_reducible apply qI) | (with_reducible first | apply qB | apply qS | apply qR)) <;> try simp only [qM, qC, qF, qH, qD, qA, qG, reduceIte, seval, Int.cast_ofNat_Int, qN, qO, yP, z0, z1, z2, gPick]))
  refine (lQ N h1 (ri.hs s1) rfl).mono ?_
  rintro _ h2 ⟨s2, ar, cr, rfl, rr, _⟩
  have S2 := s1.trans s2
  have m2 := s2 _ _ m1
  have w8 : IntKind.i64.wrap (8 * ((qU id).length : Int)) = 8 * ((qU id).length : Int) := by rw [wrap64 (by omega) (by omega)]
  refine qJ ?_; repeat' (first | (with_reducible first | apply qK | apply qQ) | ((first | (with_reducible apply qI) | with_reducible apply qB) <;> try simp only [qM, qC, qF, qH, qD, qA, qG, reduceIte, seval, Int.cast_ofNat_Int, qN, qO, yP, qE m2 kC]))
  refine xL [0, 5, 7, 25, 26] (fun (s : Nat × Int) => [(8, .int .i64 s.2), (27, .int .i64 (s.1 : Int))]) (fun q s h' => hops.length - s.1 = q ∧ s.1 ≤ hops.length ∧ HS h2 h' ∧ -1 ≤ s.2 ∧ s.2 ≤ 8 * ((qU id).length : Int) ∧ rS size (qU id) (-1) hops = rS size (qU id) s.2 (hops.drop s.1)) hops.length (0, -1) (by simp [lk]) ⟨rfl, Nat.zero_le _, HS.refl _, by simp, by simp only; omega, by simp⟩ ?_
  rintro _ ⟨i, last⟩ h3 ⟨rfl, hil, s3, hla, hlb, he⟩
  simp only at hil hla hlb he
  have S3 := S2.trans s3
  have m3 := s3 _ _ m2
  by_cases hi : i < hops.length
  case neg =>
    obtain rfl : i = hops.length := by omega
    have d3 : decide ((hops.length : Int) < (hops.length : Int)) = false := decide_eq_false (by omega)
    rw [List.drop_length] at he
    rw [he]
    have rp3 := r.hs S3 (fR S3)
    have ldp : wS Tryz.prog 26 h3 (.pointer (some ⟨k1, 1, none⟩)) = some (.agg cs.toArray) := wG m3 dC (by rw [List.drop_one, List.tail_cons, List.take_of_length_le (by omega)]) hcs.1
    refine qJ ?_; repeat' (first | with_reducible apply qK | ((first | (with_reducible apply qI) | (with_reducible first | apply qB | apply qS | apply xX)) <;> try simp only [qM, qC, qF, qH, qD, qA, qG, reduceIte, seval, Int.cast_ofNat_Int, qN, qO, yP, d3, ldp]))
    refine (c_ends N rp3 fR size hl hid (rr.hs s3) (by omega) last hla (by omega)).mono ?_
    rintro _ h4 ⟨rfl, s4⟩
    simp only [rS]
    cases hen : p.ends size (qU id) last
    · refine qJ ?_; repeat' (first | with_reducible apply qK | ((first | (with_reducible apply qI) | (with_reducible first | apply qB | apply qS | apply qP)) <;> try simp only [qM, qC, qF, qH, qD, qA, qG, reduceIte, seval, Int.cast_ofNat_Int, qN, qO, yP]))
      exact ⟨rfl, S3.trans s4⟩
    · refine qJ ?_; repeat' (first | with_reducible apply qK | ((first | (with_reducible apply qI) | (with_reducible first | apply qB | apply qS | apply qR | apply qP)) <;> try simp only [qM, qC, qF, qH, qD, qA, qG, reduceIte, seval, Int.cast_ofNat_Int, qN, qO, yP]))
      exact ⟨rfl, S3.trans s4⟩
  have d3 : decide ((i : Int) < (hops.length : Int)) = true := decide_eq_true (by omega)
  have wi : IntKind.i64.wrap ((i : Int) + 1) = ((i + 1 : Nat) : Int) := by rw [wrap64 (by omega) (by omega)]; omega
  obtain ⟨x, hx⟩ := yK hi
  have hdr : hops.drop i = x :: hops.drop (i + 1) := by
    have h1 := List.getElem?_eq_some_iff.1 hx
    rw [List.drop_eq_getElem_cons h1.1, h1.2]
  rw [hdr] at he
  simp only [rS] at he
  have rh3 := RL.hs (R := RHp) S3 (fun _ _ q => q.hs S3) rh
  obtain ⟨ad, cs5, g1, g2, a5, c5, rfl, p1⟩ := RL.at (P := Tryz.prog) rh3 Tryz.underlying23 dW hx
  refine qJ ?_; repeat' (first | (with_reducible first | apply qK | apply qQ) | ((first | (with_reducible apply qI) | (with_reducible first | apply qB | apply qS | apply qR)) <;> try simp only [qM, qC, qF, qH, qD, qA, qG, reduceIte, seval, Int.cast_ofNat_Int, qN, qO, yP, d3, g1, fK dW g2]))
  refine xG fun k10 h4 m4 s4 f4 n4 => ?_
  refine qJ ?_; repeat' (first | ((with_reducible apply qI) <;> try simp only [qM, qC, qF, qH, qD, qA, qG, reduceIte, seval, Int.cast_ofNat_Int, qN, qO, yP]))
  refine wC m4 dW rfl (by decide) rfl rfl rfl fun h5 m5 f5 => ?_
  simp only [vcells] at m5
  have s35 := s4.upd n4 f5
  have S5 := S3.trans s35
  cases y0 : (decide (x.1 ≤ last))
  case true =>
    have hk : kB size (qU id) last x = false := by unfold kB; simp only [y0, Bool.or_true, Bool.true_or, Bool.false_or, Bool.not_true]
    rw [hk] at he
    rw [he]
    refine qJ ?_; repeat' (first | with_reducible apply qK | ((first | (with_reducible apply qI) | (with_reducible first | apply qB | apply qS | apply qP)) <;> try simp only [qM, qC, qF, qH, qD, qA, qG, reduceIte, seval, Int.cast_ofNat_Int, qN, qO, yP, y0, w8, qE m5 zT, qE m5 qV, gPick]))
    exact ⟨rfl, S5⟩
  cases y1 : (decide (x.1 ≥ 8 * ((qU id).length : Int)))
  case true =>
    have hk : kB size (qU id) last x = false := by unfold kB; simp only [y0, y1, Bool.or_true, Bool.true_or, Bool.false_or, Bool.not_true]
    rw [hk] at he
    rw [he]
    refine qJ ?_; repeat' (first | with_reducible apply qK | ((first | (with_reducible apply qI) | (with_reducible first | apply qB | apply qS | apply qP)) <;> try simp only [qM, qC, qF, qH, qD, qA, qG, reduceIte, seval, Int.cast_ofNat_Int, qN, qO, yP, y0, y1, w8, qE m5 zT, qE m5 qV, gPick]))
    exact ⟨rfl, S5⟩
  cases y2 : (!qN9 x.2.1)
  case true =>
    have hk : kB size (qU id) last x = false := by unfold kB; simp only [y0, y1, y2, Bool.or_true, Bool.true_or, Bool.false_or, Bool.not_true]
    rw [hk] at he
    rw [he]
    refine qJ ?_; repeat' (first | with_reducible apply qK | ((first | (with_reducible apply qI) | (with_reducible first | apply qB | apply qS | apply qP) | ((refine GTri.mono (uJ _ _ _) ?_); rintro _ _ ⟨rfl, hh9⟩; replace hh9 := hh9.symm; subst hh9)) <;> try simp only [qM, qC, qF, qH, qD, qA, qG, reduceIte, seval, Int.cast_ofNat_Int, qN, qO, yP, y0, y1, y2, w8, qE m5 zT, qE m5 qV, gPick]))
    exact ⟨rfl, S5⟩
  cases y3 : ((x.2.2.length : Int) != size)
  case true =>
    have hk : kB size (qU id) last x = false := by unfold kB; simp only [y0, y1, y2, y3, Bool.or_true, Bool.true_or, Bool.false_or, Bool.not_true]
    rw [hk] at he
    rw [he]
    refine qJ ?_; repeat' (first | with_reducible apply qK | ((first | (with_reducible apply qI) | (with_reducible first | apply qB | apply qS | apply qP) | ((refine GTri.mono (uJ _ _ _) ?_); rintro _ _ ⟨rfl, hh9⟩; replace hh9 := hh9.symm; subst hh9)) <;> try simp only [qM, qC, qF, qH, qD, qA, qG, reduceIte, seval, Int.cast_ofNat_Int, qN, qO, yP, y0, y1, y2, y3, w8, qE m5 zT, qE m5 qV, gPick]))
    exact ⟨rfl, S5⟩
  have hk : kB size (qU id) last x = true := by unfold kB; simp only [y0, y1, y2, y3, Bool.or_self, Bool.not_false]
  rw [if_pos hk] at he
  have hx1 : -1 ≤ x.1 ∧ x.1 ≤ 8 * ((qU id).length : Int) := by
    have q1 : ¬ x.1 ≤ last := by simpa using y0
    have q2 : ¬ x.1 ≥ 8 * ((qU id).length : Int) := by simpa using y1
    omega
  refine qJ ?_; repeat' (first | with_reducible apply qK | ((first | (with_reducible apply qI) | (with_reducible first | apply qB | apply qS | apply qR) | ((refine GTri.mono (uJ _ _ _) ?_); rintro _ _ ⟨rfl, hh9⟩; replace hh9 := hh9.symm; subst hh9)) <;> try simp only [qM, qC, qF, qH, qD, qA, qG, reduceIte, seval, Int.cast_ofNat_Int, qN, qO, yP, y0, y1, y2, y3, w8, wi, qE m5 zT, qE m5 qV, gPick]))
  exact ⟨_, (i + 1, x.1), by simp only; omega, (by simp only [List.forall_mem_cons, List.not_mem_nil, false_implies, implies_true, List.map, List.cons_append, List.nil_append, lk, Nat.reduceEqDiff, reduceIte, and_true, true_and]), rfl, by simp only; omega, s3.trans s35, hx1.1, hx1.2, he⟩
end
theorem gM : type_of% (And.intro zP (And.intro uU (And.intro yC (And.intro uE (And.intro xS (And.intro wO rs39)))))) := And.intro zP (And.intro uU (And.intro yC (And.intro uE (And.intro xS (And.intro wO rs39)))))
def kE : Nat → List (Nat × List Nat) × List Nat
  | 3 => ([(0, []), (1, []), (2, []), (3, []), (4, []), (5, []), (6, [1, 3]), (7, []), (8, []), (9, [])], [0, 1, 0, 4, 0, 16, 48, 127, 255, 511])
  | _ => ([], [])
theorem qX8 : type_of% (And.intro rF (And.intro sV rs40)) := And.intro rF (And.intro sV rs40)
theorem uN : type_of% (And.intro zP (And.intro rF (And.intro sV (And.intro xS (And.intro jG rs78))))) := And.intro zP (And.intro rF (And.intro sV (And.intro xS (And.intro jG rs78))))
theorem pK : type_of% (And.intro zP (And.intro yC (And.intro xS (And.intro wO rs43)))) := And.intro zP (And.intro yC (And.intro xS (And.intro wO rs43)))
def tG : Nat → List (Nat × List Nat) × List Nat
  | 3 => ([(0, []), (1, []), (2, []), (3, []), (4, []), (5, []), (6, []), (7, []), (8, []), (9, []), (10, []), (11, []), (12, []), (13, []), (14, []), (15, [])], [0, 0, 0, 0, 0, 0, 48, 112, 0, 0, 768, 1792, 4083, 8179, 16383, 32767])
  | _ => ([], [])
def RTx (h : GH) (cs : List Value) (x : List UInt8) : Prop := ∃ a c, cs = [.slice a x.length c] ∧ RB h (.slice a x.length c) x ∧ SL h (.slice a x.length c)
theorem RTx.hs {h h' : GH} (s : HS h h') {cs : List Value} {x : List UInt8} (r : RTx h cs x) : RTx h' cs x := by
  obtain ⟨a, c, e, r1, r2⟩ := r
  exact ⟨a, c, e, r1.hs s, r2.hs s⟩
section
variable {K : Type} {R : GH → List Value → K → Prop}
theorem Pn.right_leaf {p : Pn K} {size : Int} (h : p.right size = true) (k : p.kd = 1) : 0 ≤ p.si ∧ p.si < 256 ∧ p.id.length ≤ 255 ∧ p.ky.length ≤ 48 ∧ p.noFork = true := by
  unfold Pn.right at h
  rw [if_neg (by omega), if_pos k] at h
  simp only [Bool.and_eq_true, qN9, decide_eq_true_eq, Pn.blank, Bool.true_or, Bool.true_and, Bool.false_or] at h
  obtain ⟨⟨⟨h0, h1, h2⟩, h3⟩, h4⟩ := h
  exact ⟨h1, h2, by omega, by omega, h0⟩
theorem Pn.frk_ok {p : Pn K} (h : p.frk = true) : 0 ≤ p.dp ∧ p.dp ≤ 2048 ∧ 0 ≤ p.nw ∧ p.nw < 256 ∧ p.pf.length = (p.dp.toNat + 7) / 8 ∧ zG p.pf p.dp.toNat = p.pf ∧ p.noLeaf = true := by
  unfold Pn.frk at h
  simp only [Bool.and_eq_true, qN9, decide_eq_true_eq, Pn.blank, Bool.or_true, Bool.true_and, Bool.false_or, Bool.and_true, beq_iff_eq] at h
  obtain ⟨⟨⟨⟨⟨h0, h1, h2⟩, h3⟩, h4⟩, h5⟩, h6⟩ := h
  have t0 := Int.tdiv_eq_ediv_of_nonneg (a := p.dp + 7) (b := 8) (by omega)
  refine ⟨h3, h4, h1, h2, by omega, h6, h0.1⟩
theorem Pn.right_closed {p : Pn K} {size : Int} (h : p.right size = true) (k : p.kd = 2) : p.frk = true ∧ (p.lf.length : Int) = size ∧ (p.rt.length : Int) = size ∧ p.kids.length = 0 := by
  unfold Pn.right at h
  rw [if_neg (by omega), if_neg (by omega), if_pos k] at h
  simp only [Bool.and_eq_true, Pn.hsh, beq_iff_eq] at h
  exact ⟨h.1.1, h.1.2.1, h.1.2.2, by omega⟩
theorem qC1 (d : Nat) (pf : List UInt8) (w : Nat) (l r : List UInt8) : (wW d pf w l r).length ≤ pf.length + l.length + r.length + 30 := by
  have h1 := wR pf d
  simp only [wW, yL, List.length_cons, gZ, gJ, List.map_cons, List.map_nil, List.sum_cons, List.sum_nil, vB]
  omega
theorem zK2 (id ky : List UInt8) (w : Nat) : (fS id ky w).length ≤ id.length + ky.length + 30 := by
  simp only [fS, yL, List.length_cons, gZ, gJ, List.map_cons, List.map_nil, List.sum_cons, List.sum_nil, vB]
  omega
theorem zE2 : emptyB.length = 1 := rfl
theorem qK4 {p : Pn K} {size : Int} (h : p.right size = true) (hs : size ≤ 32) : (xK p).length ≤ 1000 := by
  unfold xK
  split
  · rename_i k
    have := p.right_leaf h k
    have := zK2 p.id p.ky p.si.toNat
    omega
  · split
    · rename_i _ k
      obtain ⟨f, a, b, _⟩ := p.right_closed h k
      have g := p.frk_ok f
      have := qC1 p.dp.toNat p.pf p.nw.toNat p.lf p.rt
      omega
    · rw [zE2]; omega
theorem c_Alone (N : Nat) {h : GH} {cs : List Value} {p : Pn K} (r : RPn R h cs p) {size : Int} (hr : p.right size = true) (hs : size ≤ 32) :
    GTri Tryz.prog N 39 [.agg cs.toArray] h fun v h' => HS h h' ∧ ∃ a c, v = .slice a (xK p).length c ∧ RB h' (.slice a (xK p).length c) (xK p) ∧ SL h' (.slice a (xK p).length c) := by
  obtain ⟨a1, c1, a2, c2, a3, c3, a4, c4, a5, c5, a6, c6, rfl, r1, r2, r3, r4, r5, r6⟩ := r
  unfold xK
  refine xH Tryz.func39 rfl gf39 ok39 (by simp [Tryz.ntmps39]) ?_
  repeat' (first | with_reducible apply qK | (with_reducible apply qB <;> try simp only [qM, qC, qF, qH, qD, qA, qG, reduceIte, seval, Int.cast_ofNat_Int, qN, qO, qL, qY, zA, zB, gM, kE]))
  refine yY rfl fun k1 h1 m1 s1 f1 n1 => ?_
  simp only [Pn.cs] at m1
  by_cases k1' : p.kd = 1
  · have e1 : (p.kd == 1) = true := by simp [k1']
    obtain ⟨b1, b2, b3, b4, _⟩ := p.right_leaf hr k1'
    rw [if_pos k1']
    obtain ⟨w, hw⟩ : ∃ w : Nat, p.si = (w : Int) := ⟨p.si.toNat, by omega⟩
    rw [hw, Int.toNat_natCast]
    rw [hw] at m1
    refine qJ ?_; repeat' (first | (with_reducible first | apply qK | apply qQ) | ((first | (with_reducible apply qI) | (with_reducible first | apply qB | apply qS) | with_reducible refine zH kE xQ (by kernel_rfl) ?_) <;> try simp only [qM, qC, qF, qH, qD, qA, qG, reduceIte, seval, Int.cast_ofNat_Int, qN, qO, qL, qY, zA, zB, gM, kE, qE m1 zT, qE m1 qV, e1]))
    refine (tW N h1 w (by omega)).mono ?_
    rintro _ h3 ⟨t3, k3, rfl, r3'⟩
    have m3 := t3 _ _ m1
    refine qJ ?_; repeat' (first | ((with_reducible apply qI) <;> try simp only [qM, qC, qF, qH, qD, qA, qG, reduceIte, seval, Int.cast_ofNat_Int, qN, qO, qL, qY, zA, zB, gM, kE, qE m3 zT, qE m3 qV, e1]))
    refine kU (cs := [.slice a1 p.id.length c1, .slice a2 p.ky.length c2, .slice (some ⟨k3, 0, none⟩) 8 17]) dK rfl (by decide) (by decide) (by rw [xN _ rfl]; rfl) rfl fun k4 h4 m4 s4 f4 n4 => ?_
    have t4 := (s1.trans t3).trans s4
    have q4 : RBs h4 (.slice (some ⟨k4, 0, none⟩) ([p.id, p.ky, vM w] : List (List UInt8)).length 7) [p.id, p.ky, vM w] := kY m4 (by decide) rfl fun i x hx => by
      rcases i with _ | _ | _ | i
      · cases hx; exact ⟨_, _, rfl, r1.hs t4⟩
      · cases hx; exact ⟨_, _, rfl, r2.hs t4⟩
      · cases hx; exact ⟨_, _, rfl, r3'.hs s4⟩
      · simp at hx
    have hs4 : ∀ x ∈ ([p.id, p.ky, vM w] : List (List UInt8)), x.length ≤ 65535 := by
      intro x hx
      simp only [List.mem_cons, List.not_mem_nil, or_false] at hx
      rcases hx with rfl | rfl | rfl <;> first | omega | (rw [vB]; omega)
    have hp4 : gJ [p.id, p.ky, vM w] ≤ 100000000 := by simp only [gJ, List.map_cons, List.map_nil, List.sum_cons, List.sum_nil, vB]; omega
    have m14 := s4 _ _ m3
    refine qJ ?_; repeat' (first | ((with_reducible apply qI) <;> try simp only [qM, qC, qF, qH, qD, qA, qG, reduceIte, seval, Int.cast_ofNat_Int, qN, qO, qL, qY, zA, zB, gM, kE, qE m14 zT, qE m14 qV, e1]))
    refine (qS9 N h4 (tag := 1) (by omega) q4 hs4 (by simp) hp4).mono ?_
    rintro _ h5 ⟨s5, a7, c7, rfl, r7, sl7⟩
    refine qJ ?_; repeat' (first | ((first | (with_reducible apply qI) | with_reducible apply qP) <;> try simp only [qM, qC, qF, qH, qD, qA, qG, reduceIte, seval, Int.cast_ofNat_Int, qN, qO, qL, qY, zA, zB, gM, kE]))
    exact ⟨t4.trans s5, a7, c7, rfl, r7, sl7⟩
  have e1 : (p.kd == 1) = false := by simp [k1']
  rw [if_neg k1']
  by_cases k2 : p.kd = 2
  · have e2 : (p.kd == 2) = true := by simp [k2]
    obtain ⟨f, g1, g2, _⟩ := p.right_closed hr k2
    have g := p.frk_ok f
    rw [if_pos k2]
    obtain ⟨w, hw⟩ : ∃ w : Nat, p.nw = (w : Int) := ⟨p.nw.toNat, by omega⟩
    obtain ⟨d, hd⟩ : ∃ d : Nat, p.dp = (d : Int) := ⟨p.dp.toNat, by omega⟩
    rw [hw, hd, Int.toNat_natCast, Int.toNat_natCast]
    rw [hw, hd] at m1
    refine qJ ?_; repeat' (first | (with_reducible first | apply qK | apply qQ) | ((first | (with_reducible apply qI) | (with_reducible first | apply qB | apply qS)) <;> try simp only [qM, qC, qF, qH, qD, qA, qG, reduceIte, seval, Int.cast_ofNat_Int, qN, qO, qL, qY, zA, zB, gM, kE, qE m1 zT, qE m1 qV, e1, e2]))
    refine (qJ5 N (d := d) (w := w) (by omega) (by omega) (r3.hs s1) (r4.hs s1) (r5.hs s1) (by omega) (by omega) (by omega)).mono ?_
    rintro _ h5 ⟨s5, a7, c7, rfl, r7, sl7⟩
    refine qJ ?_; repeat' (first | ((first | (with_reducible apply qI) | with_reducible apply qP) <;> try simp only [qM, qC, qF, qH, qD, qA, qG, reduceIte, seval, Int.cast_ofNat_Int, qN, qO, qL, qY, zA, zB, gM, kE]))
    exact ⟨s1.trans s5, a7, c7, rfl, r7, sl7⟩
  have e2 : (p.kd == 2) = false := by simp [k2]
  rw [if_neg k2]
  refine qJ ?_; repeat' (first | (with_reducible first | apply qK | apply qQ) | ((first | (with_reducible apply qI) | (with_reducible first | apply qB | apply qS | apply qR)) <;> try simp only [qM, qC, qF, qH, qD, qA, qG, reduceIte, seval, Int.cast_ofNat_Int, qN, qO, qL, qY, zA, zB, gM, kE, qE m1 zT, qE m1 qV, e1, e2]))
  refine (qS9 N h1 (tag := 0) (by omega) (ps := []) (RL.nil _) (by simp) (by simp) (by simp [gJ])).mono ?_
  rintro _ h5 ⟨s5, a7, c7, rfl, r7, sl7⟩
  refine qJ ?_; repeat' (first | ((first | (with_reducible apply qI) | with_reducible apply qP) <;> try simp only [qM, qC, qF, qH, qD, qA, qG, reduceIte, seval, Int.cast_ofNat_Int, qN, qO, qL, qY, zA, zB, gM, kE]))
  exact ⟨s1.trans s5, a7, c7, rfl, r7, sl7⟩
end
theorem c_BwdH (N : Nat) (h : GH) (a : Option Addr) (n c : Nat) : GTri Tryz.prog N 40 [.slice a n c] h fun u h' => (∃ kb, u = .func (.func 78) #[] #[.pointer (some ⟨kb, 0, none⟩)] ∧ h' kb = some ⟨[.slice a n c], 0, true, false⟩ ∧ h kb = none) ∧ HS h h' := by
  refine xH Tryz.func40 rfl gf40 ok40 (by simp [Tryz.ntmps40]) ?_
  repeat' (first | with_reducible apply qK | (with_reducible apply qB <;> try simp only [qM, qC, qF, qH, qD, qA, qG, reduceIte, seval, Int.cast_ofNat_Int, qN, qO, qX8]))
  refine yY rfl fun k1 h1 m1 s1 f1 n1 => ?_
  refine qJ ?_; repeat' (first | with_reducible apply qK | ((first | (with_reducible apply qI) | (with_reducible first | apply qB | apply qP)) <;> try simp only [qM, qC, qF, qH, qD, qA, qG, reduceIte, seval, Int.cast_ofNat_Int, qN, qO, qX8, List.map_toArray, List.map_cons, List.map_nil]))
  exact ⟨⟨k1, rfl, m1, n1⟩, s1⟩
theorem c_bwdH1 (N l : Nat) (r : LRec) {h : GH} {kb : Nat} {a : Option Addr} {n c : Nat} {X : Nat → List Value} (hn : n ≤ 1000000000) (I : Nat → GH → Prop) (h0 : I n h)
    (hb : ∀ i h', I i h' → h' kb = some ⟨[.slice a n c], 0, true, false⟩ ∧ ∀ j, j < n → ∃ ad, zL Tryz.prog 23 (.slice a n c) (j : Int) = some (.pointer (some ad)) ∧ wS Tryz.prog 79 h' (.pointer (some ad)) = some (.agg (X j).toArray))
    (y : ∀ i h', i < n → I (i + 1) h' → zN3 Tryz.prog N l r [.int .i64 (i : Int), .agg (X i).toArray] h' (I i)) :
    zJ2 l r Tryz.prog N 78 [.func (.yield l) #[] #[], .pointer (some ⟨kb, 0, none⟩)] h (I 0) := by
  refine gtrio Tryz.func78 rfl gf78 ok78 rs78 (by simp [Tryz.ntmps78]) ?_
  obtain ⟨m0, r0⟩ := hb _ _ h0
  have w0 : IntKind.i64.wrap ((n : Int) - 1) = (n : Int) - 1 := by rw [wrap64 (by omega) (by omega)]
  simp only [qM, qC, qF, qH, qD, qA, qG, reduceIte, seval, Int.cast_ofNat_Int, qN, qO, uN]
  refine fJ ?_
  refine fY (qB ?_)
  simp only [qM, qC, qF, qH, qD, qA, qG, reduceIte, seval, Int.cast_ofNat_Int, qN, qO, uN, qE m0 kC, w0, List.getElem?_cons_zero, List.getElem?_cons_succ]
  refine pR ?_
  refine qV4 (fun m e' h' => m ≤ n ∧ e' = [(0, .func (.yield l) #[] #[]), (1, .pointer (some ⟨kb, 0, none⟩)), (3, .int .i64 ((m : Int) - 1))] ∧ I m h') n
    (e0 := [(0, .func (.yield l) #[] #[]), (1, .pointer (some ⟨kb, 0, none⟩)), (3, .int .i64 ((n : Int) - 1))]) ?_ ⟨Nat.le_refl _, rfl, h0⟩ ?_
  · exact (rZ (by simp only [List.forall_mem_cons, List.not_mem_nil, false_implies, implies_true, lk, Nat.reduceEqDiff, reduceIte, and_true, true_and]))
  rintro m e' h' ⟨hm, rfl, hI⟩
  obtain ⟨m1, r1⟩ := hb _ _ hI
  refine fJ ?_
  refine fJ ?_
  refine fY (qB ?_)
  by_cases hm0 : m = 0
  · have d : decide ((m : Int) - 1 ≥ 0) = false := decide_eq_false (by omega)
    simp only [qM, qC, qF, qH, qD, qA, qG, reduceIte, seval, Int.cast_ofNat_Int, qN, qO, uN, d]
    refine qA6 ?_
    simp only [qM, qC, qF, qH, qD, qA, qG, reduceIte, seval, Int.cast_ofNat_Int, qN, qO, uN, qW0]
    refine fY (xX ?_)
    simp only [qM, qC, qF, qH, qD, qA, qG, reduceIte, seval, Int.cast_ofNat_Int, qN, qO, uN]
    subst hm0
    exact ⟨.inl trivial, hI⟩
  obtain ⟨i, rfl⟩ : ∃ i, m = i + 1 := ⟨m - 1, by omega⟩
  have e1 : ((i + 1 : Nat) : Int) - 1 = (i : Int) := by omega
  rw [e1]
  have d : decide ((i : Int) ≥ 0) = true := decide_eq_true (by omega)
  simp only [qM, qC, qF, qH, qD, qA, qG, reduceIte, seval, Int.cast_ofNat_Int, qN, qO, uN, d]
  refine qA6 ?_
  simp only [qM, qC, qF, qH, qD, qA, qG, reduceIte, seval, Int.cast_ofNat_Int, qN, qO, uN, gif_t]
  refine fY (qR ?_)
  simp only [qM, qC, qF, qH, qD, qA, qG, reduceIte, seval, Int.cast_ofNat_Int, qN, qO, uN]
  refine fJ ?_
  refine pR ?_
  refine fJ ?_
  obtain ⟨ad, g1, l4⟩ := r1 i (by omega)
  refine gro_of ?_
  refine zG5 6 ?_
  simp only [qM, qC, qF, qH, qD, qA, qG, reduceIte, seval, Int.cast_ofNat_Int, qN, qO, uN, qE m1 kC, g1, l4, List.getElem?_cons_zero, List.getElem?_cons_succ, List.drop_succ_cons, List.drop_zero, List.take_succ_cons, List.take_zero]
  refine qM9 rfl ?_
  simp only [qM, qC, qF, qH, qD, qA, qG, reduceIte, seval, Int.cast_ofNat_Int, qN, qO, uN]
  have yy := y i h' (by omega) hI
  intro hG φ w args' sm hv hlo
  obtain ⟨fn, tmps, assign, body, q1, q2⟩ := yy hG φ w args' sm hv hlo
  refine ⟨fn, tmps, assign, body, q1, q2.mono ?_⟩
  rintro e w' ⟨φ', h2, p1, p2, p3, p4, p5⟩
  refine ⟨φ', h2, p1, p2, p3, p4, ?_⟩
  refine zG4 ?_
  simp only [qM, qC, qF, qH, qD, qA, qG, reduceIte, seval, Int.cast_ofNat_Int, qN, qO, uN, yV]
  refine qA6 ?_
  simp only [qM, qC, qF, qH, qD, qA, qG, reduceIte, seval, Int.cast_ofNat_Int, qN, qO, uN, qW0, Bool.not_true]
  refine fY (qR ?_)
  simp only [qM, qC, qF, qH, qD, qA, qG, reduceIte, seval, Int.cast_ofNat_Int, qN, qO, uN]
  refine fY (qB ?_)
  have w1 : IntKind.i64.wrap ((i : Int) - 1) = (i : Int) - 1 := by rw [wrap64 (by omega) (by omega)]
  simp only [qM, qC, qF, qH, qD, qA, qG, reduceIte, seval, Int.cast_ofNat_Int, qN, qO, uN, w1]
  exact ⟨i, _, by omega, (rZ (by simp only [List.forall_mem_cons, List.not_mem_nil, false_implies, implies_true, lk, Nat.reduceEqDiff, reduceIte, and_true, true_and])), by omega, rfl, p5⟩
theorem RL.cells {α : Type} {es : Nat} {R : GH → List Value → α → Prop} {h : GH} {a : Option Addr} {n c : Nat} {l : List α} (r : RL es R h (.slice a n c) l) (he : es ≠ 0) : ∃ cs : List Value, ∀ (i : Nat) x, l[i]? = some x → R h ((cs.drop (i * es)).take es) x ∧ ∀ (P : Program) (t e : TypeId) (b : Bool), P.underlying t = some (.slice e) → vL P e = some (b, es) → ∃ ad, zL P t (.slice a n c) (i : Int) = some (.pointer (some ad)) ∧ wB h ad es = some ((cs.drop (i * es)).take es) := by
  rcases r with ⟨_, _, rfl⟩ | ⟨ad, c', cs, hv, h2, h3, h4, h5⟩
  · exact ⟨[], fun i x hx => by simp at hx⟩
  · cases hv
    refine ⟨cs, fun i x hx => ⟨h4 i x hx, fun P t e b ht hz => ?_⟩⟩
    have hlt := (List.getElem?_eq_some_iff.1 hx).1
    have hsp : ad.spot = none := by
      have hne : l.length * es ≠ 0 := Nat.mul_ne_zero (by omega) he
      unfold wB at h2
      rw [if_neg hne] at h2
      split at h2
      · assumption
      · cases h2
    refine ⟨⟨ad.block, ad.off + i * es, none⟩, ?_, ?_⟩
    · simp only [zL, ht, hz]
      rw [if_pos (by omega)]
      simp [hsp]
    · have hle : i * es + es ≤ l.length * es := by
        have := Nat.mul_le_mul_right es (show i + 1 ≤ l.length by omega)
        rwa [Nat.add_mul, Nat.one_mul] at this
      have := dP h2 (i * es) es hle
      rw [hsp] at this
      exact this
theorem c_Rev (N : Nat) {k : Nat} {h : GH} {n c : Nat} {cs : List Value} {tl : Bool} (m : h k = some ⟨cs, 1, true, tl⟩) (hl : cs.length = n) (hn : n ≤ 1000000000) (hs : ∀ (i : Nat) v, cs[i]? = some v → vcells v = [v] ∧ zF v = true) :
    GTri Tryz.prog N 43 [.slice (some ⟨k, 0, none⟩) n c] h fun u h' => u = .tuple #[] ∧ h' k = some ⟨cs.reverse, 1, true, tl⟩ ∧ HX k h h' := by
  have w0 : IntKind.i64.wrap ((n : Int) - 1) = (n : Int) - 1 := by rw [wrap64 (by omega) (by omega)]
  refine xH Tryz.func43 rfl gf43 ok43 (by simp [Tryz.ntmps43]) ?_
  refine qJ ?_; repeat' (first | (with_reducible first | apply qK | apply qQ) | ((first | (with_reducible apply qI) | with_reducible apply qB) <;> try simp only [qM, qC, qF, qH, qD, qA, qG, reduceIte, seval, Int.cast_ofNat_Int, qN, qO, qL, qY, zA, zB, pK, tG, w0]))
  refine xL [0] (fun (j : Nat) => [(2, .int .i64 (j : Int)), (3, .int .i64 ((n : Int) - 1 - (j : Int)))]) (fun q j h' => n - j = q ∧ j ≤ n ∧ (j = 0 ∨ 2 * j ≤ n + 1) ∧ HX k h h' ∧ ∃ ds, h' k = some ⟨ds, 1, true, tl⟩ ∧ ds.length = n ∧ ∀ i, i < n → ds[i]? = if i < j ∨ n - j ≤ i then cs[n - 1 - i]? else cs[i]?) n 0 (by simp [lk]) ⟨rfl, Nat.zero_le _, .inl rfl, HX.refl _ _, cs, m, hl, fun i hi => by rw [if_neg (by omega)]⟩ ?_
  rintro _ j h1 ⟨rfl, hjn, hj2, x1, ds, m1, hdl, hd⟩
  by_cases hlt : (j : Int) < (n : Int) - 1 - (j : Int)
  case neg =>
    have d : decide ((j : Int) < (n : Int) - 1 - (j : Int)) = false := decide_eq_false hlt
    refine qJ ?_; repeat' (first | with_reducible apply qK | ((first | (with_reducible apply qI) | (with_reducible first | apply qB | apply qS | apply xX)) <;> try simp only [qM, qC, qF, qH, qD, qA, qG, reduceIte, seval, Int.cast_ofNat_Int, qN, qO, qL, qY, zA, zB, pK, tG, d]))
    have e : ds = cs.reverse := by
      refine List.ext_getElem? fun i => ?_
      by_cases hi : i < n
      · rw [hd i hi]
        rw [List.getElem?_reverse (by omega), hl]
        split
        · rfl
        · rename_i q
          congr 1
          omega
      · rw [List.getElem?_eq_none (by omega), List.getElem?_eq_none (by rw [List.length_reverse]; omega)]
    rw [← e]
    exact ⟨m1, x1⟩
  have d : decide ((j : Int) < (n : Int) - 1 - (j : Int)) = true := decide_eq_true hlt
  obtain ⟨q, hq⟩ : ∃ q : Nat, (n : Int) - 1 - (j : Int) = (q : Int) := ⟨n - 1 - j, by omega⟩
  rw [hq] at d ⊢
  have hqn : q = n - 1 - j := by omega
  have g0 : zL Tryz.prog 36 (.slice (some ⟨k, 0, none⟩) n c) (j : Int) = some (.pointer (some ⟨k, j * 1, none⟩)) := uR Tryz.underlying36 qV (by omega)
  have g1 : zL Tryz.prog 36 (.slice (some ⟨k, 0, none⟩) n c) (q : Int) = some (.pointer (some ⟨k, q * 1, none⟩)) := uR Tryz.underlying36 qV (by omega)
  rw [Nat.mul_one] at g0 g1
  obtain ⟨vj, hvj⟩ := yK (show j < cs.length by omega)
  obtain ⟨vq, hvq⟩ := yK (show q < cs.length by omega)
  have lj : ds[j]? = some vj := by rw [hd j (by omega), if_neg (by omega)]; exact hvj
  have lq : ds[q]? = some vq := by rw [hd q (by omega), if_neg (by omega)]; exact hvq
  obtain ⟨vj1, vj2⟩ := hs _ _ hvj
  obtain ⟨vq1, vq2⟩ := hs _ _ hvq
  refine qJ ?_; repeat' (first | (with_reducible first | apply qK | apply qQ) | ((first | (with_reducible apply qI) | (with_reducible first | apply qB | apply qS | apply qR) | with_reducible refine zH tG xQ (by kernel_rfl) ?_) <;> try simp only [qM, qC, qF, qH, qD, qA, qG, reduceIte, seval, Int.cast_ofNat_Int, qN, qO, qL, qY, zA, zB, pK, tG, d, g0, g1, qE m1 qV, lj, lq]))
  refine zW m1 qV rfl (by simp only; omega) vq1 vq2 fun h2 m2 f2 => ?_
  simp only at m2
  have wi : IntKind.i64.wrap ((j : Int) + 1) = ((j + 1 : Nat) : Int) := by rw [wrap64 (by omega) (by omega)]; omega
  have wq : IntKind.i64.wrap ((q : Int) - 1) = (n : Int) - 1 - ((j + 1 : Nat) : Int) := by rw [wrap64 (by omega) (by omega)]; omega
  have lj2 : (ds.set j vq)[q]? = some vq := by rw [List.getElem?_set_ne (by omega)]; exact lq
  have lj3 : (ds.set j vq)[j]? = some vq := by rw [List.getElem?_set_self (by omega)]
  refine qJ ?_; repeat' (first | ((with_reducible apply qI) <;> try simp only [qM, qC, qF, qH, qD, qA, qG, reduceIte, seval, Int.cast_ofNat_Int, qN, qO, qL, qY, zA, zB, pK, tG, d, g0, g1, qE m2 qV, lj2, lj3]))
  refine zW m2 qV rfl (by simp only [List.length_set]; omega) vj1 vj2 fun h3 m3 f3 => ?_
  simp only at m3
  refine qJ ?_; repeat' (first | ((first | (with_reducible apply qI) | with_reducible apply qB) <;> try simp only [qM, qC, qF, qH, qD, qA, qG, reduceIte, seval, Int.cast_ofNat_Int, qN, qO, qL, qY, zA, zB, pK, tG, wi, wq]))
  refine ⟨_, j + 1, by omega, (by simp only [List.forall_mem_cons, List.not_mem_nil, false_implies, implies_true, List.map, List.cons_append, List.nil_append, lk, Nat.reduceEqDiff, reduceIte, and_true, true_and]), rfl, by omega, .inr (by omega), x1.trans ((zE f2).trans (zE f3)), _, m3, by simp [hdl], fun i hi => ?_⟩
  by_cases e1 : i = q
  · subst e1
    rw [List.getElem?_set_self (by rw [List.length_set]; omega), if_pos (by omega), show n - 1 - i = j by omega, hvj]
  · rw [List.getElem?_set_ne (by omega)]
    by_cases e2 : i = j
    · subst e2
      rw [List.getElem?_set_self (by omega), if_pos (by omega), show n - 1 - i = q by omega, hvq]
    · rw [List.getElem?_set_ne (by omega), hd i hi]
      by_cases e3 : i < j ∨ n - j ≤ i
      · rw [if_pos e3, if_pos (by omega)]
      · rw [if_neg e3, if_neg (by omega)]
def OWX (h0 h : GH) (v : Value) (n : Nat) (cs : List Value) : Prop :=
  ∃ kb c tl, v = .slice (some ⟨kb, 0, none⟩) n c ∧ n ≠ 0 ∧ cs.length = n * 1 ∧ h kb = some ⟨cs, 1, true, tl⟩ ∧ h0 kb = none ∧ (tl = true ∧ c % 2 = 0 ∧ 2 * n ≤ c ∨ tl = false ∧ c = 2 * n + 1)
section
variable {h0 h h' : GH} {v : Value} {n : Nat} {cs : List Value}
theorem OWX.hs (o : OWX h0 h v n cs) (s : HS h h') : OWX h0 h' v n cs := by
  obtain ⟨kb, c, tl, h1, h2, h3, h4, h5⟩ := o
  exact ⟨kb, c, tl, h1, h2, h3, s _ _ h4, h5⟩
theorem OWX.form (o : OWX h0 h v n cs) : ∃ a c, v = .slice a n c := by
  obtain ⟨kb, c, tl, h1, _⟩ := o
  exact ⟨_, _, h1⟩
theorem OWX.len (o : OWX h0 h v n cs) : cs.length = n * 1 := by
  obtain ⟨kb, c, tl, _, _, h3, _⟩ := o
  exact h3
theorem OWX.at {P : Program} {t e : Nat} {b : Bool} (o : OWX h0 h v n cs) (ht : P.underlying t = some (.slice e)) (he : vL P e = some (b, 1)) {i : Nat} (hi : i < n) :
    ∃ k tl, zL P t v (i : Int) = some (.pointer (some ⟨k, i * 1, none⟩)) ∧ h k = some ⟨cs, 1, true, tl⟩ := by
  obtain ⟨kb, c, tl, rfl, h2, h3, h4, h5⟩ := o
  exact ⟨kb, tl, uR ht he hi, h4⟩
theorem OWX.by {h1 : GH} (key : ∀ i B, h i = some B → h0 i = none → h' i = some B ∧ h1 i = none) (o : OWX h0 h v n cs) : OWX h1 h' v n cs := by
  obtain ⟨kb, c, tl, h1, h2, h3, h4, h5, h6⟩ := o
  obtain ⟨z1, z2⟩ := key _ _ h4 h5
  exact ⟨kb, c, tl, h1, h2, h3, z1, z2, h6⟩
end
theorem sR {P : Program} {t u e by_ : Nat} {z : Value} {du : TypeDesc} {h0 h : GH} {s x : Value} {n : Nat} {cs xs : List Value} {K : Value → GH → Prop} (hel : rT P t = some (e, 1, by_, z)) (hu : P.underlying u = some du) (hni : sD du = true)
    (hs0 : HS h0 h) (o : OWX h0 h s n cs) (hsrc : sK h 1 x = some (1, xs)) (hxl : xs.length = 1) (hcell : xs.all zF = true) (hsz : (n + 1) * by_ ≤ 140737488355328) (hml : n + 1 ≤ maxLen)
    (k : ∀ v h', HS h0 h' → (∀ j B, h j = some B → (∀ tl, B ≠ ⟨cs, 1, true, tl⟩) → h' j = some B) → OWX h0 h' v (n + 1) (cs ++ xs) → K v h') : jO P t u h s x K := by
  obtain ⟨kb, c, tl, rfl, hn, hcl, hkb, hk0, ⟨rfl, hc1, hc2⟩ | ⟨rfl, rfl⟩⟩ := o
  · refine uO hel hu hni hs0 (.inr (.inr ⟨kb, c, rfl, hc1, hc2, hn, hcl, hkb, hk0⟩)) hsrc (by omega) hcell hsz hml fun v h' s' fr o' => ?_
    refine k v h' s' (fun j B hj hne => fr j B hj fun _ kb' c' e _ hk e2 => ?_) ?_
    · rw [e2, hk] at hj
      cases hj
      exact hne true rfl
    · rcases o' with ⟨_, q, _⟩ | ⟨_, _, q, _⟩ | ⟨k2, c2, h1, h2, h3, h4, h5, h6, h7⟩
      · omega
      · omega
      · exact ⟨k2, c2, true, h1, h4, h5, h6, h7, .inl ⟨rfl, h2, h3⟩⟩
  · refine .inl ⟨du, e, 1, by_, z, 1, xs, hu, hni, hel, hsrc, e, 1, by_, z, hel, by omega, hcell, ?_⟩
    refine .inr ⟨by omega, hml, hsz, .inl ⟨cs, wP hkb (by rw [List.drop_zero]; exact List.take_of_length_le (by show cs.length ≤ _; omega)) hcl, by omega, by omega, fun k0 hk0' => ?_⟩⟩
    have hS := HS.new hk0' ⟨cs ++ xs, 1, true, true⟩
    exact k _ _ (hs0.trans hS) (fun j B hj _ => hS j B hj) ⟨k0, 2 * (n + 1), true, rfl, by omega, by rw [List.length_append, hcl, hxl]; omega, by rw [zK], hs0.none_of hk0', .inl ⟨rfl, by omega, by omega⟩⟩
section
variable {K : Type} {R : GH → List Value → K → Prop}
def zN4 (size : Int) (id : List UInt8) (hops : List Hp) (p : Pn K) : List (List UInt8) := if qL4 size id hops p = true then rI size (qU id) (xK p) hops else []
theorem qH2 {size : Int} {row : List UInt8} : ∀ (l : List Hp) (last z : Int), -1 ≤ last → rS size row last l = some z → ∀ x ∈ l, 0 ≤ x.1 ∧ x.1 < 8 * (row.length : Int) ∧ 0 ≤ x.2.1 ∧ x.2.1 < 256 ∧ (x.2.2.length : Int) = size
  | [], _, _, _, _, x, hx => by simp at hx
  | y :: l, last, z, hla, h, x, hx => by
    simp only [rS] at h
    split at h
    case isFalse => cases h
    rename_i hk
    have hy : 0 ≤ y.1 ∧ y.1 < 8 * (row.length : Int) ∧ 0 ≤ y.2.1 ∧ y.2.1 < 256 ∧ (y.2.2.length : Int) = size := by
      unfold kB at hk
      simp only [Bool.not_eq_true', Bool.or_eq_false_iff, decide_eq_false_iff_not, bne_eq_false_iff_eq, Bool.not_eq_false', qN9, Bool.and_eq_true, decide_eq_true_eq] at hk
      omega
    rcases List.mem_cons.1 hx with rfl | hx
    · exact hy
    · exact qH2 l y.1 z (by omega) h x hx
theorem zH9 {size : Int} {id : List UInt8} {hops : List Hp} {p : Pn K} (h : qL4 size id hops p = true) : 1 ≤ size ∧ size ≤ 32 ∧ id.length ≤ 24 ∧ (∃ last, rS size (qU id) (-1) hops = some last ∧ p.ends size (qU id) last = true) ∧ p.right size = true ∧ p.kd ≠ 3 := by
  unfold qL4 qG0 at h
  simp only [Bool.and_eq_true, Bool.not_eq_true', Bool.or_eq_false_iff, decide_eq_false_iff_not] at h
  obtain ⟨⟨⟨h1, h2⟩, h3⟩, h4⟩ := h
  cases hl : rS size (qU id) (-1) hops with
  | none => rw [hl] at h4; cases h4
  | some last =>
    rw [hl] at h4
    simp only at h4
    refine ⟨by omega, by omega, by omega, ⟨last, rfl, h4⟩, ?_⟩
    unfold Pn.ends at h4
    split at h4
    · cases h4
    · rename_i hn
      simp only [Bool.or_eq_true, beq_iff_eq, Bool.not_eq_true', not_or, Bool.not_eq_false] at hn
      exact ⟨hn.2, hn.1⟩
theorem sB (size : Int) (row en : List UInt8) : ∀ l : List Hp, (rI size row en l).length = l.length + 1
  | [] => rfl
  | x :: l => by simp [rI, sB size row en l]
theorem zJ6 {size : Int} {row t : List UInt8} {x : Hp} : (wY size row t x).length ≤ row.length + 32 + x.2.2.length + 30 := by
  have hc : (vD size t).length ≤ 32 := by
    have := jK t
    simp only [vD, List.length_take, this]; omega
  unfold wY
  split
  · have := qC1 x.1.toNat row x.2.1.toNat x.2.2 (vD size t); omega
  · have := qC1 x.1.toNat row x.2.1.toNat (vD size t) x.2.2; omega
theorem pB {size : Int} {row t : List UInt8} {x : Hp} : wY size row t x ≠ [] := by
  unfold wY
  split <;> simp [wW, yL]
theorem qO5 (p : Pn K) : xK p ≠ [] := by
  unfold xK
  split
  · simp [fS, yL]
  · split <;> simp [wW, emptyB, yL]
theorem zB2 {size : Int} {row en : List UInt8} (he : en ≠ [] ∧ en.length ≤ 10000) (hr : row.length ≤ 300) : ∀ (l : List Hp), (∀ x ∈ l, x.2.2.length ≤ 32) → ∀ y ∈ rI size row en l, y ≠ [] ∧ y.length ≤ 10000
  | [], _, y, hy => by
    simp only [rI, List.mem_singleton] at hy
    subst hy; exact he
  | x :: l, hl, y, hy => by
    simp only [rI, List.mem_cons] at hy
    rcases hy with rfl | hy
    · refine ⟨pB, ?_⟩
      have := @zJ6 size row ((rI size row en l).headD []) x
      have := hl x (List.mem_cons_self ..)
      omega
    · exact zB2 he hr l (fun x hx => hl x (List.mem_cons_of_mem _ hx)) y hy
theorem RTx.ap {h h' : GH} {ds : List Value} (hu : ds.all uT = true) (fr : ∀ j B, h j = some B → (∀ tl, B ≠ ⟨ds, 1, true, tl⟩) → h' j = some B) {cs : List Value} {x : List UInt8} (hx : x ≠ []) (r : RTx h cs x) : RTx h' cs x := by
  obtain ⟨a, c, e, r1, r2⟩ := r
  rcases r1 with ⟨_, _, q⟩ | ⟨ad, c', q, h2, h3⟩
  · exact absurd q hx
  cases q
  have h0 : x.length ≠ 0 := fun q => hx (List.eq_nil_of_length_eq_zero q)
  have h2' := h2
  unfold wB at h2
  rw [if_neg h0] at h2
  split at h2
  case h_2 => cases h2
  rename_i B hs hB
  have hk := fr _ B hB fun tl q => by
    have hb : bv (x[0]'(by omega)) ∈ B.cells := pS h2' h0 hB _ (List.mem_map.2 ⟨_, List.getElem_mem _, rfl⟩)
    rw [q] at hb
    rw [List.all_eq_true] at hu
    have := hu _ hb
    simp [uT, bv] at this
  refine ⟨some ad, c, e, .inr ⟨ad, c, rfl, ?_, h3⟩, fun ad' n c' q => ?_⟩
  · unfold wB
    rw [if_neg h0, hs, hk]
    exact h2
  · cases q
    rcases r2 ad x.length c rfl with s1 | s1 | s1
    · exact .inl s1
    · exact .inr (.inl s1)
    · right; right
      unfold qS4 at s1 ⊢
      rw [hB] at s1
      rw [hk]; exact s1
end
end Go.Gh
