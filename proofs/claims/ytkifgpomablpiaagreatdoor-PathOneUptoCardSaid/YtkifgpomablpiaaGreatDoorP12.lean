/- Parts of this claim's proof, 12. No statement of the claim stands here. -/
import Derived.Test.YtkifgpomablpiaaGreatDoorP11
namespace Go.Gh
open Go Go.Proofs Go.RowKit
set_option linter.unusedVariables false
set_option linter.unusedSimpArgs false
set_option maxRecDepth 100000
set_option maxHeartbeats 4000000
theorem rR : type_of% (And.intro pQ (And.intro xW rs130)) := And.intro pQ (And.intro xW rs130)
def fJ : Nat → List (Nat × List Nat) × List Nat
  | 3 => ([(0, []), (1, []), (2, []), (3, []), (4, []), (5, []), (6, []), (7, []), (8, []), (9, []), (10, []), (11, []), (12, []), (13, []), (14, []), (15, [])], [0, 0, 0, 0, 0, 0, 48, 112, 0, 0, 768, 1792, 4083, 8179, 16383, 32767])
  | _ => ([], [])
theorem vN : type_of% (And.intro Tryz.underlying170 (And.intro pQ (And.intro uE (And.intro zR (And.intro vX (And.intro qB7 (And.intro vW (And.intro ty170 (And.intro xW (And.intro kC (And.intro jL (And.intro wS rs87)))))))))))) := And.intro Tryz.underlying170 (And.intro pQ (And.intro uE (And.intro zR (And.intro vX (And.intro qB7 (And.intro vW (And.intro ty170 (And.intro xW (And.intro kC (And.intro jL (And.intro wS rs87)))))))))))
theorem qW6 : type_of% (And.intro uE (And.intro vW rs88)) := And.intro uE (And.intro vW rs88)
theorem yB : type_of% (And.intro uE (And.intro zR (And.intro vW (And.intro xW (And.intro kC rs131))))) := And.intro uE (And.intro zR (And.intro vW (And.intro xW (And.intro kC rs131))))
section
variable {h0 h h' : GH} {k : Nat} {v : Value} {cs : List Value} {M : List Nd}
theorem zF0 {k i : Nat} (h : i < 2) : zI Tryz.prog 170 (.pointer (some ⟨k, 0, none⟩)) (i : Int) = some (.pointer (some ⟨k, i, none⟩)) := by
  simp [zI, Tryz.underlying170, zZ]; omega
theorem c_Rev2 (N : Nat) {k : Nat} {h : GH} {p q : Int} {c : Nat} (m : h k = some ⟨[.int .i64 p, .int .i64 q], 0, true, false⟩) : GTri Tryz.prog N 130 [.slice (some ⟨k, 0, none⟩) 2 c] h fun u h' => u = .tuple #[] ∧ h' k = some ⟨[.int .i64 q, .int .i64 p], 0, true, false⟩ ∧ HX k h h' := by
  have g0 : zI Tryz.prog 127 (.slice (some ⟨k, 0, none⟩) 2 c) 0 = some (.pointer (some ⟨k, 0, none⟩)) := by simp [zI, Tryz.underlying127, zZ]
  have g1 : zI Tryz.prog 127 (.slice (some ⟨k, 0, none⟩) 2 c) 1 = some (.pointer (some ⟨k, 1, none⟩)) := by simp [zI, Tryz.underlying127, zZ]
  refine xN Tryz.func130 rfl gf130 ok130 (by simp [Tryz.ntmps130]) ?_
  refine qJ ?_; repeat' (first | (with_reducible first | apply qK | apply qR) | ((first | (with_reducible apply qI) | with_reducible apply qD) <;> try simp only [qM, qB, qE, qG, qC, qA, qF, reduceIte, seval, Int.cast_ofNat_Int, qN, qO, qL, qZ, zA, zB, rR, fJ]))
  refine xS [0] (fun (j : Nat) => [(2, .int .i64 (j : Int)), (3, .int .i64 (1 - (j : Int)))]) (fun n j h' => n = 1 - j ∧ (j = 0 ∧ h' = h ∨ j = 1 ∧ h' k = some ⟨[.int .i64 q, .int .i64 p], 0, true, false⟩ ∧ HX k h h')) 1 0 (by simp [lk]) ⟨rfl, .inl ⟨rfl, rfl⟩⟩ ?_
  rintro _ j h1 ⟨rfl, ⟨rfl, rfl⟩ | ⟨rfl, m1, x1⟩⟩
  case inr =>
    refine qJ ?_; repeat' (first | with_reducible apply qK | ((first | (with_reducible apply qI) | (with_reducible first | apply qD | apply qS | apply xX)) <;> try simp only [qM, qB, qE, qG, qC, qA, qF, reduceIte, seval, Int.cast_ofNat_Int, qN, qO, qL, qZ, zA, zB, rR, fJ, Int.natCast_one, Int.sub_self, Int.reduceLT]))
    exact ⟨m1, x1⟩
  have e0 : ((0 : Nat) : Int) = 0 := rfl
  have e1 : (1 : Int) - ((0 : Nat) : Int) = 1 := rfl
  refine qJ ?_; repeat' (first | (with_reducible first | apply qK | apply qR) | ((first | (with_reducible apply qI) | (with_reducible first | apply qD | apply qS | apply qP) | with_reducible refine zF fJ xM (by kernel_rfl) ?_) <;> try simp only [qM, qB, qE, qG, qC, qA, qF, reduceIte, seval, Int.cast_ofNat_Int, qN, qO, qL, qZ, zA, zB, rR, fJ, e0, e1, Int.sub_zero, Int.reduceLT, g0, g1, qH m zZ]))
  refine zU m zZ rfl (by simp) rfl rfl fun h2 m2 f2 => ?_
  simp only [List.set_cons_zero, List.set_cons_succ] at m2
  have w1 : IntKind.i64.wrap ((0 : Int) + 1) = 1 := rfl
  have w2 : IntKind.i64.wrap ((1 : Int) - 1) = 0 := rfl
  refine qJ ?_; repeat' (first | ((with_reducible apply qI) <;> try simp only [qM, qB, qE, qG, qC, qA, qF, reduceIte, seval, Int.cast_ofNat_Int, qN, qO, qL, qZ, zA, zB, rR, fJ, e0, e1, Int.sub_zero, Int.reduceLT, g0, g1, qH m2 zZ]))
  refine zU m2 zZ rfl (by simp) rfl rfl fun h3 m3 f3 => ?_
  simp only [List.set_cons_zero, List.set_cons_succ] at m3
  refine qJ ?_; repeat' (first | ((first | (with_reducible apply qI) | with_reducible apply qD) <;> try simp only [qM, qB, qE, qG, qC, qA, qF, reduceIte, seval, Int.cast_ofNat_Int, qN, qO, qL, qZ, zA, zB, rR, fJ, e0, e1, w1, w2, Int.sub_zero, Int.reduceLT, g0, g1, qH m3 zZ]))
  exact ⟨_, 1, by omega, (by simp [lk]), rfl, .inr ⟨rfl, m3, (zE f2).trans (zE f3)⟩⟩
theorem c_part (N : Nat) (s0 : HS h0 h) (t : TK h0) (x : AA h0 h k v cs M) {a : Option Addr} {c : Nat} {row : List UInt8} (rr : RB h (.slice a row.length c) row) (hrow : row.length ≤ 60000) {now e : Nat} (hnow : now < M.length) (he : e < M.length) (hm : M.length < 10000) {nd : Nd} {i : Nat} (ok : nd.ok i) (f : Value) (hf : zG f = true) (b : Bool)
    {a1 a2 a3 a4 : Option Addr} {c1 c2 c3 c4 : Nat} (rn : RNd h (nd.cs (.slice a1 nd.id.length c1) (.slice a2 nd.ky.length c2) (.slice a3 nd.pf.length c3) (.slice a4 nd.hs.length c4)) nd) (q1 : RB h (.slice a1 nd.id.length c1) nd.id) (q3 : RB h (.slice a3 nd.pf.length c3) nd.pf) :
    GTri Tryz.prog N 87 [.pointer (some ⟨k, 0, none⟩), .slice a row.length c, .int .i64 (now : Int), .agg (dJ f (e : Int) nd (.slice a1 nd.id.length c1) (.slice a2 nd.ky.length c2) (.slice a3 nd.pf.length c3) (.slice a4 nd.hs.length c4) b).toArray] h fun u h' =>
      u = .int .i64 ((gP row M now e nd).2 : Int) ∧ HS h0 h' ∧ FR 11 k h h' ∧ ∃ v' cs', AA h0 h' k v' cs' (gP row M now e nd).1 := by
  have hle := qE1 row (jE nd)
  have l1 := ok.id
  have l3 := ok.pf
  have hid : nd.lf = true → jE nd = qY nd.id := fun q => by unfold jE; rw [if_pos q]
  have hpf : nd.lf = false → jE nd = nd.pf := fun q => by unfold jE; rw [q]; rfl
  have hkl := vM nd.id
  refine xN Tryz.func87 rfl gf87 ok87 (by simp [Tryz.ntmps87]) ?_
  repeat' (first | with_reducible apply qK | (with_reducible apply qD <;> try simp only [qM, qB, qE, qG, qC, qA, qF, reduceIte, seval, Int.cast_ofNat_Int, qN, qO, vN]))
  refine uL (by simp only [List.toList_toArray, dJ, List.all_cons, List.all_nil, hf]; rfl) fun k1 h1 m1 s1 f1 n1 => ?_
  simp only [dJ] at m1
  generalize hd : uB row (jE nd) = d at hle
  cases hlf : nd.lf
  · rw [hlf] at m1
    have hd0 := hd
    rw [hpf hlf] at hd
    have S9 := s1
    have m1h := m1
    refine qJ ?_; repeat' (first | with_reducible apply qK | ((first | (with_reducible apply qI) | (with_reducible first | apply qD | apply qS | apply qP) | ((refine GTri.mono (qI8 _ _ (rr.hs s1) (q3.hs s1) rfl rfl (by omega)) ?_); rintro _ _ ⟨rfl, hh9⟩; replace hh9 := hh9.symm; subst hh9)) <;> try simp only [qM, qB, qE, qG, qC, qA, qF, reduceIte, seval, Int.cast_ofNat_Int, qN, qO, vN, hd, qH m1 qV, qH m1 rY, qH m1 zZ, xC, xU, vC, Shape.pl, List.all_cons, List.all_nil, zG]))
    refine xQ fun k10 h10 m10 s10 f10 n10 => ?_
    refine qJ ?_; repeat' (first | ((with_reducible apply qI) <;> try simp only [qM, qB, qE, qG, qC, qA, qF, reduceIte, seval, Int.cast_ofNat_Int, qN, qO, vN]))
    refine wC m10 sz170 rfl (by decide) rfl rfl rfl fun h11 m11 f11 => ?_
    simp only [vcells] at m11
    have n10h : h k10 = none := S9.none_of n10
    have k1k : k1 ≠ k10 := yS m1h n10
    have S11 : HS h h11 := S9.trans (s10.upd n10 f11)
    have gi0 : zI Tryz.prog 170 (.pointer (some ⟨k10, 0, none⟩)) 0 = some (.pointer (some ⟨k10, 0, none⟩)) := zF0 (i := 0) (by omega)
    have gi1 : zI Tryz.prog 170 (.pointer (some ⟨k10, 0, none⟩)) 1 = some (.pointer (some ⟨k10, 1, none⟩)) := zF0 (i := 1) (by omega)
    cases hbt : (xI row d == 1)
    · have hbq : (xI row d = 1) = False := by simpa using hbt
      have m1011 := (f11 k1 k1k).trans (s10 _ _ m1h)
      have rr11 : RB h11 (.slice a row.length c) row := (rr.hs S9).hs (s10.upd n10 f11)
      refine qJ ?_; repeat' (first | with_reducible apply qK | ((first | (with_reducible apply qI) | (with_reducible first | apply qD | apply qS | apply qP) | ((refine GTri.mono (kR _ _ rr11 d (by omega)) ?_); rintro _ _ ⟨rfl, hh9⟩; replace hh9 := hh9.symm; subst hh9)) <;> try simp only [qM, qB, qE, qG, qC, qA, qF, reduceIte, seval, Int.cast_ofNat_Int, qN, qO, vN, hbt, qH m1011 zZ]))
      have m12 := m11
      have S12 := S11
      refine qJ ?_; repeat' (first | ((with_reducible apply qI) <;> try simp only [qM, qB, qE, qG, qC, qA, qF, reduceIte, seval, Int.cast_ofNat_Int, qN, qO, vN, gi0, gi1, qH m12 zZ]))
      refine (rV N (s0.trans S12) t (x.hs S12) (rr.hs S12) hrow (d := d) (l := now) (r := e) (by omega) (by omega) (by omega) hm).mono ?_
      rintro _ h13 ⟨rfl, s13, fr13, v', cs', x13⟩
      have ep : gP row M now e nd = (M ++ [wW M d row now e], M.length) := by
        unfold gP
        rw [hd0]
        simp only [hbq, if_true, if_false]
      refine qJ ?_; repeat' (first | with_reducible apply qK | ((first | (with_reducible apply qI) | (with_reducible first | apply qD | apply qQ)) <;> try simp only [qM, qB, qE, qG, qC, qA, qF, reduceIte, seval, Int.cast_ofNat_Int, qN, qO, vN]))
      rw [ep]
      exact ⟨rfl, s13, (FR.of S12).trans fr13, v', cs', x13⟩
    · have hbq : (xI row d = 1) = True := by simpa using hbt
      have gs2 : vJ Tryz.prog 170 h11 (.pointer (some ⟨k10, 0, none⟩)) none none none = some (.slice (some ⟨k10, 0, none⟩) 2 5) := by simp [vJ, Tryz.underlying170, zZ, kN, fH]
      have m1011 := (f11 k1 k1k).trans (s10 _ _ m1h)
      have rr11 : RB h11 (.slice a row.length c) row := (rr.hs S9).hs (s10.upd n10 f11)
      refine qJ ?_; repeat' (first | with_reducible apply qK | ((first | (with_reducible apply qI) | (with_reducible first | apply qD | apply qS) | ((refine GTri.mono (kR _ _ rr11 d (by omega)) ?_); rintro _ _ ⟨rfl, hh9⟩; replace hh9 := hh9.symm; subst hh9)) <;> try simp only [qM, qB, qE, qG, qC, qA, qF, reduceIte, seval, Int.cast_ofNat_Int, qN, qO, vN, hbt, gs2, qH m1011 zZ]))
      refine (c_Rev2 N m11).mono ?_
      rintro _ h12 ⟨rfl, m12, x12⟩
      have S12 : HS h h12 := fun j B m => x12 j B (fun q => by rw [q, n10h] at m; cases m) (S11 j B m)
      refine qJ ?_; repeat' (first | with_reducible apply qK | ((first | (with_reducible apply qI) | with_reducible apply qD) <;> try simp only [qM, qB, qE, qG, qC, qA, qF, reduceIte, seval, Int.cast_ofNat_Int, qN, qO, vN, gi0, gi1, qH m12 zZ]))
      refine (rV N (s0.trans S12) t (x.hs S12) (rr.hs S12) hrow (d := d) (l := e) (r := now) (by omega) (by omega) (by omega) hm).mono ?_
      rintro _ h13 ⟨rfl, s13, fr13, v', cs', x13⟩
      have ep : gP row M now e nd = (M ++ [wW M d row e now], M.length) := by
        unfold gP
        rw [hd0]
        simp only [hbq, if_true, if_false]
      refine qJ ?_; repeat' (first | with_reducible apply qK | ((first | (with_reducible apply qI) | (with_reducible first | apply qD | apply qQ)) <;> try simp only [qM, qB, qE, qG, qC, qA, qF, reduceIte, seval, Int.cast_ofNat_Int, qN, qO, vN]))
      rw [ep]
      exact ⟨rfl, s13, (FR.of S12).trans fr13, v', cs', x13⟩
  · rw [hlf] at m1
    have hd0 := hd
    rw [hid hlf] at hd
    refine qJ ?_; repeat' (first | with_reducible apply qK | ((first | (with_reducible apply qI) | (with_reducible first | apply qD | apply qS)) <;> try simp only [qM, qB, qE, qG, qC, qA, qF, reduceIte, seval, Int.cast_ofNat_Int, qN, qO, vN, qH m1 qV, qH m1 rY, qH m1 zZ]))
    refine (qC7 N h1 (q1.hs s1) rfl).mono ?_
    rintro _ h9 ⟨s9, ar, cr, rfl, rk, _⟩
    have S9 := s1.trans s9
    have m1h := s9 _ _ m1
    refine qJ ?_; repeat' (first | with_reducible apply qK | ((first | (with_reducible apply qI) | with_reducible apply qD | ((refine GTri.mono (qI8 _ _ (rr.hs S9) rk rfl rfl (by omega)) ?_); rintro _ _ ⟨rfl, hh9⟩; replace hh9 := hh9.symm; subst hh9)) <;> try simp only [qM, qB, qE, qG, qC, qA, qF, reduceIte, seval, Int.cast_ofNat_Int, qN, qO, vN, hd, qH m1h qV, qH m1h rY, qH m1h zZ, xC, xU, vC, Shape.pl, List.all_cons, List.all_nil, zG]))
    refine xQ fun k10 h10 m10 s10 f10 n10 => ?_
    refine qJ ?_; repeat' (first | ((with_reducible apply qI) <;> try simp only [qM, qB, qE, qG, qC, qA, qF, reduceIte, seval, Int.cast_ofNat_Int, qN, qO, vN]))
    refine wC m10 sz170 rfl (by decide) rfl rfl rfl fun h11 m11 f11 => ?_
    simp only [vcells] at m11
    have n10h : h k10 = none := S9.none_of n10
    have k1k : k1 ≠ k10 := yS m1h n10
    have S11 : HS h h11 := S9.trans (s10.upd n10 f11)
    have gi0 : zI Tryz.prog 170 (.pointer (some ⟨k10, 0, none⟩)) 0 = some (.pointer (some ⟨k10, 0, none⟩)) := zF0 (i := 0) (by omega)
    have gi1 : zI Tryz.prog 170 (.pointer (some ⟨k10, 0, none⟩)) 1 = some (.pointer (some ⟨k10, 1, none⟩)) := zF0 (i := 1) (by omega)
    cases hbt : (xI row d == 1)
    · have hbq : (xI row d = 1) = False := by simpa using hbt
      have m1011 := (f11 k1 k1k).trans (s10 _ _ m1h)
      have rr11 : RB h11 (.slice a row.length c) row := (rr.hs S9).hs (s10.upd n10 f11)
      refine qJ ?_; repeat' (first | with_reducible apply qK | ((first | (with_reducible apply qI) | (with_reducible first | apply qD | apply qS | apply qP) | ((refine GTri.mono (kR _ _ rr11 d (by omega)) ?_); rintro _ _ ⟨rfl, hh9⟩; replace hh9 := hh9.symm; subst hh9)) <;> try simp only [qM, qB, qE, qG, qC, qA, qF, reduceIte, seval, Int.cast_ofNat_Int, qN, qO, vN, hbt, qH m1011 zZ]))
      have m12 := m11
      have S12 := S11
      refine qJ ?_; repeat' (first | ((with_reducible apply qI) <;> try simp only [qM, qB, qE, qG, qC, qA, qF, reduceIte, seval, Int.cast_ofNat_Int, qN, qO, vN, gi0, gi1, qH m12 zZ]))
      refine (rV N (s0.trans S12) t (x.hs S12) (rr.hs S12) hrow (d := d) (l := now) (r := e) (by omega) (by omega) (by omega) hm).mono ?_
      rintro _ h13 ⟨rfl, s13, fr13, v', cs', x13⟩
      have ep : gP row M now e nd = (M ++ [wW M d row now e], M.length) := by
        unfold gP
        rw [hd0]
        simp only [hbq, if_true, if_false]
      refine qJ ?_; repeat' (first | with_reducible apply qK | ((first | (with_reducible apply qI) | (with_reducible first | apply qD | apply qQ)) <;> try simp only [qM, qB, qE, qG, qC, qA, qF, reduceIte, seval, Int.cast_ofNat_Int, qN, qO, vN]))
      rw [ep]
      exact ⟨rfl, s13, (FR.of S12).trans fr13, v', cs', x13⟩
    · have hbq : (xI row d = 1) = True := by simpa using hbt
      have gs2 : vJ Tryz.prog 170 h11 (.pointer (some ⟨k10, 0, none⟩)) none none none = some (.slice (some ⟨k10, 0, none⟩) 2 5) := by simp [vJ, Tryz.underlying170, zZ, kN, fH]
      have m1011 := (f11 k1 k1k).trans (s10 _ _ m1h)
      have rr11 : RB h11 (.slice a row.length c) row := (rr.hs S9).hs (s10.upd n10 f11)
      refine qJ ?_; repeat' (first | with_reducible apply qK | ((first | (with_reducible apply qI) | (with_reducible first | apply qD | apply qS) | ((refine GTri.mono (kR _ _ rr11 d (by omega)) ?_); rintro _ _ ⟨rfl, hh9⟩; replace hh9 := hh9.symm; subst hh9)) <;> try simp only [qM, qB, qE, qG, qC, qA, qF, reduceIte, seval, Int.cast_ofNat_Int, qN, qO, vN, hbt, gs2, qH m1011 zZ]))
      refine (c_Rev2 N m11).mono ?_
      rintro _ h12 ⟨rfl, m12, x12⟩
      have S12 : HS h h12 := fun j B m => x12 j B (fun q => by rw [q, n10h] at m; cases m) (S11 j B m)
      refine qJ ?_; repeat' (first | with_reducible apply qK | ((first | (with_reducible apply qI) | with_reducible apply qD) <;> try simp only [qM, qB, qE, qG, qC, qA, qF, reduceIte, seval, Int.cast_ofNat_Int, qN, qO, vN, gi0, gi1, qH m12 zZ]))
      refine (rV N (s0.trans S12) t (x.hs S12) (rr.hs S12) hrow (d := d) (l := e) (r := now) (by omega) (by omega) (by omega) hm).mono ?_
      rintro _ h13 ⟨rfl, s13, fr13, v', cs', x13⟩
      have ep : gP row M now e nd = (M ++ [wW M d row e now], M.length) := by
        unfold gP
        rw [hd0]
        simp only [hbq, if_true, if_false]
      refine qJ ?_; repeat' (first | with_reducible apply qK | ((first | (with_reducible apply qI) | (with_reducible first | apply qD | apply qQ)) <;> try simp only [qM, qB, qE, qG, qC, qA, qF, reduceIte, seval, Int.cast_ofNat_Int, qN, qO, vN]))
      rw [ep]
      exact ⟨rfl, s13, (FR.of S12).trans fr13, v', cs', x13⟩
end
theorem c_BwdN (N : Nat) (h : GH) (a : Option Addr) (n c : Nat) : GTri Tryz.prog N 88 [.slice a n c] h fun u h' => (∃ kb, u = .func (.func 131) #[] #[.pointer (some ⟨kb, 0, none⟩)] ∧ h' kb = some ⟨[.slice a n c], 0, true, false⟩ ∧ h kb = none) ∧ HS h h' := by
  refine xN Tryz.func88 rfl gf88 ok88 (by simp [Tryz.ntmps88]) ?_
  repeat' (first | with_reducible apply qK | (with_reducible apply qD <;> try simp only [qM, qB, qE, qG, qC, qA, qF, reduceIte, seval, Int.cast_ofNat_Int, qN, qO, qW6]))
  refine uL rfl fun k1 h1 m1 s1 f1 n1 => ?_
  refine qJ ?_; repeat' (first | with_reducible apply qK | ((first | (with_reducible apply qI) | (with_reducible first | apply qD | apply qQ)) <;> try simp only [qM, qB, qE, qG, qC, qA, qF, reduceIte, seval, Int.cast_ofNat_Int, qN, qO, qW6, List.map_toArray, List.map_cons, List.map_nil]))
  exact ⟨⟨k1, rfl, m1, n1⟩, s1⟩
theorem c_bwdN1 (N l : Nat) (r : LRec) {h hx : GH} {kb : Nat} {a : Option Addr} {n c : Nat} {cells : List Value} (hn : n ≤ 1000000) (I : Nat → GH → Prop) (h0 : I n h)
    (hb : ∀ i h', I i h' → h' kb = some ⟨[.slice a n c], 0, true, false⟩ ∧ OWNC 10 hx h' (.slice a n c) n cells)
    (y : ∀ i h', i < n → I (i + 1) h' → zL1 Tryz.prog N l r [.int .i64 (i : Int), .agg ((cells.drop (i * 10)).take 10).toArray] h' (I i)) :
    zH2 l r Tryz.prog N 131 [.func (.yield l) #[] #[], .pointer (some ⟨kb, 0, none⟩)] h (I 0) := by
  refine gtrio Tryz.func131 rfl gf131 ok131 rs131 (by simp [Tryz.ntmps131]) ?_
  obtain ⟨m0, r0⟩ := hb _ _ h0
  have w0 : IntKind.i64.wrap ((n : Int) - 1) = (n : Int) - 1 := by rw [wrap64 (by omega) (by omega)]
  simp only [qM, qB, qE, qG, qC, qA, qF, reduceIte, seval, Int.cast_ofNat_Int, qN, qO, yB]
  refine gK ?_
  refine gZ (qD ?_)
  simp only [qM, qB, qE, qG, qC, qA, qF, reduceIte, seval, Int.cast_ofNat_Int, qN, qO, yB, qH m0 uF, w0, List.getElem?_cons_zero, List.getElem?_cons_succ]
  refine sS ?_
  refine qU0 (fun m e' h' => m ≤ n ∧ e' = [(0, .func (.yield l) #[] #[]), (1, .pointer (some ⟨kb, 0, none⟩)), (3, .int .i64 ((m : Int) - 1))] ∧ I m h') n
    (e0 := [(0, .func (.yield l) #[] #[]), (1, .pointer (some ⟨kb, 0, none⟩)), (3, .int .i64 ((n : Int) - 1))]) ?_ ⟨Nat.le_refl _, rfl, h0⟩ ?_
  · exact (dX (by simp only [List.forall_mem_cons, List.not_mem_nil, false_implies, implies_true, lk, Nat.reduceEqDiff, reduceIte, and_true, true_and]))
  rintro m e' h' ⟨hm, rfl, hI⟩
  obtain ⟨m1, r1⟩ := hb _ _ hI
  refine gK ?_
  refine gK ?_
  refine gZ (qD ?_)
  by_cases hm0 : m = 0
  · have d : decide ((m : Int) - 1 ≥ 0) = false := decide_eq_false (by omega)
    simp only [qM, qB, qE, qG, qC, qA, qF, reduceIte, seval, Int.cast_ofNat_Int, qN, qO, yB, d]
    refine lQ ?_
    simp only [qM, qB, qE, qG, qC, qA, qF, reduceIte, seval, Int.cast_ofNat_Int, qN, qO, yB, qU6]
    refine gZ (xX ?_)
    simp only [qM, qB, qE, qG, qC, qA, qF, reduceIte, seval, Int.cast_ofNat_Int, qN, qO, yB]
    subst hm0
    exact ⟨.inl trivial, hI⟩
  obtain ⟨i, rfl⟩ : ∃ i, m = i + 1 := ⟨m - 1, by omega⟩
  have e1 : ((i + 1 : Nat) : Int) - 1 = (i : Int) := by omega
  rw [e1]
  have d : decide ((i : Int) ≥ 0) = true := decide_eq_true (by omega)
  simp only [qM, qB, qE, qG, qC, qA, qF, reduceIte, seval, Int.cast_ofNat_Int, qN, qO, yB, d]
  refine lQ ?_
  simp only [qM, qB, qE, qG, qC, qA, qF, reduceIte, seval, Int.cast_ofNat_Int, qN, qO, yB, gif_t]
  refine gZ (qP ?_)
  simp only [qM, qB, qE, qG, qC, qA, qF, reduceIte, seval, Int.cast_ofNat_Int, qN, qO, yB]
  refine gK ?_
  refine sS ?_
  refine gK ?_
  obtain ⟨ad, g1, l4⟩ : ∃ ad, zI Tryz.prog 131 (.slice a n c) (i : Int) = some (.pointer (some ad)) ∧ wY Tryz.prog 92 h' (.pointer (some ad)) = some (.agg ((cells.drop (i * 10)).take 10).toArray) := by
    rcases r1 with ⟨_, q, _⟩ | ⟨_, _, q, _⟩ | ⟨kf, c', q, h2, h3, h4, h5, h6, h7⟩
    · omega
    · omega
    · cases q
      have hi : i < n := by omega
      refine ⟨_, uC Tryz.underlying131 wB hi, wI h6 wB rfl ?_⟩
      rw [List.length_take, List.length_drop, h5]
      have := Nat.mul_le_mul_right 10 (show i + 1 ≤ n by omega)
      omega
  refine gro_of ?_
  refine zE9 6 ?_
  simp only [qM, qB, qE, qG, qC, qA, qF, reduceIte, seval, Int.cast_ofNat_Int, qN, qO, yB, qH m1 uF, g1, l4, List.getElem?_cons_zero, List.getElem?_cons_succ, List.drop_succ_cons, List.drop_zero, List.take_succ_cons, List.take_zero]
  refine qM5 rfl ?_
  simp only [qM, qB, qE, qG, qC, qA, qF, reduceIte, seval, Int.cast_ofNat_Int, qN, qO, yB]
  have yy := y i h' (by omega) hI
  intro hG φ w args' sm hv hlo
  obtain ⟨fn, tmps, assign, body, q1, q2⟩ := yy hG φ w args' sm hv hlo
  refine ⟨fn, tmps, assign, body, q1, q2.mono ?_⟩
  rintro e w' ⟨φ', h2, p1, p2, p3, p4, p5⟩
  refine ⟨φ', h2, p1, p2, p3, p4, ?_⟩
  refine zE8 ?_
  simp only [qM, qB, qE, qG, qC, qA, qF, reduceIte, seval, Int.cast_ofNat_Int, qN, qO, yB, yH]
  refine lQ ?_
  simp only [qM, qB, qE, qG, qC, qA, qF, reduceIte, seval, Int.cast_ofNat_Int, qN, qO, yB, qU6, Bool.not_true]
  refine gZ (qP ?_)
  simp only [qM, qB, qE, qG, qC, qA, qF, reduceIte, seval, Int.cast_ofNat_Int, qN, qO, yB]
  refine gZ (qD ?_)
  have w1 : IntKind.i64.wrap ((i : Int) - 1) = (i : Int) - 1 := by rw [wrap64 (by omega) (by omega)]
  simp only [qM, qB, qE, qG, qC, qA, qF, reduceIte, seval, Int.cast_ofNat_Int, qN, qO, yB, w1]
  exact ⟨i, _, by omega, (dX (by simp only [List.forall_mem_cons, List.not_mem_nil, false_implies, implies_true, lk, Nat.reduceEqDiff, reduceIte, and_true, true_and])), by omega, rfl, p5⟩
theorem zT : type_of% (And.intro uE (And.intro zR (And.intro vX (And.intro qB7 (And.intro vW (And.intro xW (And.intro kC (And.intro jL (And.intro wS rs47))))))))) := And.intro uE (And.intro zR (And.intro vX (And.intro qB7 (And.intro vW (And.intro xW (And.intro kC (And.intro jL (And.intro wS rs47))))))))
def zV : Nat → List (Nat × List Nat) × List Nat
  | 8 => ([(0, []), (2, []), (1, [2]), (3, []), (4, [])], [0, 1, 0, 7, 15])
  | _ => ([], [])
theorem RB.some {h : GH} {a : Option Addr} {n c : Nat} {l : List UInt8} (r : RB h (.slice a n c) l) (hl : l ≠ []) : a.isNone = false := by
  rcases r with ⟨_, _, q⟩ | ⟨ad, _, q, _⟩
  · exact absurd q hl
  · cases q; rfl
inductive Spot (M : List Nd) (id ky : List UInt8) (si : Nat) : Int → List Nat → Int → Nd → Bool → List Nd × Nat → Prop
  | no : Spot M id ky si (-1) [] (-1) ⟨false, [], [], 0, 0, [], 0, 0, 0, []⟩ false (M ++ [wV id ky si], M.length)
  | way {i e fs nd} : Way M (qY id) i fs e nd → Spot M id ky si (i : Int) fs (e : Int) nd (nd.lf && nd.id == id) (dE id ky si M e nd)
def InsI (M : List Nd) (id : List UInt8) (S0 : List Nd × Nat) (fs : List Nat) (h0 hb : GH) (k k14 : Nat) (i : Nat) (h' : GH) : Prop :=
  ∃ S : List Nd × Nat, S = (fs.drop i).reverse.foldl (sQ (qY id)) S0 ∧ HS h0 h' ∧ FR 11 k hb h' ∧ h' k14 = some ⟨[.int .i64 (S.2 : Int)], 0, true, false⟩ ∧ S.2 < S.1.length ∧ S.1.length + i ≤ S0.1.length + fs.length ∧ (∃ L, S.1 = M ++ L) ∧ ∃ v cs, AA h0 h' k v cs S.1
theorem FR.new {e k j : Nat} {a b c d : GH} (x : FR e k a b) (n : b j = none) (s : HS b c) (f : ∀ i, i ≠ j → d i = c i) : FR e k a d := fun i B m q => by
  have h1 := x i B m q
  rw [f i (fun z => by rw [z, n] at h1; cases h1)]
  exact s _ _ h1
theorem tL {M : List Nd} {id : List UInt8} {S0 : List Nd × Nat} {fs : List Nat} {i p : Nat} (h : fs[i]? = some p) : (fs.drop i).reverse.foldl (sQ (qY id)) S0 = sQ (qY id) ((fs.drop (i + 1)).reverse.foldl (sQ (qY id)) S0) p := by
  have h1 := List.getElem?_eq_some_iff.1 h
  rw [List.drop_eq_getElem_cons h1.1, h1.2, List.reverse_cons, List.foldl_append]; rfl
theorem Spot.facts {M : List Nd} {id ky : List UInt8} {si : Nat} {rt at_ : Int} {fs : List Nat} {nd : Nd} {same : Bool} {S0 : List Nd × Nat} (sp : Spot M id ky si rt fs at_ nd same S0) (ti : TI M) (hi : id.length ≤ 255) :
    (∃ L, S0.1 = M ++ L) ∧ S0.2 < S0.1.length ∧ S0.1.length ≤ M.length + 2 ∧ ∀ (j p : Nat), fs[j]? = some p → ∃ y, M[p]? = some y ∧ uW (qY id) y = false := by
  cases sp with
  | no => exact ⟨⟨_, rfl⟩, by simp, by simp, fun j p h => by simp at h⟩
  | @way i e fs nd w =>
    obtain ⟨_, b, c, d, _⟩ := low_ok ti hi (ky := ky) (si := si) w.end.1 w.end.2
    exact ⟨d, b, c, fun j p h => by
      obtain ⟨y, h1, h2, _⟩ := w.at.2 j p h
      exact ⟨y, h1, h2⟩⟩
section
variable {h0 h h' : GH} {k : Nat} {v : Value} {cs : List Value} {M : List Nd}
theorem AA.upd {j : Nat} {B : GB} (x : AA h0 h k v cs M) (m : h j = some B) (hu : B.cells.all uJ = true) (hn : k ≠ j) (f : ∀ i, i ≠ j → h' i = h i) (h0' : B.es = 0 := by rfl) : AA h0 h' k v cs M :=
  ⟨by rw [f k hn]; exact x.obj, x.nk, x.arr.keep (x.arr.own.by5 m f (by rw [h0']; decide)) fun _ _ ⟨cn, e, r⟩ => ⟨cn, e, r.hx m hu (zE f)⟩⟩
theorem c_Insert (N : Nat) (s0 : HS h0 h) (t : TK h0) (x : AA h0 h k v cs M) (ti : TI M) {a b : Option Addr} {ca cb : Nat} {id ky : List UInt8} (ri : RB h (.slice a id.length ca) id) (rk : RB h (.slice b ky.length cb) ky) (hi : id.length ≤ 255) (hk : ky.length ≤ 60000) {si : Nat} (hs : si ≤ 1000000)
    {rt at_ : Int} {fs : List Nat} {nd : Nd} {same : Bool} {S0 : List Nd × Nat} (sp : Spot M id ky si rt fs at_ nd same S0) (hm : M.length + 2 + fs.length ≤ 9000) (hfs : fs.length ≤ 3000) :
    GTri Tryz.prog N 47 [.pointer (some ⟨k, 0, none⟩), .int .i64 rt, .slice a id.length ca, .slice b ky.length cb, .int .i64 (si : Int)] h fun u h' => u = .tuple #[.int .i64 ((fs.reverse.foldl (sQ (qY id)) S0).2 : Int), .int .i64 0] ∧ HS h0 h' ∧ FR 11 k h h' ∧ ∃ v' cs', AA h0 h' k v' cs' (fs.reverse.foldl (sQ (qY id)) S0).1 := by
  have d1 : decide ((si : Int) < 0) = false := decide_eq_false (by omega)
  have d2 : decide ((id.length : Int) > 255) = false := decide_eq_false (by omega)
  have d3 : decide ((ky.length : Int) > 65535) = false := decide_eq_false (by omega)
  refine xN Tryz.func47 rfl gf47 ok47 (by simp [Tryz.ntmps47]) ?_
  repeat' (first | with_reducible apply qK | (with_reducible apply qD <;> try simp only [qM, qB, qE, qG, qC, qA, qF, reduceIte, seval, Int.cast_ofNat_Int, qN, qO, qL, qZ, zA, zB, zT, zV]))
  refine uL rfl fun k5 h5 m5 s5 f5 n5 => ?_
  have x5 := x.hs s5
  simp only [qM, qB, qE, qG, qC, qA, qF, reduceIte, seval, Int.cast_ofNat_Int, qN, qO, zT]
  refine qK ?_
  refine GW.mono (Q := fun x e' h' => x = .normal ∧ HS h5 h' ∧ lk e' 1 = .int .i64 rt ∧ lk e' 2 = .slice a id.length ca ∧ lk e' 3 = .slice b ky.length cb ∧ lk e' 4 = .int .i64 (si : Int) ∧ lk e' 5 = .pointer (some ⟨k5, 0, none⟩)) ?_ ?_
  · cases sp with
    | no =>
      refine qJ ?_; repeat' (first | (with_reducible first | apply qK | apply qR) | ((first | (with_reducible apply qI) | (with_reducible first | apply qD | apply qS | apply qP) | ((refine GTri.mono (c_Size _ x5) ?_); rintro _ _ ⟨rfl, hh9⟩; replace hh9 := hh9.symm; subst hh9)) <;> try simp only [qM, qB, qE, qG, qC, qA, qF, reduceIte, seval, Int.cast_ofNat_Int, qN, qO, qL, qZ, zA, zB, zT, zV, qH m5 qF2, d1, d2, d3]))
      exact HS.refl _
    | @way i e fs nd w =>
      have wi : ∃ y, M[i]? = some y := by
        cases w with
        | stop h1 _ => exact ⟨_, h1⟩
        | go h1 _ _ => exact ⟨_, h1⟩
      obtain ⟨y, hy⟩ := wi
      have hy4 := (x.arr.ok.ok i y hy).hs
      have d4 : ((i : Int) != -1) = true := by simp
      refine qJ ?_; repeat' (first | (with_reducible first | apply qK | apply qR) | ((first | (with_reducible apply qI) | (with_reducible first | apply qD | apply qS) | ((refine GTri.mono (c_Size _ x5) ?_); rintro _ _ ⟨rfl, hh9⟩; replace hh9 := hh9.symm; subst hh9)) <;> try simp only [qM, qB, qE, qG, qC, qA, qF, reduceIte, seval, Int.cast_ofNat_Int, qN, qO, qL, qZ, zA, zB, zT, zV, qH m5 qF2, d4]))
      refine (mZ N x5 hy).mono ?_
      rintro _ h6 ⟨s6, a6, c6, rfl, r6⟩
      have q6 := r6.some (by intro q; rw [q] at hy4; cases hy4)
      refine qJ ?_; repeat' (first | with_reducible apply qK | ((first | (with_reducible apply qI) | (with_reducible first | apply qD | apply qS | apply qP)) <;> try simp only [qM, qB, qE, qG, qC, qA, qF, reduceIte, seval, Int.cast_ofNat_Int, qN, qO, qL, qZ, zA, zB, zT, zV, q6, d1, d2, d3]))
      exact s6
  rintro _ e' h6 ⟨rfl, s6, q1, q2, q3, q4, q5⟩
  rw [dH]
  refine pV [(1, .int .i64 rt), (2, .slice a id.length ca), (3, .slice b ky.length cb), (4, .int .i64 (si : Int)), (5, .pointer (some ⟨k5, 0, none⟩))] (by simp [q1, q2, q3, q4, q5]) ?_
  clear q1 q2 q3 q4 q5
  have S6 := s5.trans s6
  have m56 := s6 _ _ m5
  refine qK ?_
  refine GW.mono (Q := fun x e' h' => x = .normal ∧ (lk e' 2 = .slice a id.length ca ∧ lk e' 3 = .slice b ky.length cb ∧ lk e' 4 = .int .i64 (si : Int) ∧ lk e' 5 = .pointer (some ⟨k5, 0, none⟩)) ∧ HS h6 h' ∧ ∃ k12 af cf a1 c1 a2 c2 a3 c3 a4 c4 cells, lk e' 12 = .pointer (some ⟨k12, 0, none⟩) ∧ h6 k12 = none ∧ h' k12 = some ⟨dJ (.slice af fs.length cf) at_ nd (.slice a1 nd.id.length c1) (.slice a2 nd.ky.length c2) (.slice a3 nd.pf.length c3) (.slice a4 nd.hs.length c4) same, 0, true, false⟩ ∧
      OWNC 10 h6 h' (.slice af fs.length cf) fs.length cells ∧ cells.all uJ = true ∧ (∀ (t : Nat) y, (fs.map (kJ M))[t]? = some y → RNd h' ((cells.drop (t * 10)).take 10) y) ∧ RNd h' (nd.cs (.slice a1 nd.id.length c1) (.slice a2 nd.ky.length c2) (.slice a3 nd.pf.length c3) (.slice a4 nd.hs.length c4)) nd) ?_ ?_
  · cases sp with
    | no =>
      refine qJ ?_; repeat' (first | ((first | (with_reducible apply qI) | with_reducible apply qD) <;> try simp only [qM, qB, qE, qG, qC, qA, qF, reduceIte, seval, Int.cast_ofNat_Int, qN, qO, qL, qZ, zA, zB, zT, zV, qH m56 qF2]))
      refine (c_findN N (x.hs S6) (ri.hs S6)).mono ?_
      rintro _ h7 ⟨s7, rfl⟩
      refine qJ ?_; repeat' (first | ((with_reducible apply qI) <;> try simp only [qM, qB, qE, qG, qC, qA, qF, reduceIte, seval, Int.cast_ofNat_Int, qN, qO, qL, qZ, zA, zB, zT, zV]))
      refine xQ fun k12 h8 m8 s8 f8 n8 => ?_
      simp only [dJ]
      refine qJ ?_; repeat' (first | ((with_reducible apply qI) <;> try simp only [qM, qB, qE, qG, qC, qA, qF, reduceIte, seval, Int.cast_ofNat_Int, qN, qO, qL, qZ, zA, zB, zT, zV]))
      refine wC m8 gO rfl (by decide) rfl rfl rfl fun h9 m9 f9 => ?_
      simp only [vcells] at m9
      refine qJ ?_; repeat' (first | ((with_reducible apply qI) <;> try simp only [qM, qB, qE, qG, qC, qA, qF, reduceIte, seval, Int.cast_ofNat_Int, qN, qO, qL, qZ, zA, zB, zT, zV]))
      exact ⟨s7.trans (s8.upd n8 f9), k12, none, 0, none, 0, none, 0, none, 0, none, 0, [], rfl, s7.none_of n8, m9, OWNC.nil _ _ _, rfl, fun t y h => by simp at h, none, 0, none, 0, none, 0, none, 0, rfl, RB.nil _, RB.nil _, RB.nil _, RB.nil _⟩
    | @way i e fs nd w =>
      refine qJ ?_; repeat' (first | ((first | (with_reducible apply qI) | with_reducible apply qD) <;> try simp only [qM, qB, qE, qG, qC, qA, qF, reduceIte, seval, Int.cast_ofNat_Int, qN, qO, qL, qZ, zA, zB, zT, zV, qH m56 qF2]))
      refine (c_find N (x.hs S6) (ri.hs S6) (by omega) w (by omega)).mono ?_
      rintro _ h7 ⟨s7, af, cf, a1, c1, a2, c2, a3, c3, a4, c4, rfl, ⟨cells, ow, hu, hel⟩, rn⟩
      refine qJ ?_; repeat' (first | ((with_reducible apply qI) <;> try simp only [qM, qB, qE, qG, qC, qA, qF, reduceIte, seval, Int.cast_ofNat_Int, qN, qO, qL, qZ, zA, zB, zT, zV]))
      refine xQ fun k12 h8 m8 s8 f8 n8 => ?_
      simp only [dJ]
      refine qJ ?_; repeat' (first | ((with_reducible apply qI) <;> try simp only [qM, qB, qE, qG, qC, qA, qF, reduceIte, seval, Int.cast_ofNat_Int, qN, qO, qL, qZ, zA, zB, zT, zV]))
      refine wC m8 gO rfl (by decide) rfl rfl rfl fun h9 m9 f9 => ?_
      simp only [vcells] at m9
      have s79 := s8.upd n8 f9
      refine qJ ?_; repeat' (first | ((with_reducible apply qI) <;> try simp only [qM, qB, qE, qG, qC, qA, qF, reduceIte, seval, Int.cast_ofNat_Int, qN, qO, qL, qZ, zA, zB, zT, zV]))
      exact ⟨s7.trans s79, k12, af, cf, a1, c1, a2, c2, a3, c3, a4, c4, cells, rfl, s7.none_of n8, m9, ow.hs s79, hu, fun t y h => (hel t y h).hs s79, rn.hs s79⟩
  rintro _ e' h7 ⟨rfl, ⟨q2, q3, q4, q5⟩, s7, k12, af, cf, a1, c1, a2, c2, a3, c3, a4, c4, cells, q12, n12, m12, ow, hu, hel, rn⟩
  rw [dH]
  refine pV [(2, .slice a id.length ca), (3, .slice b ky.length cb), (4, .int .i64 (si : Int)), (5, .pointer (some ⟨k5, 0, none⟩)), (12, .pointer (some ⟨k12, 0, none⟩))] (by simp [q2, q3, q4, q5, q12]) ?_
  clear q2 q3 q4 q5 q12
  have S7 := S6.trans s7
  have m57 := s7 _ _ m56
  have k12k : k12 ≠ k := fun q => by rw [q, (x.hs S6).obj] at n12; cases n12
  have k5k : k5 ≠ k := fun q => by rw [q, x.obj] at n5; cases n5
  have x7 := x.hs S7
  have hno : decide ((qE0 fs.length at_ same : Int) > 16384 - (M.length : Int)) = false := decide_eq_false (by
    unfold qE0
    split <;> omega)
  have ld7 := zQ (P := Tryz.prog) (t := 136) m12 gO rfl
  refine qJ ?_; repeat' (first | with_reducible apply qK | ((first | (with_reducible apply qI) | with_reducible refine zF zV xM (by kernel_rfl) ?_) <;> try simp only [qM, qB, qE, qG, qC, qA, qF, reduceIte, seval, Int.cast_ofNat_Int, qN, qO, qL, qZ, zA, zB, zT, zV, ld7, qH m57 qF2]))
  refine (c_needs N h7 (by omega) at_ nd _ _ _ _ rfl same).mono ?_
  rintro _ h8 ⟨s8, rfl⟩
  have m58 := s8 _ _ m57
  have m128 := s8 _ _ m12
  have ld8 := zQ (P := Tryz.prog) (t := 136) m128 gO rfl
  have x8 := x7.hs s8
  refine qJ ?_; repeat' (first | with_reducible apply qK | ((first | (with_reducible apply qI) | (with_reducible first | apply qD | apply qS | apply qP) | ((refine GTri.mono (c_Room _ x8) ?_); rintro _ _ ⟨rfl, hh9⟩; replace hh9 := hh9.symm; subst hh9)) <;> try simp only [qM, qB, qE, qG, qC, qA, qF, reduceIte, seval, Int.cast_ofNat_Int, qN, qO, qL, qZ, zA, zB, zT, zV, ld8, hno, qH m58 qF2]))
  have S8 := S7.trans s8
  refine (qC7 N h8 (ri.hs S8) rfl).mono ?_
  rintro _ h9 ⟨s9, ar, cr, rfl, rr, _⟩
  refine qJ ?_; repeat' (first | ((with_reducible apply qI) <;> try simp only [qM, qB, qE, qG, qC, qA, qF, reduceIte, seval, Int.cast_ofNat_Int, qN, qO, qL, qZ, zA, zB, zT, zV]))
  refine xQ fun k13 h10 m10 s10 f10 n10 => ?_
  refine qJ ?_; repeat' (first | ((with_reducible apply qI) <;> try simp only [qM, qB, qE, qG, qC, qA, qF, reduceIte, seval, Int.cast_ofNat_Int, qN, qO, qL, qZ, zA, zB, zT, zV]))
  refine zU m10 qV rfl (by simp) rfl rfl fun h11 m13 f11 => ?_
  simp only [List.set_cons_zero] at m13
  have s8b := s10.upd n10 f11
  have s811 : HS h8 h11 := s9.trans s8b
  have S11 := S8.trans s811
  have m511 := s811 _ _ m58
  have m1211 := s811 _ _ m128
  have x11 := x8.hs s811
  have rr11 := rr.hs s8b
  have n13h : h k13 = none := (S8.trans s9).none_of n10
  have k13k : k13 ≠ k := fun q => by rw [q, x.obj] at n13h; cases n13h
  refine qJ ?_; repeat' (first | with_reducible apply qK | ((first | (with_reducible apply qI) | with_reducible apply qD) <;> try simp only [qM, qB, qE, qG, qC, qA, qF, reduceIte, seval, Int.cast_ofNat_Int, qN, qO, qL, qZ, zA, zB, zT, zV, qH m511 qF2]))
  refine (c_Leaf N (s0.trans S11) t x11 (ri.hs S11) (rk.hs S11) hi hk hs (by omega)).mono ?_
  rintro _ h12 ⟨rfl, s12, fr12, v2, cs2, x12⟩
  refine qJ ?_; repeat' (first | ((with_reducible apply qI) <;> try simp only [qM, qB, qE, qG, qC, qA, qF, reduceIte, seval, Int.cast_ofNat_Int, qN, qO, qL, qZ, zA, zB, zT, zV]))
  refine xQ fun k14 h14 m14 s14 f14 n14 => ?_
  refine qJ ?_; repeat' (first | ((with_reducible apply qI) <;> try simp only [qM, qB, qE, qG, qC, qA, qF, reduceIte, seval, Int.cast_ofNat_Int, qN, qO, qL, qZ, zA, zB, zT, zV]))
  refine zU m14 zZ rfl (by simp) rfl rfl fun h15 m15 f15 => ?_
  simp only [List.set_cons_zero] at m15
  have s1215 : HS h12 h15 := s14.upd n14 f15
  have fr15 : FR 11 k h11 h15 := fr12.hs s1215
  have S015 := s12.trans s1215
  have x15 := x12.hs s1215
  have m1215 := fr15 _ _ m1211 (.inr ⟨k12k, by simp⟩)
  have m515 := fr15 _ _ m511 (.inr ⟨k5k, by simp⟩)
  have m1315 := fr15 _ _ m13 (.inr ⟨k13k, by simp⟩)
  have rr15 := rr11.fr fr15
  have rn15 := (rn.hs (s8.trans s811)).fr fr15
  simp only [dJ] at m1215
  simp only [qM, qB, qE, qG, qC, qA, qF, reduceIte, seval, Int.cast_ofNat_Int, qN, qO, zT]
  have n14h : h12 k14 = none := n14
  have n11 : ∀ {j B}, h11 j = some B → (j ≠ k → B.es ≠ 11 → j ≠ k14) := fun m n e q => by
    rw [← q] at n14
    rw [fr12 _ _ m (.inr ⟨n, e⟩)] at n14; cases n14
  have k14k : k14 ≠ k := fun q => by rw [q, x12.obj] at n14; cases n14
  have sb15 : HS h0 (jX k14 h15) := mN S015 (s12.none_of n14)
  refine qK ?_
  refine GW.mono (Q := fun x e' h' => x = .normal ∧ (lk e' 5 = .pointer (some ⟨k5, 0, none⟩) ∧ lk e' 12 = .pointer (some ⟨k12, 0, none⟩) ∧ lk e' 13 = .pointer (some ⟨k13, 0, none⟩) ∧ lk e' 14 = .pointer (some ⟨k14, 0, none⟩)) ∧ HS h0 h' ∧ FR 11 k (jX k14 h15) h' ∧ h' k14 = some ⟨[.int .i64 (S0.2 : Int)], 0, true, false⟩ ∧ ∃ v3 cs3, AA h0 h' k v3 cs3 S0.1) ?_ ?_
  · cases sp with
    | no =>
      have d : ((-1 : Int) != -1) = false := by decide
      refine qJ ?_; repeat' (first | with_reducible apply qK | ((first | (with_reducible apply qI) | (with_reducible first | apply qD | apply qS | apply qP)) <;> try simp only [qM, qB, qE, qG, qC, qA, qF, reduceIte, seval, Int.cast_ofNat_Int, qN, qO, qL, qZ, zA, zB, zT, zV, qH m1215 zZ, qH m1215 rY, d]))
      exact ⟨S015, FR.of (dP _ _), m15, v2, cs2, x15⟩
    | @way i e fs nd w =>
      have d : ((e : Int) != -1) = true := by simp
      have he := (List.getElem?_eq_some_iff.1 w.end.1).1
      by_cases hsame : (nd.lf && nd.id == id) = true
      · rw [hsame] at m1215
        have el : dE id ky si M e nd = (M ++ [wV id ky si], M.length) := by unfold dE; rw [if_pos hsame]
        rw [el]
        refine qJ ?_; repeat' (first | with_reducible apply qK | ((first | (with_reducible apply qI) | (with_reducible first | apply qD | apply qS | apply qP)) <;> try simp only [qM, qB, qE, qG, qC, qA, qF, reduceIte, seval, Int.cast_ofNat_Int, qN, qO, qL, qZ, zA, zB, zT, zV, qH m1215 zZ, qH m1215 rY, d]))
        exact ⟨S015, FR.of (dP _ _), m15, v2, cs2, x15⟩
      · have hsame' : (nd.lf && nd.id == id) = false := by simpa using hsame
        rw [hsame'] at m1215
        have el : dE id ky si M e nd = gP (qY id) (M ++ [wV id ky si]) M.length e nd := by unfold dE; rw [if_neg hsame]
        rw [el]
        have rn15' := rn15
        obtain ⟨_, _, _, _, _, _, _, _, ee, y1, y2, y3, y4⟩ := rn15'
        simp only [Nd.cs] at ee
        injection ee with _ ee
        injection ee with ea ee
        injection ee with _ ee
        injection ee with _ ee
        injection ee with _ ee
        injection ee with ec ee
        injection ea with ea1 _ ea2
        injection ec with ec1 _ ec2
        subst ea1; subst ea2; subst ec1; subst ec2
        have ld := zQ (P := Tryz.prog) (t := 136) m1215 gO rfl
        have ok := x.arr.ok.ok e nd w.end.1
        have hkl := vM id
        refine qJ ?_; repeat' (first | with_reducible apply qK | ((first | (with_reducible apply qI) | (with_reducible first | apply qD | apply qS)) <;> try simp only [qM, qB, qE, qG, qC, qA, qF, reduceIte, seval, Int.cast_ofNat_Int, qN, qO, qL, qZ, zA, zB, zT, zV, qH m1215 zZ, qH m1215 rY, qH m515 qF2, qH m1315 qV, qH m15 zZ, ld, d]))
        refine (c_part N S015 t x15 rr15 (by omega) (now := M.length) (e := e) (by simp) (by simp; omega) (by simp; omega) ok (.slice af fs.length cf) rfl false rn15 y1 y3).mono ?_
        rintro _ h16 ⟨rfl, s16, fr16, v3, cs3, x16⟩
        have m1416 := fr16 _ _ m15 (.inr ⟨k14k, by simp⟩)
        refine qJ ?_; repeat' (first | ((with_reducible apply qI) <;> try simp only [qM, qB, qE, qG, qC, qA, qF, reduceIte, seval, Int.cast_ofNat_Int, qN, qO, qL, qZ, zA, zB, zT, zV]))
        refine zU m1416 zZ rfl (by simp) rfl rfl fun h17 m17 f17 => ?_
        simp only [List.set_cons_zero] at m17
        have fr17 : FR 11 k (jX k14 h15) h17 := fun j B m q => by
          have hj : j ≠ k14 := fun z => by rw [z, lO] at m; cases m
          rw [f17 j hj]
          exact fr16 j B (dP _ _ j B m) q
        refine qJ ?_; repeat' (first | ((with_reducible apply qI) <;> try simp only [qM, qB, qE, qG, qC, qA, qF, reduceIte, seval, Int.cast_ofNat_Int, qN, qO, qL, qZ, zA, zB, zT, zV]))
        exact ⟨s16.upd (s12.none_of n14) f17, fr17, m17, v3, cs3, x16.upd m1416 rfl k14k.symm f17⟩
  rintro _ e' h16 ⟨rfl, ⟨q5, q12, q13, q14⟩, S016, fr16, m1416, v3, cs3, x16⟩
  rw [dH]
  refine pV [(5, .pointer (some ⟨k5, 0, none⟩)), (12, .pointer (some ⟨k12, 0, none⟩)), (13, .pointer (some ⟨k13, 0, none⟩)), (14, .pointer (some ⟨k14, 0, none⟩))] (by simp [q5, q12, q13, q14]) ?_
  clear q5 q12 q13 q14
  obtain ⟨⟨L0, eL0⟩, hS2, hS1, hfork⟩ := sp.facts ti hi
  have hid15 : ∀ j, j ≠ k14 → jX k14 h15 j = h15 j := dO h15
  have n5' : k5 ≠ k14 := n11 m511 k5k (by simp)
  have n12' : k12 ≠ k14 := n11 m1211 k12k (by simp)
  have n13' : k13 ≠ k14 := n11 m13 k13k (by simp)
  have m516 := fr16 _ _ ((hid15 _ n5').trans m515) (.inr ⟨k5k, by simp⟩)
  have m1216 := fr16 _ _ ((hid15 _ n12').trans m1215) (.inr ⟨k12k, by simp⟩)
  have m1316 := fr16 _ _ ((hid15 _ n13').trans m1315) (.inr ⟨k13k, by simp⟩)
  have rr16 := (rr15.hx m15 rfl (zE hid15)).fr fr16
  have hel16 : ∀ (t : Nat) y, (fs.map (kJ M))[t]? = some y → RNd h16 ((cells.drop (t * 10)).take 10) y := fun t y hy => ((((hel t y hy).hs (s8.trans s811)).fr fr15).hx m15 rfl (zE hid15)).fr fr16
  have xk15 : jX k14 h15 k = some ⟨[.int .i64 4, .int .i64 16384, v2, .slice none 0 0], 0, true, false⟩ := by rw [hid15 k k14k.symm]; exact x15.obj
  have ow16 : OWNC 10 h6 h16 (.slice af fs.length cf) fs.length cells := (((ow.hs (s8.trans s811)).fr fr15 x11.obj (by simp) (by decide)).by5 m15 hid15).fr fr16 xk15 (by simp) (by decide)
  refine qJ ?_; repeat' (first | with_reducible apply qK | ((first | (with_reducible apply qI) | with_reducible apply qD) <;> try simp only [qM, qB, qE, qG, qC, qA, qF, reduceIte, seval, Int.cast_ofNat_Int, qN, qO, qL, qZ, zA, zB, zT, zV, qH m1216 uF]))
  refine (c_BwdN N h16 af fs.length cf).mono ?_
  rintro _ h17 ⟨⟨kb, rfl, mb, nb⟩, s17⟩
  have m1417 := s17 _ _ m1416
  have hid17 : ∀ j, j ≠ k14 → jX k14 h17 j = h17 j := dO h17
  have nkb : kb ≠ k14 := fun q => by rw [q, m1416] at nb; cases nb
  have nkbk : kb ≠ k := fun q => by rw [q, x16.obj] at nb; cases nb
  have b5 := (hid17 _ n5').trans (s17 _ _ m516)
  have b13 := (hid17 _ n13').trans (s17 _ _ m1316)
  have bb := (hid17 _ nkb).trans mb
  have rrb := (rr16.hs s17).hx m1417 rfl (zE hid17)
  have owb := (ow16.hs s17).by5 m1417 hid17
  have helb : ∀ (t : Nat) y, (fs.map (kJ M))[t]? = some y → RNd (jX k14 h17) ((cells.drop (t * 10)).take 10) y := fun t y hy => ((hel16 t y hy).hs s17).hx m1417 rfl (zE hid17)
  have sbh : FR 11 k (jX k14 h17) h17 := FR.of (dP _ _)
  have xkb : jX k14 h17 k = some ⟨[.int .i64 4, .int .i64 16384, v3, .slice none 0 0], 0, true, false⟩ := by rw [hid17 k k14k.symm]; exact (x16.hs s17).obj
  have n14b : jX k14 h17 k14 = none := lO _ _
  have frb : FR 11 k h (jX k14 h17) := fun j B m q => by
    have hj14 : j ≠ k14 := fun z => by
      have := s811 _ _ (s8 _ _ (S7 j B m))
      have := fr12 j B this q
      rw [z, n14] at this; cases this
    have q2 := fr15 _ _ (s811 _ _ (s8 _ _ (S7 j B m))) q
    have q3 := fr16 _ _ ((hid15 _ hj14).trans q2) q
    exact (hid17 _ hj14).trans (s17 _ _ q3)
  generalize jX k14 h17 = hb at b5 b13 bb rrb owb helb sbh xkb n14b frb
  refine qJ ?_; repeat' (first | with_reducible apply qR | ((with_reducible apply qI) <;> try simp only [qM, qB, qE, qG, qC, qA, qF, reduceIte, seval, Int.cast_ofNat_Int, qN, qO, qL, qZ, zA, zB, zT, zV]))
  refine qU1 (gf := 131) (fb := [.pointer (some ⟨kb, 0, none⟩)]) (by simp [lk]) rfl fs.length
    (InsI M id S0 fs h0 hb k k14)
    (fun i => (.int .i64 (i : Int), .agg ((cells.drop (i * 10)).take 10).toArray)) ?_ (fun l' r' h2' hI y => c_bwdN1 N l' r' (hx := h6) (a := af) (c := cf) (by omega) (InsI M id S0 fs h0 hb k k14) hI (fun i h' hI => ?_) y) (fun i hi h18 hI => ?_) (fun h18 hI => ?_)
  · exact ⟨S0, by simp, S016.trans s17, sbh, m1417, hS2, by omega, ⟨L0, eL0⟩, v3, cs3, x16.hs s17⟩
  · obtain ⟨S, _, _, frS, _⟩ := hI
    exact ⟨frS _ _ bb (.inr ⟨nkbk, by simp⟩), owb.fr frS xkb (by simp) (by decide)⟩
  · obtain ⟨S, eS, s18, fr18, m18, hlt, hle, ⟨L, eL⟩, v18, cs18, x18⟩ := hI
    obtain ⟨p, hp⟩ := yO hi
    obtain ⟨y, hy, hst⟩ := hfork i p hp
    have hpM := (List.getElem?_eq_some_iff.1 hy).1
    have fi := ti.fork p y hy (vI hst).1
    have fil := fi.l
    have fir := fi.r
    have oky := x.arr.ok.ok p y hy
    have hpf := oky.pf
    have hdp : y.dp ≤ 8 * y.pf.length := by
      obtain ⟨jd, e1, e2⟩ := fi.pf
      rw [e1, wK]; omega
    have hML : M.length ≤ S.1.length := by rw [eL]; simp
    have enp : kJ S.1 p = y := yM (by rw [eL, List.getElem?_append_left hpM]; exact hy)
    have rn := (helb i y (by simp [hp, yM hy])).fr fr18
    obtain ⟨b1, d1, b2, d2, b3, d3, b4, d4, ee, q1, q2, q3, q4⟩ := rn
    simp only [ee, Nd.cs, yH]
    have m518 := fr18 _ _ b5 (.inr ⟨k5k, by simp⟩)
    have m1318 := fr18 _ _ b13 (.inr ⟨k13k, by simp⟩)
    have rr18 := rrb.fr fr18
    refine qJ ?_; repeat' (first | ((first | (with_reducible apply qI) | with_reducible apply qD) <;> try simp only [qM, qB, qE, qG, qC, qA, qF, reduceIte, seval, Int.cast_ofNat_Int, qN, qO, qL, qZ, zA, zB, zT, zV]))
    refine xQ fun k17 h19 m19 s19 f19 n19 => ?_
    refine qJ ?_; repeat' (first | ((with_reducible apply qI) <;> try simp only [qM, qB, qE, qG, qC, qA, qF, reduceIte, seval, Int.cast_ofNat_Int, qN, qO, qL, qZ, zA, zB, zT, zV]))
    refine wC m19 wB rfl (by decide) rfl rfl rfl fun h20 m20 f20 => ?_
    simp only [vcells] at m20
    have s1820 := s19.upd n19 f20
    have m1320 := s1820 _ _ m1318
    have m1420 := s1820 _ _ m18
    have rr20 := rr18.hs s1820
    have oyd := oky.dp
    cases hbt : (xI (qY id) y.dp == 1)
    · have hbq : (xI (qY id) y.dp = 1) = False := by simpa using hbt
      refine qJ ?_; repeat' (first | (with_reducible first | apply qK | apply qR) | ((first | (with_reducible apply qI) | (with_reducible first | apply qD | apply qS) | ((refine GTri.mono (kR _ _ rr20 y.dp (by omega)) ?_); rintro _ _ ⟨rfl, hh9⟩; replace hh9 := hh9.symm; subst hh9)) <;> try simp only [qM, qB, qE, qG, qC, qA, qF, reduceIte, seval, Int.cast_ofNat_Int, qN, qO, qL, qZ, zA, zB, zT, zV, hbt, qH m1320 qV, qH m20 zZ, qH m1420 zZ]))
      refine zU m20 zZ rfl (by simp) rfl rfl fun h21 m21 f21 => ?_
      simp only [List.set_cons_zero, List.set_cons_succ] at m21
      have S21 : HS h18 h21 := (s19.upd n19 f20).upd n19 f21
      have fr21 : FR 11 k hb h21 := fr18.new n19 (s19.upd n19 f20) f21
      have m1421 := S21 _ _ m18
      have m521 := S21 _ _ m518
      have x21 := x18.hs S21
      refine qJ ?_; repeat' (first | ((first | (with_reducible apply qI) | with_reducible apply qD) <;> try simp only [qM, qB, qE, qG, qC, qA, qF, reduceIte, seval, Int.cast_ofNat_Int, qN, qO, qL, qZ, zA, zB, zT, zV, qH m521 qF2, qH m21 zZ, qH m21 qV]))
      refine (rV N (s18.trans S21) t x21 (((q3.hs S21))) hpf (d := y.dp) (l := S.2) (r := y.r) hdp (by omega) (by omega) (by omega)).mono ?_
      rintro _ h22 ⟨rfl, s22, fr22, v22, cs22, x22⟩
      have m1422 := fr22 _ _ m1421 (.inr ⟨k14k, by simp⟩)
      refine qJ ?_; repeat' (first | ((with_reducible apply qI) <;> try simp only [qM, qB, qE, qG, qC, qA, qF, reduceIte, seval, Int.cast_ofNat_Int, qN, qO, qL, qZ, zA, zB, zT, zV]))
      refine zU m1422 zZ rfl (by simp) rfl rfl fun h23 m23 f23 => ?_
      simp only [List.set_cons_zero] at m23
      have n14h0 : h0 k14 = none := s12.none_of n14
      have fr23 : FR 11 k hb h23 := fun j B m q => by
        have hj : j ≠ k14 := fun z => by rw [z, n14b] at m; cases m
        rw [f23 j hj]
        exact fr22 j B (fr21 j B m q) q
      have eu : sQ (qY id) S p = (S.1 ++ [wW S.1 y.dp y.pf S.2 y.r], S.1.length) := by
        unfold sQ
        rw [enp]
        simp only [hbq, if_true, if_false]
      refine qJ ?_; repeat' (first | ((with_reducible apply qI) <;> try simp only [qM, qB, qE, qG, qC, qA, qF, reduceIte, seval, Int.cast_ofNat_Int, qN, qO, qL, qZ, zA, zB, zT, zV, zK5]))
      refine ⟨sQ (qY id) S p, by rw [eS]; exact (tL (M := M) hp).symm, s22.upd n14h0 f23, fr23, by rw [eu]; exact m23, by rw [eu]; simp, by rw [eu]; simp; omega, ⟨L ++ [wW S.1 y.dp y.pf S.2 y.r], by rw [eu, eL, List.append_assoc]⟩, v22, cs22, ?_⟩
      rw [eu]
      exact x22.upd m1422 rfl k14k.symm f23
    · have hbq : (xI (qY id) y.dp = 1) = True := by simpa using hbt
      refine qJ ?_; repeat' (first | (with_reducible first | apply qK | apply qR) | ((first | (with_reducible apply qI) | (with_reducible first | apply qD | apply qS) | ((refine GTri.mono (kR _ _ rr20 y.dp (by omega)) ?_); rintro _ _ ⟨rfl, hh9⟩; replace hh9 := hh9.symm; subst hh9)) <;> try simp only [qM, qB, qE, qG, qC, qA, qF, reduceIte, seval, Int.cast_ofNat_Int, qN, qO, qL, qZ, zA, zB, zT, zV, hbt, qH m1320 qV, qH m20 zZ, qH m1420 zZ]))
      refine zU m20 zZ rfl (by simp) rfl rfl fun h21 m21 f21 => ?_
      simp only [List.set_cons_zero, List.set_cons_succ] at m21
      have S21 : HS h18 h21 := (s19.upd n19 f20).upd n19 f21
      have fr21 : FR 11 k hb h21 := fr18.new n19 (s19.upd n19 f20) f21
      have m1421 := S21 _ _ m18
      have m521 := S21 _ _ m518
      have x21 := x18.hs S21
      refine qJ ?_; repeat' (first | ((first | (with_reducible apply qI) | with_reducible apply qD) <;> try simp only [qM, qB, qE, qG, qC, qA, qF, reduceIte, seval, Int.cast_ofNat_Int, qN, qO, qL, qZ, zA, zB, zT, zV, qH m521 qF2, qH m21 zZ, qH m21 qV]))
      refine (rV N (s18.trans S21) t x21 (((q3.hs S21))) hpf (d := y.dp) (l := y.l) (r := S.2) hdp (by omega) (by omega) (by omega)).mono ?_
      rintro _ h22 ⟨rfl, s22, fr22, v22, cs22, x22⟩
      have m1422 := fr22 _ _ m1421 (.inr ⟨k14k, by simp⟩)
      refine qJ ?_; repeat' (first | ((with_reducible apply qI) <;> try simp only [qM, qB, qE, qG, qC, qA, qF, reduceIte, seval, Int.cast_ofNat_Int, qN, qO, qL, qZ, zA, zB, zT, zV]))
      refine zU m1422 zZ rfl (by simp) rfl rfl fun h23 m23 f23 => ?_
      simp only [List.set_cons_zero] at m23
      have n14h0 : h0 k14 = none := s12.none_of n14
      have fr23 : FR 11 k hb h23 := fun j B m q => by
        have hj : j ≠ k14 := fun z => by rw [z, n14b] at m; cases m
        rw [f23 j hj]
        exact fr22 j B (fr21 j B m q) q
      have eu : sQ (qY id) S p = (S.1 ++ [wW S.1 y.dp y.pf y.l S.2], S.1.length) := by
        unfold sQ
        rw [enp]
        simp only [hbq, if_true, if_false]
      refine qJ ?_; repeat' (first | ((with_reducible apply qI) <;> try simp only [qM, qB, qE, qG, qC, qA, qF, reduceIte, seval, Int.cast_ofNat_Int, qN, qO, qL, qZ, zA, zB, zT, zV, zK5]))
      refine ⟨sQ (qY id) S p, by rw [eS]; exact (tL (M := M) hp).symm, s22.upd n14h0 f23, fr23, by rw [eu]; exact m23, by rw [eu]; simp, by rw [eu]; simp; omega, ⟨L ++ [wW S.1 y.dp y.pf y.l S.2], by rw [eu, eL, List.append_assoc]⟩, v22, cs22, ?_⟩
      rw [eu]
      exact x22.upd m1422 rfl k14k.symm f23
  · obtain ⟨S, eS, s18, fr18, m18, hlt, hle, ⟨L, eL⟩, v18, cs18, x18⟩ := hI
    rw [List.drop_zero] at eS
    refine qJ ?_; repeat' (first | with_reducible apply qK | ((first | (with_reducible apply qI) | (with_reducible first | apply qD | apply qQ)) <;> try simp only [qM, qB, qE, qG, qC, qA, qF, reduceIte, seval, Int.cast_ofNat_Int, qN, qO, qL, qZ, zA, zB, zT, zV, qH m18 zZ]))
    subst eS
    exact ⟨rfl, s18, fun j B m q => fr18 j B (frb j B m q) q, v18, cs18, x18⟩
end
theorem yD : type_of% (And.intro pQ (And.intro zR (And.intro uK (And.intro vW (And.intro xW (And.intro kC (And.intro dD (And.intro wS rs92)))))))) := And.intro pQ (And.intro zR (And.intro uK (And.intro vW (And.intro xW (And.intro kC (And.intro dD (And.intro wS rs92)))))))
theorem vZ : type_of% (And.intro zR (And.intro uK (And.intro qJ8 (And.intro vW (And.intro xW (And.intro kC (And.intro dD (And.intro wS (And.intro zD1 rs133))))))))) := And.intro zR (And.intro uK (And.intro qJ8 (And.intro vW (And.intro xW (And.intro kC (And.intro dD (And.intro wS (And.intro zD1 rs133))))))))
theorem vK : type_of% (And.intro pQ (And.intro zR (And.intro uK (And.intro qJ8 (And.intro vW (And.intro xW (And.intro kC (And.intro dD (And.intro wS rs90))))))))) := And.intro pQ (And.intro zR (And.intro uK (And.intro qJ8 (And.intro vW (And.intro xW (And.intro kC (And.intro dD (And.intro wS rs90))))))))
def ivs (l : List Nat) : List Value := l.map fun (p : Nat) => .int .i64 (p : Int)
theorem ivs_u8 (l : List Nat) : (ivs l).all uJ = true := by simp only [ivs, List.all_map]; exact List.all_eq_true.2 (fun _ _ => rfl)
section
variable {h0 h h' : GH} {k : Nat} {v : Value} {cs : List Value} {M : List Nd}
theorem qY1 (N : Nat) (x : AB h0 h k v cs M) {id ky : List UInt8} {si : Nat} {rt at_ : Int} {fs : List Nat} {nd : Nd} {same : Bool} {S0 : List Nd × Nat} (sp : Spot M id ky si rt fs at_ nd same S0) :
    GTri Tryz.prog N 54 [.pointer (some ⟨k, 0, none⟩), .int .i64 at_] h fun u h' => HS h h' ∧ ∃ cn, u = .tuple #[.agg cn.toArray, .bool (!(at_ == -1))] ∧ RNd h' cn nd := by
  cases sp with
  | no =>
    refine (qI2 N x (.inl (by omega))).mono ?_
    rintro _ h1 ⟨s1, rfl⟩
    exact ⟨s1, zN, rfl, none, 0, none, 0, none, 0, none, 0, rfl, RB.nil _, RB.nil _, RB.nil _, RB.nil _⟩
  | @way i e fs nd w =>
    refine (qE7 N x w.end.1).mono ?_
    rintro _ h1 ⟨s1, cn, rfl, r1⟩
    have : ((e : Int) == -1) = false := by first | (simp; done) | (simp; omega)
    exact ⟨s1, cn, by rw [this]; rfl, r1⟩
theorem qY2 (N : Nat) (x : AB h0 h k v cs M) {id ky : List UInt8} {si : Nat} {rt at_ : Int} {fs : List Nat} {nd : Nd} {same : Bool} {S0 : List Nd × Nat} (sp : Spot M id ky si rt fs at_ nd same S0) :
    GTri Tryz.prog N 54 [.pointer (some ⟨k, 0, none⟩), .int .i64 rt] h fun u h' => HS h h' ∧ ∃ cn y, u = .tuple #[.agg cn.toArray, .bool (!(rt == -1))] ∧ RNd h' cn y := by
  cases sp with
  | no =>
    refine (qI2 N x (.inl (by omega))).mono ?_
    rintro _ h1 ⟨s1, rfl⟩
    exact ⟨s1, zN, ⟨false, [], [], 0, 0, [], 0, 0, 0, []⟩, rfl, none, 0, none, 0, none, 0, none, 0, rfl, RB.nil _, RB.nil _, RB.nil _, RB.nil _⟩
  | @way i e fs nd w =>
    obtain ⟨y, hy⟩ : ∃ y, M[i]? = some y := by
      cases w with
      | stop h1 _ => exact ⟨_, h1⟩
      | go h1 _ _ => exact ⟨_, h1⟩
    refine (qE7 N x hy).mono ?_
    rintro _ h1 ⟨s1, cn, rfl, r1⟩
    have : ((i : Int) == -1) = false := by first | (simp; done) | (simp; omega)
    exact ⟨s1, cn, y, by rw [this]; rfl, r1⟩
theorem zG4 (N : Nat) (x : AB h0 h k v cs M) {a : Option Addr} {c : Nat} {id ky : List UInt8} {si : Nat} {rt at_ : Int} {fs : List Nat} {nd : Nd} {same : Bool} {S0 : List Nd × Nat} (sp : Spot M id ky si rt fs at_ nd same S0) (hfs : fs.length ≤ 8 * (qY id).length)
    (rr : RB h (.slice a (qY id).length c) (qY id)) :
    GTri Tryz.prog N 92 [.pointer (some ⟨k, 0, none⟩), .int .i64 rt, .slice a (qY id).length c] h fun u h' => HS h h' ∧ ∃ af cf, u = .tuple #[.slice af fs.length cf, .int .i64 at_] ∧ OWNC 1 h h' (.slice af fs.length cf) fs.length (ivs fs) := by
  have hkl := vM id
  have w8 : IntKind.i64.wrap (8 * ((qY id).length : Int)) = 8 * ((qY id).length : Int) := by rw [wrap64 (by omega) (by omega)]
  have w9 : IntKind.i64.wrap (8 * ((qY id).length : Int) + 1) = 8 * ((qY id).length : Int) + 1 := by rw [wrap64 (by omega) (by omega)]
  refine xN Tryz.func92 rfl gf92 ok92 (by simp [Tryz.ntmps92]) ?_
  refine qJ ?_; repeat' (first | (with_reducible first | apply qK | apply qR) | ((first | (with_reducible apply qI) | with_reducible apply qD) <;> try simp only [qM, qB, qE, qG, qC, qA, qF, reduceIte, seval, Int.cast_ofNat_Int, qN, qO, yD, w8, w9]))
  cases sp with
  | no =>
    refine xS [0, 2, 16] (fun (j : Nat) => [(8, .slice none 0 0), (9, .int .i64 (-1)), (17, .int .i64 0)]) (fun q j h' => q = 0 ∧ h' = h) 0 0 (by simp [lk]) ⟨rfl, rfl⟩ ?_
    rintro _ _ _ ⟨rfl, rfl⟩
    have d : decide ((0 : Int) < 8 * ((qY id).length : Int) + 1) = true := decide_eq_true (by omega)
    refine qJ ?_; repeat' (first | (with_reducible first | apply qK | apply qR) | ((first | (with_reducible apply qI) | (with_reducible first | apply qD | apply qS | apply qP)) <;> try simp only [qM, qB, qE, qG, qC, qA, qF, reduceIte, seval, Int.cast_ofNat_Int, qN, qO, yD, d]))
    refine (qI2 N x (.inl (by omega))).mono ?_
    rintro _ h1 ⟨s1, rfl⟩
    simp only [zN]
    refine qJ ?_; repeat' (first | ((with_reducible apply qI) <;> try simp only [qM, qB, qE, qG, qC, qA, qF, reduceIte, seval, Int.cast_ofNat_Int, qN, qO, yD]))
    refine xQ fun k11 h11 m11 s11 f11 n11 => ?_
    refine qJ ?_; repeat' (first | ((with_reducible apply qI) <;> try simp only [qM, qB, qE, qG, qC, qA, qF, reduceIte, seval, Int.cast_ofNat_Int, qN, qO, yD]))
    refine wC m11 wB rfl (by decide) rfl rfl rfl fun h12 m12 f12 => ?_
    refine qJ ?_; repeat' (first | with_reducible apply qK | ((first | (with_reducible apply qI) | (with_reducible first | apply qD | apply qS | apply qQ)) <;> try simp only [qM, qB, qE, qG, qC, qA, qF, reduceIte, seval, Int.cast_ofNat_Int, qN, qO, yD]))
    exact ⟨s1.trans (s11.upd n11 f12), none, 0, rfl, OWNC.nil _ _ _⟩
  | @way i e fs nd w =>
    obtain ⟨w0, wf⟩ := w.at
    obtain ⟨we, ws⟩ := w.end
    refine xS [0, 2, 16] (fun (s : Nat × Option Addr × Nat × Nat) => [(8, .slice s.2.1 s.1 s.2.2.1), (9, .int .i64 (s.2.2.2 : Int)), (17, .int .i64 (s.1 : Int))])
      (fun q s h' => fs.length - s.1 = q ∧ s.1 ≤ fs.length ∧ HS h h' ∧ OWNC 1 h h' (.slice s.2.1 s.1 s.2.2.1) s.1 (ivs (fs.take s.1)) ∧ (fs ++ [e])[s.1]? = some s.2.2.2) fs.length (0, none, 0, i) (by simp [lk]) ⟨rfl, by simp, HS.refl _, OWNC.nil _ _ _, w0⟩ ?_
    rintro _ ⟨j, af, cf, p⟩ h10 ⟨rfl, hj, s10, ow, hp⟩
    simp only at hj ow hp
    have hpM : ∃ y, M[p]? = some y ∧ (j < fs.length → fs[j]? = some p ∧ uW (qY id) y = false) ∧ (j = fs.length → e = p ∧ nd = y) := by
      by_cases hjl : j < fs.length
      · rw [List.getElem?_append_left hjl] at hp
        obtain ⟨y, q1, q2, _⟩ := wf j p hp
        exact ⟨y, q1, fun _ => ⟨hp, q2⟩, fun q => by omega⟩
      · have : j = fs.length := by omega
        subst this
        rw [List.getElem?_append_right (by omega), Nat.sub_self] at hp
        cases hp
        exact ⟨nd, we, fun q => by omega, fun _ => ⟨rfl, rfl⟩⟩
    obtain ⟨y, hy, yg, ye⟩ := hpM
    have x10 := x.hs s10
    have oky := x10.arr.ok.ok p y hy
    have hpf := oky.pf
    have hdp := oky.dp
    have d : decide ((j : Int) < 8 * ((qY id).length : Int) + 1) = true := decide_eq_true (by omega)
    have wi : IntKind.i64.wrap ((j : Int) + 1) = ((j + 1 : Nat) : Int) := by rw [wrap64 (by omega) (by omega)]; omega
    refine qJ ?_; repeat' (first | (with_reducible first | apply qK | apply qR) | ((first | (with_reducible apply qI) | (with_reducible first | apply qD | apply qS | apply qP)) <;> try simp only [qM, qB, qE, qG, qC, qA, qF, reduceIte, seval, Int.cast_ofNat_Int, qN, qO, yD, d]))
    refine (qE7 N x10 hy).mono ?_
    rintro _ h11 ⟨s11, cn, rfl, r11⟩
    obtain ⟨a1, c1, a2, c2, a3, c3, a4, c4, rfl, r1, r2, r3, r4⟩ := r11
    refine qJ ?_; repeat' (first | ((with_reducible apply qI) <;> try simp only [qM, qB, qE, qG, qC, qA, qF, reduceIte, seval, Int.cast_ofNat_Int, qN, qO, yD]))
    refine xQ fun k12 h12 m12 s12 f12 n12 => ?_
    refine qJ ?_; repeat' (first | ((with_reducible apply qI) <;> try simp only [qM, qB, qE, qG, qC, qA, qF, reduceIte, seval, Int.cast_ofNat_Int, qN, qO, yD]))
    refine vO m12 wB rfl (by decide) rfl rfl rfl fun h13 m13 f13 => ?_
    simp only [Nd.cs] at m13
    have S13 := s11.trans (s12.upd n12 f13)
    have q3 := r3.hs (s12.upd n12 f13)
    have rb13 := (rr.hs s10).hs S13
    by_cases hjl : j < fs.length
    case neg =>
      obtain ⟨rfl, rfl⟩ := ye (by omega)
      obtain rfl : j = fs.length := by omega
      rw [List.take_of_length_le (Nat.le_refl _)] at ow
      cases hlf : nd.lf
      case true =>
        rw [hlf] at m13
        refine qJ ?_; repeat' (first | with_reducible apply qK | ((first | (with_reducible apply qI) | (with_reducible first | apply qD | apply qS | apply qP | apply qQ)) <;> try simp only [qM, qB, qE, qG, qC, qA, qF, reduceIte, seval, Int.cast_ofNat_Int, qN, qO, yD, qH m13 rY, qH m13 qV, qH m13 zZ, wi]))
        exact ⟨s10.trans S13, af, cf, rfl, ow.hs S13⟩
      have hnb : dF (qY id) nd.pf (nd.dp : Int) = false := by
        unfold uW at ws
        rw [hlf] at ws
        simpa using ws
      rw [hlf] at m13
      refine qJ ?_; repeat' (first | with_reducible apply qK | ((first | (with_reducible apply qI) | (with_reducible first | apply qD | apply qS | apply qP)) <;> try simp only [qM, qB, qE, qG, qC, qA, qF, reduceIte, seval, Int.cast_ofNat_Int, qN, qO, yD, qH m13 rY, qH m13 qV, qH m13 zZ]))
      refine (qN8 N h13 rb13 q3 (by omega) (by omega) nd.dp (WalkArith.wf_i64 (by omega))).mono ?_
      rintro _ h14 ⟨rfl, s14⟩
      refine qJ ?_; repeat' (first | with_reducible apply qK | ((first | (with_reducible apply qI) | (with_reducible first | apply qD | apply qS | apply qQ)) <;> try simp only [qM, qB, qE, qG, qC, qA, qF, reduceIte, seval, Int.cast_ofNat_Int, qN, qO, yD, hnb]))
      exact ⟨(s10.trans S13).trans s14, af, cf, rfl, (ow.hs S13).hs s14⟩
    obtain ⟨hfj, hst⟩ := yg hjl
    obtain ⟨hlf, hbg⟩ := vI hst
    rw [hlf] at m13
    obtain ⟨y', hy', _, hkid⟩ := wf j p hfj
    rw [hy] at hy'
    cases hy'
    refine qJ ?_; repeat' (first | with_reducible apply qK | ((first | (with_reducible apply qI) | (with_reducible first | apply qD | apply qS | apply qP)) <;> try simp only [qM, qB, qE, qG, qC, qA, qF, reduceIte, seval, Int.cast_ofNat_Int, qN, qO, yD, qH m13 rY, qH m13 qV, qH m13 zZ]))
    refine (qN8 N h13 rb13 q3 (by omega) (by omega) y.dp (WalkArith.wf_i64 (by omega))).mono ?_
    rintro _ h14 ⟨rfl, s14⟩
    have m14 := s14 _ _ m13
    have S14 := S13.trans s14
    have rb14 := rb13.hs s14
    refine qJ ?_; repeat' (first | with_reducible apply qK | ((first | (with_reducible apply qI) | (with_reducible first | apply qD | apply qS | apply qP)) <;> try simp only [qM, qB, qE, qG, qC, qA, qF, reduceIte, seval, Int.cast_ofNat_Int, qN, qO, yD, hbg]))
    refine rB el127 rfl rfl (by decide) (by decide) rfl fun k15 h15 b15 s15 f15 n15 => ?_
    have S15 := S14.trans s15
    refine qJ ?_; repeat' (first | ((with_reducible apply qI) <;> try simp only [qM, qB, qE, qG, qC, qA, qF, reduceIte, seval, Int.cast_ofNat_Int, qN, qO, yD]))
    refine jD el127 Tryz.underlying127 rfl (s10.trans S15) (ow.hs S15) b15 rfl rfl (by omega) (by simp only [maxLen]; omega) fun v16 h16 s16 fr16 o16 => ?_
    obtain ⟨a16, c16, rfl⟩ := o16.form
    have m16 := sN fr16 (s15 _ _ m14) (by simp)
    have hu : (ivs (fs.take j)).all uJ = true := ivs_u8 _
    have rb16 := zF9 fr16 hu (rb14.hs s15)
    have et : ivs (fs.take j) ++ vcells (.int .i64 (p : Int)) = ivs (fs.take (j + 1)) := by
      have h1 := List.getElem?_eq_some_iff.1 hfj
      rw [List.take_succ_eq_append_getElem h1.1, h1.2]
      simp [ivs, vcells]
    rw [et] at o16
    have ek : kX (qY id) y = if xI (qY id) y.dp = 1 then y.r else y.l := rfl
    cases hbt : (xI (qY id) y.dp == 1)
    · have hbq : ¬ (xI (qY id) y.dp = 1) := by simpa using hbt
      rw [if_neg hbq] at ek
      rw [ek] at hkid
      refine qJ ?_; repeat' (first | with_reducible apply qK | ((first | (with_reducible apply qI) | (with_reducible first | apply qD | apply qS) | ((refine GTri.mono (dS _ _ rb16 y.dp (by omega)) ?_); rintro _ _ ⟨rfl, hh9⟩; replace hh9 := hh9.symm; subst hh9)) <;> try simp only [qM, qB, qE, qG, qC, qA, qF, reduceIte, seval, Int.cast_ofNat_Int, qN, qO, yD, hbt, qH m16 zZ, wi]))
      exact ⟨_, (j + 1, a16, c16, y.l), by simp only; omega, (by simp only [List.forall_mem_cons, List.not_mem_nil, false_implies, implies_true, List.map, List.cons_append, List.nil_append, lk, Nat.reduceEqDiff, reduceIte, and_true, true_and]), rfl, by simp only; omega, s16, o16, hkid⟩
    · have hbq : xI (qY id) y.dp = 1 := by simpa using hbt
      rw [if_pos hbq] at ek
      rw [ek] at hkid
      refine qJ ?_; repeat' (first | with_reducible apply qK | ((first | (with_reducible apply qI) | (with_reducible first | apply qD | apply qS) | ((refine GTri.mono (dS _ _ rb16 y.dp (by omega)) ?_); rintro _ _ ⟨rfl, hh9⟩; replace hh9 := hh9.symm; subst hh9)) <;> try simp only [qM, qB, qE, qG, qC, qA, qF, reduceIte, seval, Int.cast_ofNat_Int, qN, qO, yD, hbt, qH m16 zZ, wi]))
      exact ⟨_, (j + 1, a16, c16, y.r), by simp only; omega, (by simp only [List.forall_mem_cons, List.not_mem_nil, false_implies, implies_true, List.map, List.cons_append, List.nil_append, lk, Nat.reduceEqDiff, reduceIte, and_true, true_and]), rfl, by simp only; omega, s16, o16, hkid⟩
theorem Spot.noa {id ky : List UInt8} {si : Nat} {rt at_ : Int} {fs : List Nat} {nd : Nd} {same : Bool} {S0 : List Nd × Nat} (sp : Spot M id ky si rt fs at_ nd same S0) : (at_ == -1) = (rt == -1) ∧ ((at_ == -1) = true → same = false) ∧ ((at_ == -1) = false → same = (nd.lf && nd.id == id) ∧ 0 ≤ at_) := by
  cases sp with
  | no => exact ⟨rfl, fun _ => rfl, fun q => by simp at q⟩
  | @way i e fs nd w =>
    have h1 : ((i : Int) == -1) = false := by first | (simp; done) | (simp; omega)
    have h2 : ((e : Int) == -1) = false := by first | (simp; done) | (simp; omega)
    exact ⟨by rw [h1, h2], (fun q => by rw [h2] at q; cases q), (fun _ => ⟨rfl, by omega⟩)⟩
theorem c_rGet (N : Nat) (x : AB h0 h k v cs M) {a : Option Addr} {c : Nat} {id ky : List UInt8} {si : Nat} {rt at_ : Int} {fs : List Nat} {nd : Nd} {same : Bool} {S0 : List Nd × Nat} (sp : Spot M id ky si rt fs at_ nd same S0) (hfs : fs.length ≤ 8 * (qY id).length)
    (ri : RB h (.slice a id.length c) id) :
    GTri Tryz.prog N 133 [.pointer (some ⟨k, 0, none⟩), .int .i64 rt, .slice a id.length c] h fun u h' => HS h h' ∧ ∃ y z w, u = .tuple #[.agg #[y, z, w], .bool same] ∧ [y, z, w].all zG = true := by
  obtain ⟨_, sn, sy⟩ := sp.noa
  refine xN Tryz.func133 rfl gf133 ok133 (by simp [Tryz.ntmps133]) ?_
  repeat' (first | with_reducible apply qK | (with_reducible apply qD <;> try simp only [qM, qB, qE, qG, qC, qA, qF, reduceIte, seval, Int.cast_ofNat_Int, qN, qO, vZ]))
  refine xQ fun k6 h6 m6 s6 f6 n6 => ?_
  refine qJ ?_; repeat' (first | with_reducible apply qK | ((first | (with_reducible apply qI) | with_reducible apply qD) <;> try simp only [qM, qB, qE, qG, qC, qA, qF, reduceIte, seval, Int.cast_ofNat_Int, qN, qO, vZ]))
  refine (qI3 N h6 (ri.hs s6) rfl).mono ?_
  rintro _ h7 ⟨s7, ar, cr, rfl, rr, _⟩
  have S7 := s6.trans s7
  refine qJ ?_; repeat' (first | ((with_reducible apply qI) <;> try simp only [qM, qB, qE, qG, qC, qA, qF, reduceIte, seval, Int.cast_ofNat_Int, qN, qO, vZ]))
  refine (zG4 N (x.hs S7) sp hfs rr).mono ?_
  rintro _ h8 ⟨s8, af, cf, rfl, ow⟩
  have S8 := S7.trans s8
  refine qJ ?_; repeat' (first | with_reducible apply qK | ((first | (with_reducible apply qI) | with_reducible apply qD) <;> try simp only [qM, qB, qE, qG, qC, qA, qF, reduceIte, seval, Int.cast_ofNat_Int, qN, qO, vZ]))
  refine (qY1 N (x.hs S8) sp).mono ?_
  rintro _ h9 ⟨s9, cn, rfl, r9⟩
  obtain ⟨a1, c1, a2, c2, a3, c3, a4, c4, rfl, r1, r2, r3, r4⟩ := r9
  refine qJ ?_; repeat' (first | ((with_reducible apply qI) <;> try simp only [qM, qB, qE, qG, qC, qA, qF, reduceIte, seval, Int.cast_ofNat_Int, qN, qO, vZ]))
  refine xQ fun k10 h10 m10 s10 f10 n10 => ?_
  refine qJ ?_; repeat' (first | ((with_reducible apply qI) <;> try simp only [qM, qB, qE, qG, qC, qA, qF, reduceIte, seval, Int.cast_ofNat_Int, qN, qO, vZ]))
  refine vO m10 wB rfl (by decide) rfl rfl rfl fun h11 m11 f11 => ?_
  simp only [Nd.cs] at m11
  have s911 := s10.upd n10 f11
  have S11 := (S8.trans s9).trans s911
  have m611 := s911 _ _ (s9 _ _ (s8 _ _ (s7 _ _ m6)))
  have n6h : h k6 = none := n6
  have cv1 := (r1.hs s911).conv Tryz.underlying22 Tryz.underlying5 Tryz.underlying9
  have cv2 := (ri.hs S11).conv Tryz.underlying22 Tryz.underlying5 Tryz.underlying9
  cases hn : (at_ == -1)
  case true =>
    rw [sn hn]
    refine qJ ?_; repeat' (first | with_reducible apply qK | ((first | (with_reducible apply qI) | (with_reducible first | apply qD | apply qS)) <;> try simp only [qM, qB, qE, qG, qC, qA, qF, reduceIte, seval, Int.cast_ofNat_Int, qN, qO, vZ, Bool.not_true, xC, xU, vC, Shape.pl, List.all_cons, List.all_nil, zG]))
    refine wC m611 gX rfl (by decide) rfl rfl rfl fun h12 m12 f12 => ?_
    simp only [vcells] at m12
    have ld := zQ (P := Tryz.prog) (t := 31) m12 gX rfl
    refine qJ ?_; repeat' (first | ((first | (with_reducible apply qI) | with_reducible apply qQ) <;> try simp only [qM, qB, qE, qG, qC, qA, qF, reduceIte, seval, Int.cast_ofNat_Int, qN, qO, vZ, fF, ld]))
    exact ⟨S11.upd n6h f12, _, _, _, rfl, rfl⟩
  rw [(sy hn).1]
  cases hlf : nd.lf
  case false =>
    rw [hlf] at m11
    refine qJ ?_; repeat' (first | with_reducible apply qK | ((first | (with_reducible apply qI) | (with_reducible first | apply qD | apply qS)) <;> try simp only [qM, qB, qE, qG, qC, qA, qF, reduceIte, seval, Int.cast_ofNat_Int, qN, qO, vZ, qH m11 rY, Bool.not_false, xC, xU, vC, Shape.pl, List.all_cons, List.all_nil, zG]))
    refine wC m611 gX rfl (by decide) rfl rfl rfl fun h12 m12 f12 => ?_
    simp only [vcells] at m12
    have ld := zQ (P := Tryz.prog) (t := 31) m12 gX rfl
    refine qJ ?_; repeat' (first | ((first | (with_reducible apply qI) | with_reducible apply qQ) <;> try simp only [qM, qB, qE, qG, qC, qA, qF, reduceIte, seval, Int.cast_ofNat_Int, qN, qO, vZ, fF, ld]))
    exact ⟨S11.upd n6h f12, _, _, _, rfl, rfl⟩
  rw [hlf] at m11
  cases hid : (nd.id == id)
  case false =>
    refine qJ ?_; repeat' (first | with_reducible apply qK | ((first | (with_reducible apply qI) | (with_reducible first | apply qD | apply qS)) <;> try simp only [qM, qB, qE, qG, qC, qA, qF, reduceIte, seval, Int.cast_ofNat_Int, qN, qO, vZ, qH m11 rY, qH m11 qV, Bool.not_false, cv1, cv2, dT, hid, xC, xU, vC, Shape.pl, List.all_cons, List.all_nil, zG]))
    refine wC m611 gX rfl (by decide) rfl rfl rfl fun h12 m12 f12 => ?_
    simp only [vcells] at m12
    have ld := zQ (P := Tryz.prog) (t := 31) m12 gX rfl
    refine qJ ?_; repeat' (first | ((first | (with_reducible apply qI) | with_reducible apply qQ) <;> try simp only [qM, qB, qE, qG, qC, qA, qF, reduceIte, seval, Int.cast_ofNat_Int, qN, qO, vZ, fF, ld]))
    exact ⟨S11.upd n6h f12, _, _, _, rfl, rfl⟩
  refine qJ ?_; repeat' (first | with_reducible apply qK | ((first | (with_reducible apply qI) | (with_reducible first | apply qD | apply qS | apply qP)) <;> try simp only [qM, qB, qE, qG, qC, qA, qF, reduceIte, seval, Int.cast_ofNat_Int, qN, qO, vZ, qH m11 rY, qH m11 qV, qH m11 zZ, Bool.not_false, cv1, cv2, dT, hid, xC, xU, vC, Shape.pl, List.all_cons, List.all_nil, zG]))
  refine wC m611 gX rfl (by decide) rfl rfl rfl fun h12 m12 f12 => ?_
  simp only [vcells] at m12
  have ld := zQ (P := Tryz.prog) (t := 31) m12 gX rfl
  refine qJ ?_; repeat' (first | ((first | (with_reducible apply qI) | with_reducible apply qQ) <;> try simp only [qM, qB, qE, qG, qC, qA, qF, reduceIte, seval, Int.cast_ofNat_Int, qN, qO, vZ, fF, ld]))
  exact ⟨S11.upd n6h f12, _, _, _, rfl, rfl⟩
theorem c_rNeeds (N : Nat) (x : AB h0 h k v cs M) {a : Option Addr} {c : Nat} {id ky : List UInt8} {si : Nat} {rt at_ : Int} {fs : List Nat} {nd : Nd} {same : Bool} {S0 : List Nd × Nat} (sp : Spot M id ky si rt fs at_ nd same S0) (hfs : fs.length ≤ 8 * (qY id).length)
    (ri : RB h (.slice a id.length c) id) :
    GTri Tryz.prog N 90 [.pointer (some ⟨k, 0, none⟩), .int .i64 rt, .slice a id.length c] h fun u h' => HS h h' ∧ ∃ n : Nat, u = .int .i64 (n : Int) ∧ n ≤ fs.length + 2 := by
  obtain ⟨ea, sn, sy⟩ := sp.noa
  have hkl := vM id
  have w1 : IntKind.i64.wrap ((fs.length : Int) + 1) = ((fs.length + 1 : Nat) : Int) := by rw [wrap64 (by omega) (by omega)]; omega
  have w2 : IntKind.i64.wrap ((fs.length : Int) + 2) = ((fs.length + 2 : Nat) : Int) := by rw [wrap64 (by omega) (by omega)]; omega
  refine xN Tryz.func90 rfl gf90 ok90 (by simp [Tryz.ntmps90]) ?_
  refine qJ ?_; repeat' (first | with_reducible apply qK | ((first | (with_reducible apply qI) | with_reducible apply qD) <;> try simp only [qM, qB, qE, qG, qC, qA, qF, reduceIte, seval, Int.cast_ofNat_Int, qN, qO, vK]))
  refine (qY2 N x sp).mono ?_
  rintro _ h1 ⟨s1, cn, y, rfl, r1⟩
  have l1 := r1.len
  refine qJ ?_; repeat' (first | ((with_reducible apply qI) <;> try simp only [qM, qB, qE, qG, qC, qA, qF, reduceIte, seval, Int.cast_ofNat_Int, qN, qO, vK]))
  refine xQ fun k7 h7 m7 s7 f7 n7 => ?_
  refine qJ ?_; repeat' (first | ((with_reducible apply qI) <;> try simp only [qM, qB, qE, qG, qC, qA, qF, reduceIte, seval, Int.cast_ofNat_Int, qN, qO, vK]))
  refine vO m7 wB rfl (by decide) l1.1 rfl l1.2.1 fun h8 m8 f8 => ?_
  have S8 := s1.trans (s7.upd n7 f8)
  have cond : ∀ b, (rt == -1) = b → (if (rt != -1) = true then !(!b) else false) = false := fun b hb => by unfold bne; rw [hb]; cases b <;> rfl
  have hstep : (rt != -1) = !(rt == -1) := rfl
  cases hr : (rt == -1)
  all_goals
    rw [hr] at hstep
    simp only [Bool.not_true, Bool.not_false] at hstep
  · refine qJ ?_; repeat' (first | with_reducible apply qK | ((first | (with_reducible apply qI) | (with_reducible first | apply qD | apply qS | apply qP)) <;> try simp only [qM, qB, qE, qG, qC, qA, qF, reduceIte, seval, Int.cast_ofNat_Int, qN, qO, vK, hstep, hr, Bool.not_false, Bool.not_true]))
    refine (qI3 N h8 (ri.hs S8) rfl).mono ?_
    rintro _ h9 ⟨s9, ar, cr, rfl, rr, _⟩
    have S9 := S8.trans s9
    refine qJ ?_; repeat' (first | ((with_reducible apply qI) <;> try simp only [qM, qB, qE, qG, qC, qA, qF, reduceIte, seval, Int.cast_ofNat_Int, qN, qO, vK]))
    refine (zG4 N (x.hs S9) sp hfs rr).mono ?_
    rintro _ h10 ⟨s10, af, cf, rfl, ow⟩
    have S10 := S9.trans s10
    refine qJ ?_; repeat' (first | with_reducible apply qK | ((first | (with_reducible apply qI) | with_reducible apply qD) <;> try simp only [qM, qB, qE, qG, qC, qA, qF, reduceIte, seval, Int.cast_ofNat_Int, qN, qO, vK]))
    refine (c_rGet N (x.hs S10) sp hfs (ri.hs S10)).mono ?_
    rintro _ h11 ⟨s11, y1, y2, y3, rfl, hc⟩
    refine qJ ?_; repeat' (first | ((with_reducible apply qI) <;> try simp only [qM, qB, qE, qG, qC, qA, qF, reduceIte, seval, Int.cast_ofNat_Int, qN, qO, vK]))
    refine xQ fun k12 h12 m12 s12 f12 n12 => ?_
    refine qJ ?_; repeat' (first | ((with_reducible apply qI) <;> try simp only [qM, qB, qE, qG, qC, qA, qF, reduceIte, seval, Int.cast_ofNat_Int, qN, qO, vK]))
    refine wC m12 gX rfl (by decide) rfl rfl (by simpa [vcells] using hc) fun h13 m13 f13 => ?_
    have S13 := (S10.trans s11).trans (s12.upd n12 f13)
    cases hsm : same
    case true =>
      refine qJ ?_; repeat' (first | with_reducible apply qK | ((first | (with_reducible apply qI) | (with_reducible first | apply qD | apply qS | apply qQ)) <;> try simp only [qM, qB, qE, qG, qC, qA, qF, reduceIte, seval, Int.cast_ofNat_Int, qN, qO, vK, w1, w2]))
      exact ⟨S13, fs.length + 1, rfl, by omega⟩
    by_cases ha : at_ < 0
    · have da : decide (at_ < 0) = true := decide_eq_true ha
      refine qJ ?_; repeat' (first | with_reducible apply qK | ((first | (with_reducible apply qI) | (with_reducible first | apply qD | apply qS | apply qQ)) <;> try simp only [qM, qB, qE, qG, qC, qA, qF, reduceIte, seval, Int.cast_ofNat_Int, qN, qO, vK, da, w1, w2]))
      exact ⟨S13, fs.length + 1, rfl, by omega⟩
    · have da : decide (at_ < 0) = false := decide_eq_false ha
      refine qJ ?_; repeat' (first | with_reducible apply qK | ((first | (with_reducible apply qI) | (with_reducible first | apply qD | apply qS | apply qP | apply qQ)) <;> try simp only [qM, qB, qE, qG, qC, qA, qF, reduceIte, seval, Int.cast_ofNat_Int, qN, qO, vK, da, w1, w2]))
      exact ⟨S13, fs.length + 2, rfl, by omega⟩
  · refine qJ ?_; repeat' (first | with_reducible apply qK | ((first | (with_reducible apply qI) | (with_reducible first | apply qD | apply qS | apply qP)) <;> try simp only [qM, qB, qE, qG, qC, qA, qF, reduceIte, seval, Int.cast_ofNat_Int, qN, qO, vK, hstep, hr, Bool.not_false, Bool.not_true]))
    refine (qI3 N h8 (ri.hs S8) rfl).mono ?_
    rintro _ h9 ⟨s9, ar, cr, rfl, rr, _⟩
    have S9 := S8.trans s9
    refine qJ ?_; repeat' (first | ((with_reducible apply qI) <;> try simp only [qM, qB, qE, qG, qC, qA, qF, reduceIte, seval, Int.cast_ofNat_Int, qN, qO, vK]))
    refine (zG4 N (x.hs S9) sp hfs rr).mono ?_
    rintro _ h10 ⟨s10, af, cf, rfl, ow⟩
    have S10 := S9.trans s10
    refine qJ ?_; repeat' (first | with_reducible apply qK | ((first | (with_reducible apply qI) | with_reducible apply qD) <;> try simp only [qM, qB, qE, qG, qC, qA, qF, reduceIte, seval, Int.cast_ofNat_Int, qN, qO, vK]))
    refine (c_rGet N (x.hs S10) sp hfs (ri.hs S10)).mono ?_
    rintro _ h11 ⟨s11, y1, y2, y3, rfl, hc⟩
    refine qJ ?_; repeat' (first | ((with_reducible apply qI) <;> try simp only [qM, qB, qE, qG, qC, qA, qF, reduceIte, seval, Int.cast_ofNat_Int, qN, qO, vK]))
    refine xQ fun k12 h12 m12 s12 f12 n12 => ?_
    refine qJ ?_; repeat' (first | ((with_reducible apply qI) <;> try simp only [qM, qB, qE, qG, qC, qA, qF, reduceIte, seval, Int.cast_ofNat_Int, qN, qO, vK]))
    refine wC m12 gX rfl (by decide) rfl rfl (by simpa [vcells] using hc) fun h13 m13 f13 => ?_
    have S13 := (S10.trans s11).trans (s12.upd n12 f13)
    cases hsm : same
    case true =>
      refine qJ ?_; repeat' (first | with_reducible apply qK | ((first | (with_reducible apply qI) | (with_reducible first | apply qD | apply qS | apply qQ)) <;> try simp only [qM, qB, qE, qG, qC, qA, qF, reduceIte, seval, Int.cast_ofNat_Int, qN, qO, vK, w1, w2]))
      exact ⟨S13, fs.length + 1, rfl, by omega⟩
    by_cases ha : at_ < 0
    · have da : decide (at_ < 0) = true := decide_eq_true ha
      refine qJ ?_; repeat' (first | with_reducible apply qK | ((first | (with_reducible apply qI) | (with_reducible first | apply qD | apply qS | apply qQ)) <;> try simp only [qM, qB, qE, qG, qC, qA, qF, reduceIte, seval, Int.cast_ofNat_Int, qN, qO, vK, da, w1, w2]))
      exact ⟨S13, fs.length + 1, rfl, by omega⟩
    · have da : decide (at_ < 0) = false := decide_eq_false ha
      refine qJ ?_; repeat' (first | with_reducible apply qK | ((first | (with_reducible apply qI) | (with_reducible first | apply qD | apply qS | apply qP | apply qQ)) <;> try simp only [qM, qB, qE, qG, qC, qA, qF, reduceIte, seval, Int.cast_ofNat_Int, qN, qO, vK, da, w1, w2]))
      exact ⟨S13, fs.length + 2, rfl, by omega⟩
end
theorem sZ : type_of% (And.intro zR (And.intro uK (And.intro xW (And.intro dD (And.intro wS rs94))))) := And.intro zR (And.intro uK (And.intro xW (And.intro dD (And.intro wS rs94))))
theorem xF : type_of% (And.intro pQ (And.intro uE (And.intro zR (And.intro uK (And.intro vW (And.intro xW (And.intro kC (And.intro dD (And.intro wS (And.intro zD1 rs48)))))))))) := And.intro pQ (And.intro uE (And.intro zR (And.intro uK (And.intro vW (And.intro xW (And.intro kC (And.intro dD (And.intro wS (And.intro zD1 rs48)))))))))
def xK : Nat → List (Nat × List Nat) × List Nat
  | 4 => ([(0, []), (1, []), (2, []), (4, []), (5, []), (6, []), (7, []), (8, []), (3, [7]), (9, [7]), (10, []), (11, [])], [0, 0, 0, 7, 0, 16, 48, 112, 0, 271, 1023, 2047])
  | _ => ([], [])
section
variable {h0 h h' : GH} {k : Nat} {v : Value} {cs : List Value} {M : List Nd}
theorem zG7 (N : Nat) (s0 : HS h0 h) (x : AB h0 h k v cs M) {a : Option Addr} {c : Nat} {row : List UInt8} (rr : RB h (.slice a row.length c) row) (hrow : row.length ≤ 60000) {d now e : Nat} (hd : d ≤ 8 * row.length) (hnow : now < M.length) (he : e < M.length) (hm : M.length < 10000) :
    GTri Tryz.prog N 94 [.pointer (some ⟨k, 0, none⟩), .int .i64 (d : Int), .slice a row.length c, .int .i64 (now : Int), .int .i64 (e : Int)] h fun u h' =>
      u = .int .i64 (M.length : Int) ∧ HS h0 h' ∧ FR 10 k h h' ∧ ∃ v' cs', AB h0 h' k v' cs' (M ++ [wW M d row (if xI row d = 1 then e else now) (if xI row d = 1 then now else e)]) := by
  refine xN Tryz.func94 rfl gf94 ok94 (by simp [Tryz.ntmps94]) ?_
  cases hbt : (xI row d == 1)
  · have hbq : (xI row d = 1) = False := by simpa using hbt
    simp only [hbq, if_true, if_false]
    refine qJ ?_; repeat' (first | with_reducible apply qK | ((first | (with_reducible apply qI) | (with_reducible first | apply qD | apply qS | apply qP) | ((refine GTri.mono (dS _ _ rr d (by omega)) ?_); rintro _ _ ⟨rfl, hh9⟩; replace hh9 := hh9.symm; subst hh9)) <;> try simp only [qM, qB, qE, qG, qC, qA, qF, reduceIte, seval, Int.cast_ofNat_Int, qN, qO, sZ, hbt]))
    refine (pK N s0 x rr hrow (d := d) (l := now) (r := e) hd (by omega) (by omega) hm).mono ?_
    rintro _ h13 ⟨rfl, s13, fr13, v', cs', x13⟩
    refine qJ ?_; repeat' (first | with_reducible apply qK | ((first | (with_reducible apply qI) | (with_reducible first | apply qD | apply qQ)) <;> try simp only [qM, qB, qE, qG, qC, qA, qF, reduceIte, seval, Int.cast_ofNat_Int, qN, qO, sZ]))
    exact ⟨s13, fr13, v', cs', x13⟩
  · have hbq : (xI row d = 1) = True := by simpa using hbt
    simp only [hbq, if_true, if_false]
    refine qJ ?_; repeat' (first | with_reducible apply qK | ((first | (with_reducible apply qI) | (with_reducible first | apply qD | apply qS) | ((refine GTri.mono (dS _ _ rr d (by omega)) ?_); rintro _ _ ⟨rfl, hh9⟩; replace hh9 := hh9.symm; subst hh9)) <;> try simp only [qM, qB, qE, qG, qC, qA, qF, reduceIte, seval, Int.cast_ofNat_Int, qN, qO, sZ, hbt]))
    refine (pK N s0 x rr hrow (d := d) (l := e) (r := now) hd (by omega) (by omega) hm).mono ?_
    rintro _ h13 ⟨rfl, s13, fr13, v', cs', x13⟩
    refine qJ ?_; repeat' (first | with_reducible apply qK | ((first | (with_reducible apply qI) | (with_reducible first | apply qD | apply qQ)) <;> try simp only [qM, qB, qE, qG, qC, qA, qF, reduceIte, seval, Int.cast_ofNat_Int, qN, qO, sZ]))
    exact ⟨s13, fr13, v', cs', x13⟩
def RinI (M : List Nd) (id : List UInt8) (S0 : List Nd × Nat) (fs : List Nat) (h0 hb : GH) (k : Nat) (i : Nat) (S : List Nd × Nat) (h' : GH) : Prop :=
  S = (fs.drop i).reverse.foldl (sQ (qY id)) S0 ∧ HS h0 h' ∧ FR 10 k hb h' ∧ S.2 < S.1.length ∧ S.1.length + i ≤ S0.1.length + fs.length ∧ (∃ L, S.1 = M ++ L) ∧ ∃ v cs, AB h0 h' k v cs S.1
theorem zK1 (N : Nat) (s0 : HS h0 h) (x : AB h0 h k v cs M) (ti : TI M) {a b : Option Addr} {ca cb : Nat} {id ky : List UInt8} (ri : RB h (.slice a id.length ca) id) (rk : RB h (.slice b ky.length cb) ky) (hi : id.length ≤ 255) (hk : ky.length ≤ 60000) {si : Nat} (hs : si ≤ 1000000)
    {rt at_ : Int} {fs : List Nat} {nd : Nd} {same : Bool} {S0 : List Nd × Nat} (sp : Spot M id ky si rt fs at_ nd same S0) (hm : M.length + 2 + fs.length ≤ 9000) (hfs : fs.length ≤ 8 * (qY id).length) :
    GTri Tryz.prog N 48 [.pointer (some ⟨k, 0, none⟩), .int .i64 rt, .slice a id.length ca, .slice b ky.length cb, .int .i64 (si : Int)] h fun u h' => u = .tuple #[.int .i64 ((fs.reverse.foldl (sQ (qY id)) S0).2 : Int), .int .i64 0] ∧ HS h0 h' ∧ FR 10 k h h' ∧ ∃ v' cs', AB h0 h' k v' cs' (fs.reverse.foldl (sQ (qY id)) S0).1 := by
  obtain ⟨ea, sn, sy⟩ := sp.noa
  obtain ⟨⟨L0, eL0⟩, hS2, hS1, hfork⟩ := sp.facts ti hi
  have hkl := vM id
  have d1 : decide ((si : Int) < 0) = false := decide_eq_false (by omega)
  have d2 : decide ((id.length : Int) > 255) = false := decide_eq_false (by omega)
  have d3 : decide ((ky.length : Int) > 65535) = false := decide_eq_false (by omega)
  have wr : IntKind.i64.wrap (16384 - (M.length : Int)) = 16384 - (M.length : Int) := by rw [wrap64 (by omega) (by omega)]
  refine xN Tryz.func48 rfl gf48 ok48 (by simp [Tryz.ntmps48]) ?_
  refine qJ ?_; repeat' (first | with_reducible apply qK | ((first | (with_reducible apply qI) | with_reducible apply qD) <;> try simp only [qM, qB, qE, qG, qC, qA, qF, reduceIte, seval, Int.cast_ofNat_Int, qN, qO, qL, qZ, zA, zB, xF, xK]))
  refine (qY2 N x sp).mono ?_
  rintro _ h1 ⟨s1, cn, y, rfl, r1⟩
  have l1 := r1.len
  refine qJ ?_; repeat' (first | ((with_reducible apply qI) <;> try simp only [qM, qB, qE, qG, qC, qA, qF, reduceIte, seval, Int.cast_ofNat_Int, qN, qO, qL, qZ, zA, zB, xF, xK]))
  refine xQ fun k12 h2 m2 s2 f2 n2 => ?_
  refine qJ ?_; repeat' (first | ((with_reducible apply qI) <;> try simp only [qM, qB, qE, qG, qC, qA, qF, reduceIte, seval, Int.cast_ofNat_Int, qN, qO, qL, qZ, zA, zB, xF, xK]))
  refine vO m2 wB rfl (by decide) l1.1 rfl l1.2.1 fun h3 m3 f3 => ?_
  have S3 := s1.trans (s2.upd n2 f3)
  simp only [qM, qB, qE, qG, qC, qA, qF, reduceIte, seval, Int.cast_ofNat_Int, qN, qO, xF]
  refine qK ?_
  refine GW.mono (Q := fun x e' h' => x = .normal ∧ HS h3 h' ∧ lk e' 0 = .pointer (some ⟨k, 0, none⟩) ∧ lk e' 1 = .int .i64 rt ∧ lk e' 2 = .slice a id.length ca ∧ lk e' 3 = .slice b ky.length cb ∧ lk e' 4 = .int .i64 (si : Int)) ?_ ?_
  · have hstep : (rt != -1) = !(rt == -1) := rfl
    cases hr : (rt == -1)
    all_goals
      rw [hr] at hstep
      simp only [Bool.not_true, Bool.not_false] at hstep
    · refine qJ ?_; repeat' (first | with_reducible apply qK | ((first | (with_reducible apply qI) | (with_reducible first | apply qD | apply qS | apply qP)) <;> try simp only [qM, qB, qE, qG, qC, qA, qF, reduceIte, seval, Int.cast_ofNat_Int, qN, qO, qL, qZ, zA, zB, xF, xK, hstep, hr, d1, d2, d3, Bool.not_false, Bool.not_true]))
      exact HS.refl _
    · refine qJ ?_; repeat' (first | with_reducible apply qK | ((first | (with_reducible apply qI) | (with_reducible first | apply qD | apply qS | apply qP)) <;> try simp only [qM, qB, qE, qG, qC, qA, qF, reduceIte, seval, Int.cast_ofNat_Int, qN, qO, qL, qZ, zA, zB, xF, xK, hstep, hr, d1, d2, d3, Bool.not_false, Bool.not_true]))
      exact HS.refl _
  rintro _ e' h4 ⟨rfl, s4, q0, q1, q2, q3, q4⟩
  rw [dH]
  refine pV [(0, .pointer (some ⟨k, 0, none⟩)), (1, .int .i64 rt), (2, .slice a id.length ca), (3, .slice b ky.length cb), (4, .int .i64 (si : Int))] (by simp [q0, q1, q2, q3, q4]) ?_
  clear q0 q1 q2 q3 q4
  have S4 := S3.trans s4
  have ho4 := (x.hs S4).obj
  refine qJ ?_; repeat' (first | with_reducible apply qK | ((first | (with_reducible apply qI) | with_reducible refine zF xK xM (by kernel_rfl) ?_) <;> try simp only [qM, qB, qE, qG, qC, qA, qF, reduceIte, seval, Int.cast_ofNat_Int, qN, qO, qL, qZ, zA, zB, xF, xK, gNil, qH ho4 zZ]))
  refine (c_rNeeds N (x.hs S4) sp hfs (ri.hs S4)).mono ?_
  rintro _ h5 ⟨s5, n, rfl, hn⟩
  have S5 := S4.trans s5
  have x5 := x.hs S5
  have ho5 := x5.obj
  have dn : decide ((n : Int) > 16384 - (M.length : Int)) = false := decide_eq_false (by omega)
  refine qJ ?_; repeat' (first | with_reducible apply qK | ((first | (with_reducible apply qI) | (with_reducible first | apply qD | apply qS | apply qP) | ((refine GTri.mono (zG8 _ x5) ?_); rintro _ _ ⟨rfl, hh9⟩; replace hh9 := hh9.symm; subst hh9)) <;> try simp only [qM, qB, qE, qG, qC, qA, qF, reduceIte, seval, Int.cast_ofNat_Int, qN, qO, qL, qZ, zA, zB, xF, xK, gNil, qH ho5 zZ, wr, dn]))
  refine (qI3 N h5 (ri.hs S5) rfl).mono ?_
  rintro _ h6 ⟨s6, ar, cr, rfl, rr, _⟩
  have S6 := S5.trans s6
  refine qJ ?_; repeat' (first | with_reducible apply qK | ((first | (with_reducible apply qI) | with_reducible apply qD) <;> try simp only [qM, qB, qE, qG, qC, qA, qF, reduceIte, seval, Int.cast_ofNat_Int, qN, qO, qL, qZ, zA, zB, xF, xK]))
  refine (zG4 N (x.hs S6) sp hfs rr).mono ?_
  rintro _ h7 ⟨s7, af, cf, rfl, ow⟩
  have S7 := S6.trans s7
  refine qJ ?_; repeat' (first | with_reducible apply qK | ((first | (with_reducible apply qI) | with_reducible apply qD) <;> try simp only [qM, qB, qE, qG, qC, qA, qF, reduceIte, seval, Int.cast_ofNat_Int, qN, qO, qL, qZ, zA, zB, xF, xK]))
  refine (qY1 N (x.hs S7) sp).mono ?_
  rintro _ h8 ⟨s8, cn8, rfl, r8⟩
  obtain ⟨a1, c1, a2, c2, a3, c3, a4, c4, rfl, y1, y2, y3, y4⟩ := r8
  refine qJ ?_; repeat' (first | ((with_reducible apply qI) <;> try simp only [qM, qB, qE, qG, qC, qA, qF, reduceIte, seval, Int.cast_ofNat_Int, qN, qO, qL, qZ, zA, zB, xF, xK]))
  refine xQ fun k17 h9 m9 s9 f9 n9 => ?_
  refine qJ ?_; repeat' (first | ((with_reducible apply qI) <;> try simp only [qM, qB, qE, qG, qC, qA, qF, reduceIte, seval, Int.cast_ofNat_Int, qN, qO, qL, qZ, zA, zB, xF, xK]))
  refine vO m9 wB rfl (by decide) rfl rfl rfl fun h10 m10 f10 => ?_
  simp only [Nd.cs] at m10
  have s810 := s9.upd n9 f10
  have S10 := (S7.trans s8).trans s810
  have x10 := x.hs S10
  have n17h : h k17 = none := (S7.trans s8).none_of n9
  have k17k : k17 ≠ k := fun q => by rw [q, x.obj] at n17h; cases n17h
  refine qJ ?_; repeat' (first | with_reducible apply qK | ((first | (with_reducible apply qI) | with_reducible apply qD) <;> try simp only [qM, qB, qE, qG, qC, qA, qF, reduceIte, seval, Int.cast_ofNat_Int, qN, qO, qL, qZ, zA, zB, xF, xK]))
  refine (c_rLeaf N (s0.trans S10) x10 (ri.hs S10) (rk.hs S10) hi hk hs (by omega)).mono ?_
  rintro _ h11 ⟨rfl, s11, fr11, v2, cs2, x11⟩
  have m11 := fr11 _ _ m10 (.inr ⟨k17k, by simp⟩)
  have z : ∀ {v l}, RB h8 v l → RB h11 v l := fun r => (r.hs s810).fr fr11
  have z1 := z y1
  have z3 := z y3
  have ri11 := (ri.hs S10).fr fr11
  have rr11 := z ((rr.hs s7).hs s8)
  have ow11 : OWNC 1 h6 h11 (.slice af fs.length cf) fs.length (ivs fs) := ((ow.hs s8).hs s810).fr fr11 x10.obj (by simp) (by decide)
  have cv1 := z1.conv Tryz.underlying22 Tryz.underlying5 Tryz.underlying9
  have cv2 := ri11.conv Tryz.underlying22 Tryz.underlying5 Tryz.underlying9
  simp only [qM, qB, qE, qG, qC, qA, qF, reduceIte, seval, Int.cast_ofNat_Int, qN, qO, xF]
  refine qK ?_
  refine GW.mono (Q := fun x e' h' => x = .normal ∧ (lk e' 0 = .pointer (some ⟨k, 0, none⟩) ∧ lk e' 14 = .slice ar (qY id).length cr ∧ lk e' 15 = .slice af fs.length cf ∧ lk e' 19 = .int .i64 (S0.2 : Int)) ∧ HS h0 h' ∧ FR 10 k h11 h' ∧ ∃ v3 cs3, AB h0 h' k v3 cs3 S0.1) ?_ ?_
  · cases sp with
    | no =>
      refine qJ ?_; repeat' (first | with_reducible apply qK | ((first | (with_reducible apply qI) | (with_reducible first | apply qD | apply qS | apply qP)) <;> try simp only [qM, qB, qE, qG, qC, qA, qF, reduceIte, seval, Int.cast_ofNat_Int, qN, qO, qL, qZ, zA, zB, xF, xK, Bool.not_true]))
      exact ⟨s11, FR.of (HS.refl _), v2, cs2, x11⟩
    | @way i e fs nd w =>
      have d : ((e : Int) == -1) = false := by first | (simp; done) | (simp; omega)
      have he := (List.getElem?_eq_some_iff.1 w.end.1).1
      have okn := x.arr.ok.ok e nd w.end.1
      have okd := okn.id
      have hle := qE1 (qY id) (jE nd)
      have hkn := vM nd.id
      cases hlf : nd.lf
      case false =>
        rw [hlf] at m11
        have el : dE id ky si M e nd = gP (qY id) (M ++ [wV id ky si]) M.length e nd := by unfold dE; rw [hlf]; rfl
        have ey : jE nd = nd.pf := by unfold jE; rw [hlf]; rfl
        rw [el]
        unfold gP
        rw [ey] at hle ⊢
        refine qJ ?_; repeat' (first | with_reducible apply qK | ((first | (with_reducible apply qI) | (with_reducible first | apply qD | apply qS | apply qP) | ((refine GTri.mono (qB0 _ _ rr11 z3 rfl rfl (by omega)) ?_); rintro _ _ ⟨rfl, hh9⟩; replace hh9 := hh9.symm; subst hh9)) <;> try simp only [qM, qB, qE, qG, qC, qA, qF, reduceIte, seval, Int.cast_ofNat_Int, qN, qO, qL, qZ, zA, zB, xF, xK, d, qH m11 rY, qH m11 qV, Bool.not_false]))
        refine (zG7 N s11 x11 rr11 (by omega) (d := uB (qY id) nd.pf) (now := M.length) (e := e) (by omega) (by simp) (by simp; omega) (by simp; omega)).mono ?_
        rintro _ h12 ⟨rfl, s12, fr12, v3, cs3, x12⟩
        refine qJ ?_; repeat' (first | ((with_reducible apply qI) <;> try simp only [qM, qB, qE, qG, qC, qA, qF, reduceIte, seval, Int.cast_ofNat_Int, qN, qO, qL, qZ, zA, zB, xF, xK]))
        exact ⟨s12, fr12, v3, cs3, x12⟩
      rw [hlf] at m11
      have ey : jE nd = qY nd.id := by unfold jE; rw [hlf]; rfl
      cases hid : (nd.id == id)
      case true =>
        have el : dE id ky si M e nd = (M ++ [wV id ky si], M.length) := by unfold dE; rw [hlf, hid]; rfl
        rw [el]
        refine qJ ?_; repeat' (first | with_reducible apply qK | ((first | (with_reducible apply qI) | (with_reducible first | apply qD | apply qS | apply qP)) <;> try simp only [qM, qB, qE, qG, qC, qA, qF, reduceIte, seval, Int.cast_ofNat_Int, qN, qO, qL, qZ, zA, zB, xF, xK, d, qH m11 rY, qH m11 qV, cv1, cv2, dT, hid, Bool.not_false]))
        exact ⟨s11, FR.of (HS.refl _), v2, cs2, x11⟩
      have el : dE id ky si M e nd = gP (qY id) (M ++ [wV id ky si]) M.length e nd := by unfold dE; rw [hlf, hid]; rfl
      rw [el]
      unfold gP
      rw [ey] at hle ⊢
      refine qJ ?_; repeat' (first | with_reducible apply qK | ((first | (with_reducible apply qI) | (with_reducible first | apply qD | apply qS)) <;> try simp only [qM, qB, qE, qG, qC, qA, qF, reduceIte, seval, Int.cast_ofNat_Int, qN, qO, qL, qZ, zA, zB, xF, xK, d, qH m11 rY, qH m11 qV, cv1, cv2, dT, hid, Bool.not_false]))
      refine (qI3 N h11 z1 rfl).mono ?_
      rintro _ h12 ⟨s12, ak, ck, rfl, rk12, _⟩
      refine qJ ?_; repeat' (first | ((first | (with_reducible apply qI) | with_reducible apply qD | ((refine GTri.mono (qB0 _ _ (rr11.hs s12) rk12 rfl rfl (by omega)) ?_); rintro _ _ ⟨rfl, hh9⟩; replace hh9 := hh9.symm; subst hh9)) <;> try simp only [qM, qB, qE, qG, qC, qA, qF, reduceIte, seval, Int.cast_ofNat_Int, qN, qO, qL, qZ, zA, zB, xF, xK, d, qH m11 rY, qH m11 qV, Bool.not_false]))
      refine (zG7 N (s11.trans s12) (x11.hs s12) (rr11.hs s12) (by omega) (d := uB (qY id) (qY nd.id)) (now := M.length) (e := e) (by omega) (by simp) (by simp; omega) (by simp; omega)).mono ?_
      rintro _ h13 ⟨rfl, s13, fr13, v3, cs3, x13⟩
      refine qJ ?_; repeat' (first | ((with_reducible apply qI) <;> try simp only [qM, qB, qE, qG, qC, qA, qF, reduceIte, seval, Int.cast_ofNat_Int, qN, qO, qL, qZ, zA, zB, xF, xK]))
      exact ⟨s13, (FR.of s12).trans fr13, v3, cs3, x13⟩
  rintro _ e' h12 ⟨rfl, ⟨q0, q14, q15, q19⟩, S12, fr12, v3, cs3, x12⟩
  rw [dH]
  refine pV [(0, .pointer (some ⟨k, 0, none⟩)), (14, .slice ar (qY id).length cr), (15, .slice af fs.length cf), (19, .int .i64 (S0.2 : Int))] (by simp [q0, q14, q15, q19]) ?_
  clear q0 q14 q15 q19
  have w0 : IntKind.i64.wrap ((fs.length : Int) - 1) = (fs.length : Int) - 1 := by rw [wrap64 (by omega) (by omega)]
  refine qJ ?_; repeat' (first | (with_reducible first | apply qK | apply qR) | ((first | (with_reducible apply qI) | with_reducible apply qD) <;> try simp only [qM, qB, qE, qG, qC, qA, qF, reduceIte, seval, Int.cast_ofNat_Int, qN, qO, qL, qZ, zA, zB, xF, xK, w0]))
  refine xS [0, 10, 11, 14, 15] (fun (s : Nat × (List Nd × Nat)) => [(19, .int .i64 (s.2.2 : Int)), (22, .int .i64 ((s.1 : Int) - 1))])
    (fun q s h' => s.1 = q ∧ s.1 ≤ fs.length ∧ RinI M id S0 fs h0 h12 k s.1 s.2 h') fs.length (fs.length, S0) (by simp [lk]) ⟨rfl, Nat.le_refl _, by simp, S12, FR.of (HS.refl _), hS2, by simp only; omega, ⟨L0, eL0⟩, v3, cs3, x12⟩ ?_
  rintro _ ⟨i, S⟩ h13 ⟨rfl, hil, eS, s13, fr13, hlt, hle, ⟨L, eL⟩, v13, cs13, x13⟩
  simp only at hil eS hlt hle eL x13
  have ow13 : OWNC 1 h6 h13 (.slice af fs.length cf) fs.length (ivs fs) := (ow11.fr fr12 x11.obj (by simp) (by decide)).fr fr13 x12.obj (by simp) (by decide)
  have rr13 := (rr11.fr fr12).fr fr13
  by_cases hi0 : i = 0
  · subst hi0
    have dd : decide ((((0 : Nat) : Int) - 1) ≥ 0) = false := decide_eq_false (by omega)
    refine qJ ?_; repeat' (first | with_reducible apply qK | ((first | (with_reducible apply qI) | (with_reducible first | apply qD | apply qS | apply xX | apply qQ)) <;> try simp only [qM, qB, qE, qG, qC, qA, qF, reduceIte, seval, Int.cast_ofNat_Int, qN, qO, qL, qZ, zA, zB, xF, xK, dd]))
    rw [List.drop_zero] at eS
    subst eS
    have frh : FR 10 k h h11 := (FR.of S10).trans fr11
    exact ⟨rfl, s13, (frh.trans fr12).trans fr13, v13, cs13, x13⟩
  obtain ⟨j, rfl⟩ : ∃ j, i = j + 1 := ⟨i - 1, by omega⟩
  have ej : (((j + 1 : Nat) : Int) - 1) = (j : Int) := by omega
  have dd : decide ((j : Int) ≥ 0) = true := decide_eq_true (by omega)
  have wj : IntKind.i64.wrap ((j : Int) - 1) = (j : Int) - 1 := by rw [wrap64 (by omega) (by omega)]
  obtain ⟨p, hp⟩ := yO (show j < fs.length by omega)
  obtain ⟨y, hy, hst⟩ := hfork j p hp
  have hpM := (List.getElem?_eq_some_iff.1 hy).1
  have fi := ti.fork p y hy (vI hst).1
  have fil := fi.l
  have fir := fi.r
  have oky := x.arr.ok.ok p y hy
  have hpf := oky.pf
  have oyd := oky.dp
  have hdp : y.dp ≤ 8 * y.pf.length := by
    obtain ⟨jd, e1, e2⟩ := fi.pf
    rw [e1, wK]; omega
  have hML : M.length ≤ S.1.length := by rw [eL]; simp
  have hyS : S.1[p]? = some y := by rw [eL, List.getElem?_append_left hpM]; exact hy
  have enp : kJ S.1 p = y := yM hyS
  obtain ⟨ad, g1, l4⟩ : ∃ ad, zI Tryz.prog 127 (.slice af fs.length cf) (j : Int) = some (.pointer (some ad)) ∧ wY Tryz.prog 3 h13 (.pointer (some ad)) = some (.int .i64 (p : Int)) := by
    rcases ow13 with ⟨_, q, _⟩ | ⟨_, _, q, _⟩ | ⟨kf, c', q, z2, z3, z4, z5, z6, z7⟩
    · omega
    · omega
    · cases q
      refine ⟨_, uC Tryz.underlying127 zZ (by omega), ?_⟩
      rw [qH z6 zZ, Nat.mul_one]
      simp only [ivs, List.getElem?_map, hp, Option.map_some]
  simp only [ej]
  refine qJ ?_; repeat' (first | (with_reducible first | apply qK | apply qR) | ((first | (with_reducible apply qI) | (with_reducible first | apply qD | apply qS | apply qP)) <;> try simp only [qM, qB, qE, qG, qC, qA, qF, reduceIte, seval, Int.cast_ofNat_Int, qN, qO, qL, qZ, zA, zB, xF, xK, dd, g1, l4]))
  refine (qE7 N x13 hyS).mono ?_
  rintro _ h14 ⟨s14, cn14, rfl, r14⟩
  obtain ⟨b1, e1, b2, e2, b3, e3, b4, e4, rfl, u1, u2, u3, u4⟩ := r14
  refine qJ ?_; repeat' (first | ((with_reducible apply qI) <;> try simp only [qM, qB, qE, qG, qC, qA, qF, reduceIte, seval, Int.cast_ofNat_Int, qN, qO, qL, qZ, zA, zB, xF, xK]))
  refine xQ fun k23 h15 m15 s15 f15 n15 => ?_
  refine qJ ?_; repeat' (first | ((with_reducible apply qI) <;> try simp only [qM, qB, qE, qG, qC, qA, qF, reduceIte, seval, Int.cast_ofNat_Int, qN, qO, qL, qZ, zA, zB, xF, xK]))
  refine vO m15 wB rfl (by decide) rfl rfl rfl fun h16 m16 f16 => ?_
  simp only [Nd.cs] at m16
  have s1416 := s15.upd n15 f16
  have S16 := s14.trans s1416
  have x16 := x13.hs S16
  have rr16 := rr13.hs S16
  have v3b := u3.hs s1416
  cases hbt : (xI (qY id) y.dp == 1)
  · have hbq : (xI (qY id) y.dp = 1) = False := by simpa using hbt
    refine qJ ?_; repeat' (first | with_reducible apply qK | ((first | (with_reducible apply qI) | (with_reducible first | apply qD | apply qS) | ((refine GTri.mono (dS _ _ rr16 y.dp (by omega)) ?_); rintro _ _ ⟨rfl, hh9⟩; replace hh9 := hh9.symm; subst hh9)) <;> try simp only [qM, qB, qE, qG, qC, qA, qF, reduceIte, seval, Int.cast_ofNat_Int, qN, qO, qL, qZ, zA, zB, xF, xK, hbt, qH m16 zZ, qH m16 qV]))
    refine (pK N (s13.trans S16) x16 v3b hpf (d := y.dp) (l := S.2) (r := y.r) hdp (by omega) (by omega) (by omega)).mono ?_
    rintro _ h22 ⟨rfl, s22, fr22, v22, cs22, x22⟩
    have eu : sQ (qY id) S p = (S.1 ++ [wW S.1 y.dp y.pf S.2 y.r], S.1.length) := by
      unfold sQ
      rw [enp]
      simp only [hbq, if_true, if_false]
    refine qJ ?_; repeat' (first | ((first | (with_reducible apply qI) | with_reducible apply qD) <;> try simp only [qM, qB, qE, qG, qC, qA, qF, reduceIte, seval, Int.cast_ofNat_Int, qN, qO, qL, qZ, zA, zB, xF, xK, wj]))
    refine ⟨_, (j, sQ (qY id) S p), by simp only; omega, ?_, rfl, by simp only; omega, by rw [eS]; exact (tL (M := M) hp).symm, s22, fr13.trans ((FR.of S16).trans fr22), by rw [eu]; simp, by rw [eu]; simp; omega, ⟨L ++ [wW S.1 y.dp y.pf S.2 y.r], by rw [eu, eL, List.append_assoc]⟩, v22, cs22, by rw [eu]; exact x22⟩
    rw [eu]
    exact (by simp only [List.forall_mem_cons, List.not_mem_nil, false_implies, implies_true, List.map, List.cons_append, List.nil_append, lk, Nat.reduceEqDiff, reduceIte, and_true, true_and])
  · have hbq : (xI (qY id) y.dp = 1) = True := by simpa using hbt
    refine qJ ?_; repeat' (first | with_reducible apply qK | ((first | (with_reducible apply qI) | (with_reducible first | apply qD | apply qS) | ((refine GTri.mono (dS _ _ rr16 y.dp (by omega)) ?_); rintro _ _ ⟨rfl, hh9⟩; replace hh9 := hh9.symm; subst hh9)) <;> try simp only [qM, qB, qE, qG, qC, qA, qF, reduceIte, seval, Int.cast_ofNat_Int, qN, qO, qL, qZ, zA, zB, xF, xK, hbt, qH m16 zZ, qH m16 qV]))
    refine (pK N (s13.trans S16) x16 v3b hpf (d := y.dp) (l := y.l) (r := S.2) hdp (by omega) (by omega) (by omega)).mono ?_
    rintro _ h22 ⟨rfl, s22, fr22, v22, cs22, x22⟩
    have eu : sQ (qY id) S p = (S.1 ++ [wW S.1 y.dp y.pf y.l S.2], S.1.length) := by
      unfold sQ
      rw [enp]
      simp only [hbq, if_true, if_false]
    refine qJ ?_; repeat' (first | ((first | (with_reducible apply qI) | with_reducible apply qD) <;> try simp only [qM, qB, qE, qG, qC, qA, qF, reduceIte, seval, Int.cast_ofNat_Int, qN, qO, qL, qZ, zA, zB, xF, xK, wj]))
    refine ⟨_, (j, sQ (qY id) S p), by simp only; omega, ?_, rfl, by simp only; omega, by rw [eS]; exact (tL (M := M) hp).symm, s22, fr13.trans ((FR.of S16).trans fr22), by rw [eu]; simp, by rw [eu]; simp; omega, ⟨L ++ [wW S.1 y.dp y.pf y.l S.2], by rw [eu, eL, List.append_assoc]⟩, v22, cs22, by rw [eu]; exact x22⟩
    rw [eu]
    exact (by simp only [List.forall_mem_cons, List.not_mem_nil, false_implies, implies_true, List.map, List.cons_append, List.nil_append, lk, Nat.reduceEqDiff, reduceIte, and_true, true_and])
end
theorem yQ : type_of% (And.intro qH4 (And.intro zC5 (And.intro zR (And.intro ty41 (And.intro vX (And.intro uK (And.intro ty72 (And.intro xW (And.intro qJ7 (And.intro jL (And.intro dD (And.intro wS (And.intro ty64 rs13))))))))))))) := And.intro qH4 (And.intro zC5 (And.intro zR (And.intro ty41 (And.intro vX (And.intro uK (And.intro ty72 (And.intro xW (And.intro qJ7 (And.intro jL (And.intro dD (And.intro wS (And.intro ty64 rs13))))))))))))
def yL : Nat → List (Nat × List Nat) × List Nat
  | 10 => ([(0, []), (1, []), (2, []), (3, []), (4, []), (5, []), (6, []), (7, []), (8, []), (9, []), (10, []), (11, []), (12, []), (13, []), (14, []), (15, []), (16, []), (17, []), (18, []), (19, []), (20, []), (21, [])], [0, 1, 0, 4, 12, 28, 63, 0, 128, 0, 512, 1536, 3584, 8064, 0, 16384, 49152, 114688, 245760, 127, 540671, 2097151])
  | _ => ([], [])
abbrev Pt : Type := (List UInt8 × List UInt8) × Int
def RPut (h : GH) (cs : List Value) (x : Pt) : Prop := ∃ a c b d, cs = [.slice a x.1.1.length c, .slice b x.1.2.length d, .int .i64 x.2] ∧ RB h (.slice a x.1.1.length c) x.1.1 ∧ RB h (.slice b x.1.2.length d) x.1.2
theorem RPut.hs {h h' : GH} (s : HS h h') {cs : List Value} {x : Pt} (r : RPut h cs x) : RPut h' cs x := by
  obtain ⟨a, c, b, d, e, r1, r2⟩ := r
  exact ⟨a, c, b, d, e, r1.hs s, r2.hs s⟩
def qT4 (z : Int) : Nat := (IntKind.u64.wrap z % 256).toNat
theorem siOf_lt (z : Int) : qT4 z < 256 := by unfold qT4; omega
theorem siOf_eq (z : Int) : IntKind.i64.wrap (Int.tmod (IntKind.u64.wrap z) 256) = (qT4 z : Int) := by
  have h0 : 0 ≤ IntKind.u64.wrap z ∧ IntKind.u64.wrap z < 18446744073709551616 := by
    simp [IntKind.wrap, IntKind.signed, IntKind.bits]
    omega
  have e1 : Int.tmod (IntKind.u64.wrap z) 256 = IntKind.u64.wrap z % 256 := Int.tmod_eq_emod_of_nonneg h0.1
  rw [e1]
  unfold qT4
  generalize IntKind.u64.wrap z = w at *
  rw [wrap64 (by omega) (by omega)]
  omega
theorem AB.weak {a h0 h : GH} {k : Nat} {v : Value} {cs : List Value} {M : List Nd} (s : HS a h0) (x : AB h0 h k v cs M) : AB a h k v cs M := ⟨x.obj, s.none_of x.nk, ⟨x.arr.own.weak s, x.arr.u8, x.arr.nd, x.arr.ok⟩⟩
theorem gret_4 {P : Program} {e : Env} {h : GH} {Q : Value → GH → Prop} (t u v w : Nat) : yY P e h [.tmp t, .tmp u, .tmp v, .tmp w] Q = Q (.tuple #[lk e t, lk e u, lk e v, lk e w]) h := by simp [yY, jO, qG4]
def RtOk (M : List Nd) (rt : Int) : Prop := (rt = -1 ∧ M = []) ∨ ∃ r : Nat, rt = (r : Int) ∧ r < M.length
def TreeP (l : List Pt) (h h' : GH) (u : Value) : Prop := HS h h' ∧ ∃ k kq M rt v cs v2 cs2, u = .tuple #[.pointer (some ⟨k, 0, none⟩), .pointer (some ⟨kq, 0, none⟩), .int .i64 rt, .bool true] ∧ k ≠ kq ∧ AA h h' k v cs M ∧ AB h h' kq v2 cs2 M ∧ TI M ∧ RtOk M rt ∧ (∀ x, l = [x] → M = [wV (x.1.1.take 24) (x.1.2.take 48) (qT4 x.2)] ∧ rt = 0)
theorem spot_ex {M : List Nd} (ti : TI M) (id ky : List UInt8) (si : Nat) {rt : Int} (ro : RtOk M rt) (hid : id.length ≤ 255) : ∃ fs at_ nd same S0, Spot M id ky si rt fs at_ nd same S0 ∧ fs.length ≤ 8 * (qY id).length ∧
    TI (fs.reverse.foldl (sQ (qY id)) S0).1 ∧ (fs.reverse.foldl (sQ (qY id)) S0).2 < (fs.reverse.foldl (sQ (qY id)) S0).1.length ∧ (fs.reverse.foldl (sQ (qY id)) S0).1.length ≤ M.length + 2 + fs.length ∧ (rt = -1 → fs.reverse.foldl (sQ (qY id)) S0 = (M ++ [wV id ky si], M.length)) := by
  rcases ro with ⟨rfl, rfl⟩ | ⟨r, rfl, hr⟩
  · refine ⟨[], _, _, _, _, .no, by simp, ?_, by simp, by simp, fun _ => rfl⟩
    exact TI.nil.push (fun q => by simp [wV] at q) (fun _ => hid)
  · obtain ⟨fs, e, x, w, hf⟩ := way_of ti id hr
    obtain ⟨a, b, c⟩ := ins_ok ti hid (ky := ky) (si := si) w
    exact ⟨fs, _, _, _, _, .way w, hf, a, b, c, fun q => by omega⟩
theorem c_tree17 (N : Nat) {h : GH} (t : TK h) {a : Option Addr} {c : Nat} {l : List Pt} (r : RL 3 RPut h (.slice a l.length c) l) (hl : l.length ≤ 1000000000) (hp : ∀ x ∈ l, x.1.1.length ≤ 1000000000 ∧ x.1.2.length ≤ 1000000000) :
    GTri Tryz.prog N 13 [.slice a l.length c] h fun u h' => TreeP l h h' u := by
  refine xN Tryz.func13 rfl gf13 ok13 (by simp [Tryz.ntmps13]) ?_
  refine qJ ?_; repeat' (first | with_reducible apply qK | ((first | (with_reducible apply qI) | with_reducible apply qD) <;> try simp only [qM, qB, qE, qG, qC, qA, qF, reduceIte, seval, Int.cast_ofNat_Int, qN, qO, qL, qZ, zA, zB, yQ, yL]))
  refine (c_New N h).mono ?_
  rintro _ h1 ⟨s1, k, rfl, x1⟩
  refine qJ ?_; repeat' (first | with_reducible apply qK | ((first | (with_reducible apply qI) | with_reducible apply qD) <;> try simp only [qM, qB, qE, qG, qC, qA, qF, reduceIte, seval, Int.cast_ofNat_Int, qN, qO, qL, qZ, zA, zB, yQ, yL]))
  refine (c_rNew N h1).mono ?_
  rintro _ h2 ⟨s2, kq, rfl, y2⟩
  have x2 := x1.hs s2
  have y2' := y2.weak s1
  have kkq : k ≠ kq := yS x1.obj y2.nk
  have S2 := s1.trans s2
  refine qJ ?_; repeat' (first | (with_reducible first | apply qK | apply qR) | ((first | (with_reducible apply qI) | (with_reducible first | apply qD | apply qS | apply qP)) <;> try simp only [qM, qB, qE, qG, qC, qA, qF, reduceIte, seval, Int.cast_ofNat_Int, qN, qO, qL, qZ, zA, zB, yQ, yL, Option.isNone_some]))
  refine xS [2, 3, 4, 5, 6, 8, 35, 36] (fun (s : Nat × Int) => [(10, .int .i64 s.2), (11, .bool true), (37, .int .i64 (s.1 : Int))])
    (fun q s h' => l.length - s.1 = q ∧ s.1 ≤ l.length ∧ HS h h' ∧ ∃ M v cs v2 cs2, AA h h' k v cs M ∧ AB h h' kq v2 cs2 M ∧ TI M ∧ RtOk M s.2 ∧ M.length ≤ 202 * min s.1 20 ∧ (s.1 = 0 → s.2 = -1) ∧ (s.1 = 1 → ∀ x, l[0]? = some x → M = [wV (x.1.1.take 24) (x.1.2.take 48) (qT4 x.2)] ∧ s.2 = 0)) l.length (0, -1) (by simp [lk]) ⟨rfl, Nat.zero_le _, S2, [], _, _, _, _, x2, y2', TI.nil, .inl ⟨rfl, rfl⟩, by simp, fun _ => rfl, fun q => by simp at q⟩ ?_
  rintro _ ⟨i, rt⟩ h3 ⟨rfl, hil, s3, M, v, cs, v2, cs2, x3, y3, ti, ro, hM, z0, z1⟩
  simp only at hil ro hM z0 z1
  by_cases hi : i < l.length
  case neg =>
    obtain rfl : i = l.length := by omega
    have d3 : decide ((l.length : Int) < (l.length : Int)) = false := decide_eq_false (by omega)
    refine qJ ?_; repeat' (first | with_reducible apply qK | ((first | (with_reducible apply qI) | (with_reducible first | apply qD | apply qS | apply xX | apply qQ)) <;> try simp only [qM, qB, qE, qG, qC, qA, qF, reduceIte, seval, Int.cast_ofNat_Int, qN, qO, qL, qZ, zA, zB, yQ, yL, d3]))
    rw [gret_4]
    simp only [qM, qB, qE, qG, qC, qA, qF, reduceIte, seval, Int.cast_ofNat_Int, qN, qO, yQ]
    refine ⟨s3, k, kq, M, rt, v, cs, v2, cs2, rfl, kkq, x3, y3, ti, ro, fun x hx => z1 (by rw [hx]; rfl) x (by rw [hx]; rfl)⟩
  have d3 : decide ((i : Int) < (l.length : Int)) = true := decide_eq_true (by omega)
  have wi : IntKind.i64.wrap ((i : Int) + 1) = ((i + 1 : Nat) : Int) := by rw [wrap64 (by omega) (by omega)]; omega
  obtain ⟨x, hx⟩ := yO hi
  obtain ⟨hx1, hx2⟩ := hp x (List.mem_of_getElem? hx)
  have r3 := RL.hcR (R := RPut) r s3.hc fun _ _ q => q.hs s3
  obtain ⟨ad, cs5, g1, g2, a5, c5, b5, d5, rfl, p1, p2⟩ := RL.at (P := Tryz.prog) r3 Tryz.underlying41 sz72 hx
  refine qJ ?_; repeat' (first | (with_reducible first | apply qK | apply qR) | ((first | (with_reducible apply qI) | (with_reducible first | apply qD | apply qS | apply qP)) <;> try simp only [qM, qB, qE, qG, qC, qA, qF, reduceIte, seval, Int.cast_ofNat_Int, qN, qO, qL, qZ, zA, zB, yQ, yL, d3, g1, qE3 sz72 g2]))
  refine xQ fun k13 h4 m4 s4 f4 n4 => ?_
  refine qJ ?_; repeat' (first | ((with_reducible apply qI) <;> try simp only [qM, qB, qE, qG, qC, qA, qF, reduceIte, seval, Int.cast_ofNat_Int, qN, qO, qL, qZ, zA, zB, yQ, yL]))
  refine wC m4 sz72 rfl (by decide) rfl rfl rfl fun h5 m5 f5 => ?_
  simp only [vcells] at m5
  have s35 := s4.upd n4 f5
  by_cases h20 : i < 20
  case neg =>
    have d4 : decide ((i : Int) < 20) = false := decide_eq_false (by omega)
    refine qJ ?_; repeat' (first | with_reducible apply qK | ((first | (with_reducible apply qI) | (with_reducible first | apply qD | apply qS | apply qP)) <;> try simp only [qM, qB, qE, qG, qC, qA, qF, reduceIte, seval, Int.cast_ofNat_Int, qN, qO, qL, qZ, zA, zB, yQ, yL, d4, wi]))
    exact ⟨_, (i + 1, rt), by simp only; omega, (by simp only [List.forall_mem_cons, List.not_mem_nil, false_implies, implies_true, List.map, List.cons_append, List.nil_append, lk, Nat.reduceEqDiff, reduceIte, and_true, true_and]), rfl, by simp only; omega, s3.trans s35, M, v, cs, v2, cs2, x3.hs s35, y3.hs s35, ti, ro, by simp only; omega, fun q => by simp at q, fun q => by simp only at q; omega⟩
  have d4 : decide ((i : Int) < 20) = true := decide_eq_true (by omega)
  have mn1 : (if (24 : Int) < (x.1.1.length : Int) then (24 : Int) else (x.1.1.length : Int)) = ((min x.1.1.length 24 : Nat) : Int) := by split <;> omega
  have mn2 : (if (48 : Int) < (x.1.2.length : Int) then (48 : Int) else (x.1.2.length : Int)) = ((min x.1.2.length 48 : Nat) : Int) := by split <;> omega
  obtain ⟨a6, c6, e6, r6, _⟩ := RB.cut (P := Tryz.prog) (p1.hs s35) Tryz.underlying22 rX (hi := ((min x.1.1.length 24 : Nat) : Int)) (by omega) (by omega) .i64
  obtain ⟨a7, c7, e7, r7, _⟩ := RB.cut (P := Tryz.prog) (p2.hs s35) Tryz.underlying22 rX (hi := ((min x.1.2.length 48 : Nat) : Int)) (by omega) (by omega) .i64
  rw [Int.toNat_natCast] at e6 e7 r6 r7
  have et1 : x.1.1.take (min x.1.1.length 24) = x.1.1.take 24 := by rw [List.take_eq_take_iff]; omega
  have et2 : x.1.2.take (min x.1.2.length 48) = x.1.2.take 48 := by rw [List.take_eq_take_iff]; omega
  have el1 : min x.1.1.length 24 = (x.1.1.take 24).length := by simp; omega
  have el2 : min x.1.2.length 48 = (x.1.2.take 48).length := by simp; omega
  rw [et1] at r6
  rw [et2] at r7
  refine qJ ?_; repeat' (first | with_reducible apply qK | ((first | (with_reducible apply qI) | (with_reducible first | apply qD | apply qS) | with_reducible refine zF yL xM (by kernel_rfl) ?_) <;> try simp only [qM, qB, qE, qG, qC, qA, qF, reduceIte, seval, Int.cast_ofNat_Int, qN, qO, qL, qZ, zA, zB, yQ, yL, d4, qH m5 qV, qH m5 zZ, mn1, mn2, e6, e7, qH4, zC5, siOf_eq]))
  obtain ⟨fs, at_, nd, same, S0, sp, hfs, ti', hlt, hle, hno⟩ := spot_ex ti (x.1.1.take 24) (x.1.2.take 48) (qT4 x.2) ro (by simp; omega)
  have hgk := vM (x.1.1.take 24)
  have hlt24 : (x.1.1.take 24).length ≤ 24 := by simp; omega
  have hlt48 : (x.1.2.take 48).length ≤ 48 := by simp; omega
  have hsi := siOf_lt x.2
  have hfs2 : fs.length ≤ 200 := by omega
  have S5 := s3.trans s35
  rw [el1] at r6
  rw [el2] at r7
  rw [el1, el2]
  have x5 := x3.hs s35
  have y5 := y3.hs s35
  refine (c_Insert N S5 t x5 ti r6 r7 (by omega) (by omega) (by omega) sp (by omega) (by omega)).mono ?_
  rintro _ h6 ⟨rfl, s6, fr6, v6, cs6, x6⟩
  have y6 := y5.fr fr6 x5.obj rfl kkq.symm (by decide) (by decide)
  refine qJ ?_; repeat' (first | with_reducible apply qK | ((first | (with_reducible apply qI) | with_reducible apply qD) <;> try simp only [qM, qB, qE, qG, qC, qA, qF, reduceIte, seval, Int.cast_ofNat_Int, qN, qO, qL, qZ, zA, zB, yQ, yL]))
  refine (zK1 N s6 y6 ti (r6.fr fr6) (r7.fr fr6) (by omega) (by omega) (by omega) sp (by omega) hfs).mono ?_
  rintro _ h7 ⟨rfl, s7, fr7, v7, cs7, y7⟩
  have x7 := x6.fr fr7 y6.obj rfl kkq (by decide) (by decide)
  generalize hS : fs.reverse.foldl (sQ (qY (x.1.1.take 24))) S0 = S at *
  have bs : ((S.2 : Int) == (S.2 : Int)) = true := by simp
  refine qJ ?_; repeat' (first | with_reducible apply qK | ((first | (with_reducible apply qI) | with_reducible apply qD) <;> try simp only [qM, qB, qE, qG, qC, qA, qF, reduceIte, seval, Int.cast_ofNat_Int, qN, qO, qL, qZ, zA, zB, yQ, yL, wi, bs]))
  refine ⟨_, (i + 1, (S.2 : Int)), by simp only; omega, (by simp only [List.forall_mem_cons, List.not_mem_nil, false_implies, implies_true, List.map, List.cons_append, List.nil_append, lk, Nat.reduceEqDiff, reduceIte, and_true, true_and]), rfl, by simp only; omega, s7, S.1, v6, cs6, v7, cs7, x7, y7, ti', .inr ⟨S.2, rfl, hlt⟩, by simp only; omega, fun q => by simp at q, fun q x' hx' => ?_⟩
  simp only at q
  obtain rfl : i = 0 := by omega
  rw [hx] at hx'
  cases hx'
  have hrt := z0 rfl
  have hM0 : M = [] := by
    rcases ro with ⟨_, q⟩ | ⟨r, q, _⟩
    · exact q
    · rw [hrt] at q; omega
  have := hno hrt
  rw [this, hM0]
  exact ⟨rfl, rfl⟩
structure Pn (K : Type) where
  (kd si dp nw : Int)
  (id ky pf lf rt : List UInt8)
  (kids : List K)
def Pn.cs {K : Type} (p : Pn K) (i k x l r s : Value) : List Value := [.int .i64 p.kd, i, k, .int .i64 p.si, .int .i64 p.dp, x, .int .i64 p.nw, l, r, s]
def RPn {K : Type} (R : GH → List Value → K → Prop) (h : GH) (cs : List Value) (p : Pn K) : Prop :=
  ∃ a1 c1 a2 c2 a3 c3 a4 c4 a5 c5 a6 c6, cs = p.cs (.slice a1 p.id.length c1) (.slice a2 p.ky.length c2) (.slice a3 p.pf.length c3) (.slice a4 p.lf.length c4) (.slice a5 p.rt.length c5) (.slice a6 p.kids.length c6) ∧
    RB h (.slice a1 p.id.length c1) p.id ∧ RB h (.slice a2 p.ky.length c2) p.ky ∧ RB h (.slice a3 p.pf.length c3) p.pf ∧ RB h (.slice a4 p.lf.length c4) p.lf ∧ RB h (.slice a5 p.rt.length c5) p.rt ∧ RL 10 R h (.slice a6 p.kids.length c6) p.kids
theorem RL.hs {α : Type} {es : Nat} {R : GH → List Value → α → Prop} {h h' : GH} {v : Value} {l : List α} (s : HS h h') (f : ∀ cs x, R h cs x → R h' cs x) (r : RL es R h v l) : RL es R h' v l := RL.hcR (R := R) r s.hc f
theorem RPn.hs {K : Type} {R : GH → List Value → K → Prop} {h h' : GH} (s : HS h h') (f : ∀ cs x, R h cs x → R h' cs x) {cs : List Value} {p : Pn K} (r : RPn R h cs p) : RPn R h' cs p := by
  obtain ⟨a1, c1, a2, c2, a3, c3, a4, c4, a5, c5, a6, c6, rfl, r1, r2, r3, r4, r5, r6⟩ := r
  exact ⟨a1, c1, a2, c2, a3, c3, a4, c4, a5, c5, a6, c6, rfl, r1.hs s, r2.hs s, r3.hs s, r4.hs s, r5.hs s, RL.hs s f r6⟩
theorem RPn.len {K : Type} {R : GH → List Value → K → Prop} {h : GH} {cs : List Value} {p : Pn K} (r : RPn R h cs p) : cs.length = 10 ∧ cs.all zG = true ∧ cs.all uJ = true := by
  obtain ⟨a1, c1, a2, c2, a3, c3, a4, c4, a5, c5, a6, c6, rfl, _⟩ := r
  exact ⟨rfl, rfl, rfl⟩
def Pd : Nat → Type
  | 0 => Empty
  | n + 1 => Pn (Pd n)
def RPd : (n : Nat) → GH → List Value → Pd n → Prop
  | 0, _, _, _ => False
  | n + 1, h, cs, p => RPn (RPd n) h cs p
theorem RPd.hs {h h' : GH} (s : HS h h') : ∀ (n : Nat) {cs : List Value} {p : Pd n}, RPd n h cs p → RPd n h' cs p
  | 0, _, _, r => r
  | n + 1, _, _, r => RPn.hs s (fun _ _ q => RPd.hs s n q) r
abbrev Hp : Type := Int × Int × List UInt8
def RHp (h : GH) (cs : List Value) (x : Hp) : Prop := ∃ a c, cs = [.int .i64 x.1, .int .i64 x.2.1, .slice a x.2.2.length c] ∧ RB h (.slice a x.2.2.length c) x.2.2
theorem RHp.hs {h h' : GH} (s : HS h h') {cs : List Value} {x : Hp} (r : RHp h cs x) : RHp h' cs x := by
  obtain ⟨a, c, rfl, q⟩ := r
  exact ⟨a, c, rfl, q.hs s⟩
def epB (n : Int) : Bool := decide (n ≥ 0) && decide (n < 256)
section
variable {K : Type}
def Pn.noLeaf (p : Pn K) : Bool := ((p.id.length : Int) == 0) && ((p.ky.length : Int) == 0) && (p.si == 0)
def Pn.noFork (p : Pn K) : Bool := (p.dp == 0) && ((p.pf.length : Int) == 0) && (p.nw == 0) && ((p.lf.length : Int) == 0) && ((p.rt.length : Int) == 0) && ((p.kids.length : Int) == 0)
def Pn.blank (p : Pn K) (leaf fork : Bool) : Bool := (leaf || p.noLeaf) && (fork || p.noFork)
def Pn.frk (p : Pn K) : Bool := p.blank false true && epB p.nw && decide (p.dp ≥ 0) && decide (p.dp ≤ 2048) && ((p.pf.length : Int) == Int.tdiv (p.dp + 7) 8) && (zH p.pf p.dp.toNat == p.pf)
def Pn.hsh (p : Pn K) (n : Int) : Bool := ((p.lf.length : Int) == n) && ((p.rt.length : Int) == n)
def Pn.right (size : Int) (p : Pn K) : Bool :=
  if p.kd = 0 then p.blank false false
  else if p.kd = 1 then p.blank true false && epB p.si && decide ((p.id.length : Int) ≤ 255) && decide ((p.ky.length : Int) ≤ 48)
  else if p.kd = 2 then p.frk && p.hsh size && ((p.kids.length : Int) == 0)
  else if p.kd = 3 then p.frk && p.hsh 0 && ((p.kids.length : Int) == 2)
  else false
def Pn.bits (p : Pn K) : List UInt8 := if p.kd = 1 then qY p.id else p.pf
def Pn.ends (size : Int) (row : List UInt8) (last : Int) (p : Pn K) : Bool :=
  if (p.kd == 3 || !p.right size) = true then false
  else if p.kd = 0 then decide (last < 0)
  else dF p.bits row (last + 1) && (p.kd == 1 || decide (p.dp > last) && !dF row p.pf p.dp)
def tR (size : Int) (row : List UInt8) (last : Int) (x : Hp) : Bool := !(decide (x.1 ≤ last) || decide (x.1 ≥ 8 * (row.length : Int)) || !epB x.2.1 || ((x.2.2.length : Int) != size))
def sD (size : Int) (row : List UInt8) : Int → List Hp → Option Int
  | last, [] => some last
  | last, x :: l => if tR size row last x = true then sD size row x.1 l else none
def qS3 (size : Int) (id : List UInt8) : Bool := decide (size < 1) || decide (size > 32) || decide ((id.length : Int) > 24)
def qK7 (size : Int) (id : List UInt8) (hops : List Hp) (en : Pn K) : Bool :=
  !qS3 size id && (match sD size (qY id) (-1) hops with | some last => en.ends size (qY id) last | none => false)
def xE (p : Pn K) : List UInt8 :=
  if p.kd = 1 then gQ p.id p.ky p.si.toNat else if p.kd = 2 then wP p.dp.toNat p.pf p.nw.toNat p.lf p.rt else emptyB
def yI (size : Int) (row : List UInt8) (t : List UInt8) (x : Hp) : List UInt8 :=
  if xI row x.1.toNat = 1 then wP x.1.toNat row x.2.1.toNat x.2.2 (wL size t) else wP x.1.toNat row x.2.1.toNat (wL size t) x.2.2
def rW (size : Int) (row : List UInt8) (en : List UInt8) : List Hp → List (List UInt8)
  | [] => [en]
  | x :: l => yI size row ((rW size row en l).headD []) x :: rW size row en l
end
theorem yA : type_of% (And.intro zR (And.intro fC (And.intro kU (And.intro xW (And.intro wS rs145))))) := And.intro zR (And.intro fC (And.intro kU (And.intro xW (And.intro wS rs145))))
theorem lX : type_of% (And.intro zR (And.intro fC (And.intro kU (And.intro xW (And.intro wS rs143))))) := And.intro zR (And.intro fC (And.intro kU (And.intro xW (And.intro wS rs143))))
theorem kG : type_of% (And.intro zR (And.intro fC (And.intro kU (And.intro xW (And.intro kC (And.intro wS rs144)))))) := And.intro zR (And.intro fC (And.intro kU (And.intro xW (And.intro kC (And.intro wS rs144)))))
def jF : Nat → List (Nat × List Nat) × List Nat
  | 1 => ([(0, []), (1, []), (2, []), (3, []), (4, []), (5, []), (6, []), (7, []), (8, []), (9, []), (10, []), (11, []), (12, []), (13, []), (14, []), (15, []), (16, []), (17, []), (18, []), (19, []), (20, []), (21, []), (22, []), (23, []), (24, []), (25, []), (26, []), (27, []), (28, []), (29, []), (30, []), (31, []), (33, []), (34, []), (32, [34]), (35, []), (36, []), (37, [])], [0, 1, 3, 7, 15, 31, 63, 127, 255, 511, 1023, 2047, 4095, 8191, 16383, 32767, 65535, 131071, 262143, 524287, 1048575, 262143, 2359295, 6553599, 14942207, 33554431, 67108863, 134217727, 268435455, 536870911, 268435455, 1342177279, 4294967295, 268435455, 8858370047, 34359738367, 68719476735, 137438953471])
  | _ => ([], [])
theorem wO : type_of% (And.intro zR (And.intro fC (And.intro kU (And.intro xW (And.intro kC (And.intro wS rs108)))))) := And.intro zR (And.intro fC (And.intro kU (And.intro xW (And.intro kC (And.intro wS rs108)))))
theorem rO : type_of% (And.intro zR (And.intro fC (And.intro kU (And.intro xW (And.intro wS rs109))))) := And.intro zR (And.intro fC (And.intro kU (And.intro xW (And.intro wS rs109))))
theorem jQ : type_of% (And.intro zR (And.intro fC (And.intro kU (And.intro xW (And.intro kC (And.intro wS rs64)))))) := And.intro zR (And.intro fC (And.intro kU (And.intro xW (And.intro kC (And.intro wS rs64)))))
theorem yE : type_of% (And.intro zR (And.intro pO (And.intro fC (And.intro kU (And.intro qD2 (And.intro qD1 (And.intro xW (And.intro kC (And.intro wS rs19))))))))) := And.intro zR (And.intro pO (And.intro fC (And.intro kU (And.intro qD2 (And.intro qD1 (And.intro xW (And.intro kC (And.intro wS rs19))))))))
theorem yV (N : Nat) (h : GH) (n : Int) : GTri Tryz.prog N 63 [.int .i64 n] h fun v h' => v = .bool (epB n) ∧ h' = h := by
  unfold epB
  refine xN Tryz.func63 rfl gf63 ok63 (by simp [Tryz.ntmps63]) ?_
  cases z0 : (decide (n ≥ 0))
  case false =>
    refine qJ ?_; repeat' (first | with_reducible apply qK | ((first | (with_reducible apply qI) | (with_reducible first | apply qD | apply qQ)) <;> try simp only [qM, qB, qE, qG, qC, qA, qF, reduceIte, seval, Int.cast_ofNat_Int, qN, qO, xW, rs63, z0, gPick]))
    all_goals simp only [Bool.false_and]
  cases z1 : (decide (n < 256))
  case false =>
    refine qJ ?_; repeat' (first | with_reducible apply qK | ((first | (with_reducible apply qI) | (with_reducible first | apply qD | apply qQ)) <;> try simp only [qM, qB, qE, qG, qC, qA, qF, reduceIte, seval, Int.cast_ofNat_Int, qN, qO, xW, rs63, z0, z1, gPick]))
    all_goals simp only [Bool.false_and]
  refine qJ ?_; repeat' (first | with_reducible apply qK | ((first | (with_reducible apply qI) | (with_reducible first | apply qD | apply qQ)) <;> try simp only [qM, qB, qE, qG, qC, qA, qF, reduceIte, seval, Int.cast_ofNat_Int, qN, qO, xW, rs63, z0, z1, gPick]))
section
variable {K : Type} {R : GH → List Value → K → Prop}
theorem qR9 (N : Nat) {h : GH} {cs : List Value} {p : Pn K} (r : RPn R h cs p) (lf fk : Bool) : GTri Tryz.prog N 145 [.agg cs.toArray, .bool lf, .bool fk] h fun v h' => v = .bool (p.blank lf fk) ∧ HS h h' := by
  obtain ⟨a1, c1, a2, c2, a3, c3, a4, c4, a5, c5, a6, c6, rfl, r1, r2, r3, r4, r5, r6⟩ := r
  refine xN Tryz.func145 rfl gf145 ok145 (by simp [Tryz.ntmps145]) ?_
  repeat' (first | with_reducible apply qK | (with_reducible apply qD <;> try simp only [qM, qB, qE, qG, qC, qA, qF, reduceIte, seval, Int.cast_ofNat_Int, qN, qO, yA]))
  refine uL rfl fun k1 h1 m1 s1 f1 n1 => ?_
  simp only [Pn.cs] at m1
  simp only [qM, qB, qE, qG, qC, qA, qF, reduceIte, seval, Int.cast_ofNat_Int, qN, qO, yA]
  refine qK ?_
  refine GW.mono (Q := fun x e' h' => x = .normal ∧ h1 = h' ∧ lk e' 1 = .bool lf ∧ lk e' 2 = .bool fk ∧ lk e' 3 = .pointer (some ⟨k1, 0, none⟩) ∧ lk e' 7 = .bool p.noLeaf) ?_ ?_
  · unfold Pn.noLeaf
    cases z0 : ((p.id.length : Int) == 0)
    case false =>
      refine qJ ?_; repeat' (first | ((first | (with_reducible apply qI) | with_reducible apply qD) <;> try simp only [qM, qB, qE, qG, qC, qA, qF, reduceIte, seval, Int.cast_ofNat_Int, qN, qO, yA, z0, qH m1 zZ, qH m1 qV, qH m1 tU, gPick]))
      all_goals simp only [Bool.false_and]
    cases z1 : ((p.ky.length : Int) == 0)
    case false =>
      refine qJ ?_; repeat' (first | ((first | (with_reducible apply qI) | with_reducible apply qD) <;> try simp only [qM, qB, qE, qG, qC, qA, qF, reduceIte, seval, Int.cast_ofNat_Int, qN, qO, yA, z0, z1, qH m1 zZ, qH m1 qV, qH m1 tU, gPick]))
      all_goals simp only [Bool.false_and]
    cases z2 : (p.si == 0)
    case false =>
      refine qJ ?_; repeat' (first | ((first | (with_reducible apply qI) | with_reducible apply qD) <;> try simp only [qM, qB, qE, qG, qC, qA, qF, reduceIte, seval, Int.cast_ofNat_Int, qN, qO, yA, z0, z1, z2, qH m1 zZ, qH m1 qV, qH m1 tU, gPick]))
      all_goals simp only [Bool.false_and]
    refine qJ ?_; repeat' (first | ((first | (with_reducible apply qI) | with_reducible apply qD) <;> try simp only [qM, qB, qE, qG, qC, qA, qF, reduceIte, seval, Int.cast_ofNat_Int, qN, qO, yA, z0, z1, z2, qH m1 zZ, qH m1 qV, qH m1 tU, gPick]))
  rintro _ e' _ ⟨rfl, rfl, q1, q2, q3, q7⟩
  rw [dH]
  refine pV [(1, .bool lf), (2, .bool fk), (3, .pointer (some ⟨k1, 0, none⟩)), (7, .bool p.noLeaf)] (by simp [q1, q2, q3, q7]) ?_
  clear q1 q2 q3 q7
  refine qK ?_
  refine GW.mono (Q := fun x e' h' => x = .normal ∧ h1 = h' ∧ lk e' 1 = .bool lf ∧ lk e' 2 = .bool fk ∧ lk e' 7 = .bool p.noLeaf ∧ lk e' 8 = .bool p.noFork) ?_ ?_
  · generalize p.noLeaf = nl
    unfold Pn.noFork
    cases z0 : (p.dp == 0)
    case false =>
      refine qJ ?_; repeat' (first | ((first | (with_reducible apply qI) | with_reducible apply qD) <;> try simp only [qM, qB, qE, qG, qC, qA, qF, reduceIte, seval, Int.cast_ofNat_Int, qN, qO, yA, z0, qH m1 zZ, qH m1 qV, qH m1 tU, gPick]))
      all_goals simp only [Bool.false_and]
    cases z1 : ((p.pf.length : Int) == 0)
    case false =>
      refine qJ ?_; repeat' (first | ((first | (with_reducible apply qI) | with_reducible apply qD) <;> try simp only [qM, qB, qE, qG, qC, qA, qF, reduceIte, seval, Int.cast_ofNat_Int, qN, qO, yA, z0, z1, qH m1 zZ, qH m1 qV, qH m1 tU, gPick]))
      all_goals simp only [Bool.false_and]
    cases z2 : (p.nw == 0)
    case false =>
      refine qJ ?_; repeat' (first | ((first | (with_reducible apply qI) | with_reducible apply qD) <;> try simp only [qM, qB, qE, qG, qC, qA, qF, reduceIte, seval, Int.cast_ofNat_Int, qN, qO, yA, z0, z1, z2, qH m1 zZ, qH m1 qV, qH m1 tU, gPick]))
      all_goals simp only [Bool.false_and]
    cases z3 : ((p.lf.length : Int) == 0)
    case false =>
      refine qJ ?_; repeat' (first | ((first | (with_reducible apply qI) | with_reducible apply qD) <;> try simp only [qM, qB, qE, qG, qC, qA, qF, reduceIte, seval, Int.cast_ofNat_Int, qN, qO, yA, z0, z1, z2, z3, qH m1 zZ, qH m1 qV, qH m1 tU, gPick]))
      all_goals simp only [Bool.false_and]
    cases z4 : ((p.rt.length : Int) == 0)
    case false =>
      refine qJ ?_; repeat' (first | ((first | (with_reducible apply qI) | with_reducible apply qD) <;> try simp only [qM, qB, qE, qG, qC, qA, qF, reduceIte, seval, Int.cast_ofNat_Int, qN, qO, yA, z0, z1, z2, z3, z4, qH m1 zZ, qH m1 qV, qH m1 tU, gPick]))
      all_goals simp only [Bool.false_and]
    cases z5 : ((p.kids.length : Int) == 0)
    case false =>
      refine qJ ?_; repeat' (first | ((first | (with_reducible apply qI) | with_reducible apply qD) <;> try simp only [qM, qB, qE, qG, qC, qA, qF, reduceIte, seval, Int.cast_ofNat_Int, qN, qO, yA, z0, z1, z2, z3, z4, z5, qH m1 zZ, qH m1 qV, qH m1 tU, gPick]))
      all_goals simp only [Bool.false_and]
    refine qJ ?_; repeat' (first | ((first | (with_reducible apply qI) | with_reducible apply qD) <;> try simp only [qM, qB, qE, qG, qC, qA, qF, reduceIte, seval, Int.cast_ofNat_Int, qN, qO, yA, z0, z1, z2, z3, z4, z5, qH m1 zZ, qH m1 qV, qH m1 tU, gPick]))
  rintro _ e' _ ⟨rfl, rfl, q1, q2, q7, q8⟩
  rw [dH]
  refine pV [(1, .bool lf), (2, .bool fk), (7, .bool p.noLeaf), (8, .bool p.noFork)] (by simp [q1, q2, q7, q8]) ?_
  clear q1 q2 q7 q8
  unfold Pn.blank
  generalize p.noLeaf = nl
  generalize p.noFork = nf
  cases lf <;> cases nl <;> cases fk
  all_goals
    refine qJ ?_; repeat' (first | with_reducible apply qK | ((first | (with_reducible apply qI) | (with_reducible first | apply qD | apply qQ)) <;> try simp only [qM, qB, qE, qG, qC, qA, qF, reduceIte, seval, Int.cast_ofNat_Int, qN, qO, yA, gPick]))
    first | exact s1 | exact ⟨rfl, s1⟩
theorem rT (N : Nat) {h : GH} {k : Nat} {p : Pn K} {a1 c1 a2 c2 a3 c3 a4 c4 a5 c5 a6 c6} (m : h k = some ⟨p.cs (.slice a1 p.id.length c1) (.slice a2 p.ky.length c2) (.slice a3 p.pf.length c3) (.slice a4 p.lf.length c4) (.slice a5 p.rt.length c5) (.slice a6 p.kids.length c6), 0, true, false⟩) (n : Int) : GTri Tryz.prog N 143 [.int .i64 n, .pointer (some ⟨k, 0, none⟩)] h fun v h' => v = .bool (p.hsh n) ∧ h' = h := by
  simp only [Pn.cs] at m
  unfold Pn.hsh
  refine xN Tryz.func143 rfl gf143 ok143 (by simp [Tryz.ntmps143]) ?_
  cases z0 : ((p.lf.length : Int) == n)
  case false =>
    refine qJ ?_; repeat' (first | with_reducible apply qK | ((first | (with_reducible apply qI) | (with_reducible first | apply qD | apply qQ)) <;> try simp only [qM, qB, qE, qG, qC, qA, qF, reduceIte, seval, Int.cast_ofNat_Int, qN, qO, lX, z0, qH m qV, gPick]))
    all_goals simp only [Bool.false_and]
  cases z1 : ((p.rt.length : Int) == n)
  case false =>
    refine qJ ?_; repeat' (first | with_reducible apply qK | ((first | (with_reducible apply qI) | (with_reducible first | apply qD | apply qQ)) <;> try simp only [qM, qB, qE, qG, qC, qA, qF, reduceIte, seval, Int.cast_ofNat_Int, qN, qO, lX, z0, z1, qH m qV, gPick]))
    all_goals simp only [Bool.false_and]
  refine qJ ?_; repeat' (first | with_reducible apply qK | ((first | (with_reducible apply qI) | (with_reducible first | apply qD | apply qQ)) <;> try simp only [qM, qB, qE, qG, qC, qA, qF, reduceIte, seval, Int.cast_ofNat_Int, qN, qO, lX, z0, z1, qH m qV, gPick]))
theorem qY0 (N : Nat) {h : GH} {k : Nat} {p : Pn K} {a1 c1 a2 c2 a3 c3 a4 c4 a5 c5 a6 c6} (m : h k = some ⟨p.cs (.slice a1 p.id.length c1) (.slice a2 p.ky.length c2) (.slice a3 p.pf.length c3) (.slice a4 p.lf.length c4) (.slice a5 p.rt.length c5) (.slice a6 p.kids.length c6), 0, true, false⟩) (r : RPn R h (p.cs (.slice a1 p.id.length c1) (.slice a2 p.ky.length c2) (.slice a3 p.pf.length c3) (.slice a4 p.lf.length c4) (.slice a5 p.rt.length c5) (.slice a6 p.kids.length c6)) p) (r3 : RB h (.slice a3 p.pf.length c3) p.pf) (hl : p.pf.length ≤ 100000000) : GTri Tryz.prog N 144 [.pointer (some ⟨k, 0, none⟩)] h fun v h' => v = .bool p.frk ∧ HS h h' := by
  have ld := zQ (P := Tryz.prog) (t := 26) m lI rfl
  unfold Pn.frk
  refine xN Tryz.func144 rfl gf144 ok144 (by simp [Tryz.ntmps144]) ?_
  refine qJ ?_; repeat' (first | with_reducible apply qK | ((first | (with_reducible apply qI) | with_reducible apply qD | with_reducible refine zF jF xM (by kernel_rfl) ?_) <;> try simp only [qM, qB, qE, qG, qC, qA, qF, reduceIte, seval, Int.cast_ofNat_Int, qN, qO, qL, qZ, zA, zB, kG, jF, ld]))
  refine (qR9 N r false true).mono ?_
  rintro _ h2 ⟨rfl, s2⟩
  have m2 := s2 _ _ m
  simp only [Pn.cs] at m2
  cases hbl : p.blank false true
  case false =>
    refine qJ ?_; repeat' (first | ((first | (with_reducible apply qI) | with_reducible apply qQ) <;> try simp only [qM, qB, qE, qG, qC, qA, qF, reduceIte, seval, Int.cast_ofNat_Int, qN, qO, qL, qZ, zA, zB, kG, jF, gPick]))
    all_goals simp only [Bool.false_and]
    first | exact s2 | exact ⟨by first | rfl | trivial, s2⟩
  cases z0 : (epB p.nw)
  case false =>
    refine qJ ?_; repeat' (first | ((first | (with_reducible apply qI) | with_reducible apply qQ | ((refine GTri.mono (yV _ _ _) ?_); rintro _ _ ⟨rfl, hh9⟩; replace hh9 := hh9.symm; subst hh9)) <;> try simp only [qM, qB, qE, qG, qC, qA, qF, reduceIte, seval, Int.cast_ofNat_Int, qN, qO, qL, qZ, zA, zB, kG, jF, z0, qH m2 zZ, qH m2 qV, gPick]))
    simp only [hbl, z0, Bool.false_and, Bool.true_and, Bool.and_false]
    exact ⟨by first | rfl | trivial, s2⟩
  cases z1 : (decide (p.dp ≥ 0))
  case false =>
    refine qJ ?_; repeat' (first | ((first | (with_reducible apply qI) | with_reducible apply qQ | ((refine GTri.mono (yV _ _ _) ?_); rintro _ _ ⟨rfl, hh9⟩; replace hh9 := hh9.symm; subst hh9)) <;> try simp only [qM, qB, qE, qG, qC, qA, qF, reduceIte, seval, Int.cast_ofNat_Int, qN, qO, qL, qZ, zA, zB, kG, jF, z0, z1, qH m2 zZ, qH m2 qV, gPick]))
    simp only [hbl, z0, z1, Bool.false_and, Bool.true_and, Bool.and_false]
    exact ⟨by first | rfl | trivial, s2⟩
  cases z2 : (decide (p.dp ≤ 2048))
  case false =>
    refine qJ ?_; repeat' (first | ((first | (with_reducible apply qI) | with_reducible apply qQ | ((refine GTri.mono (yV _ _ _) ?_); rintro _ _ ⟨rfl, hh9⟩; replace hh9 := hh9.symm; subst hh9)) <;> try simp only [qM, qB, qE, qG, qC, qA, qF, reduceIte, seval, Int.cast_ofNat_Int, qN, qO, qL, qZ, zA, zB, kG, jF, z0, z1, z2, qH m2 zZ, qH m2 qV, gPick]))
    simp only [hbl, z0, z1, z2, Bool.false_and, Bool.true_and, Bool.and_false]
    exact ⟨by first | rfl | trivial, s2⟩
  have y1 : 0 ≤ p.dp := by simpa using z1
  have y2 : p.dp ≤ 2048 := by simpa using z2
  have w7 : IntKind.i64.wrap (p.dp + 7) = p.dp + 7 := by rw [wrap64 (by omega) (by omega)]
  have t0 := Int.tdiv_eq_ediv_of_nonneg (a := p.dp + 7) (b := 8) (by omega)
  have w8 : IntKind.i64.wrap (Int.tdiv (p.dp + 7) 8) = Int.tdiv (p.dp + 7) 8 := by rw [wrap64 (by omega) (by omega)]
  cases z3 : ((p.pf.length : Int) == Int.tdiv (p.dp + 7) 8)
  case false =>
    refine qJ ?_; repeat' (first | ((first | (with_reducible apply qI) | with_reducible apply qQ | ((refine GTri.mono (yV _ _ _) ?_); rintro _ _ ⟨rfl, hh9⟩; replace hh9 := hh9.symm; subst hh9)) <;> try simp only [qM, qB, qE, qG, qC, qA, qF, reduceIte, seval, Int.cast_ofNat_Int, qN, qO, qL, qZ, zA, zB, kG, jF, z0, z1, z2, z3, w7, w8, qH m2 zZ, qH m2 qV, gPick]))
    simp only [hbl, z0, z1, z2, z3, Bool.false_and, Bool.true_and, Bool.and_false]
    exact ⟨by first | rfl | trivial, s2⟩
  refine qJ ?_; repeat' (first | ((first | (with_reducible apply qI) | ((refine GTri.mono (yV _ _ _) ?_); rintro _ _ ⟨rfl, hh9⟩; replace hh9 := hh9.symm; subst hh9)) <;> try simp only [qM, qB, qE, qG, qC, qA, qF, reduceIte, seval, Int.cast_ofNat_Int, qN, qO, qL, qZ, zA, zB, kG, jF, z0, z1, z2, z3, w7, w8, qH m2 zZ, qH m2 qV, gPick]))
  refine (lA N h2 (r3.hs s2) (by omega) p.dp).mono ?_
  rintro _ h3 ⟨s3, a7, c7, rfl, r7⟩
  have m3 := s3 _ _ m2
  refine qJ ?_; repeat' (first | ((first | (with_reducible apply qI) | with_reducible apply qQ | ((refine GTri.mono (uS _ _ r7 ((r3.hs s2).hs s3)) ?_); rintro _ _ ⟨rfl, hh9⟩; replace hh9 := hh9.symm; subst hh9)) <;> try simp only [qM, qB, qE, qG, qC, qA, qF, reduceIte, seval, Int.cast_ofNat_Int, qN, qO, qL, qZ, zA, zB, kG, jF, qH m3 qV, qH m3 zZ, gPick]))
  try simp only [z0, z1, z2, z3, Bool.true_and]
  first | exact s2.trans s3 | exact ⟨by first | rfl | trivial, s2.trans s3⟩
theorem c_Right (N : Nat) {h : GH} {cs : List Value} {p : Pn K} (r : RPn R h cs p) (fR : ∀ {h h'}, HS h h' → ∀ cs x, R h cs x → R h' cs x) (size : Int) (hl : p.pf.length ≤ 100000000) : GTri Tryz.prog N 108 [.int .i64 size, .agg cs.toArray] h fun v h' => v = .bool (p.right size) ∧ HS h h' := by
  have r0 := r
  obtain ⟨a1, c1, a2, c2, a3, c3, a4, c4, a5, c5, a6, c6, rfl, r1, r2, r3, r4, r5, r6⟩ := r
  unfold Pn.right
  refine xN Tryz.func108 rfl gf108 ok108 (by simp [Tryz.ntmps108]) ?_
  repeat' (first | with_reducible apply qK | (with_reducible apply qD <;> try simp only [qM, qB, qE, qG, qC, qA, qF, reduceIte, seval, Int.cast_ofNat_Int, qN, qO, wO]))
  refine uL rfl fun k1 h1 m1 s1 f1 n1 => ?_
  have rr := r0.hs s1 (fR s1)
  have q3 := r3.hs s1
  have ld := zQ (P := Tryz.prog) (t := 26) m1 lI rfl
  have m1' := m1
  simp only [Pn.cs] at m1'
  by_cases k0 : p.kd = 0
  · have e0 : (p.kd == 0) = true := by simp [k0]
    rw [if_pos k0]
    refine qJ ?_; repeat' (first | (with_reducible first | apply qK | apply qR) | ((first | (with_reducible apply qI) | (with_reducible first | apply qD | apply qS)) <;> try simp only [qM, qB, qE, qG, qC, qA, qF, reduceIte, seval, Int.cast_ofNat_Int, qN, qO, wO, qH m1' zZ, e0, ld, List.map_toArray, List.map_cons, List.map_nil]))
    refine (qR9 N rr false false).mono ?_
    rintro _ h2 ⟨rfl, s2⟩
    refine qJ ?_; repeat' (first | ((first | (with_reducible apply qI) | with_reducible apply qQ) <;> try simp only [qM, qB, qE, qG, qC, qA, qF, reduceIte, seval, Int.cast_ofNat_Int, qN, qO, wO]))
    exact s1.trans s2
  have e0 : (p.kd == 0) = false := by simp [k0]
  rw [if_neg k0]
  by_cases k1' : p.kd = 1
  · have e1 : (p.kd == 1) = true := by simp [k1']
    rw [if_pos k1']
    refine qJ ?_; repeat' (first | (with_reducible first | apply qK | apply qR) | ((first | (with_reducible apply qI) | (with_reducible first | apply qD | apply qS)) <;> try simp only [qM, qB, qE, qG, qC, qA, qF, reduceIte, seval, Int.cast_ofNat_Int, qN, qO, wO, qH m1' zZ, e0, e1, ld, List.map_toArray, List.map_cons, List.map_nil]))
    refine (qR9 N rr true false).mono ?_
    rintro _ h2 ⟨rfl, s2⟩
    have m2 := s2 _ _ m1'
    cases hbl : p.blank true false
    case false =>
      refine qJ ?_; repeat' (first | ((first | (with_reducible apply qI) | with_reducible apply qQ) <;> try simp only [qM, qB, qE, qG, qC, qA, qF, reduceIte, seval, Int.cast_ofNat_Int, qN, qO, wO, gPick]))
      all_goals simp only [Bool.false_and]
      first | exact s1.trans s2 | exact ⟨by first | rfl | trivial, s1.trans s2⟩
    cases z0 : (epB p.si)
    case false =>
      refine qJ ?_; repeat' (first | ((first | (with_reducible apply qI) | with_reducible apply qQ | ((refine GTri.mono (yV _ _ _) ?_); rintro _ _ ⟨rfl, hh9⟩; replace hh9 := hh9.symm; subst hh9)) <;> try simp only [qM, qB, qE, qG, qC, qA, qF, reduceIte, seval, Int.cast_ofNat_Int, qN, qO, wO, z0, qH m2 zZ, qH m2 qV, gPick]))
      try simp only [hbl, z0, Bool.false_and, Bool.true_and, Bool.and_false]
      first | exact s1.trans s2 | exact ⟨by first | rfl | trivial, s1.trans s2⟩
    cases z1 : (decide ((p.id.length : Int) ≤ 255))
    case false =>
      refine qJ ?_; repeat' (first | ((first | (with_reducible apply qI) | with_reducible apply qQ | ((refine GTri.mono (yV _ _ _) ?_); rintro _ _ ⟨rfl, hh9⟩; replace hh9 := hh9.symm; subst hh9)) <;> try simp only [qM, qB, qE, qG, qC, qA, qF, reduceIte, seval, Int.cast_ofNat_Int, qN, qO, wO, z0, z1, qH m2 zZ, qH m2 qV, gPick]))
      try simp only [hbl, z0, z1, Bool.false_and, Bool.true_and, Bool.and_false]
      first | exact s1.trans s2 | exact ⟨by first | rfl | trivial, s1.trans s2⟩
    cases z2 : (decide ((p.ky.length : Int) ≤ 48))
    case false =>
      refine qJ ?_; repeat' (first | ((first | (with_reducible apply qI) | with_reducible apply qQ | ((refine GTri.mono (yV _ _ _) ?_); rintro _ _ ⟨rfl, hh9⟩; replace hh9 := hh9.symm; subst hh9)) <;> try simp only [qM, qB, qE, qG, qC, qA, qF, reduceIte, seval, Int.cast_ofNat_Int, qN, qO, wO, z0, z1, z2, qH m2 zZ, qH m2 qV, gPick]))
      try simp only [hbl, z0, z1, z2, Bool.false_and, Bool.true_and, Bool.and_false]
      first | exact s1.trans s2 | exact ⟨by first | rfl | trivial, s1.trans s2⟩
    refine qJ ?_; repeat' (first | ((first | (with_reducible apply qI) | with_reducible apply qQ | ((refine GTri.mono (yV _ _ _) ?_); rintro _ _ ⟨rfl, hh9⟩; replace hh9 := hh9.symm; subst hh9)) <;> try simp only [qM, qB, qE, qG, qC, qA, qF, reduceIte, seval, Int.cast_ofNat_Int, qN, qO, wO, z0, z1, z2, qH m2 zZ, qH m2 qV, gPick]))
    first | exact s1.trans s2 | exact ⟨by first | rfl | trivial, s1.trans s2⟩
  have e1 : (p.kd == 1) = false := by simp [k1']
  rw [if_neg k1']
  by_cases k2 : p.kd = 2
  · have e2 : (p.kd == 2) = true := by simp [k2]
    rw [if_pos k2]
    refine qJ ?_; repeat' (first | (with_reducible first | apply qK | apply qR) | ((first | (with_reducible apply qI) | (with_reducible first | apply qD | apply qS)) <;> try simp only [qM, qB, qE, qG, qC, qA, qF, reduceIte, seval, Int.cast_ofNat_Int, qN, qO, wO, qH m1' zZ, e0, e1, e2, ld, List.map_toArray, List.map_cons, List.map_nil]))
    refine (qY0 N m1 rr q3 hl).mono ?_
    rintro _ h2 ⟨rfl, s2⟩
    have m2 := s2 _ _ m1'
    cases hbl : p.frk
    case false =>
      refine qJ ?_; repeat' (first | ((first | (with_reducible apply qI) | with_reducible apply qQ) <;> try simp only [qM, qB, qE, qG, qC, qA, qF, reduceIte, seval, Int.cast_ofNat_Int, qN, qO, wO, gPick]))
      all_goals simp only [Bool.false_and]
      first | exact s1.trans s2 | exact ⟨by first | rfl | trivial, s1.trans s2⟩
    cases z0 : (p.hsh size)
    case false =>
      refine qJ ?_; repeat' (first | ((first | (with_reducible apply qI) | with_reducible apply qQ | ((refine GTri.mono (rT _ (s2 _ _ m1) _) ?_); rintro _ _ ⟨rfl, hh9⟩; replace hh9 := hh9.symm; subst hh9)) <;> try simp only [qM, qB, qE, qG, qC, qA, qF, reduceIte, seval, Int.cast_ofNat_Int, qN, qO, wO, z0, qH m2 zZ, qH m2 qV, gPick, qH m2 tU]))
      try simp only [hbl, z0, Bool.false_and, Bool.true_and, Bool.and_false]
      first | exact s1.trans s2 | exact ⟨by first | rfl | trivial, s1.trans s2⟩
    cases z1 : ((p.kids.length : Int) == 0)
    case false =>
      refine qJ ?_; repeat' (first | ((first | (with_reducible apply qI) | with_reducible apply qQ | ((refine GTri.mono (rT _ (s2 _ _ m1) _) ?_); rintro _ _ ⟨rfl, hh9⟩; replace hh9 := hh9.symm; subst hh9)) <;> try simp only [qM, qB, qE, qG, qC, qA, qF, reduceIte, seval, Int.cast_ofNat_Int, qN, qO, wO, z0, z1, qH m2 zZ, qH m2 qV, gPick, qH m2 tU]))
      try simp only [hbl, z0, z1, Bool.false_and, Bool.true_and, Bool.and_false]
      first | exact s1.trans s2 | exact ⟨by first | rfl | trivial, s1.trans s2⟩
    refine qJ ?_; repeat' (first | ((first | (with_reducible apply qI) | with_reducible apply qQ | ((refine GTri.mono (rT _ (s2 _ _ m1) _) ?_); rintro _ _ ⟨rfl, hh9⟩; replace hh9 := hh9.symm; subst hh9)) <;> try simp only [qM, qB, qE, qG, qC, qA, qF, reduceIte, seval, Int.cast_ofNat_Int, qN, qO, wO, z0, z1, qH m2 zZ, qH m2 qV, gPick, qH m2 tU]))
    first | exact s1.trans s2 | exact ⟨by first | rfl | trivial, s1.trans s2⟩
  have e2 : (p.kd == 2) = false := by simp [k2]
  rw [if_neg k2]
  by_cases k3 : p.kd = 3
  · have e3 : (p.kd == 3) = true := by simp [k3]
    rw [if_pos k3]
    refine qJ ?_; repeat' (first | (with_reducible first | apply qK | apply qR) | ((first | (with_reducible apply qI) | (with_reducible first | apply qD | apply qS)) <;> try simp only [qM, qB, qE, qG, qC, qA, qF, reduceIte, seval, Int.cast_ofNat_Int, qN, qO, wO, qH m1' zZ, e0, e1, e2, e3, ld, List.map_toArray, List.map_cons, List.map_nil]))
    refine (qY0 N m1 rr q3 hl).mono ?_
    rintro _ h2 ⟨rfl, s2⟩
    have m2 := s2 _ _ m1'
    cases hbl : p.frk
    case false =>
      refine qJ ?_; repeat' (first | ((first | (with_reducible apply qI) | with_reducible apply qQ) <;> try simp only [qM, qB, qE, qG, qC, qA, qF, reduceIte, seval, Int.cast_ofNat_Int, qN, qO, wO, gPick]))
      all_goals simp only [Bool.false_and]
      first | exact s1.trans s2 | exact ⟨by first | rfl | trivial, s1.trans s2⟩
    cases z0 : (p.hsh 0)
    case false =>
      refine qJ ?_; repeat' (first | ((first | (with_reducible apply qI) | with_reducible apply qQ | ((refine GTri.mono (rT _ (s2 _ _ m1) _) ?_); rintro _ _ ⟨rfl, hh9⟩; replace hh9 := hh9.symm; subst hh9)) <;> try simp only [qM, qB, qE, qG, qC, qA, qF, reduceIte, seval, Int.cast_ofNat_Int, qN, qO, wO, z0, qH m2 zZ, qH m2 qV, gPick, qH m2 tU]))
      try simp only [hbl, z0, Bool.false_and, Bool.true_and, Bool.and_false]
      first | exact s1.trans s2 | exact ⟨by first | rfl | trivial, s1.trans s2⟩
    cases z1 : ((p.kids.length : Int) == 2)
    case false =>
      refine qJ ?_; repeat' (first | ((first | (with_reducible apply qI) | with_reducible apply qQ | ((refine GTri.mono (rT _ (s2 _ _ m1) _) ?_); rintro _ _ ⟨rfl, hh9⟩; replace hh9 := hh9.symm; subst hh9)) <;> try simp only [qM, qB, qE, qG, qC, qA, qF, reduceIte, seval, Int.cast_ofNat_Int, qN, qO, wO, z0, z1, qH m2 zZ, qH m2 qV, gPick, qH m2 tU]))
      try simp only [hbl, z0, z1, Bool.false_and, Bool.true_and, Bool.and_false]
      first | exact s1.trans s2 | exact ⟨by first | rfl | trivial, s1.trans s2⟩
    refine qJ ?_; repeat' (first | ((first | (with_reducible apply qI) | with_reducible apply qQ | ((refine GTri.mono (rT _ (s2 _ _ m1) _) ?_); rintro _ _ ⟨rfl, hh9⟩; replace hh9 := hh9.symm; subst hh9)) <;> try simp only [qM, qB, qE, qG, qC, qA, qF, reduceIte, seval, Int.cast_ofNat_Int, qN, qO, wO, z0, z1, qH m2 zZ, qH m2 qV, gPick, qH m2 tU]))
    first | exact s1.trans s2 | exact ⟨by first | rfl | trivial, s1.trans s2⟩
  have e3 : (p.kd == 3) = false := by simp [k3]
  rw [if_neg k3]
  refine qJ ?_; repeat' (first | (with_reducible first | apply qK | apply qR) | ((first | (with_reducible apply qI) | (with_reducible first | apply qD | apply qS | apply qP | apply qQ)) <;> try simp only [qM, qB, qE, qG, qC, qA, qF, reduceIte, seval, Int.cast_ofNat_Int, qN, qO, wO, qH m1' zZ, e0, e1, e2, e3, ld, List.map_toArray, List.map_cons, List.map_nil]))
  exact s1
theorem c_Bits (N : Nat) {h : GH} {cs : List Value} {p : Pn K} (r : RPn R h cs p) (hl : p.pf.length ≤ 100000000) : GTri Tryz.prog N 109 [.agg cs.toArray] h fun v h' => HS h h' ∧ ∃ a c, v = .slice a p.bits.length c ∧ RB h' (.slice a p.bits.length c) p.bits := by
  obtain ⟨a1, c1, a2, c2, a3, c3, a4, c4, a5, c5, a6, c6, rfl, r1, r2, r3, r4, r5, r6⟩ := r
  unfold Pn.bits
  refine xN Tryz.func109 rfl gf109 ok109 (by simp [Tryz.ntmps109]) ?_
  repeat' (first | with_reducible apply qK | (with_reducible apply qD <;> try simp only [qM, qB, qE, qG, qC, qA, qF, reduceIte, seval, Int.cast_ofNat_Int, qN, qO, rO]))
  refine uL rfl fun k1 h1 m1 s1 f1 n1 => ?_
  simp only [Pn.cs] at m1
  by_cases k1' : p.kd = 1
  · have e1 : (p.kd == 1) = true := by simp [k1']
    rw [if_pos k1']
    refine qJ ?_; repeat' (first | with_reducible apply qK | ((first | (with_reducible apply qI) | (with_reducible first | apply qD | apply qS)) <;> try simp only [qM, qB, qE, qG, qC, qA, qF, reduceIte, seval, Int.cast_ofNat_Int, qN, qO, rO, qH m1 zZ, qH m1 qV, e1]))
    refine (qC7 N h1 (r1.hs s1) rfl).mono ?_
    rintro _ h2 ⟨s2, a7, c7, rfl, r7, _⟩
    refine qJ ?_; repeat' (first | ((first | (with_reducible apply qI) | with_reducible apply qQ) <;> try simp only [qM, qB, qE, qG, qC, qA, qF, reduceIte, seval, Int.cast_ofNat_Int, qN, qO, rO]))
    exact ⟨s1.trans s2, a7, c7, rfl, r7⟩
  · have e1 : (p.kd == 1) = false := by simp [k1']
    rw [if_neg k1']
    refine qJ ?_; repeat' (first | with_reducible apply qK | ((first | (with_reducible apply qI) | (with_reducible first | apply qD | apply qS | apply qP)) <;> try simp only [qM, qB, qE, qG, qC, qA, qF, reduceIte, seval, Int.cast_ofNat_Int, qN, qO, rO, qH m1 zZ, qH m1 qV, e1]))
    refine (jB N h1 (r3.hs s1) (by omega)).mono ?_
    rintro _ h2 ⟨s2, o2⟩
    obtain ⟨a7, c7, rfl⟩ := o2.form
    refine qJ ?_; repeat' (first | ((first | (with_reducible apply qI) | with_reducible apply qQ) <;> try simp only [qM, qB, qE, qG, qC, qA, qF, reduceIte, seval, Int.cast_ofNat_Int, qN, qO, rO]))
    exact ⟨s1.trans s2, a7, c7, rfl, o2.rb⟩
theorem c_ends (N : Nat) {h : GH} {cs : List Value} {p : Pn K} (r : RPn R h cs p) (fR : ∀ {h h'}, HS h h' → ∀ cs x, R h cs x → R h' cs x) (size : Int) (hl : p.pf.length ≤ 100000000) (hid : p.id.length ≤ 100000000) {a : Option Addr} {c : Nat} {row : List UInt8} (rr : RB h (.slice a row.length c) row) (hrow : row.length ≤ 100000000) (last : Int) (hla : -1 ≤ last) (hlb : last ≤ 1000000000) :
    GTri Tryz.prog N 64 [.int .i64 size, .slice a row.length c, .int .i64 last, .agg cs.toArray] h fun v h' => v = .bool (p.ends size row last) ∧ HS h h' := by
  have r0 := r
  obtain ⟨a1, c1, a2, c2, a3, c3, a4, c4, a5, c5, a6, c6, rfl, r1, r2, r3, r4, r5, r6⟩ := r
  have wl : IntKind.i64.wrap (last + 1) = last + 1 := by rw [wrap64 (by omega) (by omega)]
  have hbl : p.bits.length ≤ 100000000 := by
    unfold Pn.bits
    split
    · rw [vM]; omega
    · exact hl
  unfold Pn.ends
  refine xN Tryz.func64 rfl gf64 ok64 (by simp [Tryz.ntmps64]) ?_
  repeat' (first | with_reducible apply qK | (with_reducible apply qD <;> try simp only [qM, qB, qE, qG, qC, qA, qF, reduceIte, seval, Int.cast_ofNat_Int, qN, qO, jQ]))
  refine uL rfl fun k1 h1 m1 s1 f1 n1 => ?_
  have q0 := r0.hs s1 (fR s1)
  have q3 := r3.hs s1
  have ld := zQ (P := Tryz.prog) (t := 26) m1 lI rfl
  have m1' := m1
  simp only [Pn.cs] at m1'
  cases e3 : (p.kd == 3)
  case true =>
    rw [if_pos (by simp)]
    refine qJ ?_; repeat' (first | with_reducible apply qK | ((first | (with_reducible apply qI) | (with_reducible first | apply qD | apply qS | apply qQ)) <;> try simp only [qM, qB, qE, qG, qC, qA, qF, reduceIte, seval, Int.cast_ofNat_Int, qN, qO, jQ, qH m1' zZ, e3, gPick]))
    exact s1
  refine qJ ?_; repeat' (first | with_reducible apply qK | ((first | (with_reducible apply qI) | with_reducible apply qD) <;> try simp only [qM, qB, qE, qG, qC, qA, qF, reduceIte, seval, Int.cast_ofNat_Int, qN, qO, jQ, qH m1' zZ, e3, ld, gPick]))
  refine (c_Right N q0 fR size hl).mono ?_
  rintro _ h2 ⟨rfl, s2⟩
  have S2 := s1.trans s2
  have m2 := s2 _ _ m1'
  cases hr : p.right size
  case false =>
    rw [if_pos (by simp)]
    refine qJ ?_; repeat' (first | with_reducible apply qK | ((first | (with_reducible apply qI) | (with_reducible first | apply qD | apply qS | apply qQ)) <;> try simp only [qM, qB, qE, qG, qC, qA, qF, reduceIte, seval, Int.cast_ofNat_Int, qN, qO, jQ, qH m2 zZ, e3, gPick]))
    exact S2
  rw [if_neg (by simp)]
  by_cases k0 : p.kd = 0
  · have e0 : (p.kd == 0) = true := by simp [k0]
    rw [if_pos k0]
    refine qJ ?_; repeat' (first | with_reducible apply qK | ((first | (with_reducible apply qI) | (with_reducible first | apply qD | apply qS | apply qP | apply qQ)) <;> try simp only [qM, qB, qE, qG, qC, qA, qF, reduceIte, seval, Int.cast_ofNat_Int, qN, qO, jQ, qH m2 zZ, e3, e0, gPick]))
    exact S2
  have e0 : (p.kd == 0) = false := by simp [k0]
  rw [if_neg k0]
  have ld2 := zQ (P := Tryz.prog) (t := 26) (s2 _ _ m1) lI rfl
  refine qJ ?_; repeat' (first | with_reducible apply qK | ((first | (with_reducible apply qI) | (with_reducible first | apply qD | apply qS | apply qP)) <;> try simp only [qM, qB, qE, qG, qC, qA, qF, reduceIte, seval, Int.cast_ofNat_Int, qN, qO, jQ, qH m2 zZ, e3, e0, ld2, gPick]))
  refine (c_Bits N (q0.hs s2 (fR s2)) hl).mono ?_
  rintro _ h3 ⟨s3, a7, c7, rfl, r7⟩
  have m3 := s3 _ _ m2
  have S3 := S2.trans s3
  have rr3 := rr.hs S3
  have q33 := (q3.hs s2).hs s3
  cases hb1 : dF p.bits row (last + 1)
  case false =>
    refine qJ ?_; repeat' (first | with_reducible apply qK | ((first | (with_reducible apply qI) | (with_reducible first | apply qD | apply qQ) | ((refine GTri.mono (jS _ _ r7 rr3 (by omega) (by omega) _) ?_); rintro _ _ ⟨rfl, hh9⟩; replace hh9 := hh9.symm; subst hh9)) <;> try simp only [qM, qB, qE, qG, qC, qA, qF, reduceIte, seval, Int.cast_ofNat_Int, qN, qO, jQ, wl, hb1, gPick]))
    first | exact S3 | exact ⟨by simp, S3⟩
  cases e1 : (p.kd == 1)
  case true =>
    refine qJ ?_; repeat' (first | with_reducible apply qK | ((first | (with_reducible apply qI) | (with_reducible first | apply qD | apply qQ) | ((refine GTri.mono (jS _ _ r7 rr3 (by omega) (by omega) _) ?_); rintro _ _ ⟨rfl, hh9⟩; replace hh9 := hh9.symm; subst hh9)) <;> try simp only [qM, qB, qE, qG, qC, qA, qF, reduceIte, seval, Int.cast_ofNat_Int, qN, qO, jQ, wl, hb1, gPick, qH m3 zZ, e1]))
    first | exact S3 | exact ⟨by simp, S3⟩
  cases dl : decide (p.dp > last)
  case false =>
    refine qJ ?_; repeat' (first | with_reducible apply qK | ((first | (with_reducible apply qI) | (with_reducible first | apply qD | apply qQ) | ((refine GTri.mono (jS _ _ r7 rr3 (by omega) (by omega) _) ?_); rintro _ _ ⟨rfl, hh9⟩; replace hh9 := hh9.symm; subst hh9)) <;> try simp only [qM, qB, qE, qG, qC, qA, qF, reduceIte, seval, Int.cast_ofNat_Int, qN, qO, jQ, wl, hb1, gPick, qH m3 zZ, e1, dl]))
    first | exact S3 | exact ⟨by simp, S3⟩
  refine qJ ?_; repeat' (first | with_reducible apply qK | ((first | (with_reducible apply qI) | (with_reducible first | apply qD | apply qQ) | ((refine GTri.mono (jS _ _ r7 rr3 (by omega) (by omega) _) ?_); rintro _ _ ⟨rfl, hh9⟩; replace hh9 := hh9.symm; subst hh9) | ((refine GTri.mono (jS _ _ rr3 q33 (by omega) (by omega) _) ?_); rintro _ _ ⟨rfl, hh9⟩; replace hh9 := hh9.symm; subst hh9)) <;> try simp only [qM, qB, qE, qG, qC, qA, qF, reduceIte, seval, Int.cast_ofNat_Int, qN, qO, jQ, wl, hb1, gPick, qH m3 zZ, qH m3 qV, e1, dl]))
  first | exact S3 | exact ⟨by simp, S3⟩
theorem c_Check (N : Nat) {h : GH} {cs : List Value} {p : Pn K} (r : RPn R h cs p) (fR : ∀ {h h'}, HS h h' → ∀ cs x, R h cs x → R h' cs x) (size : Int) (hl : p.pf.length ≤ 100000000) (hid : p.id.length ≤ 100000000) {a b : Option Addr} {c d : Nat} {id : List UInt8} (ri : RB h (.slice a id.length c) id) {hops : List Hp} (rh : RL 3 RHp h (.slice b hops.length d) hops) (hh : hops.length ≤ 100000000) :
    GTri Tryz.prog N 19 [.int .i64 size, .slice a id.length c, .agg (.slice b hops.length d :: cs).toArray] h fun v h' => v = .int .i64 (cond (qK7 size id hops p) 0 95) ∧ HS h h' := by
  have hcs := r.len
  have hkl := vM id
  unfold qK7 qS3
  refine xN Tryz.func19 rfl gf19 ok19 (by simp [Tryz.ntmps19]) ?_
  repeat' (first | with_reducible apply qK | (with_reducible apply qD <;> try simp only [qM, qB, qE, qG, qC, qA, qF, reduceIte, seval, Int.cast_ofNat_Int, qN, qO, yE]))
  refine uL (by simp only [List.all_cons, hcs.2.1]; rfl) fun k1 h1 m1 s1 f1 n1 => ?_
  cases z0 : decide (size < 1)
  case true =>
    refine qJ ?_; repeat' (first | with_reducible apply qK | ((first | (with_reducible apply qI) | (with_reducible first | apply qD | apply qS | apply qQ)) <;> try simp only [qM, qB, qE, qG, qC, qA, qF, reduceIte, seval, Int.cast_ofNat_Int, qN, qO, yE, z0, gPick]))
    exact ⟨by first | rfl | simp, s1⟩
  cases z1 : decide (size > 32)
  case true =>
    refine qJ ?_; repeat' (first | with_reducible apply qK | ((first | (with_reducible apply qI) | (with_reducible first | apply qD | apply qS | apply qQ)) <;> try simp only [qM, qB, qE, qG, qC, qA, qF, reduceIte, seval, Int.cast_ofNat_Int, qN, qO, yE, z0, z1, gPick]))
    exact ⟨by first | rfl | simp, s1⟩
  cases z2 : decide ((id.length : Int) > 24)
  case true =>
    refine qJ ?_; repeat' (first | with_reducible apply qK | ((first | (with_reducible apply qI) | (with_reducible first | apply qD | apply qS | apply qQ)) <;> try simp only [qM, qB, qE, qG, qC, qA, qF, reduceIte, seval, Int.cast_ofNat_Int, qN, qO, yE, z0, z1, z2, gPick]))
    exact ⟨by first | rfl | simp, s1⟩
  simp only [Bool.or_false, Bool.not_false, Bool.true_and]
  have hid24 : (id.length : Int) ≤ 24 := by simpa using z2
  refine qJ ?_; repeat' (first | with_reducible apply qK | ((first | (with_reducible apply qI) | (with_reducible first | apply qD | apply qS | apply qP)) <;> try simp only [qM, qB, qE, qG, qC, qA, qF, reduceIte, seval, Int.cast_ofNat_Int, qN, qO, yE, z0, z1, z2, gPick]))
  refine (qC7 N h1 (ri.hs s1) rfl).mono ?_
  rintro _ h2 ⟨s2, ar, cr, rfl, rr, _⟩
  have S2 := s1.trans s2
  have m2 := s2 _ _ m1
  have w8 : IntKind.i64.wrap (8 * ((qY id).length : Int)) = 8 * ((qY id).length : Int) := by rw [wrap64 (by omega) (by omega)]
  refine qJ ?_; repeat' (first | (with_reducible first | apply qK | apply qR) | ((first | (with_reducible apply qI) | with_reducible apply qD) <;> try simp only [qM, qB, qE, qG, qC, qA, qF, reduceIte, seval, Int.cast_ofNat_Int, qN, qO, yE, qH m2 dW]))
  refine xS [0, 5, 7, 25, 26] (fun (s : Nat × Int) => [(8, .int .i64 s.2), (27, .int .i64 (s.1 : Int))]) (fun q s h' => hops.length - s.1 = q ∧ s.1 ≤ hops.length ∧ HS h2 h' ∧ -1 ≤ s.2 ∧ s.2 ≤ 8 * ((qY id).length : Int) ∧ sD size (qY id) (-1) hops = sD size (qY id) s.2 (hops.drop s.1)) hops.length (0, -1) (by simp [lk]) ⟨rfl, Nat.zero_le _, HS.refl _, by simp, by simp only; omega, by simp⟩ ?_
  rintro _ ⟨i, last⟩ h3 ⟨rfl, hil, s3, hla, hlb, he⟩
  simp only at hil hla hlb he
  have S3 := S2.trans s3
  have m3 := s3 _ _ m2
  by_cases hi : i < hops.length
  case neg =>
    obtain rfl : i = hops.length := by omega
    have d3 : decide ((hops.length : Int) < (hops.length : Int)) = false := decide_eq_false (by omega)
    rw [List.drop_length] at he
    rw [he]
    have rp3 := r.hs S3 (fR S3)
    have ldp : wY Tryz.prog 26 h3 (.pointer (some ⟨k1, 1, none⟩)) = some (.agg cs.toArray) := wI m3 lI (by rw [List.drop_one, List.tail_cons, List.take_of_length_le (by omega)]) hcs.1
    refine qJ ?_; repeat' (first | with_reducible apply qK | ((first | (with_reducible apply qI) | (with_reducible first | apply qD | apply qS | apply xX)) <;> try simp only [qM, qB, qE, qG, qC, qA, qF, reduceIte, seval, Int.cast_ofNat_Int, qN, qO, yE, d3, ldp]))
    refine (c_ends N rp3 fR size hl hid (rr.hs s3) (by omega) last hla (by omega)).mono ?_
    rintro _ h4 ⟨rfl, s4⟩
    simp only [sD]
    cases hen : p.ends size (qY id) last
    · refine qJ ?_; repeat' (first | with_reducible apply qK | ((first | (with_reducible apply qI) | (with_reducible first | apply qD | apply qS | apply qQ)) <;> try simp only [qM, qB, qE, qG, qC, qA, qF, reduceIte, seval, Int.cast_ofNat_Int, qN, qO, yE]))
      exact ⟨rfl, S3.trans s4⟩
    · refine qJ ?_; repeat' (first | with_reducible apply qK | ((first | (with_reducible apply qI) | (with_reducible first | apply qD | apply qS | apply qP | apply qQ)) <;> try simp only [qM, qB, qE, qG, qC, qA, qF, reduceIte, seval, Int.cast_ofNat_Int, qN, qO, yE]))
      exact ⟨rfl, S3.trans s4⟩
  have d3 : decide ((i : Int) < (hops.length : Int)) = true := decide_eq_true (by omega)
  have wi : IntKind.i64.wrap ((i : Int) + 1) = ((i + 1 : Nat) : Int) := by rw [wrap64 (by omega) (by omega)]; omega
  obtain ⟨x, hx⟩ := yO hi
  have hdr : hops.drop i = x :: hops.drop (i + 1) := by
    have h1 := List.getElem?_eq_some_iff.1 hx
    rw [List.drop_eq_getElem_cons h1.1, h1.2]
  rw [hdr] at he
  simp only [sD] at he
  have rh3 := RL.hs (R := RHp) S3 (fun _ _ q => q.hs S3) rh
  obtain ⟨ad, cs5, g1, g2, a5, c5, rfl, p1⟩ := RL.at (P := Tryz.prog) rh3 Tryz.underlying23 qZ2 hx
  refine qJ ?_; repeat' (first | (with_reducible first | apply qK | apply qR) | ((first | (with_reducible apply qI) | (with_reducible first | apply qD | apply qS | apply qP)) <;> try simp only [qM, qB, qE, qG, qC, qA, qF, reduceIte, seval, Int.cast_ofNat_Int, qN, qO, yE, d3, g1, qE3 qZ2 g2]))
  refine xQ fun k10 h4 m4 s4 f4 n4 => ?_
  refine qJ ?_; repeat' (first | ((with_reducible apply qI) <;> try simp only [qM, qB, qE, qG, qC, qA, qF, reduceIte, seval, Int.cast_ofNat_Int, qN, qO, yE]))
  refine wC m4 qZ2 rfl (by decide) rfl rfl rfl fun h5 m5 f5 => ?_
  simp only [vcells] at m5
  have s35 := s4.upd n4 f5
  have S5 := S3.trans s35
  cases y0 : (decide (x.1 ≤ last))
  case true =>
    have hk : tR size (qY id) last x = false := by unfold tR; simp only [y0, Bool.or_true, Bool.true_or, Bool.false_or, Bool.not_true]
    rw [hk] at he
    rw [he]
    refine qJ ?_; repeat' (first | with_reducible apply qK | ((first | (with_reducible apply qI) | (with_reducible first | apply qD | apply qS | apply qQ)) <;> try simp only [qM, qB, qE, qG, qC, qA, qF, reduceIte, seval, Int.cast_ofNat_Int, qN, qO, yE, y0, w8, qH m5 zZ, qH m5 qV, gPick]))
    exact ⟨rfl, S5⟩
  cases y1 : (decide (x.1 ≥ 8 * ((qY id).length : Int)))
  case true =>
    have hk : tR size (qY id) last x = false := by unfold tR; simp only [y0, y1, Bool.or_true, Bool.true_or, Bool.false_or, Bool.not_true]
    rw [hk] at he
    rw [he]
    refine qJ ?_; repeat' (first | with_reducible apply qK | ((first | (with_reducible apply qI) | (with_reducible first | apply qD | apply qS | apply qQ)) <;> try simp only [qM, qB, qE, qG, qC, qA, qF, reduceIte, seval, Int.cast_ofNat_Int, qN, qO, yE, y0, y1, w8, qH m5 zZ, qH m5 qV, gPick]))
    exact ⟨rfl, S5⟩
  cases y2 : (!epB x.2.1)
  case true =>
    have hk : tR size (qY id) last x = false := by unfold tR; simp only [y0, y1, y2, Bool.or_true, Bool.true_or, Bool.false_or, Bool.not_true]
    rw [hk] at he
    rw [he]
    refine qJ ?_; repeat' (first | with_reducible apply qK | ((first | (with_reducible apply qI) | (with_reducible first | apply qD | apply qS | apply qQ) | ((refine GTri.mono (yV _ _ _) ?_); rintro _ _ ⟨rfl, hh9⟩; replace hh9 := hh9.symm; subst hh9)) <;> try simp only [qM, qB, qE, qG, qC, qA, qF, reduceIte, seval, Int.cast_ofNat_Int, qN, qO, yE, y0, y1, y2, w8, qH m5 zZ, qH m5 qV, gPick]))
    exact ⟨rfl, S5⟩
  cases y3 : ((x.2.2.length : Int) != size)
  case true =>
    have hk : tR size (qY id) last x = false := by unfold tR; simp only [y0, y1, y2, y3, Bool.or_true, Bool.true_or, Bool.false_or, Bool.not_true]
    rw [hk] at he
    rw [he]
    refine qJ ?_; repeat' (first | with_reducible apply qK | ((first | (with_reducible apply qI) | (with_reducible first | apply qD | apply qS | apply qQ) | ((refine GTri.mono (yV _ _ _) ?_); rintro _ _ ⟨rfl, hh9⟩; replace hh9 := hh9.symm; subst hh9)) <;> try simp only [qM, qB, qE, qG, qC, qA, qF, reduceIte, seval, Int.cast_ofNat_Int, qN, qO, yE, y0, y1, y2, y3, w8, qH m5 zZ, qH m5 qV, gPick]))
    exact ⟨rfl, S5⟩
  have hk : tR size (qY id) last x = true := by unfold tR; simp only [y0, y1, y2, y3, Bool.or_self, Bool.not_false]
  rw [if_pos hk] at he
  have hx1 : -1 ≤ x.1 ∧ x.1 ≤ 8 * ((qY id).length : Int) := by
    have q1 : ¬ x.1 ≤ last := by simpa using y0
    have q2 : ¬ x.1 ≥ 8 * ((qY id).length : Int) := by simpa using y1
    omega
  refine qJ ?_; repeat' (first | with_reducible apply qK | ((first | (with_reducible apply qI) | (with_reducible first | apply qD | apply qS | apply qP) | ((refine GTri.mono (yV _ _ _) ?_); rintro _ _ ⟨rfl, hh9⟩; replace hh9 := hh9.symm; subst hh9)) <;> try simp only [qM, qB, qE, qG, qC, qA, qF, reduceIte, seval, Int.cast_ofNat_Int, qN, qO, yE, y0, y1, y2, y3, w8, wi, qH m5 zZ, qH m5 qV, gPick]))
  exact ⟨_, (i + 1, x.1), by simp only; omega, (by simp only [List.forall_mem_cons, List.not_mem_nil, false_implies, implies_true, List.map, List.cons_append, List.nil_append, lk, Nat.reduceEqDiff, reduceIte, and_true, true_and]), rfl, by simp only; omega, s3.trans s35, hx1.1, hx1.2, he⟩
end
theorem kO : type_of% (And.intro zR (And.intro fC (And.intro uG (And.intro kU (And.intro xW (And.intro wS rs39)))))) := And.intro zR (And.intro fC (And.intro uG (And.intro kU (And.intro xW (And.intro wS rs39)))))
def jN : Nat → List (Nat × List Nat) × List Nat
  | 3 => ([(0, []), (1, []), (2, []), (3, []), (4, []), (5, []), (6, [1, 3]), (7, []), (8, []), (9, [])], [0, 1, 0, 4, 0, 16, 48, 127, 255, 511])
  | _ => ([], [])
theorem qW5 : type_of% (And.intro pO (And.intro qD1 rs40)) := And.intro pO (And.intro qD1 rs40)
theorem yZ : type_of% (And.intro zR (And.intro pO (And.intro qD1 (And.intro xW (And.intro kC rs78))))) := And.intro zR (And.intro pO (And.intro qD1 (And.intro xW (And.intro kC rs78))))
theorem sL : type_of% (And.intro zR (And.intro uG (And.intro xW (And.intro wS rs43)))) := And.intro zR (And.intro uG (And.intro xW (And.intro wS rs43)))
def rF : Nat → List (Nat × List Nat) × List Nat
  | 3 => ([(0, []), (1, []), (2, []), (3, []), (4, []), (5, []), (6, []), (7, []), (8, []), (9, []), (10, []), (11, []), (12, []), (13, []), (14, []), (15, [])], [0, 0, 0, 0, 0, 0, 48, 112, 0, 0, 768, 1792, 4083, 8179, 16383, 32767])
  | _ => ([], [])
def RTx (h : GH) (cs : List Value) (x : List UInt8) : Prop := ∃ a c, cs = [.slice a x.length c] ∧ RB h (.slice a x.length c) x ∧ SL h (.slice a x.length c)
theorem RTx.hs {h h' : GH} (s : HS h h') {cs : List Value} {x : List UInt8} (r : RTx h cs x) : RTx h' cs x := by
  obtain ⟨a, c, e, r1, r2⟩ := r
  exact ⟨a, c, e, r1.hs s, r2.hs s⟩
section
variable {K : Type} {R : GH → List Value → K → Prop}
theorem Pn.right_leaf {p : Pn K} {size : Int} (h : p.right size = true) (k : p.kd = 1) : 0 ≤ p.si ∧ p.si < 256 ∧ p.id.length ≤ 255 ∧ p.ky.length ≤ 48 ∧ p.noFork = true := by
  unfold Pn.right at h
  rw [if_neg (by omega), if_pos k] at h
  simp only [Bool.and_eq_true, epB, decide_eq_true_eq, Pn.blank, Bool.true_or, Bool.true_and, Bool.false_or] at h
  obtain ⟨⟨⟨h0, h1, h2⟩, h3⟩, h4⟩ := h
  exact ⟨h1, h2, by omega, by omega, h0⟩
theorem Pn.frk_ok {p : Pn K} (h : p.frk = true) : 0 ≤ p.dp ∧ p.dp ≤ 2048 ∧ 0 ≤ p.nw ∧ p.nw < 256 ∧ p.pf.length = (p.dp.toNat + 7) / 8 ∧ zH p.pf p.dp.toNat = p.pf ∧ p.noLeaf = true := by
  unfold Pn.frk at h
  simp only [Bool.and_eq_true, epB, decide_eq_true_eq, Pn.blank, Bool.or_true, Bool.true_and, Bool.false_or, Bool.and_true, beq_iff_eq] at h
  obtain ⟨⟨⟨⟨⟨h0, h1, h2⟩, h3⟩, h4⟩, h5⟩, h6⟩ := h
  have t0 := Int.tdiv_eq_ediv_of_nonneg (a := p.dp + 7) (b := 8) (by omega)
  refine ⟨h3, h4, h1, h2, by omega, h6, h0.1⟩
theorem Pn.right_closed {p : Pn K} {size : Int} (h : p.right size = true) (k : p.kd = 2) : p.frk = true ∧ (p.lf.length : Int) = size ∧ (p.rt.length : Int) = size ∧ p.kids.length = 0 := by
  unfold Pn.right at h
  rw [if_neg (by omega), if_neg (by omega), if_pos k] at h
  simp only [Bool.and_eq_true, Pn.hsh, beq_iff_eq] at h
  exact ⟨h.1.1, h.1.2.1, h.1.2.2, by omega⟩
theorem qA5 (d : Nat) (pf : List UInt8) (w : Nat) (l r : List UInt8) : (wP d pf w l r).length ≤ pf.length + l.length + r.length + 30 := by
  have h1 := wK pf d
  simp only [wP, vR, List.length_cons, kZ, fD, List.map_cons, List.map_nil, List.sum_cons, List.sum_nil, wR]
  omega
theorem zI0 (id ky : List UInt8) (w : Nat) : (gQ id ky w).length ≤ id.length + ky.length + 30 := by
  simp only [gQ, vR, List.length_cons, kZ, fD, List.map_cons, List.map_nil, List.sum_cons, List.sum_nil, wR]
  omega
theorem zC3 : emptyB.length = 1 := rfl
theorem tQ {p : Pn K} {size : Int} (h : p.right size = true) (hs : size ≤ 32) : (xE p).length ≤ 1000 := by
  unfold xE
  split
  · rename_i k
    have := p.right_leaf h k
    have := zI0 p.id p.ky p.si.toNat
    omega
  · split
    · rename_i _ k
      obtain ⟨f, a, b, _⟩ := p.right_closed h k
      have g := p.frk_ok f
      have := qA5 p.dp.toNat p.pf p.nw.toNat p.lf p.rt
      omega
    · rw [zC3]; omega
theorem c_Alone (N : Nat) {h : GH} {cs : List Value} {p : Pn K} (r : RPn R h cs p) {size : Int} (hr : p.right size = true) (hs : size ≤ 32) :
    GTri Tryz.prog N 39 [.agg cs.toArray] h fun v h' => HS h h' ∧ ∃ a c, v = .slice a (xE p).length c ∧ RB h' (.slice a (xE p).length c) (xE p) ∧ SL h' (.slice a (xE p).length c) := by
  obtain ⟨a1, c1, a2, c2, a3, c3, a4, c4, a5, c5, a6, c6, rfl, r1, r2, r3, r4, r5, r6⟩ := r
  unfold xE
  refine xN Tryz.func39 rfl gf39 ok39 (by simp [Tryz.ntmps39]) ?_
  repeat' (first | with_reducible apply qK | (with_reducible apply qD <;> try simp only [qM, qB, qE, qG, qC, qA, qF, reduceIte, seval, Int.cast_ofNat_Int, qN, qO, qL, qZ, zA, zB, kO, jN]))
  refine uL rfl fun k1 h1 m1 s1 f1 n1 => ?_
  simp only [Pn.cs] at m1
  by_cases k1' : p.kd = 1
  · have e1 : (p.kd == 1) = true := by simp [k1']
    obtain ⟨b1, b2, b3, b4, _⟩ := p.right_leaf hr k1'
    rw [if_pos k1']
    obtain ⟨w, hw⟩ : ∃ w : Nat, p.si = (w : Int) := ⟨p.si.toNat, by omega⟩
    rw [hw, Int.toNat_natCast]
    rw [hw] at m1
    refine qJ ?_; repeat' (first | (with_reducible first | apply qK | apply qR) | ((first | (with_reducible apply qI) | (with_reducible first | apply qD | apply qS) | with_reducible refine zF jN xM (by kernel_rfl) ?_) <;> try simp only [qM, qB, qE, qG, qC, qA, qF, reduceIte, seval, Int.cast_ofNat_Int, qN, qO, qL, qZ, zA, zB, kO, jN, qH m1 zZ, qH m1 qV, e1]))
    refine (rU N h1 w (by omega)).mono ?_
    rintro _ h3 ⟨t3, k3, rfl, r3'⟩
    have m3 := t3 _ _ m1
    refine qJ ?_; repeat' (first | ((with_reducible apply qI) <;> try simp only [qM, qB, qE, qG, qC, qA, qF, reduceIte, seval, Int.cast_ofNat_Int, qN, qO, qL, qZ, zA, zB, kO, jN, qH m3 zZ, qH m3 qV, e1]))
    refine gV (cs := [.slice a1 p.id.length c1, .slice a2 p.ky.length c2, .slice (some ⟨k3, 0, none⟩) 8 17]) sP rfl (by decide) (by decide) (by rw [xV _ rfl]; rfl) rfl fun k4 h4 m4 s4 f4 n4 => ?_
    have t4 := (s1.trans t3).trans s4
    have q4 : RBs h4 (.slice (some ⟨k4, 0, none⟩) ([p.id, p.ky, vP w] : List (List UInt8)).length 7) [p.id, p.ky, vP w] := fK m4 (by decide) rfl fun i x hx => by
      rcases i with _ | _ | _ | i
      · cases hx; exact ⟨_, _, rfl, r1.hs t4⟩
      · cases hx; exact ⟨_, _, rfl, r2.hs t4⟩
      · cases hx; exact ⟨_, _, rfl, r3'.hs s4⟩
      · simp at hx
    have hs4 : ∀ x ∈ ([p.id, p.ky, vP w] : List (List UInt8)), x.length ≤ 65535 := by
      intro x hx
      simp only [List.mem_cons, List.not_mem_nil, or_false] at hx
      rcases hx with rfl | rfl | rfl <;> first | omega | (rw [wR]; omega)
    have hp4 : fD [p.id, p.ky, vP w] ≤ 100000000 := by simp only [fD, List.map_cons, List.map_nil, List.sum_cons, List.sum_nil, wR]; omega
    have m14 := s4 _ _ m3
    refine qJ ?_; repeat' (first | ((with_reducible apply qI) <;> try simp only [qM, qB, qE, qG, qC, qA, qF, reduceIte, seval, Int.cast_ofNat_Int, qN, qO, qL, qZ, zA, zB, kO, jN, qH m14 zZ, qH m14 qV, e1]))
    refine (qR8 N h4 (tag := 1) (by omega) q4 hs4 (by simp) hp4).mono ?_
    rintro _ h5 ⟨s5, a7, c7, rfl, r7, sl7⟩
    refine qJ ?_; repeat' (first | ((first | (with_reducible apply qI) | with_reducible apply qQ) <;> try simp only [qM, qB, qE, qG, qC, qA, qF, reduceIte, seval, Int.cast_ofNat_Int, qN, qO, qL, qZ, zA, zB, kO, jN]))
    exact ⟨t4.trans s5, a7, c7, rfl, r7, sl7⟩
  have e1 : (p.kd == 1) = false := by simp [k1']
  rw [if_neg k1']
  by_cases k2 : p.kd = 2
  · have e2 : (p.kd == 2) = true := by simp [k2]
    obtain ⟨f, g1, g2, _⟩ := p.right_closed hr k2
    have g := p.frk_ok f
    rw [if_pos k2]
    obtain ⟨w, hw⟩ : ∃ w : Nat, p.nw = (w : Int) := ⟨p.nw.toNat, by omega⟩
    obtain ⟨d, hd⟩ : ∃ d : Nat, p.dp = (d : Int) := ⟨p.dp.toNat, by omega⟩
    rw [hw, hd, Int.toNat_natCast, Int.toNat_natCast]
    rw [hw, hd] at m1
    refine qJ ?_; repeat' (first | (with_reducible first | apply qK | apply qR) | ((first | (with_reducible apply qI) | (with_reducible first | apply qD | apply qS)) <;> try simp only [qM, qB, qE, qG, qC, qA, qF, reduceIte, seval, Int.cast_ofNat_Int, qN, qO, qL, qZ, zA, zB, kO, jN, qH m1 zZ, qH m1 qV, e1, e2]))
    refine (qI6 N (d := d) (w := w) (by omega) (by omega) (r3.hs s1) (r4.hs s1) (r5.hs s1) (by omega) (by omega) (by omega)).mono ?_
    rintro _ h5 ⟨s5, a7, c7, rfl, r7, sl7⟩
    refine qJ ?_; repeat' (first | ((first | (with_reducible apply qI) | with_reducible apply qQ) <;> try simp only [qM, qB, qE, qG, qC, qA, qF, reduceIte, seval, Int.cast_ofNat_Int, qN, qO, qL, qZ, zA, zB, kO, jN]))
    exact ⟨s1.trans s5, a7, c7, rfl, r7, sl7⟩
  have e2 : (p.kd == 2) = false := by simp [k2]
  rw [if_neg k2]
  refine qJ ?_; repeat' (first | (with_reducible first | apply qK | apply qR) | ((first | (with_reducible apply qI) | (with_reducible first | apply qD | apply qS | apply qP)) <;> try simp only [qM, qB, qE, qG, qC, qA, qF, reduceIte, seval, Int.cast_ofNat_Int, qN, qO, qL, qZ, zA, zB, kO, jN, qH m1 zZ, qH m1 qV, e1, e2]))
  refine (qR8 N h1 (tag := 0) (by omega) (ps := []) (RL.nil _) (by simp) (by simp) (by simp [fD])).mono ?_
  rintro _ h5 ⟨s5, a7, c7, rfl, r7, sl7⟩
  refine qJ ?_; repeat' (first | ((first | (with_reducible apply qI) | with_reducible apply qQ) <;> try simp only [qM, qB, qE, qG, qC, qA, qF, reduceIte, seval, Int.cast_ofNat_Int, qN, qO, qL, qZ, zA, zB, kO, jN]))
  exact ⟨s1.trans s5, a7, c7, rfl, r7, sl7⟩
end
theorem c_BwdH (N : Nat) (h : GH) (a : Option Addr) (n c : Nat) : GTri Tryz.prog N 40 [.slice a n c] h fun u h' => (∃ kb, u = .func (.func 78) #[] #[.pointer (some ⟨kb, 0, none⟩)] ∧ h' kb = some ⟨[.slice a n c], 0, true, false⟩ ∧ h kb = none) ∧ HS h h' := by
  refine xN Tryz.func40 rfl gf40 ok40 (by simp [Tryz.ntmps40]) ?_
  repeat' (first | with_reducible apply qK | (with_reducible apply qD <;> try simp only [qM, qB, qE, qG, qC, qA, qF, reduceIte, seval, Int.cast_ofNat_Int, qN, qO, qW5]))
  refine uL rfl fun k1 h1 m1 s1 f1 n1 => ?_
  refine qJ ?_; repeat' (first | with_reducible apply qK | ((first | (with_reducible apply qI) | (with_reducible first | apply qD | apply qQ)) <;> try simp only [qM, qB, qE, qG, qC, qA, qF, reduceIte, seval, Int.cast_ofNat_Int, qN, qO, qW5, List.map_toArray, List.map_cons, List.map_nil]))
  exact ⟨⟨k1, rfl, m1, n1⟩, s1⟩
theorem c_bwdH1 (N l : Nat) (r : LRec) {h : GH} {kb : Nat} {a : Option Addr} {n c : Nat} {X : Nat → List Value} (hn : n ≤ 1000000000) (I : Nat → GH → Prop) (h0 : I n h)
    (hb : ∀ i h', I i h' → h' kb = some ⟨[.slice a n c], 0, true, false⟩ ∧ ∀ j, j < n → ∃ ad, zI Tryz.prog 23 (.slice a n c) (j : Int) = some (.pointer (some ad)) ∧ wY Tryz.prog 79 h' (.pointer (some ad)) = some (.agg (X j).toArray))
    (y : ∀ i h', i < n → I (i + 1) h' → zL1 Tryz.prog N l r [.int .i64 (i : Int), .agg (X i).toArray] h' (I i)) :
    zH2 l r Tryz.prog N 78 [.func (.yield l) #[] #[], .pointer (some ⟨kb, 0, none⟩)] h (I 0) := by
  refine gtrio Tryz.func78 rfl gf78 ok78 rs78 (by simp [Tryz.ntmps78]) ?_
  obtain ⟨m0, r0⟩ := hb _ _ h0
  have w0 : IntKind.i64.wrap ((n : Int) - 1) = (n : Int) - 1 := by rw [wrap64 (by omega) (by omega)]
  simp only [qM, qB, qE, qG, qC, qA, qF, reduceIte, seval, Int.cast_ofNat_Int, qN, qO, yZ]
  refine gK ?_
  refine gZ (qD ?_)
  simp only [qM, qB, qE, qG, qC, qA, qF, reduceIte, seval, Int.cast_ofNat_Int, qN, qO, yZ, qH m0 dW, w0, List.getElem?_cons_zero, List.getElem?_cons_succ]
  refine sS ?_
  refine qU0 (fun m e' h' => m ≤ n ∧ e' = [(0, .func (.yield l) #[] #[]), (1, .pointer (some ⟨kb, 0, none⟩)), (3, .int .i64 ((m : Int) - 1))] ∧ I m h') n
    (e0 := [(0, .func (.yield l) #[] #[]), (1, .pointer (some ⟨kb, 0, none⟩)), (3, .int .i64 ((n : Int) - 1))]) ?_ ⟨Nat.le_refl _, rfl, h0⟩ ?_
  · exact (dX (by simp only [List.forall_mem_cons, List.not_mem_nil, false_implies, implies_true, lk, Nat.reduceEqDiff, reduceIte, and_true, true_and]))
  rintro m e' h' ⟨hm, rfl, hI⟩
  obtain ⟨m1, r1⟩ := hb _ _ hI
  refine gK ?_
  refine gK ?_
  refine gZ (qD ?_)
  by_cases hm0 : m = 0
  · have d : decide ((m : Int) - 1 ≥ 0) = false := decide_eq_false (by omega)
    simp only [qM, qB, qE, qG, qC, qA, qF, reduceIte, seval, Int.cast_ofNat_Int, qN, qO, yZ, d]
    refine lQ ?_
    simp only [qM, qB, qE, qG, qC, qA, qF, reduceIte, seval, Int.cast_ofNat_Int, qN, qO, yZ, qU6]
    refine gZ (xX ?_)
    simp only [qM, qB, qE, qG, qC, qA, qF, reduceIte, seval, Int.cast_ofNat_Int, qN, qO, yZ]
    subst hm0
    exact ⟨.inl trivial, hI⟩
  obtain ⟨i, rfl⟩ : ∃ i, m = i + 1 := ⟨m - 1, by omega⟩
  have e1 : ((i + 1 : Nat) : Int) - 1 = (i : Int) := by omega
  rw [e1]
  have d : decide ((i : Int) ≥ 0) = true := decide_eq_true (by omega)
  simp only [qM, qB, qE, qG, qC, qA, qF, reduceIte, seval, Int.cast_ofNat_Int, qN, qO, yZ, d]
  refine lQ ?_
  simp only [qM, qB, qE, qG, qC, qA, qF, reduceIte, seval, Int.cast_ofNat_Int, qN, qO, yZ, gif_t]
  refine gZ (qP ?_)
  simp only [qM, qB, qE, qG, qC, qA, qF, reduceIte, seval, Int.cast_ofNat_Int, qN, qO, yZ]
  refine gK ?_
  refine sS ?_
  refine gK ?_
  obtain ⟨ad, g1, l4⟩ := r1 i (by omega)
  refine gro_of ?_
  refine zE9 6 ?_
  simp only [qM, qB, qE, qG, qC, qA, qF, reduceIte, seval, Int.cast_ofNat_Int, qN, qO, yZ, qH m1 dW, g1, l4, List.getElem?_cons_zero, List.getElem?_cons_succ, List.drop_succ_cons, List.drop_zero, List.take_succ_cons, List.take_zero]
  refine qM5 rfl ?_
  simp only [qM, qB, qE, qG, qC, qA, qF, reduceIte, seval, Int.cast_ofNat_Int, qN, qO, yZ]
  have yy := y i h' (by omega) hI
  intro hG φ w args' sm hv hlo
  obtain ⟨fn, tmps, assign, body, q1, q2⟩ := yy hG φ w args' sm hv hlo
  refine ⟨fn, tmps, assign, body, q1, q2.mono ?_⟩
  rintro e w' ⟨φ', h2, p1, p2, p3, p4, p5⟩
  refine ⟨φ', h2, p1, p2, p3, p4, ?_⟩
  refine zE8 ?_
  simp only [qM, qB, qE, qG, qC, qA, qF, reduceIte, seval, Int.cast_ofNat_Int, qN, qO, yZ, yH]
  refine lQ ?_
  simp only [qM, qB, qE, qG, qC, qA, qF, reduceIte, seval, Int.cast_ofNat_Int, qN, qO, yZ, qU6, Bool.not_true]
  refine gZ (qP ?_)
  simp only [qM, qB, qE, qG, qC, qA, qF, reduceIte, seval, Int.cast_ofNat_Int, qN, qO, yZ]
  refine gZ (qD ?_)
  have w1 : IntKind.i64.wrap ((i : Int) - 1) = (i : Int) - 1 := by rw [wrap64 (by omega) (by omega)]
  simp only [qM, qB, qE, qG, qC, qA, qF, reduceIte, seval, Int.cast_ofNat_Int, qN, qO, yZ, w1]
  exact ⟨i, _, by omega, (dX (by simp only [List.forall_mem_cons, List.not_mem_nil, false_implies, implies_true, lk, Nat.reduceEqDiff, reduceIte, and_true, true_and])), by omega, rfl, p5⟩
theorem RL.cells {α : Type} {es : Nat} {R : GH → List Value → α → Prop} {h : GH} {a : Option Addr} {n c : Nat} {l : List α} (r : RL es R h (.slice a n c) l) (he : es ≠ 0) : ∃ cs : List Value, ∀ (i : Nat) x, l[i]? = some x → R h ((cs.drop (i * es)).take es) x ∧ ∀ (P : Program) (t e : TypeId) (b : Bool), P.underlying t = some (.slice e) → vB P e = some (b, es) → ∃ ad, zI P t (.slice a n c) (i : Int) = some (.pointer (some ad)) ∧ xT h ad es = some ((cs.drop (i * es)).take es) := by
  rcases r with ⟨_, _, rfl⟩ | ⟨ad, c', cs, hv, h2, h3, h4, h5⟩
  · exact ⟨[], fun i x hx => by simp at hx⟩
  · cases hv
    refine ⟨cs, fun i x hx => ⟨h4 i x hx, fun P t e b ht hz => ?_⟩⟩
    have hlt := (List.getElem?_eq_some_iff.1 hx).1
    have hsp : ad.spot = none := by
      have hne : l.length * es ≠ 0 := Nat.mul_ne_zero (by omega) he
      unfold xT at h2
      rw [if_neg hne] at h2
      split at h2
      · assumption
      · cases h2
    refine ⟨⟨ad.block, ad.off + i * es, none⟩, ?_, ?_⟩
    · simp only [zI, ht, hz]
      rw [if_pos (by omega)]
      simp [hsp]
    · have hle : i * es + es ≤ l.length * es := by
        have := Nat.mul_le_mul_right es (show i + 1 ≤ l.length by omega)
        rwa [Nat.add_mul, Nat.one_mul] at this
      have := fO h2 (i * es) es hle
      rw [hsp] at this
      exact this
theorem c_Rev (N : Nat) {k : Nat} {h : GH} {n c : Nat} {cs : List Value} {tl : Bool} (m : h k = some ⟨cs, 1, true, tl⟩) (hl : cs.length = n) (hn : n ≤ 1000000000) (hs : ∀ (i : Nat) v, cs[i]? = some v → vcells v = [v] ∧ zG v = true) :
    GTri Tryz.prog N 43 [.slice (some ⟨k, 0, none⟩) n c] h fun u h' => u = .tuple #[] ∧ h' k = some ⟨cs.reverse, 1, true, tl⟩ ∧ HX k h h' := by
  have w0 : IntKind.i64.wrap ((n : Int) - 1) = (n : Int) - 1 := by rw [wrap64 (by omega) (by omega)]
  refine xN Tryz.func43 rfl gf43 ok43 (by simp [Tryz.ntmps43]) ?_
  refine qJ ?_; repeat' (first | (with_reducible first | apply qK | apply qR) | ((first | (with_reducible apply qI) | with_reducible apply qD) <;> try simp only [qM, qB, qE, qG, qC, qA, qF, reduceIte, seval, Int.cast_ofNat_Int, qN, qO, qL, qZ, zA, zB, sL, rF, w0]))
  refine xS [0] (fun (j : Nat) => [(2, .int .i64 (j : Int)), (3, .int .i64 ((n : Int) - 1 - (j : Int)))]) (fun q j h' => n - j = q ∧ j ≤ n ∧ (j = 0 ∨ 2 * j ≤ n + 1) ∧ HX k h h' ∧ ∃ ds, h' k = some ⟨ds, 1, true, tl⟩ ∧ ds.length = n ∧ ∀ i, i < n → ds[i]? = if i < j ∨ n - j ≤ i then cs[n - 1 - i]? else cs[i]?) n 0 (by simp [lk]) ⟨rfl, Nat.zero_le _, .inl rfl, HX.refl _ _, cs, m, hl, fun i hi => by rw [if_neg (by omega)]⟩ ?_
  rintro _ j h1 ⟨rfl, hjn, hj2, x1, ds, m1, hdl, hd⟩
  by_cases hlt : (j : Int) < (n : Int) - 1 - (j : Int)
  case neg =>
    have d : decide ((j : Int) < (n : Int) - 1 - (j : Int)) = false := decide_eq_false hlt
    refine qJ ?_; repeat' (first | with_reducible apply qK | ((first | (with_reducible apply qI) | (with_reducible first | apply qD | apply qS | apply xX)) <;> try simp only [qM, qB, qE, qG, qC, qA, qF, reduceIte, seval, Int.cast_ofNat_Int, qN, qO, qL, qZ, zA, zB, sL, rF, d]))
    have e : ds = cs.reverse := by
      refine List.ext_getElem? fun i => ?_
      by_cases hi : i < n
      · rw [hd i hi]
        rw [List.getElem?_reverse (by omega), hl]
        split
        · rfl
        · rename_i q
          congr 1
          omega
      · rw [List.getElem?_eq_none (by omega), List.getElem?_eq_none (by rw [List.length_reverse]; omega)]
    rw [← e]
    exact ⟨m1, x1⟩
  have d : decide ((j : Int) < (n : Int) - 1 - (j : Int)) = true := decide_eq_true hlt
  obtain ⟨q, hq⟩ : ∃ q : Nat, (n : Int) - 1 - (j : Int) = (q : Int) := ⟨n - 1 - j, by omega⟩
  rw [hq] at d ⊢
  have hqn : q = n - 1 - j := by omega
  have g0 : zI Tryz.prog 36 (.slice (some ⟨k, 0, none⟩) n c) (j : Int) = some (.pointer (some ⟨k, j * 1, none⟩)) := uC Tryz.underlying36 qV (by omega)
  have g1 : zI Tryz.prog 36 (.slice (some ⟨k, 0, none⟩) n c) (q : Int) = some (.pointer (some ⟨k, q * 1, none⟩)) := uC Tryz.underlying36 qV (by omega)
  rw [Nat.mul_one] at g0 g1
  obtain ⟨vj, hvj⟩ := yO (show j < cs.length by omega)
  obtain ⟨vq, hvq⟩ := yO (show q < cs.length by omega)
  have lj : ds[j]? = some vj := by rw [hd j (by omega), if_neg (by omega)]; exact hvj
  have lq : ds[q]? = some vq := by rw [hd q (by omega), if_neg (by omega)]; exact hvq
  obtain ⟨vj1, vj2⟩ := hs _ _ hvj
  obtain ⟨vq1, vq2⟩ := hs _ _ hvq
  refine qJ ?_; repeat' (first | (with_reducible first | apply qK | apply qR) | ((first | (with_reducible apply qI) | (with_reducible first | apply qD | apply qS | apply qP) | with_reducible refine zF rF xM (by kernel_rfl) ?_) <;> try simp only [qM, qB, qE, qG, qC, qA, qF, reduceIte, seval, Int.cast_ofNat_Int, qN, qO, qL, qZ, zA, zB, sL, rF, d, g0, g1, qH m1 qV, lj, lq]))
  refine zU m1 qV rfl (by simp only; omega) vq1 vq2 fun h2 m2 f2 => ?_
  simp only at m2
  have wi : IntKind.i64.wrap ((j : Int) + 1) = ((j + 1 : Nat) : Int) := by rw [wrap64 (by omega) (by omega)]; omega
  have wq : IntKind.i64.wrap ((q : Int) - 1) = (n : Int) - 1 - ((j + 1 : Nat) : Int) := by rw [wrap64 (by omega) (by omega)]; omega
  have lj2 : (ds.set j vq)[q]? = some vq := by rw [List.getElem?_set_ne (by omega)]; exact lq
  have lj3 : (ds.set j vq)[j]? = some vq := by rw [List.getElem?_set_self (by omega)]
  refine qJ ?_; repeat' (first | ((with_reducible apply qI) <;> try simp only [qM, qB, qE, qG, qC, qA, qF, reduceIte, seval, Int.cast_ofNat_Int, qN, qO, qL, qZ, zA, zB, sL, rF, d, g0, g1, qH m2 qV, lj2, lj3]))
  refine zU m2 qV rfl (by simp only [List.length_set]; omega) vj1 vj2 fun h3 m3 f3 => ?_
  simp only at m3
  refine qJ ?_; repeat' (first | ((first | (with_reducible apply qI) | with_reducible apply qD) <;> try simp only [qM, qB, qE, qG, qC, qA, qF, reduceIte, seval, Int.cast_ofNat_Int, qN, qO, qL, qZ, zA, zB, sL, rF, wi, wq]))
  refine ⟨_, j + 1, by omega, (by simp only [List.forall_mem_cons, List.not_mem_nil, false_implies, implies_true, List.map, List.cons_append, List.nil_append, lk, Nat.reduceEqDiff, reduceIte, and_true, true_and]), rfl, by omega, .inr (by omega), x1.trans ((zE f2).trans (zE f3)), _, m3, by simp [hdl], fun i hi => ?_⟩
  by_cases e1 : i = q
  · subst e1
    rw [List.getElem?_set_self (by rw [List.length_set]; omega), if_pos (by omega), show n - 1 - i = j by omega, hvj]
  · rw [List.getElem?_set_ne (by omega)]
    by_cases e2 : i = j
    · subst e2
      rw [List.getElem?_set_self (by omega), if_pos (by omega), show n - 1 - i = q by omega, hvq]
    · rw [List.getElem?_set_ne (by omega), hd i hi]
      by_cases e3 : i < j ∨ n - j ≤ i
      · rw [if_pos e3, if_pos (by omega)]
      · rw [if_neg e3, if_neg (by omega)]
def OWX (h0 h : GH) (v : Value) (n : Nat) (cs : List Value) : Prop :=
  ∃ kb c tl, v = .slice (some ⟨kb, 0, none⟩) n c ∧ n ≠ 0 ∧ cs.length = n * 1 ∧ h kb = some ⟨cs, 1, true, tl⟩ ∧ h0 kb = none ∧ (tl = true ∧ c % 2 = 0 ∧ 2 * n ≤ c ∨ tl = false ∧ c = 2 * n + 1)
section
variable {h0 h h' : GH} {v : Value} {n : Nat} {cs : List Value}
theorem OWX.hs (o : OWX h0 h v n cs) (s : HS h h') : OWX h0 h' v n cs := by
  obtain ⟨kb, c, tl, h1, h2, h3, h4, h5⟩ := o
  exact ⟨kb, c, tl, h1, h2, h3, s _ _ h4, h5⟩
theorem OWX.form (o : OWX h0 h v n cs) : ∃ a c, v = .slice a n c := by
  obtain ⟨kb, c, tl, h1, _⟩ := o
  exact ⟨_, _, h1⟩
theorem OWX.len (o : OWX h0 h v n cs) : cs.length = n * 1 := by
  obtain ⟨kb, c, tl, _, _, h3, _⟩ := o
  exact h3
theorem OWX.at {P : Program} {t e : Nat} {b : Bool} (o : OWX h0 h v n cs) (ht : P.underlying t = some (.slice e)) (he : vB P e = some (b, 1)) {i : Nat} (hi : i < n) :
    ∃ k tl, zI P t v (i : Int) = some (.pointer (some ⟨k, i * 1, none⟩)) ∧ h k = some ⟨cs, 1, true, tl⟩ := by
  obtain ⟨kb, c, tl, rfl, h2, h3, h4, h5⟩ := o
  exact ⟨kb, tl, uC ht he hi, h4⟩
theorem OWX.by {h1 : GH} (key : ∀ i B, h i = some B → h0 i = none → h' i = some B ∧ h1 i = none) (o : OWX h0 h v n cs) : OWX h1 h' v n cs := by
  obtain ⟨kb, c, tl, h1, h2, h3, h4, h5, h6⟩ := o
  obtain ⟨z1, z2⟩ := key _ _ h4 h5
  exact ⟨kb, c, tl, h1, h2, h3, z1, z2, h6⟩
end
theorem tP {P : Program} {t u e by_ : Nat} {z : Value} {du : TypeDesc} {h0 h : GH} {s x : Value} {n : Nat} {cs xs : List Value} {K : Value → GH → Prop} (hel : rA P t = some (e, 1, by_, z)) (hu : P.underlying u = some du) (hni : sC du = true)
    (hs0 : HS h0 h) (o : OWX h0 h s n cs) (hsrc : pZ h 1 x = some (1, xs)) (hxl : xs.length = 1) (hcell : xs.all zG = true) (hsz : (n + 1) * by_ ≤ 140737488355328) (hml : n + 1 ≤ maxLen)
    (k : ∀ v h', HS h0 h' → (∀ j B, h j = some B → (∀ tl, B ≠ ⟨cs, 1, true, tl⟩) → h' j = some B) → OWX h0 h' v (n + 1) (cs ++ xs) → K v h') : jP P t u h s x K := by
  obtain ⟨kb, c, tl, rfl, hn, hcl, hkb, hk0, ⟨rfl, hc1, hc2⟩ | ⟨rfl, rfl⟩⟩ := o
  · refine jD hel hu hni hs0 (.inr (.inr ⟨kb, c, rfl, hc1, hc2, hn, hcl, hkb, hk0⟩)) hsrc (by omega) hcell hsz hml fun v h' s' fr o' => ?_
    refine k v h' s' (fun j B hj hne => fr j B hj fun _ kb' c' e _ hk e2 => ?_) ?_
    · rw [e2, hk] at hj
      cases hj
      exact hne true rfl
    · rcases o' with ⟨_, q, _⟩ | ⟨_, _, q, _⟩ | ⟨k2, c2, h1, h2, h3, h4, h5, h6, h7⟩
      · omega
      · omega
      · exact ⟨k2, c2, true, h1, h4, h5, h6, h7, .inl ⟨rfl, h2, h3⟩⟩
  · refine .inl ⟨du, e, 1, by_, z, 1, xs, hu, hni, hel, hsrc, e, 1, by_, z, hel, by omega, hcell, ?_⟩
    refine .inr ⟨by omega, hml, hsz, .inl ⟨cs, vG hkb (by rw [List.drop_zero]; exact List.take_of_length_le (by show cs.length ≤ _; omega)) hcl, by omega, by omega, fun k0 hk0' => ?_⟩⟩
    have hS := HS.new hk0' ⟨cs ++ xs, 1, true, true⟩
    exact k _ _ (hs0.trans hS) (fun j B hj _ => hS j B hj) ⟨k0, 2 * (n + 1), true, rfl, by omega, by rw [List.length_append, hcl, hxl]; omega, by rw [zJ], hs0.none_of hk0', .inl ⟨rfl, by omega, by omega⟩⟩
section
variable {K : Type} {R : GH → List Value → K → Prop}
def qJ9 (size : Int) (id : List UInt8) (hops : List Hp) (p : Pn K) : List (List UInt8) := if qK7 size id hops p = true then rW size (qY id) (xE p) hops else []
theorem rJ {size : Int} {row : List UInt8} : ∀ (l : List Hp) (last z : Int), -1 ≤ last → sD size row last l = some z → ∀ x ∈ l, 0 ≤ x.1 ∧ x.1 < 8 * (row.length : Int) ∧ 0 ≤ x.2.1 ∧ x.2.1 < 256 ∧ (x.2.2.length : Int) = size
  | [], _, _, _, _, x, hx => by simp at hx
  | y :: l, last, z, hla, h, x, hx => by
    simp only [sD] at h
    split at h
    case isFalse => cases h
    rename_i hk
    have hy : 0 ≤ y.1 ∧ y.1 < 8 * (row.length : Int) ∧ 0 ≤ y.2.1 ∧ y.2.1 < 256 ∧ (y.2.2.length : Int) = size := by
      unfold tR at hk
      simp only [Bool.not_eq_true', Bool.or_eq_false_iff, decide_eq_false_iff_not, bne_eq_false_iff_eq, Bool.not_eq_false', epB, Bool.and_eq_true, decide_eq_true_eq] at hk
      omega
    rcases List.mem_cons.1 hx with rfl | hx
    · exact hy
    · exact rJ l y.1 z (by omega) h x hx
theorem pJ {size : Int} {id : List UInt8} {hops : List Hp} {p : Pn K} (h : qK7 size id hops p = true) : 1 ≤ size ∧ size ≤ 32 ∧ id.length ≤ 24 ∧ (∃ last, sD size (qY id) (-1) hops = some last ∧ p.ends size (qY id) last = true) ∧ p.right size = true ∧ p.kd ≠ 3 := by
  unfold qK7 qS3 at h
  simp only [Bool.and_eq_true, Bool.not_eq_true', Bool.or_eq_false_iff, decide_eq_false_iff_not] at h
  obtain ⟨⟨⟨h1, h2⟩, h3⟩, h4⟩ := h
  cases hl : sD size (qY id) (-1) hops with
  | none => rw [hl] at h4; cases h4
  | some last =>
    rw [hl] at h4
    simp only at h4
    refine ⟨by omega, by omega, by omega, ⟨last, rfl, h4⟩, ?_⟩
    unfold Pn.ends at h4
    split at h4
    · cases h4
    · rename_i hn
      simp only [Bool.or_eq_true, beq_iff_eq, Bool.not_eq_true', not_or, Bool.not_eq_false] at hn
      exact ⟨hn.2, hn.1⟩
theorem tB (size : Int) (row en : List UInt8) : ∀ l : List Hp, (rW size row en l).length = l.length + 1
  | [] => rfl
  | x :: l => by simp [rW, tB size row en l]
theorem zH4 {size : Int} {row t : List UInt8} {x : Hp} : (yI size row t x).length ≤ row.length + 32 + x.2.2.length + 30 := by
  have hc : (wL size t).length ≤ 32 := by
    have := uV t
    simp only [wL, List.length_take, this]; omega
  unfold yI
  split
  · have := qA5 x.1.toNat row x.2.1.toNat x.2.2 (wL size t); omega
  · have := qA5 x.1.toNat row x.2.1.toNat (wL size t) x.2.2; omega
theorem tZ {size : Int} {row t : List UInt8} {x : Hp} : yI size row t x ≠ [] := by
  unfold yI
  split <;> simp [wP, vR]
theorem pN (p : Pn K) : xE p ≠ [] := by
  unfold xE
  split
  · simp [gQ, vR]
  · split <;> simp [wP, emptyB, vR]
theorem qF0 {size : Int} {row en : List UInt8} (he : en ≠ [] ∧ en.length ≤ 10000) (hr : row.length ≤ 300) : ∀ (l : List Hp), (∀ x ∈ l, x.2.2.length ≤ 32) → ∀ y ∈ rW size row en l, y ≠ [] ∧ y.length ≤ 10000
  | [], _, y, hy => by
    simp only [rW, List.mem_singleton] at hy
    subst hy; exact he
  | x :: l, hl, y, hy => by
    simp only [rW, List.mem_cons] at hy
    rcases hy with rfl | hy
    · refine ⟨tZ, ?_⟩
      have := @zH4 size row ((rW size row en l).headD []) x
      have := hl x (List.mem_cons_self ..)
      omega
    · exact qF0 he hr l (fun x hx => hl x (List.mem_cons_of_mem _ hx)) y hy
theorem RTx.ap {h h' : GH} {ds : List Value} (hu : ds.all uJ = true) (fr : ∀ j B, h j = some B → (∀ tl, B ≠ ⟨ds, 1, true, tl⟩) → h' j = some B) {cs : List Value} {x : List UInt8} (hx : x ≠ []) (r : RTx h cs x) : RTx h' cs x := by
  obtain ⟨a, c, e, r1, r2⟩ := r
  rcases r1 with ⟨_, _, q⟩ | ⟨ad, c', q, h2, h3⟩
  · exact absurd q hx
  cases q
  have h0 : x.length ≠ 0 := fun q => hx (List.eq_nil_of_length_eq_zero q)
  have h2' := h2
  unfold xT at h2
  rw [if_neg h0] at h2
  split at h2
  case h_2 => cases h2
  rename_i B hs hB
  have hk := fr _ B hB fun tl q => by
    have hb : bv (x[0]'(by omega)) ∈ B.cells := sV h2' h0 hB _ (List.mem_map.2 ⟨_, List.getElem_mem _, rfl⟩)
    rw [q] at hb
    rw [List.all_eq_true] at hu
    have := hu _ hb
    simp [uJ, bv] at this
  refine ⟨some ad, c, e, .inr ⟨ad, c, rfl, ?_, h3⟩, fun ad' n c' q => ?_⟩
  · unfold xT
    rw [if_neg h0, hs, hk]
    exact h2
  · cases q
    rcases r2 ad x.length c rfl with s1 | s1 | s1
    · exact .inl s1
    · exact .inr (.inl s1)
    · right; right
      unfold qR5 at s1 ⊢
      rw [hB] at s1
      rw [hk]; exact s1
end
theorem zY : type_of% (And.intro Tryz.underlying80 (And.intro zR (And.intro pO (And.intro fC (And.intro uG (And.intro kU (And.intro qD2 (And.intro qD1 (And.intro xW (And.intro qJ7 (And.intro wS (And.intro ty80 rs10)))))))))))) := And.intro Tryz.underlying80 (And.intro zR (And.intro pO (And.intro fC (And.intro uG (And.intro kU (And.intro qD2 (And.intro qD1 (And.intro xW (And.intro qJ7 (And.intro wS (And.intro ty80 rs10)))))))))))
def zD : List (Nat × List Nat) := [(0, []), (1, []), (2, []), (3, []), (4, []), (5, []), (6, []), (8, []), (9, []), (7, [9]), (10, []), (11, [9]), (12, [])]
def qT2 : List Nat := [0, 0, 0, 4, 12, 30, 62, 127, 0, 256, 1023, 255, 4095]
def zC : List (Nat × List Nat) := [(0, []), (1, []), (2, []), (3, []), (4, []), (5, []), (6, []), (8, []), (9, []), (11, [0, 1, 2, 3, 6, 9]), (7, [9]), (10, []), (12, [])]
def qT1 : List Nat := [0, 0, 0, 4, 12, 30, 62, 2175, 0, 256, 3071, 0, 4095]
def zS : Nat → List (Nat × List Nat) × List Nat
  | 9 => ([(0, []), (1, []), (2, []), (3, []), (4, []), (5, []), (6, []), (7, []), (8, []), (9, []), (10, []), (11, []), (12, []), (13, [0]), (14, [0]), (15, []), (16, [])], [0, 0, 2, 0, 0, 16, 0, 64, 192, 0, 512, 1536, 3584, 8190, 16382, 32767, 65535])
  | _ => ([], [])
theorem gi80 {k i : Nat} (h : i < 2) : zI Tryz.prog 80 (.pointer (some ⟨k, 0, none⟩)) (i : Int) = some (.pointer (some ⟨k, i, none⟩)) := by
  simp [zI, Tryz.underlying80, qV]; omega
theorem OWX.by6 {h0 h h' : GH} {v : Value} {n : Nat} {cs : List Value} {k : Nat} {B : GB} (o : OWX h0 h v n cs) (hk : h k = some B) (f : ∀ j, j ≠ k → h' j = h j) (he : B.es ≠ 1 := by simp) : OWX h0 h' v n cs := by
  obtain ⟨kb, c, tl, h1, h2, h3, h4, h5, h6⟩ := o
  exact ⟨kb, c, tl, h1, h2, h3, by rw [f kb (fun e => by rw [e, hk] at h4; cases h4; exact he rfl)]; exact h4, h5, h6⟩
section
variable {K : Type} {R : GH → List Value → K → Prop}
def TxI (size : Int) (row en : List UInt8) (hops : List Hp) (hb : GH) (k8 : Nat) (i : Nat) (h' : GH) : Prop :=
  HS hb h' ∧ ∃ L v cells, L = (rW size row en (hops.drop i)).reverse ∧ h' k8 = some ⟨[v], 0, true, false⟩ ∧ OWX hb h' v L.length cells ∧ cells.all uJ = true ∧ ∀ (t : Nat) y, L[t]? = some y → ∃ x, cells[t]? = some x ∧ RTx h' [x] y
theorem pL (N : Nat) {h : GH} (t : TK h) {cs : List Value} {p : Pn K} (r : RPn R h cs p) (fR : ∀ {h h'}, HS h h' → ∀ cs x, R h cs x → R h' cs x) (size : Int) (hl : p.pf.length ≤ 100000000) (hid : p.id.length ≤ 100000000) {a b : Option Addr} {c d : Nat} {id : List UInt8} (ri : RB h (.slice a id.length c) id) {hops : List Hp} (rh : RL 3 RHp h (.slice b hops.length d) hops) (hh : hops.length ≤ 100000000) :
    GTri Tryz.prog N 10 [.int .i64 size, .slice a id.length c, .agg (.slice b hops.length d :: cs).toArray] h fun v h' => HS h h' ∧ ∃ a c, v = .slice a (qJ9 size id hops p).length c ∧ RL 1 RTx h' (.slice a (qJ9 size id hops p).length c) (qJ9 size id hops p) := by
  have hcs := r.len
  have hkl := vM id
  unfold qJ9
  refine xN Tryz.func10 rfl gf10 ok10 (by simp [Tryz.ntmps10]) ?_
  repeat' (first | with_reducible apply qK | (with_reducible apply qD <;> try simp only [qM, qB, qE, qG, qC, qA, qF, reduceIte, seval, Int.cast_ofNat_Int, qN, qO, qL, qZ, zA, zB, zY, zS, zD, zC]))
  refine uL rfl fun k3 h1 m1 s1 f1 n1 => ?_
  refine qJ ?_; repeat' (first | ((with_reducible apply qI) <;> try simp only [qM, qB, qE, qG, qC, qA, qF, reduceIte, seval, Int.cast_ofNat_Int, qN, qO, qL, qZ, zA, zB, zY, zS, zD, zC]))
  refine uL (by simp only [List.all_cons, hcs.2.1]; rfl) fun k5 h2 m2 s2 f2 n2 => ?_
  have S2 := s1.trans s2
  have m12 := s2 _ _ m1
  have ld2 := zQ (P := Tryz.prog) (t := 28) m2 tY (by simp only [List.length_cons, hcs.1])
  refine qJ ?_; repeat' (first | with_reducible apply qK | ((first | (with_reducible apply qI) | with_reducible apply qD) <;> try simp only [qM, qB, qE, qG, qC, qA, qF, reduceIte, seval, Int.cast_ofNat_Int, qN, qO, qL, qZ, zA, zB, zY, zS, zD, zC, qH m12 zZ, ld2]))
  refine (c_Check N (r.hs S2 (fR S2)) fR size hl hid (ri.hs S2) (RL.hs (R := RHp) S2 (fun _ _ q => q.hs S2) rh) hh).mono ?_
  rintro _ h3 ⟨rfl, s3⟩
  have S3 := S2.trans s3
  cases hck : qK7 size id hops p
  case false =>
    rw [if_neg (by decide)]
    refine qJ ?_; repeat' (first | with_reducible apply qK | ((first | (with_reducible apply qI) | (with_reducible first | apply qD | apply qS | apply qQ)) <;> try simp only [qM, qB, qE, qG, qC, qA, qF, reduceIte, seval, Int.cast_ofNat_Int, qN, qO, qL, qZ, zA, zB, zY, zS, zD, zC, cond]))
    exact ⟨S3, none, 0, rfl, RL.nil _⟩
  rw [if_pos rfl]
  obtain ⟨hs1, hs2, hid24, ⟨last, hlast, _⟩, hright, _⟩ := pJ hck
  have hok := rJ hops (-1) last (by omega) hlast
  have htx := qF0 (size := size) (row := qY id) (en := xE p) ⟨pN p, by have := tQ hright hs2; omega⟩ (by omega)
  refine qJ ?_; repeat' (first | with_reducible apply qK | ((first | (with_reducible apply qI) | (with_reducible first | apply qD | apply qS | apply qP)) <;> try simp only [qM, qB, qE, qG, qC, qA, qF, reduceIte, seval, Int.cast_ofNat_Int, qN, qO, qL, qZ, zA, zB, zY, zS, zD, zC, cond]))
  refine (qC7 N h3 (ri.hs S3) rfl).mono ?_
  rintro _ h4 ⟨s4, ar, cr, rfl, rr, _⟩
  have m14 := s4 _ _ (s3 _ _ m12)
  have m24 := s4 _ _ (s3 _ _ m2)
  have S4 := S3.trans s4
  refine qJ ?_; repeat' (first | ((with_reducible apply qI) <;> try simp only [qM, qB, qE, qG, qC, qA, qF, reduceIte, seval, Int.cast_ofNat_Int, qN, qO, qL, qZ, zA, zB, zY, zS, zD, zC]))
  refine xQ fun k7 h5 m5 s5 f5 n5 => ?_
  refine qJ ?_; repeat' (first | ((with_reducible apply qI) <;> try simp only [qM, qB, qE, qG, qC, qA, qF, reduceIte, seval, Int.cast_ofNat_Int, qN, qO, qL, qZ, zA, zB, zY, zS, zD, zC]))
  refine zU m5 qV rfl (by simp) rfl rfl fun h6 m6 f6 => ?_
  simp only [List.set_cons_zero] at m6
  have s46 := s5.upd n5 f6
  have S6 := S4.trans s46
  have m16 := s46 _ _ m14
  have m26 := s46 _ _ m24
  have ldp : wY Tryz.prog 26 h6 (.pointer (some ⟨k5, 1, none⟩)) = some (.agg cs.toArray) := wI m26 lI (by rw [List.drop_one, List.tail_cons, List.take_of_length_le (by omega)]) hcs.1
  refine qJ ?_; repeat' (first | with_reducible apply qK | ((first | (with_reducible apply qI) | with_reducible apply qD) <;> try simp only [qM, qB, qE, qG, qC, qA, qF, reduceIte, seval, Int.cast_ofNat_Int, qN, qO, qL, qZ, zA, zB, zY, zS, zD, zC, ldp]))
  refine (c_Alone N (r.hs S6 (fR S6)) hright hs2).mono ?_
  rintro _ h7 ⟨s7, ae, ce, rfl, re, sle⟩
  have S7 := S6.trans s7
  refine qJ ?_; repeat' (first | ((with_reducible apply qI) <;> try simp only [qM, qB, qE, qG, qC, qA, qF, reduceIte, seval, Int.cast_ofNat_Int, qN, qO, qL, qZ, zA, zB, zY, zS, zD, zC]))
  refine gV (cs := [.slice ae (xE p).length ce]) sP rfl (by decide) (by decide) (by rw [xV _ rfl]; rfl) rfl fun kl h8 m8 s8 f8 n8 => ?_
  refine qJ ?_; repeat' (first | ((with_reducible apply qI) <;> try simp only [qM, qB, qE, qG, qC, qA, qF, reduceIte, seval, Int.cast_ofNat_Int, qN, qO, qL, qZ, zA, zB, zY, zS, zD, zC]))
  refine xQ fun k8 h9 m9 s9 f9 n9 => ?_
  refine qJ ?_; repeat' (first | ((with_reducible apply qI) <;> try simp only [qM, qB, qE, qG, qC, qA, qF, reduceIte, seval, Int.cast_ofNat_Int, qN, qO, qL, qZ, zA, zB, zY, zS, zD, zC]))
  refine zU m9 kL rfl (by simp) rfl rfl fun h10 m10 f10 => ?_
  simp only [List.set_cons_zero] at m10
  have s810 := s9.upd n9 f10
  have ml10 := s810 _ _ m8
  have s710 := s8.trans s810
  have S10 := S7.trans s710
  have m110 := s710 _ _ (s7 _ _ m16)
  have m210 := s710 _ _ (s7 _ _ m26)
  have m710 := s710 _ _ (s7 _ _ m6)
  refine qJ ?_; repeat' (first | with_reducible apply qK | ((first | (with_reducible apply qI) | with_reducible apply qD) <;> try simp only [qM, qB, qE, qG, qC, qA, qF, reduceIte, seval, Int.cast_ofNat_Int, qN, qO, qL, qZ, zA, zB, zY, zS, zD, zC, qH m210 dW]))
  refine (c_BwdH N h10 b hops.length d).mono ?_
  rintro _ h11 ⟨⟨kb, rfl, mb, nb⟩, s11⟩
  have S11 := S10.trans s11
  have m811 := s11 _ _ m10
  have ml11 := s11 _ _ ml10
  have n8h7 : h7 k8 = none := s8.none_of n9
  have kl8 : kl ≠ k8 := yS m8 n9
  obtain ⟨hb, eb⟩ : ∃ hb, hb = jX kl (jX k8 h11) := ⟨_, rfl⟩
  have hbe : ∀ j, j ≠ kl → j ≠ k8 → hb j = h11 j := fun j q1 q2 => by rw [eb, dO _ j q1, dO _ j q2]
  have hbs : HS hb h11 := by rw [eb]; exact (dP _ _).trans (dP _ _)
  have hb8 : hb k8 = none := by rw [eb, dO _ k8 kl8.symm, lO]
  have hbl : hb kl = none := by rw [eb, lO]
  have s7b : HS h7 hb := fun j B m => by
    rw [hbe j (fun q => by rw [q, n8] at m; cases m) (fun q => by rw [q, n8h7] at m; cases m)]
    exact s11 _ _ (s710 _ _ m)
  have b3 := s7b _ _ (s7 _ _ m16)
  have b7 := s7b _ _ (s7 _ _ m6)
  have bkb : hb kb = some ⟨[.slice b hops.length d], 0, true, false⟩ := by
    rw [hbe kb (fun q => by rw [q, ml10] at nb; cases nb) (fun q => by rw [q, m10] at nb; cases nb)]
    exact mb
  have rrb := ((rr.hs s46).hs s7).hs s7b
  have Sb := S7.trans s7b
  have rhb := RL.hs (R := RHp) Sb (fun _ _ q => q.hs Sb) rh
  have tb := t.hs Sb
  obtain ⟨hcells, hrc⟩ := rhb.cells (by decide)
  clear eb hbe
  refine qJ ?_; repeat' (first | with_reducible apply qR | ((with_reducible apply qI) <;> try simp only [qM, qB, qE, qG, qC, qA, qF, reduceIte, seval, Int.cast_ofNat_Int, qN, qO, qL, qZ, zA, zB, zY, zS, zD, zC]))
  refine qU1 (gf := 78) (fb := [.pointer (some ⟨kb, 0, none⟩)]) (by simp [lk]) rfl hops.length (TxI size (qY id) (xE p) hops hb k8)
    (fun i => (.int .i64 (i : Int), .agg ((hcells.drop (i * 3)).take 3).toArray)) ?_ (fun l' r' h2' hI y => c_bwdH1 N l' r' (a := b) (c := d) (X := fun i => (hcells.drop (i * 3)).take 3) (by omega) (TxI size (qY id) (xE p) hops hb k8) hI (fun i h' hI => ⟨hI.1 _ _ bkb, fun j hj => ?_⟩) y) (fun i hi h12 hI => ?_) (fun h12 hI => ?_)
  · refine ⟨hbs, [xE p], _, [.slice ae (xE p).length ce], by rw [List.drop_length]; rfl, m811, ⟨kl, 3, false, rfl, by simp, rfl, ml11, hbl, .inr ⟨rfl, rfl⟩⟩, rfl, fun t y ht => ?_⟩
    rcases t with _ | t
    · cases ht
      exact ⟨_, rfl, ae, ce, rfl, (re.hs s710).hs s11, (sle.hs s710).hs s11⟩
    · simp at ht
  · obtain ⟨x, hx⟩ := yO hj
    obtain ⟨_, q⟩ := hrc j x hx
    obtain ⟨ad, g1, g2⟩ := q Tryz.prog 23 79 _ Tryz.underlying23 qZ2
    refine ⟨ad, g1, sG hI.1 (qE3 qZ2 g2)⟩
  · obtain ⟨s12, L, v, cells, eL, m812, ow, hu, hel⟩ := hI
    obtain ⟨x, hx⟩ := yO hi
    obtain ⟨⟨ax, cx, ecx, rx⟩, _⟩ := hrc i x hx
    obtain ⟨x1, x2, x3, x4, x5⟩ := hok x (List.mem_of_getElem? hx)
    obtain ⟨dp, hdp⟩ : ∃ dp : Nat, x.1 = (dp : Int) := ⟨x.1.toNat, by omega⟩
    obtain ⟨nw, hnw⟩ : ∃ nw : Nat, x.2.1 = (nw : Int) := ⟨x.2.1.toNat, by omega⟩
    have hdr : hops.drop i = x :: hops.drop (i + 1) := by
      have h1 := List.getElem?_eq_some_iff.1 hx
      rw [List.drop_eq_getElem_cons h1.1, h1.2]
    have hLl : L.length = hops.length - i := by rw [eL, List.length_reverse, tB, List.length_drop]; omega
    obtain ⟨lt, hlt⟩ : ∃ lt, L[L.length - 1]? = some lt := yO (by omega)
    have elt : (rW size (qY id) (xE p) (hops.drop (i + 1))).headD [] = lt := by
      rw [eL, List.length_reverse, List.getElem?_reverse (by rw [tB]; omega)] at hlt
      rw [show (rW size (qY id) (xE p) (hops.drop (i + 1))).length - 1 - ((rW size (qY id) (xE p) (hops.drop (i + 1))).length - 1) = 0 by omega] at hlt
      rw [List.headD_eq_head?_getD, List.head?_eq_getElem?, hlt]; rfl
    have hmem : ∀ y ∈ L, y ≠ [] ∧ y.length ≤ 10000 := fun y hy => htx (hops.drop (i + 1)) (fun z hz => by have q := hok z (List.mem_of_mem_drop hz); have := q.2.2.2.2; omega) y (by rw [eL, List.mem_reverse] at hy; exact hy)
    obtain ⟨hl1, hl2⟩ := hmem lt (List.mem_of_getElem? hlt)
    obtain ⟨av, cv, ev⟩ := ow.form
    subst ev
    obtain ⟨kv, tlv, gv, mv⟩ := ow.at (P := Tryz.prog) Tryz.underlying36 qV (i := L.length - 1) (by omega)
    obtain ⟨vx, hvx, al, cl, evl, rl, sll⟩ := hel _ _ hlt
    cases evl
    have wl : IntKind.i64.wrap ((L.length : Int) - 1) = ((L.length - 1 : Nat) : Int) := by rw [wrap64 (by omega) (by omega)]; omega
    rw [Nat.mul_one] at gv
    simp only [ecx, yH]
    refine qJ ?_; repeat' (first | ((first | (with_reducible apply qI) | with_reducible apply qD) <;> try simp only [qM, qB, qE, qG, qC, qA, qF, reduceIte, seval, Int.cast_ofNat_Int, qN, qO, qL, qZ, zA, zB, zY, zS, zD, zC]))
    refine xQ fun k10 h13 m13 s13 f13 n13 => ?_
    refine qJ ?_; repeat' (first | ((with_reducible apply qI) <;> try simp only [qM, qB, qE, qG, qC, qA, qF, reduceIte, seval, Int.cast_ofNat_Int, qN, qO, qL, qZ, zA, zB, zY, zS, zD, zC]))
    refine wC m13 qZ2 rfl (by decide) rfl rfl rfl fun h14 m14 f14 => ?_
    simp only [vcells] at m14
    have s1214 := s13.upd n13 f14
    have S14 := s12.trans s1214
    have m314 := S14 _ _ b3
    have m814 := s1214 _ _ m812
    have mv14 := s1214 _ _ mv
    have lv14 : cells[L.length - 1]? = some (.slice al lt.length cl) := hvx
    refine qJ ?_; repeat' (first | (with_reducible first | apply qK | apply qR) | ((first | (with_reducible apply qI) | with_reducible refine sE (id := 7) 7 11 zD qT2 zC qT1 xM (by kernel_rfl) (by kernel_rfl) (by kernel_rfl) ?_ ?_) <;> try simp only [qM, qB, qE, qG, qC, qA, qF, reduceIte, seval, Int.cast_ofNat_Int, qN, qO, qL, qZ, zA, zB, zY, zS, zD, zC, qH m314 zZ, qH m814 kL, qH m14 qV, wl, gv, qH mv14 qV, lv14]))
    · refine (qC8 N (tb.hs S14) (rl.hs s1214) (sll.hs s1214) (by omega) size).mono ?_
      rintro _ h15 ⟨s15, ac, cc, rfl, rc, slc⟩
      have s12_15 := s1214.trans s15
      have s14_15 := s15
      have S15 := S14.trans s15
      have m3_15 := S15 _ _ b3
      have m8_15 := s12_15 _ _ m812
      have m10_15 := s14_15 _ _ m14
      have mv_15 := s12_15 _ _ mv
      refine qJ ?_; repeat' (first | ((with_reducible apply qI) <;> try simp only [qM, qB, qE, qG, qC, qA, qF, reduceIte, seval, Int.cast_ofNat_Int, qN, qO, qL, qZ, zA, zB, zY, zS, zD, zC, xC, xU, vC, Shape.pl, List.all_cons, List.all_nil, zG, qH m3_15 zZ, qH m8_15 kL, qH m10_15 qV, wl, gv, qH mv_15 qV, lv14]))
      refine xQ fun k11 h16 m16k s16 f16 n16 => ?_
      have s12_16 := s12_15.trans s16
      have s14_16 := s14_15.trans s16
      have S16 := S15.trans s16
      have rc16 := rc.hs s16
      have n11 : h14 k11 = none := s15.none_of n16
      have m3_16 := S16 _ _ b3
      have m8_16 := s12_16 _ _ m812
      have m10_16 := s14_16 _ _ m14
      have mv_16 := s12_16 _ _ mv
      refine qJ ?_; repeat' (first | ((with_reducible apply qI) <;> try simp only [qM, qB, qE, qG, qC, qA, qF, reduceIte, seval, Int.cast_ofNat_Int, qN, qO, qL, qZ, zA, zB, zY, zS, zD, zC, xC, xU, vC, Shape.pl, List.all_cons, List.all_nil, zG, qH m3_16 zZ, qH m8_16 kL, qH m10_16 qV, wl, gv, qH mv_16 qV, lv14]))
      refine wC m16k sz80 rfl (by decide) rfl rfl rfl fun h17 m17k f17 => ?_
      simp only [vcells] at m17k
      have s14_17 : HS h14 h17 := s14_16.upd n11 f17
      have s12_17 := s1214.trans s14_17
      have S17 := S14.trans s14_17
      have rc17 := rc16.hx m16k rfl (zE f17)
      have m3_17 := S17 _ _ b3
      have m8_17 := s12_17 _ _ m812
      have m10_17 := s14_17 _ _ m14
      have mv_17 := s12_17 _ _ mv
      have m7_17 := S17 _ _ b7
      have rr17 := rrb.hs S17
      have rx17 := (rx.hs S17)
      have gi0 : zI Tryz.prog 80 (.pointer (some ⟨k11, 0, none⟩)) 0 = some (.pointer (some ⟨k11, 0, none⟩)) := gi80 (i := 0) (by omega)
      have gi1 : zI Tryz.prog 80 (.pointer (some ⟨k11, 0, none⟩)) 1 = some (.pointer (some ⟨k11, 1, none⟩)) := gi80 (i := 1) (by omega)
      have hcl : (wL size lt).length ≤ 32 := by
        have := uV lt
        simp only [wL, List.length_take, this]; omega
      have wt : rW size (qY id) (xE p) (hops.drop i) = yI size (qY id) lt x :: rW size (qY id) (xE p) (hops.drop (i + 1)) := by
        rw [hdr, rW, elt]
      rcases sX (gbit_nonneg.2 (show dp < 8 * (qY id).length by omega)) with hbit | hbit
      · have ebit : yI size (qY id) lt x = wP dp (qY id) nw (wL size lt) x.2.2 := by
          unfold yI
          rw [hdp, hnw, Int.toNat_natCast, Int.toNat_natCast, if_neg (by rw [hbit]; decide)]
        have ws : IntKind.i64.wrap ((1 : Int) - 0) = 1 := rfl
        refine qJ ?_; repeat' (first | with_reducible apply qK | ((first | (with_reducible apply qI) | with_reducible apply qD | with_reducible refine zF zS xM (by kernel_rfl) ?_ | ((refine GTri.mono (kR _ _ rr17 dp (by omega)) ?_); rintro _ _ ⟨rfl, hh9⟩; replace hh9 := hh9.symm; subst hh9)) <;> try simp only [qM, qB, qE, qG, qC, qA, qF, reduceIte, seval, Int.cast_ofNat_Int, qN, qO, qL, qZ, zA, zB, zY, zS, zD, zC, hdp, hnw, hbit, ws, gi0, gi1, qH m7_17 qV, qH m17k qV, qH m10_17 zZ, qH m3_17 zZ, qH m8_17 kL, qH m10_17 qV, wl, gv, qH mv_17 qV, lv14]))
        refine (qI6 N (d := dp) (w := nw) (by omega) (by omega) rr17 rc17 rx17 (by omega) (by omega) (by omega)).mono ?_
        rintro _ h18 ⟨s18, af, cf, rfl, rf, slf⟩
        have s12_18 := s12_17.trans s18
        have s14_18 := s14_17.trans s18
        have S18 := S17.trans s18
        have m3_18 := S18 _ _ b3
        have m8_18 := s12_18 _ _ m812
        have m10_18 := s14_18 _ _ m14
        have mv_18 := s12_18 _ _ mv
        have m7_18 := S18 _ _ b7
        have mk18 := s18 _ _ m17k
        refine qJ ?_; repeat' (first | ((with_reducible apply qI) <;> try simp only [qM, qB, qE, qG, qC, qA, qF, reduceIte, seval, Int.cast_ofNat_Int, qN, qO, qL, qZ, zA, zB, zY, zS, zD, zC, hdp, hnw, hbit, ws, gi0, gi1, qH m7_18 qV, qH mk18 qV, qH m10_18 zZ, qH m3_18 zZ, qH m8_18 kL, qH m10_18 qV, wl, gv, qH mv_18 qV, lv14]))
        refine rB sP rfl rfl (by decide) (by decide) rfl fun k19 h19 b19 s19 f19 n19 => ?_
        have s12_19 := s12_18.trans s19
        have s14_19 := s14_18.trans s19
        have S19 := S18.trans s19
        have m3_19 := S19 _ _ b3
        have m8_19 := s12_19 _ _ m812
        have m10_19 := s14_19 _ _ m14
        have mv_19 := s12_19 _ _ mv
        have m7_19 := S19 _ _ b7
        have mk19 := s19 _ _ mk18
        refine qJ ?_; repeat' (first | ((with_reducible apply qI) <;> try simp only [qM, qB, qE, qG, qC, qA, qF, reduceIte, seval, Int.cast_ofNat_Int, qN, qO, qL, qZ, zA, zB, zY, zS, zD, zC, hdp, hnw, hbit, ws, gi0, gi1, qH m7_19 qV, qH mk19 qV, qH m10_19 zZ, qH m3_19 zZ, qH m8_19 kL, qH m10_19 qV, wl, gv, qH mv_19 qV, lv14]))
        refine tP sP Tryz.underlying36 rfl S19 (ow.hs s12_19) b19 rfl rfl (by omega) (by simp only [maxLen]; omega) fun v20 h20 s20 fr20 o20 => ?_
        obtain ⟨a20, c20, rfl⟩ := o20.form
        have m8_20 := fr20 _ _ m8_19 (fun tl q => by cases q)
        have m3_20 := s20 _ _ b3
        have m7_20 := s20 _ _ b7
        have m10_20 := fr20 _ _ m10_19 (fun tl q => by cases q)
        have mk20 := fr20 _ _ mk19 (fun tl q => by cases q)
        refine qJ ?_; repeat' (first | ((with_reducible apply qI) <;> try simp only [qM, qB, qE, qG, qC, qA, qF, reduceIte, seval, Int.cast_ofNat_Int, qN, qO, qL, qZ, zA, zB, zY, zS, zD, zC, hdp, hnw, hbit, ws, gi0, gi1, qH m7_20 qV, qH mk20 qV, qH m10_20 zZ, qH m10_20 qV, qH m8_20 kL]))
        refine zU m8_20 kL rfl (by simp) rfl rfl fun h21 m8_21 f21 => ?_
        simp only [List.set_cons_zero] at m8_21
        refine qJ ?_; repeat' (first | ((with_reducible apply qI) <;> try simp only [qM, qB, qE, qG, qC, qA, qF, reduceIte, seval, Int.cast_ofNat_Int, qN, qO, qL, qZ, zA, zB, zY, zS, zD, zC, zK5]))
        have el21 : L ++ [yI size (qY id) lt x] = (rW size (qY id) (xE p) (hops.drop i)).reverse := by rw [wt, List.reverse_cons, ← eL]
        have zx : ∀ {cs y}, y ≠ [] → RTx h19 cs y → RTx h21 cs y := fun hy r => by
          obtain ⟨a, c, e, q1, q2⟩ := r.ap hu fr20 hy
          exact ⟨a, c, e, q1.hx m8_20 rfl (zE f21), q2.hx m8_20 rfl (zE f21)⟩
        refine ⟨s20.upd hb8 f21, L ++ [yI size (qY id) lt x], .slice a20 (L.length + 1) c20, cells ++ [.slice af (yI size (qY id) lt x).length cf], el21, ?_, ?_, ?_, fun t y ht => ?_⟩
        · exact m8_21
        · have := o20.by6 m8_20 f21
          rw [← ebit] at this
          rw [List.length_append, List.length_singleton]; exact this
        · rw [List.all_append, hu]; rfl
        · have hcl2 := ow.len
          rw [Nat.mul_one] at hcl2
          by_cases htL : t < L.length
          · rw [List.getElem?_append_left htL] at ht
            obtain ⟨vx2, e1, e2⟩ := hel t y ht
            exact ⟨vx2, by rw [List.getElem?_append_left (by omega)]; exact e1, zx (hmem y (List.mem_of_getElem? ht)).1 (e2.hs s12_19)⟩
          · rw [List.getElem?_append_right (by omega)] at ht
            have ht0 : t - L.length = 0 := by
              by_cases q : t - L.length = 0
              · exact q
              · rw [List.getElem?_eq_none (by simp; omega)] at ht; cases ht
            rw [ht0] at ht
            cases ht
            refine ⟨_, by rw [List.getElem?_append_right (by omega), show t - cells.length = 0 by omega]; rfl, zx tZ ?_⟩
            rw [ebit]
            exact ⟨af, cf, rfl, rf.hs s19, slf.hs s19⟩
      · have ebit : yI size (qY id) lt x = wP dp (qY id) nw x.2.2 (wL size lt) := by
          unfold yI
          rw [hdp, hnw, Int.toNat_natCast, Int.toNat_natCast, if_pos hbit]
        have ws : IntKind.i64.wrap ((1 : Int) - 1) = 0 := rfl
        refine qJ ?_; repeat' (first | with_reducible apply qK | ((first | (with_reducible apply qI) | with_reducible apply qD | with_reducible refine zF zS xM (by kernel_rfl) ?_ | ((refine GTri.mono (kR _ _ rr17 dp (by omega)) ?_); rintro _ _ ⟨rfl, hh9⟩; replace hh9 := hh9.symm; subst hh9)) <;> try simp only [qM, qB, qE, qG, qC, qA, qF, reduceIte, seval, Int.cast_ofNat_Int, qN, qO, qL, qZ, zA, zB, zY, zS, zD, zC, hdp, hnw, hbit, ws, gi0, gi1, qH m7_17 qV, qH m17k qV, qH m10_17 zZ, qH m3_17 zZ, qH m8_17 kL, qH m10_17 qV, wl, gv, qH mv_17 qV, lv14]))
        refine (qI6 N (d := dp) (w := nw) (by omega) (by omega) rr17 rx17 rc17 (by omega) (by omega) (by omega)).mono ?_
        rintro _ h18 ⟨s18, af, cf, rfl, rf, slf⟩
        have s12_18 := s12_17.trans s18
        have s14_18 := s14_17.trans s18
        have S18 := S17.trans s18
        have m3_18 := S18 _ _ b3
        have m8_18 := s12_18 _ _ m812
        have m10_18 := s14_18 _ _ m14
        have mv_18 := s12_18 _ _ mv
        have m7_18 := S18 _ _ b7
        have mk18 := s18 _ _ m17k
        refine qJ ?_; repeat' (first | ((with_reducible apply qI) <;> try simp only [qM, qB, qE, qG, qC, qA, qF, reduceIte, seval, Int.cast_ofNat_Int, qN, qO, qL, qZ, zA, zB, zY, zS, zD, zC, hdp, hnw, hbit, ws, gi0, gi1, qH m7_18 qV, qH mk18 qV, qH m10_18 zZ, qH m3_18 zZ, qH m8_18 kL, qH m10_18 qV, wl, gv, qH mv_18 qV, lv14]))
        refine rB sP rfl rfl (by decide) (by decide) rfl fun k19 h19 b19 s19 f19 n19 => ?_
        have s12_19 := s12_18.trans s19
        have s14_19 := s14_18.trans s19
        have S19 := S18.trans s19
        have m3_19 := S19 _ _ b3
        have m8_19 := s12_19 _ _ m812
        have m10_19 := s14_19 _ _ m14
        have mv_19 := s12_19 _ _ mv
        have m7_19 := S19 _ _ b7
        have mk19 := s19 _ _ mk18
        refine qJ ?_; repeat' (first | ((with_reducible apply qI) <;> try simp only [qM, qB, qE, qG, qC, qA, qF, reduceIte, seval, Int.cast_ofNat_Int, qN, qO, qL, qZ, zA, zB, zY, zS, zD, zC, hdp, hnw, hbit, ws, gi0, gi1, qH m7_19 qV, qH mk19 qV, qH m10_19 zZ, qH m3_19 zZ, qH m8_19 kL, qH m10_19 qV, wl, gv, qH mv_19 qV, lv14]))
        refine tP sP Tryz.underlying36 rfl S19 (ow.hs s12_19) b19 rfl rfl (by omega) (by simp only [maxLen]; omega) fun v20 h20 s20 fr20 o20 => ?_
        obtain ⟨a20, c20, rfl⟩ := o20.form
        have m8_20 := fr20 _ _ m8_19 (fun tl q => by cases q)
        have m3_20 := s20 _ _ b3
        have m7_20 := s20 _ _ b7
        have m10_20 := fr20 _ _ m10_19 (fun tl q => by cases q)
        have mk20 := fr20 _ _ mk19 (fun tl q => by cases q)
        refine qJ ?_; repeat' (first | ((with_reducible apply qI) <;> try simp only [qM, qB, qE, qG, qC, qA, qF, reduceIte, seval, Int.cast_ofNat_Int, qN, qO, qL, qZ, zA, zB, zY, zS, zD, zC, hdp, hnw, hbit, ws, gi0, gi1, qH m7_20 qV, qH mk20 qV, qH m10_20 zZ, qH m10_20 qV, qH m8_20 kL]))
        refine zU m8_20 kL rfl (by simp) rfl rfl fun h21 m8_21 f21 => ?_
        simp only [List.set_cons_zero] at m8_21
        refine qJ ?_; repeat' (first | ((with_reducible apply qI) <;> try simp only [qM, qB, qE, qG, qC, qA, qF, reduceIte, seval, Int.cast_ofNat_Int, qN, qO, qL, qZ, zA, zB, zY, zS, zD, zC, zK5]))
        have el21 : L ++ [yI size (qY id) lt x] = (rW size (qY id) (xE p) (hops.drop i)).reverse := by rw [wt, List.reverse_cons, ← eL]
        have zx : ∀ {cs y}, y ≠ [] → RTx h19 cs y → RTx h21 cs y := fun hy r => by
          obtain ⟨a, c, e, q1, q2⟩ := r.ap hu fr20 hy
          exact ⟨a, c, e, q1.hx m8_20 rfl (zE f21), q2.hx m8_20 rfl (zE f21)⟩
        refine ⟨s20.upd hb8 f21, L ++ [yI size (qY id) lt x], .slice a20 (L.length + 1) c20, cells ++ [.slice af (yI size (qY id) lt x).length cf], el21, ?_, ?_, ?_, fun t y ht => ?_⟩
        · exact m8_21
        · have := o20.by6 m8_20 f21
          rw [← ebit] at this
          rw [List.length_append, List.length_singleton]; exact this
        · rw [List.all_append, hu]; rfl
        · have hcl2 := ow.len
          rw [Nat.mul_one] at hcl2
          by_cases htL : t < L.length
          · rw [List.getElem?_append_left htL] at ht
            obtain ⟨vx2, e1, e2⟩ := hel t y ht
            exact ⟨vx2, by rw [List.getElem?_append_left (by omega)]; exact e1, zx (hmem y (List.mem_of_getElem? ht)).1 (e2.hs s12_19)⟩
          · rw [List.getElem?_append_right (by omega)] at ht
            have ht0 : t - L.length = 0 := by
              by_cases q : t - L.length = 0
              · exact q
              · rw [List.getElem?_eq_none (by simp; omega)] at ht; cases ht
            rw [ht0] at ht
            cases ht
            refine ⟨_, by rw [List.getElem?_append_right (by omega), show t - cells.length = 0 by omega]; rfl, zx tZ ?_⟩
            rw [ebit]
            exact ⟨af, cf, rfl, rf.hs s19, slf.hs s19⟩
    · refine xQ fun k11 h15 m15k s15 f15 n15 => ?_
      have n11 : h14 k11 = none := n15
      have s12_15 := s1214.trans s15
      have s14_15 := s15
      have S15 := S14.trans s15
      have m3_15 := S15 _ _ b3
      have m8_15 := s12_15 _ _ m812
      have m10_15 := s14_15 _ _ m14
      have mv_15 := s12_15 _ _ mv
      refine qJ ?_; repeat' (first | ((with_reducible apply qI) <;> try simp only [qM, qB, qE, qG, qC, qA, qF, reduceIte, seval, Int.cast_ofNat_Int, qN, qO, qL, qZ, zA, zB, zY, zS, zD, zC, xC, xU, vC, Shape.pl, List.all_cons, List.all_nil, zG, qH m3_15 zZ, qH m8_15 kL, qH m10_15 qV, wl, gv, qH mv_15 qV, lv14]))
      refine (qC8 N (tb.hs S15) (rl.hs s12_15) (sll.hs s12_15) (by omega) size).mono ?_
      rintro _ h16 ⟨s16, ac, cc, rfl, rc, slc⟩
      have s12_16 := s12_15.trans s16
      have s14_16 := s14_15.trans s16
      have S16 := S15.trans s16
      have rc16 := rc
      have m16k := s16 _ _ m15k
      have m3_16 := S16 _ _ b3
      have m8_16 := s12_16 _ _ m812
      have m10_16 := s14_16 _ _ m14
      have mv_16 := s12_16 _ _ mv
      refine qJ ?_; repeat' (first | ((with_reducible apply qI) <;> try simp only [qM, qB, qE, qG, qC, qA, qF, reduceIte, seval, Int.cast_ofNat_Int, qN, qO, qL, qZ, zA, zB, zY, zS, zD, zC, xC, xU, vC, Shape.pl, List.all_cons, List.all_nil, zG, qH m3_16 zZ, qH m8_16 kL, qH m10_16 qV, wl, gv, qH mv_16 qV, lv14]))
      refine wC m16k sz80 rfl (by decide) rfl rfl rfl fun h17 m17k f17 => ?_
      simp only [vcells] at m17k
      have s14_17 : HS h14 h17 := s14_16.upd n11 f17
      have s12_17 := s1214.trans s14_17
      have S17 := S14.trans s14_17
      have rc17 := rc16.hx m16k rfl (zE f17)
      have m3_17 := S17 _ _ b3
      have m8_17 := s12_17 _ _ m812
      have m10_17 := s14_17 _ _ m14
      have mv_17 := s12_17 _ _ mv
      have m7_17 := S17 _ _ b7
      have rr17 := rrb.hs S17
      have rx17 := (rx.hs S17)
      have gi0 : zI Tryz.prog 80 (.pointer (some ⟨k11, 0, none⟩)) 0 = some (.pointer (some ⟨k11, 0, none⟩)) := gi80 (i := 0) (by omega)
      have gi1 : zI Tryz.prog 80 (.pointer (some ⟨k11, 0, none⟩)) 1 = some (.pointer (some ⟨k11, 1, none⟩)) := gi80 (i := 1) (by omega)
      have hcl : (wL size lt).length ≤ 32 := by
        have := uV lt
        simp only [wL, List.length_take, this]; omega
      have wt : rW size (qY id) (xE p) (hops.drop i) = yI size (qY id) lt x :: rW size (qY id) (xE p) (hops.drop (i + 1)) := by
        rw [hdr, rW, elt]
      rcases sX (gbit_nonneg.2 (show dp < 8 * (qY id).length by omega)) with hbit | hbit
      · have ebit : yI size (qY id) lt x = wP dp (qY id) nw (wL size lt) x.2.2 := by
          unfold yI
          rw [hdp, hnw, Int.toNat_natCast, Int.toNat_natCast, if_neg (by rw [hbit]; decide)]
        have ws : IntKind.i64.wrap ((1 : Int) - 0) = 1 := rfl
        refine qJ ?_; repeat' (first | with_reducible apply qK | ((first | (with_reducible apply qI) | with_reducible apply qD | with_reducible refine zF zS xM (by kernel_rfl) ?_ | ((refine GTri.mono (kR _ _ rr17 dp (by omega)) ?_); rintro _ _ ⟨rfl, hh9⟩; replace hh9 := hh9.symm; subst hh9)) <;> try simp only [qM, qB, qE, qG, qC, qA, qF, reduceIte, seval, Int.cast_ofNat_Int, qN, qO, qL, qZ, zA, zB, zY, zS, zD, zC, hdp, hnw, hbit, ws, gi0, gi1, qH m7_17 qV, qH m17k qV, qH m10_17 zZ, qH m3_17 zZ, qH m8_17 kL, qH m10_17 qV, wl, gv, qH mv_17 qV, lv14]))
        refine (qI6 N (d := dp) (w := nw) (by omega) (by omega) rr17 rc17 rx17 (by omega) (by omega) (by omega)).mono ?_
        rintro _ h18 ⟨s18, af, cf, rfl, rf, slf⟩
        have s12_18 := s12_17.trans s18
        have s14_18 := s14_17.trans s18
        have S18 := S17.trans s18
        have m3_18 := S18 _ _ b3
        have m8_18 := s12_18 _ _ m812
        have m10_18 := s14_18 _ _ m14
        have mv_18 := s12_18 _ _ mv
        have m7_18 := S18 _ _ b7
        have mk18 := s18 _ _ m17k
        refine qJ ?_; repeat' (first | ((with_reducible apply qI) <;> try simp only [qM, qB, qE, qG, qC, qA, qF, reduceIte, seval, Int.cast_ofNat_Int, qN, qO, qL, qZ, zA, zB, zY, zS, zD, zC, hdp, hnw, hbit, ws, gi0, gi1, qH m7_18 qV, qH mk18 qV, qH m10_18 zZ, qH m3_18 zZ, qH m8_18 kL, qH m10_18 qV, wl, gv, qH mv_18 qV, lv14]))
        refine rB sP rfl rfl (by decide) (by decide) rfl fun k19 h19 b19 s19 f19 n19 => ?_
        have s12_19 := s12_18.trans s19
        have s14_19 := s14_18.trans s19
        have S19 := S18.trans s19
        have m3_19 := S19 _ _ b3
        have m8_19 := s12_19 _ _ m812
        have m10_19 := s14_19 _ _ m14
        have mv_19 := s12_19 _ _ mv
        have m7_19 := S19 _ _ b7
        have mk19 := s19 _ _ mk18
        refine qJ ?_; repeat' (first | ((with_reducible apply qI) <;> try simp only [qM, qB, qE, qG, qC, qA, qF, reduceIte, seval, Int.cast_ofNat_Int, qN, qO, qL, qZ, zA, zB, zY, zS, zD, zC, hdp, hnw, hbit, ws, gi0, gi1, qH m7_19 qV, qH mk19 qV, qH m10_19 zZ, qH m3_19 zZ, qH m8_19 kL, qH m10_19 qV, wl, gv, qH mv_19 qV, lv14]))
        refine tP sP Tryz.underlying36 rfl S19 (ow.hs s12_19) b19 rfl rfl (by omega) (by simp only [maxLen]; omega) fun v20 h20 s20 fr20 o20 => ?_
        obtain ⟨a20, c20, rfl⟩ := o20.form
        have m8_20 := fr20 _ _ m8_19 (fun tl q => by cases q)
        have m3_20 := s20 _ _ b3
        have m7_20 := s20 _ _ b7
        have m10_20 := fr20 _ _ m10_19 (fun tl q => by cases q)
        have mk20 := fr20 _ _ mk19 (fun tl q => by cases q)
        refine qJ ?_; repeat' (first | ((with_reducible apply qI) <;> try simp only [qM, qB, qE, qG, qC, qA, qF, reduceIte, seval, Int.cast_ofNat_Int, qN, qO, qL, qZ, zA, zB, zY, zS, zD, zC, hdp, hnw, hbit, ws, gi0, gi1, qH m7_20 qV, qH mk20 qV, qH m10_20 zZ, qH m10_20 qV, qH m8_20 kL]))
        refine zU m8_20 kL rfl (by simp) rfl rfl fun h21 m8_21 f21 => ?_
        simp only [List.set_cons_zero] at m8_21
        refine qJ ?_; repeat' (first | ((with_reducible apply qI) <;> try simp only [qM, qB, qE, qG, qC, qA, qF, reduceIte, seval, Int.cast_ofNat_Int, qN, qO, qL, qZ, zA, zB, zY, zS, zD, zC, zK5]))
        have el21 : L ++ [yI size (qY id) lt x] = (rW size (qY id) (xE p) (hops.drop i)).reverse := by rw [wt, List.reverse_cons, ← eL]
        have zx : ∀ {cs y}, y ≠ [] → RTx h19 cs y → RTx h21 cs y := fun hy r => by
          obtain ⟨a, c, e, q1, q2⟩ := r.ap hu fr20 hy
          exact ⟨a, c, e, q1.hx m8_20 rfl (zE f21), q2.hx m8_20 rfl (zE f21)⟩
        refine ⟨s20.upd hb8 f21, L ++ [yI size (qY id) lt x], .slice a20 (L.length + 1) c20, cells ++ [.slice af (yI size (qY id) lt x).length cf], el21, ?_, ?_, ?_, fun t y ht => ?_⟩
        · exact m8_21
        · have := o20.by6 m8_20 f21
          rw [← ebit] at this
          rw [List.length_append, List.length_singleton]; exact this
        · rw [List.all_append, hu]; rfl
        · have hcl2 := ow.len
          rw [Nat.mul_one] at hcl2
          by_cases htL : t < L.length
          · rw [List.getElem?_append_left htL] at ht
            obtain ⟨vx2, e1, e2⟩ := hel t y ht
            exact ⟨vx2, by rw [List.getElem?_append_left (by omega)]; exact e1, zx (hmem y (List.mem_of_getElem? ht)).1 (e2.hs s12_19)⟩
          · rw [List.getElem?_append_right (by omega)] at ht
            have ht0 : t - L.length = 0 := by
              by_cases q : t - L.length = 0
              · exact q
              · rw [List.getElem?_eq_none (by simp; omega)] at ht; cases ht
            rw [ht0] at ht
            cases ht
            refine ⟨_, by rw [List.getElem?_append_right (by omega), show t - cells.length = 0 by omega]; rfl, zx tZ ?_⟩
            rw [ebit]
            exact ⟨af, cf, rfl, rf.hs s19, slf.hs s19⟩
      · have ebit : yI size (qY id) lt x = wP dp (qY id) nw x.2.2 (wL size lt) := by
          unfold yI
          rw [hdp, hnw, Int.toNat_natCast, Int.toNat_natCast, if_pos hbit]
        have ws : IntKind.i64.wrap ((1 : Int) - 1) = 0 := rfl
        refine qJ ?_; repeat' (first | with_reducible apply qK | ((first | (with_reducible apply qI) | with_reducible apply qD | with_reducible refine zF zS xM (by kernel_rfl) ?_ | ((refine GTri.mono (kR _ _ rr17 dp (by omega)) ?_); rintro _ _ ⟨rfl, hh9⟩; replace hh9 := hh9.symm; subst hh9)) <;> try simp only [qM, qB, qE, qG, qC, qA, qF, reduceIte, seval, Int.cast_ofNat_Int, qN, qO, qL, qZ, zA, zB, zY, zS, zD, zC, hdp, hnw, hbit, ws, gi0, gi1, qH m7_17 qV, qH m17k qV, qH m10_17 zZ, qH m3_17 zZ, qH m8_17 kL, qH m10_17 qV, wl, gv, qH mv_17 qV, lv14]))
        refine (qI6 N (d := dp) (w := nw) (by omega) (by omega) rr17 rx17 rc17 (by omega) (by omega) (by omega)).mono ?_
        rintro _ h18 ⟨s18, af, cf, rfl, rf, slf⟩
        have s12_18 := s12_17.trans s18
        have s14_18 := s14_17.trans s18
        have S18 := S17.trans s18
        have m3_18 := S18 _ _ b3
        have m8_18 := s12_18 _ _ m812
        have m10_18 := s14_18 _ _ m14
        have mv_18 := s12_18 _ _ mv
        have m7_18 := S18 _ _ b7
        have mk18 := s18 _ _ m17k
        refine qJ ?_; repeat' (first | ((with_reducible apply qI) <;> try simp only [qM, qB, qE, qG, qC, qA, qF, reduceIte, seval, Int.cast_ofNat_Int, qN, qO, qL, qZ, zA, zB, zY, zS, zD, zC, hdp, hnw, hbit, ws, gi0, gi1, qH m7_18 qV, qH mk18 qV, qH m10_18 zZ, qH m3_18 zZ, qH m8_18 kL, qH m10_18 qV, wl, gv, qH mv_18 qV, lv14]))
        refine rB sP rfl rfl (by decide) (by decide) rfl fun k19 h19 b19 s19 f19 n19 => ?_
        have s12_19 := s12_18.trans s19
        have s14_19 := s14_18.trans s19
        have S19 := S18.trans s19
        have m3_19 := S19 _ _ b3
        have m8_19 := s12_19 _ _ m812
        have m10_19 := s14_19 _ _ m14
        have mv_19 := s12_19 _ _ mv
        have m7_19 := S19 _ _ b7
        have mk19 := s19 _ _ mk18
        refine qJ ?_; repeat' (first | ((with_reducible apply qI) <;> try simp only [qM, qB, qE, qG, qC, qA, qF, reduceIte, seval, Int.cast_ofNat_Int, qN, qO, qL, qZ, zA, zB, zY, zS, zD, zC, hdp, hnw, hbit, ws, gi0, gi1, qH m7_19 qV, qH mk19 qV, qH m10_19 zZ, qH m3_19 zZ, qH m8_19 kL, qH m10_19 qV, wl, gv, qH mv_19 qV, lv14]))
        refine tP sP Tryz.underlying36 rfl S19 (ow.hs s12_19) b19 rfl rfl (by omega) (by simp only [maxLen]; omega) fun v20 h20 s20 fr20 o20 => ?_
        obtain ⟨a20, c20, rfl⟩ := o20.form
        have m8_20 := fr20 _ _ m8_19 (fun tl q => by cases q)
        have m3_20 := s20 _ _ b3
        have m7_20 := s20 _ _ b7
        have m10_20 := fr20 _ _ m10_19 (fun tl q => by cases q)
        have mk20 := fr20 _ _ mk19 (fun tl q => by cases q)
        refine qJ ?_; repeat' (first | ((with_reducible apply qI) <;> try simp only [qM, qB, qE, qG, qC, qA, qF, reduceIte, seval, Int.cast_ofNat_Int, qN, qO, qL, qZ, zA, zB, zY, zS, zD, zC, hdp, hnw, hbit, ws, gi0, gi1, qH m7_20 qV, qH mk20 qV, qH m10_20 zZ, qH m10_20 qV, qH m8_20 kL]))
        refine zU m8_20 kL rfl (by simp) rfl rfl fun h21 m8_21 f21 => ?_
        simp only [List.set_cons_zero] at m8_21
        refine qJ ?_; repeat' (first | ((with_reducible apply qI) <;> try simp only [qM, qB, qE, qG, qC, qA, qF, reduceIte, seval, Int.cast_ofNat_Int, qN, qO, qL, qZ, zA, zB, zY, zS, zD, zC, zK5]))
        have el21 : L ++ [yI size (qY id) lt x] = (rW size (qY id) (xE p) (hops.drop i)).reverse := by rw [wt, List.reverse_cons, ← eL]
        have zx : ∀ {cs y}, y ≠ [] → RTx h19 cs y → RTx h21 cs y := fun hy r => by
          obtain ⟨a, c, e, q1, q2⟩ := r.ap hu fr20 hy
          exact ⟨a, c, e, q1.hx m8_20 rfl (zE f21), q2.hx m8_20 rfl (zE f21)⟩
        refine ⟨s20.upd hb8 f21, L ++ [yI size (qY id) lt x], .slice a20 (L.length + 1) c20, cells ++ [.slice af (yI size (qY id) lt x).length cf], el21, ?_, ?_, ?_, fun t y ht => ?_⟩
        · exact m8_21
        · have := o20.by6 m8_20 f21
          rw [← ebit] at this
          rw [List.length_append, List.length_singleton]; exact this
        · rw [List.all_append, hu]; rfl
        · have hcl2 := ow.len
          rw [Nat.mul_one] at hcl2
          by_cases htL : t < L.length
          · rw [List.getElem?_append_left htL] at ht
            obtain ⟨vx2, e1, e2⟩ := hel t y ht
            exact ⟨vx2, by rw [List.getElem?_append_left (by omega)]; exact e1, zx (hmem y (List.mem_of_getElem? ht)).1 (e2.hs s12_19)⟩
          · rw [List.getElem?_append_right (by omega)] at ht
            have ht0 : t - L.length = 0 := by
              by_cases q : t - L.length = 0
              · exact q
              · rw [List.getElem?_eq_none (by simp; omega)] at ht; cases ht
            rw [ht0] at ht
            cases ht
            refine ⟨_, by rw [List.getElem?_append_right (by omega), show t - cells.length = 0 by omega]; rfl, zx tZ ?_⟩
            rw [ebit]
            exact ⟨af, cf, rfl, rf.hs s19, slf.hs s19⟩
  · obtain ⟨s12, L, v, cells, eL, m812, ow, hu, hel⟩ := hI
    rw [List.drop_zero] at eL
    obtain ⟨kv, cv, tlv, rfl, hn0, hcl, mv, nv, hcap⟩ := ow
    rw [Nat.mul_one] at hcl
    have hLl : L.length = hops.length + 1 := by rw [eL, List.length_reverse, tB]
    have hmem : ∀ y ∈ L, y ≠ [] := fun y hy => (htx hops (fun z hz => by have q := (hok z hz).2.2.2.2; omega) y (by rw [eL, List.mem_reverse] at hy; exact hy)).1
    have hcell : ∀ (i : Nat) v, cells[i]? = some v → vcells v = [v] ∧ zG v = true := fun i v hv => by
      obtain ⟨y, hy⟩ := yO (show i < L.length by have := (List.getElem?_eq_some_iff.1 hv).1; omega)
      obtain ⟨x, e1, a1, c1, e2, _⟩ := hel i y hy
      rw [hv] at e1
      cases e1
      cases e2
      exact ⟨rfl, rfl⟩
    refine qJ ?_; repeat' (first | with_reducible apply qK | ((first | (with_reducible apply qI) | with_reducible apply qD) <;> try simp only [qM, qB, qE, qG, qC, qA, qF, reduceIte, seval, Int.cast_ofNat_Int, qN, qO, qL, qZ, zA, zB, zY, zS, zD, zC, qH m812 kL]))
    refine (c_Rev N mv hcl (by omega) hcell).mono ?_
    rintro _ h13 ⟨rfl, m13, x13⟩
    have k8v : k8 ≠ kv := ne_es m812 mv (by simp)
    have m813 := x13 _ _ k8v m812
    have fr13 : ∀ j B, h12 j = some B → (∀ tl, B ≠ ⟨cells, 1, true, tl⟩) → h13 j = some B := fun j B m ne => x13 j B (fun q => by rw [q, mv] at m; cases m; exact ne _ rfl) m
    refine qJ ?_; repeat' (first | with_reducible apply qK | ((first | (with_reducible apply qI) | (with_reducible first | apply qD | apply qQ)) <;> try simp only [qM, qB, qE, qG, qC, qA, qF, reduceIte, seval, Int.cast_ofNat_Int, qN, qO, qL, qZ, zA, zB, zY, zS, zD, zC, qH m813 kL]))
    have etx : rW size (qY id) (xE p) hops = L.reverse := by rw [eL, List.reverse_reverse]
    have hln : (rW size (qY id) (xE p) hops).length = L.length := by rw [etx, List.length_reverse]
    refine ⟨Sb.trans (HX.new x13 s12 nv), some ⟨kv, 0, none⟩, cv, by rw [hln], .inr ⟨⟨kv, 0, none⟩, cv, cells.reverse, rfl, vG m13 (by rw [List.drop_zero]; exact List.take_of_length_le (by rw [List.length_reverse]; omega)) (by rw [List.length_reverse]; omega), by omega, fun i x hx => ?_, .inr ⟨_, m13, .inl (by simp)⟩⟩⟩
    have hi := (List.getElem?_eq_some_iff.1 hx).1
    rw [etx, List.getElem?_reverse (by omega)] at hx
    obtain ⟨w, e1, e2⟩ := hel _ _ hx
    have hgw : cells.reverse[i]? = some w := by
      rw [List.getElem?_reverse (by omega), hcl]; exact e1
    rw [Nat.mul_one]
    have : (cells.reverse.drop i).take 1 = [w] := by
      obtain ⟨h3, h4⟩ := List.getElem?_eq_some_iff.1 hgw
      rw [List.drop_eq_getElem_cons h3, h4]; rfl
    rw [this]
    exact e2.ap hu fr13 (hmem _ (List.mem_of_getElem? hx))
end
theorem mS : type_of% (And.intro zR (And.intro qJ8 (And.intro xW (And.intro wS (And.intro zD1 rs9))))) := And.intro zR (And.intro qJ8 (And.intro xW (And.intro wS (And.intro zD1 rs9))))
theorem uH : type_of% (And.intro zR (And.intro pO (And.intro fC (And.intro uG (And.intro kU (And.intro qD2 (And.intro qJ8 (And.intro xW (And.intro kC (And.intro wS rs8)))))))))) := And.intro zR (And.intro pO (And.intro fC (And.intro uG (And.intro kU (And.intro qD2 (And.intro qJ8 (And.intro xW (And.intro kC (And.intro wS rs8)))))))))
def yX : Nat → List (Nat × List Nat) × List Nat
  | 5 => ([(0, []), (2, []), (3, []), (4, []), (6, []), (7, []), (8, []), (1, [4, 8]), (5, [8]), (9, []), (10, []), (11, []), (12, [])], [0, 1, 0, 4, 12, 31, 0, 64, 192, 511, 1023, 2047, 4095])
  | _ => ([], [])
theorem zC8 (N : Nat) {h : GH} {c1 c2 : List Value} {x y : Pt} (r1 : RPut h c1 x) (r2 : RPut h c2 y) : GTri Tryz.prog N 9 [.agg c1.toArray, .agg c2.toArray] h fun v h' => v = .bool ((x.1.1 == y.1.1) && (x.1.2 == y.1.2) && (x.2 == y.2)) ∧ HS h h' := by
  obtain ⟨a, c, b, d, rfl, p1, p2⟩ := r1
  obtain ⟨a', c', b', d', rfl, q1, q2⟩ := r2
  refine xN Tryz.func9 rfl gf9 ok9 (by simp [Tryz.ntmps9]) ?_
  repeat' (first | with_reducible apply qK | (with_reducible apply qD <;> try simp only [qM, qB, qE, qG, qC, qA, qF, reduceIte, seval, Int.cast_ofNat_Int, qN, qO, mS]))
  refine uL rfl fun k2 h2 m2 s2 f2 n2 => ?_
  refine qJ ?_; repeat' (first | ((with_reducible apply qI) <;> try simp only [qM, qB, qE, qG, qC, qA, qF, reduceIte, seval, Int.cast_ofNat_Int, qN, qO, mS]))
  refine uL rfl fun k3 h3 m3 s3 f3 n3 => ?_
  have S3 := s2.trans s3
  have m23 := s3 _ _ m2
  have v1 := (p1.hs S3).conv Tryz.underlying22 Tryz.underlying5 Tryz.underlying9
  have v2 := (p2.hs S3).conv Tryz.underlying22 Tryz.underlying5 Tryz.underlying9
  have v3 := (q1.hs S3).conv Tryz.underlying22 Tryz.underlying5 Tryz.underlying9
  have v4 := (q2.hs S3).conv Tryz.underlying22 Tryz.underlying5 Tryz.underlying9
  cases z0 : (x.1.1 == y.1.1)
  case false =>
    refine qJ ?_; repeat' (first | with_reducible apply qK | ((first | (with_reducible apply qI) | (with_reducible first | apply qD | apply qQ)) <;> try simp only [qM, qB, qE, qG, qC, qA, qF, reduceIte, seval, Int.cast_ofNat_Int, qN, qO, mS, qH m23 qV, qH m3 qV, v1, v3, dT, z0, gPick]))
    first | exact S3 | exact ⟨rfl, S3⟩
  cases z1 : (x.1.2 == y.1.2)
  case false =>
    refine qJ ?_; repeat' (first | with_reducible apply qK | ((first | (with_reducible apply qI) | (with_reducible first | apply qD | apply qQ)) <;> try simp only [qM, qB, qE, qG, qC, qA, qF, reduceIte, seval, Int.cast_ofNat_Int, qN, qO, mS, qH m23 qV, qH m3 qV, v1, v2, v3, v4, dT, z0, z1, gPick]))
    first | exact S3 | exact ⟨rfl, S3⟩
  refine qJ ?_; repeat' (first | with_reducible apply qK | ((first | (with_reducible apply qI) | (with_reducible first | apply qD | apply qQ)) <;> try simp only [qM, qB, qE, qG, qC, qA, qF, reduceIte, seval, Int.cast_ofNat_Int, qN, qO, mS, qH m23 qV, qH m3 qV, qH m23 zZ, qH m3 zZ, v1, v2, v3, v4, dT, z0, z1, gPick]))
  first | exact S3 | exact ⟨rfl, S3⟩
section
variable {K : Type} {R : GH → List Value → K → Prop}
def qX5 (size : Int) (root id : List UInt8) (hops : List Hp) (p : Pn K) : Bool := qK7 size id hops p && (wL size ((rW size (qY id) (xE p) hops).headD []) == root)
def uR (size : Int) (root id : List UInt8) (hops : List Hp) (p : Pn K) : Pt × Bool × Int :=
  if qX5 size root id hops p = false then ((([], []), 0), false, 95) else if (p.kd == 1 && p.id == id) = true then (((id, p.ky), p.si), true, 0) else ((([], []), 0), false, 0)
theorem c_Find (N : Nat) {h : GH} (t : TK h) {cs : List Value} {p : Pn K} (r : RPn R h cs p) (fR : ∀ {h h'}, HS h h' → ∀ cs x, R h cs x → R h' cs x) (size : Int) (hl : p.pf.length ≤ 100000000) (hid : p.id.length ≤ 100000000) (hky : p.ky.length ≤ 100000000) {a b g : Option Addr} {c d e : Nat} {root id : List UInt8} (ri : RB h (.slice a id.length c) id) (rt : RB h (.slice g root.length e) root) {hops : List Hp} (rh : RL 3 RHp h (.slice b hops.length d) hops) (hh : hops.length ≤ 100000000) :
    GTri Tryz.prog N 8 [.int .i64 size, .slice g root.length e, .slice a id.length c, .agg (.slice b hops.length d :: cs).toArray] h fun v h' => HS h h' ∧ ∃ cx, v = .tuple #[.agg cx.toArray, .bool (uR size root id hops p).2.1, .int .i64 (uR size root id hops p).2.2] ∧ RPut h' cx (uR size root id hops p).1 := by
  have hcs := r.len
  have r0 := r
  obtain ⟨a1, c1, a2, c2, a3, c3, a4, c4, a5, c5, a6, c6, ecs, r1, r2, r3, r4, r5, r6⟩ := r
  have hkl := vM id
  unfold uR qX5
  refine xN Tryz.func8 rfl gf8 ok8 (by simp [Tryz.ntmps8]) ?_
  repeat' (first | with_reducible apply qK | (with_reducible apply qD <;> try simp only [qM, qB, qE, qG, qC, qA, qF, reduceIte, seval, Int.cast_ofNat_Int, qN, qO, qL, qZ, zA, zB, uH, yX]))
  refine uL (by simp only [List.all_cons, hcs.2.1]; rfl) fun k7 h1 m1 s1 f1 n1 => ?_
  refine qJ ?_; repeat' (first | ((with_reducible apply qI) <;> try simp only [qM, qB, qE, qG, qC, qA, qF, reduceIte, seval, Int.cast_ofNat_Int, qN, qO, qL, qZ, zA, zB, uH, yX]))
  refine xQ fun k8 h2 m2 s2 f2 n2 => ?_
  have S2 := s1.trans s2
  have m12 := s2 _ _ m1
  have ld2 := zQ (P := Tryz.prog) (t := 28) m12 tY (by simp only [List.length_cons, hcs.1])
  refine qJ ?_; repeat' (first | with_reducible apply qK | ((first | (with_reducible apply qI) | with_reducible apply qD) <;> try simp only [qM, qB, qE, qG, qC, qA, qF, reduceIte, seval, Int.cast_ofNat_Int, qN, qO, qL, qZ, zA, zB, uH, yX, ld2]))
  refine (pL N (t.hs S2) (r0.hs S2 (fR S2)) fR size hl hid (ri.hs S2) (RL.hs (R := RHp) S2 (fun _ _ q => q.hs S2) rh) hh).mono ?_
  rintro _ h3 ⟨s3, at_, ct, rfl, rtx⟩
  have S3 := S2.trans s3
  have m23 := s3 _ _ m2
  have m13 := s3 _ _ m12
  have n2h : h k8 = none := s1.none_of n2
  unfold qJ9 at rtx
  unfold qJ9
  cases hck : qK7 size id hops p
  case false =>
    rw [hck, if_neg (by decide)] at rtx
    simp only [Bool.false_eq_true, if_false, Bool.false_and, if_true, List.length_nil, Int.natCast_zero]
    refine qJ ?_; repeat' (first | with_reducible apply qK | ((first | (with_reducible apply qI) | (with_reducible first | apply qD | apply qS)) <;> try simp only [qM, qB, qE, qG, qC, qA, qF, reduceIte, seval, Int.cast_ofNat_Int, qN, qO, qL, qZ, zA, zB, uH, yX, gPick, xC, xU, vC, Shape.pl, List.all_cons, List.all_nil, zG]))
    refine wC m23 gX rfl (by decide) rfl rfl rfl fun h4 m4 f4 => ?_
    simp only [vcells] at m4
    have ld := zQ (P := Tryz.prog) (t := 31) m4 gX rfl
    refine qJ ?_; repeat' (first | ((first | (with_reducible apply qI) | with_reducible apply qQ) <;> try simp only [qM, qB, qE, qG, qC, qA, qF, reduceIte, seval, Int.cast_ofNat_Int, qN, qO, qL, qZ, zA, zB, uH, yX, sU, ld]))
    exact ⟨S3.upd n2h f4, _, rfl, none, 0, none, 0, rfl, RB.nil _, RB.nil _⟩
  rw [hck, if_pos rfl] at rtx
  rw [if_pos rfl]
  obtain ⟨hs1, hs2, hid24, _, hright, _⟩ := pJ hck
  have hlast : ∃ last, sD size (qY id) (-1) hops = some last := by obtain ⟨_, _, _, ⟨z, q, _⟩, _⟩ := pJ hck; exact ⟨z, q⟩
  obtain ⟨last, hlast⟩ := hlast
  have hok := rJ hops (-1) last (by omega) hlast
  have hlen := tB size (qY id) (xE p) hops
  obtain ⟨y0, hy0⟩ : ∃ y0, (rW size (qY id) (xE p) hops)[0]? = some y0 := yO (by omega)
  have hy1 := (qF0 (size := size) (row := qY id) (en := xE p) ⟨pN p, by have := tQ hright hs2; omega⟩ (by omega) hops (fun z hz => by have := (hok z hz).2.2.2.2; omega) y0 (List.mem_of_getElem? hy0)).2
  have eh : (rW size (qY id) (xE p) hops).headD [] = y0 := by rw [List.headD_eq_head?_getD, List.head?_eq_getElem?, hy0]; rfl
  rw [eh]
  obtain ⟨ad, cs5, g1, g2, a7, c7, rfl, q1, q2⟩ := RL.at (P := Tryz.prog) rtx Tryz.underlying36 qV hy0
  have g1' : zI Tryz.prog 36 (.slice at_ (rW size (qY id) (xE p) hops).length ct) 0 = some (.pointer (some ad)) := g1
  have dl : (((rW size (qY id) (xE p) hops).length : Int) == 0) = false := by rw [hlen]; simp; omega
  refine qJ ?_; repeat' (first | with_reducible apply qK | ((first | (with_reducible apply qI) | with_reducible apply qD) <;> try simp only [qM, qB, qE, qG, qC, qA, qF, reduceIte, seval, Int.cast_ofNat_Int, qN, qO, qL, qZ, zA, zB, uH, yX, dl, g1', yC qV g2, gPick]))
  refine (qC8 N (t.hs S3) q1 q2 (by omega) size).mono ?_
  rintro _ h4 ⟨s4, a8, c8, rfl, rc, _⟩
  have S4 := S3.trans s4
  have m24 := s4 _ _ m23
  have m14 := s4 _ _ m13
  have rt4 := rt.hs S4
  cases hq : (wL size y0 == root)
  case false =>
    simp only [Bool.true_and, if_true]
    refine qJ ?_; repeat' (first | with_reducible apply qK | ((first | (with_reducible apply qI) | (with_reducible first | apply qD | apply qS) | ((refine GTri.mono (uS _ _ rc rt4) ?_); rintro _ _ ⟨rfl, hh9⟩; replace hh9 := hh9.symm; subst hh9)) <;> try simp only [qM, qB, qE, qG, qC, qA, qF, reduceIte, seval, Int.cast_ofNat_Int, qN, qO, qL, qZ, zA, zB, uH, yX, dl, hq, gPick, xC, xU, vC, Shape.pl, List.all_cons, List.all_nil, zG]))
    refine wC m24 gX rfl (by decide) rfl rfl rfl fun h5 m5 f5 => ?_
    simp only [vcells] at m5
    have ld := zQ (P := Tryz.prog) (t := 31) m5 gX rfl
    refine qJ ?_; repeat' (first | ((first | (with_reducible apply qI) | with_reducible apply qQ) <;> try simp only [qM, qB, qE, qG, qC, qA, qF, reduceIte, seval, Int.cast_ofNat_Int, qN, qO, qL, qZ, zA, zB, uH, yX, sU, ld]))
    exact ⟨S4.upd n2h f5, _, rfl, none, 0, none, 0, rfl, RB.nil _, RB.nil _⟩
  rw [if_neg (by simp)]
  rw [ecs] at m14
  simp only [Pn.cs] at m14
  have v1 := r1.hs S4
  cases e1 : (p.kd == 1 && p.id == id)
  case false =>
    rw [if_neg (by simp)]
    cases e2 : (p.kd == 1)
    case false =>
      refine qJ ?_; repeat' (first | with_reducible apply qK | ((first | (with_reducible apply qI) | (with_reducible first | apply qD | apply qS | apply qP) | ((refine GTri.mono (uS _ _ rc rt4) ?_); rintro _ _ ⟨rfl, hh9⟩; replace hh9 := hh9.symm; subst hh9)) <;> try simp only [qM, qB, qE, qG, qC, qA, qF, reduceIte, seval, Int.cast_ofNat_Int, qN, qO, qL, qZ, zA, zB, uH, yX, dl, hq, gPick, qH m14 zZ, e2, xC, xU, vC, Shape.pl, List.all_cons, List.all_nil, zG]))
      refine wC m24 gX rfl (by decide) rfl rfl rfl fun h5 m5 f5 => ?_
      simp only [vcells] at m5
      have ld := zQ (P := Tryz.prog) (t := 31) m5 gX rfl
      refine qJ ?_; repeat' (first | ((first | (with_reducible apply qI) | with_reducible apply qQ) <;> try simp only [qM, qB, qE, qG, qC, qA, qF, reduceIte, seval, Int.cast_ofNat_Int, qN, qO, qL, qZ, zA, zB, uH, yX, sU, ld]))
      exact ⟨S4.upd n2h f5, _, rfl, none, 0, none, 0, rfl, RB.nil _, RB.nil _⟩
    rw [e2, Bool.true_and] at e1
    refine qJ ?_; repeat' (first | with_reducible apply qK | ((first | (with_reducible apply qI) | (with_reducible first | apply qD | apply qS | apply qP) | ((refine GTri.mono (uS _ _ rc rt4) ?_); rintro _ _ ⟨rfl, hh9⟩; replace hh9 := hh9.symm; subst hh9) | ((refine GTri.mono (uS _ _ v1 (ri.hs S4)) ?_); rintro _ _ ⟨rfl, hh9⟩; replace hh9 := hh9.symm; subst hh9)) <;> try simp only [qM, qB, qE, qG, qC, qA, qF, reduceIte, seval, Int.cast_ofNat_Int, qN, qO, qL, qZ, zA, zB, uH, yX, dl, hq, gPick, qH m14 zZ, qH m14 qV, e1, e2, xC, xU, vC, Shape.pl, List.all_cons, List.all_nil, zG]))
    refine wC m24 gX rfl (by decide) rfl rfl rfl fun h5 m5 f5 => ?_
    simp only [vcells] at m5
    have ld := zQ (P := Tryz.prog) (t := 31) m5 gX rfl
    refine qJ ?_; repeat' (first | ((first | (with_reducible apply qI) | with_reducible apply qQ) <;> try simp only [qM, qB, qE, qG, qC, qA, qF, reduceIte, seval, Int.cast_ofNat_Int, qN, qO, qL, qZ, zA, zB, uH, yX, sU, ld]))
    exact ⟨S4.upd n2h f5, _, rfl, none, 0, none, 0, rfl, RB.nil _, RB.nil _⟩
  rw [if_pos rfl]
  have e1' := e1
  simp only [Bool.and_eq_true] at e1'
  obtain ⟨e2, e3⟩ := e1'
  refine qJ ?_; repeat' (first | with_reducible apply qK | ((first | (with_reducible apply qI) | (with_reducible first | apply qD | apply qS | apply qP) | with_reducible refine zF yX xM (by kernel_rfl) ?_ | ((refine GTri.mono (uS _ _ rc rt4) ?_); rintro _ _ ⟨rfl, hh9⟩; replace hh9 := hh9.symm; subst hh9) | ((refine GTri.mono (uS _ _ v1 (ri.hs S4)) ?_); rintro _ _ ⟨rfl, hh9⟩; replace hh9 := hh9.symm; subst hh9)) <;> try simp only [qM, qB, qE, qG, qC, qA, qF, reduceIte, seval, Int.cast_ofNat_Int, qN, qO, qL, qZ, zA, zB, uH, yX, dl, hq, gPick, qH m14 zZ, qH m14 qV, e2, e3]))
  refine (jB N h4 (ri.hs S4) (by omega)).mono ?_
  rintro _ h5 ⟨s5, o5⟩
  obtain ⟨a9, c9, rfl⟩ := o5.form
  have m15 := s5 _ _ m14
  refine qJ ?_; repeat' (first | ((with_reducible apply qI) <;> try simp only [qM, qB, qE, qG, qC, qA, qF, reduceIte, seval, Int.cast_ofNat_Int, qN, qO, qL, qZ, zA, zB, uH, yX, qH m15 zZ, qH m15 qV]))
  refine (jB N h5 ((r2.hs S4).hs s5) (by omega)).mono ?_
  rintro _ h6 ⟨s6, o6⟩
  obtain ⟨a10, c10, rfl⟩ := o6.form
  have m16 := s6 _ _ m15
  have m26 := s6 _ _ (s5 _ _ m24)
  have S6 := (S4.trans s5).trans s6
  refine qJ ?_; repeat' (first | ((with_reducible apply qI) <;> try simp only [qM, qB, qE, qG, qC, qA, qF, reduceIte, seval, Int.cast_ofNat_Int, qN, qO, qL, qZ, zA, zB, uH, yX, qH m16 zZ, qH m16 qV, xC, xU, vC, Shape.pl, List.all_cons, List.all_nil, zG]))
  refine wC m26 gX rfl (by decide) rfl rfl rfl fun h7 m7 f7 => ?_
  simp only [vcells] at m7
  have ld := zQ (P := Tryz.prog) (t := 31) m7 gX rfl
  refine qJ ?_; repeat' (first | ((first | (with_reducible apply qI) | with_reducible apply qQ) <;> try simp only [qM, qB, qE, qG, qC, qA, qF, reduceIte, seval, Int.cast_ofNat_Int, qN, qO, qL, qZ, zA, zB, uH, yX, sU, ld, qH m16 zZ, qH m16 qV]))
  exact ⟨S6.upd n2h f7, _, rfl, a9, c9, a10, c10, rfl, (o5.rb.hs s6).hx m26 rfl (zE f7), o6.rb.hx m26 rfl (zE f7)⟩
end
end Go.Gh
