/- Parts of this claim's proof, 12. No statement of the claim stands here. -/
import Derived.Test.YtkifgpomablpiaaGreatDoorP11
namespace Go.Gh
open Go Go.Proofs Go.RowKit
set_option linter.unusedVariables false
set_option linter.unusedSimpArgs false
set_option maxRecDepth 100000
set_option maxHeartbeats 4000000
theorem sG : type_of% (And.intro lD (And.intro xB rs130)) := And.intro lD (And.intro xB rs130)
def dY : Nat → List (Nat × List Nat) × List Nat
  | 3 => ([(0, []), (1, []), (2, []), (3, []), (4, []), (5, []), (6, []), (7, []), (8, []), (9, []), (10, []), (11, []), (12, []), (13, []), (14, []), (15, [])], [0, 0, 0, 0, 0, 0, 48, 112, 0, 0, 768, 1792, 4083, 8179, 16383, 32767])
  | _ => ([], [])
theorem yE : type_of% (And.intro Tryz.underlying170 (And.intro lD (And.intro uU (And.intro zG (And.intro yB (And.intro qG6 (And.intro yM (And.intro ty170 (And.intro xB (And.intro uT (And.intro jP (And.intro wH rs87)))))))))))) := And.intro Tryz.underlying170 (And.intro lD (And.intro uU (And.intro zG (And.intro yB (And.intro qG6 (And.intro yM (And.intro ty170 (And.intro xB (And.intro uT (And.intro jP (And.intro wH rs87)))))))))))
theorem zD8 : type_of% (And.intro uU (And.intro yM rs88)) := And.intro uU (And.intro yM rs88)
theorem yV : type_of% (And.intro uU (And.intro zG (And.intro yM (And.intro xB (And.intro uT rs131))))) := And.intro uU (And.intro zG (And.intro yM (And.intro xB (And.intro uT rs131))))
section
variable {h0 h h' : GH} {k : Nat} {v : Value} {cs : List Value} {M : List Nd}
theorem zO5 {k i : Nat} (h : i < 2) : zI Tryz.prog 170 (.pointer (some ⟨k, 0, none⟩)) (i : Int) = some (.pointer (some ⟨k, i, none⟩)) := by
  simp [zI, Tryz.underlying170, zT]; omega
theorem c_Rev2 (N : Nat) {k : Nat} {h : GH} {p q : Int} {c : Nat} (m : h k = some ⟨[.int .i64 p, .int .i64 q], 0, true, false⟩) : GTri Tryz.prog N 130 [.slice (some ⟨k, 0, none⟩) 2 c] h fun u h' => u = .tuple #[] ∧ h' k = some ⟨[.int .i64 q, .int .i64 p], 0, true, false⟩ ∧ HX k h h' := by
  have g0 : zI Tryz.prog 127 (.slice (some ⟨k, 0, none⟩) 2 c) 0 = some (.pointer (some ⟨k, 0, none⟩)) := by simp [zI, Tryz.underlying127, zT]
  have g1 : zI Tryz.prog 127 (.slice (some ⟨k, 0, none⟩) 2 c) 1 = some (.pointer (some ⟨k, 1, none⟩)) := by simp [zI, Tryz.underlying127, zT]
  refine zU Tryz.func130 rfl gf130 ok130 (by simp [Tryz.ntmps130]) ?_
  refine qJ ?_; repeat' (first | (with_reducible first | apply qK | apply qT) | ((with_reducible first | apply qI | apply qB) <;> try simp only [qN, qC, qE, qG, qD, qA, qF, seval, qQ, qO, qP, qL, qX, qZ, zC, sG, dY]))
  refine xN [0] (fun (j : Nat) => [(2, .int .i64 (j : Int)), (3, .int .i64 (1 - (j : Int)))]) (fun n j h' => n = 1 - j ∧ (j = 0 ∧ h' = h ∨ j = 1 ∧ h' k = some ⟨[.int .i64 q, .int .i64 p], 0, true, false⟩ ∧ HX k h h')) 1 0 (by simp [lk]) ⟨rfl, .inl ⟨rfl, rfl⟩⟩ ?_
  rintro _ j h1 ⟨rfl, ⟨rfl, rfl⟩ | ⟨rfl, m1, x1⟩⟩
  case inr =>
    refine qJ ?_; repeat' (first | with_reducible apply qK | ((with_reducible first | apply qI | apply qB | apply qR | apply xO) <;> try simp only [qN, qC, qE, qG, qD, qA, qF, seval, qQ, qO, qP, qL, qX, qZ, zC, sG, dY, Int.natCast_one, Int.sub_self, Int.reduceLT]))
    exact ⟨m1, x1⟩
  have e0 : ((0 : Nat) : Int) = 0 := rfl
  have e1 : (1 : Int) - ((0 : Nat) : Int) = 1 := rfl
  refine qJ ?_; repeat' (first | (with_reducible first | apply qK | apply qT) | ((first | (with_reducible first | apply qI | apply qB | apply qR | apply qS) | with_reducible refine zE dY xG (by kernel_rfl) ?_) <;> try simp only [qN, qC, qE, qG, qD, qA, qF, seval, qQ, qO, qP, qL, qX, qZ, zC, sG, dY, e0, e1, Int.sub_zero, Int.reduceLT, g0, g1, qH m zT]))
  refine zY m zT rfl (by simp) rfl rfl fun h2 m2 f2 => ?_
  simp only [List.set_cons_zero, List.set_cons_succ] at m2
  have w1 : IntKind.i64.wrap ((0 : Int) + 1) = 1 := rfl
  have w2 : IntKind.i64.wrap ((1 : Int) - 1) = 0 := rfl
  refine qJ ?_; repeat' (first | ((with_reducible apply qI) <;> try simp only [qN, qC, qE, qG, qD, qA, qF, seval, qQ, qO, qP, qL, qX, qZ, zC, sG, dY, e0, e1, Int.sub_zero, Int.reduceLT, g0, g1, qH m2 zT]))
  refine zY m2 zT rfl (by simp) rfl rfl fun h3 m3 f3 => ?_
  simp only [List.set_cons_zero, List.set_cons_succ] at m3
  refine qJ ?_; repeat' (first | ((with_reducible first | apply qI | apply qB) <;> try simp only [qN, qC, qE, qG, qD, qA, qF, seval, qQ, qO, qP, qL, qX, qZ, zC, sG, dY, e0, e1, w1, w2, Int.sub_zero, Int.reduceLT, g0, g1, qH m3 zT]))
  exact ⟨_, 1, by omega, (by simp [lk]), rfl, .inr ⟨rfl, m3, (zJ f2).trans (zJ f3)⟩⟩
theorem c_part (N : Nat) (s0 : HS h0 h) (t : TK h0) (x : AA h0 h k v cs M) {a : Option Addr} {c : Nat} {row : List UInt8} (rr : RB h (.slice a row.length c) row) (hrow : row.length ≤ 60000) {now e : Nat} (hnow : now < M.length) (he : e < M.length) (hm : M.length < 10000) {nd : Nd} {i : Nat} (ok : nd.ok i) (f : Value) (hf : zP f = true) (b : Bool)
    {a1 a2 a3 a4 : Option Addr} {c1 c2 c3 c4 : Nat} (rn : RNd h (nd.cs (.slice a1 nd.id.length c1) (.slice a2 nd.ky.length c2) (.slice a3 nd.pf.length c3) (.slice a4 nd.hs.length c4)) nd) (q1 : RB h (.slice a1 nd.id.length c1) nd.id) (q3 : RB h (.slice a3 nd.pf.length c3) nd.pf) :
    GTri Tryz.prog N 87 [.pointer (some ⟨k, 0, none⟩), .slice a row.length c, .int .i64 (now : Int), .agg (rZ f (e : Int) nd (.slice a1 nd.id.length c1) (.slice a2 nd.ky.length c2) (.slice a3 nd.pf.length c3) (.slice a4 nd.hs.length c4) b).toArray] h fun u h' =>
      u = .int .i64 ((dC row M now e nd).2 : Int) ∧ HS h0 h' ∧ FR 11 k h h' ∧ ∃ v' cs', AA h0 h' k v' cs' (dC row M now e nd).1 := by
  have hle := lZ row (uW nd)
  have l1 := ok.id
  have l3 := ok.pf
  have hid : nd.lf = true → uW nd = zM nd.id := fun q => by unfold uW; rw [if_pos q]
  have hpf : nd.lf = false → uW nd = nd.pf := fun q => by unfold uW; rw [q]; rfl
  have hkl := yY nd.id
  refine zU Tryz.func87 rfl gf87 ok87 (by simp [Tryz.ntmps87]) ?_
  repeat' (first | with_reducible apply qK | ((with_reducible apply qB) <;> try simp only [qN, qC, qE, qG, qD, qA, qF, seval, qQ, qO, qP, yE]))
  refine wD (by simp only [List.toList_toArray, rZ, List.all_cons, List.all_nil, hf]; rfl) fun k1 h1 m1 s1 f1 n1 => ?_
  simp only [rZ] at m1
  generalize hd : wR row (uW nd) = d at hle
  cases hlf : nd.lf
  · rw [hlf] at m1
    have hd0 := hd
    rw [hpf hlf] at hd
    have S9 := s1
    have m1h := m1
    refine qJ ?_; repeat' (first | with_reducible apply qK | ((first | (with_reducible first | apply qI | apply qB | apply qR | apply qS) | ((refine GTri.mono (qC2 _ _ (rr.hs s1) (q3.hs s1) rfl rfl (by omega)) ?_); rintro _ _ ⟨rfl, hh9⟩; replace hh9 := hh9.symm; subst hh9)) <;> try simp only [qN, qC, qE, qG, qD, qA, qF, seval, qQ, qO, qP, yE, hd, qH m1 zD, qH m1 rU, qH m1 zT, xU, wI, yQ, Shape.pl, List.all_cons, List.all_nil, zP]))
    refine xQ fun k10 h10 m10 s10 f10 n10 => ?_
    refine qJ ?_; repeat' (first | ((with_reducible apply qI) <;> try simp only [qN, qC, qE, qG, qD, qA, qF, seval, qQ, qO, qP, yE]))
    refine vF m10 sz170 rfl (by decide) rfl rfl rfl fun h11 m11 f11 => ?_
    simp only [vcells] at m11
    have n10h : h k10 = none := S9.none_of n10
    have k1k : k1 ≠ k10 := yX m1h n10
    have S11 : HS h h11 := S9.trans (s10.upd n10 f11)
    have gi0 : zI Tryz.prog 170 (.pointer (some ⟨k10, 0, none⟩)) 0 = some (.pointer (some ⟨k10, 0, none⟩)) := zO5 (i := 0) (by omega)
    have gi1 : zI Tryz.prog 170 (.pointer (some ⟨k10, 0, none⟩)) 1 = some (.pointer (some ⟨k10, 1, none⟩)) := zO5 (i := 1) (by omega)
    cases hbt : (zZ row d == 1)
    · have hbq : (zZ row d = 1) = False := by simpa using hbt
      have m1011 := (f11 k1 k1k).trans (s10 _ _ m1h)
      have rr11 : RB h11 (.slice a row.length c) row := (rr.hs S9).hs (s10.upd n10 f11)
      refine qJ ?_; repeat' (first | with_reducible apply qK | ((first | (with_reducible first | apply qI | apply qB | apply qR | apply qS) | ((refine GTri.mono (dP _ _ rr11 d (by omega)) ?_); rintro _ _ ⟨rfl, hh9⟩; replace hh9 := hh9.symm; subst hh9)) <;> try simp only [qN, qC, qE, qG, qD, qA, qF, seval, qQ, qO, qP, yE, hbt, qH m1011 zT]))
      have m12 := m11
      have S12 := S11
      refine qJ ?_; repeat' (first | ((with_reducible apply qI) <;> try simp only [qN, qC, qE, qG, qD, qA, qF, seval, qQ, qO, qP, yE, gi0, gi1, qH m12 zT]))
      refine (sM N (s0.trans S12) t (x.hs S12) (rr.hs S12) hrow (d := d) (l := now) (r := e) (by omega) (by omega) (by omega) hm).mono ?_
      rintro _ h13 ⟨rfl, s13, fr13, v', cs', x13⟩
      have ep : dC row M now e nd = (M ++ [vM M d row now e], M.length) := by
        unfold dC
        rw [hd0]
        simp only [hbq, if_true, if_false]
      refine qJ ?_; repeat' (first | with_reducible apply qK | ((with_reducible first | apply qI | apply qB | apply qM) <;> try simp only [qN, qC, qE, qG, qD, qA, qF, seval, qQ, qO, qP, yE]))
      rw [ep]
      exact ⟨rfl, s13, (FR.of S12).trans fr13, v', cs', x13⟩
    · have hbq : (zZ row d = 1) = True := by simpa using hbt
      have gs2 : vY Tryz.prog 170 h11 (.pointer (some ⟨k10, 0, none⟩)) none none none = some (.slice (some ⟨k10, 0, none⟩) 2 5) := by simp [vY, Tryz.underlying170, zT, gZ, dW]
      have m1011 := (f11 k1 k1k).trans (s10 _ _ m1h)
      have rr11 : RB h11 (.slice a row.length c) row := (rr.hs S9).hs (s10.upd n10 f11)
      refine qJ ?_; repeat' (first | with_reducible apply qK | ((first | (with_reducible first | apply qI | apply qB | apply qR) | ((refine GTri.mono (dP _ _ rr11 d (by omega)) ?_); rintro _ _ ⟨rfl, hh9⟩; replace hh9 := hh9.symm; subst hh9)) <;> try simp only [qN, qC, qE, qG, qD, qA, qF, seval, qQ, qO, qP, yE, hbt, gs2, qH m1011 zT]))
      refine (c_Rev2 N m11).mono ?_
      rintro _ h12 ⟨rfl, m12, x12⟩
      have S12 : HS h h12 := fun j B m => x12 j B (fun q => by rw [q, n10h] at m; cases m) (S11 j B m)
      refine qJ ?_; repeat' (first | with_reducible apply qK | ((with_reducible first | apply qI | apply qB) <;> try simp only [qN, qC, qE, qG, qD, qA, qF, seval, qQ, qO, qP, yE, gi0, gi1, qH m12 zT]))
      refine (sM N (s0.trans S12) t (x.hs S12) (rr.hs S12) hrow (d := d) (l := e) (r := now) (by omega) (by omega) (by omega) hm).mono ?_
      rintro _ h13 ⟨rfl, s13, fr13, v', cs', x13⟩
      have ep : dC row M now e nd = (M ++ [vM M d row e now], M.length) := by
        unfold dC
        rw [hd0]
        simp only [hbq, if_true, if_false]
      refine qJ ?_; repeat' (first | with_reducible apply qK | ((with_reducible first | apply qI | apply qB | apply qM) <;> try simp only [qN, qC, qE, qG, qD, qA, qF, seval, qQ, qO, qP, yE]))
      rw [ep]
      exact ⟨rfl, s13, (FR.of S12).trans fr13, v', cs', x13⟩
  · rw [hlf] at m1
    have hd0 := hd
    rw [hid hlf] at hd
    refine qJ ?_; repeat' (first | with_reducible apply qK | ((with_reducible first | apply qI | apply qB | apply qR) <;> try simp only [qN, qC, qE, qG, qD, qA, qF, seval, qQ, qO, qP, yE, qH m1 zD, qH m1 rU, qH m1 zT]))
    refine (qO1 N h1 (q1.hs s1) rfl).mono ?_
    rintro _ h9 ⟨s9, ar, cr, rfl, rk, _⟩
    have S9 := s1.trans s9
    have m1h := s9 _ _ m1
    refine qJ ?_; repeat' (first | with_reducible apply qK | ((first | (with_reducible first | apply qI | apply qB) | ((refine GTri.mono (qC2 _ _ (rr.hs S9) rk rfl rfl (by omega)) ?_); rintro _ _ ⟨rfl, hh9⟩; replace hh9 := hh9.symm; subst hh9)) <;> try simp only [qN, qC, qE, qG, qD, qA, qF, seval, qQ, qO, qP, yE, hd, qH m1h zD, qH m1h rU, qH m1h zT, xU, wI, yQ, Shape.pl, List.all_cons, List.all_nil, zP]))
    refine xQ fun k10 h10 m10 s10 f10 n10 => ?_
    refine qJ ?_; repeat' (first | ((with_reducible apply qI) <;> try simp only [qN, qC, qE, qG, qD, qA, qF, seval, qQ, qO, qP, yE]))
    refine vF m10 sz170 rfl (by decide) rfl rfl rfl fun h11 m11 f11 => ?_
    simp only [vcells] at m11
    have n10h : h k10 = none := S9.none_of n10
    have k1k : k1 ≠ k10 := yX m1h n10
    have S11 : HS h h11 := S9.trans (s10.upd n10 f11)
    have gi0 : zI Tryz.prog 170 (.pointer (some ⟨k10, 0, none⟩)) 0 = some (.pointer (some ⟨k10, 0, none⟩)) := zO5 (i := 0) (by omega)
    have gi1 : zI Tryz.prog 170 (.pointer (some ⟨k10, 0, none⟩)) 1 = some (.pointer (some ⟨k10, 1, none⟩)) := zO5 (i := 1) (by omega)
    cases hbt : (zZ row d == 1)
    · have hbq : (zZ row d = 1) = False := by simpa using hbt
      have m1011 := (f11 k1 k1k).trans (s10 _ _ m1h)
      have rr11 : RB h11 (.slice a row.length c) row := (rr.hs S9).hs (s10.upd n10 f11)
      refine qJ ?_; repeat' (first | with_reducible apply qK | ((first | (with_reducible first | apply qI | apply qB | apply qR | apply qS) | ((refine GTri.mono (dP _ _ rr11 d (by omega)) ?_); rintro _ _ ⟨rfl, hh9⟩; replace hh9 := hh9.symm; subst hh9)) <;> try simp only [qN, qC, qE, qG, qD, qA, qF, seval, qQ, qO, qP, yE, hbt, qH m1011 zT]))
      have m12 := m11
      have S12 := S11
      refine qJ ?_; repeat' (first | ((with_reducible apply qI) <;> try simp only [qN, qC, qE, qG, qD, qA, qF, seval, qQ, qO, qP, yE, gi0, gi1, qH m12 zT]))
      refine (sM N (s0.trans S12) t (x.hs S12) (rr.hs S12) hrow (d := d) (l := now) (r := e) (by omega) (by omega) (by omega) hm).mono ?_
      rintro _ h13 ⟨rfl, s13, fr13, v', cs', x13⟩
      have ep : dC row M now e nd = (M ++ [vM M d row now e], M.length) := by
        unfold dC
        rw [hd0]
        simp only [hbq, if_true, if_false]
      refine qJ ?_; repeat' (first | with_reducible apply qK | ((with_reducible first | apply qI | apply qB | apply qM) <;> try simp only [qN, qC, qE, qG, qD, qA, qF, seval, qQ, qO, qP, yE]))
      rw [ep]
      exact ⟨rfl, s13, (FR.of S12).trans fr13, v', cs', x13⟩
    · have hbq : (zZ row d = 1) = True := by simpa using hbt
      have gs2 : vY Tryz.prog 170 h11 (.pointer (some ⟨k10, 0, none⟩)) none none none = some (.slice (some ⟨k10, 0, none⟩) 2 5) := by simp [vY, Tryz.underlying170, zT, gZ, dW]
      have m1011 := (f11 k1 k1k).trans (s10 _ _ m1h)
      have rr11 : RB h11 (.slice a row.length c) row := (rr.hs S9).hs (s10.upd n10 f11)
      refine qJ ?_; repeat' (first | with_reducible apply qK | ((first | (with_reducible first | apply qI | apply qB | apply qR) | ((refine GTri.mono (dP _ _ rr11 d (by omega)) ?_); rintro _ _ ⟨rfl, hh9⟩; replace hh9 := hh9.symm; subst hh9)) <;> try simp only [qN, qC, qE, qG, qD, qA, qF, seval, qQ, qO, qP, yE, hbt, gs2, qH m1011 zT]))
      refine (c_Rev2 N m11).mono ?_
      rintro _ h12 ⟨rfl, m12, x12⟩
      have S12 : HS h h12 := fun j B m => x12 j B (fun q => by rw [q, n10h] at m; cases m) (S11 j B m)
      refine qJ ?_; repeat' (first | with_reducible apply qK | ((with_reducible first | apply qI | apply qB) <;> try simp only [qN, qC, qE, qG, qD, qA, qF, seval, qQ, qO, qP, yE, gi0, gi1, qH m12 zT]))
      refine (sM N (s0.trans S12) t (x.hs S12) (rr.hs S12) hrow (d := d) (l := e) (r := now) (by omega) (by omega) (by omega) hm).mono ?_
      rintro _ h13 ⟨rfl, s13, fr13, v', cs', x13⟩
      have ep : dC row M now e nd = (M ++ [vM M d row e now], M.length) := by
        unfold dC
        rw [hd0]
        simp only [hbq, if_true, if_false]
      refine qJ ?_; repeat' (first | with_reducible apply qK | ((with_reducible first | apply qI | apply qB | apply qM) <;> try simp only [qN, qC, qE, qG, qD, qA, qF, seval, qQ, qO, qP, yE]))
      rw [ep]
      exact ⟨rfl, s13, (FR.of S12).trans fr13, v', cs', x13⟩
end
theorem c_BwdN (N : Nat) (h : GH) (a : Option Addr) (n c : Nat) : GTri Tryz.prog N 88 [.slice a n c] h fun u h' => (∃ kb, u = .func (.func 131) #[] #[.pointer (some ⟨kb, 0, none⟩)] ∧ h' kb = some ⟨[.slice a n c], 0, true, false⟩ ∧ h kb = none) ∧ HS h h' := by
  refine zU Tryz.func88 rfl gf88 ok88 (by simp [Tryz.ntmps88]) ?_
  repeat' (first | with_reducible apply qK | ((with_reducible apply qB) <;> try simp only [qN, qC, qE, qG, qD, qA, qF, seval, qQ, qO, qP, zD8]))
  refine wD rfl fun k1 h1 m1 s1 f1 n1 => ?_
  refine qJ ?_; repeat' (first | with_reducible apply qK | ((with_reducible first | apply qI | apply qB | apply qM) <;> try simp only [qN, qC, qE, qG, qD, qA, qF, seval, qQ, qO, qP, zD8, List.map_toArray, List.map_cons, List.map_nil]))
  exact ⟨⟨k1, rfl, m1, n1⟩, s1⟩
theorem c_bwdN1 (N l : Nat) (r : LRec) {h hx : GH} {kb : Nat} {a : Option Addr} {n c : Nat} {cells : List Value} (hn : n ≤ 1000000) (I : Nat → GH → Prop) (h0 : I n h)
    (hb : ∀ i h', I i h' → h' kb = some ⟨[.slice a n c], 0, true, false⟩ ∧ OWNC 10 hx h' (.slice a n c) n cells)
    (y : ∀ i h', i < n → I (i + 1) h' → YTri Tryz.prog N l r [.int .i64 (i : Int), .agg ((cells.drop (i * 10)).take 10).toArray] h' (I i)) :
    GTrio l r Tryz.prog N 131 [.func (.yield l) #[] #[], .pointer (some ⟨kb, 0, none⟩)] h (I 0) := by
  refine gtrio Tryz.func131 rfl gf131 ok131 rs131 (by simp [Tryz.ntmps131]) ?_
  obtain ⟨m0, r0⟩ := hb _ _ h0
  have w0 : IntKind.i64.wrap ((n : Int) - 1) = (n : Int) - 1 := by rw [wrap64 (by omega) (by omega)]
  simp only [qN, qC, qE, qG, qD, qA, qF, seval, qQ, qO, qP, yV]
  refine qA3 ?_
  refine qD6 (qB ?_)
  simp only [qN, qC, qE, qG, qD, qA, qF, seval, qQ, qO, qP, yV, qH m0 uV, w0, List.getElem?_cons_zero, List.getElem?_cons_succ]
  refine qS0 ?_
  refine gwo_loop (fun m e' h' => m ≤ n ∧ e' = [(0, .func (.yield l) #[] #[]), (1, .pointer (some ⟨kb, 0, none⟩)), (3, .int .i64 ((m : Int) - 1))] ∧ I m h') n
    (e0 := [(0, .func (.yield l) #[] #[]), (1, .pointer (some ⟨kb, 0, none⟩)), (3, .int .i64 ((n : Int) - 1))]) ?_ ⟨Nat.le_refl _, rfl, h0⟩ ?_
  · exact (pP (by simp only [List.forall_mem_cons, List.not_mem_nil, false_implies, implies_true, lk, Nat.reduceEqDiff, reduceIte, and_true, true_and]))
  rintro m e' h' ⟨hm, rfl, hI⟩
  obtain ⟨m1, r1⟩ := hb _ _ hI
  refine qA3 ?_
  refine qA3 ?_
  refine qD6 (qB ?_)
  by_cases hm0 : m = 0
  · have d : decide ((m : Int) - 1 ≥ 0) = false := decide_eq_false (by omega)
    simp only [qN, qC, qE, qG, qD, qA, qF, seval, qQ, qO, qP, yV, d]
    refine zI7 ?_
    simp only [qN, qC, qE, qG, qD, qA, qF, seval, qQ, qO, qP, yV, gif_f]
    refine qD6 (xO ?_)
    simp only [qN, qC, qE, qG, qD, qA, qF, seval, qQ, qO, qP, yV]
    subst hm0
    exact ⟨.inl trivial, hI⟩
  obtain ⟨i, rfl⟩ : ∃ i, m = i + 1 := ⟨m - 1, by omega⟩
  have e1 : ((i + 1 : Nat) : Int) - 1 = (i : Int) := by omega
  rw [e1]
  have d : decide ((i : Int) ≥ 0) = true := decide_eq_true (by omega)
  simp only [qN, qC, qE, qG, qD, qA, qF, seval, qQ, qO, qP, yV, d]
  refine zI7 ?_
  simp only [qN, qC, qE, qG, qD, qA, qF, seval, qQ, qO, qP, yV, gif_t]
  refine qD6 (qS ?_)
  simp only [qN, qC, qE, qG, qD, qA, qF, seval, qQ, qO, qP, yV]
  refine qA3 ?_
  refine qS0 ?_
  refine qA3 ?_
  obtain ⟨ad, g1, l4⟩ : ∃ ad, zI Tryz.prog 131 (.slice a n c) (i : Int) = some (.pointer (some ad)) ∧ vD Tryz.prog 92 h' (.pointer (some ad)) = some (.agg ((cells.drop (i * 10)).take 10).toArray) := by
    rcases r1 with ⟨_, q, _⟩ | ⟨_, _, q, _⟩ | ⟨kf, c', q, h2, h3, h4, h5, h6, h7⟩
    · omega
    · omega
    · cases q
      have hi : i < n := by omega
      refine ⟨_, kZ Tryz.underlying131 wA hi, wP h6 wA rfl ?_⟩
      rw [List.length_take, List.length_drop, h5]
      have := Nat.mul_le_mul_right 10 (show i + 1 ≤ n by omega)
      omega
  refine gro_of ?_
  refine gro_cut 6 ?_
  simp only [qN, qC, qE, qG, qD, qA, qF, seval, qQ, qO, qP, yV, qH m1 uV, g1, l4, List.getElem?_cons_zero, List.getElem?_cons_succ, List.drop_succ_cons, List.drop_zero, List.take_succ_cons, List.take_zero]
  refine zS7 rfl ?_
  simp only [qN, qC, qE, qG, qD, qA, qF, seval, qQ, qO, qP, yV]
  have yy := y i h' (by omega) hI
  intro hG φ w args' sm hv hlo
  obtain ⟨fn, tmps, assign, body, q1, q2⟩ := yy hG φ w args' sm hv hlo
  refine ⟨fn, tmps, assign, body, q1, q2.mono ?_⟩
  rintro e w' ⟨φ', h2, p1, p2, p3, p4, p5⟩
  refine ⟨φ', h2, p1, p2, p3, p4, ?_⟩
  refine gro_end ?_
  simp only [qN, qC, qE, qG, qD, qA, qF, seval, qQ, qO, qP, yV, uJ]
  refine zI7 ?_
  simp only [qN, qC, qE, qG, qD, qA, qF, seval, qQ, qO, qP, yV, gif_f, Bool.not_true]
  refine qD6 (qS ?_)
  simp only [qN, qC, qE, qG, qD, qA, qF, seval, qQ, qO, qP, yV]
  refine qD6 (qB ?_)
  have w1 : IntKind.i64.wrap ((i : Int) - 1) = (i : Int) - 1 := by rw [wrap64 (by omega) (by omega)]
  simp only [qN, qC, qE, qG, qD, qA, qF, seval, qQ, qO, qP, yV, w1]
  exact ⟨i, _, by omega, (pP (by simp only [List.forall_mem_cons, List.not_mem_nil, false_implies, implies_true, lk, Nat.reduceEqDiff, reduceIte, and_true, true_and])), by omega, rfl, p5⟩
theorem zV : type_of% (And.intro uU (And.intro zG (And.intro yB (And.intro qG6 (And.intro yM (And.intro xB (And.intro uT (And.intro jP (And.intro wH rs47))))))))) := And.intro uU (And.intro zG (And.intro yB (And.intro qG6 (And.intro yM (And.intro xB (And.intro uT (And.intro jP (And.intro wH rs47))))))))
def zW : Nat → List (Nat × List Nat) × List Nat
  | 8 => ([(0, []), (2, []), (1, [2]), (3, []), (4, [])], [0, 1, 0, 7, 15])
  | _ => ([], [])
theorem RB.some {h : GH} {a : Option Addr} {n c : Nat} {l : List UInt8} (r : RB h (.slice a n c) l) (hl : l ≠ []) : a.isNone = false := by
  rcases r with ⟨_, _, q⟩ | ⟨ad, _, q, _⟩
  · exact absurd q hl
  · cases q; rfl
inductive Spot (M : List Nd) (id ky : List UInt8) (si : Nat) : Int → List Nat → Int → Nd → Bool → List Nd × Nat → Prop
  | no : Spot M id ky si (-1) [] (-1) ⟨false, [], [], 0, 0, [], 0, 0, 0, []⟩ false (M ++ [yC id ky si], M.length)
  | way {i e fs nd} : Way M (zM id) i fs e nd → Spot M id ky si (i : Int) fs (e : Int) nd (nd.lf && nd.id == id) (rM id ky si M e nd)
def InsI (M : List Nd) (id : List UInt8) (S0 : List Nd × Nat) (fs : List Nat) (h0 hb : GH) (k k14 : Nat) (i : Nat) (h' : GH) : Prop :=
  ∃ S : List Nd × Nat, S = (fs.drop i).reverse.foldl (pM (zM id)) S0 ∧ HS h0 h' ∧ FR 11 k hb h' ∧ h' k14 = some ⟨[.int .i64 (S.2 : Int)], 0, true, false⟩ ∧ S.2 < S.1.length ∧ S.1.length + i ≤ S0.1.length + fs.length ∧ (∃ L, S.1 = M ++ L) ∧ ∃ v cs, AA h0 h' k v cs S.1
theorem FR.new {e k j : Nat} {a b c d : GH} (x : FR e k a b) (n : b j = none) (s : HS b c) (f : ∀ i, i ≠ j → d i = c i) : FR e k a d := fun i B m q => by
  have h1 := x i B m q
  rw [f i (fun z => by rw [z, n] at h1; cases h1)]
  exact s _ _ h1
theorem pA {M : List Nd} {id : List UInt8} {S0 : List Nd × Nat} {fs : List Nat} {i p : Nat} (h : fs[i]? = some p) : (fs.drop i).reverse.foldl (pM (zM id)) S0 = pM (zM id) ((fs.drop (i + 1)).reverse.foldl (pM (zM id)) S0) p := by
  have h1 := List.getElem?_eq_some_iff.1 h
  rw [List.drop_eq_getElem_cons h1.1, h1.2, List.reverse_cons, List.foldl_append]; rfl
theorem Spot.facts {M : List Nd} {id ky : List UInt8} {si : Nat} {rt at_ : Int} {fs : List Nat} {nd : Nd} {same : Bool} {S0 : List Nd × Nat} (sp : Spot M id ky si rt fs at_ nd same S0) (ti : TI M) (hi : id.length ≤ 255) :
    (∃ L, S0.1 = M ++ L) ∧ S0.2 < S0.1.length ∧ S0.1.length ≤ M.length + 2 ∧ ∀ (j p : Nat), fs[j]? = some p → ∃ y, M[p]? = some y ∧ kM (zM id) y = false := by
  cases sp with
  | no => exact ⟨⟨_, rfl⟩, by simp, by simp, fun j p h => by simp at h⟩
  | @way i e fs nd w =>
    obtain ⟨_, b, c, d, _⟩ := low_ok ti hi (ky := ky) (si := si) w.end.1 w.end.2
    exact ⟨d, b, c, fun j p h => by
      obtain ⟨y, h1, h2, _⟩ := w.at.2 j p h
      exact ⟨y, h1, h2⟩⟩
section
variable {h0 h h' : GH} {k : Nat} {v : Value} {cs : List Value} {M : List Nd}
theorem AA.upd {j : Nat} {B : GB} (x : AA h0 h k v cs M) (m : h j = some B) (hu : B.cells.all yP = true) (hn : k ≠ j) (f : ∀ i, i ≠ j → h' i = h i) (h0' : B.es = 0 := by rfl) : AA h0 h' k v cs M :=
  ⟨by rw [f k hn]; exact x.obj, x.nk, x.arr.keep (x.arr.own.by5 m f (by rw [h0']; decide)) fun _ _ ⟨cn, e, r⟩ => ⟨cn, e, r.hx m hu (zJ f)⟩⟩
theorem c_Insert (N : Nat) (s0 : HS h0 h) (t : TK h0) (x : AA h0 h k v cs M) (ti : TI M) {a b : Option Addr} {ca cb : Nat} {id ky : List UInt8} (ri : RB h (.slice a id.length ca) id) (rk : RB h (.slice b ky.length cb) ky) (hi : id.length ≤ 255) (hk : ky.length ≤ 60000) {si : Nat} (hs : si ≤ 1000000)
    {rt at_ : Int} {fs : List Nat} {nd : Nd} {same : Bool} {S0 : List Nd × Nat} (sp : Spot M id ky si rt fs at_ nd same S0) (hm : M.length + 2 + fs.length ≤ 9000) (hfs : fs.length ≤ 3000) :
    GTri Tryz.prog N 47 [.pointer (some ⟨k, 0, none⟩), .int .i64 rt, .slice a id.length ca, .slice b ky.length cb, .int .i64 (si : Int)] h fun u h' => u = .tuple #[.int .i64 ((fs.reverse.foldl (pM (zM id)) S0).2 : Int), .int .i64 0] ∧ HS h0 h' ∧ FR 11 k h h' ∧ ∃ v' cs', AA h0 h' k v' cs' (fs.reverse.foldl (pM (zM id)) S0).1 := by
  have d1 : decide ((si : Int) < 0) = false := decide_eq_false (by omega)
  have d2 : decide ((id.length : Int) > 255) = false := decide_eq_false (by omega)
  have d3 : decide ((ky.length : Int) > 65535) = false := decide_eq_false (by omega)
  refine zU Tryz.func47 rfl gf47 ok47 (by simp [Tryz.ntmps47]) ?_
  repeat' (first | with_reducible apply qK | ((with_reducible apply qB) <;> try simp only [qN, qC, qE, qG, qD, qA, qF, seval, qQ, qO, qP, qL, qX, qZ, zC, zV, zW]))
  refine wD rfl fun k5 h5 m5 s5 f5 n5 => ?_
  have x5 := x.hs s5
  simp only [qN, qC, qE, qG, qD, qA, qF, seval, qQ, qO, qP, zV]
  refine qK ?_
  refine GW.mono (Q := fun x e' h' => x = .normal ∧ HS h5 h' ∧ lk e' 1 = .int .i64 rt ∧ lk e' 2 = .slice a id.length ca ∧ lk e' 3 = .slice b ky.length cb ∧ lk e' 4 = .int .i64 (si : Int) ∧ lk e' 5 = .pointer (some ⟨k5, 0, none⟩)) ?_ ?_
  · cases sp with
    | no =>
      refine qJ ?_; repeat' (first | (with_reducible first | apply qK | apply qT) | ((first | (with_reducible first | apply qI | apply qB | apply qR | apply qS) | ((refine GTri.mono (c_Size _ x5) ?_); rintro _ _ ⟨rfl, hh9⟩; replace hh9 := hh9.symm; subst hh9)) <;> try simp only [qN, qC, qE, qG, qD, qA, qF, seval, qQ, qO, qP, qL, qX, qZ, zC, zV, zW, qH m5 qK2, d1, d2, d3]))
      exact HS.refl _
    | @way i e fs nd w =>
      have wi : ∃ y, M[i]? = some y := by
        cases w with
        | stop h1 _ => exact ⟨_, h1⟩
        | go h1 _ _ => exact ⟨_, h1⟩
      obtain ⟨y, hy⟩ := wi
      have hy4 := (x.arr.ok.ok i y hy).hs
      have d4 : ((i : Int) != -1) = true := by simp
      refine qJ ?_; repeat' (first | (with_reducible first | apply qK | apply qT) | ((first | (with_reducible first | apply qI | apply qB | apply qR) | ((refine GTri.mono (c_Size _ x5) ?_); rintro _ _ ⟨rfl, hh9⟩; replace hh9 := hh9.symm; subst hh9)) <;> try simp only [qN, qC, qE, qG, qD, qA, qF, seval, qQ, qO, qP, qL, qX, qZ, zC, zV, zW, qH m5 qK2, d4]))
      refine (qZ2 N x5 hy).mono ?_
      rintro _ h6 ⟨s6, a6, c6, rfl, r6⟩
      have q6 := r6.some (by intro q; rw [q] at hy4; cases hy4)
      refine qJ ?_; repeat' (first | with_reducible apply qK | ((with_reducible first | apply qI | apply qB | apply qR | apply qS) <;> try simp only [qN, qC, qE, qG, qD, qA, qF, seval, qQ, qO, qP, qL, qX, qZ, zC, zV, zW, q6, d1, d2, d3]))
      exact s6
  rintro _ e' h6 ⟨rfl, s6, q1, q2, q3, q4, q5⟩
  rw [gT]
  refine tM [(1, .int .i64 rt), (2, .slice a id.length ca), (3, .slice b ky.length cb), (4, .int .i64 (si : Int)), (5, .pointer (some ⟨k5, 0, none⟩))] (by simp [q1, q2, q3, q4, q5]) ?_
  clear q1 q2 q3 q4 q5
  have S6 := s5.trans s6
  have m56 := s6 _ _ m5
  refine qK ?_
  refine GW.mono (Q := fun x e' h' => x = .normal ∧ (lk e' 2 = .slice a id.length ca ∧ lk e' 3 = .slice b ky.length cb ∧ lk e' 4 = .int .i64 (si : Int) ∧ lk e' 5 = .pointer (some ⟨k5, 0, none⟩)) ∧ HS h6 h' ∧ ∃ k12 af cf a1 c1 a2 c2 a3 c3 a4 c4 cells, lk e' 12 = .pointer (some ⟨k12, 0, none⟩) ∧ h6 k12 = none ∧ h' k12 = some ⟨rZ (.slice af fs.length cf) at_ nd (.slice a1 nd.id.length c1) (.slice a2 nd.ky.length c2) (.slice a3 nd.pf.length c3) (.slice a4 nd.hs.length c4) same, 0, true, false⟩ ∧
      OWNC 10 h6 h' (.slice af fs.length cf) fs.length cells ∧ cells.all yP = true ∧ (∀ (t : Nat) y, (fs.map (uR M))[t]? = some y → RNd h' ((cells.drop (t * 10)).take 10) y) ∧ RNd h' (nd.cs (.slice a1 nd.id.length c1) (.slice a2 nd.ky.length c2) (.slice a3 nd.pf.length c3) (.slice a4 nd.hs.length c4)) nd) ?_ ?_
  · cases sp with
    | no =>
      refine qJ ?_; repeat' (first | ((with_reducible first | apply qI | apply qB) <;> try simp only [qN, qC, qE, qG, qD, qA, qF, seval, qQ, qO, qP, qL, qX, qZ, zC, zV, zW, qH m56 qK2]))
      refine (c_findN N (x.hs S6) (ri.hs S6)).mono ?_
      rintro _ h7 ⟨s7, rfl⟩
      refine qJ ?_; repeat' (first | ((with_reducible apply qI) <;> try simp only [qN, qC, qE, qG, qD, qA, qF, seval, qQ, qO, qP, qL, qX, qZ, zC, zV, zW]))
      refine xQ fun k12 h8 m8 s8 f8 n8 => ?_
      simp only [rZ]
      refine qJ ?_; repeat' (first | ((with_reducible apply qI) <;> try simp only [qN, qC, qE, qG, qD, qA, qF, seval, qQ, qO, qP, qL, qX, qZ, zC, zV, zW]))
      refine vF m8 dA rfl (by decide) rfl rfl rfl fun h9 m9 f9 => ?_
      simp only [vcells] at m9
      refine qJ ?_; repeat' (first | ((with_reducible apply qI) <;> try simp only [qN, qC, qE, qG, qD, qA, qF, seval, qQ, qO, qP, qL, qX, qZ, zC, zV, zW]))
      exact ⟨s7.trans (s8.upd n8 f9), k12, none, 0, none, 0, none, 0, none, 0, none, 0, [], rfl, s7.none_of n8, m9, OWNC.nil _ _ _, rfl, fun t y h => by simp at h, none, 0, none, 0, none, 0, none, 0, rfl, RB.nil _, RB.nil _, RB.nil _, RB.nil _⟩
    | @way i e fs nd w =>
      refine qJ ?_; repeat' (first | ((with_reducible first | apply qI | apply qB) <;> try simp only [qN, qC, qE, qG, qD, qA, qF, seval, qQ, qO, qP, qL, qX, qZ, zC, zV, zW, qH m56 qK2]))
      refine (c_find N (x.hs S6) (ri.hs S6) (by omega) w (by omega)).mono ?_
      rintro _ h7 ⟨s7, af, cf, a1, c1, a2, c2, a3, c3, a4, c4, rfl, ⟨cells, ow, hu, hel⟩, rn⟩
      refine qJ ?_; repeat' (first | ((with_reducible apply qI) <;> try simp only [qN, qC, qE, qG, qD, qA, qF, seval, qQ, qO, qP, qL, qX, qZ, zC, zV, zW]))
      refine xQ fun k12 h8 m8 s8 f8 n8 => ?_
      simp only [rZ]
      refine qJ ?_; repeat' (first | ((with_reducible apply qI) <;> try simp only [qN, qC, qE, qG, qD, qA, qF, seval, qQ, qO, qP, qL, qX, qZ, zC, zV, zW]))
      refine vF m8 dA rfl (by decide) rfl rfl rfl fun h9 m9 f9 => ?_
      simp only [vcells] at m9
      have s79 := s8.upd n8 f9
      refine qJ ?_; repeat' (first | ((with_reducible apply qI) <;> try simp only [qN, qC, qE, qG, qD, qA, qF, seval, qQ, qO, qP, qL, qX, qZ, zC, zV, zW]))
      exact ⟨s7.trans s79, k12, af, cf, a1, c1, a2, c2, a3, c3, a4, c4, cells, rfl, s7.none_of n8, m9, ow.hs s79, hu, fun t y h => (hel t y h).hs s79, rn.hs s79⟩
  rintro _ e' h7 ⟨rfl, ⟨q2, q3, q4, q5⟩, s7, k12, af, cf, a1, c1, a2, c2, a3, c3, a4, c4, cells, q12, n12, m12, ow, hu, hel, rn⟩
  rw [gT]
  refine tM [(2, .slice a id.length ca), (3, .slice b ky.length cb), (4, .int .i64 (si : Int)), (5, .pointer (some ⟨k5, 0, none⟩)), (12, .pointer (some ⟨k12, 0, none⟩))] (by simp [q2, q3, q4, q5, q12]) ?_
  clear q2 q3 q4 q5 q12
  have S7 := S6.trans s7
  have m57 := s7 _ _ m56
  have k12k : k12 ≠ k := fun q => by rw [q, (x.hs S6).obj] at n12; cases n12
  have k5k : k5 ≠ k := fun q => by rw [q, x.obj] at n5; cases n5
  have x7 := x.hs S7
  have hno : decide ((qI9 fs.length at_ same : Int) > 16384 - (M.length : Int)) = false := decide_eq_false (by
    unfold qI9
    split <;> omega)
  have ld7 := zH (P := Tryz.prog) (t := 136) m12 dA rfl
  refine qJ ?_; repeat' (first | with_reducible apply qK | ((first | (with_reducible apply qI) | with_reducible refine zE zW xG (by kernel_rfl) ?_) <;> try simp only [qN, qC, qE, qG, qD, qA, qF, seval, qQ, qO, qP, qL, qX, qZ, zC, zV, zW, ld7, qH m57 qK2]))
  refine (c_needs N h7 (by omega) at_ nd _ _ _ _ rfl same).mono ?_
  rintro _ h8 ⟨s8, rfl⟩
  have m58 := s8 _ _ m57
  have m128 := s8 _ _ m12
  have ld8 := zH (P := Tryz.prog) (t := 136) m128 dA rfl
  have x8 := x7.hs s8
  refine qJ ?_; repeat' (first | with_reducible apply qK | ((first | (with_reducible first | apply qI | apply qB | apply qR | apply qS) | ((refine GTri.mono (c_Room _ x8) ?_); rintro _ _ ⟨rfl, hh9⟩; replace hh9 := hh9.symm; subst hh9)) <;> try simp only [qN, qC, qE, qG, qD, qA, qF, seval, qQ, qO, qP, qL, qX, qZ, zC, zV, zW, ld8, hno, qH m58 qK2]))
  have S8 := S7.trans s8
  refine (qO1 N h8 (ri.hs S8) rfl).mono ?_
  rintro _ h9 ⟨s9, ar, cr, rfl, rr, _⟩
  refine qJ ?_; repeat' (first | ((with_reducible apply qI) <;> try simp only [qN, qC, qE, qG, qD, qA, qF, seval, qQ, qO, qP, qL, qX, qZ, zC, zV, zW]))
  refine xQ fun k13 h10 m10 s10 f10 n10 => ?_
  refine qJ ?_; repeat' (first | ((with_reducible apply qI) <;> try simp only [qN, qC, qE, qG, qD, qA, qF, seval, qQ, qO, qP, qL, qX, qZ, zC, zV, zW]))
  refine zY m10 zD rfl (by simp) rfl rfl fun h11 m13 f11 => ?_
  simp only [List.set_cons_zero] at m13
  have s8b := s10.upd n10 f11
  have s811 : HS h8 h11 := s9.trans s8b
  have S11 := S8.trans s811
  have m511 := s811 _ _ m58
  have m1211 := s811 _ _ m128
  have x11 := x8.hs s811
  have rr11 := rr.hs s8b
  have n13h : h k13 = none := (S8.trans s9).none_of n10
  have k13k : k13 ≠ k := fun q => by rw [q, x.obj] at n13h; cases n13h
  refine qJ ?_; repeat' (first | with_reducible apply qK | ((with_reducible first | apply qI | apply qB) <;> try simp only [qN, qC, qE, qG, qD, qA, qF, seval, qQ, qO, qP, qL, qX, qZ, zC, zV, zW, qH m511 qK2]))
  refine (c_Leaf N (s0.trans S11) t x11 (ri.hs S11) (rk.hs S11) hi hk hs (by omega)).mono ?_
  rintro _ h12 ⟨rfl, s12, fr12, v2, cs2, x12⟩
  refine qJ ?_; repeat' (first | ((with_reducible apply qI) <;> try simp only [qN, qC, qE, qG, qD, qA, qF, seval, qQ, qO, qP, qL, qX, qZ, zC, zV, zW]))
  refine xQ fun k14 h14 m14 s14 f14 n14 => ?_
  refine qJ ?_; repeat' (first | ((with_reducible apply qI) <;> try simp only [qN, qC, qE, qG, qD, qA, qF, seval, qQ, qO, qP, qL, qX, qZ, zC, zV, zW]))
  refine zY m14 zT rfl (by simp) rfl rfl fun h15 m15 f15 => ?_
  simp only [List.set_cons_zero] at m15
  have s1215 : HS h12 h15 := s14.upd n14 f15
  have fr15 : FR 11 k h11 h15 := fr12.hs s1215
  have S015 := s12.trans s1215
  have x15 := x12.hs s1215
  have m1215 := fr15 _ _ m1211 (.inr ⟨k12k, by simp⟩)
  have m515 := fr15 _ _ m511 (.inr ⟨k5k, by simp⟩)
  have m1315 := fr15 _ _ m13 (.inr ⟨k13k, by simp⟩)
  have rr15 := rr11.fr fr15
  have rn15 := (rn.hs (s8.trans s811)).fr fr15
  simp only [rZ] at m1215
  simp only [qN, qC, qE, qG, qD, qA, qF, seval, qQ, qO, qP, zV]
  have n14h : h12 k14 = none := n14
  have n11 : ∀ {j B}, h11 j = some B → (j ≠ k → B.es ≠ 11 → j ≠ k14) := fun m n e q => by
    rw [← q] at n14
    rw [fr12 _ _ m (.inr ⟨n, e⟩)] at n14; cases n14
  have k14k : k14 ≠ k := fun q => by rw [q, x12.obj] at n14; cases n14
  have sb15 : HS h0 (gX k14 h15) := mH S015 (s12.none_of n14)
  refine qK ?_
  refine GW.mono (Q := fun x e' h' => x = .normal ∧ (lk e' 5 = .pointer (some ⟨k5, 0, none⟩) ∧ lk e' 12 = .pointer (some ⟨k12, 0, none⟩) ∧ lk e' 13 = .pointer (some ⟨k13, 0, none⟩) ∧ lk e' 14 = .pointer (some ⟨k14, 0, none⟩)) ∧ HS h0 h' ∧ FR 11 k (gX k14 h15) h' ∧ h' k14 = some ⟨[.int .i64 (S0.2 : Int)], 0, true, false⟩ ∧ ∃ v3 cs3, AA h0 h' k v3 cs3 S0.1) ?_ ?_
  · cases sp with
    | no =>
      have d : ((-1 : Int) != -1) = false := by decide
      refine qJ ?_; repeat' (first | with_reducible apply qK | ((with_reducible first | apply qI | apply qB | apply qR | apply qS) <;> try simp only [qN, qC, qE, qG, qD, qA, qF, seval, qQ, qO, qP, qL, qX, qZ, zC, zV, zW, qH m1215 zT, qH m1215 rU, d]))
      exact ⟨S015, FR.of (sU _ _), m15, v2, cs2, x15⟩
    | @way i e fs nd w =>
      have d : ((e : Int) != -1) = true := by simp
      have he := (List.getElem?_eq_some_iff.1 w.end.1).1
      by_cases hsame : (nd.lf && nd.id == id) = true
      · rw [hsame] at m1215
        have el : rM id ky si M e nd = (M ++ [yC id ky si], M.length) := by unfold rM; rw [if_pos hsame]
        rw [el]
        refine qJ ?_; repeat' (first | with_reducible apply qK | ((with_reducible first | apply qI | apply qB | apply qR | apply qS) <;> try simp only [qN, qC, qE, qG, qD, qA, qF, seval, qQ, qO, qP, qL, qX, qZ, zC, zV, zW, qH m1215 zT, qH m1215 rU, d]))
        exact ⟨S015, FR.of (sU _ _), m15, v2, cs2, x15⟩
      · have hsame' : (nd.lf && nd.id == id) = false := by simpa using hsame
        rw [hsame'] at m1215
        have el : rM id ky si M e nd = dC (zM id) (M ++ [yC id ky si]) M.length e nd := by unfold rM; rw [if_neg hsame]
        rw [el]
        have rn15' := rn15
        obtain ⟨_, _, _, _, _, _, _, _, ee, y1, y2, y3, y4⟩ := rn15'
        simp only [Nd.cs] at ee
        injection ee with _ ee
        injection ee with ea ee
        injection ee with _ ee
        injection ee with _ ee
        injection ee with _ ee
        injection ee with ec ee
        injection ea with ea1 _ ea2
        injection ec with ec1 _ ec2
        subst ea1; subst ea2; subst ec1; subst ec2
        have ld := zH (P := Tryz.prog) (t := 136) m1215 dA rfl
        have ok := x.arr.ok.ok e nd w.end.1
        have hkl := yY id
        refine qJ ?_; repeat' (first | with_reducible apply qK | ((with_reducible first | apply qI | apply qB | apply qR) <;> try simp only [qN, qC, qE, qG, qD, qA, qF, seval, qQ, qO, qP, qL, qX, qZ, zC, zV, zW, qH m1215 zT, qH m1215 rU, qH m515 qK2, qH m1315 zD, qH m15 zT, ld, d]))
        refine (c_part N S015 t x15 rr15 (by omega) (now := M.length) (e := e) (by simp) (by simp; omega) (by simp; omega) ok (.slice af fs.length cf) rfl false rn15 y1 y3).mono ?_
        rintro _ h16 ⟨rfl, s16, fr16, v3, cs3, x16⟩
        have m1416 := fr16 _ _ m15 (.inr ⟨k14k, by simp⟩)
        refine qJ ?_; repeat' (first | ((with_reducible apply qI) <;> try simp only [qN, qC, qE, qG, qD, qA, qF, seval, qQ, qO, qP, qL, qX, qZ, zC, zV, zW]))
        refine zY m1416 zT rfl (by simp) rfl rfl fun h17 m17 f17 => ?_
        simp only [List.set_cons_zero] at m17
        have fr17 : FR 11 k (gX k14 h15) h17 := fun j B m q => by
          have hj : j ≠ k14 := fun z => by rw [z, qL5] at m; cases m
          rw [f17 j hj]
          exact fr16 j B (sU _ _ j B m) q
        refine qJ ?_; repeat' (first | ((with_reducible apply qI) <;> try simp only [qN, qC, qE, qG, qD, qA, qF, seval, qQ, qO, qP, qL, qX, qZ, zC, zV, zW]))
        exact ⟨s16.upd (s12.none_of n14) f17, fr17, m17, v3, cs3, x16.upd m1416 rfl k14k.symm f17⟩
  rintro _ e' h16 ⟨rfl, ⟨q5, q12, q13, q14⟩, S016, fr16, m1416, v3, cs3, x16⟩
  rw [gT]
  refine tM [(5, .pointer (some ⟨k5, 0, none⟩)), (12, .pointer (some ⟨k12, 0, none⟩)), (13, .pointer (some ⟨k13, 0, none⟩)), (14, .pointer (some ⟨k14, 0, none⟩))] (by simp [q5, q12, q13, q14]) ?_
  clear q5 q12 q13 q14
  obtain ⟨⟨L0, eL0⟩, hS2, hS1, hfork⟩ := sp.facts ti hi
  have hid15 : ∀ j, j ≠ k14 → gX k14 h15 j = h15 j := qA2 h15
  have n5' : k5 ≠ k14 := n11 m511 k5k (by simp)
  have n12' : k12 ≠ k14 := n11 m1211 k12k (by simp)
  have n13' : k13 ≠ k14 := n11 m13 k13k (by simp)
  have m516 := fr16 _ _ ((hid15 _ n5').trans m515) (.inr ⟨k5k, by simp⟩)
  have m1216 := fr16 _ _ ((hid15 _ n12').trans m1215) (.inr ⟨k12k, by simp⟩)
  have m1316 := fr16 _ _ ((hid15 _ n13').trans m1315) (.inr ⟨k13k, by simp⟩)
  have rr16 := (rr15.hx m15 rfl (zJ hid15)).fr fr16
  have hel16 : ∀ (t : Nat) y, (fs.map (uR M))[t]? = some y → RNd h16 ((cells.drop (t * 10)).take 10) y := fun t y hy => ((((hel t y hy).hs (s8.trans s811)).fr fr15).hx m15 rfl (zJ hid15)).fr fr16
  have xk15 : gX k14 h15 k = some ⟨[.int .i64 4, .int .i64 16384, v2, .slice none 0 0], 0, true, false⟩ := by rw [hid15 k k14k.symm]; exact x15.obj
  have ow16 : OWNC 10 h6 h16 (.slice af fs.length cf) fs.length cells := (((ow.hs (s8.trans s811)).fr fr15 x11.obj (by simp) (by decide)).by5 m15 hid15).fr fr16 xk15 (by simp) (by decide)
  refine qJ ?_; repeat' (first | with_reducible apply qK | ((with_reducible first | apply qI | apply qB) <;> try simp only [qN, qC, qE, qG, qD, qA, qF, seval, qQ, qO, qP, qL, qX, qZ, zC, zV, zW, qH m1216 uV]))
  refine (c_BwdN N h16 af fs.length cf).mono ?_
  rintro _ h17 ⟨⟨kb, rfl, mb, nb⟩, s17⟩
  have m1417 := s17 _ _ m1416
  have hid17 : ∀ j, j ≠ k14 → gX k14 h17 j = h17 j := qA2 h17
  have nkb : kb ≠ k14 := fun q => by rw [q, m1416] at nb; cases nb
  have nkbk : kb ≠ k := fun q => by rw [q, x16.obj] at nb; cases nb
  have b5 := (hid17 _ n5').trans (s17 _ _ m516)
  have b13 := (hid17 _ n13').trans (s17 _ _ m1316)
  have bb := (hid17 _ nkb).trans mb
  have rrb := (rr16.hs s17).hx m1417 rfl (zJ hid17)
  have owb := (ow16.hs s17).by5 m1417 hid17
  have helb : ∀ (t : Nat) y, (fs.map (uR M))[t]? = some y → RNd (gX k14 h17) ((cells.drop (t * 10)).take 10) y := fun t y hy => ((hel16 t y hy).hs s17).hx m1417 rfl (zJ hid17)
  have sbh : FR 11 k (gX k14 h17) h17 := FR.of (sU _ _)
  have xkb : gX k14 h17 k = some ⟨[.int .i64 4, .int .i64 16384, v3, .slice none 0 0], 0, true, false⟩ := by rw [hid17 k k14k.symm]; exact (x16.hs s17).obj
  have n14b : gX k14 h17 k14 = none := qL5 _ _
  have frb : FR 11 k h (gX k14 h17) := fun j B m q => by
    have hj14 : j ≠ k14 := fun z => by
      have := s811 _ _ (s8 _ _ (S7 j B m))
      have := fr12 j B this q
      rw [z, n14] at this; cases this
    have q2 := fr15 _ _ (s811 _ _ (s8 _ _ (S7 j B m))) q
    have q3 := fr16 _ _ ((hid15 _ hj14).trans q2) q
    exact (hid17 _ hj14).trans (s17 _ _ q3)
  generalize gX k14 h17 = hb at b5 b13 bb rrb owb helb sbh xkb n14b frb
  refine qJ ?_; repeat' (first | with_reducible apply qT | ((with_reducible apply qI) <;> try simp only [qN, qC, qE, qG, qD, qA, qF, seval, qQ, qO, qP, qL, qX, qZ, zC, zV, zW]))
  refine gw_range (gf := 131) (fb := [.pointer (some ⟨kb, 0, none⟩)]) (by simp [lk]) rfl fs.length
    (InsI M id S0 fs h0 hb k k14)
    (fun i => (.int .i64 (i : Int), .agg ((cells.drop (i * 10)).take 10).toArray)) ?_ (fun l' r' h2' hI y => c_bwdN1 N l' r' (hx := h6) (a := af) (c := cf) (by omega) (InsI M id S0 fs h0 hb k k14) hI (fun i h' hI => ?_) y) (fun i hi h18 hI => ?_) (fun h18 hI => ?_)
  · exact ⟨S0, by simp, S016.trans s17, sbh, m1417, hS2, by omega, ⟨L0, eL0⟩, v3, cs3, x16.hs s17⟩
  · obtain ⟨S, _, _, frS, _⟩ := hI
    exact ⟨frS _ _ bb (.inr ⟨nkbk, by simp⟩), owb.fr frS xkb (by simp) (by decide)⟩
  · obtain ⟨S, eS, s18, fr18, m18, hlt, hle, ⟨L, eL⟩, v18, cs18, x18⟩ := hI
    obtain ⟨p, hp⟩ := jU hi
    obtain ⟨y, hy, hst⟩ := hfork i p hp
    have hpM := (List.getElem?_eq_some_iff.1 hy).1
    have fi := ti.fork p y hy (yG hst).1
    have fil := fi.l
    have fir := fi.r
    have oky := x.arr.ok.ok p y hy
    have hpf := oky.pf
    have hdp : y.dp ≤ 8 * y.pf.length := by
      obtain ⟨jd, e1, e2⟩ := fi.pf
      rw [e1, wJ]; omega
    have hML : M.length ≤ S.1.length := by rw [eL]; simp
    have enp : uR S.1 p = y := vX (by rw [eL, List.getElem?_append_left hpM]; exact hy)
    have rn := (helb i y (by simp [hp, vX hy])).fr fr18
    obtain ⟨b1, d1, b2, d2, b3, d3, b4, d4, ee, q1, q2, q3, q4⟩ := rn
    simp only [ee, Nd.cs, uJ]
    have m518 := fr18 _ _ b5 (.inr ⟨k5k, by simp⟩)
    have m1318 := fr18 _ _ b13 (.inr ⟨k13k, by simp⟩)
    have rr18 := rrb.fr fr18
    refine qJ ?_; repeat' (first | ((with_reducible first | apply qI | apply qB) <;> try simp only [qN, qC, qE, qG, qD, qA, qF, seval, qQ, qO, qP, qL, qX, qZ, zC, zV, zW]))
    refine xQ fun k17 h19 m19 s19 f19 n19 => ?_
    refine qJ ?_; repeat' (first | ((with_reducible apply qI) <;> try simp only [qN, qC, qE, qG, qD, qA, qF, seval, qQ, qO, qP, qL, qX, qZ, zC, zV, zW]))
    refine vF m19 wA rfl (by decide) rfl rfl rfl fun h20 m20 f20 => ?_
    simp only [vcells] at m20
    have s1820 := s19.upd n19 f20
    have m1320 := s1820 _ _ m1318
    have m1420 := s1820 _ _ m18
    have rr20 := rr18.hs s1820
    have oyd := oky.dp
    cases hbt : (zZ (zM id) y.dp == 1)
    · have hbq : (zZ (zM id) y.dp = 1) = False := by simpa using hbt
      refine qJ ?_; repeat' (first | (with_reducible first | apply qK | apply qT) | ((first | (with_reducible first | apply qI | apply qB | apply qR) | ((refine GTri.mono (dP _ _ rr20 y.dp (by omega)) ?_); rintro _ _ ⟨rfl, hh9⟩; replace hh9 := hh9.symm; subst hh9)) <;> try simp only [qN, qC, qE, qG, qD, qA, qF, seval, qQ, qO, qP, qL, qX, qZ, zC, zV, zW, hbt, qH m1320 zD, qH m20 zT, qH m1420 zT]))
      refine zY m20 zT rfl (by simp) rfl rfl fun h21 m21 f21 => ?_
      simp only [List.set_cons_zero, List.set_cons_succ] at m21
      have S21 : HS h18 h21 := (s19.upd n19 f20).upd n19 f21
      have fr21 : FR 11 k hb h21 := fr18.new n19 (s19.upd n19 f20) f21
      have m1421 := S21 _ _ m18
      have m521 := S21 _ _ m518
      have x21 := x18.hs S21
      refine qJ ?_; repeat' (first | ((with_reducible first | apply qI | apply qB) <;> try simp only [qN, qC, qE, qG, qD, qA, qF, seval, qQ, qO, qP, qL, qX, qZ, zC, zV, zW, qH m521 qK2, qH m21 zT, qH m21 zD]))
      refine (sM N (s18.trans S21) t x21 (((q3.hs S21))) hpf (d := y.dp) (l := S.2) (r := y.r) hdp (by omega) (by omega) (by omega)).mono ?_
      rintro _ h22 ⟨rfl, s22, fr22, v22, cs22, x22⟩
      have m1422 := fr22 _ _ m1421 (.inr ⟨k14k, by simp⟩)
      refine qJ ?_; repeat' (first | ((with_reducible apply qI) <;> try simp only [qN, qC, qE, qG, qD, qA, qF, seval, qQ, qO, qP, qL, qX, qZ, zC, zV, zW]))
      refine zY m1422 zT rfl (by simp) rfl rfl fun h23 m23 f23 => ?_
      simp only [List.set_cons_zero] at m23
      have n14h0 : h0 k14 = none := s12.none_of n14
      have fr23 : FR 11 k hb h23 := fun j B m q => by
        have hj : j ≠ k14 := fun z => by rw [z, n14b] at m; cases m
        rw [f23 j hj]
        exact fr22 j B (fr21 j B m q) q
      have eu : pM (zM id) S p = (S.1 ++ [vM S.1 y.dp y.pf S.2 y.r], S.1.length) := by
        unfold pM
        rw [enp]
        simp only [hbq, if_true, if_false]
      refine qJ ?_; repeat' (first | ((with_reducible apply qI) <;> try simp only [qN, qC, qE, qG, qD, qA, qF, seval, qQ, qO, qP, qL, qX, qZ, zC, zV, zW, bq_n]))
      refine ⟨pM (zM id) S p, by rw [eS]; exact (pA (M := M) hp).symm, s22.upd n14h0 f23, fr23, by rw [eu]; exact m23, by rw [eu]; simp, by rw [eu]; simp; omega, ⟨L ++ [vM S.1 y.dp y.pf S.2 y.r], by rw [eu, eL, List.append_assoc]⟩, v22, cs22, ?_⟩
      rw [eu]
      exact x22.upd m1422 rfl k14k.symm f23
    · have hbq : (zZ (zM id) y.dp = 1) = True := by simpa using hbt
      refine qJ ?_; repeat' (first | (with_reducible first | apply qK | apply qT) | ((first | (with_reducible first | apply qI | apply qB | apply qR) | ((refine GTri.mono (dP _ _ rr20 y.dp (by omega)) ?_); rintro _ _ ⟨rfl, hh9⟩; replace hh9 := hh9.symm; subst hh9)) <;> try simp only [qN, qC, qE, qG, qD, qA, qF, seval, qQ, qO, qP, qL, qX, qZ, zC, zV, zW, hbt, qH m1320 zD, qH m20 zT, qH m1420 zT]))
      refine zY m20 zT rfl (by simp) rfl rfl fun h21 m21 f21 => ?_
      simp only [List.set_cons_zero, List.set_cons_succ] at m21
      have S21 : HS h18 h21 := (s19.upd n19 f20).upd n19 f21
      have fr21 : FR 11 k hb h21 := fr18.new n19 (s19.upd n19 f20) f21
      have m1421 := S21 _ _ m18
      have m521 := S21 _ _ m518
      have x21 := x18.hs S21
      refine qJ ?_; repeat' (first | ((with_reducible first | apply qI | apply qB) <;> try simp only [qN, qC, qE, qG, qD, qA, qF, seval, qQ, qO, qP, qL, qX, qZ, zC, zV, zW, qH m521 qK2, qH m21 zT, qH m21 zD]))
      refine (sM N (s18.trans S21) t x21 (((q3.hs S21))) hpf (d := y.dp) (l := y.l) (r := S.2) hdp (by omega) (by omega) (by omega)).mono ?_
      rintro _ h22 ⟨rfl, s22, fr22, v22, cs22, x22⟩
      have m1422 := fr22 _ _ m1421 (.inr ⟨k14k, by simp⟩)
      refine qJ ?_; repeat' (first | ((with_reducible apply qI) <;> try simp only [qN, qC, qE, qG, qD, qA, qF, seval, qQ, qO, qP, qL, qX, qZ, zC, zV, zW]))
      refine zY m1422 zT rfl (by simp) rfl rfl fun h23 m23 f23 => ?_
      simp only [List.set_cons_zero] at m23
      have n14h0 : h0 k14 = none := s12.none_of n14
      have fr23 : FR 11 k hb h23 := fun j B m q => by
        have hj : j ≠ k14 := fun z => by rw [z, n14b] at m; cases m
        rw [f23 j hj]
        exact fr22 j B (fr21 j B m q) q
      have eu : pM (zM id) S p = (S.1 ++ [vM S.1 y.dp y.pf y.l S.2], S.1.length) := by
        unfold pM
        rw [enp]
        simp only [hbq, if_true, if_false]
      refine qJ ?_; repeat' (first | ((with_reducible apply qI) <;> try simp only [qN, qC, qE, qG, qD, qA, qF, seval, qQ, qO, qP, qL, qX, qZ, zC, zV, zW, bq_n]))
      refine ⟨pM (zM id) S p, by rw [eS]; exact (pA (M := M) hp).symm, s22.upd n14h0 f23, fr23, by rw [eu]; exact m23, by rw [eu]; simp, by rw [eu]; simp; omega, ⟨L ++ [vM S.1 y.dp y.pf y.l S.2], by rw [eu, eL, List.append_assoc]⟩, v22, cs22, ?_⟩
      rw [eu]
      exact x22.upd m1422 rfl k14k.symm f23
  · obtain ⟨S, eS, s18, fr18, m18, hlt, hle, ⟨L, eL⟩, v18, cs18, x18⟩ := hI
    rw [List.drop_zero] at eS
    refine qJ ?_; repeat' (first | with_reducible apply qK | ((with_reducible first | apply qI | apply qB | apply qM) <;> try simp only [qN, qC, qE, qG, qD, qA, qF, seval, qQ, qO, qP, qL, qX, qZ, zC, zV, zW, qH m18 zT]))
    subst eS
    exact ⟨rfl, s18, fun j B m q => fr18 j B (frb j B m q) q, v18, cs18, x18⟩
end
theorem yZ : type_of% (And.intro lD (And.intro zG (And.intro jC (And.intro yM (And.intro xB (And.intro uT (And.intro rV (And.intro wH rs92)))))))) := And.intro lD (And.intro zG (And.intro jC (And.intro yM (And.intro xB (And.intro uT (And.intro rV (And.intro wH rs92)))))))
theorem yT : type_of% (And.intro zG (And.intro jC (And.intro pJ (And.intro yM (And.intro xB (And.intro uT (And.intro rV (And.intro wH (And.intro zH4 rs133))))))))) := And.intro zG (And.intro jC (And.intro pJ (And.intro yM (And.intro xB (And.intro uT (And.intro rV (And.intro wH (And.intro zH4 rs133))))))))
theorem vZ : type_of% (And.intro lD (And.intro zG (And.intro jC (And.intro pJ (And.intro yM (And.intro xB (And.intro uT (And.intro rV (And.intro wH rs90))))))))) := And.intro lD (And.intro zG (And.intro jC (And.intro pJ (And.intro yM (And.intro xB (And.intro uT (And.intro rV (And.intro wH rs90))))))))
def ivs (l : List Nat) : List Value := l.map fun (p : Nat) => .int .i64 (p : Int)
theorem ivs_u8 (l : List Nat) : (ivs l).all yP = true := by simp only [ivs, List.all_map]; exact List.all_eq_true.2 (fun _ _ => rfl)
section
variable {h0 h h' : GH} {k : Nat} {v : Value} {cs : List Value} {M : List Nd}
theorem zG0 (N : Nat) (x : AB h0 h k v cs M) {id ky : List UInt8} {si : Nat} {rt at_ : Int} {fs : List Nat} {nd : Nd} {same : Bool} {S0 : List Nd × Nat} (sp : Spot M id ky si rt fs at_ nd same S0) :
    GTri Tryz.prog N 54 [.pointer (some ⟨k, 0, none⟩), .int .i64 at_] h fun u h' => HS h h' ∧ ∃ cn, u = .tuple #[.agg cn.toArray, .bool (!(at_ == -1))] ∧ RNd h' cn nd := by
  cases sp with
  | no =>
    refine (qN9 N x (.inl (by omega))).mono ?_
    rintro _ h1 ⟨s1, rfl⟩
    exact ⟨s1, zN, rfl, none, 0, none, 0, none, 0, none, 0, rfl, RB.nil _, RB.nil _, RB.nil _, RB.nil _⟩
  | @way i e fs nd w =>
    refine (qJ6 N x w.end.1).mono ?_
    rintro _ h1 ⟨s1, cn, rfl, r1⟩
    have : ((e : Int) == -1) = false := by first | (simp; done) | (simp; omega)
    exact ⟨s1, cn, by rw [this]; rfl, r1⟩
theorem zG1 (N : Nat) (x : AB h0 h k v cs M) {id ky : List UInt8} {si : Nat} {rt at_ : Int} {fs : List Nat} {nd : Nd} {same : Bool} {S0 : List Nd × Nat} (sp : Spot M id ky si rt fs at_ nd same S0) :
    GTri Tryz.prog N 54 [.pointer (some ⟨k, 0, none⟩), .int .i64 rt] h fun u h' => HS h h' ∧ ∃ cn y, u = .tuple #[.agg cn.toArray, .bool (!(rt == -1))] ∧ RNd h' cn y := by
  cases sp with
  | no =>
    refine (qN9 N x (.inl (by omega))).mono ?_
    rintro _ h1 ⟨s1, rfl⟩
    exact ⟨s1, zN, ⟨false, [], [], 0, 0, [], 0, 0, 0, []⟩, rfl, none, 0, none, 0, none, 0, none, 0, rfl, RB.nil _, RB.nil _, RB.nil _, RB.nil _⟩
  | @way i e fs nd w =>
    obtain ⟨y, hy⟩ : ∃ y, M[i]? = some y := by
      cases w with
      | stop h1 _ => exact ⟨_, h1⟩
      | go h1 _ _ => exact ⟨_, h1⟩
    refine (qJ6 N x hy).mono ?_
    rintro _ h1 ⟨s1, cn, rfl, r1⟩
    have : ((i : Int) == -1) = false := by first | (simp; done) | (simp; omega)
    exact ⟨s1, cn, y, by rw [this]; rfl, r1⟩
theorem zQ0 (N : Nat) (x : AB h0 h k v cs M) {a : Option Addr} {c : Nat} {id ky : List UInt8} {si : Nat} {rt at_ : Int} {fs : List Nat} {nd : Nd} {same : Bool} {S0 : List Nd × Nat} (sp : Spot M id ky si rt fs at_ nd same S0) (hfs : fs.length ≤ 8 * (zM id).length)
    (rr : RB h (.slice a (zM id).length c) (zM id)) :
    GTri Tryz.prog N 92 [.pointer (some ⟨k, 0, none⟩), .int .i64 rt, .slice a (zM id).length c] h fun u h' => HS h h' ∧ ∃ af cf, u = .tuple #[.slice af fs.length cf, .int .i64 at_] ∧ OWNC 1 h h' (.slice af fs.length cf) fs.length (ivs fs) := by
  have hkl := yY id
  have w8 : IntKind.i64.wrap (8 * ((zM id).length : Int)) = 8 * ((zM id).length : Int) := by rw [wrap64 (by omega) (by omega)]
  have w9 : IntKind.i64.wrap (8 * ((zM id).length : Int) + 1) = 8 * ((zM id).length : Int) + 1 := by rw [wrap64 (by omega) (by omega)]
  refine zU Tryz.func92 rfl gf92 ok92 (by simp [Tryz.ntmps92]) ?_
  refine qJ ?_; repeat' (first | (with_reducible first | apply qK | apply qT) | ((with_reducible first | apply qI | apply qB) <;> try simp only [qN, qC, qE, qG, qD, qA, qF, seval, qQ, qO, qP, yZ, w8, w9]))
  cases sp with
  | no =>
    refine xN [0, 2, 16] (fun (j : Nat) => [(8, .slice none 0 0), (9, .int .i64 (-1)), (17, .int .i64 0)]) (fun q j h' => q = 0 ∧ h' = h) 0 0 (by simp [lk]) ⟨rfl, rfl⟩ ?_
    rintro _ _ _ ⟨rfl, rfl⟩
    have d : decide ((0 : Int) < 8 * ((zM id).length : Int) + 1) = true := decide_eq_true (by omega)
    refine qJ ?_; repeat' (first | (with_reducible first | apply qK | apply qT) | ((with_reducible first | apply qI | apply qB | apply qR | apply qS) <;> try simp only [qN, qC, qE, qG, qD, qA, qF, seval, qQ, qO, qP, yZ, d]))
    refine (qN9 N x (.inl (by omega))).mono ?_
    rintro _ h1 ⟨s1, rfl⟩
    simp only [zN]
    refine qJ ?_; repeat' (first | ((with_reducible apply qI) <;> try simp only [qN, qC, qE, qG, qD, qA, qF, seval, qQ, qO, qP, yZ]))
    refine xQ fun k11 h11 m11 s11 f11 n11 => ?_
    refine qJ ?_; repeat' (first | ((with_reducible apply qI) <;> try simp only [qN, qC, qE, qG, qD, qA, qF, seval, qQ, qO, qP, yZ]))
    refine vF m11 wA rfl (by decide) rfl rfl rfl fun h12 m12 f12 => ?_
    refine qJ ?_; repeat' (first | with_reducible apply qK | ((with_reducible first | apply qI | apply qB | apply qR | apply qM) <;> try simp only [qN, qC, qE, qG, qD, qA, qF, seval, qQ, qO, qP, yZ]))
    exact ⟨s1.trans (s11.upd n11 f12), none, 0, rfl, OWNC.nil _ _ _⟩
  | @way i e fs nd w =>
    obtain ⟨w0, wf⟩ := w.at
    obtain ⟨we, ws⟩ := w.end
    refine xN [0, 2, 16] (fun (s : Nat × Option Addr × Nat × Nat) => [(8, .slice s.2.1 s.1 s.2.2.1), (9, .int .i64 (s.2.2.2 : Int)), (17, .int .i64 (s.1 : Int))])
      (fun q s h' => fs.length - s.1 = q ∧ s.1 ≤ fs.length ∧ HS h h' ∧ OWNC 1 h h' (.slice s.2.1 s.1 s.2.2.1) s.1 (ivs (fs.take s.1)) ∧ (fs ++ [e])[s.1]? = some s.2.2.2) fs.length (0, none, 0, i) (by simp [lk]) ⟨rfl, by simp, HS.refl _, OWNC.nil _ _ _, w0⟩ ?_
    rintro _ ⟨j, af, cf, p⟩ h10 ⟨rfl, hj, s10, ow, hp⟩
    simp only at hj ow hp
    have hpM : ∃ y, M[p]? = some y ∧ (j < fs.length → fs[j]? = some p ∧ kM (zM id) y = false) ∧ (j = fs.length → e = p ∧ nd = y) := by
      by_cases hjl : j < fs.length
      · rw [List.getElem?_append_left hjl] at hp
        obtain ⟨y, q1, q2, _⟩ := wf j p hp
        exact ⟨y, q1, fun _ => ⟨hp, q2⟩, fun q => by omega⟩
      · have : j = fs.length := by omega
        subst this
        rw [List.getElem?_append_right (by omega), Nat.sub_self] at hp
        cases hp
        exact ⟨nd, we, fun q => by omega, fun _ => ⟨rfl, rfl⟩⟩
    obtain ⟨y, hy, yg, ye⟩ := hpM
    have x10 := x.hs s10
    have oky := x10.arr.ok.ok p y hy
    have hpf := oky.pf
    have hdp := oky.dp
    have d : decide ((j : Int) < 8 * ((zM id).length : Int) + 1) = true := decide_eq_true (by omega)
    have wi : IntKind.i64.wrap ((j : Int) + 1) = ((j + 1 : Nat) : Int) := by rw [wrap64 (by omega) (by omega)]; omega
    refine qJ ?_; repeat' (first | (with_reducible first | apply qK | apply qT) | ((with_reducible first | apply qI | apply qB | apply qR | apply qS) <;> try simp only [qN, qC, qE, qG, qD, qA, qF, seval, qQ, qO, qP, yZ, d]))
    refine (qJ6 N x10 hy).mono ?_
    rintro _ h11 ⟨s11, cn, rfl, r11⟩
    obtain ⟨a1, c1, a2, c2, a3, c3, a4, c4, rfl, r1, r2, r3, r4⟩ := r11
    refine qJ ?_; repeat' (first | ((with_reducible apply qI) <;> try simp only [qN, qC, qE, qG, qD, qA, qF, seval, qQ, qO, qP, yZ]))
    refine xQ fun k12 h12 m12 s12 f12 n12 => ?_
    refine qJ ?_; repeat' (first | ((with_reducible apply qI) <;> try simp only [qN, qC, qE, qG, qD, qA, qF, seval, qQ, qO, qP, yZ]))
    refine wT m12 wA rfl (by decide) rfl rfl rfl fun h13 m13 f13 => ?_
    simp only [Nd.cs] at m13
    have S13 := s11.trans (s12.upd n12 f13)
    have q3 := r3.hs (s12.upd n12 f13)
    have rb13 := (rr.hs s10).hs S13
    by_cases hjl : j < fs.length
    case neg =>
      obtain ⟨rfl, rfl⟩ := ye (by omega)
      obtain rfl : j = fs.length := by omega
      rw [List.take_of_length_le (Nat.le_refl _)] at ow
      cases hlf : nd.lf
      case true =>
        rw [hlf] at m13
        refine qJ ?_; repeat' (first | with_reducible apply qK | ((with_reducible first | apply qI | apply qB | apply qR | apply qS | apply qM) <;> try simp only [qN, qC, qE, qG, qD, qA, qF, seval, qQ, qO, qP, yZ, qH m13 rU, qH m13 zD, qH m13 zT, wi]))
        exact ⟨s10.trans S13, af, cf, rfl, ow.hs S13⟩
      have hnb : sB (zM id) nd.pf (nd.dp : Int) = false := by
        unfold kM at ws
        rw [hlf] at ws
        simpa using ws
      rw [hlf] at m13
      refine qJ ?_; repeat' (first | with_reducible apply qK | ((with_reducible first | apply qI | apply qB | apply qR | apply qS) <;> try simp only [qN, qC, qE, qG, qD, qA, qF, seval, qQ, qO, qP, yZ, qH m13 rU, qH m13 zD, qH m13 zT]))
      refine (mX N h13 rb13 q3 (by omega) (by omega) nd.dp (WalkArith.wf_i64 (by omega))).mono ?_
      rintro _ h14 ⟨rfl, s14⟩
      refine qJ ?_; repeat' (first | with_reducible apply qK | ((with_reducible first | apply qI | apply qB | apply qR | apply qM) <;> try simp only [qN, qC, qE, qG, qD, qA, qF, seval, qQ, qO, qP, yZ, hnb]))
      exact ⟨(s10.trans S13).trans s14, af, cf, rfl, (ow.hs S13).hs s14⟩
    obtain ⟨hfj, hst⟩ := yg hjl
    obtain ⟨hlf, hbg⟩ := yG hst
    rw [hlf] at m13
    obtain ⟨y', hy', _, hkid⟩ := wf j p hfj
    rw [hy] at hy'
    cases hy'
    refine qJ ?_; repeat' (first | with_reducible apply qK | ((with_reducible first | apply qI | apply qB | apply qR | apply qS) <;> try simp only [qN, qC, qE, qG, qD, qA, qF, seval, qQ, qO, qP, yZ, qH m13 rU, qH m13 zD, qH m13 zT]))
    refine (mX N h13 rb13 q3 (by omega) (by omega) y.dp (WalkArith.wf_i64 (by omega))).mono ?_
    rintro _ h14 ⟨rfl, s14⟩
    have m14 := s14 _ _ m13
    have S14 := S13.trans s14
    have rb14 := rb13.hs s14
    refine qJ ?_; repeat' (first | with_reducible apply qK | ((with_reducible first | apply qI | apply qB | apply qR | apply qS) <;> try simp only [qN, qC, qE, qG, qD, qA, qF, seval, qQ, qO, qP, yZ, hbg]))
    refine qO5 el127 rfl rfl (by decide) (by decide) rfl fun k15 h15 b15 s15 f15 n15 => ?_
    have S15 := S14.trans s15
    refine qJ ?_; repeat' (first | ((with_reducible apply qI) <;> try simp only [qN, qC, qE, qG, qD, qA, qF, seval, qQ, qO, qP, yZ]))
    refine gQ el127 Tryz.underlying127 rfl (s10.trans S15) (ow.hs S15) b15 rfl rfl (by omega) (by simp only [maxLen]; omega) fun v16 h16 s16 fr16 o16 => ?_
    obtain ⟨a16, c16, rfl⟩ := o16.form
    have m16 := qH6 fr16 (s15 _ _ m14) (by simp)
    have hu : (ivs (fs.take j)).all yP = true := ivs_u8 _
    have rb16 := fr_rb fr16 hu (rb14.hs s15)
    have et : ivs (fs.take j) ++ vcells (.int .i64 (p : Int)) = ivs (fs.take (j + 1)) := by
      have h1 := List.getElem?_eq_some_iff.1 hfj
      rw [List.take_succ_eq_append_getElem h1.1, h1.2]
      simp [ivs, vcells]
    rw [et] at o16
    have ek : tE (zM id) y = if zZ (zM id) y.dp = 1 then y.r else y.l := rfl
    cases hbt : (zZ (zM id) y.dp == 1)
    · have hbq : ¬ (zZ (zM id) y.dp = 1) := by simpa using hbt
      rw [if_neg hbq] at ek
      rw [ek] at hkid
      refine qJ ?_; repeat' (first | with_reducible apply qK | ((first | (with_reducible first | apply qI | apply qB | apply qR) | ((refine GTri.mono (kV _ _ rb16 y.dp (by omega)) ?_); rintro _ _ ⟨rfl, hh9⟩; replace hh9 := hh9.symm; subst hh9)) <;> try simp only [qN, qC, qE, qG, qD, qA, qF, seval, qQ, qO, qP, yZ, hbt, qH m16 zT, wi]))
      exact ⟨_, (j + 1, a16, c16, y.l), by simp only; omega, (by simp only [List.forall_mem_cons, List.not_mem_nil, false_implies, implies_true, List.map, List.cons_append, List.nil_append, lk, Nat.reduceEqDiff, reduceIte, and_true, true_and]), rfl, by simp only; omega, s16, o16, hkid⟩
    · have hbq : zZ (zM id) y.dp = 1 := by simpa using hbt
      rw [if_pos hbq] at ek
      rw [ek] at hkid
      refine qJ ?_; repeat' (first | with_reducible apply qK | ((first | (with_reducible first | apply qI | apply qB | apply qR) | ((refine GTri.mono (kV _ _ rb16 y.dp (by omega)) ?_); rintro _ _ ⟨rfl, hh9⟩; replace hh9 := hh9.symm; subst hh9)) <;> try simp only [qN, qC, qE, qG, qD, qA, qF, seval, qQ, qO, qP, yZ, hbt, qH m16 zT, wi]))
      exact ⟨_, (j + 1, a16, c16, y.r), by simp only; omega, (by simp only [List.forall_mem_cons, List.not_mem_nil, false_implies, implies_true, List.map, List.cons_append, List.nil_append, lk, Nat.reduceEqDiff, reduceIte, and_true, true_and]), rfl, by simp only; omega, s16, o16, hkid⟩
theorem Spot.noa {id ky : List UInt8} {si : Nat} {rt at_ : Int} {fs : List Nat} {nd : Nd} {same : Bool} {S0 : List Nd × Nat} (sp : Spot M id ky si rt fs at_ nd same S0) : (at_ == -1) = (rt == -1) ∧ ((at_ == -1) = true → same = false) ∧ ((at_ == -1) = false → same = (nd.lf && nd.id == id) ∧ 0 ≤ at_) := by
  cases sp with
  | no => exact ⟨rfl, fun _ => rfl, fun q => by simp at q⟩
  | @way i e fs nd w =>
    have h1 : ((i : Int) == -1) = false := by first | (simp; done) | (simp; omega)
    have h2 : ((e : Int) == -1) = false := by first | (simp; done) | (simp; omega)
    exact ⟨by rw [h1, h2], (fun q => by rw [h2] at q; cases q), (fun _ => ⟨rfl, by omega⟩)⟩
theorem c_rGet (N : Nat) (x : AB h0 h k v cs M) {a : Option Addr} {c : Nat} {id ky : List UInt8} {si : Nat} {rt at_ : Int} {fs : List Nat} {nd : Nd} {same : Bool} {S0 : List Nd × Nat} (sp : Spot M id ky si rt fs at_ nd same S0) (hfs : fs.length ≤ 8 * (zM id).length)
    (ri : RB h (.slice a id.length c) id) :
    GTri Tryz.prog N 133 [.pointer (some ⟨k, 0, none⟩), .int .i64 rt, .slice a id.length c] h fun u h' => HS h h' ∧ ∃ y z w, u = .tuple #[.agg #[y, z, w], .bool same] ∧ [y, z, w].all zP = true := by
  obtain ⟨_, sn, sy⟩ := sp.noa
  refine zU Tryz.func133 rfl gf133 ok133 (by simp [Tryz.ntmps133]) ?_
  repeat' (first | with_reducible apply qK | ((with_reducible apply qB) <;> try simp only [qN, qC, qE, qG, qD, qA, qF, seval, qQ, qO, qP, yT]))
  refine xQ fun k6 h6 m6 s6 f6 n6 => ?_
  refine qJ ?_; repeat' (first | with_reducible apply qK | ((with_reducible first | apply qI | apply qB) <;> try simp only [qN, qC, qE, qG, qD, qA, qF, seval, qQ, qO, qP, yT]))
  refine (qF7 N h6 (ri.hs s6) rfl).mono ?_
  rintro _ h7 ⟨s7, ar, cr, rfl, rr, _⟩
  have S7 := s6.trans s7
  refine qJ ?_; repeat' (first | ((with_reducible apply qI) <;> try simp only [qN, qC, qE, qG, qD, qA, qF, seval, qQ, qO, qP, yT]))
  refine (zQ0 N (x.hs S7) sp hfs rr).mono ?_
  rintro _ h8 ⟨s8, af, cf, rfl, ow⟩
  have S8 := S7.trans s8
  refine qJ ?_; repeat' (first | with_reducible apply qK | ((with_reducible first | apply qI | apply qB) <;> try simp only [qN, qC, qE, qG, qD, qA, qF, seval, qQ, qO, qP, yT]))
  refine (zG0 N (x.hs S8) sp).mono ?_
  rintro _ h9 ⟨s9, cn, rfl, r9⟩
  obtain ⟨a1, c1, a2, c2, a3, c3, a4, c4, rfl, r1, r2, r3, r4⟩ := r9
  refine qJ ?_; repeat' (first | ((with_reducible apply qI) <;> try simp only [qN, qC, qE, qG, qD, qA, qF, seval, qQ, qO, qP, yT]))
  refine xQ fun k10 h10 m10 s10 f10 n10 => ?_
  refine qJ ?_; repeat' (first | ((with_reducible apply qI) <;> try simp only [qN, qC, qE, qG, qD, qA, qF, seval, qQ, qO, qP, yT]))
  refine wT m10 wA rfl (by decide) rfl rfl rfl fun h11 m11 f11 => ?_
  simp only [Nd.cs] at m11
  have s911 := s10.upd n10 f11
  have S11 := (S8.trans s9).trans s911
  have m611 := s911 _ _ (s9 _ _ (s8 _ _ (s7 _ _ m6)))
  have n6h : h k6 = none := n6
  have cv1 := (r1.hs s911).conv Tryz.underlying22 Tryz.underlying5 Tryz.underlying9
  have cv2 := (ri.hs S11).conv Tryz.underlying22 Tryz.underlying5 Tryz.underlying9
  cases hn : (at_ == -1)
  case true =>
    rw [sn hn]
    refine qJ ?_; repeat' (first | with_reducible apply qK | ((with_reducible first | apply qI | apply qB | apply qR) <;> try simp only [qN, qC, qE, qG, qD, qA, qF, seval, qQ, qO, qP, yT, Bool.not_true, xU, wI, yQ, Shape.pl, List.all_cons, List.all_nil, zP]))
    refine vF m611 lA rfl (by decide) rfl rfl rfl fun h12 m12 f12 => ?_
    simp only [vcells] at m12
    have ld := zH (P := Tryz.prog) (t := 31) m12 lA rfl
    refine qJ ?_; repeat' (first | ((with_reducible first | apply qI | apply qM) <;> try simp only [qN, qC, qE, qG, qD, qA, qF, seval, qQ, qO, qP, yT, dU, ld]))
    exact ⟨S11.upd n6h f12, _, _, _, rfl, rfl⟩
  rw [(sy hn).1]
  cases hlf : nd.lf
  case false =>
    rw [hlf] at m11
    refine qJ ?_; repeat' (first | with_reducible apply qK | ((with_reducible first | apply qI | apply qB | apply qR) <;> try simp only [qN, qC, qE, qG, qD, qA, qF, seval, qQ, qO, qP, yT, qH m11 rU, Bool.not_false, xU, wI, yQ, Shape.pl, List.all_cons, List.all_nil, zP]))
    refine vF m611 lA rfl (by decide) rfl rfl rfl fun h12 m12 f12 => ?_
    simp only [vcells] at m12
    have ld := zH (P := Tryz.prog) (t := 31) m12 lA rfl
    refine qJ ?_; repeat' (first | ((with_reducible first | apply qI | apply qM) <;> try simp only [qN, qC, qE, qG, qD, qA, qF, seval, qQ, qO, qP, yT, dU, ld]))
    exact ⟨S11.upd n6h f12, _, _, _, rfl, rfl⟩
  rw [hlf] at m11
  cases hid : (nd.id == id)
  case false =>
    refine qJ ?_; repeat' (first | with_reducible apply qK | ((with_reducible first | apply qI | apply qB | apply qR) <;> try simp only [qN, qC, qE, qG, qD, qA, qF, seval, qQ, qO, qP, yT, qH m11 rU, qH m11 zD, Bool.not_false, cv1, cv2, jO, hid, xU, wI, yQ, Shape.pl, List.all_cons, List.all_nil, zP]))
    refine vF m611 lA rfl (by decide) rfl rfl rfl fun h12 m12 f12 => ?_
    simp only [vcells] at m12
    have ld := zH (P := Tryz.prog) (t := 31) m12 lA rfl
    refine qJ ?_; repeat' (first | ((with_reducible first | apply qI | apply qM) <;> try simp only [qN, qC, qE, qG, qD, qA, qF, seval, qQ, qO, qP, yT, dU, ld]))
    exact ⟨S11.upd n6h f12, _, _, _, rfl, rfl⟩
  refine qJ ?_; repeat' (first | with_reducible apply qK | ((with_reducible first | apply qI | apply qB | apply qR | apply qS) <;> try simp only [qN, qC, qE, qG, qD, qA, qF, seval, qQ, qO, qP, yT, qH m11 rU, qH m11 zD, qH m11 zT, Bool.not_false, cv1, cv2, jO, hid, xU, wI, yQ, Shape.pl, List.all_cons, List.all_nil, zP]))
  refine vF m611 lA rfl (by decide) rfl rfl rfl fun h12 m12 f12 => ?_
  simp only [vcells] at m12
  have ld := zH (P := Tryz.prog) (t := 31) m12 lA rfl
  refine qJ ?_; repeat' (first | ((with_reducible first | apply qI | apply qM) <;> try simp only [qN, qC, qE, qG, qD, qA, qF, seval, qQ, qO, qP, yT, dU, ld]))
  exact ⟨S11.upd n6h f12, _, _, _, rfl, rfl⟩
theorem c_rNeeds (N : Nat) (x : AB h0 h k v cs M) {a : Option Addr} {c : Nat} {id ky : List UInt8} {si : Nat} {rt at_ : Int} {fs : List Nat} {nd : Nd} {same : Bool} {S0 : List Nd × Nat} (sp : Spot M id ky si rt fs at_ nd same S0) (hfs : fs.length ≤ 8 * (zM id).length)
    (ri : RB h (.slice a id.length c) id) :
    GTri Tryz.prog N 90 [.pointer (some ⟨k, 0, none⟩), .int .i64 rt, .slice a id.length c] h fun u h' => HS h h' ∧ ∃ n : Nat, u = .int .i64 (n : Int) ∧ n ≤ fs.length + 2 := by
  obtain ⟨ea, sn, sy⟩ := sp.noa
  have hkl := yY id
  have w1 : IntKind.i64.wrap ((fs.length : Int) + 1) = ((fs.length + 1 : Nat) : Int) := by rw [wrap64 (by omega) (by omega)]; omega
  have w2 : IntKind.i64.wrap ((fs.length : Int) + 2) = ((fs.length + 2 : Nat) : Int) := by rw [wrap64 (by omega) (by omega)]; omega
  refine zU Tryz.func90 rfl gf90 ok90 (by simp [Tryz.ntmps90]) ?_
  refine qJ ?_; repeat' (first | with_reducible apply qK | ((with_reducible first | apply qI | apply qB) <;> try simp only [qN, qC, qE, qG, qD, qA, qF, seval, qQ, qO, qP, vZ]))
  refine (zG1 N x sp).mono ?_
  rintro _ h1 ⟨s1, cn, y, rfl, r1⟩
  have l1 := r1.len
  refine qJ ?_; repeat' (first | ((with_reducible apply qI) <;> try simp only [qN, qC, qE, qG, qD, qA, qF, seval, qQ, qO, qP, vZ]))
  refine xQ fun k7 h7 m7 s7 f7 n7 => ?_
  refine qJ ?_; repeat' (first | ((with_reducible apply qI) <;> try simp only [qN, qC, qE, qG, qD, qA, qF, seval, qQ, qO, qP, vZ]))
  refine wT m7 wA rfl (by decide) l1.1 rfl l1.2.1 fun h8 m8 f8 => ?_
  have S8 := s1.trans (s7.upd n7 f8)
  have cond : ∀ b, (rt == -1) = b → (if (rt != -1) = true then !(!b) else false) = false := fun b hb => by unfold bne; rw [hb]; cases b <;> rfl
  have hstep : (rt != -1) = !(rt == -1) := rfl
  cases hr : (rt == -1)
  all_goals
    rw [hr] at hstep
    simp only [Bool.not_true, Bool.not_false] at hstep
  · refine qJ ?_; repeat' (first | with_reducible apply qK | ((with_reducible first | apply qI | apply qB | apply qR | apply qS) <;> try simp only [qN, qC, qE, qG, qD, qA, qF, seval, qQ, qO, qP, vZ, hstep, hr, Bool.not_false, Bool.not_true]))
    refine (qF7 N h8 (ri.hs S8) rfl).mono ?_
    rintro _ h9 ⟨s9, ar, cr, rfl, rr, _⟩
    have S9 := S8.trans s9
    refine qJ ?_; repeat' (first | ((with_reducible apply qI) <;> try simp only [qN, qC, qE, qG, qD, qA, qF, seval, qQ, qO, qP, vZ]))
    refine (zQ0 N (x.hs S9) sp hfs rr).mono ?_
    rintro _ h10 ⟨s10, af, cf, rfl, ow⟩
    have S10 := S9.trans s10
    refine qJ ?_; repeat' (first | with_reducible apply qK | ((with_reducible first | apply qI | apply qB) <;> try simp only [qN, qC, qE, qG, qD, qA, qF, seval, qQ, qO, qP, vZ]))
    refine (c_rGet N (x.hs S10) sp hfs (ri.hs S10)).mono ?_
    rintro _ h11 ⟨s11, y1, y2, y3, rfl, hc⟩
    refine qJ ?_; repeat' (first | ((with_reducible apply qI) <;> try simp only [qN, qC, qE, qG, qD, qA, qF, seval, qQ, qO, qP, vZ]))
    refine xQ fun k12 h12 m12 s12 f12 n12 => ?_
    refine qJ ?_; repeat' (first | ((with_reducible apply qI) <;> try simp only [qN, qC, qE, qG, qD, qA, qF, seval, qQ, qO, qP, vZ]))
    refine vF m12 lA rfl (by decide) rfl rfl (by simpa [vcells] using hc) fun h13 m13 f13 => ?_
    have S13 := (S10.trans s11).trans (s12.upd n12 f13)
    cases hsm : same
    case true =>
      refine qJ ?_; repeat' (first | with_reducible apply qK | ((with_reducible first | apply qI | apply qB | apply qR | apply qM) <;> try simp only [qN, qC, qE, qG, qD, qA, qF, seval, qQ, qO, qP, vZ, w1, w2]))
      exact ⟨S13, fs.length + 1, rfl, by omega⟩
    by_cases ha : at_ < 0
    · have da : decide (at_ < 0) = true := decide_eq_true ha
      refine qJ ?_; repeat' (first | with_reducible apply qK | ((with_reducible first | apply qI | apply qB | apply qR | apply qM) <;> try simp only [qN, qC, qE, qG, qD, qA, qF, seval, qQ, qO, qP, vZ, da, w1, w2]))
      exact ⟨S13, fs.length + 1, rfl, by omega⟩
    · have da : decide (at_ < 0) = false := decide_eq_false ha
      refine qJ ?_; repeat' (first | with_reducible apply qK | ((with_reducible first | apply qI | apply qB | apply qR | apply qS | apply qM) <;> try simp only [qN, qC, qE, qG, qD, qA, qF, seval, qQ, qO, qP, vZ, da, w1, w2]))
      exact ⟨S13, fs.length + 2, rfl, by omega⟩
  · refine qJ ?_; repeat' (first | with_reducible apply qK | ((with_reducible first | apply qI | apply qB | apply qR | apply qS) <;> try simp only [qN, qC, qE, qG, qD, qA, qF, seval, qQ, qO, qP, vZ, hstep, hr, Bool.not_false, Bool.not_true]))
    refine (qF7 N h8 (ri.hs S8) rfl).mono ?_
    rintro _ h9 ⟨s9, ar, cr, rfl, rr, _⟩
    have S9 := S8.trans s9
    refine qJ ?_; repeat' (first | ((with_reducible apply qI) <;> try simp only [qN, qC, qE, qG, qD, qA, qF, seval, qQ, qO, qP, vZ]))
    refine (zQ0 N (x.hs S9) sp hfs rr).mono ?_
    rintro _ h10 ⟨s10, af, cf, rfl, ow⟩
    have S10 := S9.trans s10
    refine qJ ?_; repeat' (first | with_reducible apply qK | ((with_reducible first | apply qI | apply qB) <;> try simp only [qN, qC, qE, qG, qD, qA, qF, seval, qQ, qO, qP, vZ]))
    refine (c_rGet N (x.hs S10) sp hfs (ri.hs S10)).mono ?_
    rintro _ h11 ⟨s11, y1, y2, y3, rfl, hc⟩
    refine qJ ?_; repeat' (first | ((with_reducible apply qI) <;> try simp only [qN, qC, qE, qG, qD, qA, qF, seval, qQ, qO, qP, vZ]))
    refine xQ fun k12 h12 m12 s12 f12 n12 => ?_
    refine qJ ?_; repeat' (first | ((with_reducible apply qI) <;> try simp only [qN, qC, qE, qG, qD, qA, qF, seval, qQ, qO, qP, vZ]))
    refine vF m12 lA rfl (by decide) rfl rfl (by simpa [vcells] using hc) fun h13 m13 f13 => ?_
    have S13 := (S10.trans s11).trans (s12.upd n12 f13)
    cases hsm : same
    case true =>
      refine qJ ?_; repeat' (first | with_reducible apply qK | ((with_reducible first | apply qI | apply qB | apply qR | apply qM) <;> try simp only [qN, qC, qE, qG, qD, qA, qF, seval, qQ, qO, qP, vZ, w1, w2]))
      exact ⟨S13, fs.length + 1, rfl, by omega⟩
    by_cases ha : at_ < 0
    · have da : decide (at_ < 0) = true := decide_eq_true ha
      refine qJ ?_; repeat' (first | with_reducible apply qK | ((with_reducible first | apply qI | apply qB | apply qR | apply qM) <;> try simp only [qN, qC, qE, qG, qD, qA, qF, seval, qQ, qO, qP, vZ, da, w1, w2]))
      exact ⟨S13, fs.length + 1, rfl, by omega⟩
    · have da : decide (at_ < 0) = false := decide_eq_false ha
      refine qJ ?_; repeat' (first | with_reducible apply qK | ((with_reducible first | apply qI | apply qB | apply qR | apply qS | apply qM) <;> try simp only [qN, qC, qE, qG, qD, qA, qF, seval, qQ, qO, qP, vZ, da, w1, w2]))
      exact ⟨S13, fs.length + 2, rfl, by omega⟩
end
theorem mM : type_of% (And.intro zG (And.intro jC (And.intro xB (And.intro rV (And.intro wH rs94))))) := And.intro zG (And.intro jC (And.intro xB (And.intro rV (And.intro wH rs94))))
theorem xI : type_of% (And.intro lD (And.intro uU (And.intro zG (And.intro jC (And.intro yM (And.intro xB (And.intro uT (And.intro rV (And.intro wH (And.intro zH4 rs48)))))))))) := And.intro lD (And.intro uU (And.intro zG (And.intro jC (And.intro yM (And.intro xB (And.intro uT (And.intro rV (And.intro wH (And.intro zH4 rs48)))))))))
def xM : Nat → List (Nat × List Nat) × List Nat
  | 4 => ([(0, []), (1, []), (2, []), (4, []), (5, []), (6, []), (7, []), (8, []), (3, [7]), (9, [7]), (10, []), (11, [])], [0, 0, 0, 7, 0, 16, 48, 112, 0, 271, 1023, 2047])
  | _ => ([], [])
section
variable {h0 h h' : GH} {k : Nat} {v : Value} {cs : List Value} {M : List Nd}
theorem zQ4 (N : Nat) (s0 : HS h0 h) (x : AB h0 h k v cs M) {a : Option Addr} {c : Nat} {row : List UInt8} (rr : RB h (.slice a row.length c) row) (hrow : row.length ≤ 60000) {d now e : Nat} (hd : d ≤ 8 * row.length) (hnow : now < M.length) (he : e < M.length) (hm : M.length < 10000) :
    GTri Tryz.prog N 94 [.pointer (some ⟨k, 0, none⟩), .int .i64 (d : Int), .slice a row.length c, .int .i64 (now : Int), .int .i64 (e : Int)] h fun u h' =>
      u = .int .i64 (M.length : Int) ∧ HS h0 h' ∧ FR 10 k h h' ∧ ∃ v' cs', AB h0 h' k v' cs' (M ++ [vM M d row (if zZ row d = 1 then e else now) (if zZ row d = 1 then now else e)]) := by
  refine zU Tryz.func94 rfl gf94 ok94 (by simp [Tryz.ntmps94]) ?_
  cases hbt : (zZ row d == 1)
  · have hbq : (zZ row d = 1) = False := by simpa using hbt
    simp only [hbq, if_true, if_false]
    refine qJ ?_; repeat' (first | with_reducible apply qK | ((first | (with_reducible first | apply qI | apply qB | apply qR | apply qS) | ((refine GTri.mono (kV _ _ rr d (by omega)) ?_); rintro _ _ ⟨rfl, hh9⟩; replace hh9 := hh9.symm; subst hh9)) <;> try simp only [qN, qC, qE, qG, qD, qA, qF, seval, qQ, qO, qP, mM, hbt]))
    refine (mW N s0 x rr hrow (d := d) (l := now) (r := e) hd (by omega) (by omega) hm).mono ?_
    rintro _ h13 ⟨rfl, s13, fr13, v', cs', x13⟩
    refine qJ ?_; repeat' (first | with_reducible apply qK | ((with_reducible first | apply qI | apply qB | apply qM) <;> try simp only [qN, qC, qE, qG, qD, qA, qF, seval, qQ, qO, qP, mM]))
    exact ⟨s13, fr13, v', cs', x13⟩
  · have hbq : (zZ row d = 1) = True := by simpa using hbt
    simp only [hbq, if_true, if_false]
    refine qJ ?_; repeat' (first | with_reducible apply qK | ((first | (with_reducible first | apply qI | apply qB | apply qR) | ((refine GTri.mono (kV _ _ rr d (by omega)) ?_); rintro _ _ ⟨rfl, hh9⟩; replace hh9 := hh9.symm; subst hh9)) <;> try simp only [qN, qC, qE, qG, qD, qA, qF, seval, qQ, qO, qP, mM, hbt]))
    refine (mW N s0 x rr hrow (d := d) (l := e) (r := now) hd (by omega) (by omega) hm).mono ?_
    rintro _ h13 ⟨rfl, s13, fr13, v', cs', x13⟩
    refine qJ ?_; repeat' (first | with_reducible apply qK | ((with_reducible first | apply qI | apply qB | apply qM) <;> try simp only [qN, qC, qE, qG, qD, qA, qF, seval, qQ, qO, qP, mM]))
    exact ⟨s13, fr13, v', cs', x13⟩
def RinI (M : List Nd) (id : List UInt8) (S0 : List Nd × Nat) (fs : List Nat) (h0 hb : GH) (k : Nat) (i : Nat) (S : List Nd × Nat) (h' : GH) : Prop :=
  S = (fs.drop i).reverse.foldl (pM (zM id)) S0 ∧ HS h0 h' ∧ FR 10 k hb h' ∧ S.2 < S.1.length ∧ S.1.length + i ≤ S0.1.length + fs.length ∧ (∃ L, S.1 = M ++ L) ∧ ∃ v cs, AB h0 h' k v cs S.1
theorem zU7 (N : Nat) (s0 : HS h0 h) (x : AB h0 h k v cs M) (ti : TI M) {a b : Option Addr} {ca cb : Nat} {id ky : List UInt8} (ri : RB h (.slice a id.length ca) id) (rk : RB h (.slice b ky.length cb) ky) (hi : id.length ≤ 255) (hk : ky.length ≤ 60000) {si : Nat} (hs : si ≤ 1000000)
    {rt at_ : Int} {fs : List Nat} {nd : Nd} {same : Bool} {S0 : List Nd × Nat} (sp : Spot M id ky si rt fs at_ nd same S0) (hm : M.length + 2 + fs.length ≤ 9000) (hfs : fs.length ≤ 8 * (zM id).length) :
    GTri Tryz.prog N 48 [.pointer (some ⟨k, 0, none⟩), .int .i64 rt, .slice a id.length ca, .slice b ky.length cb, .int .i64 (si : Int)] h fun u h' => u = .tuple #[.int .i64 ((fs.reverse.foldl (pM (zM id)) S0).2 : Int), .int .i64 0] ∧ HS h0 h' ∧ FR 10 k h h' ∧ ∃ v' cs', AB h0 h' k v' cs' (fs.reverse.foldl (pM (zM id)) S0).1 := by
  obtain ⟨ea, sn, sy⟩ := sp.noa
  obtain ⟨⟨L0, eL0⟩, hS2, hS1, hfork⟩ := sp.facts ti hi
  have hkl := yY id
  have d1 : decide ((si : Int) < 0) = false := decide_eq_false (by omega)
  have d2 : decide ((id.length : Int) > 255) = false := decide_eq_false (by omega)
  have d3 : decide ((ky.length : Int) > 65535) = false := decide_eq_false (by omega)
  have wr : IntKind.i64.wrap (16384 - (M.length : Int)) = 16384 - (M.length : Int) := by rw [wrap64 (by omega) (by omega)]
  refine zU Tryz.func48 rfl gf48 ok48 (by simp [Tryz.ntmps48]) ?_
  refine qJ ?_; repeat' (first | with_reducible apply qK | ((with_reducible first | apply qI | apply qB) <;> try simp only [qN, qC, qE, qG, qD, qA, qF, seval, qQ, qO, qP, qL, qX, qZ, zC, xI, xM]))
  refine (zG1 N x sp).mono ?_
  rintro _ h1 ⟨s1, cn, y, rfl, r1⟩
  have l1 := r1.len
  refine qJ ?_; repeat' (first | ((with_reducible apply qI) <;> try simp only [qN, qC, qE, qG, qD, qA, qF, seval, qQ, qO, qP, qL, qX, qZ, zC, xI, xM]))
  refine xQ fun k12 h2 m2 s2 f2 n2 => ?_
  refine qJ ?_; repeat' (first | ((with_reducible apply qI) <;> try simp only [qN, qC, qE, qG, qD, qA, qF, seval, qQ, qO, qP, qL, qX, qZ, zC, xI, xM]))
  refine wT m2 wA rfl (by decide) l1.1 rfl l1.2.1 fun h3 m3 f3 => ?_
  have S3 := s1.trans (s2.upd n2 f3)
  simp only [qN, qC, qE, qG, qD, qA, qF, seval, qQ, qO, qP, xI]
  refine qK ?_
  refine GW.mono (Q := fun x e' h' => x = .normal ∧ HS h3 h' ∧ lk e' 0 = .pointer (some ⟨k, 0, none⟩) ∧ lk e' 1 = .int .i64 rt ∧ lk e' 2 = .slice a id.length ca ∧ lk e' 3 = .slice b ky.length cb ∧ lk e' 4 = .int .i64 (si : Int)) ?_ ?_
  · have hstep : (rt != -1) = !(rt == -1) := rfl
    cases hr : (rt == -1)
    all_goals
      rw [hr] at hstep
      simp only [Bool.not_true, Bool.not_false] at hstep
    · refine qJ ?_; repeat' (first | with_reducible apply qK | ((with_reducible first | apply qI | apply qB | apply qR | apply qS) <;> try simp only [qN, qC, qE, qG, qD, qA, qF, seval, qQ, qO, qP, qL, qX, qZ, zC, xI, xM, hstep, hr, d1, d2, d3, Bool.not_false, Bool.not_true]))
      exact HS.refl _
    · refine qJ ?_; repeat' (first | with_reducible apply qK | ((with_reducible first | apply qI | apply qB | apply qR | apply qS) <;> try simp only [qN, qC, qE, qG, qD, qA, qF, seval, qQ, qO, qP, qL, qX, qZ, zC, xI, xM, hstep, hr, d1, d2, d3, Bool.not_false, Bool.not_true]))
      exact HS.refl _
  rintro _ e' h4 ⟨rfl, s4, q0, q1, q2, q3, q4⟩
  rw [gT]
  refine tM [(0, .pointer (some ⟨k, 0, none⟩)), (1, .int .i64 rt), (2, .slice a id.length ca), (3, .slice b ky.length cb), (4, .int .i64 (si : Int))] (by simp [q0, q1, q2, q3, q4]) ?_
  clear q0 q1 q2 q3 q4
  have S4 := S3.trans s4
  have ho4 := (x.hs S4).obj
  refine qJ ?_; repeat' (first | with_reducible apply qK | ((first | (with_reducible apply qI) | with_reducible refine zE xM xG (by kernel_rfl) ?_) <;> try simp only [qN, qC, qE, qG, qD, qA, qF, seval, qQ, qO, qP, qL, qX, qZ, zC, xI, xM, gNil, qH ho4 zT]))
  refine (c_rNeeds N (x.hs S4) sp hfs (ri.hs S4)).mono ?_
  rintro _ h5 ⟨s5, n, rfl, hn⟩
  have S5 := S4.trans s5
  have x5 := x.hs S5
  have ho5 := x5.obj
  have dn : decide ((n : Int) > 16384 - (M.length : Int)) = false := decide_eq_false (by omega)
  refine qJ ?_; repeat' (first | with_reducible apply qK | ((first | (with_reducible first | apply qI | apply qB | apply qR | apply qS) | ((refine GTri.mono (zQ5 _ x5) ?_); rintro _ _ ⟨rfl, hh9⟩; replace hh9 := hh9.symm; subst hh9)) <;> try simp only [qN, qC, qE, qG, qD, qA, qF, seval, qQ, qO, qP, qL, qX, qZ, zC, xI, xM, gNil, qH ho5 zT, wr, dn]))
  refine (qF7 N h5 (ri.hs S5) rfl).mono ?_
  rintro _ h6 ⟨s6, ar, cr, rfl, rr, _⟩
  have S6 := S5.trans s6
  refine qJ ?_; repeat' (first | with_reducible apply qK | ((with_reducible first | apply qI | apply qB) <;> try simp only [qN, qC, qE, qG, qD, qA, qF, seval, qQ, qO, qP, qL, qX, qZ, zC, xI, xM]))
  refine (zQ0 N (x.hs S6) sp hfs rr).mono ?_
  rintro _ h7 ⟨s7, af, cf, rfl, ow⟩
  have S7 := S6.trans s7
  refine qJ ?_; repeat' (first | with_reducible apply qK | ((with_reducible first | apply qI | apply qB) <;> try simp only [qN, qC, qE, qG, qD, qA, qF, seval, qQ, qO, qP, qL, qX, qZ, zC, xI, xM]))
  refine (zG0 N (x.hs S7) sp).mono ?_
  rintro _ h8 ⟨s8, cn8, rfl, r8⟩
  obtain ⟨a1, c1, a2, c2, a3, c3, a4, c4, rfl, y1, y2, y3, y4⟩ := r8
  refine qJ ?_; repeat' (first | ((with_reducible apply qI) <;> try simp only [qN, qC, qE, qG, qD, qA, qF, seval, qQ, qO, qP, qL, qX, qZ, zC, xI, xM]))
  refine xQ fun k17 h9 m9 s9 f9 n9 => ?_
  refine qJ ?_; repeat' (first | ((with_reducible apply qI) <;> try simp only [qN, qC, qE, qG, qD, qA, qF, seval, qQ, qO, qP, qL, qX, qZ, zC, xI, xM]))
  refine wT m9 wA rfl (by decide) rfl rfl rfl fun h10 m10 f10 => ?_
  simp only [Nd.cs] at m10
  have s810 := s9.upd n9 f10
  have S10 := (S7.trans s8).trans s810
  have x10 := x.hs S10
  have n17h : h k17 = none := (S7.trans s8).none_of n9
  have k17k : k17 ≠ k := fun q => by rw [q, x.obj] at n17h; cases n17h
  refine qJ ?_; repeat' (first | with_reducible apply qK | ((with_reducible first | apply qI | apply qB) <;> try simp only [qN, qC, qE, qG, qD, qA, qF, seval, qQ, qO, qP, qL, qX, qZ, zC, xI, xM]))
  refine (c_rLeaf N (s0.trans S10) x10 (ri.hs S10) (rk.hs S10) hi hk hs (by omega)).mono ?_
  rintro _ h11 ⟨rfl, s11, fr11, v2, cs2, x11⟩
  have m11 := fr11 _ _ m10 (.inr ⟨k17k, by simp⟩)
  have z : ∀ {v l}, RB h8 v l → RB h11 v l := fun r => (r.hs s810).fr fr11
  have z1 := z y1
  have z3 := z y3
  have ri11 := (ri.hs S10).fr fr11
  have rr11 := z ((rr.hs s7).hs s8)
  have ow11 : OWNC 1 h6 h11 (.slice af fs.length cf) fs.length (ivs fs) := ((ow.hs s8).hs s810).fr fr11 x10.obj (by simp) (by decide)
  have cv1 := z1.conv Tryz.underlying22 Tryz.underlying5 Tryz.underlying9
  have cv2 := ri11.conv Tryz.underlying22 Tryz.underlying5 Tryz.underlying9
  simp only [qN, qC, qE, qG, qD, qA, qF, seval, qQ, qO, qP, xI]
  refine qK ?_
  refine GW.mono (Q := fun x e' h' => x = .normal ∧ (lk e' 0 = .pointer (some ⟨k, 0, none⟩) ∧ lk e' 14 = .slice ar (zM id).length cr ∧ lk e' 15 = .slice af fs.length cf ∧ lk e' 19 = .int .i64 (S0.2 : Int)) ∧ HS h0 h' ∧ FR 10 k h11 h' ∧ ∃ v3 cs3, AB h0 h' k v3 cs3 S0.1) ?_ ?_
  · cases sp with
    | no =>
      refine qJ ?_; repeat' (first | with_reducible apply qK | ((with_reducible first | apply qI | apply qB | apply qR | apply qS) <;> try simp only [qN, qC, qE, qG, qD, qA, qF, seval, qQ, qO, qP, qL, qX, qZ, zC, xI, xM, Bool.not_true]))
      exact ⟨s11, FR.of (HS.refl _), v2, cs2, x11⟩
    | @way i e fs nd w =>
      have d : ((e : Int) == -1) = false := by first | (simp; done) | (simp; omega)
      have he := (List.getElem?_eq_some_iff.1 w.end.1).1
      have okn := x.arr.ok.ok e nd w.end.1
      have okd := okn.id
      have hle := lZ (zM id) (uW nd)
      have hkn := yY nd.id
      cases hlf : nd.lf
      case false =>
        rw [hlf] at m11
        have el : rM id ky si M e nd = dC (zM id) (M ++ [yC id ky si]) M.length e nd := by unfold rM; rw [hlf]; rfl
        have ey : uW nd = nd.pf := by unfold uW; rw [hlf]; rfl
        rw [el]
        unfold dC
        rw [ey] at hle ⊢
        refine qJ ?_; repeat' (first | with_reducible apply qK | ((first | (with_reducible first | apply qI | apply qB | apply qR | apply qS) | ((refine GTri.mono (qF8 _ _ rr11 z3 rfl rfl (by omega)) ?_); rintro _ _ ⟨rfl, hh9⟩; replace hh9 := hh9.symm; subst hh9)) <;> try simp only [qN, qC, qE, qG, qD, qA, qF, seval, qQ, qO, qP, qL, qX, qZ, zC, xI, xM, d, qH m11 rU, qH m11 zD, Bool.not_false]))
        refine (zQ4 N s11 x11 rr11 (by omega) (d := wR (zM id) nd.pf) (now := M.length) (e := e) (by omega) (by simp) (by simp; omega) (by simp; omega)).mono ?_
        rintro _ h12 ⟨rfl, s12, fr12, v3, cs3, x12⟩
        refine qJ ?_; repeat' (first | ((with_reducible apply qI) <;> try simp only [qN, qC, qE, qG, qD, qA, qF, seval, qQ, qO, qP, qL, qX, qZ, zC, xI, xM]))
        exact ⟨s12, fr12, v3, cs3, x12⟩
      rw [hlf] at m11
      have ey : uW nd = zM nd.id := by unfold uW; rw [hlf]; rfl
      cases hid : (nd.id == id)
      case true =>
        have el : rM id ky si M e nd = (M ++ [yC id ky si], M.length) := by unfold rM; rw [hlf, hid]; rfl
        rw [el]
        refine qJ ?_; repeat' (first | with_reducible apply qK | ((with_reducible first | apply qI | apply qB | apply qR | apply qS) <;> try simp only [qN, qC, qE, qG, qD, qA, qF, seval, qQ, qO, qP, qL, qX, qZ, zC, xI, xM, d, qH m11 rU, qH m11 zD, cv1, cv2, jO, hid, Bool.not_false]))
        exact ⟨s11, FR.of (HS.refl _), v2, cs2, x11⟩
      have el : rM id ky si M e nd = dC (zM id) (M ++ [yC id ky si]) M.length e nd := by unfold rM; rw [hlf, hid]; rfl
      rw [el]
      unfold dC
      rw [ey] at hle ⊢
      refine qJ ?_; repeat' (first | with_reducible apply qK | ((with_reducible first | apply qI | apply qB | apply qR) <;> try simp only [qN, qC, qE, qG, qD, qA, qF, seval, qQ, qO, qP, qL, qX, qZ, zC, xI, xM, d, qH m11 rU, qH m11 zD, cv1, cv2, jO, hid, Bool.not_false]))
      refine (qF7 N h11 z1 rfl).mono ?_
      rintro _ h12 ⟨s12, ak, ck, rfl, rk12, _⟩
      refine qJ ?_; repeat' (first | ((first | (with_reducible first | apply qI | apply qB) | ((refine GTri.mono (qF8 _ _ (rr11.hs s12) rk12 rfl rfl (by omega)) ?_); rintro _ _ ⟨rfl, hh9⟩; replace hh9 := hh9.symm; subst hh9)) <;> try simp only [qN, qC, qE, qG, qD, qA, qF, seval, qQ, qO, qP, qL, qX, qZ, zC, xI, xM, d, qH m11 rU, qH m11 zD, Bool.not_false]))
      refine (zQ4 N (s11.trans s12) (x11.hs s12) (rr11.hs s12) (by omega) (d := wR (zM id) (zM nd.id)) (now := M.length) (e := e) (by omega) (by simp) (by simp; omega) (by simp; omega)).mono ?_
      rintro _ h13 ⟨rfl, s13, fr13, v3, cs3, x13⟩
      refine qJ ?_; repeat' (first | ((with_reducible apply qI) <;> try simp only [qN, qC, qE, qG, qD, qA, qF, seval, qQ, qO, qP, qL, qX, qZ, zC, xI, xM]))
      exact ⟨s13, (FR.of s12).trans fr13, v3, cs3, x13⟩
  rintro _ e' h12 ⟨rfl, ⟨q0, q14, q15, q19⟩, S12, fr12, v3, cs3, x12⟩
  rw [gT]
  refine tM [(0, .pointer (some ⟨k, 0, none⟩)), (14, .slice ar (zM id).length cr), (15, .slice af fs.length cf), (19, .int .i64 (S0.2 : Int))] (by simp [q0, q14, q15, q19]) ?_
  clear q0 q14 q15 q19
  have w0 : IntKind.i64.wrap ((fs.length : Int) - 1) = (fs.length : Int) - 1 := by rw [wrap64 (by omega) (by omega)]
  refine qJ ?_; repeat' (first | (with_reducible first | apply qK | apply qT) | ((with_reducible first | apply qI | apply qB) <;> try simp only [qN, qC, qE, qG, qD, qA, qF, seval, qQ, qO, qP, qL, qX, qZ, zC, xI, xM, w0]))
  refine xN [0, 10, 11, 14, 15] (fun (s : Nat × (List Nd × Nat)) => [(19, .int .i64 (s.2.2 : Int)), (22, .int .i64 ((s.1 : Int) - 1))])
    (fun q s h' => s.1 = q ∧ s.1 ≤ fs.length ∧ RinI M id S0 fs h0 h12 k s.1 s.2 h') fs.length (fs.length, S0) (by simp [lk]) ⟨rfl, Nat.le_refl _, by simp, S12, FR.of (HS.refl _), hS2, by simp only; omega, ⟨L0, eL0⟩, v3, cs3, x12⟩ ?_
  rintro _ ⟨i, S⟩ h13 ⟨rfl, hil, eS, s13, fr13, hlt, hle, ⟨L, eL⟩, v13, cs13, x13⟩
  simp only at hil eS hlt hle eL x13
  have ow13 : OWNC 1 h6 h13 (.slice af fs.length cf) fs.length (ivs fs) := (ow11.fr fr12 x11.obj (by simp) (by decide)).fr fr13 x12.obj (by simp) (by decide)
  have rr13 := (rr11.fr fr12).fr fr13
  by_cases hi0 : i = 0
  · subst hi0
    have dd : decide ((((0 : Nat) : Int) - 1) ≥ 0) = false := decide_eq_false (by omega)
    refine qJ ?_; repeat' (first | with_reducible apply qK | ((with_reducible first | apply qI | apply qB | apply qR | apply xO | apply qM) <;> try simp only [qN, qC, qE, qG, qD, qA, qF, seval, qQ, qO, qP, qL, qX, qZ, zC, xI, xM, dd]))
    rw [List.drop_zero] at eS
    subst eS
    have frh : FR 10 k h h11 := (FR.of S10).trans fr11
    exact ⟨rfl, s13, (frh.trans fr12).trans fr13, v13, cs13, x13⟩
  obtain ⟨j, rfl⟩ : ∃ j, i = j + 1 := ⟨i - 1, by omega⟩
  have ej : (((j + 1 : Nat) : Int) - 1) = (j : Int) := by omega
  have dd : decide ((j : Int) ≥ 0) = true := decide_eq_true (by omega)
  have wj : IntKind.i64.wrap ((j : Int) - 1) = (j : Int) - 1 := by rw [wrap64 (by omega) (by omega)]
  obtain ⟨p, hp⟩ := jU (show j < fs.length by omega)
  obtain ⟨y, hy, hst⟩ := hfork j p hp
  have hpM := (List.getElem?_eq_some_iff.1 hy).1
  have fi := ti.fork p y hy (yG hst).1
  have fil := fi.l
  have fir := fi.r
  have oky := x.arr.ok.ok p y hy
  have hpf := oky.pf
  have oyd := oky.dp
  have hdp : y.dp ≤ 8 * y.pf.length := by
    obtain ⟨jd, e1, e2⟩ := fi.pf
    rw [e1, wJ]; omega
  have hML : M.length ≤ S.1.length := by rw [eL]; simp
  have hyS : S.1[p]? = some y := by rw [eL, List.getElem?_append_left hpM]; exact hy
  have enp : uR S.1 p = y := vX hyS
  obtain ⟨ad, g1, l4⟩ : ∃ ad, zI Tryz.prog 127 (.slice af fs.length cf) (j : Int) = some (.pointer (some ad)) ∧ vD Tryz.prog 3 h13 (.pointer (some ad)) = some (.int .i64 (p : Int)) := by
    rcases ow13 with ⟨_, q, _⟩ | ⟨_, _, q, _⟩ | ⟨kf, c', q, z2, z3, z4, z5, z6, z7⟩
    · omega
    · omega
    · cases q
      refine ⟨_, kZ Tryz.underlying127 zT (by omega), ?_⟩
      rw [qH z6 zT, Nat.mul_one]
      simp only [ivs, List.getElem?_map, hp, Option.map_some]
  simp only [ej]
  refine qJ ?_; repeat' (first | (with_reducible first | apply qK | apply qT) | ((with_reducible first | apply qI | apply qB | apply qR | apply qS) <;> try simp only [qN, qC, qE, qG, qD, qA, qF, seval, qQ, qO, qP, qL, qX, qZ, zC, xI, xM, dd, g1, l4]))
  refine (qJ6 N x13 hyS).mono ?_
  rintro _ h14 ⟨s14, cn14, rfl, r14⟩
  obtain ⟨b1, e1, b2, e2, b3, e3, b4, e4, rfl, u1, u2, u3, u4⟩ := r14
  refine qJ ?_; repeat' (first | ((with_reducible apply qI) <;> try simp only [qN, qC, qE, qG, qD, qA, qF, seval, qQ, qO, qP, qL, qX, qZ, zC, xI, xM]))
  refine xQ fun k23 h15 m15 s15 f15 n15 => ?_
  refine qJ ?_; repeat' (first | ((with_reducible apply qI) <;> try simp only [qN, qC, qE, qG, qD, qA, qF, seval, qQ, qO, qP, qL, qX, qZ, zC, xI, xM]))
  refine wT m15 wA rfl (by decide) rfl rfl rfl fun h16 m16 f16 => ?_
  simp only [Nd.cs] at m16
  have s1416 := s15.upd n15 f16
  have S16 := s14.trans s1416
  have x16 := x13.hs S16
  have rr16 := rr13.hs S16
  have v3b := u3.hs s1416
  cases hbt : (zZ (zM id) y.dp == 1)
  · have hbq : (zZ (zM id) y.dp = 1) = False := by simpa using hbt
    refine qJ ?_; repeat' (first | with_reducible apply qK | ((first | (with_reducible first | apply qI | apply qB | apply qR) | ((refine GTri.mono (kV _ _ rr16 y.dp (by omega)) ?_); rintro _ _ ⟨rfl, hh9⟩; replace hh9 := hh9.symm; subst hh9)) <;> try simp only [qN, qC, qE, qG, qD, qA, qF, seval, qQ, qO, qP, qL, qX, qZ, zC, xI, xM, hbt, qH m16 zT, qH m16 zD]))
    refine (mW N (s13.trans S16) x16 v3b hpf (d := y.dp) (l := S.2) (r := y.r) hdp (by omega) (by omega) (by omega)).mono ?_
    rintro _ h22 ⟨rfl, s22, fr22, v22, cs22, x22⟩
    have eu : pM (zM id) S p = (S.1 ++ [vM S.1 y.dp y.pf S.2 y.r], S.1.length) := by
      unfold pM
      rw [enp]
      simp only [hbq, if_true, if_false]
    refine qJ ?_; repeat' (first | ((with_reducible first | apply qI | apply qB) <;> try simp only [qN, qC, qE, qG, qD, qA, qF, seval, qQ, qO, qP, qL, qX, qZ, zC, xI, xM, wj]))
    refine ⟨_, (j, pM (zM id) S p), by simp only; omega, ?_, rfl, by simp only; omega, by rw [eS]; exact (pA (M := M) hp).symm, s22, fr13.trans ((FR.of S16).trans fr22), by rw [eu]; simp, by rw [eu]; simp; omega, ⟨L ++ [vM S.1 y.dp y.pf S.2 y.r], by rw [eu, eL, List.append_assoc]⟩, v22, cs22, by rw [eu]; exact x22⟩
    rw [eu]
    exact (by simp only [List.forall_mem_cons, List.not_mem_nil, false_implies, implies_true, List.map, List.cons_append, List.nil_append, lk, Nat.reduceEqDiff, reduceIte, and_true, true_and])
  · have hbq : (zZ (zM id) y.dp = 1) = True := by simpa using hbt
    refine qJ ?_; repeat' (first | with_reducible apply qK | ((first | (with_reducible first | apply qI | apply qB | apply qR) | ((refine GTri.mono (kV _ _ rr16 y.dp (by omega)) ?_); rintro _ _ ⟨rfl, hh9⟩; replace hh9 := hh9.symm; subst hh9)) <;> try simp only [qN, qC, qE, qG, qD, qA, qF, seval, qQ, qO, qP, qL, qX, qZ, zC, xI, xM, hbt, qH m16 zT, qH m16 zD]))
    refine (mW N (s13.trans S16) x16 v3b hpf (d := y.dp) (l := y.l) (r := S.2) hdp (by omega) (by omega) (by omega)).mono ?_
    rintro _ h22 ⟨rfl, s22, fr22, v22, cs22, x22⟩
    have eu : pM (zM id) S p = (S.1 ++ [vM S.1 y.dp y.pf y.l S.2], S.1.length) := by
      unfold pM
      rw [enp]
      simp only [hbq, if_true, if_false]
    refine qJ ?_; repeat' (first | ((with_reducible first | apply qI | apply qB) <;> try simp only [qN, qC, qE, qG, qD, qA, qF, seval, qQ, qO, qP, qL, qX, qZ, zC, xI, xM, wj]))
    refine ⟨_, (j, pM (zM id) S p), by simp only; omega, ?_, rfl, by simp only; omega, by rw [eS]; exact (pA (M := M) hp).symm, s22, fr13.trans ((FR.of S16).trans fr22), by rw [eu]; simp, by rw [eu]; simp; omega, ⟨L ++ [vM S.1 y.dp y.pf y.l S.2], by rw [eu, eL, List.append_assoc]⟩, v22, cs22, by rw [eu]; exact x22⟩
    rw [eu]
    exact (by simp only [List.forall_mem_cons, List.not_mem_nil, false_implies, implies_true, List.map, List.cons_append, List.nil_append, lk, Nat.reduceEqDiff, reduceIte, and_true, true_and])
end
abbrev Pt : Type := (List UInt8 × List UInt8) × Int
def RPut (h : GH) (cs : List Value) (x : Pt) : Prop := ∃ a c b d, cs = [.slice a x.1.1.length c, .slice b x.1.2.length d, .int .i64 x.2] ∧ RB h (.slice a x.1.1.length c) x.1.1 ∧ RB h (.slice b x.1.2.length d) x.1.2
theorem RPut.hs {h h' : GH} (s : HS h h') {cs : List Value} {x : Pt} (r : RPut h cs x) : RPut h' cs x := by
  obtain ⟨a, c, b, d, e, r1, r2⟩ := r
  exact ⟨a, c, b, d, e, r1.hs s, r2.hs s⟩
def zA7 (z : Int) : Nat := (IntKind.u64.wrap z % 256).toNat
theorem siOf_lt (z : Int) : zA7 z < 256 := by unfold zA7; omega
theorem siOf_eq (z : Int) : IntKind.i64.wrap (Int.tmod (IntKind.u64.wrap z) 256) = (zA7 z : Int) := by
  have h0 : 0 ≤ IntKind.u64.wrap z ∧ IntKind.u64.wrap z < 18446744073709551616 := by
    simp [IntKind.wrap, IntKind.signed, IntKind.bits]
    omega
  have e1 : Int.tmod (IntKind.u64.wrap z) 256 = IntKind.u64.wrap z % 256 := Int.tmod_eq_emod_of_nonneg h0.1
  rw [e1]
  unfold zA7
  generalize IntKind.u64.wrap z = w at *
  rw [wrap64 (by omega) (by omega)]
  omega
theorem AB.weak {a h0 h : GH} {k : Nat} {v : Value} {cs : List Value} {M : List Nd} (s : HS a h0) (x : AB h0 h k v cs M) : AB a h k v cs M := ⟨x.obj, s.none_of x.nk, ⟨x.arr.own.weak s, x.arr.u8, x.arr.nd, x.arr.ok⟩⟩
theorem gret_4 {P : Program} {e : Env} {h : GH} {Q : Value → GH → Prop} (t u v w : Nat) : uO P e h [.tmp t, .tmp u, .tmp v, .tmp w] Q = Q (.tuple #[lk e t, lk e u, lk e v, lk e w]) h := by simp [uO, kO, qL8]
def RtOk (M : List Nd) (rt : Int) : Prop := (rt = -1 ∧ M = []) ∨ ∃ r : Nat, rt = (r : Int) ∧ r < M.length
def KB (M : List Nd) : Prop := ∀ y ∈ M, y.ky.length ≤ 48
theorem KB.push {M : List Nd} (h : KB M) {x : Nd} (hx : x.ky.length ≤ 48) : KB (M ++ [x]) := fun y hy => by
  rcases List.mem_append.1 hy with hy | hy
  · exact h y hy
  · rw [List.mem_singleton] at hy
    rw [hy]; exact hx
theorem ups_kb (row : List UInt8) : ∀ (rs : List Nat) (S : List Nd × Nat), KB S.1 → KB (rs.foldl (pM row) S).1
  | [], S, h => h
  | p :: rs, S, h => ups_kb row rs (pM row S p) (KB.push h (Nat.zero_le _))
theorem Spot.kb {M : List Nd} {id ky : List UInt8} {si : Nat} {rt at_ : Int} {fs : List Nat} {nd : Nd} {same : Bool} {S0 : List Nd × Nat} (sp : Spot M id ky si rt fs at_ nd same S0) (h : KB M) (hk : ky.length ≤ 48) : KB S0.1 := by
  cases sp with
  | no => exact h.push hk
  | @way i e fs nd w =>
    unfold rM
    split
    · exact h.push hk
    · exact (h.push hk).push (Nat.zero_le _)
def TreeP (l : List Pt) (h h' : GH) (u : Value) : Prop := HS h h' ∧ ∃ k kq M rt v cs v2 cs2, u = .tuple #[.pointer (some ⟨k, 0, none⟩), .pointer (some ⟨kq, 0, none⟩), .int .i64 rt, .bool true] ∧ k ≠ kq ∧ AA h h' k v cs M ∧ AB h h' kq v2 cs2 M ∧ TI M ∧ RtOk M rt ∧ (∀ x, l = [x] → M = [yC (x.1.1.take 24) (x.1.2.take 48) (zA7 x.2)] ∧ rt = 0) ∧ KB M
theorem spot_ex {M : List Nd} (ti : TI M) (id ky : List UInt8) (si : Nat) {rt : Int} (ro : RtOk M rt) (hid : id.length ≤ 255) : ∃ fs at_ nd same S0, Spot M id ky si rt fs at_ nd same S0 ∧ fs.length ≤ 8 * (zM id).length ∧
    TI (fs.reverse.foldl (pM (zM id)) S0).1 ∧ (fs.reverse.foldl (pM (zM id)) S0).2 < (fs.reverse.foldl (pM (zM id)) S0).1.length ∧ (fs.reverse.foldl (pM (zM id)) S0).1.length ≤ M.length + 2 + fs.length ∧ (rt = -1 → fs.reverse.foldl (pM (zM id)) S0 = (M ++ [yC id ky si], M.length)) := by
  rcases ro with ⟨rfl, rfl⟩ | ⟨r, rfl, hr⟩
  · refine ⟨[], _, _, _, _, .no, by simp, ?_, by simp, by simp, fun _ => rfl⟩
    exact TI.nil.push (fun q => by simp [yC] at q) (fun _ => hid)
  · obtain ⟨fs, e, x, w, hf⟩ := way_of ti id hr
    obtain ⟨a, b, c⟩ := ins_ok ti hid (ky := ky) (si := si) w
    exact ⟨fs, _, _, _, _, .way w, hf, a, b, c, fun q => by omega⟩
theorem uI : type_of% (And.intro lP (And.intro qN0 (And.intro zG (And.intro ty52 (And.intro zM8 (And.intro yB (And.intro jC (And.intro xB (And.intro mZ (And.intro jP (And.intro rV (And.intro wH (And.intro zR6 rs21))))))))))))) := And.intro lP (And.intro qN0 (And.intro zG (And.intro ty52 (And.intro zM8 (And.intro yB (And.intro jC (And.intro xB (And.intro mZ (And.intro jP (And.intro rV (And.intro wH (And.intro zR6 rs21))))))))))))
def uF : Nat → List (Nat × List Nat) × List Nat
  | 10 => ([(0, []), (1, []), (2, []), (3, []), (4, []), (5, []), (6, []), (7, []), (8, []), (9, []), (10, []), (11, []), (12, []), (13, []), (14, []), (15, []), (16, []), (17, []), (18, []), (19, []), (20, []), (21, [])], [0, 1, 0, 4, 12, 28, 63, 0, 128, 0, 512, 1536, 3584, 8064, 0, 16384, 49152, 114688, 245760, 127, 540671, 2097151])
  | _ => ([], [])
theorem c_tree18 (N : Nat) {h : GH} (t : TK h) {a : Option Addr} {c : Nat} {l : List Pt} (r : RL 3 RPut h (.slice a l.length c) l) (hl : l.length ≤ 1000000000) (hp : ∀ x ∈ l, x.1.1.length ≤ 1000000000 ∧ x.1.2.length ≤ 1000000000) :
    GTri Tryz.prog N 21 [.slice a l.length c] h fun u h' => TreeP l h h' u := by
  refine zU Tryz.func21 rfl gf21 ok21 (by simp [Tryz.ntmps21]) ?_
  refine qJ ?_; repeat' (first | with_reducible apply qK | ((with_reducible first | apply qI | apply qB) <;> try simp only [qN, qC, qE, qG, qD, qA, qF, seval, qQ, qO, qP, qL, qX, qZ, zC, uI, uF]))
  refine (c_New N h).mono ?_
  rintro _ h1 ⟨s1, k, rfl, x1⟩
  refine qJ ?_; repeat' (first | with_reducible apply qK | ((with_reducible first | apply qI | apply qB) <;> try simp only [qN, qC, qE, qG, qD, qA, qF, seval, qQ, qO, qP, qL, qX, qZ, zC, uI, uF]))
  refine (c_rNew N h1).mono ?_
  rintro _ h2 ⟨s2, kq, rfl, y2⟩
  have x2 := x1.hs s2
  have y2' := y2.weak s1
  have kkq : k ≠ kq := yX x1.obj y2.nk
  have S2 := s1.trans s2
  refine qJ ?_; repeat' (first | (with_reducible first | apply qK | apply qT) | ((with_reducible first | apply qI | apply qB | apply qR | apply qS) <;> try simp only [qN, qC, qE, qG, qD, qA, qF, seval, qQ, qO, qP, qL, qX, qZ, zC, uI, uF, Option.isNone_some]))
  refine xN [2, 3, 4, 5, 6, 8, 35, 36] (fun (s : Nat × Int) => [(10, .int .i64 s.2), (11, .bool true), (37, .int .i64 (s.1 : Int))])
    (fun q s h' => l.length - s.1 = q ∧ s.1 ≤ l.length ∧ HS h h' ∧ ∃ M v cs v2 cs2, AA h h' k v cs M ∧ AB h h' kq v2 cs2 M ∧ TI M ∧ RtOk M s.2 ∧ M.length ≤ 202 * min s.1 20 ∧ (s.1 = 0 → s.2 = -1) ∧ (s.1 = 1 → ∀ x, l[0]? = some x → M = [yC (x.1.1.take 24) (x.1.2.take 48) (zA7 x.2)] ∧ s.2 = 0) ∧ KB M) l.length (0, -1) (by simp [lk]) ⟨rfl, Nat.zero_le _, S2, [], _, _, _, _, x2, y2', TI.nil, .inl ⟨rfl, rfl⟩, by simp, fun _ => rfl, fun q => by simp at q, fun y hy => by simp at hy⟩ ?_
  rintro _ ⟨i, rt⟩ h3 ⟨rfl, hil, s3, M, v, cs, v2, cs2, x3, y3, ti, ro, hM, z0, z1, kb⟩
  simp only at hil ro hM z0 z1
  by_cases hi : i < l.length
  case neg =>
    obtain rfl : i = l.length := by omega
    have d3 : decide ((l.length : Int) < (l.length : Int)) = false := decide_eq_false (by omega)
    refine qJ ?_; repeat' (first | with_reducible apply qK | ((with_reducible first | apply qI | apply qB | apply qR | apply xO | apply qM) <;> try simp only [qN, qC, qE, qG, qD, qA, qF, seval, qQ, qO, qP, qL, qX, qZ, zC, uI, uF, d3]))
    rw [gret_4]
    simp only [qN, qC, qE, qG, qD, qA, qF, seval, qQ, qO, qP, uI]
    refine ⟨s3, k, kq, M, rt, v, cs, v2, cs2, rfl, kkq, x3, y3, ti, ro, fun x hx => z1 (by rw [hx]; rfl) x (by rw [hx]; rfl), kb⟩
  have d3 : decide ((i : Int) < (l.length : Int)) = true := decide_eq_true (by omega)
  have wi : IntKind.i64.wrap ((i : Int) + 1) = ((i + 1 : Nat) : Int) := by rw [wrap64 (by omega) (by omega)]; omega
  obtain ⟨x, hx⟩ := jU hi
  obtain ⟨hx1, hx2⟩ := hp x (List.mem_of_getElem? hx)
  have r3 := RL.hcR (R := RPut) r s3.hc fun _ _ q => q.hs s3
  obtain ⟨ad, cs5, g1, g2, a5, c5, b5, d5, rfl, p1, p2⟩ := RL.at (P := Tryz.prog) r3 Tryz.underlying52 zN1 hx
  refine qJ ?_; repeat' (first | (with_reducible first | apply qK | apply qT) | ((with_reducible first | apply qI | apply qB | apply qR | apply qS) <;> try simp only [qN, qC, qE, qG, qD, qA, qF, seval, qQ, qO, qP, qL, qX, qZ, zC, uI, uF, d3, g1, jN zN1 g2]))
  refine xQ fun k13 h4 m4 s4 f4 n4 => ?_
  refine qJ ?_; repeat' (first | ((with_reducible apply qI) <;> try simp only [qN, qC, qE, qG, qD, qA, qF, seval, qQ, qO, qP, qL, qX, qZ, zC, uI, uF]))
  refine vF m4 zN1 rfl (by decide) rfl rfl rfl fun h5 m5 f5 => ?_
  simp only [vcells] at m5
  have s35 := s4.upd n4 f5
  by_cases h20 : i < 20
  case neg =>
    have d4 : decide ((i : Int) < 20) = false := decide_eq_false (by omega)
    refine qJ ?_; repeat' (first | with_reducible apply qK | ((with_reducible first | apply qI | apply qB | apply qR | apply qS) <;> try simp only [qN, qC, qE, qG, qD, qA, qF, seval, qQ, qO, qP, qL, qX, qZ, zC, uI, uF, d4, wi]))
    exact ⟨_, (i + 1, rt), by simp only; omega, (by simp only [List.forall_mem_cons, List.not_mem_nil, false_implies, implies_true, List.map, List.cons_append, List.nil_append, lk, Nat.reduceEqDiff, reduceIte, and_true, true_and]), rfl, by simp only; omega, s3.trans s35, M, v, cs, v2, cs2, x3.hs s35, y3.hs s35, ti, ro, by simp only; omega, fun q => by simp at q, fun q => by simp only at q; omega, kb⟩
  have d4 : decide ((i : Int) < 20) = true := decide_eq_true (by omega)
  have mn1 : (if (24 : Int) < (x.1.1.length : Int) then (24 : Int) else (x.1.1.length : Int)) = ((min x.1.1.length 24 : Nat) : Int) := by split <;> omega
  have mn2 : (if (48 : Int) < (x.1.2.length : Int) then (48 : Int) else (x.1.2.length : Int)) = ((min x.1.2.length 48 : Nat) : Int) := by split <;> omega
  obtain ⟨a6, c6, e6, r6, _⟩ := RB.cut (P := Tryz.prog) (p1.hs s35) Tryz.underlying22 sN (hi := ((min x.1.1.length 24 : Nat) : Int)) (by omega) (by omega) .i64
  obtain ⟨a7, c7, e7, r7, _⟩ := RB.cut (P := Tryz.prog) (p2.hs s35) Tryz.underlying22 sN (hi := ((min x.1.2.length 48 : Nat) : Int)) (by omega) (by omega) .i64
  rw [Int.toNat_natCast] at e6 e7 r6 r7
  have et1 : x.1.1.take (min x.1.1.length 24) = x.1.1.take 24 := by rw [List.take_eq_take_iff]; omega
  have et2 : x.1.2.take (min x.1.2.length 48) = x.1.2.take 48 := by rw [List.take_eq_take_iff]; omega
  have el1 : min x.1.1.length 24 = (x.1.1.take 24).length := by simp; omega
  have el2 : min x.1.2.length 48 = (x.1.2.take 48).length := by simp; omega
  rw [et1] at r6
  rw [et2] at r7
  refine qJ ?_; repeat' (first | with_reducible apply qK | ((first | (with_reducible first | apply qI | apply qB | apply qR) | with_reducible refine zE uF xG (by kernel_rfl) ?_) <;> try simp only [qN, qC, qE, qG, qD, qA, qF, seval, qQ, qO, qP, qL, qX, qZ, zC, uI, uF, d4, qH m5 zD, qH m5 zT, mn1, mn2, e6, e7, lP, qN0, siOf_eq]))
  obtain ⟨fs, at_, nd, same, S0, sp, hfs, ti', hlt, hle, hno⟩ := spot_ex ti (x.1.1.take 24) (x.1.2.take 48) (zA7 x.2) ro (by simp; omega)
  have hgk := yY (x.1.1.take 24)
  have hlt24 : (x.1.1.take 24).length ≤ 24 := by simp; omega
  have hlt48 : (x.1.2.take 48).length ≤ 48 := by simp; omega
  have hsi := siOf_lt x.2
  have hfs2 : fs.length ≤ 200 := by omega
  have S5 := s3.trans s35
  rw [el1] at r6
  rw [el2] at r7
  rw [el1, el2]
  have x5 := x3.hs s35
  have y5 := y3.hs s35
  refine (c_Insert N S5 t x5 ti r6 r7 (by omega) (by omega) (by omega) sp (by omega) (by omega)).mono ?_
  rintro _ h6 ⟨rfl, s6, fr6, v6, cs6, x6⟩
  have y6 := y5.fr fr6 x5.obj rfl kkq.symm (by decide) (by decide)
  refine qJ ?_; repeat' (first | with_reducible apply qK | ((with_reducible first | apply qI | apply qB) <;> try simp only [qN, qC, qE, qG, qD, qA, qF, seval, qQ, qO, qP, qL, qX, qZ, zC, uI, uF]))
  refine (zU7 N s6 y6 ti (r6.fr fr6) (r7.fr fr6) (by omega) (by omega) (by omega) sp (by omega) hfs).mono ?_
  rintro _ h7 ⟨rfl, s7, fr7, v7, cs7, y7⟩
  have x7 := x6.fr fr7 y6.obj rfl kkq (by decide) (by decide)
  generalize hS : fs.reverse.foldl (pM (zM (x.1.1.take 24))) S0 = S at *
  have bs : ((S.2 : Int) == (S.2 : Int)) = true := by simp
  refine qJ ?_; repeat' (first | with_reducible apply qK | ((with_reducible first | apply qI | apply qB) <;> try simp only [qN, qC, qE, qG, qD, qA, qF, seval, qQ, qO, qP, qL, qX, qZ, zC, uI, uF, wi, bs]))
  refine ⟨_, (i + 1, (S.2 : Int)), by simp only; omega, (by simp only [List.forall_mem_cons, List.not_mem_nil, false_implies, implies_true, List.map, List.cons_append, List.nil_append, lk, Nat.reduceEqDiff, reduceIte, and_true, true_and]), rfl, by simp only; omega, s7, S.1, v6, cs6, v7, cs7, x7, y7, ti', .inr ⟨S.2, rfl, hlt⟩, by simp only; omega, fun q => by simp at q, fun q x' hx' => ?_, hS ▸ ups_kb _ _ _ (sp.kb kb hlt48)⟩
  simp only at q
  obtain rfl : i = 0 := by omega
  rw [hx] at hx'
  cases hx'
  have hrt := z0 rfl
  have hM0 : M = [] := by
    rcases ro with ⟨_, q⟩ | ⟨r, q, _⟩
    · exact q
    · rw [hrt] at q; omega
  have := hno hrt
  rw [this, hM0]
  exact ⟨rfl, rfl⟩
structure Pn (K : Type) where
  (kd si dp nw : Int)
  (id ky pf lf rt : List UInt8)
  (kids : List K)
def Pn.cs {K : Type} (p : Pn K) (i k x l r s : Value) : List Value := [.int .i64 p.kd, i, k, .int .i64 p.si, .int .i64 p.dp, x, .int .i64 p.nw, l, r, s]
def RPn {K : Type} (R : GH → List Value → K → Prop) (h : GH) (cs : List Value) (p : Pn K) : Prop :=
  ∃ a1 c1 a2 c2 a3 c3 a4 c4 a5 c5 a6 c6, cs = p.cs (.slice a1 p.id.length c1) (.slice a2 p.ky.length c2) (.slice a3 p.pf.length c3) (.slice a4 p.lf.length c4) (.slice a5 p.rt.length c5) (.slice a6 p.kids.length c6) ∧
    RB h (.slice a1 p.id.length c1) p.id ∧ RB h (.slice a2 p.ky.length c2) p.ky ∧ RB h (.slice a3 p.pf.length c3) p.pf ∧ RB h (.slice a4 p.lf.length c4) p.lf ∧ RB h (.slice a5 p.rt.length c5) p.rt ∧ RL 10 R h (.slice a6 p.kids.length c6) p.kids
theorem RL.hs {α : Type} {es : Nat} {R : GH → List Value → α → Prop} {h h' : GH} {v : Value} {l : List α} (s : HS h h') (f : ∀ cs x, R h cs x → R h' cs x) (r : RL es R h v l) : RL es R h' v l := RL.hcR (R := R) r s.hc f
theorem RPn.hs {K : Type} {R : GH → List Value → K → Prop} {h h' : GH} (s : HS h h') (f : ∀ cs x, R h cs x → R h' cs x) {cs : List Value} {p : Pn K} (r : RPn R h cs p) : RPn R h' cs p := by
  obtain ⟨a1, c1, a2, c2, a3, c3, a4, c4, a5, c5, a6, c6, rfl, r1, r2, r3, r4, r5, r6⟩ := r
  exact ⟨a1, c1, a2, c2, a3, c3, a4, c4, a5, c5, a6, c6, rfl, r1.hs s, r2.hs s, r3.hs s, r4.hs s, r5.hs s, RL.hs s f r6⟩
theorem RPn.len {K : Type} {R : GH → List Value → K → Prop} {h : GH} {cs : List Value} {p : Pn K} (r : RPn R h cs p) : cs.length = 10 ∧ cs.all zP = true ∧ cs.all yP = true := by
  obtain ⟨a1, c1, a2, c2, a3, c3, a4, c4, a5, c5, a6, c6, rfl, _⟩ := r
  exact ⟨rfl, rfl, rfl⟩
def Pd : Nat → Type
  | 0 => Empty
  | n + 1 => Pn (Pd n)
def RPd : (n : Nat) → GH → List Value → Pd n → Prop
  | 0, _, _, _ => False
  | n + 1, h, cs, p => RPn (RPd n) h cs p
theorem RPd.hs {h h' : GH} (s : HS h h') : ∀ (n : Nat) {cs : List Value} {p : Pd n}, RPd n h cs p → RPd n h' cs p
  | 0, _, _, r => r
  | n + 1, _, _, r => RPn.hs s (fun _ _ q => RPd.hs s n q) r
theorem RPd.cells : ∀ {n : Nat} {h : GH} {cs : List Value} {p : Pd n}, RPd n h cs p → cs.all zP = true ∧ cs.length = 10
  | 0, _, _, _, r => r.elim
  | n + 1, _, _, _, r => by
    obtain ⟨_, _, _, _, _, _, _, _, _, _, _, _, rfl, _⟩ := r
    exact ⟨rfl, rfl⟩
def zF0 (n : Int) : Bool := decide (n ≥ 0) && decide (n < 256)
section
variable {K : Type}
def Pn.noLeaf (p : Pn K) : Bool := ((p.id.length : Int) == 0) && ((p.ky.length : Int) == 0) && (p.si == 0)
def Pn.noFork (p : Pn K) : Bool := (p.dp == 0) && ((p.pf.length : Int) == 0) && (p.nw == 0) && ((p.lf.length : Int) == 0) && ((p.rt.length : Int) == 0) && ((p.kids.length : Int) == 0)
def Pn.blank (p : Pn K) (leaf fork : Bool) : Bool := (leaf || p.noLeaf) && (fork || p.noFork)
def Pn.frk (p : Pn K) : Bool := p.blank false true && zF0 p.nw && decide (p.dp ≥ 0) && decide (p.dp ≤ 2048) && ((p.pf.length : Int) == Int.tdiv (p.dp + 7) 8) && (zF p.pf p.dp.toNat == p.pf)
def Pn.hsh (p : Pn K) (n : Int) : Bool := ((p.lf.length : Int) == n) && ((p.rt.length : Int) == n)
def Pn.right (size : Int) (p : Pn K) : Bool :=
  if p.kd = 0 then p.blank false false
  else if p.kd = 1 then p.blank true false && zF0 p.si && decide ((p.id.length : Int) ≤ 255) && decide ((p.ky.length : Int) ≤ 48)
  else if p.kd = 2 then p.frk && p.hsh size && ((p.kids.length : Int) == 0)
  else if p.kd = 3 then p.frk && p.hsh 0 && ((p.kids.length : Int) == 2)
  else false
def Pn.bits (p : Pn K) : List UInt8 := if p.kd = 1 then zM p.id else p.pf
def yW (p : Pn K) : List UInt8 :=
  if p.kd = 1 then kN p.id p.ky p.si.toNat else if p.kd = 2 then vE p.dp.toNat p.pf p.nw.toNat p.lf p.rt else emptyB
end
theorem yU : type_of% (And.intro zG (And.intro wZ (And.intro wY (And.intro xB (And.intro wH rs145))))) := And.intro zG (And.intro wZ (And.intro wY (And.intro xB (And.intro wH rs145))))
theorem qE6 : type_of% (And.intro zG (And.intro wZ (And.intro wY (And.intro xB (And.intro wH rs143))))) := And.intro zG (And.intro wZ (And.intro wY (And.intro xB (And.intro wH rs143))))
theorem gN : type_of% (And.intro zG (And.intro wZ (And.intro wY (And.intro xB (And.intro uT (And.intro wH rs144)))))) := And.intro zG (And.intro wZ (And.intro wY (And.intro xB (And.intro uT (And.intro wH rs144)))))
def kA : Nat → List (Nat × List Nat) × List Nat
  | 1 => ([(0, []), (1, []), (2, []), (3, []), (4, []), (5, []), (6, []), (7, []), (8, []), (9, []), (10, []), (11, []), (12, []), (13, []), (14, []), (15, []), (16, []), (17, []), (18, []), (19, []), (20, []), (21, []), (22, []), (23, []), (24, []), (25, []), (26, []), (27, []), (28, []), (29, []), (30, []), (31, []), (33, []), (34, []), (32, [34]), (35, []), (36, []), (37, [])], [0, 1, 3, 7, 15, 31, 63, 127, 255, 511, 1023, 2047, 4095, 8191, 16383, 32767, 65535, 131071, 262143, 524287, 1048575, 262143, 2359295, 6553599, 14942207, 33554431, 67108863, 134217727, 268435455, 536870911, 268435455, 1342177279, 4294967295, 268435455, 8858370047, 34359738367, 68719476735, 137438953471])
  | _ => ([], [])
theorem wX : type_of% (And.intro zG (And.intro wZ (And.intro wY (And.intro xB (And.intro uT (And.intro wH rs108)))))) := And.intro zG (And.intro wZ (And.intro wY (And.intro xB (And.intro uT (And.intro wH rs108)))))
theorem sF : type_of% (And.intro zG (And.intro wZ (And.intro wY (And.intro xB (And.intro wH rs109))))) := And.intro zG (And.intro wZ (And.intro wY (And.intro xB (And.intro wH rs109))))
theorem kF (N : Nat) (h : GH) (n : Int) : GTri Tryz.prog N 63 [.int .i64 n] h fun v h' => v = .bool (zF0 n) ∧ h' = h := by
  unfold zF0
  refine zU Tryz.func63 rfl gf63 ok63 (by simp [Tryz.ntmps63]) ?_
  cases z0 : (decide (n ≥ 0))
  case false =>
    refine qJ ?_; repeat' (first | with_reducible apply qK | ((with_reducible first | apply qI | apply qB | apply qM) <;> try simp only [qN, qC, qE, qG, qD, qA, qF, seval, qQ, qO, qP, xB, rs63, z0, gPick]))
    all_goals simp only [Bool.false_and]
  cases z1 : (decide (n < 256))
  case false =>
    refine qJ ?_; repeat' (first | with_reducible apply qK | ((with_reducible first | apply qI | apply qB | apply qM) <;> try simp only [qN, qC, qE, qG, qD, qA, qF, seval, qQ, qO, qP, xB, rs63, z0, z1, gPick]))
    all_goals simp only [Bool.false_and]
  refine qJ ?_; repeat' (first | with_reducible apply qK | ((with_reducible first | apply qI | apply qB | apply qM) <;> try simp only [qN, qC, qE, qG, qD, qA, qF, seval, qQ, qO, qP, xB, rs63, z0, z1, gPick]))
section
variable {K : Type} {R : GH → List Value → K → Prop}
theorem qZ0 (N : Nat) {h : GH} {cs : List Value} {p : Pn K} (r : RPn R h cs p) (lf fk : Bool) : GTri Tryz.prog N 145 [.agg cs.toArray, .bool lf, .bool fk] h fun v h' => v = .bool (p.blank lf fk) ∧ HS h h' := by
  obtain ⟨a1, c1, a2, c2, a3, c3, a4, c4, a5, c5, a6, c6, rfl, r1, r2, r3, r4, r5, r6⟩ := r
  refine zU Tryz.func145 rfl gf145 ok145 (by simp [Tryz.ntmps145]) ?_
  repeat' (first | with_reducible apply qK | ((with_reducible apply qB) <;> try simp only [qN, qC, qE, qG, qD, qA, qF, seval, qQ, qO, qP, yU]))
  refine wD rfl fun k1 h1 m1 s1 f1 n1 => ?_
  simp only [Pn.cs] at m1
  simp only [qN, qC, qE, qG, qD, qA, qF, seval, qQ, qO, qP, yU]
  refine qK ?_
  refine GW.mono (Q := fun x e' h' => x = .normal ∧ h1 = h' ∧ lk e' 1 = .bool lf ∧ lk e' 2 = .bool fk ∧ lk e' 3 = .pointer (some ⟨k1, 0, none⟩) ∧ lk e' 7 = .bool p.noLeaf) ?_ ?_
  · unfold Pn.noLeaf
    cases z0 : ((p.id.length : Int) == 0)
    case false =>
      refine qJ ?_; repeat' (first | ((with_reducible first | apply qI | apply qB) <;> try simp only [qN, qC, qE, qG, qD, qA, qF, seval, qQ, qO, qP, yU, z0, qH m1 zT, qH m1 zD, qH m1 wQ, gPick]))
      all_goals simp only [Bool.false_and]
    cases z1 : ((p.ky.length : Int) == 0)
    case false =>
      refine qJ ?_; repeat' (first | ((with_reducible first | apply qI | apply qB) <;> try simp only [qN, qC, qE, qG, qD, qA, qF, seval, qQ, qO, qP, yU, z0, z1, qH m1 zT, qH m1 zD, qH m1 wQ, gPick]))
      all_goals simp only [Bool.false_and]
    cases z2 : (p.si == 0)
    case false =>
      refine qJ ?_; repeat' (first | ((with_reducible first | apply qI | apply qB) <;> try simp only [qN, qC, qE, qG, qD, qA, qF, seval, qQ, qO, qP, yU, z0, z1, z2, qH m1 zT, qH m1 zD, qH m1 wQ, gPick]))
      all_goals simp only [Bool.false_and]
    refine qJ ?_; repeat' (first | ((with_reducible first | apply qI | apply qB) <;> try simp only [qN, qC, qE, qG, qD, qA, qF, seval, qQ, qO, qP, yU, z0, z1, z2, qH m1 zT, qH m1 zD, qH m1 wQ, gPick]))
  rintro _ e' _ ⟨rfl, rfl, q1, q2, q3, q7⟩
  rw [gT]
  refine tM [(1, .bool lf), (2, .bool fk), (3, .pointer (some ⟨k1, 0, none⟩)), (7, .bool p.noLeaf)] (by simp [q1, q2, q3, q7]) ?_
  clear q1 q2 q3 q7
  refine qK ?_
  refine GW.mono (Q := fun x e' h' => x = .normal ∧ h1 = h' ∧ lk e' 1 = .bool lf ∧ lk e' 2 = .bool fk ∧ lk e' 7 = .bool p.noLeaf ∧ lk e' 8 = .bool p.noFork) ?_ ?_
  · generalize p.noLeaf = nl
    unfold Pn.noFork
    cases z0 : (p.dp == 0)
    case false =>
      refine qJ ?_; repeat' (first | ((with_reducible first | apply qI | apply qB) <;> try simp only [qN, qC, qE, qG, qD, qA, qF, seval, qQ, qO, qP, yU, z0, qH m1 zT, qH m1 zD, qH m1 wQ, gPick]))
      all_goals simp only [Bool.false_and]
    cases z1 : ((p.pf.length : Int) == 0)
    case false =>
      refine qJ ?_; repeat' (first | ((with_reducible first | apply qI | apply qB) <;> try simp only [qN, qC, qE, qG, qD, qA, qF, seval, qQ, qO, qP, yU, z0, z1, qH m1 zT, qH m1 zD, qH m1 wQ, gPick]))
      all_goals simp only [Bool.false_and]
    cases z2 : (p.nw == 0)
    case false =>
      refine qJ ?_; repeat' (first | ((with_reducible first | apply qI | apply qB) <;> try simp only [qN, qC, qE, qG, qD, qA, qF, seval, qQ, qO, qP, yU, z0, z1, z2, qH m1 zT, qH m1 zD, qH m1 wQ, gPick]))
      all_goals simp only [Bool.false_and]
    cases z3 : ((p.lf.length : Int) == 0)
    case false =>
      refine qJ ?_; repeat' (first | ((with_reducible first | apply qI | apply qB) <;> try simp only [qN, qC, qE, qG, qD, qA, qF, seval, qQ, qO, qP, yU, z0, z1, z2, z3, qH m1 zT, qH m1 zD, qH m1 wQ, gPick]))
      all_goals simp only [Bool.false_and]
    cases z4 : ((p.rt.length : Int) == 0)
    case false =>
      refine qJ ?_; repeat' (first | ((with_reducible first | apply qI | apply qB) <;> try simp only [qN, qC, qE, qG, qD, qA, qF, seval, qQ, qO, qP, yU, z0, z1, z2, z3, z4, qH m1 zT, qH m1 zD, qH m1 wQ, gPick]))
      all_goals simp only [Bool.false_and]
    cases z5 : ((p.kids.length : Int) == 0)
    case false =>
      refine qJ ?_; repeat' (first | ((with_reducible first | apply qI | apply qB) <;> try simp only [qN, qC, qE, qG, qD, qA, qF, seval, qQ, qO, qP, yU, z0, z1, z2, z3, z4, z5, qH m1 zT, qH m1 zD, qH m1 wQ, gPick]))
      all_goals simp only [Bool.false_and]
    refine qJ ?_; repeat' (first | ((with_reducible first | apply qI | apply qB) <;> try simp only [qN, qC, qE, qG, qD, qA, qF, seval, qQ, qO, qP, yU, z0, z1, z2, z3, z4, z5, qH m1 zT, qH m1 zD, qH m1 wQ, gPick]))
  rintro _ e' _ ⟨rfl, rfl, q1, q2, q7, q8⟩
  rw [gT]
  refine tM [(1, .bool lf), (2, .bool fk), (7, .bool p.noLeaf), (8, .bool p.noFork)] (by simp [q1, q2, q7, q8]) ?_
  clear q1 q2 q7 q8
  unfold Pn.blank
  generalize p.noLeaf = nl
  generalize p.noFork = nf
  cases lf <;> cases nl <;> cases fk
  all_goals
    refine qJ ?_; repeat' (first | with_reducible apply qK | ((with_reducible first | apply qI | apply qB | apply qM) <;> try simp only [qN, qC, qE, qG, qD, qA, qF, seval, qQ, qO, qP, yU, gPick]))
    first | exact s1 | exact ⟨rfl, s1⟩
theorem sK (N : Nat) {h : GH} {k : Nat} {p : Pn K} {a1 c1 a2 c2 a3 c3 a4 c4 a5 c5 a6 c6} (m : h k = some ⟨p.cs (.slice a1 p.id.length c1) (.slice a2 p.ky.length c2) (.slice a3 p.pf.length c3) (.slice a4 p.lf.length c4) (.slice a5 p.rt.length c5) (.slice a6 p.kids.length c6), 0, true, false⟩) (n : Int) : GTri Tryz.prog N 143 [.int .i64 n, .pointer (some ⟨k, 0, none⟩)] h fun v h' => v = .bool (p.hsh n) ∧ h' = h := by
  simp only [Pn.cs] at m
  unfold Pn.hsh
  refine zU Tryz.func143 rfl gf143 ok143 (by simp [Tryz.ntmps143]) ?_
  cases z0 : ((p.lf.length : Int) == n)
  case false =>
    refine qJ ?_; repeat' (first | with_reducible apply qK | ((with_reducible first | apply qI | apply qB | apply qM) <;> try simp only [qN, qC, qE, qG, qD, qA, qF, seval, qQ, qO, qP, qE6, z0, qH m zD, gPick]))
    all_goals simp only [Bool.false_and]
  cases z1 : ((p.rt.length : Int) == n)
  case false =>
    refine qJ ?_; repeat' (first | with_reducible apply qK | ((with_reducible first | apply qI | apply qB | apply qM) <;> try simp only [qN, qC, qE, qG, qD, qA, qF, seval, qQ, qO, qP, qE6, z0, z1, qH m zD, gPick]))
    all_goals simp only [Bool.false_and]
  refine qJ ?_; repeat' (first | with_reducible apply qK | ((with_reducible first | apply qI | apply qB | apply qM) <;> try simp only [qN, qC, qE, qG, qD, qA, qF, seval, qQ, qO, qP, qE6, z0, z1, qH m zD, gPick]))
theorem zF9 (N : Nat) {h : GH} {k : Nat} {p : Pn K} {a1 c1 a2 c2 a3 c3 a4 c4 a5 c5 a6 c6} (m : h k = some ⟨p.cs (.slice a1 p.id.length c1) (.slice a2 p.ky.length c2) (.slice a3 p.pf.length c3) (.slice a4 p.lf.length c4) (.slice a5 p.rt.length c5) (.slice a6 p.kids.length c6), 0, true, false⟩) (r : RPn R h (p.cs (.slice a1 p.id.length c1) (.slice a2 p.ky.length c2) (.slice a3 p.pf.length c3) (.slice a4 p.lf.length c4) (.slice a5 p.rt.length c5) (.slice a6 p.kids.length c6)) p) (r3 : RB h (.slice a3 p.pf.length c3) p.pf) (hl : p.pf.length ≤ 100000000) : GTri Tryz.prog N 144 [.pointer (some ⟨k, 0, none⟩)] h fun v h' => v = .bool p.frk ∧ HS h h' := by
  have ld := zH (P := Tryz.prog) (t := 26) m wL rfl
  unfold Pn.frk
  refine zU Tryz.func144 rfl gf144 ok144 (by simp [Tryz.ntmps144]) ?_
  refine qJ ?_; repeat' (first | with_reducible apply qK | ((first | (with_reducible first | apply qI | apply qB) | with_reducible refine zE kA xG (by kernel_rfl) ?_) <;> try simp only [qN, qC, qE, qG, qD, qA, qF, seval, qQ, qO, qP, qL, qX, qZ, zC, gN, kA, ld]))
  refine (qZ0 N r false true).mono ?_
  rintro _ h2 ⟨rfl, s2⟩
  have m2 := s2 _ _ m
  simp only [Pn.cs] at m2
  cases hbl : p.blank false true
  case false =>
    refine qJ ?_; repeat' (first | ((with_reducible first | apply qI | apply qM) <;> try simp only [qN, qC, qE, qG, qD, qA, qF, seval, qQ, qO, qP, qL, qX, qZ, zC, gN, kA, gPick]))
    all_goals simp only [Bool.false_and]
    first | exact s2 | exact ⟨by first | rfl | trivial, s2⟩
  cases z0 : (zF0 p.nw)
  case false =>
    refine qJ ?_; repeat' (first | ((first | (with_reducible first | apply qI | apply qM) | ((refine GTri.mono (kF _ _ _) ?_); rintro _ _ ⟨rfl, hh9⟩; replace hh9 := hh9.symm; subst hh9)) <;> try simp only [qN, qC, qE, qG, qD, qA, qF, seval, qQ, qO, qP, qL, qX, qZ, zC, gN, kA, z0, qH m2 zT, qH m2 zD, gPick]))
    simp only [hbl, z0, Bool.false_and, Bool.true_and, Bool.and_false]
    exact ⟨by first | rfl | trivial, s2⟩
  cases z1 : (decide (p.dp ≥ 0))
  case false =>
    refine qJ ?_; repeat' (first | ((first | (with_reducible first | apply qI | apply qM) | ((refine GTri.mono (kF _ _ _) ?_); rintro _ _ ⟨rfl, hh9⟩; replace hh9 := hh9.symm; subst hh9)) <;> try simp only [qN, qC, qE, qG, qD, qA, qF, seval, qQ, qO, qP, qL, qX, qZ, zC, gN, kA, z0, z1, qH m2 zT, qH m2 zD, gPick]))
    simp only [hbl, z0, z1, Bool.false_and, Bool.true_and, Bool.and_false]
    exact ⟨by first | rfl | trivial, s2⟩
  cases z2 : (decide (p.dp ≤ 2048))
  case false =>
    refine qJ ?_; repeat' (first | ((first | (with_reducible first | apply qI | apply qM) | ((refine GTri.mono (kF _ _ _) ?_); rintro _ _ ⟨rfl, hh9⟩; replace hh9 := hh9.symm; subst hh9)) <;> try simp only [qN, qC, qE, qG, qD, qA, qF, seval, qQ, qO, qP, qL, qX, qZ, zC, gN, kA, z0, z1, z2, qH m2 zT, qH m2 zD, gPick]))
    simp only [hbl, z0, z1, z2, Bool.false_and, Bool.true_and, Bool.and_false]
    exact ⟨by first | rfl | trivial, s2⟩
  have y1 : 0 ≤ p.dp := by simpa using z1
  have y2 : p.dp ≤ 2048 := by simpa using z2
  have w7 : IntKind.i64.wrap (p.dp + 7) = p.dp + 7 := by rw [wrap64 (by omega) (by omega)]
  have t0 := Int.tdiv_eq_ediv_of_nonneg (a := p.dp + 7) (b := 8) (by omega)
  have w8 : IntKind.i64.wrap (Int.tdiv (p.dp + 7) 8) = Int.tdiv (p.dp + 7) 8 := by rw [wrap64 (by omega) (by omega)]
  cases z3 : ((p.pf.length : Int) == Int.tdiv (p.dp + 7) 8)
  case false =>
    refine qJ ?_; repeat' (first | ((first | (with_reducible first | apply qI | apply qM) | ((refine GTri.mono (kF _ _ _) ?_); rintro _ _ ⟨rfl, hh9⟩; replace hh9 := hh9.symm; subst hh9)) <;> try simp only [qN, qC, qE, qG, qD, qA, qF, seval, qQ, qO, qP, qL, qX, qZ, zC, gN, kA, z0, z1, z2, z3, w7, w8, qH m2 zT, qH m2 zD, gPick]))
    simp only [hbl, z0, z1, z2, z3, Bool.false_and, Bool.true_and, Bool.and_false]
    exact ⟨by first | rfl | trivial, s2⟩
  refine qJ ?_; repeat' (first | ((first | (with_reducible apply qI) | ((refine GTri.mono (kF _ _ _) ?_); rintro _ _ ⟨rfl, hh9⟩; replace hh9 := hh9.symm; subst hh9)) <;> try simp only [qN, qC, qE, qG, qD, qA, qF, seval, qQ, qO, qP, qL, qX, qZ, zC, gN, kA, z0, z1, z2, z3, w7, w8, qH m2 zT, qH m2 zD, gPick]))
  refine (qC1 N h2 (r3.hs s2) (by omega) p.dp).mono ?_
  rintro _ h3 ⟨s3, a7, c7, rfl, r7⟩
  have m3 := s3 _ _ m2
  refine qJ ?_; repeat' (first | ((first | (with_reducible first | apply qI | apply qM) | ((refine GTri.mono (kG _ _ r7 ((r3.hs s2).hs s3)) ?_); rintro _ _ ⟨rfl, hh9⟩; replace hh9 := hh9.symm; subst hh9)) <;> try simp only [qN, qC, qE, qG, qD, qA, qF, seval, qQ, qO, qP, qL, qX, qZ, zC, gN, kA, qH m3 zD, qH m3 zT, gPick]))
  try simp only [z0, z1, z2, z3, Bool.true_and]
  first | exact s2.trans s3 | exact ⟨by first | rfl | trivial, s2.trans s3⟩
theorem zQ9 (N : Nat) {h : GH} {cs : List Value} {p : Pn K} (r : RPn R h cs p) (fR : ∀ {h h'}, HS h h' → ∀ cs x, R h cs x → R h' cs x) (size : Int) (hl : p.pf.length ≤ 100000000) : GTri Tryz.prog N 108 [.int .i64 size, .agg cs.toArray] h fun v h' => v = .bool (p.right size) ∧ HS h h' := by
  have r0 := r
  obtain ⟨a1, c1, a2, c2, a3, c3, a4, c4, a5, c5, a6, c6, rfl, r1, r2, r3, r4, r5, r6⟩ := r
  unfold Pn.right
  refine zU Tryz.func108 rfl gf108 ok108 (by simp [Tryz.ntmps108]) ?_
  repeat' (first | with_reducible apply qK | ((with_reducible apply qB) <;> try simp only [qN, qC, qE, qG, qD, qA, qF, seval, qQ, qO, qP, wX]))
  refine wD rfl fun k1 h1 m1 s1 f1 n1 => ?_
  have rr := r0.hs s1 (fR s1)
  have q3 := r3.hs s1
  have ld := zH (P := Tryz.prog) (t := 26) m1 wL rfl
  have m1' := m1
  simp only [Pn.cs] at m1'
  by_cases k0 : p.kd = 0
  · have e0 : (p.kd == 0) = true := by simp [k0]
    rw [if_pos k0]
    refine qJ ?_; repeat' (first | (with_reducible first | apply qK | apply qT) | ((with_reducible first | apply qI | apply qB | apply qR) <;> try simp only [qN, qC, qE, qG, qD, qA, qF, seval, qQ, qO, qP, wX, qH m1' zT, e0, ld, List.map_toArray, List.map_cons, List.map_nil]))
    refine (qZ0 N rr false false).mono ?_
    rintro _ h2 ⟨rfl, s2⟩
    refine qJ ?_; repeat' (first | ((with_reducible first | apply qI | apply qM) <;> try simp only [qN, qC, qE, qG, qD, qA, qF, seval, qQ, qO, qP, wX]))
    exact s1.trans s2
  have e0 : (p.kd == 0) = false := by simp [k0]
  rw [if_neg k0]
  by_cases k1' : p.kd = 1
  · have e1 : (p.kd == 1) = true := by simp [k1']
    rw [if_pos k1']
    refine qJ ?_; repeat' (first | (with_reducible first | apply qK | apply qT) | ((with_reducible first | apply qI | apply qB | apply qR) <;> try simp only [qN, qC, qE, qG, qD, qA, qF, seval, qQ, qO, qP, wX, qH m1' zT, e0, e1, ld, List.map_toArray, List.map_cons, List.map_nil]))
    refine (qZ0 N rr true false).mono ?_
    rintro _ h2 ⟨rfl, s2⟩
    have m2 := s2 _ _ m1'
    cases hbl : p.blank true false
    case false =>
      refine qJ ?_; repeat' (first | ((with_reducible first | apply qI | apply qM) <;> try simp only [qN, qC, qE, qG, qD, qA, qF, seval, qQ, qO, qP, wX, gPick]))
      all_goals simp only [Bool.false_and]
      first | exact s1.trans s2 | exact ⟨by first | rfl | trivial, s1.trans s2⟩
    cases z0 : (zF0 p.si)
    case false =>
      refine qJ ?_; repeat' (first | ((first | (with_reducible first | apply qI | apply qM) | ((refine GTri.mono (kF _ _ _) ?_); rintro _ _ ⟨rfl, hh9⟩; replace hh9 := hh9.symm; subst hh9)) <;> try simp only [qN, qC, qE, qG, qD, qA, qF, seval, qQ, qO, qP, wX, z0, qH m2 zT, qH m2 zD, gPick]))
      try simp only [hbl, z0, Bool.false_and, Bool.true_and, Bool.and_false]
      first | exact s1.trans s2 | exact ⟨by first | rfl | trivial, s1.trans s2⟩
    cases z1 : (decide ((p.id.length : Int) ≤ 255))
    case false =>
      refine qJ ?_; repeat' (first | ((first | (with_reducible first | apply qI | apply qM) | ((refine GTri.mono (kF _ _ _) ?_); rintro _ _ ⟨rfl, hh9⟩; replace hh9 := hh9.symm; subst hh9)) <;> try simp only [qN, qC, qE, qG, qD, qA, qF, seval, qQ, qO, qP, wX, z0, z1, qH m2 zT, qH m2 zD, gPick]))
      try simp only [hbl, z0, z1, Bool.false_and, Bool.true_and, Bool.and_false]
      first | exact s1.trans s2 | exact ⟨by first | rfl | trivial, s1.trans s2⟩
    cases z2 : (decide ((p.ky.length : Int) ≤ 48))
    case false =>
      refine qJ ?_; repeat' (first | ((first | (with_reducible first | apply qI | apply qM) | ((refine GTri.mono (kF _ _ _) ?_); rintro _ _ ⟨rfl, hh9⟩; replace hh9 := hh9.symm; subst hh9)) <;> try simp only [qN, qC, qE, qG, qD, qA, qF, seval, qQ, qO, qP, wX, z0, z1, z2, qH m2 zT, qH m2 zD, gPick]))
      try simp only [hbl, z0, z1, z2, Bool.false_and, Bool.true_and, Bool.and_false]
      first | exact s1.trans s2 | exact ⟨by first | rfl | trivial, s1.trans s2⟩
    refine qJ ?_; repeat' (first | ((first | (with_reducible first | apply qI | apply qM) | ((refine GTri.mono (kF _ _ _) ?_); rintro _ _ ⟨rfl, hh9⟩; replace hh9 := hh9.symm; subst hh9)) <;> try simp only [qN, qC, qE, qG, qD, qA, qF, seval, qQ, qO, qP, wX, z0, z1, z2, qH m2 zT, qH m2 zD, gPick]))
    first | exact s1.trans s2 | exact ⟨by first | rfl | trivial, s1.trans s2⟩
  have e1 : (p.kd == 1) = false := by simp [k1']
  rw [if_neg k1']
  by_cases k2 : p.kd = 2
  · have e2 : (p.kd == 2) = true := by simp [k2]
    rw [if_pos k2]
    refine qJ ?_; repeat' (first | (with_reducible first | apply qK | apply qT) | ((with_reducible first | apply qI | apply qB | apply qR) <;> try simp only [qN, qC, qE, qG, qD, qA, qF, seval, qQ, qO, qP, wX, qH m1' zT, e0, e1, e2, ld, List.map_toArray, List.map_cons, List.map_nil]))
    refine (zF9 N m1 rr q3 hl).mono ?_
    rintro _ h2 ⟨rfl, s2⟩
    have m2 := s2 _ _ m1'
    cases hbl : p.frk
    case false =>
      refine qJ ?_; repeat' (first | ((with_reducible first | apply qI | apply qM) <;> try simp only [qN, qC, qE, qG, qD, qA, qF, seval, qQ, qO, qP, wX, gPick]))
      all_goals simp only [Bool.false_and]
      first | exact s1.trans s2 | exact ⟨by first | rfl | trivial, s1.trans s2⟩
    cases z0 : (p.hsh size)
    case false =>
      refine qJ ?_; repeat' (first | ((first | (with_reducible first | apply qI | apply qM) | ((refine GTri.mono (sK _ (s2 _ _ m1) _) ?_); rintro _ _ ⟨rfl, hh9⟩; replace hh9 := hh9.symm; subst hh9)) <;> try simp only [qN, qC, qE, qG, qD, qA, qF, seval, qQ, qO, qP, wX, z0, qH m2 zT, qH m2 zD, gPick, qH m2 wQ]))
      try simp only [hbl, z0, Bool.false_and, Bool.true_and, Bool.and_false]
      first | exact s1.trans s2 | exact ⟨by first | rfl | trivial, s1.trans s2⟩
    cases z1 : ((p.kids.length : Int) == 0)
    case false =>
      refine qJ ?_; repeat' (first | ((first | (with_reducible first | apply qI | apply qM) | ((refine GTri.mono (sK _ (s2 _ _ m1) _) ?_); rintro _ _ ⟨rfl, hh9⟩; replace hh9 := hh9.symm; subst hh9)) <;> try simp only [qN, qC, qE, qG, qD, qA, qF, seval, qQ, qO, qP, wX, z0, z1, qH m2 zT, qH m2 zD, gPick, qH m2 wQ]))
      try simp only [hbl, z0, z1, Bool.false_and, Bool.true_and, Bool.and_false]
      first | exact s1.trans s2 | exact ⟨by first | rfl | trivial, s1.trans s2⟩
    refine qJ ?_; repeat' (first | ((first | (with_reducible first | apply qI | apply qM) | ((refine GTri.mono (sK _ (s2 _ _ m1) _) ?_); rintro _ _ ⟨rfl, hh9⟩; replace hh9 := hh9.symm; subst hh9)) <;> try simp only [qN, qC, qE, qG, qD, qA, qF, seval, qQ, qO, qP, wX, z0, z1, qH m2 zT, qH m2 zD, gPick, qH m2 wQ]))
    first | exact s1.trans s2 | exact ⟨by first | rfl | trivial, s1.trans s2⟩
  have e2 : (p.kd == 2) = false := by simp [k2]
  rw [if_neg k2]
  by_cases k3 : p.kd = 3
  · have e3 : (p.kd == 3) = true := by simp [k3]
    rw [if_pos k3]
    refine qJ ?_; repeat' (first | (with_reducible first | apply qK | apply qT) | ((with_reducible first | apply qI | apply qB | apply qR) <;> try simp only [qN, qC, qE, qG, qD, qA, qF, seval, qQ, qO, qP, wX, qH m1' zT, e0, e1, e2, e3, ld, List.map_toArray, List.map_cons, List.map_nil]))
    refine (zF9 N m1 rr q3 hl).mono ?_
    rintro _ h2 ⟨rfl, s2⟩
    have m2 := s2 _ _ m1'
    cases hbl : p.frk
    case false =>
      refine qJ ?_; repeat' (first | ((with_reducible first | apply qI | apply qM) <;> try simp only [qN, qC, qE, qG, qD, qA, qF, seval, qQ, qO, qP, wX, gPick]))
      all_goals simp only [Bool.false_and]
      first | exact s1.trans s2 | exact ⟨by first | rfl | trivial, s1.trans s2⟩
    cases z0 : (p.hsh 0)
    case false =>
      refine qJ ?_; repeat' (first | ((first | (with_reducible first | apply qI | apply qM) | ((refine GTri.mono (sK _ (s2 _ _ m1) _) ?_); rintro _ _ ⟨rfl, hh9⟩; replace hh9 := hh9.symm; subst hh9)) <;> try simp only [qN, qC, qE, qG, qD, qA, qF, seval, qQ, qO, qP, wX, z0, qH m2 zT, qH m2 zD, gPick, qH m2 wQ]))
      try simp only [hbl, z0, Bool.false_and, Bool.true_and, Bool.and_false]
      first | exact s1.trans s2 | exact ⟨by first | rfl | trivial, s1.trans s2⟩
    cases z1 : ((p.kids.length : Int) == 2)
    case false =>
      refine qJ ?_; repeat' (first | ((first | (with_reducible first | apply qI | apply qM) | ((refine GTri.mono (sK _ (s2 _ _ m1) _) ?_); rintro _ _ ⟨rfl, hh9⟩; replace hh9 := hh9.symm; subst hh9)) <;> try simp only [qN, qC, qE, qG, qD, qA, qF, seval, qQ, qO, qP, wX, z0, z1, qH m2 zT, qH m2 zD, gPick, qH m2 wQ]))
      try simp only [hbl, z0, z1, Bool.false_and, Bool.true_and, Bool.and_false]
      first | exact s1.trans s2 | exact ⟨by first | rfl | trivial, s1.trans s2⟩
    refine qJ ?_; repeat' (first | ((first | (with_reducible first | apply qI | apply qM) | ((refine GTri.mono (sK _ (s2 _ _ m1) _) ?_); rintro _ _ ⟨rfl, hh9⟩; replace hh9 := hh9.symm; subst hh9)) <;> try simp only [qN, qC, qE, qG, qD, qA, qF, seval, qQ, qO, qP, wX, z0, z1, qH m2 zT, qH m2 zD, gPick, qH m2 wQ]))
    first | exact s1.trans s2 | exact ⟨by first | rfl | trivial, s1.trans s2⟩
  have e3 : (p.kd == 3) = false := by simp [k3]
  rw [if_neg k3]
  refine qJ ?_; repeat' (first | (with_reducible first | apply qK | apply qT) | ((with_reducible first | apply qI | apply qB | apply qR | apply qS | apply qM) <;> try simp only [qN, qC, qE, qG, qD, qA, qF, seval, qQ, qO, qP, wX, qH m1' zT, e0, e1, e2, e3, ld, List.map_toArray, List.map_cons, List.map_nil]))
  exact s1
theorem c_Bits (N : Nat) {h : GH} {cs : List Value} {p : Pn K} (r : RPn R h cs p) (hl : p.pf.length ≤ 100000000) : GTri Tryz.prog N 109 [.agg cs.toArray] h fun v h' => HS h h' ∧ ∃ a c, v = .slice a p.bits.length c ∧ RB h' (.slice a p.bits.length c) p.bits := by
  obtain ⟨a1, c1, a2, c2, a3, c3, a4, c4, a5, c5, a6, c6, rfl, r1, r2, r3, r4, r5, r6⟩ := r
  unfold Pn.bits
  refine zU Tryz.func109 rfl gf109 ok109 (by simp [Tryz.ntmps109]) ?_
  repeat' (first | with_reducible apply qK | ((with_reducible apply qB) <;> try simp only [qN, qC, qE, qG, qD, qA, qF, seval, qQ, qO, qP, sF]))
  refine wD rfl fun k1 h1 m1 s1 f1 n1 => ?_
  simp only [Pn.cs] at m1
  by_cases k1' : p.kd = 1
  · have e1 : (p.kd == 1) = true := by simp [k1']
    rw [if_pos k1']
    refine qJ ?_; repeat' (first | with_reducible apply qK | ((with_reducible first | apply qI | apply qB | apply qR) <;> try simp only [qN, qC, qE, qG, qD, qA, qF, seval, qQ, qO, qP, sF, qH m1 zT, qH m1 zD, e1]))
    refine (qO1 N h1 (r1.hs s1) rfl).mono ?_
    rintro _ h2 ⟨s2, a7, c7, rfl, r7, _⟩
    refine qJ ?_; repeat' (first | ((with_reducible first | apply qI | apply qM) <;> try simp only [qN, qC, qE, qG, qD, qA, qF, seval, qQ, qO, qP, sF]))
    exact ⟨s1.trans s2, a7, c7, rfl, r7⟩
  · have e1 : (p.kd == 1) = false := by simp [k1']
    rw [if_neg k1']
    refine qJ ?_; repeat' (first | with_reducible apply qK | ((with_reducible first | apply qI | apply qB | apply qR | apply qS) <;> try simp only [qN, qC, qE, qG, qD, qA, qF, seval, qQ, qO, qP, sF, qH m1 zT, qH m1 zD, e1]))
    refine (fE N h1 (r3.hs s1) (by omega)).mono ?_
    rintro _ h2 ⟨s2, o2⟩
    obtain ⟨a7, c7, rfl⟩ := o2.form
    refine qJ ?_; repeat' (first | ((with_reducible first | apply qI | apply qM) <;> try simp only [qN, qC, qE, qG, qD, qA, qF, seval, qQ, qO, qP, sF]))
    exact ⟨s1.trans s2, a7, c7, rfl, o2.rb⟩
end
theorem fB : type_of% (And.intro zG (And.intro wZ (And.intro jL (And.intro wY (And.intro xB (And.intro wH rs39)))))) := And.intro zG (And.intro wZ (And.intro jL (And.intro wY (And.intro xB (And.intro wH rs39)))))
def kL : Nat → List (Nat × List Nat) × List Nat
  | 3 => ([(0, []), (1, []), (2, []), (3, []), (4, []), (5, []), (6, [1, 3]), (7, []), (8, []), (9, [])], [0, 1, 0, 4, 0, 16, 48, 127, 255, 511])
  | _ => ([], [])
section
variable {K : Type} {R : GH → List Value → K → Prop}
theorem Pn.right_leaf {p : Pn K} {size : Int} (h : p.right size = true) (k : p.kd = 1) : 0 ≤ p.si ∧ p.si < 256 ∧ p.id.length ≤ 255 ∧ p.ky.length ≤ 48 ∧ p.noFork = true := by
  unfold Pn.right at h
  rw [if_neg (by omega), if_pos k] at h
  simp only [Bool.and_eq_true, zF0, decide_eq_true_eq, Pn.blank, Bool.true_or, Bool.true_and, Bool.false_or] at h
  obtain ⟨⟨⟨h0, h1, h2⟩, h3⟩, h4⟩ := h
  exact ⟨h1, h2, by omega, by omega, h0⟩
theorem Pn.frk_ok {p : Pn K} (h : p.frk = true) : 0 ≤ p.dp ∧ p.dp ≤ 2048 ∧ 0 ≤ p.nw ∧ p.nw < 256 ∧ p.pf.length = (p.dp.toNat + 7) / 8 ∧ zF p.pf p.dp.toNat = p.pf ∧ p.noLeaf = true := by
  unfold Pn.frk at h
  simp only [Bool.and_eq_true, zF0, decide_eq_true_eq, Pn.blank, Bool.or_true, Bool.true_and, Bool.false_or, Bool.and_true, beq_iff_eq] at h
  obtain ⟨⟨⟨⟨⟨h0, h1, h2⟩, h3⟩, h4⟩, h5⟩, h6⟩ := h
  have t0 := Int.tdiv_eq_ediv_of_nonneg (a := p.dp + 7) (b := 8) (by omega)
  refine ⟨h3, h4, h1, h2, by omega, h6, h0.1⟩
theorem Pn.right_closed {p : Pn K} {size : Int} (h : p.right size = true) (k : p.kd = 2) : p.frk = true ∧ (p.lf.length : Int) = size ∧ (p.rt.length : Int) = size ∧ p.kids.length = 0 := by
  unfold Pn.right at h
  rw [if_neg (by omega), if_neg (by omega), if_pos k] at h
  simp only [Bool.and_eq_true, Pn.hsh, beq_iff_eq] at h
  exact ⟨h.1.1, h.1.2.1, h.1.2.2, by omega⟩
theorem qT2 (d : Nat) (pf : List UInt8) (w : Nat) (l r : List UInt8) : (vE d pf w l r).length ≤ pf.length + l.length + r.length + 30 := by
  have h1 := wJ pf d
  simp only [vE, yL, List.length_cons, fK, gU, List.map_cons, List.map_nil, List.sum_cons, List.sum_nil, wN]
  omega
theorem zS4 (id ky : List UInt8) (w : Nat) : (kN id ky w).length ≤ id.length + ky.length + 30 := by
  simp only [kN, yL, List.length_cons, fK, gU, List.map_cons, List.map_nil, List.sum_cons, List.sum_nil, wN]
  omega
theorem zL0 : emptyB.length = 1 := rfl
theorem zM1 {p : Pn K} {size : Int} (h : p.right size = true) (hs : size ≤ 32) : (yW p).length ≤ 1000 := by
  unfold yW
  split
  · rename_i k
    have := p.right_leaf h k
    have := zS4 p.id p.ky p.si.toNat
    omega
  · split
    · rename_i _ k
      obtain ⟨f, a, b, _⟩ := p.right_closed h k
      have g := p.frk_ok f
      have := qT2 p.dp.toNat p.pf p.nw.toNat p.lf p.rt
      omega
    · rw [zL0]; omega
theorem zR2 (N : Nat) {h : GH} {cs : List Value} {p : Pn K} (r : RPn R h cs p) {size : Int} (hr : p.right size = true) (hs : size ≤ 32) :
    GTri Tryz.prog N 39 [.agg cs.toArray] h fun v h' => HS h h' ∧ ∃ a c, v = .slice a (yW p).length c ∧ RB h' (.slice a (yW p).length c) (yW p) ∧ SL h' (.slice a (yW p).length c) := by
  obtain ⟨a1, c1, a2, c2, a3, c3, a4, c4, a5, c5, a6, c6, rfl, r1, r2, r3, r4, r5, r6⟩ := r
  unfold yW
  refine zU Tryz.func39 rfl gf39 ok39 (by simp [Tryz.ntmps39]) ?_
  repeat' (first | with_reducible apply qK | ((with_reducible apply qB) <;> try simp only [qN, qC, qE, qG, qD, qA, qF, seval, qQ, qO, qP, qL, qX, qZ, zC, fB, kL]))
  refine wD rfl fun k1 h1 m1 s1 f1 n1 => ?_
  simp only [Pn.cs] at m1
  by_cases k1' : p.kd = 1
  · have e1 : (p.kd == 1) = true := by simp [k1']
    obtain ⟨b1, b2, b3, b4, _⟩ := p.right_leaf hr k1'
    rw [if_pos k1']
    obtain ⟨w, hw⟩ : ∃ w : Nat, p.si = (w : Int) := ⟨p.si.toNat, by omega⟩
    rw [hw, Int.toNat_natCast]
    rw [hw] at m1
    refine qJ ?_; repeat' (first | (with_reducible first | apply qK | apply qT) | ((first | (with_reducible first | apply qI | apply qB | apply qR) | with_reducible refine zE kL xG (by kernel_rfl) ?_) <;> try simp only [qN, qC, qE, qG, qD, qA, qF, seval, qQ, qO, qP, qL, qX, qZ, zC, fB, kL, qH m1 zT, qH m1 zD, e1]))
    refine (sL N h1 w (by omega)).mono ?_
    rintro _ h3 ⟨t3, k3, rfl, r3'⟩
    have m3 := t3 _ _ m1
    refine qJ ?_; repeat' (first | ((with_reducible apply qI) <;> try simp only [qN, qC, qE, qG, qD, qA, qF, seval, qQ, qO, qP, qL, qX, qZ, zC, fB, kL, qH m3 zT, qH m3 zD, e1]))
    refine dM (cs := [.slice a1 p.id.length c1, .slice a2 p.ky.length c2, .slice (some ⟨k3, 0, none⟩) 8 17]) qQ0 rfl (by decide) (by decide) (by rw [xZ _ rfl]; rfl) rfl fun k4 h4 m4 s4 f4 n4 => ?_
    have t4 := (s1.trans t3).trans s4
    have q4 : RBs h4 (.slice (some ⟨k4, 0, none⟩) ([p.id, p.ky, vK w] : List (List UInt8)).length 7) [p.id, p.ky, vK w] := gH m4 (by decide) rfl fun i x hx => by
      rcases i with _ | _ | _ | i
      · cases hx; exact ⟨_, _, rfl, r1.hs t4⟩
      · cases hx; exact ⟨_, _, rfl, r2.hs t4⟩
      · cases hx; exact ⟨_, _, rfl, r3'.hs s4⟩
      · simp at hx
    have hs4 : ∀ x ∈ ([p.id, p.ky, vK w] : List (List UInt8)), x.length ≤ 65535 := by
      intro x hx
      simp only [List.mem_cons, List.not_mem_nil, or_false] at hx
      rcases hx with rfl | rfl | rfl <;> first | omega | (rw [wN]; omega)
    have hp4 : gU [p.id, p.ky, vK w] ≤ 100000000 := by simp only [gU, List.map_cons, List.map_nil, List.sum_cons, List.sum_nil, wN]; omega
    have m14 := s4 _ _ m3
    refine qJ ?_; repeat' (first | ((with_reducible apply qI) <;> try simp only [qN, qC, qE, qG, qD, qA, qF, seval, qQ, qO, qP, qL, qX, qZ, zC, fB, kL, qH m14 zT, qH m14 zD, e1]))
    refine (qY8 N h4 (tag := 1) (by omega) q4 hs4 (by simp) hp4).mono ?_
    rintro _ h5 ⟨s5, a7, c7, rfl, r7, sl7⟩
    refine qJ ?_; repeat' (first | ((with_reducible first | apply qI | apply qM) <;> try simp only [qN, qC, qE, qG, qD, qA, qF, seval, qQ, qO, qP, qL, qX, qZ, zC, fB, kL]))
    exact ⟨t4.trans s5, a7, c7, rfl, r7, sl7⟩
  have e1 : (p.kd == 1) = false := by simp [k1']
  rw [if_neg k1']
  by_cases k2 : p.kd = 2
  · have e2 : (p.kd == 2) = true := by simp [k2]
    obtain ⟨f, g1, g2, _⟩ := p.right_closed hr k2
    have g := p.frk_ok f
    rw [if_pos k2]
    obtain ⟨w, hw⟩ : ∃ w : Nat, p.nw = (w : Int) := ⟨p.nw.toNat, by omega⟩
    obtain ⟨d, hd⟩ : ∃ d : Nat, p.dp = (d : Int) := ⟨p.dp.toNat, by omega⟩
    rw [hw, hd, Int.toNat_natCast, Int.toNat_natCast]
    rw [hw, hd] at m1
    refine qJ ?_; repeat' (first | (with_reducible first | apply qK | apply qT) | ((with_reducible first | apply qI | apply qB | apply qR) <;> try simp only [qN, qC, qE, qG, qD, qA, qF, seval, qQ, qO, qP, qL, qX, qZ, zC, fB, kL, qH m1 zT, qH m1 zD, e1, e2]))
    refine (c_Fork N (d := d) (w := w) (by omega) (by omega) (r3.hs s1) (r4.hs s1) (r5.hs s1) (by omega) (by omega) (by omega)).mono ?_
    rintro _ h5 ⟨s5, a7, c7, rfl, r7, sl7⟩
    refine qJ ?_; repeat' (first | ((with_reducible first | apply qI | apply qM) <;> try simp only [qN, qC, qE, qG, qD, qA, qF, seval, qQ, qO, qP, qL, qX, qZ, zC, fB, kL]))
    exact ⟨s1.trans s5, a7, c7, rfl, r7, sl7⟩
  have e2 : (p.kd == 2) = false := by simp [k2]
  rw [if_neg k2]
  refine qJ ?_; repeat' (first | (with_reducible first | apply qK | apply qT) | ((with_reducible first | apply qI | apply qB | apply qR | apply qS) <;> try simp only [qN, qC, qE, qG, qD, qA, qF, seval, qQ, qO, qP, qL, qX, qZ, zC, fB, kL, qH m1 zT, qH m1 zD, e1, e2]))
  refine (qY8 N h1 (tag := 0) (by omega) (ps := []) (RL.nil _) (by simp) (by simp) (by simp [gU])).mono ?_
  rintro _ h5 ⟨s5, a7, c7, rfl, r7, sl7⟩
  refine qJ ?_; repeat' (first | ((with_reducible first | apply qI | apply qM) <;> try simp only [qN, qC, qE, qG, qD, qA, qF, seval, qQ, qO, qP, qL, qX, qZ, zC, fB, kL]))
  exact ⟨s1.trans s5, a7, c7, rfl, r7, sl7⟩
end
section
variable {h0 h h' : GH} {v : Value} {n : Nat} {cs : List Value}
end
section
variable {K : Type} {R : GH → List Value → K → Prop}
theorem zV7 (p : Pn K) : yW p ≠ [] := by
  unfold yW
  split
  · simp [kN, yL]
  · split <;> simp [vE, emptyB, yL]
end
theorem gi80 {k i : Nat} (h : i < 2) : zI Tryz.prog 80 (.pointer (some ⟨k, 0, none⟩)) (i : Int) = some (.pointer (some ⟨k, i, none⟩)) := by
  simp [zI, Tryz.underlying80, zD]; omega
section
variable {K : Type} {R : GH → List Value → K → Prop}
end
theorem qB0 : type_of% (And.intro zG (And.intro pJ (And.intro xB (And.intro wH (And.intro zH4 rs9))))) := And.intro zG (And.intro pJ (And.intro xB (And.intro wH (And.intro zH4 rs9))))
theorem zL8 (N : Nat) {h : GH} {c1 c2 : List Value} {x y : Pt} (r1 : RPut h c1 x) (r2 : RPut h c2 y) : GTri Tryz.prog N 9 [.agg c1.toArray, .agg c2.toArray] h fun v h' => v = .bool ((x.1.1 == y.1.1) && (x.1.2 == y.1.2) && (x.2 == y.2)) ∧ HS h h' := by
  obtain ⟨a, c, b, d, rfl, p1, p2⟩ := r1
  obtain ⟨a', c', b', d', rfl, q1, q2⟩ := r2
  refine zU Tryz.func9 rfl gf9 ok9 (by simp [Tryz.ntmps9]) ?_
  repeat' (first | with_reducible apply qK | ((with_reducible apply qB) <;> try simp only [qN, qC, qE, qG, qD, qA, qF, seval, qQ, qO, qP, qB0]))
  refine wD rfl fun k2 h2 m2 s2 f2 n2 => ?_
  refine qJ ?_; repeat' (first | ((with_reducible apply qI) <;> try simp only [qN, qC, qE, qG, qD, qA, qF, seval, qQ, qO, qP, qB0]))
  refine wD rfl fun k3 h3 m3 s3 f3 n3 => ?_
  have S3 := s2.trans s3
  have m23 := s3 _ _ m2
  have v1 := (p1.hs S3).conv Tryz.underlying22 Tryz.underlying5 Tryz.underlying9
  have v2 := (p2.hs S3).conv Tryz.underlying22 Tryz.underlying5 Tryz.underlying9
  have v3 := (q1.hs S3).conv Tryz.underlying22 Tryz.underlying5 Tryz.underlying9
  have v4 := (q2.hs S3).conv Tryz.underlying22 Tryz.underlying5 Tryz.underlying9
  cases z0 : (x.1.1 == y.1.1)
  case false =>
    refine qJ ?_; repeat' (first | with_reducible apply qK | ((with_reducible first | apply qI | apply qB | apply qM) <;> try simp only [qN, qC, qE, qG, qD, qA, qF, seval, qQ, qO, qP, qB0, qH m23 zD, qH m3 zD, v1, v3, jO, z0, gPick]))
    first | exact S3 | exact ⟨rfl, S3⟩
  cases z1 : (x.1.2 == y.1.2)
  case false =>
    refine qJ ?_; repeat' (first | with_reducible apply qK | ((with_reducible first | apply qI | apply qB | apply qM) <;> try simp only [qN, qC, qE, qG, qD, qA, qF, seval, qQ, qO, qP, qB0, qH m23 zD, qH m3 zD, v1, v2, v3, v4, jO, z0, z1, gPick]))
    first | exact S3 | exact ⟨rfl, S3⟩
  refine qJ ?_; repeat' (first | with_reducible apply qK | ((with_reducible first | apply qI | apply qB | apply qM) <;> try simp only [qN, qC, qE, qG, qD, qA, qF, seval, qQ, qO, qP, qB0, qH m23 zD, qH m3 zD, qH m23 zT, qH m3 zT, v1, v2, v3, v4, jO, z0, z1, gPick]))
  first | exact S3 | exact ⟨rfl, S3⟩
section
variable {K : Type} {R : GH → List Value → K → Prop}
end
def zS2 {K : Type} (nd : Nd) : Pn K := if nd.lf = true then ⟨1, nd.si, 0, 0, nd.id, nd.ky, [], [], [], []⟩ else ⟨2, 0, nd.dp, nd.nw, [], [], nd.pf, [], [], []⟩
def qY4 {K : Type} (M : List Nd) (nd : Nd) : Pn K := if nd.lf = true then ⟨1, nd.si, 0, 0, nd.id, nd.ky, [], [], [], []⟩ else ⟨2, 0, nd.dp, nd.nw, [], [], nd.pf, (uR M nd.l).hs, (uR M nd.r).hs, []⟩
def noPart {K : Type} : Pn K := ⟨0, 0, 0, 0, [], [], [], [], [], []⟩
theorem noPart_R {K : Type} (R : GH → List Value → K → Prop) (h : GH) : RPn R h [.int .i64 0, .slice none 0 0, .slice none 0 0, .int .i64 0, .int .i64 0, .slice none 0 0, .int .i64 0, .slice none 0 0, .slice none 0 0, .slice none 0 0] noPart := ⟨none, 0, none, 0, none, 0, none, 0, none, 0, none, 0, rfl, RB.nil _, RB.nil _, RB.nil _, RB.nil _, RB.nil _, RL.nil _⟩
theorem RL.nilk {α : Type} {es : Nat} {R : GH → List Value → α → Prop} {h h' : GH} {v : Value} (r : RL es R h v []) : RL es R h' v [] := by
  rcases r with ⟨c, e, _⟩ | ⟨ad, c, cs, e, h2, h3, _, _⟩
  · exact .inl ⟨c, e, rfl⟩
  · refine .inr ⟨ad, c, [], e, by simp [xV], h3, fun i x hx => by simp at hx, .inl (by simp)⟩
theorem RPn.bx {K : Type} {R : GH → List Value → K → Prop} {h h' : GH} (f : ∀ {v l}, RB h v l → RB h' v l) {cs : List Value} {p : Pn K} (hk : p.kids = []) (r : RPn R h cs p) : RPn R h' cs p := by
  obtain ⟨a1, c1, a2, c2, a3, c3, a4, c4, a5, c5, a6, c6, rfl, r1, r2, r3, r4, r5, r6⟩ := r
  rw [hk] at r6
  exact ⟨a1, c1, a2, c2, a3, c3, a4, c4, a5, c5, a6, c6, rfl, f r1, f r2, f r3, f r4, f r5, by rw [hk]; exact r6.nilk⟩
section
variable {h0 h h' : GH} {k : Nat} {v : Value} {cs : List Value} {M : List Nd} {K : Type} {R : GH → List Value → K → Prop}
end
theorem fill1 {es : Nat} {z x : Value} (hl : (vcells x).length = es) (hc : (vcells x).all zP = true) : wI (Shape.elems es).pl (uX z (1 * es)) [(0, x)] = some (vcells x) := by
  have hzl := jY z (1 * es)
  have hp : (Shape.elems es).pl 0 = some (0, es) := by simp [Shape.pl]
  simp only [wI, hp]
  have := qL3 (vcells x) (uX z (1 * es)) [] (by rw [hzl, hl, Nat.one_mul])
  simp only [List.nil_append, List.length_nil] at this
  rw [this, hzl, Nat.one_mul]
  simp [hl, hc]
theorem dZ {a b : Nat} (ha : a < 256) (hb : b < 256) (h : UInt8.ofNat a = UInt8.ofNat b) : a = b := by
  have := congrArg UInt8.toNat h
  simp only [UInt8.toNat_ofNat'] at this
  omega
theorem qR6 : ∀ (ps qs : List (List UInt8)), ps.length = qs.length → (∀ p ∈ ps, p.length ≤ 65535) → (∀ q ∈ qs, q.length ≤ 65535) → ps.flatMap partB = qs.flatMap partB → ps = qs
  | [], [], _, _, _, _ => rfl
  | [], _ :: _, h, _, _, _ => by simp at h
  | _ :: _, [], h, _, _, _ => by simp at h
  | p :: ps, q :: qs, h, hp, hq, he => by
    simp only [List.flatMap_cons, partB, List.cons_append, List.cons.injEq] at he
    obtain ⟨h1, h2, h3⟩ := he
    have lp := hp p (List.mem_cons_self ..)
    have lq := hq q (List.mem_cons_self ..)
    have e1 := dZ (Nat.mod_lt _ (by decide)) (Nat.mod_lt _ (by decide)) h1
    have e2 := dZ (Nat.mod_lt _ (by decide)) (Nat.mod_lt _ (by decide)) h2
    have el : p.length = q.length := by omega
    obtain ⟨e3, e4⟩ := List.append_inj h3 el
    rw [e3, qR6 ps qs (by simpa using h) (fun x hx => hp x (List.mem_cons_of_mem _ hx)) (fun x hx => hq x (List.mem_cons_of_mem _ hx)) e4]
theorem tQ {t t' : Nat} {ps qs : List (List UInt8)} (ht : t < 256) (ht' : t' < 256) (h : yL t ps = yL t' qs) : t = t' ∧ (ps.length = qs.length → (∀ p ∈ ps, p.length ≤ 65535) → (∀ q ∈ qs, q.length ≤ 65535) → ps = qs) := by
  simp only [yL, List.cons.injEq] at h
  exact ⟨dZ ht ht' h.1, fun hl hp hq => qR6 ps qs hl hp hq h.2⟩
theorem qK8 {n m : Nat} (hn : n ≤ 1000000) (hm : m ≤ 1000000) (h : vK n = vK m) : n = m := by
  have g : ∀ i (hi : i < 8), UInt8.ofNat (n / 256 ^ (7 - i) % 256) = UInt8.ofNat (m / 256 ^ (7 - i) % 256) := fun i hi => by
    have := congrArg (fun l : List UInt8 => l[i]?) h
    simpa [vK, arr, hi] using this
  have e5 := dZ (Nat.mod_lt _ (by decide)) (Nat.mod_lt _ (by decide)) (g 5 (by decide))
  have e6 := dZ (Nat.mod_lt _ (by decide)) (Nat.mod_lt _ (by decide)) (g 6 (by decide))
  have e7 := dZ (Nat.mod_lt _ (by decide)) (Nat.mod_lt _ (by decide)) (g 7 (by decide))
  simp only [show (7 : Nat) - 5 = 2 from rfl, show (7 : Nat) - 6 = 1 from rfl, show (7 : Nat) - 7 = 0 from rfl, Nat.pow_zero, Nat.pow_one, Nat.div_one, show (256 : Nat) ^ 2 = 65536 from rfl] at e5 e6 e7
  omega
theorem qT3 {d d' w w' : Nat} {pf pf' l l' r r' : List UInt8} (hd : d ≤ 1000000) (hd' : d' ≤ 1000000) (hw : w ≤ 1000000) (hw' : w' ≤ 1000000) (hp : pf.length ≤ 65535) (hp' : pf'.length ≤ 65535) (hl : l.length ≤ 65535) (hl' : l'.length ≤ 65535) (hr : r.length ≤ 65535) (hr' : r'.length ≤ 65535) (h : vE d pf w l r = vE d' pf' w' l' r') :
    d = d' ∧ zF pf d = zF pf' d' ∧ w = w' ∧ l = l' ∧ r = r' := by
  have g1 := wJ pf d
  have g2 := wJ pf' d'
  have := (tQ (by decide) (by decide) h).2 rfl (by
    intro x hx
    simp only [List.mem_cons, List.not_mem_nil, or_false] at hx
    rcases hx with rfl | rfl | rfl | rfl | rfl <;> first | omega | (rw [wN]; omega)) (by
    intro x hx
    simp only [List.mem_cons, List.not_mem_nil, or_false] at hx
    rcases hx with rfl | rfl | rfl | rfl | rfl <;> first | omega | (rw [wN]; omega))
  simp only [List.cons.injEq, and_true] at this
  obtain ⟨a, b, c, e, f⟩ := this
  exact ⟨qK8 hd hd' a, b, qK8 hw hw' c, e, f⟩
theorem zS5 {w w' : Nat} {id id' ky ky' : List UInt8} (hw : w ≤ 1000000) (hw' : w' ≤ 1000000) (hi : id.length ≤ 65535) (hi' : id'.length ≤ 65535) (hk : ky.length ≤ 65535) (hk' : ky'.length ≤ 65535) (h : kN id ky w = kN id' ky' w') : id = id' ∧ ky = ky' ∧ w = w' := by
  have := (tQ (by decide) (by decide) h).2 rfl (by
    intro x hx
    simp only [List.mem_cons, List.not_mem_nil, or_false] at hx
    rcases hx with rfl | rfl | rfl <;> first | omega | (rw [wN]; omega)) (by
    intro x hx
    simp only [List.mem_cons, List.not_mem_nil, or_false] at hx
    rcases hx with rfl | rfl | rfl <;> first | omega | (rw [wN]; omega))
  simp only [List.cons.injEq, and_true] at this
  obtain ⟨a, b, c⟩ := this
  exact ⟨a, b, qK8 hw hw' c⟩
theorem qT1 {d w w' : Nat} {pf l r id ky : List UInt8} (h : vE d pf w l r = kN id ky w') : False := by
  have := (tQ (by decide) (by decide) h).1
  omega
theorem qM7 {d w : Nat} {pf l r : List UInt8} (h : vE d pf w l r = emptyB) : False := by
  have := (tQ (by decide) (by decide) h).1
  omega
theorem qL4 {w : Nat} {id ky : List UInt8} (h : kN id ky w = emptyB) : False := by
  have := (tQ (by decide) (by decide) h).1
  omega
section
variable {K : Type}
theorem jM (n : Int) (l : List UInt8) : (vB n l).length ≤ 32 := by
  have := dB l
  simp only [vB, List.length_take, this]; omega
end
end Go.Gh
namespace Go.Gh
open Go Go.Proofs Go.RowKit Go.ChangeShapes Go.WideShapes Go.ChangeAt
set_option linter.unusedVariables false
set_option linter.unusedSimpArgs false
set_option maxRecDepth 100000
set_option maxHeartbeats 1000000
def Pn.bulk {K : Type} (f : K → Nat) (p : Pn K) : Nat := p.id.length + p.ky.length + p.pf.length + p.lf.length + p.rt.length + (p.kids.map f).sum + 10
def Pd.bulk : (n : Nat) → Pd n → Nat
  | 0, p => nomatch (show Empty from p)
  | n + 1, p => Pn.bulk (Pd.bulk n) p
theorem zN3 {α : Type} (g : α → Nat) (h : ∀ x, 1 ≤ g x) : ∀ l : List α, l.length ≤ (l.map g).sum
  | [] => by simp
  | x :: l => by
    have := zN3 g h l
    have := h x
    simp only [List.length_cons, List.map_cons, List.sum_cons]
    omega
abbrev ptF (T : Ty) : Ty := .fcons (.i .i64) (.fcons .bs (.fcons .bs (.fcons (.i .i64) (.fcons (.i .i64) (.fcons .bs (.fcons (.i .i64) (.fcons .bs (.fcons .bs (.fcons (.sl T) .fnil)))))))))
def qD3 : Nat → Ty
  | 0 => .no 10
  | n + 1 => ptF (qD3 n)
theorem qR2 (n : Nat) : (qD3 n).size = 10 := by cases n <;> rfl
theorem ptF_ok (T : Ty) (hs : T.size = 10) (h : T.ok Tryz.prog 26 = true) : (ptF T).ok Tryz.prog 26 = true := by
  have e1 : (Tryz.prog).underlying 24 = some (.slice 26) := Tryz.underlying24
  have e2 : (Tryz.prog).cellsOf 26 = 10 := by kernel_rfl
  have e3 : decide (0 < (Tryz.prog).bytesOf 26) = true := by kernel_rfl
  have h2 : (Ty.sl T).ok Tryz.prog 24 = true := by
    rw [Ty.ok_sl, e1]
    simp only [h, e2, e3, hs]
    kernel_rfl
  have a3 : Ty.ok Tryz.prog (.i .i64) 3 = true := by kernel_rfl
  have a23 : Ty.ok Tryz.prog .bs 22 = true := by kernel_rfl
  have c3 : (Tryz.prog).cellsOf 3 = 1 := by kernel_rfl
  have c23 : (Tryz.prog).cellsOf 22 = 1 := by kernel_rfl
  have c29 : (Tryz.prog).cellsOf 24 = 1 := by kernel_rfl
  rw [Ty.ok_fcons, Tryz.underlying26]
  simp only [Ty.okF_cons, h2, a3, a23, c3, c23, c29, e2, Ty.size]
  rfl
theorem zN7 : ∀ n, (qD3 n).ok Tryz.prog 26 = true
  | 0 => by kernel_rfl
  | n + 1 => ptF_ok _ (qR2 n) (zN7 n)
theorem qR3 : ∀ n f, f ≤ 2 * n → (qD3 n).safe f
  | 0, f, h => by
    show f = 0
    omega
  | n + 1, f, h => ⟨trivial, trivial, trivial, trivial, trivial, trivial, trivial, trivial, trivial, qR3 n (f - 1 - 1) (by omega), trivial⟩
def ptv : (n : Nat) → (qD3 n).den → Pd n
  | 0, y => nomatch (show Empty from y)
  | n + 1, (y1, y2, y3, y4, y5, y6, y7, y8, y9, y10, _) => (⟨y1, y4, y5, y7, y2, y3, y6, y8, y9, List.map (ptv n) y10⟩ : Pn (Pd n))
theorem pt_R : ∀ (n : Nat) {h : GH} {cs : List Value} {y : (qD3 n).den}, (qD3 n).R h cs y → RPd n h cs (ptv n y)
  | 0, _, _, y, _ => nomatch (show Empty from y)
  | n + 1, h, cs, (y1, y2, y3, y4, y5, y6, y7, y8, y9, y10, y11), r => by
    obtain ⟨_, _, rfl, _, ⟨rfl, _⟩, _, _, rfl, _, ⟨v2, rfl, r2, _⟩, _, _, rfl, _, ⟨v3, rfl, r3, _⟩, _, _, rfl, _, ⟨rfl, _⟩, _, _, rfl, _, ⟨rfl, _⟩, _, _, rfl, _, ⟨v6, rfl, r6, _⟩, _, _, rfl, _, ⟨rfl, _⟩, _, _, rfl, _, ⟨v8, rfl, r8, _⟩, _, _, rfl, _, ⟨v9, rfl, r9, _⟩, _, _, rfl, _, ⟨v10, rfl, r10, _⟩, rfl⟩ := r
    rw [qR2] at r10
    have r10' : RL 10 (RPd n) h v10 (List.map (ptv n) y10) := RL.map (R' := RPd n) r10 _ fun cs x hx => pt_R n hx
    obtain ⟨a2, c2, rfl, _⟩ := r2.form
    obtain ⟨a3, c3, rfl, _⟩ := r3.form
    obtain ⟨a6, c6, rfl, _⟩ := r6.form
    obtain ⟨a8, c8, rfl, _⟩ := r8.form
    obtain ⟨a9, c9, rfl, _⟩ := r9.form
    obtain ⟨a10, c10, rfl, _⟩ := r10'.form
    exact ⟨a2, c2, a3, c3, a6, c6, a8, c8, a9, c9, a10, c10, rfl, r2, r3, r6, r8, r9, r10'⟩
theorem map_sum {α β : Type} (f : α → β) (g : β → Nat) (k : α → Nat) (h : ∀ x, g (f x) = k x) (l : List α) : ((l.map f).map g).sum = (l.map k).sum := by
  rw [List.map_map]
  congr 1
  exact List.map_congr_left fun x _ => h x
theorem zN6 : ∀ (n : Nat) (y : (qD3 n).den), (ptv n y).bulk n = (qD3 n).bulk y
  | 0, y => nomatch (show Empty from y)
  | n + 1, (y1, y2, y3, y4, y5, y6, y7, y8, y9, y10, y11) => by
    have e := map_sum (ptv n) (Pd.bulk n) (qD3 n).bulk (zN6 n) y10
    show List.length y2 + List.length y3 + List.length y6 + List.length y8 + List.length y9 + ((List.map (ptv n) y10).map (Pd.bulk n)).sum + 10 =
      1 + ((List.length y2 + 1) + ((List.length y3 + 1) + (1 + (1 + ((List.length y6 + 1) + (1 + ((List.length y8 + 1) + ((List.length y9 + 1) + (((List.map (qD3 n).bulk y10).sum + 1) + 0)))))))))
    generalize ((List.map (ptv n) y10).map (Pd.bulk n)).sum = S at e ⊢
    generalize (List.map (qD3 n).bulk y10).sum = S' at e ⊢
    generalize List.length y2 = a2
    generalize List.length y3 = a3
    generalize List.length y6 = a6
    generalize List.length y8 = a8
    generalize List.length y9 = a9
    omega
end Go.Gh
namespace Go.Gh
open Go Go.Proofs Go.RowKit
set_option linter.unusedVariables false
set_option linter.unusedSimpArgs false
set_option maxRecDepth 100000
set_option maxHeartbeats 4000000
theorem zP9 : ∀ l m : List UInt8, 8 * l.length ≤ wR l m → Lib.compareBytes l m ≤ 0
  | [], [], _ => by simp [Lib.compareBytes]
  | [], _ :: _, _ => by simp [Lib.compareBytes]
  | a :: l, [], h => by simp [wR] at h
  | a :: l, b :: m, h => by
    by_cases hab : a = b
    · subst hab
      simp only [wR, if_true, List.length_cons] at h
      have := zP9 l m (by omega)
      simpa [Lib.compareBytes, UInt8.lt_irrefl] using this
    · have := (rG hab).1
      simp only [wR, if_neg hab, List.length_cons] at h
      omega
theorem zF5 : ∀ l m : List UInt8, wR l m < 8 * l.length → 8 * m.length ≤ wR l m → 0 < Lib.compareBytes l m
  | [], _, h, _ => by simp at h
  | a :: l, [], h, _ => by simp [Lib.compareBytes]
  | a :: l, b :: m, h, h2 => by
    by_cases hab : a = b
    · subst hab
      simp only [wR, if_true, List.length_cons] at h h2
      have := zF5 l m (by omega) (by omega)
      simpa [Lib.compareBytes, UInt8.lt_irrefl] using this
    · have := (rG hab).1
      simp only [wR, if_neg hab, List.length_cons] at h2
      omega
def Gt (d : Nat) (l m : List UInt8) : Prop := ∃ t, t < d ∧ (∀ u, u < t → 0 ≤ zZ l u ∧ zZ l u = zZ m u) ∧ zZ m t < zZ l t
theorem gbit_m1 {l : List UInt8} {i : Nat} (h : ¬ i < 8 * l.length) : zZ l i < 0 := by
  have := mt gbit_nonneg.1 h
  omega
theorem cmp_gt {l m : List UInt8} : 0 < Lib.compareBytes l m ↔ Gt (8 * l.length) l m := by
  have hs := gK l m
  constructor
  · intro h
    have h1 : wR l m < 8 * l.length := by
      by_cases q : 8 * l.length ≤ wR l m
      · have := zP9 l m q; omega
      · omega
    refine ⟨wR l m, h1, hs.1, ?_⟩
    by_cases h2 : wR l m < 8 * m.length
    · have := qN3 l m h1 h2
      omega
    · have := gbit_m1 (l := m) (i := wR l m) (by omega)
      have := gbit_nonneg.2 h1
      omega
  · rintro ⟨t, h1, h2, h3⟩
    have e : wR l m = t := gJ h2 (.inr (by omega))
    by_cases q : t < 8 * m.length
    · rw [qN3 l m (by omega) (by omega), e]; omega
    · exact zF5 l m (by omega) (by omega)
def Sm (d : Nat) (l m : List UInt8) : Prop := ∀ i, i < d → 0 ≤ zZ l i ∧ zZ l i = zZ m i
theorem Sm.symm {d : Nat} {l m : List UInt8} (s : Sm d l m) : Sm d m l := fun i hi => ⟨by have := s i hi; omega, (s i hi).2.symm⟩
theorem Sm.trans {d : Nat} {l m k : List UInt8} (s : Sm d l m) (s2 : Sm d m k) : Sm d l k := fun i hi => ⟨(s i hi).1, (s i hi).2.trans (s2 i hi).2⟩
theorem Sm.le {d e : Nat} {l m : List UInt8} (s : Sm d l m) (h : e ≤ d) : Sm e l m := fun i hi => s i (by omega)
theorem Gt.sm {d e : Nat} {l k m : List UInt8} (g : Gt d l m) (s : Sm d l k) (h : d ≤ e) : Gt e k m := by
  obtain ⟨t, h1, h2, h3⟩ := g
  refine ⟨t, by omega, fun u hu => ?_, ?_⟩
  · have a := h2 u hu
    have b := s u (by omega)
    omega
  · have b := s t h1
    omega
theorem qK5 {d : Nat} {pf row : List UInt8} (h : pF pf (d : Int) row < 0) : ∃ t, t < d ∧ (∀ u, u < t → 0 ≤ zZ pf u ∧ zZ pf u = zZ row u) ∧ 0 ≤ zZ pf t ∧ zZ pf t < zZ row t := by
  unfold pF at h
  split at h
  · omega
  · rename_i hn
    simp only [not_or, Int.not_le, ge_iff_le] at hn
    split at h
    · rename_i hlt
      exact ⟨wR pf row, by omega, (gK pf row).1, gbit_nonneg.2 (by omega), hlt⟩
    · split at h <;> omega
theorem side_gt {d : Nat} {pf row : List UInt8} (h : Gt d pf row) : ¬ pF pf (d : Int) row < 0 := by
  intro hn
  obtain ⟨t, h1, h2, h3⟩ := h
  obtain ⟨t', g1, g2, g3, g4⟩ := qK5 hn
  have e : wR pf row = t := gJ h2 (.inr (by omega))
  have e' : wR pf row = t' := gJ g2 (.inr (by omega))
  obtain rfl : t = t' := by omega
  omega
theorem side_key {d : Nat} {pf row key : List UInt8} (h : pF pf (d : Int) row < 0) (s : Sm d key pf) : ¬ 0 < Lib.compareBytes key row := by
  intro hn
  obtain ⟨t, h1, h2, h3⟩ := cmp_gt.1 hn
  obtain ⟨t', g1, g2, g3, g4⟩ := qK5 h
  have e : wR key row = t := gJ h2 (.inr (by omega))
  have e' : wR key row = t' := gJ (fun u hu => by have a := s u (by omega); have b := g2 u hu; omega) (.inr (by have a := s t' g1; omega))
  obtain rfl : t = t' := by omega
  have := s t g1
  omega
theorem zR7 {d e : Nat} {pf row k : List UInt8} (h : pF pf (d : Int) row < 0) (s : Sm d k pf) (hd : d ≤ e) (hk : e ≤ 8 * k.length) : pF k (e : Int) row < 0 := by
  obtain ⟨t', g1, g2, g3, g4⟩ := qK5 h
  have e' : wR k row = t' := gJ (fun u hu => by have a := s u (by omega); have b := g2 u hu; omega) (.inr (by have a := s t' g1; omega))
  have a := s t' g1
  have hr : t' < 8 * row.length := gbit_nonneg.1 (by omega)
  unfold pF
  rw [e', if_neg (by omega), if_pos (by omega)]
  decide
def Pn.newest {K : Type} (p : Pn K) : Int := if p.kd = 1 then p.si else p.nw
def kJ {K L : Type} (up : Pn K) (s : Int) (k : Pn L) : Bool := (k.kd == 1 || (k.kd != 0 && decide (k.dp > up.dp))) && sB k.bits up.pf up.dp && (zZ k.bits up.dp.toNat == s)
def wO (size : Int) : (n : Nat) → Pn (Pd n) → Bool
  | 0, p => p.right size && !(p.kd == 3)
  | n + 1, p => p.right size && (!(p.kd == 3) || (match p.kids with
    | [a, b] => kJ p 0 (show Pn (Pd n) from a) && wO size n a && (kJ p 1 (show Pn (Pd n) from b) && wO size n b) && (max (max 0 (Pn.newest (show Pn (Pd n) from a))) (Pn.newest (show Pn (Pd n) from b)) == p.nw)
    | _ => false))
def vA (size : Int) : (n : Nat) → Pn (Pd n) → List UInt8
  | 0, p => yW p
  | n + 1, p => if p.kd = 3 then (match p.kids with | [a, b] => vE p.dp.toNat p.pf p.nw.toNat (vB size (vA size n a)) (vB size (vA size n b)) | _ => []) else yW p
structure Pq where
  (fr : Int)
  (sm : Bool)
  (row : List UInt8)
  (lim : Int)
def Pq.idle {K : Type} (q : Pq) (p : Pn K) : Bool := decide (p.nw ≤ q.fr) || (q.sm && decide (pF p.pf p.dp q.row < 0))
def Pq.has (q : Pq) (id : List UInt8) (si : Int) : Bool := decide (si > q.fr) && (!q.sm || decide (Lib.compareBytes (zM id) q.row > 0))
abbrev St : Type := List Pt × Bool
def Pq.full (q : Pq) (s : St) : Bool := decide ((s.1.length : Int) ≥ q.lim)
def Pq.see {K : Type} (q : Pq) (p : Pn K) (s : St) : St := if q.has p.id p.si = true then (if q.full s = true then (s.1, true) else (s.1 ++ [((p.id, p.ky), p.si)], s.2)) else s
def lH {K : Type} (q : Pq) (p : Pn K) (s : St) : Bool × St := if p.kd = 1 then (true, q.see p s) else if p.kd = 2 then (if q.idle p = true then (true, s) else (q.full s, (s.1, true))) else (true, s)
def uN (q : Pq) : (n : Nat) → Pn (Pd n) → St → Bool × St
  | 0, p, s => lH q p s
  | n + 1, p, s => if p.kd = 3 then (match p.kids with
    | [a, b] => (match uN q n a s with | (true, s1) => uN q n b s1 | (false, s1) => (false, s1))
    | _ => (true, s)) else lH q p s
def dN (size : Int) : (n m : Nat) → Pn (Pd n) → Pn (Pd m) → Option (List UInt8 × List UInt8)
  | 0, m, p, r => if vA size 0 p ≠ vA size m r then some (vA size 0 p, vA size m r) else none
  | n + 1, 0, p, r => if vA size (n + 1) p ≠ vA size 0 r then some (vA size (n + 1) p, vA size 0 r) else none
  | n + 1, m + 1, p, r => if vA size (n + 1) p ≠ vA size (m + 1) r then some (vA size (n + 1) p, vA size (m + 1) r) else if p.kd = 3 ∧ r.kd = 3 then (match p.kids, r.kids with
    | [a, b], [c, d] => (dN size n m a c).or (dN size n m b d)
    | _, _ => none) else none
def qP2 : (n : Nat) → Pn (Pd n) → (k : Nat) → Pn (Pd k) → Pn (Pd k) → Prop
  | 0, _, _, _, _ => False
  | n + 1, p, k, a, b => ∃ e : n = k, p.kids = [(e ▸ a : Pn (Pd n)), (e ▸ b : Pn (Pd n))]
section
variable {size : Int} {n : Nat} {p : Pn (Pd n)}
theorem vG (h : wO size n p = true) : p.right size = true := by
  cases n with
  | zero => simp only [wO, Bool.and_eq_true] at h; exact h.1
  | succ m => simp only [wO, Bool.and_eq_true] at h; exact h.1
theorem gV (h : wO size n p = true) (h3 : p.kd = 3) : ∃ k, ∃ a b : Pn (Pd k), k < n ∧ qP2 n p k a b ∧ kJ p 0 a = true ∧ wO size k a = true ∧ kJ p 1 b = true ∧ wO size k b = true ∧ max (max 0 a.newest) b.newest = p.nw := by
  cases n with
  | zero => simp [wO, h3] at h
  | succ m =>
    simp only [wO, h3, beq_self_eq_true, Bool.not_true, Bool.false_or, Bool.and_eq_true] at h
    obtain ⟨_, h⟩ := h
    split at h
    · rename_i a b hk
      simp only [Bool.and_eq_true, beq_iff_eq] at h
      obtain ⟨⟨⟨h1, h2⟩, h4, h5⟩, h6⟩ := h
      exact ⟨m, a, b, by omega, ⟨rfl, hk⟩, h1, h2, h4, h5, h6⟩
    · cases h
theorem jZ (h3 : p.kd ≠ 3) : vA size n p = yW p := by
  cases n with
  | zero => rfl
  | succ m => simp only [vA, if_neg h3]
theorem tP {k : Nat} {a b : Pn (Pd k)} (h3 : p.kd = 3) (hk : qP2 n p k a b) : vA size n p = vE p.dp.toNat p.pf p.nw.toNat (vB size (vA size k a)) (vB size (vA size k b)) := by
  cases n with
  | zero => exact hk.elim
  | succ m =>
    obtain ⟨rfl, hk⟩ := hk
    simp only [vA, if_pos h3, hk]
theorem jT {q : Pq} {s : St} (h3 : p.kd ≠ 3) : uN q n p s = lH q p s := by
  cases n with
  | zero => rfl
  | succ m => simp only [uN, if_neg h3]
theorem fL {q : Pq} {s : St} {k : Nat} {a b : Pn (Pd k)} (h3 : p.kd = 3) (hk : qP2 n p k a b) : uN q n p s = (match uN q k a s with | (true, s1) => uN q k b s1 | (false, s1) => (false, s1)) := by
  cases n with
  | zero => exact hk.elim
  | succ m =>
    obtain ⟨rfl, hk⟩ := hk
    simp only [uN, if_pos h3, hk]
    all_goals (rcases uN q m a s with ⟨_ | _, s1⟩ <;> rfl)
theorem qV0 {m : Nat} {r : Pn (Pd m)} (h : vA size n p ≠ vA size m r) : dN size n m p r = some (vA size n p, vA size m r) := by
  cases n <;> cases m <;> simp only [dN, if_pos h]
theorem dS {m : Nat} {r : Pn (Pd m)} (h : vA size n p = vA size m r) (h3 : ¬ (p.kd = 3 ∧ r.kd = 3)) : dN size n m p r = none := by
  cases n <;> cases m <;> simp only [dN, ne_eq, h, not_true_eq_false, if_false, h3]
theorem qK0 {m : Nat} {r : Pn (Pd m)} (h : vA size n p = vA size m r) {k l : Nat} {a b : Pn (Pd k)} {c d : Pn (Pd l)} (h3 : p.kd = 3) (h4 : r.kd = 3) (hk : qP2 n p k a b) (hl : qP2 m r l c d) : dN size n m p r = (dN size k l a c).or (dN size k l b d) := by
  cases n with
  | zero => exact hk.elim
  | succ n =>
    cases m with
    | zero => exact hl.elim
    | succ m =>
      obtain ⟨rfl, hk⟩ := hk
      obtain ⟨rfl, hl⟩ := hl
      simp only [dN, ne_eq, h, not_true_eq_false, if_false, h3, h4, and_self, if_true, hk, hl]
end
section
variable {K L : Type}
def dpt (p : Pn K) : Nat := if p.kd = 1 then 8 * (zM p.id).length else p.dp.toNat
theorem Pn.kinds {p : Pn K} {size : Int} (h : p.right size = true) : p.kd = 0 ∨ p.kd = 1 ∨ ((p.kd = 2 ∨ p.kd = 3) ∧ p.frk = true) := by
  unfold Pn.right at h
  split at h
  · exact .inl ‹_›
  split at h
  · exact .inr (.inl ‹_›)
  split at h
  · simp only [Bool.and_eq_true] at h
    exact .inr (.inr ⟨.inl ‹_›, h.1.1⟩)
  split at h
  · simp only [Bool.and_eq_true] at h
    exact .inr (.inr ⟨.inr ‹_›, h.1.1⟩)
  · cases h
theorem Pn.bits_1 {p : Pn K} (h : p.kd = 1) : p.bits = zM p.id := by unfold Pn.bits; rw [if_pos h]
theorem Pn.bits_f {p : Pn K} (h : p.kd ≠ 1) : p.bits = p.pf := by unfold Pn.bits; rw [if_neg h]
theorem zP7 {p : Pn K} (h : p.kd = 1) : dpt p = 8 * (zM p.id).length := by unfold dpt; rw [if_pos h]
theorem qB5 {p : Pn K} (h : p.kd ≠ 1) : dpt p = p.dp.toNat := by unfold dpt; rw [if_neg h]
theorem Sm.self {l : List UInt8} {d : Nat} (h : d ≤ 8 * l.length) : Sm d l l := fun i hi => ⟨gbit_nonneg.2 (by omega), rfl⟩
theorem dpt_le {p : Pn K} {size : Int} (h : p.right size = true) (h0 : p.kd ≠ 0) : dpt p ≤ 8 * p.bits.length := by
  rcases p.kinds h with k | k | ⟨k, f⟩
  · exact absurd k h0
  · rw [zP7 k, Pn.bits_1 k]
    exact Nat.le_refl _
  · have := p.frk_ok f
    rw [qB5 (by omega), Pn.bits_f (by omega)]; omega
theorem pT {up : Pn K} {s : Int} {k : Pn L} (h : kJ up s k = true) (hd : 0 ≤ up.dp) (hs : 0 ≤ s) : k.kd ≠ 0 ∧ up.dp.toNat < dpt k ∧ Sm up.dp.toNat k.bits up.pf ∧ zZ k.bits up.dp.toNat = s ∧ (k.kd ≠ 1 → up.dp < k.dp) := by
  unfold kJ at h
  simp only [Bool.and_eq_true, Bool.or_eq_true, beq_iff_eq, bne_iff_ne, decide_eq_true_eq] at h
  obtain ⟨⟨h1, h2⟩, h3⟩ := h
  have e : up.dp = (up.dp.toNat : Int) := by omega
  rw [e] at h2
  have h4 := (dF _ _ _).1 h2
  have h5 := gbit_nonneg.1 (show 0 ≤ zZ k.bits up.dp.toNat by omega)
  refine ⟨by omega, ?_, h4, h3, by omega⟩
  by_cases k1 : k.kd = 1
  · rw [Pn.bits_1 k1] at h5
    rw [zP7 k1]; exact h5
  · rw [qB5 k1]; omega
theorem lJ {p : Pn K} {size : Int} (h : p.right size = true) (h0 : p.kd ≠ 0) : 0 ≤ p.newest := by
  unfold Pn.newest
  rcases p.kinds h with k | k | ⟨k, f⟩
  · exact absurd k h0
  · have := p.right_leaf h k
    rw [if_pos k]; omega
  · have := p.frk_ok f
    rw [if_neg (by omega)]; omega
def zL2 (q : Pq) (p : Pn K) : Bool := if p.kd = 1 then !q.has p.id p.si else if p.kd = 0 then true else q.idle p
theorem zF4 {q : Pq} {up : Pn K} {s : Int} {k : Pn L} {size : Int} (h : kJ up s k = true) (hd : 0 ≤ up.dp) (hs : 0 ≤ s) (hr : k.right size = true) (hn : k.newest ≤ up.nw) (hi : q.idle up = true) : zL2 q k = true := by
  obtain ⟨h0, h1, h2, h3, h4⟩ := pT h hd hs
  have hl := dpt_le hr h0
  have e : up.dp = (up.dp.toNat : Int) := by omega
  unfold Pq.idle at hi
  simp only [Bool.or_eq_true, Bool.and_eq_true, decide_eq_true_eq] at hi
  unfold zL2
  by_cases k1 : k.kd = 1
  · rw [if_pos k1]
    unfold Pq.has
    unfold Pn.newest at hn
    rw [if_pos k1] at hn
    rw [Pn.bits_1 k1] at h2
    rcases hi with hi | ⟨hi, hi2⟩
    · simp [show ¬ k.si > q.fr by omega]
    · rw [e] at hi2
      have := side_key hi2 h2
      simp [hi]
      omega
  · rw [if_neg k1, if_neg h0]
    unfold Pq.idle
    unfold Pn.newest at hn
    rw [if_neg k1] at hn
    rw [Pn.bits_f k1] at h2 hl
    have hd2 := h4 k1
    rw [qB5 k1] at hl
    rcases hi with hi | ⟨hi, hi2⟩
    · simp [show k.nw ≤ q.fr by omega]
    · rw [e] at hi2
      have := zR7 hi2 h2 (e := k.dp.toNat) (by omega) hl
      rw [show ((k.dp.toNat : Nat) : Int) = k.dp by omega] at this
      simp [hi, this]
end
theorem zB5 {size : Int} {q : Pq} : ∀ (n : Nat) (p : Pn (Pd n)), wO size n p = true → zL2 q p = true → ∀ s, uN q n p s = (true, s) := by
  intro n
  induction n using Nat.strongRecOn with
  | _ n ih =>
    intro p hm hd s
    have hr := vG hm
    by_cases h3 : p.kd = 3
    · obtain ⟨k, a, b, hk, ho, ka, ma, kb, mb, hx⟩ := gV hm h3
      have hf : p.frk = true := by rcases p.kinds hr with q | q | q <;> first | omega | exact q.2
      have hf := p.frk_ok hf
      have hi : q.idle p = true := by unfold zL2 at hd; rwa [if_neg (by omega), if_neg (by omega)] at hd
      rw [fL h3 ho, ih k hk a ma (zF4 ka (by omega) (by decide) (vG ma) (by omega) hi)]
      exact ih k hk b mb (zF4 kb (by omega) (by decide) (vG mb) (by omega) hi) s
    · rw [jT h3]
      unfold lH
      unfold zL2 at hd
      by_cases h1 : p.kd = 1
      · rw [if_pos h1] at hd ⊢
        unfold Pq.see
        rw [if_neg (by simpa using hd)]
      · rw [if_neg h1] at hd ⊢
        by_cases h2 : p.kd = 2
        · rw [if_neg (by omega)] at hd
          rw [if_pos h2, if_pos hd]
        · rw [if_neg h2]
def dQ {K : Type} (q : Pq) (p : Pn K) : Bool := p.kd != 0 && decide (p.newest > q.fr)
theorem zB4 {size : Int} {q : Pq} : ∀ (n : Nat) (p : Pn (Pd n)), wO size n p = true → ∀ s, q.full s = true → (q.sm = true → Gt (dpt p) p.bits q.row) → uN q n p s = (true, (s.1, s.2 || dQ q p)) := by
  intro n
  induction n using Nat.strongRecOn with
  | _ n ih =>
    intro p hm s hfu hg
    have hr := vG hm
    by_cases h3 : p.kd = 3
    · obtain ⟨k, a, b, hk, ho, ka, ma, kb, mb, hx⟩ := gV hm h3
      have hf : p.frk = true := by rcases p.kinds hr with q | q | q <;> first | omega | exact q.2
      have hf := p.frk_ok hf
      rw [qB5 (by omega), Pn.bits_f (by omega)] at hg
      obtain ⟨a0, a1, a2, a3, _⟩ := pT ka (by omega) (by decide)
      obtain ⟨b0, b1, b2, b3, _⟩ := pT kb (by omega) (by decide)
      have na := lJ (vG ma) a0
      have nb := lJ (vG mb) b0
      rw [fL h3 ho, ih k hk a ma s hfu (fun z => (hg z).sm a2.symm (by omega))]
      simp only
      rw [ih k hk b mb _ (by unfold Pq.full at hfu ⊢; exact hfu) (fun z => (hg z).sm b2.symm (by omega))]
      simp only
      have e : dQ q p = (dQ q a || dQ q b) := by
        have en : p.newest = p.nw := by unfold Pn.newest; rw [if_neg (by omega)]
        unfold dQ
        rw [en, ← hx]
        have z0 : (p.kd != 0) = true := by simp; omega
        have z1 : (a.kd != 0) = true := by simpa using a0
        have z2 : (b.kd != 0) = true := by simpa using b0
        rw [z0, z1, z2, Bool.true_and, Bool.true_and, Bool.true_and, ← Bool.decide_or, decide_eq_decide]
        omega
      rw [e, Bool.or_assoc]
    · rw [jT h3]
      unfold lH
      by_cases h1 : p.kd = 1
      · rw [if_pos h1]
        have eh : q.has p.id p.si = dQ q p := by
          unfold Pq.has dQ Pn.newest
          rw [if_pos h1, show (p.kd != 0) = true by simp; omega, Bool.true_and]
          cases hsm : q.sm with
          | false => simp
          | true =>
            have := hg hsm
            rw [zP7 h1, Pn.bits_1 h1] at this
            have := cmp_gt.2 this
            simp [this]
        unfold Pq.see
        rw [eh]
        cases dQ q p with
        | false => simp
        | true => simp [hfu]
      · rw [if_neg h1]
        by_cases h2 : p.kd = 2
        · rw [if_pos h2]
          have hf : p.frk = true := by rcases p.kinds hr with q | q | q <;> first | omega | exact q.2
          have hf := p.frk_ok hf
          rw [qB5 (by omega), Pn.bits_f (by omega)] at hg
          have ei : q.idle p = !dQ q p := by
            unfold Pq.idle dQ Pn.newest
            rw [if_neg h1, show (p.kd != 0) = true by simp; omega, Bool.true_and]
            have e2 : (q.sm && decide (pF p.pf p.dp q.row < 0)) = false := by
              cases hsm : q.sm with
              | false => rfl
              | true =>
                have := side_gt (hg hsm)
                rw [show ((p.dp.toNat : Nat) : Int) = p.dp by omega] at this
                simp; omega
            rw [e2, Bool.or_false, ← decide_not, decide_eq_decide]
            omega
          rw [ei]
          cases dQ q p with
          | false => simp
          | true => simp [hfu]
        · rw [if_neg h2]
          have : p.kd = 0 := by rcases p.kinds hr with q | q | q <;> omega
          simp [dQ, this]
theorem law_seen {size : Int} {q : Pq} (hsm : q.sm = true) : ∀ (n : Nat) (p : Pn (Pd n)), wO size n p = true → ∀ s, s.1 = [] → (uN q n p s).2.1 ≠ [] → ∃ key, Sm (dpt p) key p.bits ∧ 0 < Lib.compareBytes key q.row := by
  intro n
  induction n using Nat.strongRecOn with
  | _ n ih =>
    intro p hm s h0 hn
    have hr := vG hm
    by_cases h3 : p.kd = 3
    · obtain ⟨k, a, b, hk, ho, ka, ma, kb, mb, hx⟩ := gV hm h3
      have hf : p.frk = true := by rcases p.kinds hr with q | q | q <;> first | omega | exact q.2
      have hf := p.frk_ok hf
      obtain ⟨a0, a1, a2, a3, _⟩ := pT ka (by omega) (by decide)
      obtain ⟨b0, b1, b2, b3, _⟩ := pT kb (by omega) (by decide)
      rw [qB5 (by omega), Pn.bits_f (by omega)]
      rw [fL h3 ho] at hn
      by_cases ha : (uN q k a s).2.1 = []
      · generalize hz : uN q k a s = z at hn ha
        obtain ⟨_ | _, s1⟩ := z
        · exact absurd ha hn
        · obtain ⟨key, k1, k2⟩ := ih k hk b mb s1 ha hn
          exact ⟨key, (k1.le (by omega)).trans b2, k2⟩
      · obtain ⟨key, k1, k2⟩ := ih k hk a ma s h0 ha
        exact ⟨key, (k1.le (by omega)).trans a2, k2⟩
    · rw [jT h3] at hn
      unfold lH at hn
      by_cases h1 : p.kd = 1
      · rw [if_pos h1] at hn
        rw [zP7 h1, Pn.bits_1 h1]
        unfold Pq.see at hn
        by_cases hh : q.has p.id p.si = true
        · unfold Pq.has at hh
          simp only [hsm, Bool.not_true, Bool.false_or, Bool.and_eq_true, decide_eq_true_eq] at hh
          exact ⟨zM p.id, Sm.self (Nat.le_refl _), by omega⟩
        · rw [if_neg hh] at hn
          exact absurd h0 hn
      · rw [if_neg h1] at hn
        exfalso
        split at hn
        · split at hn <;> exact hn h0
        · exact hn h0
theorem law_next {d : Nat} {key row pf bb : List UInt8} (h1 : Sm d key pf) (h2 : zZ key d = 0) (h3 : Sm d bb pf) (h4 : zZ bb d = 1) (h : 0 < Lib.compareBytes key row) : Gt (d + 1) bb row := by
  obtain ⟨t, g1, g2, g3⟩ := cmp_gt.1 h
  by_cases ht : t < d
  · refine ⟨t, by omega, fun u hu => ?_, ?_⟩
    · have := g2 u hu; have := h1 u (by omega); have := h3 u (by omega); omega
    · have := h1 t ht; have := h3 t ht; omega
  · refine ⟨d, by omega, fun u hu => ?_, ?_⟩
    · have := g2 u (by omega); have := h1 u (by omega); have := h3 u (by omega); omega
    · by_cases he : t = d
      · subst he; omega
      · have := g2 d (by omega); omega
theorem lR {size : Int} {n : Nat} {p : Pn (Pd n)} (hs : size ≤ 32) (hm : wO size n p = true) (hk : p.kd = 2 ∨ p.kd = 3) : ∃ l r, vA size n p = vE p.dp.toNat p.pf p.nw.toNat l r ∧ l.length ≤ 32 ∧ r.length ≤ 32 := by
  rcases hk with hk | hk
  · obtain ⟨f, a, b, _⟩ := p.right_closed (vG hm) hk
    refine ⟨p.lf, p.rt, ?_, by omega, by omega⟩
    rw [jZ (by omega)]
    unfold yW
    rw [if_neg (by omega), if_pos hk]
  · obtain ⟨k, a, b, _, ho, _⟩ := gV hm hk
    exact ⟨_, _, tP hk ho, jM _ _, jM _ _⟩
theorem span_law {size : Int} (hs : size ≤ 32) (q : Pq) (hlim : 1 ≤ q.lim) : ∀ (n m : Nat) (p : Pn (Pd n)) (r : Pn (Pd m)), wO size n p = true → wO size m r = true → vB size (vA size n p) = vB size (vA size m r) →
    (∃ u v, dN size n m p r = some (u, v) ∧ vB size u = vB size v) ∨
    (dN size n m p r = none ∧ ∀ s, (s.1 ≠ [] → q.sm = true → Gt (dpt p) p.bits q.row) → ∀ s1 s2, uN q n p s = (true, s1) → uN q m r s = (true, s2) → s1 = s2) := by
  intro n
  induction n using Nat.strongRecOn with
  | _ n ih =>
    intro m p r hm hm2 hc
    by_cases ht : vA size n p = vA size m r
    case neg => exact .inl ⟨_, _, qV0 ht, hc⟩
    have hr := vG hm
    have hr2 := vG hm2
    have hfull : ∀ s : St, q.full s = true → s.1 ≠ [] := fun s h e => by
      unfold Pq.full at h
      rw [e] at h
      simp at h
      omega
    rcases p.kinds hr with k0 | k1 | ⟨kf, ff⟩
    · -- nothing
      have e0 : r.kd = 0 := by
        rw [jZ (by omega)] at ht
        unfold yW at ht
        rw [if_neg (by omega), if_neg (by omega)] at ht
        rcases r.kinds hr2 with q0 | q1 | ⟨qf, _⟩
        · exact q0
        · rw [jZ (by omega)] at ht
          unfold yW at ht
          rw [if_pos q1] at ht
          exact (qL4 ht.symm).elim
        · obtain ⟨l, r', e, _, _⟩ := lR hs hm2 qf
          rw [e] at ht
          exact (qM7 ht.symm).elim
      refine .inr ⟨dS ht (by omega), fun s hg s1 s2 h1 h2 => ?_⟩
      rw [jT (by omega)] at h1 h2
      unfold lH at h1 h2
      rw [if_neg (by omega), if_neg (by omega)] at h1 h2
      cases h1; cases h2; rfl
    · have o1 := p.right_leaf hr k1
      have e0 : r.kd = 1 ∧ p.id = r.id ∧ p.ky = r.ky ∧ p.si = r.si := by
        rw [jZ (by omega)] at ht
        unfold yW at ht
        rw [if_pos k1] at ht
        rcases r.kinds hr2 with q0 | q1 | ⟨qf, _⟩
        · rw [jZ (by omega)] at ht
          unfold yW at ht
          rw [if_neg (by omega), if_neg (by omega)] at ht
          exact (qL4 ht).elim
        · rw [jZ (by omega)] at ht
          unfold yW at ht
          rw [if_pos q1] at ht
          have o2 := r.right_leaf hr2 q1
          obtain ⟨e1, e2, e3⟩ := zS5 (by omega) (by omega) (by omega) (by omega) (by omega) (by omega) ht
          exact ⟨q1, e1, e2, by omega⟩
        · obtain ⟨l, r', e, _, _⟩ := lR hs hm2 qf
          rw [e] at ht
          exact (qT1 ht.symm).elim
      refine .inr ⟨dS ht (by omega), fun s hg s1 s2 h1 h2 => ?_⟩
      rw [jT (by omega)] at h1 h2
      unfold lH Pq.see at h1 h2
      rw [if_pos k1, e0.2.1, e0.2.2.1, e0.2.2.2] at h1
      rw [if_pos e0.1] at h2
      rw [h1] at h2
      cases h2; rfl
    · have o1 := p.frk_ok ff
      obtain ⟨lp, rp, etp, llp, lrp⟩ := lR hs hm kf
      have key : (r.kd = 2 ∨ r.kd = 3) ∧ r.frk = true := by
        rcases r.kinds hr2 with q0 | q1 | ⟨qf, f2⟩
        · rw [jZ (p := r) (by omega), etp] at ht
          unfold yW at ht
          rw [if_neg (by omega), if_neg (by omega)] at ht
          exact (qM7 ht).elim
        · rw [jZ (p := r) (by omega), etp] at ht
          unfold yW at ht
          rw [if_pos q1] at ht
          exact (qT1 ht).elim
        · exact ⟨qf, f2⟩
      obtain ⟨qf, f2⟩ := key
      have o2 := r.frk_ok f2
      obtain ⟨lr, rr, etr, llr, lrr⟩ := lR hs hm2 qf
      have inj := ht
      rw [etp, etr] at inj
      obtain ⟨e1, e2, e3, e4, e5⟩ := qT3 (by omega) (by omega) (by omega) (by omega) (by omega) (by omega) (by omega) (by omega) (by omega) (by omega) inj
      rw [o1.2.2.2.2.2.1, o2.2.2.2.2.2.1] at e2
      have edp : p.dp = r.dp := by omega
      have enw : p.nw = r.nw := by omega
      have eidle : q.idle p = q.idle r := by unfold Pq.idle; rw [edp, enw, e2]
      have ebits : dpt p = dpt r ∧ p.bits = r.bits := by
        rw [qB5 (by omega), qB5 (by omega), Pn.bits_f (by omega), Pn.bits_f (by omega), edp, e2]; exact ⟨rfl, rfl⟩
      rcases kf with k2 | k3
      · rcases qf with q2 | q3
        · refine .inr ⟨dS ht (by omega), fun s hg s1 s2 h1 h2 => ?_⟩
          rw [jT (by omega)] at h1 h2
          unfold lH at h1 h2
          rw [if_neg (by omega), if_pos k2, eidle] at h1
          rw [if_neg (by omega), if_pos q2, h1] at h2
          cases h2; rfl
        · refine .inr ⟨dS ht (by omega), fun s hg s1 s2 h1 h2 => ?_⟩
          rw [jT (by omega)] at h1
          unfold lH at h1
          rw [if_neg (by omega), if_pos k2] at h1
          by_cases hi : q.idle p = true
          · rw [if_pos hi] at h1
            rw [zB5 m r hm2 (by unfold zL2; rw [if_neg (by omega), if_neg (by omega), ← eidle]; exact hi) s] at h2
            cases h1; cases h2; rfl
          · rw [if_neg hi] at h1
            simp only [Prod.mk.injEq] at h1
            obtain ⟨h1, rfl⟩ := h1
            rw [zB4 m r hm2 s h1 (by rw [← ebits.1, ← ebits.2]; exact hg (hfull s h1))] at h2
            have : dQ q r = true := by
              unfold Pq.idle at hi
              simp only [Bool.or_eq_true, decide_eq_true_eq, not_or] at hi
              unfold dQ Pn.newest
              rw [if_neg (by omega)]
              simp
              omega
            rw [this, Bool.or_true] at h2
            simp only [Prod.mk.injEq, true_and] at h2
            exact h2
      · rcases qf with q2 | q3
        · refine .inr ⟨dS ht (by omega), fun s hg s1 s2 h2 h1 => ?_⟩
          rw [jT (by omega)] at h1
          unfold lH at h1
          rw [if_neg (by omega), if_pos q2] at h1
          by_cases hi : q.idle r = true
          · rw [if_pos hi] at h1
            rw [zB5 n p hm (by unfold zL2; rw [if_neg (by omega), if_neg (by omega), eidle]; exact hi) s] at h2
            cases h1; cases h2; rfl
          · rw [if_neg hi] at h1
            simp only [Prod.mk.injEq] at h1
            obtain ⟨h1, rfl⟩ := h1
            rw [zB4 n p hm s h1 (hg (hfull s h1))] at h2
            have : dQ q p = true := by
              unfold Pq.idle at hi
              simp only [Bool.or_eq_true, decide_eq_true_eq, not_or] at hi
              unfold dQ Pn.newest
              rw [if_neg (by omega)]
              simp
              omega
            rw [this, Bool.or_true] at h2
            simp only [Prod.mk.injEq, true_and] at h2
            exact h2.symm
        · obtain ⟨k, a, b, hk, ho, ka, ma, kb, mb, hx⟩ := gV hm k3
          obtain ⟨l, c, d, hl, hp, kc, mc, kd, md, hy⟩ := gV hm2 q3
          have inj2 := ht
          rw [tP k3 ho, tP q3 hp] at inj2
          have ca := jM size (vA size k a)
          have cb := jM size (vA size k b)
          have cc := jM size (vA size l c)
          have cd := jM size (vA size l d)
          obtain ⟨_, _, _, e6, e7⟩ := qT3 (by omega) (by omega) (by omega) (by omega) (by omega) (by omega) (by omega) (by omega) (by omega) (by omega) inj2
          obtain ⟨a0, a1, a2, a3, _⟩ := pT ka (by omega) (by decide)
          obtain ⟨b0, b1, b2, b3, _⟩ := pT kb (by omega) (by decide)
          rw [qK0 ht k3 q3 ho hp]
          rcases ih k hk l a c ma mc e6 with ⟨u, v, g1, g2⟩ | ⟨g1, g2⟩
          · exact .inl ⟨u, v, by rw [g1]; rfl, g2⟩
          rcases ih k hk l b d mb md e7 with ⟨u, v, g3, g4⟩ | ⟨g3, g4⟩
          · exact .inl ⟨u, v, by rw [g1, g3]; rfl, g4⟩
          refine .inr ⟨by rw [g1, g3]; rfl, fun s hg s1 s2 h1 h2 => ?_⟩
          rw [qB5 (by omega), Pn.bits_f (by omega)] at hg
          rw [fL k3 ho] at h1
          rw [fL q3 hp] at h2
          have sa := law_seen (size := size) (q := q) (n := k) (p := a)
          generalize hz : uN q k a s = z at h1
          generalize hw : uN q l c s = w at h2
          obtain ⟨_ | _, z1⟩ := z
          · cases h1
          obtain ⟨_ | _, w1⟩ := w
          · cases h2
          have ez := g2 s (fun q1 q2 => (hg q1 q2).sm a2.symm (by omega)) z1 w1 hz hw
          subst ez
          refine g4 z1 (fun q1 q2 => ?_) s1 s2 h1 h2
          by_cases hs0 : s.1 = []
          · obtain ⟨key, u1, u2⟩ := sa q2 ma s hs0 (by rw [hz]; exact q1)
            obtain ⟨t, g5, g6, g7⟩ := law_next ((u1.le (by omega)).trans a2) (by rw [(u1 p.dp.toNat (by omega)).2]; exact a3) b2 b3 u2
            exact ⟨t, by omega, g6, g7⟩
          · exact (hg hs0 q2).sm b2.symm (by omega)
theorem uL : type_of% (And.intro zG (And.intro wZ (And.intro wY (And.intro xB (And.intro wH rs110))))) := And.intro zG (And.intro wZ (And.intro wY (And.intro xB (And.intro wH rs110))))
theorem jA : type_of% (And.intro zG (And.intro wZ (And.intro wY (And.intro xB (And.intro wH rs111))))) := And.intro zG (And.intro wZ (And.intro wY (And.intro xB (And.intro wH rs111))))
theorem uZ : type_of% (And.intro zG (And.intro wZ (And.intro wY (And.intro xB (And.intro wH (And.intro zH4 rs113)))))) := And.intro zG (And.intro wZ (And.intro wY (And.intro xB (And.intro wH (And.intro zH4 rs113)))))
def yF : Nat → List (Nat × List Nat) × List Nat
  | 1 => ([(0, []), (1, []), (2, []), (3, []), (4, []), (5, []), (6, []), (7, []), (8, []), (9, []), (10, []), (11, []), (12, []), (13, []), (14, []), (15, []), (16, []), (17, []), (18, []), (19, []), (20, []), (21, []), (22, []), (25, []), (26, []), (27, []), (23, [26, 27]), (24, []), (28, []), (29, []), (30, [])], [0, 1, 3, 7, 15, 31, 63, 127, 255, 511, 1023, 2047, 511, 4607, 12799, 29183, 65535, 131071, 262143, 524287, 1048575, 524287, 2621439, 8388607, 16777215, 524287, 34078719, 101187583, 268435455, 536870911, 1073741823])
  | _ => ([], [])
theorem rC : type_of% (And.intro zG (And.intro wZ (And.intro wY (And.intro xB (And.intro wH rs112))))) := And.intro zG (And.intro wZ (And.intro wY (And.intro xB (And.intro wH rs112))))
theorem jB (N : Nat) (h : GH) (n : Int) : GTri Tryz.prog N 65 [.int .i64 n] h fun v h' => v = .bool (zF0 n) ∧ h' = h := by
  unfold zF0
  refine zU Tryz.func65 rfl gf65 ok65 (by simp [Tryz.ntmps65]) ?_
  cases z0 : (decide (n ≥ 0))
  case false =>
    refine qJ ?_; repeat' (first | with_reducible apply qK | ((with_reducible first | apply qI | apply qB | apply qM) <;> try simp only [qN, qC, qE, qG, qD, qA, qF, seval, qQ, qO, qP, xB, rs65, z0, gPick]))
    all_goals simp only [Bool.false_and]
  cases z1 : (decide (n < 256))
  case false =>
    refine qJ ?_; repeat' (first | with_reducible apply qK | ((with_reducible first | apply qI | apply qB | apply qM) <;> try simp only [qN, qC, qE, qG, qD, qA, qF, seval, qQ, qO, qP, xB, rs65, z0, z1, gPick]))
    all_goals simp only [Bool.false_and]
  refine qJ ?_; repeat' (first | with_reducible apply qK | ((with_reducible first | apply qI | apply qB | apply qM) <;> try simp only [qN, qC, qE, qG, qD, qA, qF, seval, qQ, qO, qP, xB, rs65, z0, z1, gPick]))
section
variable {K : Type} {R : GH → List Value → K → Prop}
def Pn.rnoth (p : Pn K) : Bool := ((((((((((p.kd == 0) && ((p.id.length : Int) == 0)) && ((p.ky.length : Int) == 0)) && (p.si == 0)) && (p.dp == 0)) && ((p.pf.length : Int) == 0)) && (p.nw == 0)) && ((p.lf.length : Int) == 0)) && ((p.rt.length : Int) == 0)) && ((p.kids.length : Int) == 0))
theorem Pn.rnoth_eq (p : Pn K) : p.rnoth = ((p.kd == 0) && p.blank false false) := by
  unfold Pn.rnoth Pn.blank
  simp only [Bool.false_or, Bool.true_or, Bool.true_and]
  unfold Pn.noFork
  try unfold Pn.noLeaf
  ac_rfl
theorem qH8 (N : Nat) {h : GH} {cs : List Value} {p : Pn K} (r : RPn R h cs p) : GTri Tryz.prog N 110 [.agg cs.toArray] h fun v h' => v = .bool p.rnoth ∧ HS h h' := by
  obtain ⟨a1, c1, a2, c2, a3, c3, a4, c4, a5, c5, a6, c6, rfl, r1, r2, r3, r4, r5, r6⟩ := r
  unfold Pn.rnoth
  refine zU Tryz.func110 rfl gf110 ok110 (by simp [Tryz.ntmps110]) ?_
  repeat' (first | with_reducible apply qK | ((with_reducible apply qB) <;> try simp only [qN, qC, qE, qG, qD, qA, qF, seval, qQ, qO, qP, uL]))
  refine wD rfl fun k1 h1 m1 s1 f1 n1 => ?_
  simp only [Pn.cs] at m1
  cases z0 : (p.kd == 0)
  case false =>
    refine qJ ?_; repeat' (first | with_reducible apply qK | ((with_reducible first | apply qI | apply qB | apply qM) <;> try simp only [qN, qC, qE, qG, qD, qA, qF, seval, qQ, qO, qP, uL, z0, qH m1 zT, qH m1 zD, qH m1 wQ, gPick]))
    first | exact s1 | exact ⟨by simp, s1⟩
  cases z1 : ((p.id.length : Int) == 0)
  case false =>
    refine qJ ?_; repeat' (first | with_reducible apply qK | ((with_reducible first | apply qI | apply qB | apply qM) <;> try simp only [qN, qC, qE, qG, qD, qA, qF, seval, qQ, qO, qP, uL, z0, z1, qH m1 zT, qH m1 zD, qH m1 wQ, gPick]))
    first | exact s1 | exact ⟨by simp, s1⟩
  cases z2 : ((p.ky.length : Int) == 0)
  case false =>
    refine qJ ?_; repeat' (first | with_reducible apply qK | ((with_reducible first | apply qI | apply qB | apply qM) <;> try simp only [qN, qC, qE, qG, qD, qA, qF, seval, qQ, qO, qP, uL, z0, z1, z2, qH m1 zT, qH m1 zD, qH m1 wQ, gPick]))
    first | exact s1 | exact ⟨by simp, s1⟩
  cases z3 : (p.si == 0)
  case false =>
    refine qJ ?_; repeat' (first | with_reducible apply qK | ((with_reducible first | apply qI | apply qB | apply qM) <;> try simp only [qN, qC, qE, qG, qD, qA, qF, seval, qQ, qO, qP, uL, z0, z1, z2, z3, qH m1 zT, qH m1 zD, qH m1 wQ, gPick]))
    first | exact s1 | exact ⟨by simp, s1⟩
  cases z4 : (p.dp == 0)
  case false =>
    refine qJ ?_; repeat' (first | with_reducible apply qK | ((with_reducible first | apply qI | apply qB | apply qM) <;> try simp only [qN, qC, qE, qG, qD, qA, qF, seval, qQ, qO, qP, uL, z0, z1, z2, z3, z4, qH m1 zT, qH m1 zD, qH m1 wQ, gPick]))
    first | exact s1 | exact ⟨by simp, s1⟩
  cases z5 : ((p.pf.length : Int) == 0)
  case false =>
    refine qJ ?_; repeat' (first | with_reducible apply qK | ((with_reducible first | apply qI | apply qB | apply qM) <;> try simp only [qN, qC, qE, qG, qD, qA, qF, seval, qQ, qO, qP, uL, z0, z1, z2, z3, z4, z5, qH m1 zT, qH m1 zD, qH m1 wQ, gPick]))
    first | exact s1 | exact ⟨by simp, s1⟩
  cases z6 : (p.nw == 0)
  case false =>
    refine qJ ?_; repeat' (first | with_reducible apply qK | ((with_reducible first | apply qI | apply qB | apply qM) <;> try simp only [qN, qC, qE, qG, qD, qA, qF, seval, qQ, qO, qP, uL, z0, z1, z2, z3, z4, z5, z6, qH m1 zT, qH m1 zD, qH m1 wQ, gPick]))
    first | exact s1 | exact ⟨by simp, s1⟩
  cases z7 : ((p.lf.length : Int) == 0)
  case false =>
    refine qJ ?_; repeat' (first | with_reducible apply qK | ((with_reducible first | apply qI | apply qB | apply qM) <;> try simp only [qN, qC, qE, qG, qD, qA, qF, seval, qQ, qO, qP, uL, z0, z1, z2, z3, z4, z5, z6, z7, qH m1 zT, qH m1 zD, qH m1 wQ, gPick]))
    first | exact s1 | exact ⟨by simp, s1⟩
  cases z8 : ((p.rt.length : Int) == 0)
  case false =>
    refine qJ ?_; repeat' (first | with_reducible apply qK | ((with_reducible first | apply qI | apply qB | apply qM) <;> try simp only [qN, qC, qE, qG, qD, qA, qF, seval, qQ, qO, qP, uL, z0, z1, z2, z3, z4, z5, z6, z7, z8, qH m1 zT, qH m1 zD, qH m1 wQ, gPick]))
    first | exact s1 | exact ⟨by simp, s1⟩
  cases z9 : ((p.kids.length : Int) == 0)
  case false =>
    refine qJ ?_; repeat' (first | with_reducible apply qK | ((with_reducible first | apply qI | apply qB | apply qM) <;> try simp only [qN, qC, qE, qG, qD, qA, qF, seval, qQ, qO, qP, uL, z0, z1, z2, z3, z4, z5, z6, z7, z8, z9, qH m1 zT, qH m1 zD, qH m1 wQ, gPick]))
    first | exact s1 | exact ⟨by simp, s1⟩
  refine qJ ?_; repeat' (first | with_reducible apply qK | ((with_reducible first | apply qI | apply qB | apply qM) <;> try simp only [qN, qC, qE, qG, qD, qA, qF, seval, qQ, qO, qP, uL, z0, z1, z2, z3, z4, z5, z6, z7, z8, z9, qH m1 zT, qH m1 zD, qH m1 wQ, gPick]))
  first | exact s1 | exact ⟨by simp, s1⟩
def Pn.rleaf (p : Pn K) : Bool := (((((((((decide ((p.id.length : Int) ≤ 255)) && (decide ((p.ky.length : Int) ≤ 48))) && (zF0 p.si)) && (p.dp == 0)) && ((p.pf.length : Int) == 0)) && (p.nw == 0)) && ((p.lf.length : Int) == 0)) && ((p.rt.length : Int) == 0)) && ((p.kids.length : Int) == 0))
theorem Pn.rleaf_eq (p : Pn K) : p.rleaf = (p.blank true false && zF0 p.si && decide ((p.id.length : Int) ≤ 255) && decide ((p.ky.length : Int) ≤ 48)) := by
  unfold Pn.rleaf Pn.blank
  simp only [Bool.false_or, Bool.true_or, Bool.true_and]
  unfold Pn.noFork
  try unfold Pn.noLeaf
  ac_rfl
theorem zG3 (N : Nat) {h : GH} {cs : List Value} {p : Pn K} (r : RPn R h cs p) : GTri Tryz.prog N 111 [.agg cs.toArray] h fun v h' => v = .bool p.rleaf ∧ HS h h' := by
  obtain ⟨a1, c1, a2, c2, a3, c3, a4, c4, a5, c5, a6, c6, rfl, r1, r2, r3, r4, r5, r6⟩ := r
  unfold Pn.rleaf
  refine zU Tryz.func111 rfl gf111 ok111 (by simp [Tryz.ntmps111]) ?_
  repeat' (first | with_reducible apply qK | ((with_reducible apply qB) <;> try simp only [qN, qC, qE, qG, qD, qA, qF, seval, qQ, qO, qP, jA]))
  refine wD rfl fun k1 h1 m1 s1 f1 n1 => ?_
  simp only [Pn.cs] at m1
  cases z0 : (decide ((p.id.length : Int) ≤ 255))
  case false =>
    refine qJ ?_; repeat' (first | with_reducible apply qK | ((with_reducible first | apply qI | apply qB | apply qM) <;> try simp only [qN, qC, qE, qG, qD, qA, qF, seval, qQ, qO, qP, jA, z0, qH m1 zT, qH m1 zD, qH m1 wQ, gPick]))
    first | exact s1 | exact ⟨by simp, s1⟩
  cases z1 : (decide ((p.ky.length : Int) ≤ 48))
  case false =>
    refine qJ ?_; repeat' (first | with_reducible apply qK | ((with_reducible first | apply qI | apply qB | apply qM) <;> try simp only [qN, qC, qE, qG, qD, qA, qF, seval, qQ, qO, qP, jA, z0, z1, qH m1 zT, qH m1 zD, qH m1 wQ, gPick]))
    first | exact s1 | exact ⟨by simp, s1⟩
  cases z2 : (zF0 p.si)
  case false =>
    refine qJ ?_; repeat' (first | with_reducible apply qK | ((first | (with_reducible first | apply qI | apply qB | apply qM) | ((refine GTri.mono (jB _ _ _) ?_); rintro _ _ ⟨rfl, hh9⟩; replace hh9 := hh9.symm; subst hh9)) <;> try simp only [qN, qC, qE, qG, qD, qA, qF, seval, qQ, qO, qP, jA, z0, z1, z2, qH m1 zT, qH m1 zD, qH m1 wQ, gPick]))
    first | exact s1 | exact ⟨by simp, s1⟩
  cases z3 : (p.dp == 0)
  case false =>
    refine qJ ?_; repeat' (first | with_reducible apply qK | ((first | (with_reducible first | apply qI | apply qB | apply qM) | ((refine GTri.mono (jB _ _ _) ?_); rintro _ _ ⟨rfl, hh9⟩; replace hh9 := hh9.symm; subst hh9)) <;> try simp only [qN, qC, qE, qG, qD, qA, qF, seval, qQ, qO, qP, jA, z0, z1, z2, z3, qH m1 zT, qH m1 zD, qH m1 wQ, gPick]))
    first | exact s1 | exact ⟨by simp, s1⟩
  cases z4 : ((p.pf.length : Int) == 0)
  case false =>
    refine qJ ?_; repeat' (first | with_reducible apply qK | ((first | (with_reducible first | apply qI | apply qB | apply qM) | ((refine GTri.mono (jB _ _ _) ?_); rintro _ _ ⟨rfl, hh9⟩; replace hh9 := hh9.symm; subst hh9)) <;> try simp only [qN, qC, qE, qG, qD, qA, qF, seval, qQ, qO, qP, jA, z0, z1, z2, z3, z4, qH m1 zT, qH m1 zD, qH m1 wQ, gPick]))
    first | exact s1 | exact ⟨by simp, s1⟩
  cases z5 : (p.nw == 0)
  case false =>
    refine qJ ?_; repeat' (first | with_reducible apply qK | ((first | (with_reducible first | apply qI | apply qB | apply qM) | ((refine GTri.mono (jB _ _ _) ?_); rintro _ _ ⟨rfl, hh9⟩; replace hh9 := hh9.symm; subst hh9)) <;> try simp only [qN, qC, qE, qG, qD, qA, qF, seval, qQ, qO, qP, jA, z0, z1, z2, z3, z4, z5, qH m1 zT, qH m1 zD, qH m1 wQ, gPick]))
    first | exact s1 | exact ⟨by simp, s1⟩
  cases z6 : ((p.lf.length : Int) == 0)
  case false =>
    refine qJ ?_; repeat' (first | with_reducible apply qK | ((first | (with_reducible first | apply qI | apply qB | apply qM) | ((refine GTri.mono (jB _ _ _) ?_); rintro _ _ ⟨rfl, hh9⟩; replace hh9 := hh9.symm; subst hh9)) <;> try simp only [qN, qC, qE, qG, qD, qA, qF, seval, qQ, qO, qP, jA, z0, z1, z2, z3, z4, z5, z6, qH m1 zT, qH m1 zD, qH m1 wQ, gPick]))
    first | exact s1 | exact ⟨by simp, s1⟩
  cases z7 : ((p.rt.length : Int) == 0)
  case false =>
    refine qJ ?_; repeat' (first | with_reducible apply qK | ((first | (with_reducible first | apply qI | apply qB | apply qM) | ((refine GTri.mono (jB _ _ _) ?_); rintro _ _ ⟨rfl, hh9⟩; replace hh9 := hh9.symm; subst hh9)) <;> try simp only [qN, qC, qE, qG, qD, qA, qF, seval, qQ, qO, qP, jA, z0, z1, z2, z3, z4, z5, z6, z7, qH m1 zT, qH m1 zD, qH m1 wQ, gPick]))
    first | exact s1 | exact ⟨by simp, s1⟩
  cases z8 : ((p.kids.length : Int) == 0)
  case false =>
    refine qJ ?_; repeat' (first | with_reducible apply qK | ((first | (with_reducible first | apply qI | apply qB | apply qM) | ((refine GTri.mono (jB _ _ _) ?_); rintro _ _ ⟨rfl, hh9⟩; replace hh9 := hh9.symm; subst hh9)) <;> try simp only [qN, qC, qE, qG, qD, qA, qF, seval, qQ, qO, qP, jA, z0, z1, z2, z3, z4, z5, z6, z7, z8, qH m1 zT, qH m1 zD, qH m1 wQ, gPick]))
    first | exact s1 | exact ⟨by simp, s1⟩
  refine qJ ?_; repeat' (first | with_reducible apply qK | ((first | (with_reducible first | apply qI | apply qB | apply qM) | ((refine GTri.mono (jB _ _ _) ?_); rintro _ _ ⟨rfl, hh9⟩; replace hh9 := hh9.symm; subst hh9)) <;> try simp only [qN, qC, qE, qG, qD, qA, qF, seval, qQ, qO, qP, jA, z0, z1, z2, z3, z4, z5, z6, z7, z8, qH m1 zT, qH m1 zD, qH m1 wQ, gPick]))
  first | exact s1 | exact ⟨by simp, s1⟩
def Pn.rfork (p : Pn K) : Bool := ((((((((decide (p.dp ≥ 0)) && (decide (p.dp ≤ 2048))) && ((p.pf.length : Int) == Int.tdiv (p.dp + 7) 8)) && (zF p.pf p.dp.toNat == p.pf)) && (zF0 p.nw)) && ((p.id.length : Int) == 0)) && ((p.ky.length : Int) == 0)) && (p.si == 0))
theorem Pn.rfork_eq (p : Pn K) : p.rfork = p.frk := by
  unfold Pn.rfork Pn.frk Pn.blank
  simp only [Bool.false_or, Bool.true_or, Bool.true_and, Bool.and_true]
  unfold Pn.noLeaf
  ac_rfl
theorem qJ7 (N : Nat) {h : GH} {cs : List Value} {p : Pn K} (r : RPn R h cs p) (hl : p.pf.length ≤ 100000000) : GTri Tryz.prog N 113 [.agg cs.toArray] h fun v h' => v = .bool p.rfork ∧ HS h h' := by
  obtain ⟨a1, c1, a2, c2, a3, c3, a4, c4, a5, c5, a6, c6, rfl, r1, r2, r3, r4, r5, r6⟩ := r
  unfold Pn.rfork
  refine zU Tryz.func113 rfl gf113 ok113 (by simp [Tryz.ntmps113]) ?_
  repeat' (first | with_reducible apply qK | ((with_reducible apply qB) <;> try simp only [qN, qC, qE, qG, qD, qA, qF, seval, qQ, qO, qP, qL, qX, qZ, zC, uZ, yF]))
  refine wD rfl fun k1 h1 m1 s1 f1 n1 => ?_
  simp only [Pn.cs] at m1
  cases z0 : (decide (p.dp ≥ 0))
  case false =>
    refine qJ ?_; repeat' (first | with_reducible apply qK | ((first | (with_reducible first | apply qI | apply qB | apply qM) | with_reducible refine zE yF xG (by kernel_rfl) ?_) <;> try simp only [qN, qC, qE, qG, qD, qA, qF, seval, qQ, qO, qP, qL, qX, qZ, zC, uZ, yF, z0, qH m1 zT, qH m1 zD, gPick]))
    first | exact s1 | exact ⟨by simp, s1⟩
  cases z1 : (decide (p.dp ≤ 2048))
  case false =>
    refine qJ ?_; repeat' (first | with_reducible apply qK | ((first | (with_reducible first | apply qI | apply qB | apply qM) | with_reducible refine zE yF xG (by kernel_rfl) ?_) <;> try simp only [qN, qC, qE, qG, qD, qA, qF, seval, qQ, qO, qP, qL, qX, qZ, zC, uZ, yF, z0, z1, qH m1 zT, qH m1 zD, gPick]))
    first | exact s1 | exact ⟨by simp, s1⟩
  have y1 : 0 ≤ p.dp := by simpa using z0
  have y2 : p.dp ≤ 2048 := by simpa using z1
  have w7 : IntKind.i64.wrap (p.dp + 7) = p.dp + 7 := by rw [wrap64 (by omega) (by omega)]
  have t0 := Int.tdiv_eq_ediv_of_nonneg (a := p.dp + 7) (b := 8) (by omega)
  have w8 : IntKind.i64.wrap (Int.tdiv (p.dp + 7) 8) = Int.tdiv (p.dp + 7) 8 := by rw [wrap64 (by omega) (by omega)]
  cases z2 : ((p.pf.length : Int) == Int.tdiv (p.dp + 7) 8)
  case false =>
    refine qJ ?_; repeat' (first | with_reducible apply qK | ((first | (with_reducible first | apply qI | apply qB | apply qM) | with_reducible refine zE yF xG (by kernel_rfl) ?_) <;> try simp only [qN, qC, qE, qG, qD, qA, qF, seval, qQ, qO, qP, qL, qX, qZ, zC, uZ, yF, z0, z1, z2, w7, w8, qH m1 zT, qH m1 zD, gPick]))
    first | exact s1 | exact ⟨by simp, s1⟩
  have v0 := (r3.hs s1).conv Tryz.underlying22 Tryz.underlying5 Tryz.underlying9
  refine qJ ?_; repeat' (first | with_reducible apply qK | ((first | (with_reducible apply qI) | with_reducible refine zE yF xG (by kernel_rfl) ?_) <;> try simp only [qN, qC, qE, qG, qD, qA, qF, seval, qQ, qO, qP, qL, qX, qZ, zC, uZ, yF, z0, z1, z2, w7, w8, v0, qH m1 zT, qH m1 zD, gPick]))
  refine (fD N h1 (r3.hs s1) (by omega) p.dp (WalkArith.wf_i64 (by omega))).mono ?_
  rintro _ h2 ⟨s2, a7, c7, rfl, r7⟩
  have m2 := s2 _ _ m1
  have S2 := s1.trans s2
  have v1 := r7.conv Tryz.underlying22 Tryz.underlying5 Tryz.underlying9
  have v2 := ((r3.hs s1).hs s2).conv Tryz.underlying22 Tryz.underlying5 Tryz.underlying9
  cases z3 : (zF p.pf p.dp.toNat == p.pf)
  case false =>
    refine qJ ?_; repeat' (first | with_reducible apply qK | ((with_reducible first | apply qI | apply qB | apply qM) <;> try simp only [qN, qC, qE, qG, qD, qA, qF, seval, qQ, qO, qP, qL, qX, qZ, zC, uZ, yF, z3, qH m2 zT, qH m2 zD, v1, v2, jO, gPick]))
    first | exact S2 | exact ⟨by simp, S2⟩
  cases y4 : (zF0 p.nw)
  case false =>
    refine qJ ?_; repeat' (first | with_reducible apply qK | ((first | (with_reducible first | apply qI | apply qB | apply qM) | ((refine GTri.mono (jB _ _ _) ?_); rintro _ _ ⟨rfl, hh9⟩; replace hh9 := hh9.symm; subst hh9)) <;> try simp only [qN, qC, qE, qG, qD, qA, qF, seval, qQ, qO, qP, qL, qX, qZ, zC, uZ, yF, z3, y4, qH m2 zT, qH m2 zD, v1, v2, jO, gPick]))
    first | exact S2 | exact ⟨by simp, S2⟩
  cases y5 : ((p.id.length : Int) == 0)
  case false =>
    refine qJ ?_; repeat' (first | with_reducible apply qK | ((first | (with_reducible first | apply qI | apply qB | apply qM) | ((refine GTri.mono (jB _ _ _) ?_); rintro _ _ ⟨rfl, hh9⟩; replace hh9 := hh9.symm; subst hh9)) <;> try simp only [qN, qC, qE, qG, qD, qA, qF, seval, qQ, qO, qP, qL, qX, qZ, zC, uZ, yF, z3, y4, y5, qH m2 zT, qH m2 zD, v1, v2, jO, gPick]))
    first | exact S2 | exact ⟨by simp, S2⟩
  cases y6 : ((p.ky.length : Int) == 0)
  case false =>
    refine qJ ?_; repeat' (first | with_reducible apply qK | ((first | (with_reducible first | apply qI | apply qB | apply qM) | ((refine GTri.mono (jB _ _ _) ?_); rintro _ _ ⟨rfl, hh9⟩; replace hh9 := hh9.symm; subst hh9)) <;> try simp only [qN, qC, qE, qG, qD, qA, qF, seval, qQ, qO, qP, qL, qX, qZ, zC, uZ, yF, z3, y4, y5, y6, qH m2 zT, qH m2 zD, v1, v2, jO, gPick]))
    first | exact S2 | exact ⟨by simp, S2⟩
  cases y7 : (p.si == 0)
  case false =>
    refine qJ ?_; repeat' (first | with_reducible apply qK | ((first | (with_reducible first | apply qI | apply qB | apply qM) | ((refine GTri.mono (jB _ _ _) ?_); rintro _ _ ⟨rfl, hh9⟩; replace hh9 := hh9.symm; subst hh9)) <;> try simp only [qN, qC, qE, qG, qD, qA, qF, seval, qQ, qO, qP, qL, qX, qZ, zC, uZ, yF, z3, y4, y5, y6, y7, qH m2 zT, qH m2 zD, v1, v2, jO, gPick]))
    first | exact S2 | exact ⟨by simp, S2⟩
  refine qJ ?_; repeat' (first | with_reducible apply qK | ((first | (with_reducible first | apply qI | apply qB | apply qM) | ((refine GTri.mono (jB _ _ _) ?_); rintro _ _ ⟨rfl, hh9⟩; replace hh9 := hh9.symm; subst hh9)) <;> try simp only [qN, qC, qE, qG, qD, qA, qF, seval, qQ, qO, qP, qL, qX, qZ, zC, uZ, yF, z3, y4, y5, y6, y7, qH m2 zT, qH m2 zD, v1, v2, jO, gPick]))
  first | exact S2 | exact ⟨by simp, S2⟩
theorem c_rBits (N : Nat) {h : GH} {cs : List Value} {p : Pn K} (r : RPn R h cs p) (hl : p.pf.length ≤ 100000000) : GTri Tryz.prog N 112 [.agg cs.toArray] h fun v h' => HS h h' ∧ ∃ a c, v = .slice a p.bits.length c ∧ RB h' (.slice a p.bits.length c) p.bits := by
  obtain ⟨a1, c1, a2, c2, a3, c3, a4, c4, a5, c5, a6, c6, rfl, r1, r2, r3, r4, r5, r6⟩ := r
  unfold Pn.bits
  refine zU Tryz.func112 rfl gf112 ok112 (by simp [Tryz.ntmps112]) ?_
  repeat' (first | with_reducible apply qK | ((with_reducible apply qB) <;> try simp only [qN, qC, qE, qG, qD, qA, qF, seval, qQ, qO, qP, rC]))
  refine wD rfl fun k1 h1 m1 s1 f1 n1 => ?_
  simp only [Pn.cs] at m1
  by_cases k1' : p.kd = 1
  · have e1 : (p.kd == 1) = true := by simp [k1']
    rw [if_pos k1']
    refine qJ ?_; repeat' (first | with_reducible apply qK | ((with_reducible first | apply qI | apply qB | apply qR) <;> try simp only [qN, qC, qE, qG, qD, qA, qF, seval, qQ, qO, qP, rC, qH m1 zT, qH m1 zD, e1]))
    refine (qF7 N h1 (r1.hs s1) rfl).mono ?_
    rintro _ h2 ⟨s2, a7, c7, rfl, r7, _⟩
    refine qJ ?_; repeat' (first | ((with_reducible first | apply qI | apply qM) <;> try simp only [qN, qC, qE, qG, qD, qA, qF, seval, qQ, qO, qP, rC]))
    exact ⟨s1.trans s2, a7, c7, rfl, r7⟩
  · have e1 : (p.kd == 1) = false := by simp [k1']
    rw [if_neg k1']
    refine qJ ?_; repeat' (first | with_reducible apply qK | ((with_reducible first | apply qI | apply qB | apply qR | apply qS) <;> try simp only [qN, qC, qE, qG, qD, qA, qF, seval, qQ, qO, qP, rC, qH m1 zT, qH m1 zD, e1]))
    refine qC3 vH rfl ?_
    refine qJ ?_; repeat' (first | ((with_reducible apply qI) <;> try simp only [qN, qC, qE, qG, qD, qA, qF, seval, qQ, qO, qP, rC, qH m1 zT, qH m1 zD, e1]))
    refine xY vH Tryz.underlying22 rfl (HS.refl h1) (.inr (.inl ⟨_, rfl, rfl⟩)) (r3.hs s1).src (by simp; omega) fun v2 h2 s2 f2 o2 => ?_
    rw [List.nil_append] at o2
    obtain ⟨a7, c7, rfl⟩ := o2.form
    refine qJ ?_; repeat' (first | ((with_reducible first | apply qI | apply qM) <;> try simp only [qN, qC, qE, qG, qD, qA, qF, seval, qQ, qO, qP, rC]))
    exact ⟨s1.trans s2, a7, c7, rfl, o2.rb⟩
end
section
variable {K : Type} {R : GH → List Value → K → Prop}
end
section
variable {h0 h h' : GH} {k : Nat} {v : Value} {cs : List Value} {M : List Nd} {K : Type} {R : GH → List Value → K → Prop}
end
section
variable {K : Type} {R : GH → List Value → K → Prop}
end
theorem zN2 {α : Type} (g : α → Nat) : ∀ {l : List α} {x : α}, x ∈ l → g x ≤ (l.map g).sum
  | y :: l, x, h => by
    rcases List.mem_cons.1 h with rfl | h
    · simp only [List.map_cons, List.sum_cons]; omega
    · have := zN2 g h
      simp only [List.map_cons, List.sum_cons]; omega
theorem Pn.kids_bulk {n : Nat} {p : Pn (Pd (n + 1))} {x : Pn (Pd n)} (h : x ∈ (show List (Pn (Pd n)) from p.kids)) : Pn.bulk (Pd.bulk n) x + 10 ≤ Pn.bulk (Pd.bulk (n + 1)) p := by
  have h1 : Pd.bulk (n + 1) x ≤ (p.kids.map (Pd.bulk (n + 1))).sum := zN2 (Pd.bulk (n + 1)) h
  have h2 : Pd.bulk (n + 1) x = Pn.bulk (Pd.bulk n) x := rfl
  have h3 : Pn.bulk (Pd.bulk (n + 1)) p = p.id.length + p.ky.length + p.pf.length + p.lf.length + p.rt.length + (p.kids.map (Pd.bulk (n + 1))).sum + 10 := rfl
  omega
theorem Pd.bulk_pos : ∀ (n : Nat) (x : Pd n), 1 ≤ Pd.bulk n x
  | 0, x => nomatch (show Empty from x)
  | n + 1, x => by
    have h3 : Pd.bulk (n + 1) x = (show Pn (Pd n) from x).id.length + (show Pn (Pd n) from x).ky.length + (show Pn (Pd n) from x).pf.length + (show Pn (Pd n) from x).lf.length + (show Pn (Pd n) from x).rt.length + ((show Pn (Pd n) from x).kids.map (Pd.bulk n)).sum + 10 := rfl
    omega
theorem Pn.bulk_parts {n : Nat} (p : Pn (Pd n)) : p.kids.length ≤ Pn.bulk (Pd.bulk n) p ∧ p.id.length ≤ Pn.bulk (Pd.bulk n) p ∧ p.ky.length ≤ Pn.bulk (Pd.bulk n) p ∧ p.pf.length ≤ Pn.bulk (Pd.bulk n) p := by
  have h3 : Pn.bulk (Pd.bulk n) p = p.id.length + p.ky.length + p.pf.length + p.lf.length + p.rt.length + (p.kids.map (Pd.bulk n)).sum + 10 := rfl
  have := zN3 (Pd.bulk n) (Pd.bulk_pos n) p.kids
  omega
section
variable {K : Type} {R : GH → List Value → K → Prop}
end
theorem dK : type_of% (And.intro zG (And.intro wZ (And.intro wY (And.intro xB rs27)))) := And.intro zG (And.intro wZ (And.intro wY (And.intro xB rs27)))
theorem qE4 : type_of% (And.intro zG (And.intro wZ (And.intro wY (And.intro xB rs119)))) := And.intro zG (And.intro wZ (And.intro wY (And.intro xB rs119)))
theorem dJ : type_of% (And.intro zG (And.intro wZ (And.intro wY (And.intro xB rs28)))) := And.intro zG (And.intro wZ (And.intro wY (And.intro xB rs28)))
theorem qE3 : type_of% (And.intro zG (And.intro wZ (And.intro wY (And.intro xB rs121)))) := And.intro zG (And.intro wZ (And.intro wY (And.intro xB rs121)))
theorem wU : type_of% (And.intro zG (And.intro wZ (And.intro wY (And.intro xB (And.intro uT (And.intro wH rs72)))))) := And.intro zG (And.intro wZ (And.intro wY (And.intro xB (And.intro uT (And.intro wH rs72)))))
def kD : (n : Nat) → Pn (Pd n) → Nat
  | 0, _ => 1
  | n + 1, p => 1 + (if p.kd = 3 then (@List.map (Pd (n + 1)) Nat (kD n) p.kids).sum else 0)
theorem qI7 {α : Type} {f g : α → Nat} : ∀ {l : List α}, (∀ x ∈ l, f x ≤ g x) → (l.map f).sum ≤ (l.map g).sum
  | [], _ => by simp
  | x :: l, h => by
    have := qI7 (l := l) (fun y hy => h y (List.mem_cons_of_mem _ hy))
    have := h x (List.mem_cons_self ..)
    simp only [List.map_cons, List.sum_cons]; omega
theorem sJ : ∀ (n : Nat) (p : Pn (Pd n)), kD n p ≤ Pn.bulk (Pd.bulk n) p
  | 0, p => by
    have h3 : Pn.bulk (Pd.bulk 0) p = p.id.length + p.ky.length + p.pf.length + p.lf.length + p.rt.length + (p.kids.map (Pd.bulk 0)).sum + 10 := rfl
    unfold kD; omega
  | n + 1, p => by
    have h3 : Pn.bulk (Pd.bulk (n + 1)) p = p.id.length + p.ky.length + p.pf.length + p.lf.length + p.rt.length + (p.kids.map (Pd.bulk (n + 1))).sum + 10 := rfl
    have := qI7 (α := Pd (n + 1)) (l := p.kids) (f := kD n) (g := Pd.bulk (n + 1)) (fun x _ => sJ n x)
    unfold kD
    split <;> omega
theorem zA6 {α : Type} (f : α → Nat) (l : List α) (j : Nat) : ((l.take j).map f).sum ≤ (l.map f).sum := by
  have e : (l.map f).sum = ((l.take j).map f).sum + ((l.drop j).map f).sum := by
    rw [← List.sum_append, ← List.map_append, List.take_append_drop]
  omega
theorem qQ9 {α : Type} (f : α → Nat) {l : List α} {j : Nat} {x : α} (h : l[j]? = some x) : ((l.take (j + 1)).map f).sum = ((l.take j).map f).sum + f x := by
  rw [List.take_add_one, h, List.map_append, List.sum_append]
  simp
theorem tW (p : Pn (Pd 0)) : p.kids = [] := by
  cases hk : p.kids with
  | nil => rfl
  | cons a l => exact nomatch (show Empty from a)
theorem max_if (x y : Int) : (if x < y then y else x) = max x y := by split <;> omega
section
variable {K : Type} {R : GH → List Value → K → Prop}
theorem zH1 (N : Nat) {p : Pn K} (f : K → Nat) (ih : ∀ x ∈ p.kids, ∀ {h c1}, R h c1 x → GTri Tryz.prog N 27 [.agg c1.toArray] h fun v h' => v = .int .i64 (f x : Int) ∧ HS h h') (fR : ∀ {h h'}, HS h h' → ∀ cs x, R h cs x → R h' cs x) (hR : ∀ {h cs x}, R h cs x → cs.all zP = true ∧ cs.length = 10) {h : GH} {cs : List Value} (r : RPn R h cs p) (hb : (p.kids.map f).sum ≤ 1000000000) (hk : p.kids.length ≤ 1000000000) :
    GTri Tryz.prog N 27 [.agg cs.toArray] h fun v h' => v = .int .i64 ((1 + (if p.kd = 3 then (p.kids.map f).sum else 0) : Nat) : Int) ∧ HS h h' := by
  obtain ⟨a1, c1, a2, c2, a3, c3, a4, c4, a5, c5, a6, c6, rfl, r1, r2, r3, r4, r5, r6⟩ := r
  refine zU Tryz.func27 rfl gf27 ok27 (by simp [Tryz.ntmps27]) ?_
  repeat' (first | with_reducible apply qK | ((with_reducible apply qB) <;> try simp only [qN, qC, qE, qG, qD, qA, qF, seval, qQ, qO, qP, dK]))
  refine wD rfl fun k1 h1 m1 s1 f1 n1 => ?_
  simp only [Pn.cs] at m1
  by_cases k3 : p.kd = 3
  case neg =>
    have e3 : (p.kd == 3) = false := by simp [k3]
    rw [if_neg k3]
    refine qJ ?_; repeat' (first | with_reducible apply qK | ((with_reducible first | apply qI | apply qB | apply qR | apply qS | apply qM) <;> try simp only [qN, qC, qE, qG, qD, qA, qF, seval, qQ, qO, qP, dK, qH m1 zT, e3]))
    first | exact s1 | exact ⟨rfl, s1⟩
  have e3 : (p.kd == 3) = true := by simp [k3]
  rw [if_pos k3]
  refine qJ ?_; repeat' (first | (with_reducible first | apply qK | apply qT) | ((with_reducible first | apply qI | apply qB | apply qR) <;> try simp only [qN, qC, qE, qG, qD, qA, qF, seval, qQ, qO, qP, dK, qH m1 zT, qH m1 wQ, e3]))
  refine xN [2, 10, 11] (fun (j : Nat) => [(3, .int .i64 ((1 + ((p.kids.take j).map f).sum : Nat) : Int)), (12, .int .i64 (j : Int))]) (fun q j h' => p.kids.length - j = q ∧ j ≤ p.kids.length ∧ HS h1 h') p.kids.length 0 (by simp [lk]) ⟨rfl, by omega, HS.refl _⟩ ?_
  rintro _ j h3 ⟨rfl, hj, s3⟩
  have S3 := s1.trans s3
  by_cases hjl : j < p.kids.length
  case neg =>
    obtain rfl : j = p.kids.length := by omega
    have d0 : decide ((p.kids.length : Int) < (p.kids.length : Int)) = false := decide_eq_false (by omega)
    rw [List.take_length]
    refine qJ ?_; repeat' (first | with_reducible apply qK | ((with_reducible first | apply qI | apply qB | apply qR | apply xO | apply qM) <;> try simp only [qN, qC, qE, qG, qD, qA, qF, seval, qQ, qO, qP, dK, d0]))
    first | exact S3 | exact ⟨rfl, S3⟩
  have d0 : decide ((j : Int) < (p.kids.length : Int)) = true := decide_eq_true (by omega)
  have wj : IntKind.i64.wrap ((j : Int) + 1) = ((j + 1 : Nat) : Int) := by rw [wrap64 (by omega) (by omega)]; omega
  obtain ⟨x, hx⟩ := jU hjl
  obtain ⟨ad, cs5, g1, g2, e1⟩ := RL.at (P := Tryz.prog) (RL.hs S3 (fR S3) r6) Tryz.underlying24 wL hx
  have hc := hR e1
  have t1 := qQ9 f hx
  have t2 := zA6 f p.kids (j + 1)
  refine qJ ?_; repeat' (first | (with_reducible first | apply qK | apply qT) | ((with_reducible first | apply qI | apply qB | apply qR | apply qS) <;> try simp only [qN, qC, qE, qG, qD, qA, qF, seval, qQ, qO, qP, dK, d0, g1, jN wL g2]))
  refine xQ fun k4 h4 m4 s4 f4 n4 => ?_
  refine qJ ?_; repeat' (first | ((with_reducible apply qI) <;> try simp only [qN, qC, qE, qG, qD, qA, qF, seval, qQ, qO, qP, dK]))
  refine wT m4 wL rfl (by decide) hc.2 rfl hc.1 fun h5 m5 f5 => ?_
  have s35 := s4.upd n4 f5
  have ld := zH (P := Tryz.prog) (t := 26) m5 wL hc.2
  refine qJ ?_; repeat' (first | ((with_reducible first | apply qI | apply qB) <;> try simp only [qN, qC, qE, qG, qD, qA, qF, seval, qQ, qO, qP, dK, ld]))
  refine (ih x (List.mem_of_getElem? hx) (fR s35 _ _ e1)).mono ?_
  rintro _ h6 ⟨rfl, s6⟩
  have w2 : IntKind.i64.wrap (((1 + ((p.kids.take j).map f).sum : Nat) : Int) + (f x : Int)) = ((1 + ((p.kids.take (j + 1)).map f).sum : Nat) : Int) := by rw [wrap64 (by omega) (by omega), t1]; omega
  refine qJ ?_; repeat' (first | ((with_reducible first | apply qI | apply qB) <;> try simp only [qN, qC, qE, qG, qD, qA, qF, seval, qQ, qO, qP, dK, wj, w2]))
  exact ⟨_, j + 1, by omega, (by simp only [List.forall_mem_cons, List.not_mem_nil, false_implies, implies_true, List.map, List.cons_append, List.nil_append, lk, Nat.reduceEqDiff, reduceIte, and_true, true_and]), rfl, by omega, s3.trans (s35.trans s6)⟩
end
theorem zR1 (N : Nat) : ∀ (n : Nat) {h : GH} {cs : List Value} {p : Pn (Pd n)} (r : RPn (RPd n) h cs p) (hk : Pn.bulk (Pd.bulk n) p ≤ 100000000),
    GTri Tryz.prog N 27 [.agg cs.toArray] h fun v h' => v = .int .i64 (kD n p : Int) ∧ HS h h'
  | 0, h, cs, p, r, hk => by
    have e := zH1 (K := Pd 0) (R := RPd 0) N (fun _ => 0) (fun x hx => nomatch (show Empty from x)) (fun s cs x r => RPd.hs s 0 r) (fun r => r.elim) r (by rw [tW p]; decide) (Nat.le_trans (Pn.bulk_parts p).1 (by omega))
    refine e.mono ?_
    rintro v h' ⟨rfl, s⟩
    refine ⟨?_, s⟩
    unfold kD
    rw [tW p]
    simp
  | n + 1, h, cs, p, r, hk => by
    have hb : Pn.bulk (Pd.bulk (n + 1)) p = p.id.length + p.ky.length + p.pf.length + p.lf.length + p.rt.length + (p.kids.map (Pd.bulk (n + 1))).sum + 10 := rfl
    have := qI7 (α := Pd (n + 1)) (l := p.kids) (f := kD n) (g := Pd.bulk (n + 1)) (fun x _ => sJ n x)
    exact zH1 (K := Pd (n + 1)) (R := RPd (n + 1)) N (kD n) (fun x hx {h c1} e1 => zR1 N n (p := x) e1 (by have := Pn.kids_bulk (p := p) (x := x) hx; omega)) (fun s cs x r => RPd.hs s (n + 1) r) (fun r => RPd.cells r) r (by omega) (Nat.le_trans (Pn.bulk_parts p).1 (by omega))
section
variable {K : Type} {R : GH → List Value → K → Prop}
theorem c_newest (N : Nat) {p : Pn K} {h : GH} {cs : List Value} (r : RPn R h cs p) : GTri Tryz.prog N 119 [.agg cs.toArray] h fun v h' => v = .int .i64 p.newest ∧ HS h h' := by
  obtain ⟨a1, c1, a2, c2, a3, c3, a4, c4, a5, c5, a6, c6, rfl, r1, r2, r3, r4, r5, r6⟩ := r
  unfold Pn.newest
  refine zU Tryz.func119 rfl gf119 ok119 (by simp [Tryz.ntmps119]) ?_
  repeat' (first | with_reducible apply qK | ((with_reducible apply qB) <;> try simp only [qN, qC, qE, qG, qD, qA, qF, seval, qQ, qO, qP, qE4]))
  refine wD rfl fun k1 h1 m1 s1 f1 n1 => ?_
  simp only [Pn.cs] at m1
  by_cases k1 : p.kd = 1
  · have e1 : (p.kd == 1) = true := by simp [k1]
    rw [if_pos k1]
    refine qJ ?_; repeat' (first | with_reducible apply qK | ((with_reducible first | apply qI | apply qB | apply qR | apply qM) <;> try simp only [qN, qC, qE, qG, qD, qA, qF, seval, qQ, qO, qP, qE4, qH m1 zT, e1]))
    first | exact s1 | exact ⟨rfl, s1⟩
  · have e1 : (p.kd == 1) = false := by simp [k1]
    rw [if_neg k1]
    refine qJ ?_; repeat' (first | with_reducible apply qK | ((with_reducible first | apply qI | apply qB | apply qR | apply qS | apply qM) <;> try simp only [qN, qC, qE, qG, qD, qA, qF, seval, qQ, qO, qP, qE4, qH m1 zT, e1]))
    first | exact s1 | exact ⟨rfl, s1⟩
end
section
variable {K : Type} {R : GH → List Value → K → Prop}
theorem qU0 (N : Nat) {p : Pn K} (f : K → Nat) (ih : ∀ x ∈ p.kids, ∀ {h c1}, R h c1 x → GTri Tryz.prog N 28 [.agg c1.toArray] h fun v h' => v = .int .i64 (f x : Int) ∧ HS h h') (fR : ∀ {h h'}, HS h h' → ∀ cs x, R h cs x → R h' cs x) (hR : ∀ {h cs x}, R h cs x → cs.all zP = true ∧ cs.length = 10) {h : GH} {cs : List Value} (r : RPn R h cs p) (hb : (p.kids.map f).sum ≤ 1000000000) (hk : p.kids.length ≤ 1000000000) :
    GTri Tryz.prog N 28 [.agg cs.toArray] h fun v h' => v = .int .i64 ((1 + (if p.kd = 3 then (p.kids.map f).sum else 0) : Nat) : Int) ∧ HS h h' := by
  obtain ⟨a1, c1, a2, c2, a3, c3, a4, c4, a5, c5, a6, c6, rfl, r1, r2, r3, r4, r5, r6⟩ := r
  refine zU Tryz.func28 rfl gf28 ok28 (by simp [Tryz.ntmps28]) ?_
  repeat' (first | with_reducible apply qK | ((with_reducible apply qB) <;> try simp only [qN, qC, qE, qG, qD, qA, qF, seval, qQ, qO, qP, dJ]))
  refine wD rfl fun k1 h1 m1 s1 f1 n1 => ?_
  simp only [Pn.cs] at m1
  by_cases k3 : p.kd = 3
  case neg =>
    have e3 : (p.kd == 3) = false := by simp [k3]
    rw [if_neg k3]
    refine qJ ?_; repeat' (first | with_reducible apply qK | ((with_reducible first | apply qI | apply qB | apply qR | apply qS | apply qM) <;> try simp only [qN, qC, qE, qG, qD, qA, qF, seval, qQ, qO, qP, dJ, qH m1 zT, e3]))
    first | exact s1 | exact ⟨rfl, s1⟩
  have e3 : (p.kd == 3) = true := by simp [k3]
  rw [if_pos k3]
  refine qJ ?_; repeat' (first | (with_reducible first | apply qK | apply qT) | ((with_reducible first | apply qI | apply qB | apply qR) <;> try simp only [qN, qC, qE, qG, qD, qA, qF, seval, qQ, qO, qP, dJ, qH m1 zT, qH m1 wQ, e3]))
  refine xN [2, 10, 11] (fun (j : Nat) => [(3, .int .i64 ((1 + ((p.kids.take j).map f).sum : Nat) : Int)), (12, .int .i64 (j : Int))]) (fun q j h' => p.kids.length - j = q ∧ j ≤ p.kids.length ∧ HS h1 h') p.kids.length 0 (by simp [lk]) ⟨rfl, by omega, HS.refl _⟩ ?_
  rintro _ j h3 ⟨rfl, hj, s3⟩
  have S3 := s1.trans s3
  by_cases hjl : j < p.kids.length
  case neg =>
    obtain rfl : j = p.kids.length := by omega
    have d0 : decide ((p.kids.length : Int) < (p.kids.length : Int)) = false := decide_eq_false (by omega)
    rw [List.take_length]
    refine qJ ?_; repeat' (first | with_reducible apply qK | ((with_reducible first | apply qI | apply qB | apply qR | apply xO | apply qM) <;> try simp only [qN, qC, qE, qG, qD, qA, qF, seval, qQ, qO, qP, dJ, d0]))
    first | exact S3 | exact ⟨rfl, S3⟩
  have d0 : decide ((j : Int) < (p.kids.length : Int)) = true := decide_eq_true (by omega)
  have wj : IntKind.i64.wrap ((j : Int) + 1) = ((j + 1 : Nat) : Int) := by rw [wrap64 (by omega) (by omega)]; omega
  obtain ⟨x, hx⟩ := jU hjl
  obtain ⟨ad, cs5, g1, g2, e1⟩ := RL.at (P := Tryz.prog) (RL.hs S3 (fR S3) r6) Tryz.underlying24 wL hx
  have hc := hR e1
  have t1 := qQ9 f hx
  have t2 := zA6 f p.kids (j + 1)
  refine qJ ?_; repeat' (first | (with_reducible first | apply qK | apply qT) | ((with_reducible first | apply qI | apply qB | apply qR | apply qS) <;> try simp only [qN, qC, qE, qG, qD, qA, qF, seval, qQ, qO, qP, dJ, d0, g1, jN wL g2]))
  refine xQ fun k4 h4 m4 s4 f4 n4 => ?_
  refine qJ ?_; repeat' (first | ((with_reducible apply qI) <;> try simp only [qN, qC, qE, qG, qD, qA, qF, seval, qQ, qO, qP, dJ]))
  refine wT m4 wL rfl (by decide) hc.2 rfl hc.1 fun h5 m5 f5 => ?_
  have s35 := s4.upd n4 f5
  have ld := zH (P := Tryz.prog) (t := 26) m5 wL hc.2
  refine qJ ?_; repeat' (first | ((with_reducible first | apply qI | apply qB) <;> try simp only [qN, qC, qE, qG, qD, qA, qF, seval, qQ, qO, qP, dJ, ld]))
  refine (ih x (List.mem_of_getElem? hx) (fR s35 _ _ e1)).mono ?_
  rintro _ h6 ⟨rfl, s6⟩
  have w2 : IntKind.i64.wrap (((1 + ((p.kids.take j).map f).sum : Nat) : Int) + (f x : Int)) = ((1 + ((p.kids.take (j + 1)).map f).sum : Nat) : Int) := by rw [wrap64 (by omega) (by omega), t1]; omega
  refine qJ ?_; repeat' (first | ((with_reducible first | apply qI | apply qB) <;> try simp only [qN, qC, qE, qG, qD, qA, qF, seval, qQ, qO, qP, dJ, wj, w2]))
  exact ⟨_, j + 1, by omega, (by simp only [List.forall_mem_cons, List.not_mem_nil, false_implies, implies_true, List.map, List.cons_append, List.nil_append, lk, Nat.reduceEqDiff, reduceIte, and_true, true_and]), rfl, by omega, s3.trans (s35.trans s6)⟩
end
theorem zG5 (N : Nat) : ∀ (n : Nat) {h : GH} {cs : List Value} {p : Pn (Pd n)} (r : RPn (RPd n) h cs p) (hk : Pn.bulk (Pd.bulk n) p ≤ 100000000),
    GTri Tryz.prog N 28 [.agg cs.toArray] h fun v h' => v = .int .i64 (kD n p : Int) ∧ HS h h'
  | 0, h, cs, p, r, hk => by
    have e := qU0 (K := Pd 0) (R := RPd 0) N (fun _ => 0) (fun x hx => nomatch (show Empty from x)) (fun s cs x r => RPd.hs s 0 r) (fun r => r.elim) r (by rw [tW p]; decide) (Nat.le_trans (Pn.bulk_parts p).1 (by omega))
    refine e.mono ?_
    rintro v h' ⟨rfl, s⟩
    refine ⟨?_, s⟩
    unfold kD
    rw [tW p]
    simp
  | n + 1, h, cs, p, r, hk => by
    have hb : Pn.bulk (Pd.bulk (n + 1)) p = p.id.length + p.ky.length + p.pf.length + p.lf.length + p.rt.length + (p.kids.map (Pd.bulk (n + 1))).sum + 10 := rfl
    have := qI7 (α := Pd (n + 1)) (l := p.kids) (f := kD n) (g := Pd.bulk (n + 1)) (fun x _ => sJ n x)
    exact qU0 (K := Pd (n + 1)) (R := RPd (n + 1)) N (kD n) (fun x hx {h c1} e1 => zG5 N n (p := x) e1 (by have := Pn.kids_bulk (p := p) (x := x) hx; omega)) (fun s cs x r => RPd.hs s (n + 1) r) (fun r => RPd.cells r) r (by omega) (Nat.le_trans (Pn.bulk_parts p).1 (by omega))
section
variable {K : Type} {R : GH → List Value → K → Prop}
theorem qT9 (N : Nat) {p : Pn K} {h : GH} {cs : List Value} (r : RPn R h cs p) : GTri Tryz.prog N 121 [.agg cs.toArray] h fun v h' => v = .int .i64 p.newest ∧ HS h h' := by
  obtain ⟨a1, c1, a2, c2, a3, c3, a4, c4, a5, c5, a6, c6, rfl, r1, r2, r3, r4, r5, r6⟩ := r
  unfold Pn.newest
  refine zU Tryz.func121 rfl gf121 ok121 (by simp [Tryz.ntmps121]) ?_
  repeat' (first | with_reducible apply qK | ((with_reducible apply qB) <;> try simp only [qN, qC, qE, qG, qD, qA, qF, seval, qQ, qO, qP, qE3]))
  refine wD rfl fun k1 h1 m1 s1 f1 n1 => ?_
  simp only [Pn.cs] at m1
  by_cases k1 : p.kd = 1
  · have e1 : (p.kd == 1) = true := by simp [k1]
    rw [if_pos k1]
    refine qJ ?_; repeat' (first | with_reducible apply qK | ((with_reducible first | apply qI | apply qB | apply qR | apply qM) <;> try simp only [qN, qC, qE, qG, qD, qA, qF, seval, qQ, qO, qP, qE3, qH m1 zT, e1]))
    first | exact s1 | exact ⟨rfl, s1⟩
  · have e1 : (p.kd == 1) = false := by simp [k1]
    rw [if_neg k1]
    refine qJ ?_; repeat' (first | with_reducible apply qK | ((with_reducible first | apply qI | apply qB | apply qR | apply qS | apply qM) <;> try simp only [qN, qC, qE, qG, qD, qA, qF, seval, qQ, qO, qP, qE3, qH m1 zT, e1]))
    first | exact s1 | exact ⟨rfl, s1⟩
end
theorem rN {K : Type} {p : Pn K} {size : Int} (h : p.right size = true) (h3 : p.kd = 3) : ∃ a b, p.kids = [a, b] := by
  unfold Pn.right at h
  rw [if_neg (by omega), if_neg (by omega), if_neg (by omega), if_pos h3] at h
  simp only [Bool.and_eq_true, beq_iff_eq] at h
  have h2 : p.kids.length = 2 := by omega
  match p.kids, h2 with
  | [a, b], _ => exact ⟨a, b, rfl⟩
theorem c_may (N : Nat) (size : Int) : ∀ (n : Nat) {h : GH} {cs : List Value} {p : Pn (Pd n)} (r : RPn (RPd n) h cs p) (hk : Pn.bulk (Pd.bulk n) p ≤ 100000000),
    GTri Tryz.prog N 72 [.int .i64 size, .agg cs.toArray] h fun v h' => v = .bool (wO size n p) ∧ HS h h' := by
  intro n
  induction n with
  | zero =>
    intro h cs p r hk
    have hbp := Pn.bulk_parts p
    have r0 := r
    obtain ⟨a1, c1, a2, c2, a3, c3, a4, c4, a5, c5, a6, c6, rfl, r1, r2, r3, r4, r5, r6⟩ := r
    unfold wO
    refine zU Tryz.func72 rfl gf72 ok72 (by simp [Tryz.ntmps72]) ?_
    repeat' (first | with_reducible apply qK | ((with_reducible apply qB) <;> try simp only [qN, qC, qE, qG, qD, qA, qF, seval, qQ, qO, qP, wU]))
    refine wD rfl fun k1 h1 m1 s1 f1 n1 => ?_
    have ld := zH (P := Tryz.prog) (t := 26) m1 wL rfl
    refine qJ ?_; repeat' (first | with_reducible apply qK | ((with_reducible first | apply qI | apply qB) <;> try simp only [qN, qC, qE, qG, qD, qA, qF, seval, qQ, qO, qP, wU, ld]))
    refine (zQ9 N (r0.hs s1 (fun cs x r => RPd.hs s1 0 r)) (fun s cs x r => RPd.hs s 0 r) size (by omega)).mono ?_
    rintro _ h2 ⟨rfl, s2⟩
    have S2 := s1.trans s2
    have m2 := s2 _ _ m1
    simp only [Pn.cs] at m2
    cases hr : p.right size
    case false =>
      refine qJ ?_; repeat' (first | with_reducible apply qK | ((with_reducible first | apply qI | apply qB | apply qR | apply qM) <;> try simp only [qN, qC, qE, qG, qD, qA, qF, seval, qQ, qO, qP, wU]))
      first | exact S2 | exact ⟨by simp, S2⟩
    by_cases k3 : p.kd = 3
    · obtain ⟨a, b, e⟩ := rN hr k3
      exact nomatch (show Empty from a)
    have e3 : (p.kd == 3) = false := by simp [k3]
    have e3' : (p.kd != 3) = true := by simp [k3]
    refine qJ ?_; repeat' (first | with_reducible apply qK | ((with_reducible first | apply qI | apply qB | apply qR | apply qS | apply qM) <;> try simp only [qN, qC, qE, qG, qD, qA, qF, seval, qQ, qO, qP, wU, qH m2 zT, e3']))
    first | exact S2 | exact ⟨by simp [e3], S2⟩
  | succ n ih =>
    intro h cs p r hk
    have hbp := Pn.bulk_parts p
    have r0 := r
    obtain ⟨a1, c1, a2, c2, a3, c3, a4, c4, a5, c5, a6, c6, rfl, r1, r2, r3, r4, r5, r6⟩ := r
    generalize hmv : wO size (n + 1) p = mv
    unfold wO at hmv
    refine zU Tryz.func72 rfl gf72 ok72 (by simp [Tryz.ntmps72]) ?_
    repeat' (first | with_reducible apply qK | ((with_reducible apply qB) <;> try simp only [qN, qC, qE, qG, qD, qA, qF, seval, qQ, qO, qP, wU]))
    refine wD rfl fun k1 h1 m1 s1 f1 n1 => ?_
    have ld := zH (P := Tryz.prog) (t := 26) m1 wL rfl
    refine qJ ?_; repeat' (first | with_reducible apply qK | ((with_reducible first | apply qI | apply qB) <;> try simp only [qN, qC, qE, qG, qD, qA, qF, seval, qQ, qO, qP, wU, ld]))
    refine (zQ9 N (r0.hs s1 (fun cs x r => RPd.hs s1 (n + 1) r)) (fun s cs x r => RPd.hs s (n + 1) r) size (by omega)).mono ?_
    rintro _ h2 ⟨rfl, s2⟩
    have S2 := s1.trans s2
    have m2 := s2 _ _ m1
    simp only [Pn.cs] at m2
    cases hr : p.right size
    case false =>
      rw [hr, Bool.false_and] at hmv
      refine qJ ?_; repeat' (first | with_reducible apply qK | ((with_reducible first | apply qI | apply qB | apply qR | apply qM) <;> try simp only [qN, qC, qE, qG, qD, qA, qF, seval, qQ, qO, qP, wU]))
      first | exact S2 | exact ⟨by rw [← hmv], S2⟩ | (subst hmv; exact S2)
    rw [hr, Bool.true_and] at hmv
    by_cases k3 : p.kd = 3
    case neg =>
      have e3 : (p.kd == 3) = false := by simp [k3]
      have e3' : (p.kd != 3) = true := by simp [k3]
      rw [e3, Bool.not_false, Bool.true_or] at hmv
      refine qJ ?_; repeat' (first | with_reducible apply qK | ((with_reducible first | apply qI | apply qB | apply qR | apply qS | apply qM) <;> try simp only [qN, qC, qE, qG, qD, qA, qF, seval, qQ, qO, qP, wU, qH m2 zT, e3']))
      first | exact S2 | exact ⟨by rw [← hmv], S2⟩ | (subst hmv; exact S2)
    have e3 : (p.kd == 3) = true := by simp [k3]
    have e3' : (p.kd != 3) = false := by simp [k3]
    obtain ⟨a, b, hkids⟩ := rN hr k3
    rw [e3, Bool.not_true, Bool.false_or, hkids] at hmv
    simp only at hmv
    have fk : p.frk = true := by rcases p.kinds hr with q | q | q <;> first | omega | exact q.2
    have fk := p.frk_ok fk
    obtain ⟨dp, hdp⟩ : ∃ w : Nat, p.dp = (w : Int) := ⟨p.dp.toNat, by omega⟩
    have hkl : p.kids.length = 2 := by rw [hkids]; rfl
    have r6' := r6
    rw [hkl] at r6' m2
    refine qJ ?_; repeat' (first | (with_reducible first | apply qK | apply qT) | ((with_reducible first | apply qI | apply qB | apply qR | apply qS) <;> try simp only [qN, qC, qE, qG, qD, qA, qF, seval, qQ, qO, qP, wU, qH m2 zT, qH m2 wQ, e3']))
    refine xN [0, 3, 18, 19] (fun (s : Nat × Int) => [(5, .int .i64 s.2), (20, .int .i64 (s.1 : Int))]) (fun q s h' => 2 - s.1 = q ∧ HS h2 h' ∧ (s.1 = 0 ∧ s.2 = 0 ∨ s.1 = 1 ∧ (kJ p 0 (show Pn (Pd n) from a) && wO size n a) = true ∧ s.2 = max 0 (Pn.newest (show Pn (Pd n) from a)) ∨ s.1 = 2 ∧ (kJ p 0 (show Pn (Pd n) from a) && wO size n a && (kJ p 1 (show Pn (Pd n) from b) && wO size n b)) = true ∧ s.2 = max (max 0 (Pn.newest (show Pn (Pd n) from a))) (Pn.newest (show Pn (Pd n) from b)))) 2 (0, 0) (by simp [lk]) ⟨rfl, HS.refl _, .inl ⟨rfl, rfl⟩⟩ ?_
    rintro _ ⟨j, most⟩ h3 ⟨rfl, s3, hst⟩
    simp only at hst
    have S3 := S2.trans s3
    have m3 := s3 _ _ m2
    by_cases hj2 : j = 2
    · obtain ⟨hA, hM⟩ : (kJ p 0 (show Pn (Pd n) from a) && wO size n a && (kJ p 1 (show Pn (Pd n) from b) && wO size n b)) = true ∧ most = max (max 0 (Pn.newest (show Pn (Pd n) from a))) (Pn.newest (show Pn (Pd n) from b)) := by
        rcases hst with q | q | q
        · omega
        · omega
        · exact q.2
      subst hj2
      rw [hA, Bool.true_and, ← hM] at hmv
      refine qJ ?_; repeat' (first | with_reducible apply qK | ((with_reducible first | apply qI | apply qB | apply qR | apply xO | apply qM) <;> try simp only [qN, qC, qE, qG, qD, qA, qF, seval, qQ, qO, qP, wU, qH m3 zT]))
      first | exact S3 | exact ⟨by rw [← hmv], S3⟩ | (subst hmv; exact S3)
    have hjl : j < 2 := by omega
    obtain ⟨x, hx, hfail, hsucc⟩ : ∃ x : Pn (Pd n), p.kids[j]? = some x ∧ ((kJ p (j : Int) x && wO size n x) = false → mv = false) ∧ ((kJ p (j : Int) x && wO size n x) = true → (j + 1 = 0 ∧ max most x.newest = 0 ∨ j + 1 = 1 ∧ (kJ p 0 (show Pn (Pd n) from a) && wO size n a) = true ∧ max most x.newest = max 0 (Pn.newest (show Pn (Pd n) from a)) ∨ j + 1 = 2 ∧ (kJ p 0 (show Pn (Pd n) from a) && wO size n a && (kJ p 1 (show Pn (Pd n) from b) && wO size n b)) = true ∧ max most x.newest = max (max 0 (Pn.newest (show Pn (Pd n) from a))) (Pn.newest (show Pn (Pd n) from b)))) := by
      rcases hst with ⟨rfl, rfl⟩ | ⟨rfl, q1, q2⟩ | ⟨rfl, _⟩
      · refine ⟨a, by rw [hkids]; rfl, fun q => ?_, fun q => .inr (.inl ⟨rfl, q, rfl⟩)⟩
        rw [← hmv, show (kJ p 0 (show Pn (Pd n) from a) && wO size n a) = false from q]; rfl
      · refine ⟨b, by rw [hkids]; rfl, fun q => ?_, fun q => .inr (.inr ⟨rfl, by rw [q1, Bool.true_and]; exact q, by rw [q2]⟩)⟩
        rw [← hmv, show (kJ p 1 (show Pn (Pd n) from b) && wO size n b) = false from q, q1]; rfl
      · omega
    have d0 : decide ((j : Int) < 2) = true := decide_eq_true (by omega)
    have wj : IntKind.i64.wrap ((j : Int) + 1) = ((j + 1 : Nat) : Int) := by rw [wrap64 (by omega) (by omega)]; omega
    have hxb := Pn.kids_bulk (p := p) (x := x) (List.mem_of_getElem? hx)
    have hxp := Pn.bulk_parts x
    obtain ⟨ad, cs5, g1, g2, e1⟩ := RL.at (P := Tryz.prog) (RL.hs S3 (fun cs x r => RPd.hs S3 (n + 1) r) r6) Tryz.underlying24 wL hx
    rw [hkl] at g1
    have e1' : RPn (RPd n) h3 cs5 x := e1
    have hc := RPd.cells e1
    refine qJ ?_; repeat' (first | (with_reducible first | apply qK | apply qT) | ((with_reducible first | apply qI | apply qB | apply qR | apply qS) <;> try simp only [qN, qC, qE, qG, qD, qA, qF, seval, qQ, qO, qP, wU, d0, g1, jN wL g2]))
    refine xQ fun k4 h4 m4 s4 f4 n4 => ?_
    refine qJ ?_; repeat' (first | ((with_reducible apply qI) <;> try simp only [qN, qC, qE, qG, qD, qA, qF, seval, qQ, qO, qP, wU]))
    refine wT m4 wL rfl (by decide) hc.2 rfl hc.1 fun h5 m5 f5 => ?_
    have s35 := s4.upd n4 f5
    have x5 := e1'.hs s35 (fun cs x r => RPd.hs s35 n r)
    have ld5 := zH (P := Tryz.prog) (t := 26) m5 wL hc.2
    refine qJ ?_; repeat' (first | with_reducible apply qK | ((with_reducible first | apply qI | apply qB) <;> try simp only [qN, qC, qE, qG, qD, qA, qF, seval, qQ, qO, qP, wU, ld5]))
    refine (c_Bits N x5 (by omega)).mono ?_
    rintro _ h6 ⟨s6, a7, c7, rfl, r7⟩
    have s36 := s35.trans s6
    have S6 := S3.trans s36
    have m36 := s36 _ _ m3
    have m56 := s6 _ _ m5
    have ld6 := zH (P := Tryz.prog) (t := 26) m56 wL hc.2
    have hbl : x.bits.length ≤ 100000000 := by
      unfold Pn.bits
      split
      · rw [yY]; omega
      · omega
    have x6 := x5.hs s6 (fun cs x r => RPd.hs s6 n r)
    have x6' := x6
    obtain ⟨z1, y1, z2, y2, z3, y3, z4, y4, z5, y5, z6, y6, ecs5, _⟩ := x6'
    rw [ecs5] at m56
    simp only [Pn.cs] at m56
    simp only at ld6
    have rp6 := r3.hs S6
    have hB := r7
    have ret0 : (kJ p (j : Int) x && wO size n x) = false → ∀ {h' : GH}, HS h h' → Value.bool false = Value.bool mv ∧ HS h h' := fun q h' s => ⟨by rw [hfail q], s⟩
    refine qJ ?_; iterate 1 (first | ((with_reducible apply qI) <;> try simp only [qN, qC, qE, qG, qD, qA, qF, seval, qQ, qO, qP, wU]))
    refine qK ?_
    refine GW.mono (Q := fun z e' h' => z = .normal ∧ h6 = h' ∧ lk e' 0 = .int .i64 size ∧ lk e' 3 = .pointer (some ⟨k1, 0, none⟩) ∧ lk e' 5 = .int .i64 most ∧ lk e' 6 = .int .i64 (j : Int) ∧ lk e' 7 = .pointer (some ⟨k4, 0, none⟩) ∧ lk e' 8 = .slice a7 x.bits.length c7 ∧ lk e' 18 = .slice a6 2 c6 ∧ lk e' 19 = .int .i64 2 ∧ lk e' 20 = .int .i64 (j : Int) ∧ lk e' 9 = .bool (x.kd == 1 || (x.kd != 0 && decide (x.dp > p.dp)))) ?_ ?_
    · cases w0 : (x.kd == 1)
      case true =>
        refine qJ ?_; repeat' (first | ((with_reducible first | apply qI | apply qB) <;> try simp only [qN, qC, qE, qG, qD, qA, qF, seval, qQ, qO, qP, wU, w0, qH m36 zT, qH m36 zD, qH m56 zT, ld6, hdp, gPick]))
        all_goals simp only [Bool.true_or]
      cases w1 : (x.kd != 0)
      case false =>
        refine qJ ?_; repeat' (first | ((with_reducible first | apply qI | apply qB) <;> try simp only [qN, qC, qE, qG, qD, qA, qF, seval, qQ, qO, qP, wU, w0, w1, qH m36 zT, qH m36 zD, qH m56 zT, ld6, hdp, gPick]))
        all_goals simp only [Bool.false_and, Bool.false_or]
      refine qJ ?_; repeat' (first | ((with_reducible first | apply qI | apply qB) <;> try simp only [qN, qC, qE, qG, qD, qA, qF, seval, qQ, qO, qP, wU, w0, w1, qH m36 zT, qH m36 zD, qH m56 zT, ld6, hdp, gPick]))
      all_goals try simp only [hdp, Bool.false_or, Bool.true_and]
    rintro _ e' _ ⟨rfl, rfl, q0, q3, q5, q6, q7, q8, q18, q19, q20, q9⟩
    rw [gT]
    refine tM [(0, .int .i64 size), (3, .pointer (some ⟨k1, 0, none⟩)), (5, .int .i64 most), (6, .int .i64 (j : Int)), (7, .pointer (some ⟨k4, 0, none⟩)), (8, .slice a7 x.bits.length c7), (18, .slice a6 2 c6), (19, .int .i64 2), (20, .int .i64 (j : Int)), (9, .bool (x.kd == 1 || (x.kd != 0 && decide (x.dp > p.dp))))] (by simp [q0, q3, q5, q6, q7, q8, q9, q18, q19, q20]) ?_
    clear q0 q3 q5 q6 q7 q8 q9 q18 q19 q20
    cases y0 : (x.kd == 1 || (x.kd != 0 && decide (x.dp > p.dp)))
    case false =>
      refine qJ ?_; repeat' (first | with_reducible apply qK | ((with_reducible first | apply qI | apply qB | apply qR | apply qM) <;> try simp only [qN, qC, qE, qG, qD, qA, qF, seval, qQ, qO, qP, wU, qH m36 zT, qH m36 zD, qH m56 zT, ld6, hdp, gPick]))
      exact ret0 (by unfold kJ; rw [y0]; rfl) S6
    cases y1 : sB x.bits p.pf (dp : Int)
    case false =>
      refine qJ ?_; repeat' (first | with_reducible apply qK | ((first | (with_reducible first | apply qI | apply qB | apply qR | apply qM) | ((refine GTri.mono (mF _ _ hB rp6 (by omega) (by omega) _) ?_); rintro _ _ ⟨rfl, hh9⟩; replace hh9 := hh9.symm; subst hh9)) <;> try simp only [qN, qC, qE, qG, qD, qA, qF, seval, qQ, qO, qP, wU, y1, qH m36 zT, qH m36 zD, qH m56 zT, ld6, hdp, gPick]))
      exact ret0 (by unfold kJ; rw [y0, hdp, y1]; rfl) S6
    cases y2 : (zZ x.bits dp == (j : Int))
    case false =>
      have y2' : (zZ x.bits dp != (j : Int)) = true := by simp only [bne, y2, Bool.not_false]
      refine qJ ?_; repeat' (first | with_reducible apply qK | ((first | (with_reducible first | apply qI | apply qB | apply qR | apply qM) | ((refine GTri.mono (mF _ _ hB rp6 (by omega) (by omega) _) ?_); rintro _ _ ⟨rfl, hh9⟩; replace hh9 := hh9.symm; subst hh9) | ((refine GTri.mono (dP _ _ hB dp (by omega)) ?_); rintro _ _ ⟨rfl, hh9⟩; replace hh9 := hh9.symm; subst hh9)) <;> try simp only [qN, qC, qE, qG, qD, qA, qF, seval, qQ, qO, qP, wU, y1, y2', qH m36 zT, qH m36 zD, qH m56 zT, ld6, hdp, gPick]))
      exact ret0 (by unfold kJ; rw [y0, hdp, y1, Int.toNat_natCast, y2]; rfl) S6
    have y2' : (zZ x.bits dp != (j : Int)) = false := by simp only [bne, y2, Bool.not_true]
    have hkb : kJ p (j : Int) x = true := by unfold kJ; rw [y0, hdp, y1, Int.toNat_natCast, y2]; rfl
    refine qJ ?_; repeat' (first | with_reducible apply qK | ((first | (with_reducible first | apply qI | apply qB) | ((refine GTri.mono (mF _ _ hB rp6 (by omega) (by omega) _) ?_); rintro _ _ ⟨rfl, hh9⟩; replace hh9 := hh9.symm; subst hh9) | ((refine GTri.mono (dP _ _ hB dp (by omega)) ?_); rintro _ _ ⟨rfl, hh9⟩; replace hh9 := hh9.symm; subst hh9)) <;> try simp only [qN, qC, qE, qG, qD, qA, qF, seval, qQ, qO, qP, wU, y1, y2', qH m36 zT, qH m36 zD, qH m56 zT, ld6, hdp, gPick]))
    refine (ih x6 (by omega)).mono ?_
    rintro _ h7 ⟨rfl, s7⟩
    have S7 := S6.trans s7
    cases hmx : wO size n x
    case false =>
      refine qJ ?_; repeat' (first | with_reducible apply qK | ((with_reducible first | apply qI | apply qB | apply qR | apply qM) <;> try simp only [qN, qC, qE, qG, qD, qA, qF, seval, qQ, qO, qP, wU, gPick]))
      exact ret0 (by rw [hmx, Bool.and_false]) S7
    have ld7 := xT s7 ld6
    refine qJ ?_; repeat' (first | ((with_reducible first | apply qI | apply qB | apply qR | apply qS) <;> try simp only [qN, qC, qE, qG, qD, qA, qF, seval, qQ, qO, qP, wU, gPick, ld7]))
    refine (c_newest N (x6.hs s7 (fun cs x r => RPd.hs s7 n r))).mono ?_
    rintro _ h8 ⟨rfl, s8⟩
    refine qJ ?_; repeat' (first | ((with_reducible first | apply qI | apply qB) <;> try simp only [qN, qC, qE, qG, qD, qA, qF, seval, qQ, qO, qP, wU, max_if, wj]))
    exact ⟨_, (j + 1, max most x.newest), by simp only; omega, (by simp only [List.forall_mem_cons, List.not_mem_nil, false_implies, implies_true, List.map, List.cons_append, List.nil_append, lk, Nat.reduceEqDiff, reduceIte, and_true, true_and]), rfl, s3.trans (s36.trans (s7.trans s8)), hsucc (by rw [hkb, hmx]; rfl)⟩
end Go.Gh
