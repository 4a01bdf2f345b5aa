/- Parts of this claim's proof, 13. No statement of the claim stands here. -/
import Derived.Test.YtbaikgnddebkjaaP12
namespace Go.Gh
open Go Go.Proofs Go.RowKit
set_option linter.unusedVariables false
set_option linter.unusedSimpArgs false
set_option maxRecDepth 100000
set_option maxHeartbeats 4000000
theorem wO : type_of% (And.intro gY (And.intro wT (And.intro wN (And.intro yB (And.intro uN (And.intro wM (And.intro jZ (And.intro gH (And.intro uM (And.intro wZ (And.intro jV (And.intro dZ rs119)))))))))))) := And.intro gY (And.intro wT (And.intro wN (And.intro yB (And.intro uN (And.intro wM (And.intro jZ (And.intro gH (And.intro uM (And.intro wZ (And.intro jV (And.intro dZ rs119)))))))))))
def zK : List (Nat × List Nat) := [(0, []), (1, []), (2, []), (3, []), (5, []), (8, []), (9, []), (10, []), (4, [5, 10]), (6, [10]), (7, [10]), (11, []), (12, [])]
def xK : List Nat := [0, 0, 0, 6, 15, 0, 63, 127, 0, 0, 768, 2047, 4095]
def zJ : List (Nat × List Nat) := [(0, []), (1, []), (2, []), (3, []), (5, []), (8, []), (9, []), (10, []), (6, [3, 10]), (4, [10]), (7, [10]), (11, []), (12, [])]
def xJ : List Nat := [0, 0, 0, 6, 111, 0, 32, 127, 0, 0, 768, 2047, 4095]
def zX : Nat → List (Nat × List Nat) × List Nat
  | 11 => ([(0, []), (1, []), (2, []), (3, []), (4, []), (5, []), (6, []), (7, []), (8, []), (9, []), (10, []), (11, []), (12, []), (13, [])], [0, 1, 3, 7, 7, 23, 63, 127, 255, 7, 519, 2047, 4095, 8191])
  | _ => ([], [])
theorem src1 {h : GH} {k es : Nat} {cs : List Value} {w t : Bool} (m : h k = some ⟨cs, es, w, t⟩) (hl : cs.length = es) : jM h es (.slice (some ⟨k, 0, none⟩) 1 3) = some (1, cs) := by
  have := vA m (o := 0) (n := 1 * es) (cs := cs) (by rw [List.drop_zero, Nat.one_mul, ← hl]; exact List.take_length) (by rw [hl, Nat.one_mul])
  simp only [jM, this]; rfl
section
variable {h0 h : GH} {k : Nat} {p : Pm} {tv bv : Value} {ts cs : List Value} {M : List (Int × List Bnd)} {ck : Int}
theorem RM.short (x : RM h0 h k p tv bv ts cs M ck) {y : Int × List Bnd} (hy : y ∈ M) {z : Bnd} (hz : z ∈ y.2) : z.1.length ≤ 255 := by
  have hp := p.may_iff.1 x.may
  rcases x.di y hy with h | h
  · rw [h] at hz; simp at hz
  · have := (mJ h).2 z hz
    unfold jC at this
    omega
theorem RM.shortD (x : RM h0 h k p tv bv ts cs M ck) {q : Ak} {e i : Nat} {L : List Itm} (d : DI M q e i L) : ∀ z ∈ L, z.1.1.length ≤ 255 := fun z hz => by
  obtain ⟨h1, _⟩ := (d.mem z).1 hz
  obtain ⟨key, hA, _⟩ := mD h1
  obtain ⟨h2, j, hj, hb⟩ := qX4 hA
  obtain ⟨y, hy⟩ := vC h2
  rw [uJ hy] at hj hb
  obtain ⟨w, hw⟩ := vC hj
  rw [dH hw] at hb
  rw [← hb]
  exact x.short (List.mem_of_getElem? hy) (List.mem_of_getElem? hw)
theorem RM.uniq (x : RM h0 h k p tv bv ts cs M ck) {e : Nat} {y : Int × List Bnd} (hy : M[e]? = some y) {i j : Nat} (hij : j < i) (hi : i < y.2.length) : (vI (jI M e) j).1 ≠ (vI (jI M e) i).1 := fun he => by
  have hd := x.dis y.2 (List.mem_map.2 ⟨y, List.mem_of_getElem? hy, rfl⟩)
  obtain ⟨a, ha⟩ := vC hi
  obtain ⟨b, hb⟩ := vC (show j < y.2.length by omega)
  rw [uJ hy, dH ha, dH hb] at he
  exact qF5 hij ha hb he.symm hd
theorem qN1 (N : Nat) (x : RM h0 h k p tv bv ts cs M ck) (q : Ak) (hsm : q.sm = false) (h1 : 0 ≤ q.fr) (h2 : 0 ≤ q.to) (h3 : q.to < (M.length : Int)) :
    GTri Try.prog N 119 [.pointer (some ⟨k, 0, none⟩), .int .i64 q.fr, .int .i64 q.to] h fun v h' => (∃ L a c, v = .slice a L.length c ∧ L.length ≤ 100000 ∧ Diff M q L ∧ RL 3 It h' (.slice a L.length c) L) ∧ HS h h' := by
  have hML := x.len
  obtain ⟨to, hto⟩ : ∃ to : Nat, q.to = (to : Int) := ⟨q.to.toNat, by omega⟩
  obtain ⟨ab, cb, eb⟩ := x.bat.form
  refine wQ Try.func119 rfl gf119 ok119 (by simp [Try.ntmps119]) ?_
  repeat' (first | (with_reducible first | apply qH | apply qB) | ((first | (with_reducible first | apply qA | apply qP | apply qD | apply qE | apply qK) | ((with_reducible first | apply qQ | apply qI | apply qJ | apply qW | apply qX) <;> intro hb <;> (try simp only [hb]) <;> (try simp only [zF] at hb)) | with_reducible refine zW (id := 13) 4 6 zK xK zJ xJ mixed (by kernel_rfl) (by kernel_rfl) (by kernel_rfl) ?_ ?_ | with_reducible refine qO zX mixed (by kernel_rfl) ?_) <;> try simp only [qV, qF, qL, qN, qG, qC, qM, reduceIte, seval, Int.cast_ofNat_Int, qY, qZ, qU, zR, zT, zU, wO, zX, zK, zJ]))
  refine wI [0, 1, 2, 6] (fun (y : Nat × (Option Addr × Nat × Nat)) => [(7, .slice y.2.1 y.2.2.1 y.2.2.2), (8, .int .i64 (y.1 : Int))])
    (fun w y h' => to + 1 - y.1 = w ∧ 1 ≤ y.1 ∧ y.1 ≤ to + 1 ∧ HS h h' ∧ ∃ L, DI M q y.1 0 L ∧ L.length ≤ 32 * y.1 ∧ Itc h h' (.slice y.2.1 y.2.2.1 y.2.2.2) L) to (1, (none, 0, 0)) (by simp [lk])
    ⟨by simp, Nat.le_refl _, by simp only; omega, HS.refl _, [], DI.start x.z0, by simp, [], OWNC.nil _ _ _, rfl, rfl, fun i p hp => by simp at hp⟩ ?_
  rintro _ ⟨e, a2, n2, c2⟩ hh2 ⟨rfl, he1, het, s2, L2, d2, l2, it2⟩
  simp only at he1 het d2 l2 it2
  by_cases hle : e ≤ to
  case neg =>
    obtain rfl : e = to + 1 := by omega
    have d3 : decide (((to + 1 : Nat) : Int) ≤ q.to) = false := decide_eq_false (by omega)
    refine qS ?_; repeat' (first | (with_reducible first | apply qH | apply qB) | ((first | (with_reducible apply qR) | (with_reducible first | apply qA | apply qP | apply qD | apply qE | apply qK) | ((with_reducible first | apply qQ | apply qI | apply qJ | apply qW | apply qX) <;> intro hb <;> (try simp only [hb]) <;> (try simp only [zF] at hb)) | with_reducible refine zW (id := 13) 4 6 zK xK zJ xJ mixed (by kernel_rfl) (by kernel_rfl) (by kernel_rfl) ?_ ?_ | with_reducible refine qO zX mixed (by kernel_rfl) ?_) <;> try simp only [qV, qF, qL, qN, qG, qC, qM, reduceIte, seval, Int.cast_ofNat_Int, qY, qZ, qU, zR, zT, zU, wO, zX, zK, zJ, d3]))
    have hn : n2 = L2.length := by
      obtain ⟨_, o, _⟩ := it2
      obtain ⟨_, _, q⟩ := o.form
      cases q; rfl
    subst hn
    exact ⟨⟨L2, _, _, rfl, by omega, d2.done hto, it2.rl⟩, s2⟩
  have d3 : decide ((e : Int) ≤ q.to) = true := decide_eq_true (by omega)
  have we : IntKind.i64.wrap ((e : Int) + 1) = ((e + 1 : Nat) : Int) := by rw [wrap64 (by omega) (by omega)]; omega
  obtain ⟨y, hy⟩ := vC (show e < M.length by omega)
  have hbe : jI M e = y.2 := uJ hy
  have hyl := (x.bl y (List.mem_of_getElem? hy)).2
  have x2 := x.hs s2
  have ho2 := x2.obj
  obtain ⟨ab2, cb2, kb2, a4, c4, eb2, g5, l5, rl5⟩ := x2.rlb hy
  rw [eb2] at ho2 g5
  refine qS ?_; repeat' (first | (with_reducible first | apply qH | apply qB) | ((first | (with_reducible apply qR) | (with_reducible first | apply qA | apply qP | apply qD | apply qE | apply qK) | ((with_reducible first | apply qQ | apply qI | apply qJ | apply qW | apply qX) <;> intro hb <;> (try simp only [hb]) <;> (try simp only [zF] at hb)) | with_reducible refine zW (id := 13) 4 6 zK xK zJ xJ mixed (by kernel_rfl) (by kernel_rfl) (by kernel_rfl) ?_ ?_ | with_reducible refine qO zX mixed (by kernel_rfl) ?_) <;> try simp only [qV, qF, qL, qN, qG, qC, qM, reduceIte, seval, Int.cast_ofNat_Int, qY, qZ, qU, zR, zT, zU, wO, zX, zK, zJ, d3, gNil, qT ho2 kX, g5, l5]))
  refine wI [0, 1, 2, 6, 8, 14, 15, 16, 19, 20, 21, 22, 23, 24, 25, 26] (fun (y : Nat × (Option Addr × Nat × Nat)) => [(7, .slice y.2.1 y.2.2.1 y.2.2.2), (27, .int .i64 (y.1 : Int))])
    (fun w z h' => y.2.length - z.1 = w ∧ z.1 ≤ y.2.length ∧ HS hh2 h' ∧ ∃ L, DI M q e z.1 L ∧ L.length ≤ 32 * e + z.1 ∧ Itc h h' (.slice z.2.1 z.2.2.1 z.2.2.2) L) y.2.length (0, (a2, n2, c2)) (by simp [lk])
    ⟨rfl, by simp, HS.refl _, L2, d2, by simp only; omega, it2⟩ ?_
  rintro _ ⟨i, a6, n6, c6⟩ hh6 ⟨rfl, hi, s6, L, di, hLl, it6⟩
  simp only at hi di hLl it6
  by_cases hib : i < y.2.length
  case neg =>
    obtain rfl : i = y.2.length := by omega
    have d4 : decide ((y.2.length : Int) < (y.2.length : Int)) = false := decide_eq_false (by omega)
    refine qS ?_; repeat' (first | (with_reducible first | apply qH | apply qB) | ((first | (with_reducible apply qR) | (with_reducible first | apply qA | apply qP | apply qD | apply qE | apply qK) | ((with_reducible first | apply qQ | apply qI | apply qJ | apply qW | apply qX) <;> intro hb <;> (try simp only [hb]) <;> (try simp only [zF] at hb)) | with_reducible refine zW (id := 13) 4 6 zK xK zJ xJ mixed (by kernel_rfl) (by kernel_rfl) (by kernel_rfl) ?_ ?_ | with_reducible refine qO zX mixed (by kernel_rfl) ?_) <;> try simp only [qV, qF, qL, qN, qG, qC, qM, reduceIte, seval, Int.cast_ofNat_Int, qY, qZ, qU, zR, zT, zU, wO, zX, zK, zJ, d4, we]))
    rw [← hbe] at di
    exact ⟨_, (e + 1, a6, n6, c6), by simp only; omega, (by simp only [List.forall_mem_cons, List.not_mem_nil, false_implies, implies_true, List.map, List.cons_append, List.nil_append, lk, Nat.reduceEqDiff, reduceIte, and_true, true_and]), rfl, by simp only; omega, by simp only; omega, s2.trans s6, L, di.next, by simp only; omega, it6⟩
  have d4 : decide ((i : Int) < (y.2.length : Int)) = true := decide_eq_true (by omega)
  have wi : IntKind.i64.wrap ((i : Int) + 1) = ((i + 1 : Nat) : Int) := by rw [wrap64 (by omega) (by omega)]; omega
  obtain ⟨z, hz⟩ := vC hib
  have hbi : (vI (jI M e) i).1 = z.1 := by rw [hbe, dH hz]
  have hzl := x.short (List.mem_of_getElem? hy) (List.mem_of_getElem? hz)
  obtain ⟨ad, cs2, g1, g2, a', n', c', b', m', d', rfl, q1, q2⟩ := (rl5.bs s6).at (P := Try.prog) Try.underlying23 uQ hz
  have l1 : xM Try.prog 99 hh6 (.pointer (some ad)) = some (.agg #[.slice a' n' c', .slice b' m' d']) := by simp only [xM, uQ, g2]; rfl
  have e1 := q1.len_eq
  subst e1
  refine qS ?_; repeat' (first | (with_reducible first | apply qH | apply qB) | ((first | (with_reducible apply qR) | (with_reducible first | apply qA | apply qP | apply qD | apply qE | apply qK) | ((with_reducible first | apply qQ | apply qI | apply qJ | apply qW | apply qX) <;> intro hb <;> (try simp only [hb]) <;> (try simp only [zF] at hb)) | with_reducible refine zW (id := 13) 4 6 zK xK zJ xJ mixed (by kernel_rfl) (by kernel_rfl) (by kernel_rfl) ?_ ?_ | with_reducible refine qO zX mixed (by kernel_rfl) ?_) <;> try simp only [qV, qF, qL, qN, qG, qC, qM, reduceIte, seval, Int.cast_ofNat_Int, qY, qZ, qU, zR, zT, zU, wO, zX, zK, zJ, d4, g1, l1]))
  refine xW fun k7 hh7 m7 s7 f7 n7 => ?_
  refine qS ?_; repeat' (first | (with_reducible first | apply qH | apply qB) | ((first | (with_reducible apply qR) | (with_reducible first | apply qA | apply qP | apply qD | apply qE | apply qK) | ((with_reducible first | apply qQ | apply qI | apply qJ | apply qW | apply qX) <;> intro hb <;> (try simp only [hb]) <;> (try simp only [zF] at hb)) | with_reducible refine zW (id := 13) 4 6 zK xK zJ xJ mixed (by kernel_rfl) (by kernel_rfl) (by kernel_rfl) ?_ ?_ | with_reducible refine qO zX mixed (by kernel_rfl) ?_) <;> try simp only [qV, qF, qL, qN, qG, qC, qM, reduceIte, seval, Int.cast_ofNat_Int, qY, qZ, qU, zR, zT, zU, wO, zX, zK, zJ]))
  refine zM m7 uQ rfl (by decide) rfl rfl rfl fun hh8 m8 f8 => ?_
  have s8 : HS hh6 hh8 := (HS.refl hh6).upd n7 (fun j hj => (f8 j hj).trans (f7 j hj))
  have s28 := s6.trans s8
  refine qS ?_; repeat' (first | (with_reducible first | apply qH | apply qB) | ((first | (with_reducible apply qR) | (with_reducible first | apply qA | apply qP | apply qD | apply qE | apply qK) | ((with_reducible first | apply qQ | apply qI | apply qJ | apply qW | apply qX) <;> intro hb <;> (try simp only [hb]) <;> (try simp only [zF] at hb)) | with_reducible refine zW (id := 13) 4 6 zK xK zJ xJ mixed (by kernel_rfl) (by kernel_rfl) (by kernel_rfl) ?_ ?_ | with_reducible refine qO zX mixed (by kernel_rfl) ?_) <;> try simp only [qV, qF, qL, qN, qG, qC, qM, reduceIte, seval, Int.cast_ofNat_Int, qY, qZ, qU, zR, zT, zU, wO, zX, zK, zJ, qT m8 wK]))
  refine (qN2 N (x2.hs s28) (q1.hs s8) q.to h3).mono ?_
  rintro v9 hh9 ⟨r9, s9⟩
  have hn6 : n6 = L.length := by
    obtain ⟨_, o, _⟩ := it6
    obtain ⟨_, _, q⟩ := o.form
    cases q; rfl
  subst hn6
  unfold AtT at r9
  cases hA : dY M z.1 q.to with
  | none =>
    rw [hA] at r9
    simp only at r9
    subst r9
    have dn : ((0 : Int) != (e : Int)) = true := by simp; omega
    refine qS ?_; repeat' (first | (with_reducible first | apply qH | apply qB) | ((first | (with_reducible apply qR) | (with_reducible first | apply qA | apply qP | apply qD | apply qE | apply qK) | ((with_reducible first | apply qQ | apply qI | apply qJ | apply qW | apply qX) <;> intro hb <;> (try simp only [hb]) <;> (try simp only [zF] at hb)) | with_reducible refine zW (id := 13) 4 6 zK xK zJ xJ mixed (by kernel_rfl) (by kernel_rfl) (by kernel_rfl) ?_ ?_ | with_reducible refine qO zX mixed (by kernel_rfl) ?_) <;> try simp only [qV, qF, qL, qN, qG, qC, qM, reduceIte, seval, Int.cast_ofNat_Int, qY, qZ, qU, zR, zT, zU, wO, zX, zK, zJ]))
    refine xW fun k10 hh10 m10 s10 f10 n10 => ?_
    refine qS ?_; repeat' (first | (with_reducible first | apply qH | apply qB) | ((first | (with_reducible apply qR) | (with_reducible first | apply qA | apply qP | apply qD | apply qE | apply qK) | ((with_reducible first | apply qQ | apply qI | apply qJ | apply qW | apply qX) <;> intro hb <;> (try simp only [hb]) <;> (try simp only [zF] at hb)) | with_reducible refine zW (id := 13) 4 6 zK xK zJ xJ mixed (by kernel_rfl) (by kernel_rfl) (by kernel_rfl) ?_ ?_ | with_reducible refine qO zX mixed (by kernel_rfl) ?_) <;> try simp only [qV, qF, qL, qN, qG, qC, qM, reduceIte, seval, Int.cast_ofNat_Int, qY, qZ, qU, zR, zT, zU, wO, zX, zK, zJ]))
    refine zM m10 yY rfl (by decide) rfl rfl rfl fun hh11 m11 f11 => ?_
    have s11 : HS hh9 hh11 := (HS.refl hh9).upd n10 (fun j hj => (f11 j hj).trans (f10 j hj))
    refine qS ?_; repeat' (first | (with_reducible first | apply qH | apply qB) | ((first | (with_reducible apply qR) | (with_reducible first | apply qA | apply qP | apply qD | apply qE | apply qK) | ((with_reducible first | apply qQ | apply qI | apply qJ | apply qW | apply qX) <;> intro hb <;> (try simp only [hb]) <;> (try simp only [zF] at hb)) | with_reducible refine zW (id := 13) 4 6 zK xK zJ xJ mixed (by kernel_rfl) (by kernel_rfl) (by kernel_rfl) ?_ ?_ | with_reducible refine qO zX mixed (by kernel_rfl) ?_) <;> try simp only [qV, qF, qL, qN, qG, qC, qM, reduceIte, seval, Int.cast_ofNat_Int, qY, qZ, qU, zR, zT, zU, wO, zX, zK, zJ, dn, gPick, wi, qT m11 wL]))
    have sA := (s8.trans s9).trans s11
    exact ⟨_, (i + 1, a6, L.length, c6), by simp only; omega, (by simp only [List.forall_mem_cons, List.not_mem_nil, false_implies, implies_true, List.map, List.cons_append, List.nil_append, lk, Nat.reduceEqDiff, reduceIte, and_true, true_and]), rfl, by simp only; omega, s6.trans sA, L, di.skip hbi fun key h => (by rw [hA] at h; cases h), by simp only; omega, it6.hs sA⟩
  | some pr =>
    obtain ⟨key, ep⟩ := pr
    rw [hA] at r9
    simp only at r9
    obtain ⟨ai, ci, ak, ck', rfl, r10, r11⟩ := r9
    refine qS ?_; repeat' (first | (with_reducible first | apply qH | apply qB) | ((first | (with_reducible apply qR) | (with_reducible first | apply qA | apply qP | apply qD | apply qE | apply qK) | ((with_reducible first | apply qQ | apply qI | apply qJ | apply qW | apply qX) <;> intro hb <;> (try simp only [hb]) <;> (try simp only [zF] at hb)) | with_reducible refine zW (id := 13) 4 6 zK xK zJ xJ mixed (by kernel_rfl) (by kernel_rfl) (by kernel_rfl) ?_ ?_ | with_reducible refine qO zX mixed (by kernel_rfl) ?_) <;> try simp only [qV, qF, qL, qN, qG, qC, qM, reduceIte, seval, Int.cast_ofNat_Int, qY, qZ, qU, zR, zT, zU, wO, zX, zK, zJ]))
    refine xW fun k10 hh10 m10 s10 f10 n10 => ?_
    refine qS ?_; repeat' (first | (with_reducible first | apply qH | apply qB) | ((first | (with_reducible apply qR) | (with_reducible first | apply qA | apply qP | apply qD | apply qE | apply qK) | ((with_reducible first | apply qQ | apply qI | apply qJ | apply qW | apply qX) <;> intro hb <;> (try simp only [hb]) <;> (try simp only [zF] at hb)) | with_reducible refine zW (id := 13) 4 6 zK xK zJ xJ mixed (by kernel_rfl) (by kernel_rfl) (by kernel_rfl) ?_ ?_ | with_reducible refine qO zX mixed (by kernel_rfl) ?_) <;> try simp only [qV, qF, qL, qN, qG, qC, qM, reduceIte, seval, Int.cast_ofNat_Int, qY, qZ, qU, zR, zT, zU, wO, zX, zK, zJ]))
    refine zM m10 yY rfl (by decide) rfl rfl rfl fun hh11 m11 f11 => ?_
    have s11 : HS hh9 hh11 := (HS.refl hh9).upd n10 (fun j hj => (f11 j hj).trans (f10 j hj))
    have sA := (s8.trans s9).trans s11
    have r10' := r10.hs s11
    have r11' := r11.hs s11
    by_cases hep : ep = e
    case neg =>
      have dn : ((ep : Int) != (e : Int)) = true := by simp; omega
      refine qS ?_; repeat' (first | (with_reducible first | apply qH | apply qB) | ((first | (with_reducible apply qR) | (with_reducible first | apply qA | apply qP | apply qD | apply qE | apply qK) | ((with_reducible first | apply qQ | apply qI | apply qJ | apply qW | apply qX) <;> intro hb <;> (try simp only [hb]) <;> (try simp only [zF] at hb)) | with_reducible refine zW (id := 13) 4 6 zK xK zJ xJ mixed (by kernel_rfl) (by kernel_rfl) (by kernel_rfl) ?_ ?_ | with_reducible refine qO zX mixed (by kernel_rfl) ?_) <;> try simp only [qV, qF, qL, qN, qG, qC, qM, reduceIte, seval, Int.cast_ofNat_Int, qY, qZ, qU, zR, zT, zU, wO, zX, zK, zJ, dn, gPick, wi, qT m11 wL]))
      exact ⟨_, (i + 1, a6, L.length, c6), by simp only; omega, (by simp only [List.forall_mem_cons, List.not_mem_nil, false_implies, implies_true, List.map, List.cons_append, List.nil_append, lk, Nat.reduceEqDiff, reduceIte, and_true, true_and]), rfl, by simp only; omega, s6.trans sA, L, di.skip hbi fun key h => (by rw [hA] at h; cases h; exact absurd rfl hep), by simp only; omega, it6.hs sA⟩
    subst hep
    have dn : ((ep : Int) != (ep : Int)) = false := by simp
    by_cases hef : (ep : Int) ≤ q.fr
    · have dl : decide ((ep : Int) ≤ q.fr) = true := decide_eq_true hef
      refine qS ?_; repeat' (first | (with_reducible first | apply qH | apply qB) | ((first | (with_reducible apply qR) | (with_reducible first | apply qA | apply qP | apply qD | apply qE | apply qK) | ((with_reducible first | apply qQ | apply qI | apply qJ | apply qW | apply qX) <;> intro hb <;> (try simp only [hb]) <;> (try simp only [zF] at hb)) | with_reducible refine zW (id := 13) 4 6 zK xK zJ xJ mixed (by kernel_rfl) (by kernel_rfl) (by kernel_rfl) ?_ ?_ | with_reducible refine qO zX mixed (by kernel_rfl) ?_) <;> try simp only [qV, qF, qL, qN, qG, qC, qM, reduceIte, seval, Int.cast_ofNat_Int, qY, qZ, qU, zR, zT, zU, wO, zX, zK, zJ, dn, dl, gPick, wi, qT m11 wL]))
      exact ⟨_, (i + 1, a6, L.length, c6), by simp only; omega, (by simp only [List.forall_mem_cons, List.not_mem_nil, false_implies, implies_true, List.map, List.cons_append, List.nil_append, lk, Nat.reduceEqDiff, reduceIte, and_true, true_and]), rfl, by simp only; omega, s6.trans sA, L, di.skip hbi fun key h => (by omega), by simp only; omega, it6.hs sA⟩
    have dl : decide ((ep : Int) ≤ q.fr) = false := decide_eq_false hef
    have itA := it6.hs sA
    refine qS ?_; repeat' (first | (with_reducible first | apply qH | apply qB) | ((first | (with_reducible apply qR) | (with_reducible first | apply qA | apply qP | apply qD | apply qE | apply qK) | ((with_reducible first | apply qQ | apply qI | apply qJ | apply qW | apply qX) <;> intro hb <;> (try simp only [hb]) <;> (try simp only [zF] at hb)) | with_reducible refine zW (id := 13) 4 6 zK xK zJ xJ mixed (by kernel_rfl) (by kernel_rfl) (by kernel_rfl) ?_ ?_ | with_reducible refine qO zX mixed (by kernel_rfl) ?_) <;> try simp only [qV, qF, qL, qN, qG, qC, qM, reduceIte, seval, Int.cast_ofNat_Int, qY, qZ, qU, zR, zT, zU, wO, zX, zK, zJ, dn, dl, gPick, qT m11 wL]))
    refine wI [0, 1, 2, 6, 7, 8, 10, 11, 14, 15, 16, 19, 20, 21, 22, 23, 24, 25, 26, 27, 28, 29, 30, 31, 32, 33, 34, 35, 36, 37, 38, 39, 40, 41, 42, 43, 44, 45, 46, 47, 48, 49] (fun (at_ : Nat) => [(13, .int .i64 (at_ : Int))])
      (fun w at_ h' => at_ = w ∧ at_ ≤ L.length ∧ HS hh11 h' ∧ ∀ u ∈ L.drop at_, 0 < idO u.1.1 z.1) L.length L.length (by simp [lk])
      ⟨rfl, Nat.le_refl _, HS.refl _, fun u hu => by simp at hu⟩ ?_
    rintro _ w hh12 ⟨rfl, hw, s12, hup⟩
    have m12 := s12 _ _ m11
    have it12 := itA.hs s12
    have iz : (!(#[] : Array (Nat × Operand)).size == 0) = false := rfl
    have hun : ∀ j, j < i → (vI (jI M ep) j).1 ≠ z.1 := fun j hj => by rw [← hbi]; exact x.uniq hy hj hib
    by_cases hw0 : w = 0
    case' pos =>
      have d6 : decide ((w : Int) > 0) = false := decide_eq_false (by omega)
      have hlow : w = 0 ∨ ∃ u, L[w - 1]? = some u ∧ idO u.1.1 z.1 ≤ 0 := .inl hw0
      obtain ⟨hB, hE⟩ : ∃ x, x = hh12 := ⟨_, rfl⟩
      have sB : HS hh12 hB := by rw [hE]; exact HS.refl _
      refine qS ?_; repeat' (first | (with_reducible first | apply qH | apply qB) | ((first | (with_reducible apply qR) | (with_reducible first | apply qA | apply qP | apply qD | apply qE | apply qK) | ((with_reducible first | apply qQ | apply qI | apply qJ | apply qW | apply qX) <;> intro hb <;> (try simp only [hb]) <;> (try simp only [zF] at hb)) | with_reducible refine zW (id := 13) 4 6 zK xK zJ xJ mixed (by kernel_rfl) (by kernel_rfl) (by kernel_rfl) ?_ ?_ | with_reducible refine qO zX mixed (by kernel_rfl) ?_) <;> try simp only [qV, qF, qL, qN, qG, qC, qM, reduceIte, seval, Int.cast_ofNat_Int, qY, qZ, qU, zR, zT, zU, wO, zX, zK, zJ, d6, gPick, iz]))
      all_goals rw [← hE]
    case' neg =>
      have d6 : decide ((w : Int) > 0) = true := decide_eq_true (by omega)
      have ww : IntKind.i64.wrap ((w : Int) - 1) = ((w - 1 : Nat) : Int) := by rw [wrap64 (by omega) (by omega)]; omega
      obtain ⟨u, hu⟩ := vC (show w - 1 < L.length by omega)
      obtain ⟨ad2, cs3, g3, g4, au, cu, bu, du, rfl, qu1, qu2⟩ := it12.rl.at (P := Try.prog) Try.underlying68 yY hu
      have lu : xM Try.prog 24 hh12 (.pointer (some ⟨ad2.block, ad2.off, none⟩)) = some (.slice au u.1.1.length cu) := by
        have := rF g4 (i := 0) (v := .slice au u.1.1.length cu) rfl
        rw [Nat.add_zero] at this
        simp only [xM, wK, this]; rfl
      refine qS ?_; repeat' (first | (with_reducible first | apply qH | apply qB) | ((first | (with_reducible apply qR) | (with_reducible first | apply qA | apply qP | apply qD | apply qE | apply qK) | ((with_reducible first | apply qQ | apply qI | apply qJ | apply qW | apply qX) <;> intro hb <;> (try simp only [hb]) <;> (try simp only [zF] at hb)) | with_reducible refine zW (id := 13) 4 6 zK xK zJ xJ mixed (by kernel_rfl) (by kernel_rfl) (by kernel_rfl) ?_ ?_ | with_reducible refine qO zX mixed (by kernel_rfl) ?_) <;> try simp only [qV, qF, qL, qN, qG, qC, qM, reduceIte, seval, Int.cast_ofNat_Int, qY, qZ, qU, zR, zT, zU, wO, zX, zK, zJ, d6, ww, g3, Nat.add_zero, lu, qT m12 wK, gPick]))
      refine (qG2 N hh12 qu1 (r10'.hs s12) rfl rfl).mono ?_
      rintro _ hB ⟨rfl, sB⟩
      have wstep : 0 < idO u.1.1 z.1 → ∀ u' ∈ L.drop (w - 1), 0 < idO u'.1.1 z.1 := fun hp u' hu' => by
        have : L.drop (w - 1) = u :: L.drop w := by
          have h1 := List.getElem?_eq_some_iff.1 hu
          rw [List.drop_eq_getElem_cons h1.1, h1.2]
          congr 2
          omega
        rw [this] at hu'
        rcases List.mem_cons.1 hu' with rfl | hu'
        · exact hp
        · exact hup u' hu'
      by_cases hgt : Lib.compareBytes (jF u.1.1) (jF z.1) > 0
      · have d7 : decide (Lib.compareBytes (jF u.1.1) (jF z.1) > 0) = true := decide_eq_true hgt
        refine qS ?_; repeat' (first | (with_reducible first | apply qH | apply qB) | ((first | (with_reducible apply qR) | (with_reducible first | apply qA | apply qP | apply qD | apply qE | apply qK) | ((with_reducible first | apply qQ | apply qI | apply qJ | apply qW | apply qX) <;> intro hb <;> (try simp only [hb]) <;> (try simp only [zF] at hb)) | with_reducible refine zW (id := 13) 4 6 zK xK zJ xJ mixed (by kernel_rfl) (by kernel_rfl) (by kernel_rfl) ?_ ?_ | with_reducible refine qO zX mixed (by kernel_rfl) ?_) <;> try simp only [qV, qF, qL, qN, qG, qC, qM, reduceIte, seval, Int.cast_ofNat_Int, qY, qZ, qU, zR, zT, zU, wO, zX, zK, zJ, d6, d7, ww, gPick]))
        exact ⟨_, w - 1, by omega, (by simp only [List.forall_mem_cons, List.not_mem_nil, false_implies, implies_true, List.map, List.cons_append, List.nil_append, lk, Nat.reduceEqDiff, reduceIte, and_true, true_and]), rfl, by omega, s12.trans sB, wstep hgt⟩
      have d7 : decide (Lib.compareBytes (jF u.1.1) (jF z.1) > 0) = false := decide_eq_false hgt
      have hlow : w = 0 ∨ ∃ u, L[w - 1]? = some u ∧ idO u.1.1 z.1 ≤ 0 := .inr ⟨u, hu, by unfold idO; omega⟩
      refine qS ?_; repeat' (first | (with_reducible first | apply qH | apply qB) | ((first | (with_reducible apply qR) | (with_reducible first | apply qA | apply qP | apply qD | apply qE | apply qK) | ((with_reducible first | apply qQ | apply qI | apply qJ | apply qW | apply qX) <;> intro hb <;> (try simp only [hb]) <;> (try simp only [zF] at hb)) | with_reducible refine zW (id := 13) 4 6 zK xK zJ xJ mixed (by kernel_rfl) (by kernel_rfl) (by kernel_rfl) ?_ ?_ | with_reducible refine qO zX mixed (by kernel_rfl) ?_) <;> try simp only [qV, qF, qL, qN, qG, qC, qM, reduceIte, seval, Int.cast_ofNat_Int, qY, qZ, qU, zR, zT, zU, wO, zX, zK, zJ, d6, d7, ww, gPick, iz]))
    all_goals
      have mB := sB _ _ m12
      have itB := it12.hs sB
      obtain ⟨ds, o, u, c, r⟩ := itB
      have hds := o.len
      obtain ⟨v1, e1⟩ := o.hi1 (P := Try.prog) Try.underlying68 yY hw
      obtain ⟨v2, e2⟩ := o.lo1 (P := Try.prog) Try.underlying68 yY hw
      have uT : (ds.take (w * 3)).all wX = true := by rw [List.all_eq_true] at u ⊢; exact fun x hx => u x (List.mem_of_mem_take hx)
      have cT : (ds.take (w * 3)).all zA = true := by rw [List.all_eq_true] at c ⊢; exact fun x hx => c x (List.mem_of_mem_take hx)
      have uD : (ds.drop (w * 3)).all wX = true := by rw [List.all_eq_true] at u ⊢; exact fun x hx => u x (List.mem_of_mem_drop hx)
      have cD : (ds.drop (w * 3)).all zA = true := by rw [List.all_eq_true] at c ⊢; exact fun x hx => c x (List.mem_of_mem_drop hx)
      have lT : (ds.take (w * 3)).length = w * 3 := by rw [List.length_take]; omega
      have lD : (ds.drop (w * 3)).length = (L.length - w) * 3 := by rw [List.length_drop]; omega
      refine tH tK rfl ?_
      refine qS ?_; repeat' (first | (with_reducible first | apply qH | apply qB) | ((first | (with_reducible apply qR) | (with_reducible first | apply qA | apply qP | apply qD | apply qE | apply qK) | ((with_reducible first | apply qQ | apply qI | apply qJ | apply qW | apply qX) <;> intro hb <;> (try simp only [hb]) <;> (try simp only [zF] at hb)) | with_reducible refine zW (id := 13) 4 6 zK xK zJ xJ mixed (by kernel_rfl) (by kernel_rfl) (by kernel_rfl) ?_ ?_ | with_reducible refine qO zX mixed (by kernel_rfl) ?_) <;> try simp only [qV, qF, qL, qN, qG, qC, qM, reduceIte, seval, Int.cast_ofNat_Int, qY, qZ, qU, zR, zT, zU, wO, zX, zK, zJ, iz, (e1 _ (HS.refl _)).1, (e2 _ (HS.refl _)).1, zI mB yY rfl]))
    all_goals first
      | (refine wJ tK Try.underlying68 rfl (HS.refl _) (OWNC.zero _ _ _ _) (e1 _ (HS.refl _)).2 lT cT (by omega) (by simp only [maxLen]; omega) fun v12 h13 s13 fr13 o13 => ?_
         rw [List.nil_append, Nat.zero_add] at o13
         refine qS ?_; repeat' (first | (with_reducible first | apply qH | apply qB) | ((first | (with_reducible apply qR) | (with_reducible first | apply qA | apply qP | apply qD | apply qE | apply qK) | ((with_reducible first | apply qQ | apply qI | apply qJ | apply qW | apply qX) <;> intro hb <;> (try simp only [hb]) <;> (try simp only [zF] at hb)) | with_reducible refine zW (id := 13) 4 6 zK xK zJ xJ mixed (by kernel_rfl) (by kernel_rfl) (by kernel_rfl) ?_ ?_ | with_reducible refine qO zX mixed (by kernel_rfl) ?_) <;> try simp only [qV, qF, qL, qN, qG, qC, qM, reduceIte, seval, Int.cast_ofNat_Int, qY, qZ, qU, zR, zT, zU, wO, zX, zK, zJ, iz, Bool.false_and, Bool.not_false, (e2 _ s13).1, zI (s13 _ _ mB) yY rfl]))
         refine gV tK rfl rfl (by decide) (by decide) rfl fun k14 hC b14 s14 f14 n14 => ?_
         have sC := s13.trans s14
         have oC := o13.hs s14)
      | (refine qS ?_; repeat' (first | (with_reducible first | apply qH | apply qB) | ((first | (with_reducible apply qR) | (with_reducible first | apply qA | apply qP | apply qD | apply qE | apply qK) | ((with_reducible first | apply qQ | apply qI | apply qJ | apply qW | apply qX) <;> intro hb <;> (try simp only [hb]) <;> (try simp only [zF] at hb)) | with_reducible refine zW (id := 13) 4 6 zK xK zJ xJ mixed (by kernel_rfl) (by kernel_rfl) (by kernel_rfl) ?_ ?_ | with_reducible refine qO zX mixed (by kernel_rfl) ?_) <;> try simp only [qV, qF, qL, qN, qG, qC, qM, reduceIte, seval, Int.cast_ofNat_Int, qY, qZ, qU, zR, zT, zU, wO, zX, zK, zJ, iz, Bool.false_and, Bool.not_false, (e1 _ (HS.refl _)).1, (e2 _ (HS.refl _)).1, zI mB yY rfl]))
         refine gV tK rfl rfl (by decide) (by decide) rfl fun k14 h13 b13 s13 f13 n13 => ?_
         refine qS ?_; repeat' (first | (with_reducible first | apply qH | apply qB) | ((first | (with_reducible apply qR) | (with_reducible first | apply qA | apply qP | apply qD | apply qE | apply qK) | ((with_reducible first | apply qQ | apply qI | apply qJ | apply qW | apply qX) <;> intro hb <;> (try simp only [hb]) <;> (try simp only [zF] at hb)) | with_reducible refine zW (id := 13) 4 6 zK xK zJ xJ mixed (by kernel_rfl) (by kernel_rfl) (by kernel_rfl) ?_ ?_ | with_reducible refine qO zX mixed (by kernel_rfl) ?_) <;> try simp only [qV, qF, qL, qN, qG, qC, qM, reduceIte, seval, Int.cast_ofNat_Int, qY, qZ, qU, zR, zT, zU, wO, zX, zK, zJ, (e1 _ s13).1, (e2 _ s13).1]))
         refine wJ tK Try.underlying68 rfl s13 (OWNC.zero _ _ _ _) (e1 _ s13).2 lT cT (by omega) (by simp only [maxLen]; omega) fun v12 hC sC fr14 oC => ?_
         rw [List.nil_append, Nat.zero_add] at oC
         have b14 := fr14 _ _ b13 (fun _ _ _ _ hn => absurd rfl hn))
    all_goals
      have bC := src1 b14 rfl
      refine qS ?_; repeat' (first | (with_reducible first | apply qH | apply qB) | ((first | (with_reducible apply qR) | (with_reducible first | apply qA | apply qP | apply qD | apply qE | apply qK) | ((with_reducible first | apply qQ | apply qI | apply qJ | apply qW | apply qX) <;> intro hb <;> (try simp only [hb]) <;> (try simp only [zF] at hb)) | with_reducible refine zW (id := 13) 4 6 zK xK zJ xJ mixed (by kernel_rfl) (by kernel_rfl) (by kernel_rfl) ?_ ?_ | with_reducible refine qO zX mixed (by kernel_rfl) ?_) <;> try simp only [qV, qF, qL, qN, qG, qC, qM, reduceIte, seval, Int.cast_ofNat_Int, qY, qZ, qU, zR, zT, zU, wO, zX, zK, zJ, (e2 _ sC).1]))
      refine wJ tK Try.underlying68 rfl sC oC bC rfl rfl (by omega) (by simp only [maxLen]; omega) fun v15 h15 s15 fr15 o15 => ?_
      refine qS ?_; repeat' (first | (with_reducible first | apply qH | apply qB) | ((first | (with_reducible apply qR) | (with_reducible first | apply qA | apply qP | apply qD | apply qE | apply qK) | ((with_reducible first | apply qQ | apply qI | apply qJ | apply qW | apply qX) <;> intro hb <;> (try simp only [hb]) <;> (try simp only [zF] at hb)) | with_reducible refine zW (id := 13) 4 6 zK xK zJ xJ mixed (by kernel_rfl) (by kernel_rfl) (by kernel_rfl) ?_ ?_ | with_reducible refine qO zX mixed (by kernel_rfl) ?_) <;> try simp only [qV, qF, qL, qN, qG, qC, qM, reduceIte, seval, Int.cast_ofNat_Int, qY, qZ, qU, zR, zT, zU, wO, zX, zK, zJ, (e2 _ s15).1]))
      refine wJ tK Try.underlying68 rfl s15 o15 (e2 _ s15).2 lD cD (by omega) (by simp only [maxLen]; omega) fun v16 h16 s16 fr16 o16 => ?_
      obtain ⟨a16, c16, rfl⟩ := o16.form
      refine qS ?_; repeat' (first | (with_reducible first | apply qH | apply qB) | ((first | (with_reducible apply qR) | (with_reducible first | apply qA | apply qP | apply qD | apply qE | apply qK) | ((with_reducible first | apply qQ | apply qI | apply qJ | apply qW | apply qX) <;> intro hb <;> (try simp only [hb]) <;> (try simp only [zF] at hb)) | with_reducible refine zW (id := 13) 4 6 zK xK zJ xJ mixed (by kernel_rfl) (by kernel_rfl) (by kernel_rfl) ?_ ?_ | with_reducible refine qO zX mixed (by kernel_rfl) ?_) <;> try simp only [qV, qF, qL, qN, qG, qC, qM, reduceIte, seval, Int.cast_ofNat_Int, qY, qZ, qU, zR, zT, zU, wO, zX, zK, zJ, wi]))
      have u15 : (ds.take (w * 3) ++ vcells (.agg #[.slice ai z.1.length ci, .slice ak key.length ck', .int .i64 (ep : Int)])).all wX = true := by rw [List.all_append, uT]; rfl
      have c15 : (ds.take (w * 3) ++ vcells (.agg #[.slice ai z.1.length ci, .slice ak key.length ck', .int .i64 (ep : Int)])).all zA = true := by rw [List.all_append, cT]; rfl
      have hl2 : (L.take w ++ ((z.1, key), ep) :: L.drop w).length = w + 1 + (L.length - w) := by rw [List.length_append, List.length_take, List.length_cons, List.length_drop]; omega
      have hlM : (L.take w).length = w := by rw [List.length_take]; omega
      have s2B := ((s6.trans sA).trans s12).trans sB
      have sAll := s2B.trans s16
      refine ⟨_, (i + 1, a16, w + 1 + (L.length - w), c16), by simp only; omega, (by simp only [List.forall_mem_cons, List.not_mem_nil, false_implies, implies_true, List.map, List.cons_append, List.nil_append, lk, Nat.reduceEqDiff, reduceIte, and_true, true_and]), rfl, by simp only; omega, sAll, L.take w ++ ((z.1, key), ep) :: L.drop w, di.ins hsm hbi hA (by omega) hun (x.shortD di) hzl hw hlow hup, by rw [hl2]; simp only; omega, _, by rw [hl2]; exact o16.weak (s2.trans s2B), by rw [List.all_append, u15, uD]; rfl, by rw [List.all_append, c15, cD]; rfl, ?_⟩
      have hnew : It hC [.slice ai z.1.length ci, .slice ak key.length ck', .int .i64 (ep : Int)] ((z.1, key), ep) := ⟨_, _, _, _, rfl, (r10'.hs s12).hs (sB.trans sC), (r11'.hs s12).hs (sB.trans sC)⟩
      have k15 : ∀ {q : List Value} {ee : Itm}, It hC q ee → It h15 q ee := fun {q ee} w => by
        obtain ⟨a, c, b, d, e, r1, r2⟩ := w
        exact ⟨a, c, b, d, e, jW fr15 uT r1, jW fr15 uT r2⟩
      have k16 : ∀ {q : List Value} {ee : Itm}, It h15 q ee → It h16 q ee := fun {q ee} w => by
        obtain ⟨a, c, b, d, e, r1, r2⟩ := w
        exact ⟨a, c, b, d, e, jW fr16 u15 r1, jW fr16 u15 r2⟩
      have happ : L.take w ++ ((z.1, key), ep) :: L.drop w = (L.take w ++ [((z.1, key), ep)]) ++ L.drop w := by simp
      rw [happ]
      exact apps_el (R := It h16) (by rw [List.length_append, lT, List.length_append, hlM]; simp only [vcells, List.length_cons, List.length_nil]; omega) (dX (R := It h16) (by rw [lT, hlM]) rfl (fun i x hx => k16 (k15 ((take_elE (R := It _) r i x hx).hs sC))) (k16 (k15 hnew))) (fun i x hx => (drop_elE (R := It _) r i x hx).hs s16)
end
theorem yS : type_of% (And.intro wT (And.intro wN (And.intro yX (And.intro yB (And.intro yW (And.intro yV (And.intro jZ (And.intro gH (And.intro yL (And.intro wZ (And.intro uP (And.intro jV (And.intro dZ rs86))))))))))))) := And.intro wT (And.intro wN (And.intro yX (And.intro yB (And.intro yW (And.intro yV (And.intro jZ (And.intro gH (And.intro yL (And.intro wZ (And.intro uP (And.intro jV (And.intro dZ rs86))))))))))))
def tJ (q : Ak) (z : Itm) : Bool := !q.sm || decide (Lib.compareBytes (jF z.1.1) (jF q.id) > 0)
theorem Diff.filt {M : List (Int × List Bnd)} {q : Ak} {L : List Itm} (x : Diff M { q with sm := false } L) : Diff M q (L.filter (tJ q)) := by
  refine ⟨x.ord.sublist List.filter_sublist, fun z => ?_⟩
  rw [List.mem_filter, x.mem]
  unfold jY tJ idO
  cases dY M z.1.1 q.to with
  | none => simp
  | some r =>
    obtain ⟨key, ep⟩ := r
    simp only [Bool.false_eq_true, false_implies, and_true]
    by_cases h1 : (ep : Int) > q.fr
    · rw [if_pos h1]
      cases hs : q.sm
      · simp [h1]
      · simp only [Bool.not_true, Bool.false_or, decide_eq_true_eq, forall_const]
        by_cases h2 : Lib.compareBytes (jF z.1.1) (jF q.id) > 0
        · rw [if_pos ⟨h1, h2⟩]; simp [h2]
        · rw [if_neg (fun h => h2 h.2)]; simp [h2]
    · rw [if_neg h1, if_neg (fun h => h1 h.1)]; simp
section
variable {h0 h : GH} {k : Nat} {p : Pm} {tv bv : Value} {ts cs : List Value} {M : List (Int × List Bnd)} {ck : Int}
theorem c_rDiff (N : Nat) (x : RM h0 h k p tv bv ts cs M ck) {a : Option Addr} {c : Nat} (q : Ak) (r : RB h (.slice a q.id.length c) q.id) (h1 : 0 ≤ q.fr) (h2 : q.fr ≤ q.to) (h3 : q.to < (M.length : Int)) (h4 : 1 ≤ q.lm ∧ q.lm ≤ 32)
    {c0 c4 c6 c7 c9 : Value} (hc : [c0, c4, c6, c7, c9].all zA = true) :
    GTri Try.prog N 86 [.pointer (some ⟨k, 0, none⟩), .agg #[c0, .slice a q.id.length c, .int .i64 q.fr, .int .i64 q.to, c4, .bool q.sm, c6, c7, .int .i64 q.lm, c9]] h fun v h' =>
      (∃ L, Diff M q L ∧ RAn h' v (fJ q L)) ∧ HS h h' := by
  obtain ⟨lm, hlm⟩ : ∃ lm : Nat, q.lm = (lm : Int) := ⟨q.lm.toNat, by omega⟩
  have hlmt : q.lm.toNat = lm := by omega
  refine wQ Try.func86 rfl gf86 ok86 (by simp [Try.ntmps86]) ?_
  repeat' (first | (with_reducible first | apply qH | apply qB) | ((first | (with_reducible first | apply qA | apply qP | apply qD | apply qE | apply qK) | ((with_reducible first | apply qQ | apply qI | apply qJ) <;> intro hb <;> (try simp only [hb]) <;> (try simp only [zF] at hb))) <;> try simp only [qV, qF, qL, qN, qG, qC, qM, reduceIte, seval, Int.cast_ofNat_Int, qY, qZ, yS]))
  refine wY (by simpa [zA] using hc) fun k1 hh1 m1 s1 f1 n1 => ?_
  refine qS ?_; repeat' (first | (with_reducible first | apply qH | apply qB) | ((first | (with_reducible apply qR) | (with_reducible first | apply qA | apply qP | apply qD | apply qE | apply qK) | ((with_reducible first | apply qQ | apply qI | apply qJ) <;> intro hb <;> (try simp only [hb]) <;> (try simp only [zF] at hb))) <;> try simp only [qV, qF, qL, qN, qG, qC, qM, reduceIte, seval, Int.cast_ofNat_Int, qY, qZ, yS]))
  refine xW fun k2 hh2 m2 s2 f2 n2 => ?_
  replace m1 := s2 _ _ m1
  have s12 := s1.trans s2
  have n2' := s1.none_of n2
  refine qS ?_; repeat' (first | (with_reducible first | apply qH | apply qB) | ((first | (with_reducible apply qR) | (with_reducible first | apply qA | apply qP | apply qD | apply qE | apply qK) | ((with_reducible first | apply qQ | apply qI | apply qJ) <;> intro hb <;> (try simp only [hb]) <;> (try simp only [zF] at hb))) <;> try simp only [qV, qF, qL, qN, qG, qC, qM, reduceIte, seval, Int.cast_ofNat_Int, qY, qZ, yS, qT m1 wL]))
  refine (qN1 N (x.hs s12) { q with sm := false } rfl h1 (by simp only; omega) h3).mono ?_
  rintro _ hh3 ⟨⟨L, a3, c3, rfl, hL, hD, rl3⟩, s3⟩
  have m13 := s3 _ _ m1
  have m23 := s3 _ _ m2
  have s03 := s12.trans s3
  refine qS ?_; repeat' (first | (with_reducible first | apply qH | apply qB) | ((first | (with_reducible apply qR) | (with_reducible first | apply qA | apply qP | apply qD | apply qE | apply qK) | ((with_reducible first | apply qQ | apply qI | apply qJ) <;> intro hb <;> (try simp only [hb]) <;> (try simp only [zF] at hb))) <;> try simp only [qV, qF, qL, qN, qG, qC, qM, reduceIte, seval, Int.cast_ofNat_Int, qY, qZ, yS]))
  refine wI [3, 4, 14, 15] (fun (y : Nat × (Option Addr × Nat × Nat)) => [(5, .slice y.2.1 y.2.2.1 y.2.2.2), (16, .int .i64 (y.1 : Int))])
    (fun w y h' => L.length - y.1 = w ∧ y.1 ≤ L.length ∧ HS hh3 h' ∧ y.2.2.1 = ((L.take y.1).filter (tJ q)).length ∧ Its hh3 h' (.slice y.2.1 y.2.2.1 y.2.2.2) ((L.take y.1).filter (tJ q))) L.length (0, (none, 0, 0)) (by simp [lk])
    ⟨rfl, by simp, HS.refl _, by simp, [], OWNC.nil _ _ _, rfl, fun i p hp => by simp at hp⟩ ?_
  rintro _ ⟨i, a4, n4, c4'⟩ hh4 ⟨rfl, hi, s4, hn4, it4⟩
  simp only at hi hn4 it4
  subst hn4
  have m14 := s4 _ _ m13
  have m24 := s4 _ _ m23
  have hfl : ((L.take i).filter (tJ q)).length ≤ L.length := Nat.le_trans (List.length_filter_le _ _) (by rw [List.length_take]; omega)
  by_cases hil : i < L.length
  case neg =>
    obtain rfl : i = L.length := by omega
    rw [List.take_length] at it4 hfl ⊢
    have hDf := hD.filt
    generalize L.filter (tJ q) = F at it4 hfl hDf ⊢
    have d3 : decide ((L.length : Int) < (L.length : Int)) = false := decide_eq_false (by omega)
    have mn : (if (lm : Int) < (F.length : Int) then (lm : Int) else (F.length : Int)) = ((min F.length lm : Nat) : Int) := by split <;> omega
    obtain ⟨a9, c9', e9, r9⟩ := it4.rl.cut (P := Try.prog) Try.underlying68 yY (m := min F.length lm) (Nat.min_le_left _ _)
    have htk : F.take (min F.length lm) = F.take lm := by
      rcases Nat.le_total F.length lm with h | h
      · rw [Nat.min_eq_left h, List.take_length, List.take_of_length_le h]
      · rw [Nat.min_eq_right h]
    rw [hlm] at m14
    have dm : decide (((min F.length lm : Nat) : Int) < (F.length : Int)) = decide (lm < F.length) := by
      by_cases h : lm < F.length
      · rw [decide_eq_true h, decide_eq_true (by omega)]
      · rw [decide_eq_false h, decide_eq_false (by omega)]
    refine qS ?_; repeat' (first | (with_reducible first | apply qH | apply qB) | ((first | (with_reducible apply qR) | (with_reducible first | apply qA | apply qP | apply qD | apply qE | apply qK) | ((with_reducible first | apply qQ | apply qI | apply qJ) <;> intro hb <;> (try simp only [hb]) <;> (try simp only [zF] at hb))) <;> try simp only [qV, qF, qL, qN, qG, qC, qM, reduceIte, seval, Int.cast_ofNat_Int, qY, qZ, yS, d3, mn, e9, dm, qT m14 wL, xL, xT, vB, Shape.pl, List.all_cons, List.all_nil, zA]))
    refine zM m24 xG rfl (by decide) rfl rfl rfl fun hh5 m5 f5 => ?_
    refine qS ?_; repeat' (first | (with_reducible first | apply qH | apply qB) | ((first | (with_reducible apply qR) | (with_reducible first | apply qA | apply qP | apply qD | apply qE | apply qK) | ((with_reducible first | apply qQ | apply qI | apply qJ) <;> intro hb <;> (try simp only [hb]) <;> (try simp only [zF] at hb))) <;> try simp only [qV, qF, qL, qN, qG, qC, qM, reduceIte, seval, Int.cast_ofNat_Int, qY, qZ, yS, zI m5 xG rfl]))
    have hx : HX k2 hh4 hh5 := fun j B n e => (f5 j n).trans e
    refine ⟨⟨F, hDf, ?_⟩, (s03.trans s4).upd n2' f5⟩
    unfold fJ
    rw [hlmt]
    have hln : (F.take lm).length = min F.length lm := by rw [List.length_take, Nat.min_comm]
    rw [htk] at r9
    rw [← hln] at r9 ⊢
    refine ⟨none, 0, a9, c9', none, 0, rfl, RB.nil hh5, r9.hxR m24 ⟨rfl, rfl⟩ hx fun cs y r => ?_, RL.nil hh5⟩
    obtain ⟨a, c, b, d, e, r1, r2⟩ := r
    exact ⟨a, c, b, d, e, r1.hx m24 rfl hx, r2.hx m24 rfl hx⟩
  have d3 : decide ((i : Int) < (L.length : Int)) = true := decide_eq_true (by omega)
  have wi : IntKind.i64.wrap ((i : Int) + 1) = ((i + 1 : Nat) : Int) := by rw [wrap64 (by omega) (by omega)]; omega
  obtain ⟨y, hy⟩ := vC hil
  have htk : L.take (i + 1) = L.take i ++ [y] := by rw [List.take_add_one, hy]; rfl
  obtain ⟨ad, cy, g1, g2, p1, p2, p3, p4, rfl, p5, p6⟩ := (rl3.hcR s4.hc fun _ _ q => (q.hs s4 : It hh4 _ _)).at (P := Try.prog) Try.underlying68 yY hy
  have l1 : xM Try.prog 97 hh4 (.pointer (some ad)) = some (.agg #[.slice p1 y.1.1.length p2, .slice p3 y.1.2.length p4, .int .i64 (y.2 : Int)]) := by simp only [xM, yY, g2]; rfl
  refine qS ?_; repeat' (first | (with_reducible first | apply qH | apply qB) | ((first | (with_reducible apply qR) | (with_reducible first | apply qA | apply qP | apply qD | apply qE | apply qK) | ((with_reducible first | apply qQ | apply qI | apply qJ) <;> intro hb <;> (try simp only [hb]) <;> (try simp only [zF] at hb))) <;> try simp only [qV, qF, qL, qN, qG, qC, qM, reduceIte, seval, Int.cast_ofNat_Int, qY, qZ, yS, d3, g1, l1]))
  refine xW fun k5 hh5 m5 s5 f5 n5 => ?_
  refine qS ?_; repeat' (first | (with_reducible first | apply qH | apply qB) | ((first | (with_reducible apply qR) | (with_reducible first | apply qA | apply qP | apply qD | apply qE | apply qK) | ((with_reducible first | apply qQ | apply qI | apply qJ) <;> intro hb <;> (try simp only [hb]) <;> (try simp only [zF] at hb))) <;> try simp only [qV, qF, qL, qN, qG, qC, qM, reduceIte, seval, Int.cast_ofNat_Int, qY, qZ, yS]))
  refine zM m5 yY rfl (by decide) rfl rfl rfl fun hh6 m6 f6 => ?_
  have s6 : HS hh4 hh6 := (HS.refl hh4).upd n5 (fun j hj => (f6 j hj).trans (f5 j hj))
  have m16 := s6 _ _ m14
  have hnew : It hh6 [.slice p1 y.1.1.length p2, .slice p3 y.1.2.length p4, .int .i64 (y.2 : Int)] y := ⟨_, _, _, _, rfl, p5.hs s6, p6.hs s6⟩
  have hft : (L.take (i + 1)).filter (tJ q) = (L.take i).filter (tJ q) ++ (if tJ q y = true then [y] else []) := by
    rw [htk, List.filter_append]
    by_cases h : tJ q y = true
    · rw [if_pos h]; simp [h]
    · rw [if_neg h]; simp [h]
  have way : (q.sm = true ∧ Lib.compareBytes (jF y.1.1) (jF q.id) > 0 ∧ tJ q y = true) ∨ (q.sm = false ∧ tJ q y = true) ∨ (q.sm = true ∧ ¬ Lib.compareBytes (jF y.1.1) (jF q.id) > 0 ∧ tJ q y = false) := by
    unfold tJ
    cases hs : q.sm
    · exact .inr (.inl ⟨rfl, rfl⟩)
    · by_cases h : Lib.compareBytes (jF y.1.1) (jF q.id) > 0
      · exact .inl ⟨rfl, h, by rw [decide_eq_true h]; rfl⟩
      · exact .inr (.inr ⟨rfl, h, by rw [decide_eq_false h]; rfl⟩)
  rcases way with ⟨w1, w2, w3⟩ | ⟨w1, w3⟩ | ⟨w1, w2, w3⟩
  case' inr.inr =>
    rw [w1] at m16
    have d5 := decide_eq_false w2
    refine qS ?_; repeat' (first | (with_reducible first | apply qH | apply qB) | ((first | (with_reducible apply qR) | (with_reducible first | apply qA | apply qP | apply qD | apply qE | apply qK) | ((with_reducible first | apply qQ | apply qI | apply qJ) <;> intro hb <;> (try simp only [hb]) <;> (try simp only [zF] at hb))) <;> try simp only [qV, qF, qL, qN, qG, qC, qM, reduceIte, seval, Int.cast_ofNat_Int, qY, qZ, yS, Bool.not_true, gPick, qT m16 qH2, qT m16 wK, qT m6 wK]))
    refine (qG2 N hh6 (p5.hs s6) ((r.hs s03).hs (s4.trans s6)) rfl rfl).mono ?_
    rintro _ hh7 ⟨rfl, s7⟩
    refine qS ?_; repeat' (first | (with_reducible first | apply qH | apply qB) | ((first | (with_reducible apply qR) | (with_reducible first | apply qA | apply qP | apply qD | apply qE | apply qK) | ((with_reducible first | apply qQ | apply qI | apply qJ) <;> intro hb <;> (try simp only [hb]) <;> (try simp only [zF] at hb))) <;> try simp only [qV, qF, qL, qN, qG, qC, qM, reduceIte, seval, Int.cast_ofNat_Int, qY, qZ, yS, d5, gPick, wi]))
    rw [if_neg (by rw [w3]; simp), List.append_nil] at hft
    exact ⟨_, (i + 1, a4, ((L.take i).filter (tJ q)).length, c4'), by simp only; omega, (by simp only [List.forall_mem_cons, List.not_mem_nil, false_implies, implies_true, List.map, List.cons_append, List.nil_append, lk, Nat.reduceEqDiff, reduceIte, and_true, true_and]), rfl, by simp only; omega, (s4.trans s6).trans s7, by simp only; rw [hft], by simp only; rw [hft]; exact (it4.hs s6).hs s7⟩
  case' inl =>
    rw [w1] at m16
    have d5 := decide_eq_true w2
    refine qS ?_; repeat' (first | (with_reducible first | apply qH | apply qB) | ((first | (with_reducible apply qR) | (with_reducible first | apply qA | apply qP | apply qD | apply qE | apply qK) | ((with_reducible first | apply qQ | apply qI | apply qJ) <;> intro hb <;> (try simp only [hb]) <;> (try simp only [zF] at hb))) <;> try simp only [qV, qF, qL, qN, qG, qC, qM, reduceIte, seval, Int.cast_ofNat_Int, qY, qZ, yS, Bool.not_true, gPick, qT m16 qH2, qT m16 wK, qT m6 wK]))
    refine (qG2 N hh6 (p5.hs s6) ((r.hs s03).hs (s4.trans s6)) rfl rfl).mono ?_
    rintro _ hB ⟨rfl, sB⟩
    have m6B := sB _ _ m6
    refine qS ?_; repeat' (first | (with_reducible first | apply qH | apply qB) | ((first | (with_reducible apply qR) | (with_reducible first | apply qA | apply qP | apply qD | apply qE | apply qK) | ((with_reducible first | apply qQ | apply qI | apply qJ) <;> intro hb <;> (try simp only [hb]) <;> (try simp only [zF] at hb))) <;> try simp only [qV, qF, qL, qN, qG, qC, qM, reduceIte, seval, Int.cast_ofNat_Int, qY, qZ, yS, d5, gPick, zI m6B yY rfl]))
  case' inr.inl =>
    rw [w1] at m16
    obtain ⟨hB, hE⟩ : ∃ x, x = hh6 := ⟨_, rfl⟩
    have sB : HS hh6 hB := by rw [hE]; exact HS.refl _
    refine qS ?_; repeat' (first | (with_reducible first | apply qH | apply qB) | ((first | (with_reducible apply qR) | (with_reducible first | apply qA | apply qP | apply qD | apply qE | apply qK) | ((with_reducible first | apply qQ | apply qI | apply qJ) <;> intro hb <;> (try simp only [hb]) <;> (try simp only [zF] at hb))) <;> try simp only [qV, qF, qL, qN, qG, qC, qM, reduceIte, seval, Int.cast_ofNat_Int, qY, qZ, yS, Bool.not_false, gPick, qT m16 qH2, zI m6 yY rfl]))
    rw [← hE]
  all_goals
    refine fH tK rfl rfl (by decide) (by decide) rfl fun k12 h12 b12 s12' f12 n12 => ?_
    have s412 := (s6.trans sB).trans s12'
    obtain ⟨ds, o, u, e7⟩ := it4.hs s412
    refine qS ?_; repeat' (first | (with_reducible first | apply qH | apply qB) | ((first | (with_reducible apply qR) | (with_reducible first | apply qA | apply qP | apply qD | apply qE | apply qK) | ((with_reducible first | apply qQ | apply qI | apply qJ) <;> intro hb <;> (try simp only [hb]) <;> (try simp only [zF] at hb))) <;> try simp only [qV, qF, qL, qN, qG, qC, qM, reduceIte, seval, Int.cast_ofNat_Int, qY, qZ, yS]))
    refine wJ tK Try.underlying68 rfl (s4.trans s412) o b12 rfl rfl (by omega) (by simp only [maxLen]; omega) fun v13 h13 s13 fr13 o13 => ?_
    obtain ⟨a13, c13, rfl⟩ := o13.form
    refine qS ?_; repeat' (first | (with_reducible first | apply qH | apply qB) | ((first | (with_reducible apply qR) | (with_reducible first | apply qA | apply qP | apply qD | apply qE | apply qK) | ((with_reducible first | apply qQ | apply qI | apply qJ) <;> intro hb <;> (try simp only [hb]) <;> (try simp only [zF] at hb))) <;> try simp only [qV, qF, qL, qN, qG, qC, qM, reduceIte, seval, Int.cast_ofNat_Int, qY, qZ, yS, wi]))
    rw [if_pos w3] at hft
    have hl1 : ((L.take (i + 1)).filter (tJ q)).length = ((L.take i).filter (tJ q)).length + 1 := by rw [hft, List.length_append]; rfl
    have keep : ∀ {z : List Value} {ee : Itm}, It h12 z ee → It h13 z ee := fun {z ee} w => by
      obtain ⟨a, c, b, d, e, r1, r2⟩ := w
      exact ⟨a, c, b, d, e, jW fr13 u r1, jW fr13 u r2⟩
    refine ⟨_, (i + 1, a13, ((L.take i).filter (tJ q)).length + 1, c13), by simp only; omega, (by simp only [List.forall_mem_cons, List.not_mem_nil, false_implies, implies_true, List.map, List.cons_append, List.nil_append, lk, Nat.reduceEqDiff, reduceIte, and_true, true_and]), rfl, by simp only; omega, s13, by simp only; rw [hl1], _, by simp only; rw [hl1]; exact o13, by rw [List.all_append, u]; rfl, ?_⟩
    simp only
    rw [hft]
    exact dX (R := It h13) o.len rfl (fun i p hp => keep (e7 i p hp)) (keep (hnew.hs (sB.trans s12')))
end
theorem wB : type_of% (And.intro gY (And.intro wT (And.intro wN (And.intro yX (And.intro yB (And.intro uN (And.intro wM (And.intro yV (And.intro jZ (And.intro uM (And.intro yL (And.intro wZ (And.intro uP (And.intro jV (And.intro dZ rs83))))))))))))))) := And.intro gY (And.intro wT (And.intro wN (And.intro yX (And.intro yB (And.intro uN (And.intro wM (And.intro yV (And.intro jZ (And.intro uM (And.intro yL (And.intro wZ (And.intro uP (And.intro jV (And.intro dZ rs83))))))))))))))
def zD : List (Nat × List Nat) := [(0, []), (1, []), (2, []), (3, []), (4, []), (5, []), (6, []), (7, []), (8, []), (9, []), (12, []), (13, []), (14, []), (15, []), (16, []), (10, [5, 15]), (11, [15]), (17, [15]), (18, []), (19, []), (20, []), (21, []), (22, []), (23, []), (24, [])]
def xB : List Nat := [0, 0, 0, 4, 12, 28, 0, 64, 192, 448, 960, 2044, 0, 4096, 12288, 28672, 0, 69628, 262140, 524285, 1048573, 2097149, 4194303, 8388607, 16777215]
def zC : List (Nat × List Nat) := [(0, []), (1, []), (2, []), (3, []), (4, []), (5, []), (6, []), (7, []), (8, []), (9, []), (12, []), (13, []), (14, []), (15, []), (16, []), (10, [5, 15]), (17, [5, 15]), (11, [15]), (18, []), (19, []), (20, []), (21, []), (22, []), (23, []), (24, [])]
def xA : List Nat := [0, 0, 0, 4, 12, 28, 0, 64, 192, 448, 960, 198652, 0, 4096, 12288, 28672, 0, 67520, 262140, 524285, 1048573, 2097149, 4194303, 8388607, 16777215]
def zB : List (Nat × List Nat) := [(0, []), (1, []), (2, []), (3, []), (4, []), (5, []), (6, []), (7, []), (8, []), (9, []), (12, []), (13, []), (14, []), (15, []), (16, []), (17, [5, 9, 15]), (10, [5, 15]), (11, [15]), (18, []), (19, []), (20, []), (21, []), (22, []), (23, []), (24, [])]
def zZ : List Nat := [0, 0, 0, 4, 12, 28, 0, 64, 192, 448, 197568, 198652, 0, 4096, 12288, 28672, 0, 65536, 262140, 524285, 1048573, 2097149, 4194303, 8388607, 16777215]
def zQ : Nat → List (Nat × List Nat) × List Nat
  | 4 => ([(0, []), (3, []), (4, []), (5, []), (6, []), (1, [6]), (2, []), (7, []), (8, []), (9, []), (10, []), (12, []), (13, []), (15, []), (16, []), (17, []), (18, []), (19, []), (11, [13, 19]), (14, []), (20, []), (21, [])], [0, 1, 3, 0, 8, 24, 56, 123, 255, 511, 1023, 2047, 1023, 5119, 16383, 1023, 33791, 99327, 230399, 492543, 1048575, 2097151])
  | 10 => ([(0, []), (1, []), (2, []), (3, []), (5, []), (6, []), (7, []), (4, [7]), (8, []), (9, []), (10, []), (11, []), (12, [])], [0, 0, 0, 4, 14, 0, 0, 64, 254, 510, 1022, 2047, 4095])
  | _ => ([], [])
def MU (h h' : GH) : Prop := ∀ j B, h j = some B → B.cells.all wX = false → h' j = some B
theorem RB.mu {h h' : GH} {v : Value} {l : List UInt8} (r : RB h v l) (f : MU h h') : RB h' v l := by
  rcases r with r | ⟨ad, c, h1, h2, h3⟩
  · exact .inl r
  · refine .inr ⟨ad, c, h1, ?_, h3⟩
    by_cases h0 : l.length = 0
    · rw [h0] at h2 ⊢; simp only [xX, if_true] at h2 ⊢; exact h2
    · have h2' := h2
      unfold xX at h2
      rw [if_neg h0] at h2
      split at h2
      case h_2 => cases h2
      rename_i B hs hB
      have hb : bv (l[0]'(by omega)) ∈ B.cells := rE h2' h0 hB _ (List.mem_map.2 ⟨_, List.getElem_mem _, rfl⟩)
      have := f _ B hB (by
        cases e : B.cells.all wX with
        | false => rfl
        | true => rw [List.all_eq_true] at e; have := e _ hb; simp [wX, bv] at this)
      unfold xX
      rw [if_neg h0, hs, this]
      exact h2
section
variable {h h' : GH} {cs0 : List Value} (fr : ∀ j B, h j = some B → (∀ tl, B ≠ ⟨cs0, 1, true, tl⟩) → h' j = some B)
include fr
theorem tA {k : Nat} {B : GB} (m : h k = some B) (he : B.es ≠ 1) : h' k = some B := fr _ _ m fun tl e => he (by rw [e])
theorem qM5 (hu : cs0.all wX = true) {v : Value} {l : List UInt8} (r : RB h v l) : RB h' v l := r.mu fun j B hj hn => fr _ _ hj fun tl e => by rw [e] at hn; simp only [hu] at hn; cases hn
theorem qZ9 {h0 : GH} {v : Value} {n : Nat} {cs : List Value} (o : OWNC 2 h0 h v n cs) : OWNC 2 h0 h' v n cs := by
  rcases o with o | o | ⟨k, c, h1, h2, h3, h4, h5, h6, h7⟩
  · exact .inl o
  · exact .inr (.inl o)
  · exact .inr (.inr ⟨k, c, h1, h2, h3, h4, h5, tA fr h6 (by simp), h7⟩)
theorem qM6 {h0 : GH} {v : Value} {n : Nat} {cs : List Value} (ne : cs ≠ cs0) (o : OWX h0 h v n cs) : OWX h0 h' v n cs := by
  obtain ⟨kb, c, tl, h1, h2, h3, h4, h5⟩ := o
  exact ⟨kb, c, tl, h1, h2, h3, fr _ _ h4 (fun tl e => by cases e; exact ne rfl), h5⟩
end
section
variable {h0 h : GH} {k : Nat} {p : Pm} {tv bv : Value} {ts cs : List Value} {M : List (Int × List Bnd)} {ck : Int}
theorem RM.oth (x : RM h0 h k p tv bv ts cs M ck) {h' : GH} {k2 : Nat} {B : GB} (m : h k2 = some B) (he : B.es = 0) (hu : B.cells.all wX = true) (f : ∀ i, i ≠ k2 → h' i = h i) (n1 : k2 ≠ k) : RM h0 h' k p tv bv ts cs M ck := by
  have mf : MF h h' := MF.upd m he hu f
  have hx : HX k2 h h' := fun i B q e => (f i q).trans e
  exact ⟨(f k (Ne.symm n1)).trans x.obj, x.nk, x.tm.hx m (by omega) hx, x.tms, x.bat.hx m (by omega) hx, fun e b hb => by obtain ⟨v, h1, h2⟩ := x.bats e b hb; exact ⟨v, h1, h2.mf mf⟩, x.cu8, x.bl, x.len, x.pos, x.z0, x.tt, x.may, x.ri, x.rc, x.di⟩
theorem qW9 (N : Nat) (s0 : HS h0 h) (x : RM h0 h k p tv bv ts cs M ck) {d : Option Addr} {g : Nat} {b : List Bnd} (rl : RL 2 Bd h (.slice d b.length g) b) (hb : b.length ≤ 140737488355328) :
    GTri Try.prog N 83 [.pointer (some ⟨k, 0, none⟩), .slice d b.length g] h fun v h' =>
      v = qS8 (kH p M.length (gZ (M.map (·.2))) b) (if kH p M.length (gZ (M.map (·.2))) b = 0 then (M.length : Int) else 0) ∧ HS h0 h' ∧ (∀ v l, RB h v l → RB h' v l) ∧
      (kH p M.length (gZ (M.map (·.2))) b ≠ 0 ∧ RM h0 h' k p tv bv ts cs M ck ∨ kH p M.length (gZ (M.map (·.2))) b = 0 ∧ ∃ tv' bv' ts' cs', RM h0 h' k p tv' bv' ts' cs' (M ++ [(ck, b)]) ck) := by
  have hML := x.len
  have hpos := x.pos
  have htt := x.tt
  have hpm := p.may_iff.1 x.may
  have hpv : p.v = .agg #[.int .i64 p.s, .int .i64 p.ht, .int .i64 p.mi, .int .i64 p.my, .int .i64 p.ch, .int .i64 p.ar, .int .i64 p.ca, .int .i64 p.pg] := rfl
  obtain ⟨at0, ct0, et⟩ := x.tm.form
  obtain ⟨ab0, cb0, eb⟩ := x.bat.form
  subst et
  subst eb
  refine wQ Try.func83 rfl gf83 ok83 (by simp [Try.ntmps83]) ?_
  repeat' (first | (with_reducible first | apply qH | apply qB) | ((first | (with_reducible first | apply qA | apply qP | apply qD | apply qE | apply qK) | ((with_reducible first | apply qQ | apply qI | apply qJ | apply qW | apply qX) <;> intro hb <;> (try simp only [hb]) <;> (try simp only [zF] at hb)) | with_reducible refine wA (id := 12) 10 17 11 17 zD xB zC xA zB zZ mixed (by kernel_rfl) (by kernel_rfl) (by kernel_rfl) (by kernel_rfl) ?_ ?_ ?_ | with_reducible refine qO zQ mixed (by kernel_rfl) ?_) <;> try simp only [qV, qF, qL, qN, qG, qC, qM, reduceIte, seval, Int.cast_ofNat_Int, qY, qZ, qU, zR, zT, zU, wB, zQ, zD, zC, zB]))
  refine xW fun k1 h1 m1 s1 f1 n1 => ?_
  have x1 := x.hs s1
  have ho1 := x1.obj
  have lp : xM Try.prog 65 h1 (.pointer (some ⟨k, 0, none⟩)) = some p.v := by
    have := vA ho1 (o := 0) (n := 8) (cs := [.int .i64 p.s, .int .i64 p.ht, .int .i64 p.mi, .int .i64 p.my, .int .i64 p.ch, .int .i64 p.ar, .int .i64 p.ca, .int .i64 p.pg]) rfl rfl
    simp only [xM, kW, this]; rfl
  have k1k : k1 ≠ k := fun q => by subst q; rw [x.obj] at n1; cases n1
  refine qS ?_; repeat' (first | (with_reducible first | apply qH | apply qB) | ((first | (with_reducible apply qR) | (with_reducible first | apply qA | apply qP | apply qD | apply qE | apply qK) | ((with_reducible first | apply qQ | apply qI | apply qJ | apply qW | apply qX) <;> intro hb <;> (try simp only [hb]) <;> (try simp only [zF] at hb)) | with_reducible refine wA (id := 12) 10 17 11 17 zD xB zC xA zB zZ mixed (by kernel_rfl) (by kernel_rfl) (by kernel_rfl) (by kernel_rfl) ?_ ?_ ?_ | with_reducible refine qO zQ mixed (by kernel_rfl) ?_) <;> try simp only [qV, qF, qL, qN, qG, qC, qM, reduceIte, seval, Int.cast_ofNat_Int, qY, qZ, qU, zR, zT, zU, wB, zQ, zD, zC, zB, gNil, lp]))
  refine (qX0 N h1 p (rl.bs s1) hb).mono ?_
  rintro _ h2 ⟨rfl, s2⟩
  have m12 := s2 _ _ m1
  have s02 := s1.trans s2
  by_cases hchk : jR p b = 0
  case neg =>
    have dc : (jR p b != 0) = true := by simpa using hchk
    refine qS ?_; repeat' (first | (with_reducible first | apply qH | apply qB) | ((first | (with_reducible apply qR) | (with_reducible first | apply qA | apply qP | apply qD | apply qE | apply qK) | ((with_reducible first | apply qQ | apply qI | apply qJ | apply qW | apply qX) <;> intro hb <;> (try simp only [hb]) <;> (try simp only [zF] at hb)) | with_reducible refine wA (id := 12) 10 17 11 17 zD xB zC xA zB zZ mixed (by kernel_rfl) (by kernel_rfl) (by kernel_rfl) (by kernel_rfl) ?_ ?_ ?_ | with_reducible refine qO zQ mixed (by kernel_rfl) ?_) <;> try simp only [qV, qF, qL, qN, qG, qC, qM, reduceIte, seval, Int.cast_ofNat_Int, qY, qZ, qU, zR, zT, zU, wB, zQ, zD, zC, zB, dc, xL, xT, vB, Shape.pl, List.all_cons, List.all_nil, zA]))
    refine zM m12 xG rfl (by decide) rfl rfl rfl fun h3 m3 f3 => ?_
    refine qS ?_; repeat' (first | (with_reducible first | apply qH | apply qB) | ((first | (with_reducible apply qR) | (with_reducible first | apply qA | apply qP | apply qD | apply qE | apply qK) | ((with_reducible first | apply qQ | apply qI | apply qJ | apply qW | apply qX) <;> intro hb <;> (try simp only [hb]) <;> (try simp only [zF] at hb)) | with_reducible refine wA (id := 12) 10 17 11 17 zD xB zC xA zB zZ mixed (by kernel_rfl) (by kernel_rfl) (by kernel_rfl) (by kernel_rfl) ?_ ?_ ?_ | with_reducible refine qO zQ mixed (by kernel_rfl) ?_) <;> try simp only [qV, qF, qL, qN, qG, qC, qM, reduceIte, seval, Int.cast_ofNat_Int, qY, qZ, qU, zR, zT, zU, wB, zQ, zD, zC, zB, zI m3 xG rfl]))
    have hE : kH p M.length (gZ (M.map (·.2))) b = jR p b := by unfold kH; rw [if_neg hchk]
    have s03 := s02.upd n1 f3
    exact ⟨by rw [hE, if_neg hchk]; rfl, s0.trans s03, fun v l r => r.hs s03, .inl ⟨by rw [hE]; exact hchk, x.hs s03⟩⟩
  have dc : (jR p b != 0) = false := by simpa using hchk
  have hE : kH p M.length (gZ (M.map (·.2))) b = if (M.length : Int) ≥ p.eps ∨ (b.length : Int) > p.ch - (gZ (M.map (·.2)) : Nat) then 81 else 0 := by unfold kH; rw [if_pos hchk]
  obtain ⟨hbs, hb32⟩ := lM x.may hchk
  have x2 := x1.hs s2
  have ho2 := x2.obj
  have lp2 : xM Try.prog 65 h2 (.pointer (some ⟨k, 0, none⟩)) = some p.v := by
    have := vA ho2 (o := 0) (n := 8) (cs := [.int .i64 p.s, .int .i64 p.ht, .int .i64 p.mi, .int .i64 p.my, .int .i64 p.ch, .int .i64 p.ar, .int .i64 p.ca, .int .i64 p.pg]) rfl rfl
    simp only [xM, kW, this]; rfl
  have wl : IntKind.i64.wrap (((M.length - 1 : Nat) : Int) + 1) = (M.length : Int) := by rw [wrap64 (by omega) (by omega)]; omega
  have wt : IntKind.i64.wrap ((gZ (M.map (·.2)) : Int) + (b.length : Int)) = (gZ (M.map (·.2)) : Int) + (b.length : Int) := by rw [wrap64 (by omega) (by omega)]
  refine qS ?_; repeat' (first | (with_reducible first | apply qH | apply qB) | ((first | (with_reducible apply qR) | (with_reducible first | apply qA | apply qP | apply qD | apply qE | apply qK) | ((with_reducible first | apply qQ | apply qI | apply qJ | apply qW | apply qX) <;> intro hb <;> (try simp only [hb]) <;> (try simp only [zF] at hb)) | with_reducible refine wA (id := 12) 10 17 11 17 zD xB zC xA zB zZ mixed (by kernel_rfl) (by kernel_rfl) (by kernel_rfl) (by kernel_rfl) ?_ ?_ ?_ | with_reducible refine qO zQ mixed (by kernel_rfl) ?_ | ((refine GTri.mono (tD _ x2) ?_); rintro _ _ ⟨rfl, hh9⟩; replace hh9 := hh9.symm; subst hh9)) <;> try simp only [qV, qF, qL, qN, qG, qC, qM, reduceIte, seval, Int.cast_ofNat_Int, qY, qZ, qU, zR, zT, zU, wB, zQ, zD, zC, zB, gNil, dc, lp2, wl]))
  refine (c_reps N h2 p).mono ?_
  rintro _ h3 ⟨rfl, s3⟩
  have s03 := s02.trans s3
  have x3 := x.hs s03
  have ho3 := x3.obj
  have m13 := s3 _ _ m12
  by_cases hep : (M.length : Int) ≥ p.eps
  · have d1 : decide ((M.length : Int) ≥ p.eps) = true := decide_eq_true hep
    rw [if_pos (.inl hep)] at hE
    refine qS ?_; repeat' (first | (with_reducible first | apply qH | apply qB) | ((first | (with_reducible apply qR) | (with_reducible first | apply qA | apply qP | apply qD | apply qE | apply qK) | ((with_reducible first | apply qQ | apply qI | apply qJ | apply qW | apply qX) <;> intro hb <;> (try simp only [hb]) <;> (try simp only [zF] at hb)) | with_reducible refine wA (id := 12) 10 17 11 17 zD xB zC xA zB zZ mixed (by kernel_rfl) (by kernel_rfl) (by kernel_rfl) (by kernel_rfl) ?_ ?_ ?_ | with_reducible refine qO zQ mixed (by kernel_rfl) ?_) <;> try simp only [qV, qF, qL, qN, qG, qC, qM, reduceIte, seval, Int.cast_ofNat_Int, qY, qZ, qU, zR, zT, zU, wB, zQ, zD, zC, zB, d1, gPick, xL, xT, vB, Shape.pl, List.all_cons, List.all_nil, zA]))
    refine zM m13 xG rfl (by decide) rfl rfl rfl fun h4 m4 f4 => ?_
    refine qS ?_; repeat' (first | (with_reducible first | apply qH | apply qB) | ((first | (with_reducible apply qR) | (with_reducible first | apply qA | apply qP | apply qD | apply qE | apply qK) | ((with_reducible first | apply qQ | apply qI | apply qJ | apply qW | apply qX) <;> intro hb <;> (try simp only [hb]) <;> (try simp only [zF] at hb)) | with_reducible refine wA (id := 12) 10 17 11 17 zD xB zC xA zB zZ mixed (by kernel_rfl) (by kernel_rfl) (by kernel_rfl) (by kernel_rfl) ?_ ?_ ?_ | with_reducible refine qO zQ mixed (by kernel_rfl) ?_) <;> try simp only [qV, qF, qL, qN, qG, qC, qM, reduceIte, seval, Int.cast_ofNat_Int, qY, qZ, qU, zR, zT, zU, wB, zQ, zD, zC, zB, zI m4 xG rfl]))
    have s04 := s03.upd n1 f4
    exact ⟨by rw [hE]; rfl, s0.trans s04, fun v l r => r.hs s04, .inl ⟨by rw [hE]; decide, x.hs s04⟩⟩
  have d1 : decide ((M.length : Int) ≥ p.eps) = false := decide_eq_false hep
  refine qS ?_; repeat' (first | (with_reducible first | apply qH | apply qB) | ((first | (with_reducible apply qR) | (with_reducible first | apply qA | apply qP | apply qD | apply qE | apply qK) | ((with_reducible first | apply qQ | apply qI | apply qJ | apply qW | apply qX) <;> intro hb <;> (try simp only [hb]) <;> (try simp only [zF] at hb)) | with_reducible refine wA (id := 12) 10 17 11 17 zD xB zC xA zB zZ mixed (by kernel_rfl) (by kernel_rfl) (by kernel_rfl) (by kernel_rfl) ?_ ?_ ?_ | with_reducible refine qO zQ mixed (by kernel_rfl) ?_) <;> try simp only [qV, qF, qL, qN, qG, qC, qM, reduceIte, seval, Int.cast_ofNat_Int, qY, qZ, qU, zR, zT, zU, wB, zQ, zD, zC, zB, d1, gPick, gNil, qT ho3 wL]))
  refine (qG3 N x3).mono ?_
  rintro _ h4 ⟨rfl, s4⟩
  have s04 := s03.trans s4
  have x4 := x.hs s04
  have ho4 := x4.obj
  have m14 := s4 _ _ m13
  by_cases hch : (gZ (M.map (·.2)) : Int) + (b.length : Int) > p.ch
  · have d2 : decide ((gZ (M.map (·.2)) : Int) + (b.length : Int) > p.ch) = true := decide_eq_true hch
    rw [if_pos (.inr (by omega))] at hE
    refine qS ?_; repeat' (first | (with_reducible first | apply qH | apply qB) | ((first | (with_reducible apply qR) | (with_reducible first | apply qA | apply qP | apply qD | apply qE | apply qK) | ((with_reducible first | apply qQ | apply qI | apply qJ | apply qW | apply qX) <;> intro hb <;> (try simp only [hb]) <;> (try simp only [zF] at hb)) | with_reducible refine wA (id := 12) 10 17 11 17 zD xB zC xA zB zZ mixed (by kernel_rfl) (by kernel_rfl) (by kernel_rfl) (by kernel_rfl) ?_ ?_ ?_ | with_reducible refine qO zQ mixed (by kernel_rfl) ?_) <;> try simp only [qV, qF, qL, qN, qG, qC, qM, reduceIte, seval, Int.cast_ofNat_Int, qY, qZ, qU, zR, zT, zU, wB, zQ, zD, zC, zB, wt, d1, d2, gPick, gNil, qT ho4 wL, xL, xT, vB, Shape.pl, List.all_cons, List.all_nil, zA]))
    refine zM m14 xG rfl (by decide) rfl rfl rfl fun h5 m5 f5 => ?_
    refine qS ?_; repeat' (first | (with_reducible first | apply qH | apply qB) | ((first | (with_reducible apply qR) | (with_reducible first | apply qA | apply qP | apply qD | apply qE | apply qK) | ((with_reducible first | apply qQ | apply qI | apply qJ | apply qW | apply qX) <;> intro hb <;> (try simp only [hb]) <;> (try simp only [zF] at hb)) | with_reducible refine wA (id := 12) 10 17 11 17 zD xB zC xA zB zZ mixed (by kernel_rfl) (by kernel_rfl) (by kernel_rfl) (by kernel_rfl) ?_ ?_ ?_ | with_reducible refine qO zQ mixed (by kernel_rfl) ?_) <;> try simp only [qV, qF, qL, qN, qG, qC, qM, reduceIte, seval, Int.cast_ofNat_Int, qY, qZ, qU, zR, zT, zU, wB, zQ, zD, zC, zB, zI m5 xG rfl]))
    have s05 := s04.upd n1 f5
    exact ⟨by rw [hE]; rfl, s0.trans s05, fun v l r => r.hs s05, .inl ⟨by rw [hE]; decide, x.hs s05⟩⟩
  have d2 : decide ((gZ (M.map (·.2)) : Int) + (b.length : Int) > p.ch) = false := decide_eq_false hch
  rw [if_neg (by omega)] at hE
  rw [hE]
  refine qS ?_; repeat' (first | (with_reducible first | apply qH | apply qB) | ((first | (with_reducible apply qR) | (with_reducible first | apply qA | apply qP | apply qD | apply qE | apply qK) | ((with_reducible first | apply qQ | apply qI | apply qJ | apply qW | apply qX) <;> intro hb <;> (try simp only [hb]) <;> (try simp only [zF] at hb)) | with_reducible refine wA (id := 12) 10 17 11 17 zD xB zC xA zB zZ mixed (by kernel_rfl) (by kernel_rfl) (by kernel_rfl) (by kernel_rfl) ?_ ?_ ?_ | with_reducible refine qO zQ mixed (by kernel_rfl) ?_) <;> try simp only [qV, qF, qL, qN, qG, qC, qM, reduceIte, seval, Int.cast_ofNat_Int, qY, qZ, qU, zR, zT, zU, wB, zQ, zD, zC, zB, wt, d1, d2, gPick, gNil, qT ho4 wL]))
  refine wI [0, 4, 42, 43] (fun (y : Nat × (Option Addr × Nat × Nat)) => [(6, .slice y.2.1 y.2.2.1 y.2.2.2), (44, .int .i64 (y.1 : Int))])
    (fun q y h' => b.length - y.1 = q ∧ y.1 ≤ b.length ∧ HS h4 h' ∧ ∃ ds, OWNC 2 h4 h' (.slice y.2.1 y.2.2.1 y.2.2.2) y.1 ds ∧ ds.all wX = true ∧ ∀ (q : Nat) p, (b.take y.1)[q]? = some p → Bd h' ((ds.drop (q * 2)).take 2) p) b.length (0, (none, 0, 0)) (by simp [lk])
    ⟨rfl, by simp, HS.refl _, [], OWNC.nil _ _ _, rfl, fun q p hp => by simp at hp⟩ ?_
  rintro _ ⟨i, a5, n5, c5⟩ h5 ⟨rfl, hi, s5, ds, o5, u5, r5⟩
  simp only at hi o5 r5
  have hd := o5.len
  have n5i : n5 = i := by
    obtain ⟨_, _, q⟩ := o5.form
    cases q; rfl
  subst n5i
  have s05 := s04.trans s5
  by_cases hib : n5 < b.length
  case pos =>
    have d3 : decide ((n5 : Int) < (b.length : Int)) = true := decide_eq_true (by omega)
    have wi : IntKind.i64.wrap ((n5 : Int) + 1) = ((n5 + 1 : Nat) : Int) := by rw [wrap64 (by omega) (by omega)]; omega
    obtain ⟨z, hz⟩ := vC hib
    obtain ⟨ad, cs2, g1, g2, a', n', c', b', m', d', rfl, q1, q2⟩ := (rl.bs s05).at (P := Try.prog) Try.underlying23 uQ hz
    have l1 : xM Try.prog 99 h5 (.pointer (some ad)) = some (.agg #[.slice a' n' c', .slice b' m' d']) := by simp only [xM, uQ, g2]; rfl
    have hzl := hbs z (List.mem_of_getElem? hz)
    refine qS ?_; repeat' (first | (with_reducible first | apply qH | apply qB) | ((first | (with_reducible apply qR) | (with_reducible first | apply qA | apply qP | apply qD | apply qE | apply qK) | ((with_reducible first | apply qQ | apply qI | apply qJ | apply qW | apply qX) <;> intro hb <;> (try simp only [hb]) <;> (try simp only [zF] at hb)) | with_reducible refine wA (id := 12) 10 17 11 17 zD xB zC xA zB zZ mixed (by kernel_rfl) (by kernel_rfl) (by kernel_rfl) (by kernel_rfl) ?_ ?_ ?_ | with_reducible refine qO zQ mixed (by kernel_rfl) ?_) <;> try simp only [qV, qF, qL, qN, qG, qC, qM, reduceIte, seval, Int.cast_ofNat_Int, qY, qZ, qU, zR, zT, zU, wB, zQ, zD, zC, zB, d3, g1, l1]))
    refine xW fun k7 h7 m7 s7 f7 n7 => ?_
    refine qS ?_; repeat' (first | (with_reducible first | apply qH | apply qB) | ((first | (with_reducible apply qR) | (with_reducible first | apply qA | apply qP | apply qD | apply qE | apply qK) | ((with_reducible first | apply qQ | apply qI | apply qJ | apply qW | apply qX) <;> intro hb <;> (try simp only [hb]) <;> (try simp only [zF] at hb)) | with_reducible refine wA (id := 12) 10 17 11 17 zD xB zC xA zB zZ mixed (by kernel_rfl) (by kernel_rfl) (by kernel_rfl) (by kernel_rfl) ?_ ?_ ?_ | with_reducible refine qO zQ mixed (by kernel_rfl) ?_) <;> try simp only [qV, qF, qL, qN, qG, qC, qM, reduceIte, seval, Int.cast_ofNat_Int, qY, qZ, qU, zR, zT, zU, wB, zQ, zD, zC, zB]))
    refine zM m7 uQ rfl (by decide) rfl rfl rfl fun h8 m8 f8 => ?_
    have s8 : HS h5 h8 := (HS.refl h5).upd n7 (fun j hj => (f8 j hj).trans (f7 j hj))
    have iz : (!(#[] : Array (Nat × Operand)).size == 0) = false := rfl
    refine qS ?_; repeat' (first | (with_reducible first | apply qH | apply qB) | ((first | (with_reducible apply qR) | (with_reducible first | apply qA | apply qP | apply qD | apply qE | apply qK) | ((with_reducible first | apply qQ | apply qI | apply qJ | apply qW | apply qX) <;> intro hb <;> (try simp only [hb]) <;> (try simp only [zF] at hb)) | with_reducible refine wA (id := 12) 10 17 11 17 zD xB zC xA zB zZ mixed (by kernel_rfl) (by kernel_rfl) (by kernel_rfl) (by kernel_rfl) ?_ ?_ ?_ | with_reducible refine qO zQ mixed (by kernel_rfl) ?_) <;> try simp only [qV, qF, qL, qN, qG, qC, qM, reduceIte, seval, Int.cast_ofNat_Int, qY, qZ, qU, zR, zT, zU, wB, zQ, zD, zC, zB, iz, qT m8 wK]))
    refine tH fG rfl ?_
    refine qS ?_; repeat' (first | (with_reducible first | apply qH | apply qB) | ((first | (with_reducible apply qR) | (with_reducible first | apply qA | apply qP | apply qD | apply qE | apply qK) | ((with_reducible first | apply qQ | apply qI | apply qJ | apply qW | apply qX) <;> intro hb <;> (try simp only [hb]) <;> (try simp only [zF] at hb)) | with_reducible refine wA (id := 12) 10 17 11 17 zD xB zC xA zB zZ mixed (by kernel_rfl) (by kernel_rfl) (by kernel_rfl) (by kernel_rfl) ?_ ?_ ?_ | with_reducible refine qO zQ mixed (by kernel_rfl) ?_) <;> try simp only [qV, qF, qL, qN, qG, qC, qM, reduceIte, seval, Int.cast_ofNat_Int, qY, qZ, qU, zR, zT, zU, wB, zQ, zD, zC, zB, iz, qT m8 wK]))
    refine tH fG rfl ?_
    refine qS ?_; repeat' (first | (with_reducible first | apply qH | apply qB) | ((first | (with_reducible apply qR) | (with_reducible first | apply qA | apply qP | apply qD | apply qE | apply qK) | ((with_reducible first | apply qQ | apply qI | apply qJ | apply qW | apply qX) <;> intro hb <;> (try simp only [hb]) <;> (try simp only [zF] at hb)) | with_reducible refine wA (id := 12) 10 17 11 17 zD xB zC xA zB zZ mixed (by kernel_rfl) (by kernel_rfl) (by kernel_rfl) (by kernel_rfl) ?_ ?_ ?_ | with_reducible refine qO zQ mixed (by kernel_rfl) ?_) <;> try simp only [qV, qF, qL, qN, qG, qC, qM, reduceIte, seval, Int.cast_ofNat_Int, qY, qZ, qU, zR, zT, zU, wB, zQ, zD, zC, zB, iz, qT m8 wK]))
    refine kN fG Try.underlying24 rfl (HS.refl h8) (OWN.zero _ _ _) (q1.hs s8).src (by simpa using hzl.1) fun v10 h10 s10 _ o10 => ?_
    rw [List.nil_append] at o10
    obtain ⟨a10, c10, rfl⟩ := o10.form
    refine qS ?_; repeat' (first | (with_reducible first | apply qH | apply qB) | ((first | (with_reducible apply qR) | (with_reducible first | apply qA | apply qP | apply qD | apply qE | apply qK) | ((with_reducible first | apply qQ | apply qI | apply qJ | apply qW | apply qX) <;> intro hb <;> (try simp only [hb]) <;> (try simp only [zF] at hb)) | with_reducible refine wA (id := 12) 10 17 11 17 zD xB zC xA zB zZ mixed (by kernel_rfl) (by kernel_rfl) (by kernel_rfl) (by kernel_rfl) ?_ ?_ ?_ | with_reducible refine qO zQ mixed (by kernel_rfl) ?_) <;> try simp only [qV, qF, qL, qN, qG, qC, qM, reduceIte, seval, Int.cast_ofNat_Int, qY, qZ, qU, zR, zT, zU, wB, zQ, zD, zC, zB, iz, qT (s10 _ _ m8) wK]))
    refine kN fG Try.underlying24 rfl (HS.refl h10) (OWN.zero _ _ _) ((q2.hs s8).hs s10).src (by simpa using hzl.2) fun v11 h11 s11 _ o11 => ?_
    rw [List.nil_append] at o11
    obtain ⟨a11, c11, rfl⟩ := o11.form
    refine qS ?_; repeat' (first | (with_reducible first | apply qH | apply qB) | ((first | (with_reducible apply qR) | (with_reducible first | apply qA | apply qP | apply qD | apply qE | apply qK) | ((with_reducible first | apply qQ | apply qI | apply qJ | apply qW | apply qX) <;> intro hb <;> (try simp only [hb]) <;> (try simp only [zF] at hb)) | with_reducible refine wA (id := 12) 10 17 11 17 zD xB zC xA zB zZ mixed (by kernel_rfl) (by kernel_rfl) (by kernel_rfl) (by kernel_rfl) ?_ ?_ ?_ | with_reducible refine qO zQ mixed (by kernel_rfl) ?_) <;> try simp only [qV, qF, qL, qN, qG, qC, qM, reduceIte, seval, Int.cast_ofNat_Int, qY, qZ, qU, zR, zT, zU, wB, zQ, zD, zC, zB, iz, Bool.false_and, Bool.not_false, xL, xT, vB, Shape.pl, List.all_cons, List.all_nil, zA]))
    refine fH zE4 rfl rfl (by decide) (by decide) rfl fun k12 h12 b12 s12 f12 n12 => ?_
    have s512 : HS h5 h12 := ((s8.trans s10).trans s11).trans s12
    refine qS ?_; repeat' (first | (with_reducible first | apply qH | apply qB) | ((first | (with_reducible apply qR) | (with_reducible first | apply qA | apply qP | apply qD | apply qE | apply qK) | ((with_reducible first | apply qQ | apply qI | apply qJ | apply qW | apply qX) <;> intro hb <;> (try simp only [hb]) <;> (try simp only [zF] at hb)) | with_reducible refine wA (id := 12) 10 17 11 17 zD xB zC xA zB zZ mixed (by kernel_rfl) (by kernel_rfl) (by kernel_rfl) (by kernel_rfl) ?_ ?_ ?_ | with_reducible refine qO zQ mixed (by kernel_rfl) ?_) <;> try simp only [qV, qF, qL, qN, qG, qC, qM, reduceIte, seval, Int.cast_ofNat_Int, qY, qZ, qU, zR, zT, zU, wB, zQ, zD, zC, zB]))
    refine wJ zE4 Try.underlying23 rfl (s5.trans s512) (o5.hs s512) b12 rfl rfl (by omega) (by simp only [maxLen]; omega) fun v13 h13 s13 fr13 o13 => ?_
    obtain ⟨a13, c13, rfl⟩ := o13.form
    refine qS ?_; repeat' (first | (with_reducible first | apply qH | apply qB) | ((first | (with_reducible apply qR) | (with_reducible first | apply qA | apply qP | apply qD | apply qE | apply qK) | ((with_reducible first | apply qQ | apply qI | apply qJ | apply qW | apply qX) <;> intro hb <;> (try simp only [hb]) <;> (try simp only [zF] at hb)) | with_reducible refine wA (id := 12) 10 17 11 17 zD xB zC xA zB zZ mixed (by kernel_rfl) (by kernel_rfl) (by kernel_rfl) (by kernel_rfl) ?_ ?_ ?_ | with_reducible refine qO zQ mixed (by kernel_rfl) ?_) <;> try simp only [qV, qF, qL, qN, qG, qC, qM, reduceIte, seval, Int.cast_ofNat_Int, qY, qZ, qU, zR, zT, zU, wB, zQ, zD, zC, zB, wi]))
    have keep : ∀ {q : List Value} {ee : Bnd}, Bd h12 q ee → Bd h13 q ee := fun {q ee} w => by
      obtain ⟨a, n, c, b, m, d, e, r1, r2⟩ := w
      exact ⟨a, n, c, b, m, d, e, jW fr13 u5 r1, jW fr13 u5 r2⟩
    refine ⟨_, (n5 + 1, a13, n5 + 1, c13), by simp only; omega, (by simp only [List.forall_mem_cons, List.not_mem_nil, false_implies, implies_true, List.map, List.cons_append, List.nil_append, lk, Nat.reduceEqDiff, reduceIte, and_true, true_and]), rfl, by simp only; omega, s13, _, o13, by rw [List.all_append, u5]; rfl, ?_⟩
    have ht : b.take (n5 + 1) = b.take n5 ++ [z] := by rw [List.take_add_one, hz]; rfl
    simp only [ht]
    exact dX (R := Bd h13) (by rw [hd, List.length_take, Nat.min_eq_left hi]) rfl (fun i p hp => keep ((r5 i p hp).hs s512)) (keep ⟨_, _, _, _, _, _, rfl, ((o10.rb.hs s11).hs s12), (o11.rb.hs s12)⟩)
  obtain rfl : n5 = b.length := by omega
  have d3 : decide ((b.length : Int) < (b.length : Int)) = false := decide_eq_false (by omega)
  rw [List.take_length] at r5
  have x5 := x.hs s05
  have ho5 := x5.obj
  have net : ts ≠ cs := fun e => by
    obtain ⟨y, hy⟩ := vC (show 0 < M.length by omega)
    obtain ⟨v, hv, bt⟩ := x.bats 0 y hy
    obtain ⟨a, c, rfl, _⟩ := bt.rl.form
    have h1 : ts[0]? = some (.int .i64 y.1) := by rw [x.tms, List.getElem?_map, hy]; rfl
    rw [e, hv] at h1
    cases h1
  have net2 : ts ++ [.int .i64 ck] ≠ cs := fun e => by
    obtain ⟨y, hy⟩ := vC (show 0 < M.length by omega)
    obtain ⟨v, hv, bt⟩ := x.bats 0 y hy
    obtain ⟨a, c, rfl, _⟩ := bt.rl.form
    have h1 : ts[0]? = some (.int .i64 y.1) := by rw [x.tms, List.getElem?_map, hy]; rfl
    have h2 : (ts ++ [Value.int .i64 ck])[0]? = some (.int .i64 y.1) := by rw [List.getElem?_append_left (List.getElem?_eq_some_iff.1 h1).1]; exact h1
    rw [e, hv] at h2
    cases h2
  have ut : ts.all wX = true := by
    rw [x.tms, List.all_eq_true]
    intro v hv
    obtain ⟨y, _, rfl⟩ := List.mem_map.1 hv
    rfl
  have own1 : ∀ (tl : Bool), (⟨[.slice a5 b.length c5], 1, true, false⟩ : GB) ≠ ⟨ts, 1, true, tl⟩ := fun tl e => by
    obtain ⟨y, hy⟩ := vC (show 0 < M.length by omega)
    have h1 : ts[0]? = some (.int .i64 y.1) := by rw [x.tms, List.getElem?_map, hy]; rfl
    injection e with e1
    rw [← e1] at h1
    cases h1
  refine qS ?_; repeat' (first | (with_reducible first | apply qH | apply qB) | ((first | (with_reducible apply qR) | (with_reducible first | apply qA | apply qP | apply qD | apply qE | apply qK) | ((with_reducible first | apply qQ | apply qI | apply qJ | apply qW | apply qX) <;> intro hb <;> (try simp only [hb]) <;> (try simp only [zF] at hb)) | with_reducible refine wA (id := 12) 10 17 11 17 zD xB zC xA zB zZ mixed (by kernel_rfl) (by kernel_rfl) (by kernel_rfl) (by kernel_rfl) ?_ ?_ ?_ | with_reducible refine qO zQ mixed (by kernel_rfl) ?_) <;> try simp only [qV, qF, qL, qN, qG, qC, qM, reduceIte, seval, Int.cast_ofNat_Int, qY, qZ, qU, zR, zT, zU, wB, zQ, zD, zC, zB, d3, gNil, qT ho5 kV, qT ho5 kX, qT ho5 wL]))
  all_goals first
    | (refine qS ?_; repeat' (first | (with_reducible first | apply qH | apply qB) | ((first | (with_reducible apply qR) | (with_reducible first | apply qA | apply qP | apply qD | apply qE | apply qK) | ((with_reducible first | apply qQ | apply qI | apply qJ | apply qW | apply qX) <;> intro hb <;> (try simp only [hb]) <;> (try simp only [zF] at hb)) | with_reducible refine wA (id := 12) 10 17 11 17 zD xB zC xA zB zZ mixed (by kernel_rfl) (by kernel_rfl) (by kernel_rfl) (by kernel_rfl) ?_ ?_ ?_ | with_reducible refine qO zQ mixed (by kernel_rfl) ?_) <;> try simp only [qV, qF, qL, qN, qG, qC, qM, reduceIte, seval, Int.cast_ofNat_Int, qY, qZ, qU, zR, zT, zU, wB, zQ, zD, zC, zB, Bool.false_and, Bool.not_false, gNil, qT ho5 kV, qT ho5 kX, qT ho5 wL]))
       refine gV sW rfl rfl (by decide) (by decide) rfl fun k6 h6 b6 s6 f6 n6 => ?_
       have x6 := x5.hs s6
       have ho6 := x6.obj
       refine qS ?_; repeat' (first | (with_reducible first | apply qH | apply qB) | ((first | (with_reducible apply qR) | (with_reducible first | apply qA | apply qP | apply qD | apply qE | apply qK) | ((with_reducible first | apply qQ | apply qI | apply qJ | apply qW | apply qX) <;> intro hb <;> (try simp only [hb]) <;> (try simp only [zF] at hb)) | with_reducible refine wA (id := 12) 10 17 11 17 zD xB zC xA zB zZ mixed (by kernel_rfl) (by kernel_rfl) (by kernel_rfl) (by kernel_rfl) ?_ ?_ ?_ | with_reducible refine qO zQ mixed (by kernel_rfl) ?_) <;> try simp only [qV, qF, qL, qN, qG, qC, qM, reduceIte, seval, Int.cast_ofNat_Int, qY, qZ, qU, zR, zT, zU, wB, zQ, zD, zC, zB, Bool.false_and, Bool.not_false, gNil, qT ho6 kV, qT ho6 kX, qT ho6 wL]))
       refine tF sW Try.underlying83 rfl (s0.trans (s05.trans s6)) x6.tm (src1 b6 rfl) rfl rfl (by omega) (by simp only [maxLen]; omega) fun vt h7 s7 fr7 ot7 => ?_
       have ho7 := tA fr7 ho6 (by simp)
       have m17 := tA fr7 (s6 _ _ (s5 _ _ m14)) (by simp)
       refine qS ?_; repeat' (first | (with_reducible first | apply qH | apply qB) | ((first | (with_reducible apply qR) | (with_reducible first | apply qA | apply qP | apply qD | apply qE | apply qK) | ((with_reducible first | apply qQ | apply qI | apply qJ | apply qW | apply qX) <;> intro hb <;> (try simp only [hb]) <;> (try simp only [zF] at hb)) | with_reducible refine wA (id := 12) 10 17 11 17 zD xB zC xA zB zZ mixed (by kernel_rfl) (by kernel_rfl) (by kernel_rfl) (by kernel_rfl) ?_ ?_ ?_ | with_reducible refine qO zQ mixed (by kernel_rfl) ?_) <;> try simp only [qV, qF, qL, qN, qG, qC, qM, reduceIte, seval, Int.cast_ofNat_Int, qY, qZ, qU, zR, zT, zU, wB, zQ, zD, zC, zB, Bool.false_and, Bool.not_false, gNil, qT ho7 kV, qT ho7 kX, qT ho7 wL]))
       refine gV qR4 rfl rfl (by decide) (by decide) rfl fun k8 h8 b8 s8 f8 n8 => ?_
       have ho8 := s8 _ _ ho7
       have m18 := s8 _ _ m17
       have ot8 := ot7.hs s8
       have ob8 := (qM6 fr7 (Ne.symm net) x6.bat).hs s8
       have hr8 : ∀ v l, RB h5 v l → RB h8 v l := fun v l r => (qM5 fr7 ut (r.hs s6)).hs s8
       have ho28 : ∀ g v n cs, OWNC 2 g h5 v n cs → OWNC 2 g h8 v n cs := fun g v n cs o => (qZ9 fr7 (o.hs s6)).hs s8
       have s08 := s7.trans s8)
    | (refine qS ?_; repeat' (first | (with_reducible first | apply qH | apply qB) | ((first | (with_reducible apply qR) | (with_reducible first | apply qA | apply qP | apply qD | apply qE | apply qK) | ((with_reducible first | apply qQ | apply qI | apply qJ | apply qW | apply qX) <;> intro hb <;> (try simp only [hb]) <;> (try simp only [zF] at hb)) | with_reducible refine wA (id := 12) 10 17 11 17 zD xB zC xA zB zZ mixed (by kernel_rfl) (by kernel_rfl) (by kernel_rfl) (by kernel_rfl) ?_ ?_ ?_ | with_reducible refine qO zQ mixed (by kernel_rfl) ?_) <;> try simp only [qV, qF, qL, qN, qG, qC, qM, reduceIte, seval, Int.cast_ofNat_Int, qY, qZ, qU, zR, zT, zU, wB, zQ, zD, zC, zB, Bool.false_and, Bool.not_false, gNil, qT ho5 kV, qT ho5 kX, qT ho5 wL]))
       refine gV sW rfl rfl (by decide) (by decide) rfl fun k6 h6 b6 s6 f6 n6 => ?_
       have x6 := x5.hs s6
       have ho6 := x6.obj
       refine qS ?_; repeat' (first | (with_reducible first | apply qH | apply qB) | ((first | (with_reducible apply qR) | (with_reducible first | apply qA | apply qP | apply qD | apply qE | apply qK) | ((with_reducible first | apply qQ | apply qI | apply qJ | apply qW | apply qX) <;> intro hb <;> (try simp only [hb]) <;> (try simp only [zF] at hb)) | with_reducible refine wA (id := 12) 10 17 11 17 zD xB zC xA zB zZ mixed (by kernel_rfl) (by kernel_rfl) (by kernel_rfl) (by kernel_rfl) ?_ ?_ ?_ | with_reducible refine qO zQ mixed (by kernel_rfl) ?_) <;> try simp only [qV, qF, qL, qN, qG, qC, qM, reduceIte, seval, Int.cast_ofNat_Int, qY, qZ, qU, zR, zT, zU, wB, zQ, zD, zC, zB, Bool.false_and, Bool.not_false, gNil, qT ho6 kV, qT ho6 kX, qT ho6 wL]))
       refine gV qR4 rfl rfl (by decide) (by decide) rfl fun k7 h7 b7 s7 f7 n7 => ?_
       have x7 := x6.hs s7
       have ho7 := x7.obj
       refine qS ?_; repeat' (first | (with_reducible first | apply qH | apply qB) | ((first | (with_reducible apply qR) | (with_reducible first | apply qA | apply qP | apply qD | apply qE | apply qK) | ((with_reducible first | apply qQ | apply qI | apply qJ | apply qW | apply qX) <;> intro hb <;> (try simp only [hb]) <;> (try simp only [zF] at hb)) | with_reducible refine wA (id := 12) 10 17 11 17 zD xB zC xA zB zZ mixed (by kernel_rfl) (by kernel_rfl) (by kernel_rfl) (by kernel_rfl) ?_ ?_ ?_ | with_reducible refine qO zQ mixed (by kernel_rfl) ?_) <;> try simp only [qV, qF, qL, qN, qG, qC, qM, reduceIte, seval, Int.cast_ofNat_Int, qY, qZ, qU, zR, zT, zU, wB, zQ, zD, zC, zB, Bool.false_and, Bool.not_false, gNil, qT ho7 kV, qT ho7 kX, qT ho7 wL]))
       refine tF sW Try.underlying83 rfl (s0.trans ((s05.trans s6).trans s7)) x7.tm (src1 (s7 _ _ b6) rfl) rfl rfl (by omega) (by simp only [maxLen]; omega) fun vt h8 s08 fr8 ot8 => ?_
       have ho8 := tA fr8 ho7 (by simp)
       have m18 := tA fr8 (s7 _ _ (s6 _ _ (s5 _ _ m14))) (by simp)
       have ob8 := qM6 fr8 (Ne.symm net) x7.bat
       have b8 := fr8 _ _ b7 own1
       have hr8 : ∀ v l, RB h5 v l → RB h8 v l := fun v l r => qM5 fr8 ut ((r.hs s6).hs s7)
       have ho28 : ∀ g v n cs, OWNC 2 g h5 v n cs → OWNC 2 g h8 v n cs := fun g v n cs o => qZ9 fr8 ((o.hs s6).hs s7))
    | (refine qS ?_; repeat' (first | (with_reducible first | apply qH | apply qB) | ((first | (with_reducible apply qR) | (with_reducible first | apply qA | apply qP | apply qD | apply qE | apply qK) | ((with_reducible first | apply qQ | apply qI | apply qJ | apply qW | apply qX) <;> intro hb <;> (try simp only [hb]) <;> (try simp only [zF] at hb)) | with_reducible refine wA (id := 12) 10 17 11 17 zD xB zC xA zB zZ mixed (by kernel_rfl) (by kernel_rfl) (by kernel_rfl) (by kernel_rfl) ?_ ?_ ?_ | with_reducible refine qO zQ mixed (by kernel_rfl) ?_) <;> try simp only [qV, qF, qL, qN, qG, qC, qM, reduceIte, seval, Int.cast_ofNat_Int, qY, qZ, qU, zR, zT, zU, wB, zQ, zD, zC, zB, Bool.false_and, Bool.not_false, gNil, qT ho5 kV, qT ho5 kX, qT ho5 wL]))
       refine gV qR4 rfl rfl (by decide) (by decide) rfl fun k6 h6 b6 s6 f6 n6 => ?_
       have x6 := x5.hs s6
       have ho6 := x6.obj
       refine qS ?_; repeat' (first | (with_reducible first | apply qH | apply qB) | ((first | (with_reducible apply qR) | (with_reducible first | apply qA | apply qP | apply qD | apply qE | apply qK) | ((with_reducible first | apply qQ | apply qI | apply qJ | apply qW | apply qX) <;> intro hb <;> (try simp only [hb]) <;> (try simp only [zF] at hb)) | with_reducible refine wA (id := 12) 10 17 11 17 zD xB zC xA zB zZ mixed (by kernel_rfl) (by kernel_rfl) (by kernel_rfl) (by kernel_rfl) ?_ ?_ ?_ | with_reducible refine qO zQ mixed (by kernel_rfl) ?_) <;> try simp only [qV, qF, qL, qN, qG, qC, qM, reduceIte, seval, Int.cast_ofNat_Int, qY, qZ, qU, zR, zT, zU, wB, zQ, zD, zC, zB, Bool.false_and, Bool.not_false, gNil, qT ho6 kV, qT ho6 kX, qT ho6 wL]))
       refine gV sW rfl rfl (by decide) (by decide) rfl fun k7 h7 b7 s7 f7 n7 => ?_
       have x7 := x6.hs s7
       have ho7 := x7.obj
       refine qS ?_; repeat' (first | (with_reducible first | apply qH | apply qB) | ((first | (with_reducible apply qR) | (with_reducible first | apply qA | apply qP | apply qD | apply qE | apply qK) | ((with_reducible first | apply qQ | apply qI | apply qJ | apply qW | apply qX) <;> intro hb <;> (try simp only [hb]) <;> (try simp only [zF] at hb)) | with_reducible refine wA (id := 12) 10 17 11 17 zD xB zC xA zB zZ mixed (by kernel_rfl) (by kernel_rfl) (by kernel_rfl) (by kernel_rfl) ?_ ?_ ?_ | with_reducible refine qO zQ mixed (by kernel_rfl) ?_) <;> try simp only [qV, qF, qL, qN, qG, qC, qM, reduceIte, seval, Int.cast_ofNat_Int, qY, qZ, qU, zR, zT, zU, wB, zQ, zD, zC, zB, Bool.false_and, Bool.not_false, gNil, qT ho7 kV, qT ho7 kX, qT ho7 wL]))
       refine tF sW Try.underlying83 rfl (s0.trans ((s05.trans s6).trans s7)) x7.tm (src1 b7 rfl) rfl rfl (by omega) (by simp only [maxLen]; omega) fun vt h8 s08 fr8 ot8 => ?_
       have ho8 := tA fr8 ho7 (by simp)
       have m18 := tA fr8 (s7 _ _ (s6 _ _ (s5 _ _ m14))) (by simp)
       have ob8 := qM6 fr8 (Ne.symm net) x7.bat
       have b8 := fr8 _ _ (s7 _ _ b6) own1
       have hr8 : ∀ v l, RB h5 v l → RB h8 v l := fun v l r => qM5 fr8 ut ((r.hs s6).hs s7)
       have ho28 : ∀ g v n cs, OWNC 2 g h5 v n cs → OWNC 2 g h8 v n cs := fun g v n cs o => qZ9 fr8 ((o.hs s6).hs s7))
  all_goals
    refine qS ?_; repeat' (first | (with_reducible first | apply qH | apply qB) | ((first | (with_reducible apply qR) | (with_reducible first | apply qA | apply qP | apply qD | apply qE | apply qK) | ((with_reducible first | apply qQ | apply qI | apply qJ | apply qW | apply qX) <;> intro hb <;> (try simp only [hb]) <;> (try simp only [zF] at hb)) | with_reducible refine wA (id := 12) 10 17 11 17 zD xB zC xA zB zZ mixed (by kernel_rfl) (by kernel_rfl) (by kernel_rfl) (by kernel_rfl) ?_ ?_ ?_ | with_reducible refine qO zQ mixed (by kernel_rfl) ?_) <;> try simp only [qV, qF, qL, qN, qG, qC, qM, reduceIte, seval, Int.cast_ofNat_Int, qY, qZ, qU, zR, zT, zU, wB, zQ, zD, zC, zB, Bool.false_and, Bool.not_false, gNil, qT ho8 kV, qT ho8 kX, qT ho8 wL]))
    refine tF qR4 Try.underlying22 rfl s08 ob8 (src1 b8 rfl) rfl rfl (by omega) (by simp only [maxLen]; omega) fun vb h9 s9 fr9 ob9 => ?_
    have ho9 := tA fr9 ho8 (by simp)
    have m19 := tA fr9 m18 (by simp)
    have ot9 := qM6 fr9 net2 ot8
    refine qS ?_; repeat' (first | (with_reducible first | apply qH | apply qB) | ((first | (with_reducible apply qR) | (with_reducible first | apply qA | apply qP | apply qD | apply qE | apply qK) | ((with_reducible first | apply qQ | apply qI | apply qJ | apply qW | apply qX) <;> intro hb <;> (try simp only [hb]) <;> (try simp only [zF] at hb)) | with_reducible refine wA (id := 12) 10 17 11 17 zD xB zC xA zB zZ mixed (by kernel_rfl) (by kernel_rfl) (by kernel_rfl) (by kernel_rfl) ?_ ?_ ?_ | with_reducible refine qO zQ mixed (by kernel_rfl) ?_) <;> try simp only [qV, qF, qL, qN, qG, qC, qM, reduceIte, seval, Int.cast_ofNat_Int, qY, qZ, qU, zR, zT, zU, wB, zQ, zD, zC, zB, gNil, qT ho9 kV, qT ho9 kX, qT ho9 wL]))
    obtain ⟨at9, ct9, rfl⟩ := ot9.form
    obtain ⟨ab9, cb9, rfl⟩ := ob9.form
    refine vN ho9 kV rfl (by simp) rfl rfl fun h10 m10 f10 => ?_
    simp only [List.set_cons_succ, List.set_cons_zero] at m10
    refine qS ?_; repeat' (first | (with_reducible first | apply qH | apply qB) | ((first | (with_reducible apply qR) | (with_reducible first | apply qA | apply qP | apply qD | apply qE | apply qK) | ((with_reducible first | apply qQ | apply qI | apply qJ | apply qW | apply qX) <;> intro hb <;> (try simp only [hb]) <;> (try simp only [zF] at hb)) | with_reducible refine wA (id := 12) 10 17 11 17 zD xB zC xA zB zZ mixed (by kernel_rfl) (by kernel_rfl) (by kernel_rfl) (by kernel_rfl) ?_ ?_ ?_ | with_reducible refine qO zQ mixed (by kernel_rfl) ?_) <;> try simp only [qV, qF, qL, qN, qG, qC, qM, reduceIte, seval, Int.cast_ofNat_Int, qY, qZ, qU, zR, zT, zU, wB, zQ, zD, zC, zB, gNil, qT m10 kV, qT m10 kX, qT m10 wL]))
    refine vN m10 kX rfl (by simp) rfl rfl fun h11 m11 f11 => ?_
    simp only [List.set_cons_succ, List.set_cons_zero] at m11
    have hx : HX k h9 h11 := fun j B n e => ((f11 j n).trans (f10 j n)).trans e
    have hml : (M ++ [(ck, b)]).length = M.length + 1 := by simp
    have hrb : ∀ v l, RB h5 v l → RB h11 v l := fun v l r => (qM5 fr9 x.cu8 (hr8 v l r)).hx ho9 rfl hx
    have hown : ∀ v n cs, OWNC 2 H0 h5 v n cs → OWNC 2 H0 h11 v n cs := fun v n cs o => (qZ9 fr9 (ho28 H0 v n cs o)).hx ho9 (by simp) hx
    have epl : p.eps ≤ 256 := by
      have h8 : p.ht.toNat ≤ 8 := by omega
      unfold Pm.eps
      have : ∀ m, m ≤ 8 → IntKind.i64.wrap (1 * 2 ^ min m IntKind.i64.bits) ≤ 256 := by decide
      split <;> first | exact this _ h8 | omega
    have x11 : RM h0 h11 k p (.slice at9 (M.length + 1) ct9) (.slice ab9 (M.length + 1) cb9) (ts ++ [.int .i64 ck]) (cs ++ [.slice a5 b.length c5]) (M ++ [(ck, b)]) ck := by
      refine ⟨m11, x.nk, by rw [hml]; exact ot9.hx ho9 (by simp) hx, by rw [x.tms, List.map_append]; rfl, by rw [hml]; exact ob9.hx ho9 (by simp) hx, ?_, by rw [List.all_append, x.cu8]; rfl, ?_, by omega, by omega, ?_, ?_, x.may, ?_, ?_, ?_⟩
      · intro e y hy
        have hcl : cs.length = M.length := by have := x.bat.len; omega
        rcases Nat.lt_or_ge e M.length with hlt | hge
        · rw [List.getElem?_append_left hlt] at hy
          obtain ⟨v, z1, z2⟩ := x5.bats e y hy
          exact ⟨v, by rw [List.getElem?_append_left (by omega)]; exact z1, z2.by hown hrb⟩
        · rw [List.getElem?_append_right hge] at hy
          have he : e = M.length := by
            have := (List.getElem?_eq_some_iff.1 hy).1
            simp at this; omega
          subst he
          simp at hy
          subst hy
          exact ⟨.slice a5 b.length c5, by rw [List.getElem?_append_right (by omega), hcl]; simp, Bat.by ⟨ds, o5.weak (H0.hs _), r5⟩ hown hrb⟩
      · intro y hy
        rcases List.mem_append.1 hy with hy | hy
        · exact x.bl y hy
        · obtain rfl := List.mem_singleton.1 hy
          exact ⟨hbs, hb32⟩
      · rw [qB0 (by omega)]; exact x.z0
      · rw [List.map_append]
        have : gZ (M.map (·.2) ++ [b]) = gZ (M.map (·.2)) + b.length := by unfold gZ; simp
        rw [show ([(ck, b)] : List (Int × List Bnd)).map (·.2) = [b] from rfl, this]
        omega
      · rw [List.pairwise_append]
        exact ⟨x.ri, List.pairwise_singleton _ _, fun a ha c hc => by obtain rfl := List.mem_singleton.1 hc; exact x.rc a ha⟩
      · intro y hy
        rcases List.mem_append.1 hy with hy | hy
        · exact x.rc y hy
        · obtain rfl := List.mem_singleton.1 hy
          exact Int.le_refl _
      · intro y hy
        rcases List.mem_append.1 hy with hy | hy
        · exact x.di y hy
        · obtain rfl := List.mem_singleton.1 hy
          exact .inr hchk
    have m111 := (hx _ _ k1k m19)
    have hlast : (((M ++ [(ck, b)]).length - 1 : Nat) : Int) = (M.length : Int) := by rw [hml]; omega
    refine qS ?_; repeat' (first | (with_reducible first | apply qH | apply qB) | ((first | (with_reducible apply qR) | (with_reducible first | apply qA | apply qP | apply qD | apply qE | apply qK) | ((with_reducible first | apply qQ | apply qI | apply qJ | apply qW | apply qX) <;> intro hb <;> (try simp only [hb]) <;> (try simp only [zF] at hb)) | with_reducible refine wA (id := 12) 10 17 11 17 zD xB zC xA zB zZ mixed (by kernel_rfl) (by kernel_rfl) (by kernel_rfl) (by kernel_rfl) ?_ ?_ ?_ | with_reducible refine qO zQ mixed (by kernel_rfl) ?_ | ((refine GTri.mono (tD _ x11) ?_); rintro _ _ ⟨rfl, hh9⟩; replace hh9 := hh9.symm; subst hh9)) <;> try simp only [qV, qF, qL, qN, qG, qC, qM, reduceIte, seval, Int.cast_ofNat_Int, qY, qZ, qU, zR, zT, zU, wB, zQ, zD, zC, zB, hlast, xL, xT, vB, Shape.pl, List.all_cons, List.all_nil, zA]))
    refine zM m111 xG rfl (by decide) rfl rfl rfl fun h12 m12' f12 => ?_
    refine qS ?_; repeat' (first | (with_reducible first | apply qH | apply qB) | ((first | (with_reducible apply qR) | (with_reducible first | apply qA | apply qP | apply qD | apply qE | apply qK) | ((with_reducible first | apply qQ | apply qI | apply qJ | apply qW | apply qX) <;> intro hb <;> (try simp only [hb]) <;> (try simp only [zF] at hb)) | with_reducible refine wA (id := 12) 10 17 11 17 zD xB zC xA zB zZ mixed (by kernel_rfl) (by kernel_rfl) (by kernel_rfl) (by kernel_rfl) ?_ ?_ ?_ | with_reducible refine qO zQ mixed (by kernel_rfl) ?_) <;> try simp only [qV, qF, qL, qN, qG, qC, qM, reduceIte, seval, Int.cast_ofNat_Int, qY, qZ, qU, zR, zT, zU, wB, zQ, zD, zC, zB, zI m12' xG rfl]))
    have s011 : HS h0 h11 := s9.upd x.nk fun j hj => (f11 j hj).trans (f10 j hj)
    refine ⟨rfl, s011.upd (s0.none_of n1) f12, fun v l r => ?_, .inr ⟨_, _, _, _, x11.oth m111 rfl rfl f12 k1k⟩⟩
    exact (hrb v l (r.hs s05)).hx m111 rfl fun j B n e => (f12 j n).trans e
end
section
variable {h0 h : GH} {k : Nat} {p : Pm} {tv bv : Value} {ts cs : List Value} {M : List (Int × List Bnd)} {ck : Int}
theorem RM.base {hb : GH} (x : RM h0 h k p tv bv ts cs M ck) (f : ∀ i, h i ≠ none → h0 i = none → hb i = none) : RM hb h k p tv bv ts cs M ck :=
  have g : ∀ i B, h i = some B → h0 i = none → h i = some B ∧ hb i = none := fun i B e n => ⟨e, f i (by rw [e]; simp) n⟩
  ⟨x.obj, f k (by rw [x.obj]; simp) x.nk, x.tm.by g, x.tms, x.bat.by g, x.bats, x.cu8, x.bl, x.len, x.pos, x.z0, x.tt, x.may, x.ri, x.rc, x.di⟩
theorem RM.weak {ha : GH} (x : RM h0 h k p tv bv ts cs M ck) (s : HS ha h0) : RM ha h k p tv bv ts cs M ck :=
  ⟨x.obj, s.none_of x.nk, x.tm.weak s, x.tms, x.bat.weak s, x.bats, x.cu8, x.bl, x.len, x.pos, x.z0, x.tt, x.may, x.ri, x.rc, x.di⟩
theorem RM.new {h2 : GH} (x : RM h0 h k p tv bv ts cs M ck) (t : HS h h2) : RM (hN h0 h h2) h2 k p tv bv ts cs M ck :=
  (x.base (hb := hN h0 h h2) fun i hi h0i => by
    unfold hN
    cases e : h i with
    | none => exact absurd e hi
    | some B => exact h0i).hs t
theorem RM.only (x : RM h0 h k p tv bv ts cs M ck) : ∃ tb bb t1 t2, h tb = some ⟨ts, 1, true, t1⟩ ∧ h bb = some ⟨cs, 1, true, t2⟩ ∧ h0 tb = none ∧ h0 bb = none ∧ RM (fF [k, tb, bb] h) h k p tv bv ts cs M ck := by
  obtain ⟨tb, ct, t1, q1, q2, q3, q4, q5, q6⟩ := x.tm
  obtain ⟨bb, cb, t2, r1, r2, r3, r4, r5, r6⟩ := x.bat
  exact ⟨tb, bb, t1, t2, q4, r4, q5, r5, x.obj, by simp [fF], ⟨tb, ct, t1, q1, q2, q3, q4, by simp [fF], q6⟩, x.tms, ⟨bb, cb, t2, r1, r2, r3, r4, by simp [fF], r6⟩, x.bats, x.cu8, x.bl, x.len, x.pos, x.z0, x.tt, x.may, x.ri, x.rc, x.di⟩
end
section
variable {hs h hr : GH} {k j kr : Nat} {p p' : Pm} {ew tv bv : Value} {cs l ts bs : List Value} {M M' : List (Int × List Bnd)} {ck ck' : Int} {n : Nat}
theorem RM.keep (x : IM hs h k j p ew cs l M ck n) {kb : Nat} {tl : Bool} (hkb : h kb = some ⟨cs, 2, true, tl⟩) (y : RM hr h kr p' tv bv ts bs M' ck') {h' : GH} (s : HS (fF [k, j + 1, kb] h) h') : RM hr h' kr p' tv bv ts bs M' ck' := by
  have mf : MF h h' := (IS.off x hkb).trans (MF.of s)
  have hk : kr ∉ [k, j + 1, kb] := fun hm => by
    have ho := y.obj
    simp only [List.mem_cons, List.not_mem_nil, or_false] at hm
    rcases hm with rfl | rfl | rfl
    · rw [x.obj] at ho; simp at ho
    · rw [x.mp] at ho; simp [MM] at ho
    · rw [hkb] at ho; simp at ho
  exact ⟨s _ _ (dO y.obj hk), y.nk, y.tm.mf1 mf, y.tms, y.bat.mf1 mf, fun e b hb => by obtain ⟨v, h1, h2⟩ := y.bats e b hb; exact ⟨v, h1, h2.mf mf⟩, y.cu8, y.bl, y.len, y.pos, y.z0, y.tt, y.may, y.ri, y.rc, y.di⟩
theorem IS.keepR (x : IM hs h k j p ew cs l M ck n) (y : RM hr h kr p' tv bv ts bs M' ck') {tb bb : Nat} {t1 t2 : Bool} (ht : h tb = some ⟨ts, 1, true, t1⟩) (hb : h bb = some ⟨bs, 1, true, t2⟩) (m0 : M[0]? = some (0, [])) (m0' : M'[0]? = some (0, [])) {h' : GH} (s : HS (fF [kr, tb, bb] h) h') : IM hs h' k j p ew cs l M ck n := by
  have t0 : ts[0]? = some (.int .i64 0) := by rw [y.tms, List.getElem?_map, m0']; rfl
  obtain ⟨bv0, b0, bt0⟩ := y.bats 0 _ m0'
  obtain ⟨ba, bc, rfl, _⟩ := bt0.rl.form
  have ut : ts.all wX = true := by
    rw [y.tms, List.all_eq_true]
    intro v hv
    obtain ⟨y, _, rfl⟩ := List.mem_map.1 hv
    rfl
  have go : ∀ i B, h i = some B → B.es ≠ 1 → i ≠ kr → h' i = some B := fun i B e n1 n2 => s _ _ (dO e fun hm => by
    simp only [List.mem_cons, List.not_mem_nil, or_false] at hm
    rcases hm with rfl | rfl | rfl
    · exact n2 rfl
    · rw [ht] at e; cases e; exact n1 rfl
    · rw [hb] at e; cases e; exact n1 rfl)
  have mu : MU h h' := fun i B e hu => s _ _ (dO e fun hm => by
    simp only [List.mem_cons, List.not_mem_nil, or_false] at hm
    rcases hm with rfl | rfl | rfl
    · rw [y.obj] at e
      cases e
      obtain ⟨_, _, e1⟩ := y.tm.form
      obtain ⟨_, _, e2⟩ := y.bat.form
      rw [e1, e2] at hu
      simp [wX] at hu
    · rw [ht] at e; cases e; rw [ut] at hu; cases hu
    · rw [hb] at e; cases e; rw [y.cu8] at hu; cases hu)
  have kr1 : k ≠ kr := fun q => by
    have := x.obj
    rw [q, y.obj] at this; simp at this
  have kr2 : j + 1 ≠ kr := fun q => by
    have := x.mp
    rw [q, y.obj] at this; simp [MM] at this
  obtain ⟨kb, c, tl, g1, g2, g3, g4, g5, g6⟩ := x.ep
  have kr3 : kb ≠ kr := fun q => by rw [q, y.obj] at g4; simp at g4
  refine ⟨go _ _ x.obj (by simp) kr1, x.nk, go _ _ x.mp (by simp) kr2, x.nj, x.ok, x.u8, ⟨kb, c, tl, g1, g2, g3, go _ _ g4 (by simp) kr3, g5, g6⟩, fun e b hb' => ?_, fun id => ?_, x.cu8, x.bl, x.len, x.tt, x.nch, x.may, x.ks⟩
  · obtain ⟨v, h1, ds, o, r⟩ := x.eps e b hb'
    refine ⟨v, h1, ds, ?_, fun i q hq => ?_⟩
    · rcases o with o | o | ⟨kk, c', h1, h2, h3, h4, h5, h6, h7⟩
      · exact .inl o
      · exact .inr (.inl o)
      · exact .inr (.inr ⟨kk, c', h1, h2, h3, h4, h5, go _ _ h6 (by simp) (fun q => by rw [q, y.obj] at h6; simp at h6), h7⟩)
    · obtain ⟨a, n, c, b, m, d, e, r1, r2⟩ := r i q hq
      exact ⟨a, n, c, b, m, d, e, r1.mu mu, r2.mu mu⟩
  · rcases x.sp id with o | o | ⟨kk, c', h1, h2, h3, h4, h5, h6, h7⟩
    · exact .inl o
    · exact .inr (.inl o)
    · refine .inr (.inr ⟨kk, c', h1, h2, h3, h4, h5, s _ _ (dO h6 fun hm => ?_), h7⟩)
      obtain ⟨pp, hpp⟩ := vC (show 0 < (uZ 0 (M.map (·.2)) id).length by omega)
      have hf : (qS6 (uZ 0 (M.map (·.2)) id))[0]? = some (.int .i64 (pp.1 : Int)) := by unfold qS6; rw [List.getElem?_map, hpp]; rfl
      have hp1 : pp.1 ≠ 0 := fun q => by
        obtain ⟨_, _, b, e1, e2, _⟩ := jS (List.mem_of_getElem? hpp)
        rw [q, Nat.sub_zero, List.getElem?_map, m0] at e1
        cases e1
        simp at e2
      simp only [List.mem_cons, List.not_mem_nil, or_false] at hm
      rcases hm with rfl | rfl | rfl
      · rw [y.obj] at h6; simp at h6
      · rw [ht] at h6
        cases h6
        rw [t0] at hf
        simp only [Option.some.injEq, Value.int.injEq, true_and] at hf
        omega
      · rw [hb] at h6
        cases h6
        rw [b0] at hf
        cases hf
end
theorem xP : type_of% (And.intro gY (And.intro wT (And.intro wN (And.intro yX (And.intro yB (And.intro uN (And.intro yW (And.intro wM (And.intro yV (And.intro jZ (And.intro uM (And.intro yL (And.intro wZ (And.intro uP (And.intro jV (And.intro dZ rs38)))))))))))))))) := And.intro gY (And.intro wT (And.intro wN (And.intro yX (And.intro yB (And.intro uN (And.intro yW (And.intro wM (And.intro yV (And.intro jZ (And.intro uM (And.intro yL (And.intro wZ (And.intro uP (And.intro jV (And.intro dZ rs38)))))))))))))))
def zL : Nat → List (Nat × List Nat) × List Nat
  | 8 => ([(0, []), (1, []), (2, []), (3, []), (4, []), (5, []), (6, []), (7, []), (8, []), (9, []), (10, [])], [0, 0, 2, 6, 14, 0, 32, 126, 255, 511, 1023])
  | _ => ([], [])
def StepR (p : Pm) (M : List (Int × List Bnd)) (ck : Int) (q : Ak) (A : An) (M' : List (Int × List Bnd)) (ck' : Int) : Prop :=
  if q.kd = 1 then A = { code := kH p M.length (gZ (M.map (·.2))) q.b, ep := if kH p M.length (gZ (M.map (·.2))) q.b = 0 then (M.length : Int) else 0 } ∧ M' = (if kH p M.length (gZ (M.map (·.2))) q.b = 0 then M ++ [(ck, q.b)] else M) ∧ ck' = ck
  else if q.kd = 2 then (if q.tm < 0 ∨ q.tm > 1125899906842624 then A = { code := 1 } ∧ ck' = ck else A = {} ∧ ck' = max ck q.tm) ∧ M' = M
  else AnsR p M q A ∧ M' = M ∧ ck' = ck
theorem AnsR.uniq {p : Pm} {M : List (Int × List Bnd)} {q : Ak} {A A' : An} (h1 : AnsR p M q A) (h2 : AnsR p M q A') : A' = A := by
  by_cases hw : xQ (kA q.kd) (kY q.kd) p M.length q = 0
  · have := sZ hw
    exact AnsR.ext (E := []) this.2.1 this.2.2.1 h1 (by rw [List.append_nil]; exact h2)
  · unfold AnsR at h1 h2
    rw [if_pos (show xQ (kA q.kd) (kY q.kd) p M.length q ≠ 0 from hw)] at h1 h2
    split at h1
    · rename_i c; rw [if_pos c] at h2; rw [h1, h2]
    · rename_i c
      rw [if_neg c] at h2
      split at h1
      · rename_i c; rw [if_pos c] at h2; rw [h1, h2]
      · rename_i c; rw [if_neg c] at h2; rw [h1, h2]
theorem StepR.uniq {p : Pm} {M M1 M2 : List (Int × List Bnd)} {ck c1 c2 : Int} {q : Ak} {A1 A2 : An} (h1 : StepR p M ck q A1 M1 c1) (h2 : StepR p M ck q A2 M2 c2) : A2 = A1 ∧ M2 = M1 ∧ c2 = c1 := by
  unfold StepR at h1 h2
  split at h1
  · rename_i c
    rw [if_pos c] at h2
    obtain ⟨a, b, d⟩ := h1
    obtain ⟨a', b', d'⟩ := h2
    exact ⟨by rw [a, a'], by rw [b, b'], by rw [d, d']⟩
  rename_i c
  rw [if_neg c] at h2
  split at h1
  · rename_i c
    rw [if_pos c] at h2
    obtain ⟨a, b⟩ := h1
    obtain ⟨a', b'⟩ := h2
    split at a
    · rename_i c; rw [if_pos c] at a'; exact ⟨by rw [a.1, a'.1], by rw [b, b'], by rw [a.2, a'.2]⟩
    · rename_i c; rw [if_neg c] at a'; exact ⟨by rw [a.1, a'.1], by rw [b, b'], by rw [a.2, a'.2]⟩
  · rename_i c
    rw [if_neg c] at h2
    obtain ⟨a, b, d⟩ := h1
    obtain ⟨a', b', d'⟩ := h2
    exact ⟨AnsR.uniq a a', by rw [b, b'], by rw [d, d']⟩
theorem asofA_sm (M : List (Int × List Bnd)) (id : List UInt8) (t : Int) : (vZ M id t).sm = false := by unfold vZ; split <;> rfl
theorem RAn.put {h h' : GH} {k : Nat} {B : GB} {v : Value} {A : An} (r : RAn h v A) (m : h k = some B) (he : B.es = 0) (hw : B.wr = true) (hu : B.cells.all wX = true) (f : ∀ j, j ≠ k → h' j = h j) : RAn h' v A := by
  obtain ⟨a, b, c, d, e, f', rfl, t1, t2, t3⟩ := r
  have hx : HX k h h' := fun j B n e => (f j n).trans e
  refine ⟨a, b, c, d, e, f', rfl, t1.hx m hu hx, t2.hxR m ⟨he, hw⟩ hx fun cs y r => ?_, t3.hxR m ⟨he, hw⟩ hx fun cs y r => ?_⟩
  · obtain ⟨a, c, b, d, e, r1, r2⟩ := r
    exact ⟨a, c, b, d, e, r1.hx m hu hx, r2.hx m hu hx⟩
  · obtain ⟨a, c, b, d, e, r1, r2⟩ := r
    exact ⟨a, c, b, d, e, r1.hx m hu hx, r2.hx m hu hx⟩
section
variable {h0 h : GH} {k : Nat} {p : Pm} {tv bv : Value} {ts cs : List Value} {M : List (Int × List Bnd)} {ck : Int}
def RDoP (h0 : GH) (k : Nat) (p : Pm) (M : List (Int × List Bnd)) (ck : Int) (q : Ak) (v : Value) (h' : GH) : Prop :=
  ∃ A M' ck' tv' bv' ts' cs', StepR p M ck q A M' ck' ∧ RAn h' v A ∧ HS h0 h' ∧ RM h0 h' k p tv' bv' ts' cs' M' ck'
theorem c_rDo (N : Nat) (s0 : HS h0 h) (x : RM h0 h k p tv bv ts cs M ck) {a d : Option Addr} {c g : Nat} (q : Ak) (hqe : (Lit.int .i64 q.ep).wf = true) (r : RB h (.slice a q.id.length c) q.id) (hid : q.id.length ≤ 140737488355328) (rb : RL 2 Bd h (.slice d q.b.length g) q.b) (hb : q.b.length ≤ 140737488355328) :
    GTri Try.prog N 38 [.pointer (some ⟨k, 0, none⟩), .agg #[.int .i64 q.kd, .slice a q.id.length c, .int .i64 q.fr, .int .i64 q.to, .int .i64 q.tm, .bool q.sm, .int .i64 q.ep, .int .i64 q.ix, .int .i64 q.lm, .slice d q.b.length g]] h fun v h' => RDoP h0 k p M ck q v h' := by
  refine wQ Try.func38 rfl gf38 ok38 (by simp [Try.ntmps38]) ?_
  repeat' (first | (with_reducible first | apply qH | apply qB) | ((first | (with_reducible first | apply qA | apply qP | apply qD | apply qE | apply qK) | ((with_reducible first | apply qQ | apply qI | apply qJ | apply qW | apply qX) <;> intro hb <;> (try simp only [hb]) <;> (try simp only [zF] at hb)) | with_reducible refine qO zL mixed (by kernel_rfl) ?_) <;> try simp only [qV, qF, qL, qN, qG, qC, qM, reduceIte, seval, Int.cast_ofNat_Int, qY, qZ, qU, zR, zT, zU, xP, zL]))
  refine wY rfl fun k1 h1 m1 s1 f1 n1 => ?_
  refine qS ?_; repeat' (first | (with_reducible first | apply qH | apply qB) | ((first | (with_reducible apply qR) | (with_reducible first | apply qA | apply qP | apply qD | apply qE | apply qK) | ((with_reducible first | apply qQ | apply qI | apply qJ | apply qW | apply qX) <;> intro hb <;> (try simp only [hb]) <;> (try simp only [zF] at hb)) | with_reducible refine qO zL mixed (by kernel_rfl) ?_) <;> try simp only [qV, qF, qL, qN, qG, qC, qM, reduceIte, seval, Int.cast_ofNat_Int, qY, qZ, qU, zR, zT, zU, xP, zL]))
  refine xW fun k2 h2 m2 s2 f2 n2 => ?_
  replace m1 := s2 _ _ m1
  have s12 := s1.trans s2
  have n2' := s1.none_of n2
  have x2 := x.hs s12
  have ho2 := x2.obj
  have k2k : k2 ≠ k := fun q => by subst q; rw [x.obj] at n2'; cases n2'
  have pure : ∀ {h3 h4 : GH} {v : Value} {A : An}, HS h2 h3 → StepR p M ck q A M ck → RAn h3 v A → (∀ j, j ≠ k2 → h4 j = h3 j) → RDoP h0 k p M ck q v h4 := fun {h3 h4 v A} s3 st r3 f4 => by
    have m23 := s3 _ _ m2
    exact ⟨A, M, ck, tv, bv, ts, cs, st, r3.put m23 rfl rfl rfl f4, (s0.trans (s12.trans s3)).upd (s0.none_of n2') f4, (x.hs (s12.trans s3)).oth m23 rfl rfl f4 k2k⟩
  by_cases k1' : q.kd = 1
  · have e1 : (q.kd == 1) = true := by simpa using k1'
    refine qS ?_; repeat' (first | (with_reducible first | apply qH | apply qB) | ((first | (with_reducible apply qR) | (with_reducible first | apply qA | apply qP | apply qD | apply qE | apply qK) | ((with_reducible first | apply qQ | apply qI | apply qJ | apply qW | apply qX) <;> intro hb <;> (try simp only [hb]) <;> (try simp only [zF] at hb)) | with_reducible refine qO zL mixed (by kernel_rfl) ?_) <;> try simp only [qV, qF, qL, qN, qG, qC, qM, reduceIte, seval, Int.cast_ofNat_Int, qY, qZ, qU, zR, zT, zU, xP, zL, e1, qT m1 wL, qT m1 jX]))
    refine (qW9 N (qO9 s0 s12) (x.new s12) (rb.bs s12) hb).mono ?_
    rintro _ h3 ⟨rfl, s3, _, r3⟩
    have m23 : h3 k2 = _ := s3 _ _ ((pD n2').trans m2)
    have s03 := (rD s0).trans s3
    refine qS ?_; repeat' (first | (with_reducible first | apply qH | apply qB) | ((first | (with_reducible apply qR) | (with_reducible first | apply qA | apply qP | apply qD | apply qE | apply qK) | ((with_reducible first | apply qQ | apply qI | apply qJ | apply qW | apply qX) <;> intro hb <;> (try simp only [hb]) <;> (try simp only [zF] at hb)) | with_reducible refine qO zL mixed (by kernel_rfl) ?_) <;> try simp only [qV, qF, qL, qN, qG, qC, qM, reduceIte, seval, Int.cast_ofNat_Int, qY, qZ, qU, zR, zT, zU, xP, zL]))
    refine zM m23 xG rfl (by decide) rfl rfl rfl fun h4 m4 f4 => ?_
    refine qS ?_; repeat' (first | (with_reducible first | apply qH | apply qB) | ((first | (with_reducible apply qR) | (with_reducible first | apply qA | apply qP | apply qD | apply qE | apply qK) | ((with_reducible first | apply qQ | apply qI | apply qJ | apply qW | apply qX) <;> intro hb <;> (try simp only [hb]) <;> (try simp only [zF] at hb)) | with_reducible refine qO zL mixed (by kernel_rfl) ?_) <;> try simp only [qV, qF, qL, qN, qG, qC, qM, reduceIte, seval, Int.cast_ofNat_Int, qY, qZ, qU, zR, zT, zU, xP, zL, zI m4 xG rfl]))
    have st : ∀ M', M' = (if kH p M.length (gZ (M.map (·.2))) q.b = 0 then M ++ [(ck, q.b)] else M) → StepR p M ck q { code := kH p M.length (gZ (M.map (·.2))) q.b, ep := if kH p M.length (gZ (M.map (·.2))) q.b = 0 then (M.length : Int) else 0 } M' ck := fun M' e => by
      unfold StepR
      rw [if_pos k1']
      exact ⟨rfl, e, rfl⟩
    rcases r3 with ⟨e, y⟩ | ⟨e, tv', bv', ts', cs', y⟩
    · exact ⟨_, M, ck, _, _, _, _, st M (by rw [if_neg e]), RAn.zero h4 _ _, s03.upd (s0.none_of n2') f4, (y.weak (rD s0)).oth m23 rfl rfl f4 k2k⟩
    · exact ⟨_, _, ck, _, _, _, _, st _ (by rw [if_pos e]), RAn.zero h4 _ _, s03.upd (s0.none_of n2') f4, (y.weak (rD s0)).oth m23 rfl rfl f4 k2k⟩
  have e1 : (q.kd == 1) = false := by simpa using k1'
  by_cases k2' : q.kd = 2
  · have e2 : (q.kd == 2) = true := by simpa using k2'
    by_cases hbad : q.tm < 0 ∨ q.tm > 1125899906842624
    · have st : StepR p M ck q { code := 1 } M ck := by
        unfold StepR
        rw [if_neg k1', if_pos k2', if_pos hbad]
        exact ⟨⟨rfl, rfl⟩, rfl⟩
      by_cases hn : q.tm < 0
      · have d1 : decide (q.tm < 0) = true := decide_eq_true hn
        refine qS ?_; repeat' (first | (with_reducible first | apply qH | apply qB) | ((first | (with_reducible apply qR) | (with_reducible first | apply qA | apply qP | apply qD | apply qE | apply qK) | ((with_reducible first | apply qQ | apply qI | apply qJ | apply qW | apply qX) <;> intro hb <;> (try simp only [hb]) <;> (try simp only [zF] at hb)) | with_reducible refine qO zL mixed (by kernel_rfl) ?_) <;> try simp only [qV, qF, qL, qN, qG, qC, qM, reduceIte, seval, Int.cast_ofNat_Int, qY, qZ, qU, zR, zT, zU, xP, zL, e1, e2, d1, gPick, qT m1 wL, xL, xT, vB, Shape.pl, List.all_cons, List.all_nil, zA]))
        refine zM m2 xG rfl (by decide) rfl rfl rfl fun h4 m4 f4 => ?_
        refine qS ?_; repeat' (first | (with_reducible first | apply qH | apply qB) | ((first | (with_reducible apply qR) | (with_reducible first | apply qA | apply qP | apply qD | apply qE | apply qK) | ((with_reducible first | apply qQ | apply qI | apply qJ | apply qW | apply qX) <;> intro hb <;> (try simp only [hb]) <;> (try simp only [zF] at hb)) | with_reducible refine qO zL mixed (by kernel_rfl) ?_) <;> try simp only [qV, qF, qL, qN, qG, qC, qM, reduceIte, seval, Int.cast_ofNat_Int, qY, qZ, qU, zR, zT, zU, xP, zL, zI m4 xG rfl]))
        exact pure (HS.refl _) st (RAn.zero h2 1 0) f4
      · have d1 : decide (q.tm < 0) = false := decide_eq_false hn
        have d2 : decide (q.tm > 1125899906842624) = true := decide_eq_true (by omega)
        refine qS ?_; repeat' (first | (with_reducible first | apply qH | apply qB) | ((first | (with_reducible apply qR) | (with_reducible first | apply qA | apply qP | apply qD | apply qE | apply qK) | ((with_reducible first | apply qQ | apply qI | apply qJ | apply qW | apply qX) <;> intro hb <;> (try simp only [hb]) <;> (try simp only [zF] at hb)) | with_reducible refine qO zL mixed (by kernel_rfl) ?_) <;> try simp only [qV, qF, qL, qN, qG, qC, qM, reduceIte, seval, Int.cast_ofNat_Int, qY, qZ, qU, zR, zT, zU, xP, zL, e1, e2, d1, d2, gPick, qT m1 wL, xL, xT, vB, Shape.pl, List.all_cons, List.all_nil, zA]))
        refine zM m2 xG rfl (by decide) rfl rfl rfl fun h4 m4 f4 => ?_
        refine qS ?_; repeat' (first | (with_reducible first | apply qH | apply qB) | ((first | (with_reducible apply qR) | (with_reducible first | apply qA | apply qP | apply qD | apply qE | apply qK) | ((with_reducible first | apply qQ | apply qI | apply qJ | apply qW | apply qX) <;> intro hb <;> (try simp only [hb]) <;> (try simp only [zF] at hb)) | with_reducible refine qO zL mixed (by kernel_rfl) ?_) <;> try simp only [qV, qF, qL, qN, qG, qC, qM, reduceIte, seval, Int.cast_ofNat_Int, qY, qZ, qU, zR, zT, zU, xP, zL, zI m4 xG rfl]))
        exact pure (HS.refl _) st (RAn.zero h2 1 0) f4
    have d1 : decide (q.tm < 0) = false := decide_eq_false (by omega)
    have d2 : decide (q.tm > 1125899906842624) = false := decide_eq_false (by omega)
    have mx : (if q.tm > ck then q.tm else ck) = max ck q.tm := by omega
    obtain ⟨at0, ct0, et⟩ := x.tm.form
    obtain ⟨ab0, cb0, eb⟩ := x.bat.form
    subst et
    subst eb
    refine qS ?_; repeat' (first | (with_reducible first | apply qH | apply qB) | ((first | (with_reducible apply qR) | (with_reducible first | apply qA | apply qP | apply qD | apply qE | apply qK) | ((with_reducible first | apply qQ | apply qI | apply qJ | apply qW | apply qX) <;> intro hb <;> (try simp only [hb]) <;> (try simp only [zF] at hb)) | with_reducible refine qO zL mixed (by kernel_rfl) ?_) <;> try simp only [qV, qF, qL, qN, qG, qC, qM, reduceIte, seval, Int.cast_ofNat_Int, qY, qZ, qU, zR, zT, zU, xP, zL, e1, e2, d1, d2, mx, gNil, gPick, qT ho2 wL, qT m1 wL, xL, xT, vB, Shape.pl, List.all_cons, List.all_nil, zA]))
    refine vN ho2 wL rfl (by simp) rfl rfl fun h3 m3 f3 => ?_
    simp only [List.set_cons_succ, List.set_cons_zero] at m3
    have m23 := (f3 k2 k2k).trans m2
    refine qS ?_; repeat' (first | (with_reducible first | apply qH | apply qB) | ((first | (with_reducible apply qR) | (with_reducible first | apply qA | apply qP | apply qD | apply qE | apply qK) | ((with_reducible first | apply qQ | apply qI | apply qJ | apply qW | apply qX) <;> intro hb <;> (try simp only [hb]) <;> (try simp only [zF] at hb)) | with_reducible refine qO zL mixed (by kernel_rfl) ?_) <;> try simp only [qV, qF, qL, qN, qG, qC, qM, reduceIte, seval, Int.cast_ofNat_Int, qY, qZ, qU, zR, zT, zU, xP, zL, xL, xT, vB, Shape.pl, List.all_cons, List.all_nil, zA]))
    refine zM m23 xG rfl (by decide) rfl rfl rfl fun h4 m4 f4 => ?_
    refine qS ?_; repeat' (first | (with_reducible first | apply qH | apply qB) | ((first | (with_reducible apply qR) | (with_reducible first | apply qA | apply qP | apply qD | apply qE | apply qK) | ((with_reducible first | apply qQ | apply qI | apply qJ | apply qW | apply qX) <;> intro hb <;> (try simp only [hb]) <;> (try simp only [zF] at hb)) | with_reducible refine qO zL mixed (by kernel_rfl) ?_) <;> try simp only [qV, qF, qL, qN, qG, qC, qM, reduceIte, seval, Int.cast_ofNat_Int, qY, qZ, qU, zR, zT, zU, xP, zL, zI m4 xG rfl]))
    have mf : MF h2 h3 := MF.upd ho2 rfl rfl f3
    have hx : HX k h2 h3 := fun i B q e => (f3 i q).trans e
    have x3 : RM h0 h3 k p (.slice at0 M.length ct0) (.slice ab0 M.length cb0) ts cs M (max ck q.tm) :=
      ⟨m3, x.nk, x2.tm.hx ho2 (by simp) hx, x.tms, x2.bat.hx ho2 (by simp) hx, fun e b hb => by obtain ⟨v, h1, h2⟩ := x2.bats e b hb; exact ⟨v, h1, h2.mf mf⟩, x.cu8, x.bl, x.len, x.pos, x.z0, x.tt, x.may, x.ri, fun y hy => by have := x.rc y hy; omega, x.di⟩
    refine ⟨{}, M, max ck q.tm, _, _, _, _, ?_, RAn.zero h4 0 0, ((s0.trans s12).upd x.nk f3).upd (s0.none_of n2') f4, x3.oth m23 rfl rfl f4 k2k⟩
    unfold StepR
    rw [if_neg k1', if_pos k2', if_neg hbad]
    exact ⟨⟨rfl, rfl⟩, rfl⟩
  have e2 : (q.kd == 2) = false := by simpa using k2'
  have stA : ∀ {A : An}, AnsR p M q A → StepR p M ck q A M ck := fun {A} hA => by
    unfold StepR
    rw [if_neg k1', if_neg k2']
    exact ⟨hA, rfl, rfl⟩
  by_cases k89 : q.kd = 8 ∨ q.kd = 9
  · have hA : AnsR p M q {} := by unfold AnsR; rw [if_pos k89]
    by_cases k8 : q.kd = 8
    · have e8 : (q.kd == 8) = true := by simpa using k8
      refine qS ?_; repeat' (first | (with_reducible first | apply qH | apply qB) | ((first | (with_reducible apply qR) | (with_reducible first | apply qA | apply qP | apply qD | apply qE | apply qK) | ((with_reducible first | apply qQ | apply qI | apply qJ | apply qW | apply qX) <;> intro hb <;> (try simp only [hb]) <;> (try simp only [zF] at hb)) | with_reducible refine qO zL mixed (by kernel_rfl) ?_) <;> try simp only [qV, qF, qL, qN, qG, qC, qM, reduceIte, seval, Int.cast_ofNat_Int, qY, qZ, qU, zR, zT, zU, xP, zL, e1, e2, e8, qT m1 wL, xL, xT, vB, Shape.pl, List.all_cons, List.all_nil, zA]))
      refine zM m2 xG rfl (by decide) rfl rfl rfl fun h4 m4 f4 => ?_
      refine qS ?_; repeat' (first | (with_reducible first | apply qH | apply qB) | ((first | (with_reducible apply qR) | (with_reducible first | apply qA | apply qP | apply qD | apply qE | apply qK) | ((with_reducible first | apply qQ | apply qI | apply qJ | apply qW | apply qX) <;> intro hb <;> (try simp only [hb]) <;> (try simp only [zF] at hb)) | with_reducible refine qO zL mixed (by kernel_rfl) ?_) <;> try simp only [qV, qF, qL, qN, qG, qC, qM, reduceIte, seval, Int.cast_ofNat_Int, qY, qZ, qU, zR, zT, zU, xP, zL, zI m4 xG rfl]))
      exact pure (HS.refl _) (stA hA) (RAn.zero h2 0 0) f4
    · have e8 : (q.kd == 8) = false := by simpa using k8
      have e9 : (q.kd == 9) = true := by simpa using k89.resolve_left k8
      refine qS ?_; repeat' (first | (with_reducible first | apply qH | apply qB) | ((first | (with_reducible apply qR) | (with_reducible first | apply qA | apply qP | apply qD | apply qE | apply qK) | ((with_reducible first | apply qQ | apply qI | apply qJ | apply qW | apply qX) <;> intro hb <;> (try simp only [hb]) <;> (try simp only [zF] at hb)) | with_reducible refine qO zL mixed (by kernel_rfl) ?_) <;> try simp only [qV, qF, qL, qN, qG, qC, qM, reduceIte, seval, Int.cast_ofNat_Int, qY, qZ, qU, zR, zT, zU, xP, zL, e1, e2, e8, e9, qT m1 wL, xL, xT, vB, Shape.pl, List.all_cons, List.all_nil, zA]))
      refine zM m2 xG rfl (by decide) rfl rfl rfl fun h4 m4 f4 => ?_
      refine qS ?_; repeat' (first | (with_reducible first | apply qH | apply qB) | ((first | (with_reducible apply qR) | (with_reducible first | apply qA | apply qP | apply qD | apply qE | apply qK) | ((with_reducible first | apply qQ | apply qI | apply qJ | apply qW | apply qX) <;> intro hb <;> (try simp only [hb]) <;> (try simp only [zF] at hb)) | with_reducible refine qO zL mixed (by kernel_rfl) ?_) <;> try simp only [qV, qF, qL, qN, qG, qC, qM, reduceIte, seval, Int.cast_ofNat_Int, qY, qZ, qU, zR, zT, zU, xP, zL, zI m4 xG rfl]))
      exact pure (HS.refl _) (stA hA) (RAn.zero h2 0 0) f4
  have e8 : (q.kd == 8) = false := by simpa using fun h => k89 (.inl h)
  have e9 : (q.kd == 9) = false := by simpa using fun h => k89 (.inr h)
  by_cases kin : q.kd = 3 ∨ q.kd = 4 ∨ q.kd = 5 ∨ q.kd = 6 ∨ q.kd = 7 ∨ q.kd = 10
  case neg =>
    have e3 : (q.kd == 3) = false := by rw [beq_eq_false_iff_ne]; omega
    have e4 : (q.kd == 4) = false := by rw [beq_eq_false_iff_ne]; omega
    have e5 : (q.kd == 5) = false := by rw [beq_eq_false_iff_ne]; omega
    have e6 : (q.kd == 6) = false := by rw [beq_eq_false_iff_ne]; omega
    have e7 : (q.kd == 7) = false := by rw [beq_eq_false_iff_ne]; omega
    have e10 : (q.kd == 10) = false := by rw [beq_eq_false_iff_ne]; omega
    have hA : AnsR p M q { code := 87 } := by unfold AnsR; rw [if_neg k89, if_neg kin]
    refine qS ?_; repeat' (first | (with_reducible first | apply qH | apply qB) | ((first | (with_reducible apply qR) | (with_reducible first | apply qA | apply qP | apply qD | apply qE | apply qK) | ((with_reducible first | apply qQ | apply qI | apply qJ | apply qW | apply qX) <;> intro hb <;> (try simp only [hb]) <;> (try simp only [zF] at hb)) | with_reducible refine qO zL mixed (by kernel_rfl) ?_) <;> try simp only [qV, qF, qL, qN, qG, qC, qM, reduceIte, seval, Int.cast_ofNat_Int, qY, qZ, qU, zR, zT, zU, xP, zL, e1, e2, e3, e4, e5, e6, e7, e8, e9, e10, qT m1 wL, xL, xT, vB, Shape.pl, List.all_cons, List.all_nil, zA]))
    refine zM m2 xG rfl (by decide) rfl rfl rfl fun h4 m4 f4 => ?_
    refine qS ?_; repeat' (first | (with_reducible first | apply qH | apply qB) | ((first | (with_reducible apply qR) | (with_reducible first | apply qA | apply qP | apply qD | apply qE | apply qK) | ((with_reducible first | apply qQ | apply qI | apply qJ | apply qW | apply qX) <;> intro hb <;> (try simp only [hb]) <;> (try simp only [zF] at hb)) | with_reducible refine qO zL mixed (by kernel_rfl) ?_) <;> try simp only [qV, qF, qL, qN, qG, qC, qM, reduceIte, seval, Int.cast_ofNat_Int, qY, qZ, qU, zR, zT, zU, xP, zL, zI m4 xG rfl]))
    exact pure (HS.refl _) (stA hA) (RAn.zero h2 87 0) f4
  have hcw : [Value.int .i64 q.tm, .bool q.sm, .int .i64 q.ep, .int .i64 q.ix, .slice d q.b.length g].all zA = true := rfl
  have kin' := kin
  rcases kin with kk | kk | kk | kk | kk | kk
  case' inl =>
    have e3 : (q.kd == 3) = true := by rw [kk]; rfl
    have e4 : (q.kd == 4) = false := by rw [kk]; rfl
    have e5 : (q.kd == 5) = false := by rw [kk]; rfl
    have e6 : (q.kd == 6) = false := by rw [kk]; rfl
    have e7 : (q.kd == 7) = false := by rw [kk]; rfl
    have e10 : (q.kd == 10) = false := by rw [kk]; rfl
    have hrg : kA q.kd = false ∧ kY q.kd = false := by rw [kk]; exact ⟨rfl, rfl⟩
  case' inr.inl =>
    have e3 : (q.kd == 3) = false := by rw [kk]; rfl
    have e4 : (q.kd == 4) = true := by rw [kk]; rfl
    have e5 : (q.kd == 5) = false := by rw [kk]; rfl
    have e6 : (q.kd == 6) = false := by rw [kk]; rfl
    have e7 : (q.kd == 7) = false := by rw [kk]; rfl
    have e10 : (q.kd == 10) = false := by rw [kk]; rfl
    have hrg : kA q.kd = false ∧ kY q.kd = false := by rw [kk]; exact ⟨rfl, rfl⟩
  case' inr.inr.inl =>
    have e3 : (q.kd == 3) = false := by rw [kk]; rfl
    have e4 : (q.kd == 4) = false := by rw [kk]; rfl
    have e5 : (q.kd == 5) = true := by rw [kk]; rfl
    have e6 : (q.kd == 6) = false := by rw [kk]; rfl
    have e7 : (q.kd == 7) = false := by rw [kk]; rfl
    have e10 : (q.kd == 10) = false := by rw [kk]; rfl
    have hrg : kA q.kd = true ∧ kY q.kd = false := by rw [kk]; exact ⟨rfl, rfl⟩
  case' inr.inr.inr.inl =>
    have e3 : (q.kd == 3) = false := by rw [kk]; rfl
    have e4 : (q.kd == 4) = false := by rw [kk]; rfl
    have e5 : (q.kd == 5) = false := by rw [kk]; rfl
    have e6 : (q.kd == 6) = true := by rw [kk]; rfl
    have e7 : (q.kd == 7) = false := by rw [kk]; rfl
    have e10 : (q.kd == 10) = false := by rw [kk]; rfl
    have hrg : kA q.kd = true ∧ kY q.kd = true := by rw [kk]; exact ⟨rfl, rfl⟩
  case' inr.inr.inr.inr.inl =>
    have e3 : (q.kd == 3) = false := by rw [kk]; rfl
    have e4 : (q.kd == 4) = false := by rw [kk]; rfl
    have e5 : (q.kd == 5) = false := by rw [kk]; rfl
    have e6 : (q.kd == 6) = false := by rw [kk]; rfl
    have e7 : (q.kd == 7) = true := by rw [kk]; rfl
    have e10 : (q.kd == 10) = false := by rw [kk]; rfl
    have hrg : kA q.kd = true ∧ kY q.kd = true := by rw [kk]; exact ⟨rfl, rfl⟩
  case' inr.inr.inr.inr.inr =>
    have e3 : (q.kd == 3) = false := by rw [kk]; rfl
    have e4 : (q.kd == 4) = false := by rw [kk]; rfl
    have e5 : (q.kd == 5) = false := by rw [kk]; rfl
    have e6 : (q.kd == 6) = false := by rw [kk]; rfl
    have e7 : (q.kd == 7) = false := by rw [kk]; rfl
    have e10 : (q.kd == 10) = true := by rw [kk]; rfl
    have hrg : kA q.kd = true ∧ kY q.kd = true := by rw [kk]; exact ⟨rfl, rfl⟩
  all_goals
    refine qS ?_; repeat' (first | (with_reducible first | apply qH | apply qB) | ((first | (with_reducible apply qR) | (with_reducible first | apply qA | apply qP | apply qD | apply qE | apply qK) | ((with_reducible first | apply qQ | apply qI | apply qJ | apply qW | apply qX) <;> intro hb <;> (try simp only [hb]) <;> (try simp only [zF] at hb)) | with_reducible refine qO zL mixed (by kernel_rfl) ?_) <;> try simp only [qV, qF, qL, qN, qG, qC, qM, reduceIte, seval, Int.cast_ofNat_Int, qY, qZ, qU, zR, zT, zU, xP, zL, e1, e2, e3, e4, e5, e6, e7, e8, e9, e10, qT m1 wL, zI m1 uO rfl]))
    refine (c_rWrong N x2 q hid hcw).mono ?_
    rintro _ h3 ⟨rfl, s3⟩
    have m13 := s3 _ _ m1
    have m23 := s3 _ _ m2
    have x3 := x2.hs s3
    have r3 := r.hs (s12.trans s3)
    by_cases hw : xQ (kA q.kd) (kY q.kd) p M.length q = 0
    case' neg =>
      have dw : (xQ (kA q.kd) (kY q.kd) p M.length q != 0) = true := by simpa using hw
      refine qS ?_; repeat' (first | (with_reducible first | apply qH | apply qB) | ((first | (with_reducible apply qR) | (with_reducible first | apply qA | apply qP | apply qD | apply qE | apply qK) | ((with_reducible first | apply qQ | apply qI | apply qJ | apply qW | apply qX) <;> intro hb <;> (try simp only [hb]) <;> (try simp only [zF] at hb)) | with_reducible refine qO zL mixed (by kernel_rfl) ?_) <;> try simp only [qV, qF, qL, qN, qG, qC, qM, reduceIte, seval, Int.cast_ofNat_Int, qY, qZ, qU, zR, zT, zU, xP, zL, dw, xL, xT, vB, Shape.pl, List.all_cons, List.all_nil, zA]))
      refine zM m23 xG rfl (by decide) rfl rfl rfl fun h4 m4 f4 => ?_
      refine qS ?_; repeat' (first | (with_reducible first | apply qH | apply qB) | ((first | (with_reducible apply qR) | (with_reducible first | apply qA | apply qP | apply qD | apply qE | apply qK) | ((with_reducible first | apply qQ | apply qI | apply qJ | apply qW | apply qX) <;> intro hb <;> (try simp only [hb]) <;> (try simp only [zF] at hb)) | with_reducible refine qO zL mixed (by kernel_rfl) ?_) <;> try simp only [qV, qF, qL, qN, qG, qC, qM, reduceIte, seval, Int.cast_ofNat_Int, qY, qZ, qU, zR, zT, zU, xP, zL, zI m4 xG rfl]))
      exact pure s3 (stA (by unfold AnsR; rw [if_neg k89, if_pos kin', if_pos hw])) (RAn.zero h3 _ 0) f4
    have dw : (xQ (kA q.kd) (kY q.kd) p M.length q != 0) = false := by simpa using hw
    have hwn := sZ hw
    have hnw : ¬ xQ (kA q.kd) (kY q.kd) p M.length q ≠ 0 := fun z => z hw
    rw [hrg.1, hrg.2] at hwn
    refine qS ?_; repeat' (first | (with_reducible first | apply qH | apply qB) | ((first | (with_reducible apply qR) | (with_reducible first | apply qA | apply qP | apply qD | apply qE | apply qK) | ((with_reducible first | apply qQ | apply qI | apply qJ | apply qW | apply qX) <;> intro hb <;> (try simp only [hb]) <;> (try simp only [zF] at hb)) | with_reducible refine qO zL mixed (by kernel_rfl) ?_) <;> try simp only [qV, qF, qL, qN, qG, qC, qM, reduceIte, seval, Int.cast_ofNat_Int, qY, qZ, qU, zR, zT, zU, xP, zL, dw, e1, e2, e3, e4, e5, e6, e7, e8, e9, e10, qT m13 wL, qT m13 wK, zI m13 uO rfl]))
  · refine (qR9 N x3 q r3 (hwn.2.2.2.1 rfl).1 (hwn.2.2.2.1 rfl).2 hwn.2.2.1 (by have := hwn.2.2.2.2 rfl; have := p.may_iff.1 x.may; omega) rfl).mono ?_
    rintro v4 h4 ⟨r4, s4⟩
    obtain ⟨w1, w2, w3, w4, w5, w6, rfl, t1, t2, t3⟩ := r4
    refine qS ?_; repeat' (first | (with_reducible first | apply qH | apply qB) | ((first | (with_reducible apply qR) | (with_reducible first | apply qA | apply qP | apply qD | apply qE | apply qK) | ((with_reducible first | apply qQ | apply qI | apply qJ | apply qW | apply qX) <;> intro hb <;> (try simp only [hb]) <;> (try simp only [zF] at hb)) | with_reducible refine qO zL mixed (by kernel_rfl) ?_) <;> try simp only [qV, qF, qL, qN, qG, qC, qM, reduceIte, seval, Int.cast_ofNat_Int, qY, qZ, qU, zR, zT, zU, xP, zL]))
    refine zM (s4 _ _ m23) xG rfl (by decide) rfl rfl rfl fun h5 m5 f5 => ?_
    refine qS ?_; repeat' (first | (with_reducible first | apply qH | apply qB) | ((first | (with_reducible apply qR) | (with_reducible first | apply qA | apply qP | apply qD | apply qE | apply qK) | ((with_reducible first | apply qQ | apply qI | apply qJ | apply qW | apply qX) <;> intro hb <;> (try simp only [hb]) <;> (try simp only [zF] at hb)) | with_reducible refine qO zL mixed (by kernel_rfl) ?_) <;> try simp only [qV, qF, qL, qN, qG, qC, qM, reduceIte, seval, Int.cast_ofNat_Int, qY, qZ, qU, zR, zT, zU, xP, zL, zI m5 xG rfl]))
    exact pure (s3.trans s4) (stA (by unfold AnsR; rw [if_neg k89, if_pos kin', if_neg hnw, if_neg (show ¬ q.kd = 3 by omega), if_neg (show ¬ q.kd = 4 by omega), if_neg (show ¬ q.kd = 5 by omega), if_neg (show ¬ q.kd = 6 by omega), if_neg (show ¬ q.kd = 7 by omega)])) ⟨_, _, _, _, _, _, rfl, t1, t2, t3⟩ f5
  · refine (c_rFeed N x3 q hqe (hwn.2.2.2.1 rfl).1 (hwn.2.2.2.1 rfl).2 hwn.2.2.1 (by have := hwn.2.2.2.2 rfl; have := p.may_iff.1 x.may; omega) rfl).mono ?_
    rintro v4 h4 ⟨r4, s4⟩
    obtain ⟨w1, w2, w3, w4, w5, w6, rfl, t1, t2, t3⟩ := r4
    refine qS ?_; repeat' (first | (with_reducible first | apply qH | apply qB) | ((first | (with_reducible apply qR) | (with_reducible first | apply qA | apply qP | apply qD | apply qE | apply qK) | ((with_reducible first | apply qQ | apply qI | apply qJ | apply qW | apply qX) <;> intro hb <;> (try simp only [hb]) <;> (try simp only [zF] at hb)) | with_reducible refine qO zL mixed (by kernel_rfl) ?_) <;> try simp only [qV, qF, qL, qN, qG, qC, qM, reduceIte, seval, Int.cast_ofNat_Int, qY, qZ, qU, zR, zT, zU, xP, zL]))
    refine zM (s4 _ _ m23) xG rfl (by decide) rfl rfl rfl fun h5 m5 f5 => ?_
    refine qS ?_; repeat' (first | (with_reducible first | apply qH | apply qB) | ((first | (with_reducible apply qR) | (with_reducible first | apply qA | apply qP | apply qD | apply qE | apply qK) | ((with_reducible first | apply qQ | apply qI | apply qJ | apply qW | apply qX) <;> intro hb <;> (try simp only [hb]) <;> (try simp only [zF] at hb)) | with_reducible refine qO zL mixed (by kernel_rfl) ?_) <;> try simp only [qV, qF, qL, qN, qG, qC, qM, reduceIte, seval, Int.cast_ofNat_Int, qY, qZ, qU, zR, zT, zU, xP, zL, zI m5 xG rfl]))
    exact pure (s3.trans s4) (stA (by unfold AnsR; rw [if_neg k89, if_pos kin', if_neg hnw, if_neg (show ¬ q.kd = 3 by omega), if_neg (show ¬ q.kd = 4 by omega), if_neg (show ¬ q.kd = 5 by omega), if_neg (show ¬ q.kd = 6 by omega), if_pos kk])) ⟨_, _, _, _, _, _, rfl, t1, t2, t3⟩ f5
  · refine (c_rDiff N x3 q r3 (hwn.2.2.2.1 rfl).1 (hwn.2.2.2.1 rfl).2 hwn.2.2.1 (by have := hwn.2.2.2.2 rfl; have := p.may_iff.1 x.may; omega) rfl).mono ?_
    rintro v4 h4 ⟨⟨L, hL, r4⟩, s4⟩
    obtain ⟨w1, w2, w3, w4, w5, w6, rfl, t1, t2, t3⟩ := r4
    refine qS ?_; repeat' (first | (with_reducible first | apply qH | apply qB) | ((first | (with_reducible apply qR) | (with_reducible first | apply qA | apply qP | apply qD | apply qE | apply qK) | ((with_reducible first | apply qQ | apply qI | apply qJ | apply qW | apply qX) <;> intro hb <;> (try simp only [hb]) <;> (try simp only [zF] at hb)) | with_reducible refine qO zL mixed (by kernel_rfl) ?_) <;> try simp only [qV, qF, qL, qN, qG, qC, qM, reduceIte, seval, Int.cast_ofNat_Int, qY, qZ, qU, zR, zT, zU, xP, zL]))
    refine zM (s4 _ _ m23) xG rfl (by decide) rfl rfl rfl fun h5 m5 f5 => ?_
    refine qS ?_; repeat' (first | (with_reducible first | apply qH | apply qB) | ((first | (with_reducible apply qR) | (with_reducible first | apply qA | apply qP | apply qD | apply qE | apply qK) | ((with_reducible first | apply qQ | apply qI | apply qJ | apply qW | apply qX) <;> intro hb <;> (try simp only [hb]) <;> (try simp only [zF] at hb)) | with_reducible refine qO zL mixed (by kernel_rfl) ?_) <;> try simp only [qV, qF, qL, qN, qG, qC, qM, reduceIte, seval, Int.cast_ofNat_Int, qY, qZ, qU, zR, zT, zU, xP, zL, zI m5 xG rfl]))
    exact pure (s3.trans s4) (stA (by unfold AnsR; rw [if_neg k89, if_pos kin', if_neg hnw, if_neg (show ¬ q.kd = 3 by omega), if_neg (show ¬ q.kd = 4 by omega), if_neg (show ¬ q.kd = 5 by omega), if_pos kk]; exact ⟨L, hL, rfl⟩)) ⟨_, _, _, _, _, _, rfl, t1, t2, t3⟩ f5
  · refine (qW8 N x3 r3 q.to hwn.2.2.1).mono ?_
    rintro v4 h4 ⟨r4, s4⟩
    obtain ⟨w1, w2, w3, w4, w5, w6, rfl, t1, t2, t3⟩ := r4
    have m14 := s4 _ _ m13
    refine qS ?_; repeat' (first | (with_reducible first | apply qH | apply qB) | ((first | (with_reducible apply qR) | (with_reducible first | apply qA | apply qP | apply qD | apply qE | apply qK) | ((with_reducible first | apply qQ | apply qI | apply qJ | apply qW | apply qX) <;> intro hb <;> (try simp only [hb]) <;> (try simp only [zF] at hb)) | with_reducible refine qO zL mixed (by kernel_rfl) ?_) <;> try simp only [qV, qF, qL, qN, qG, qC, qM, reduceIte, seval, Int.cast_ofNat_Int, qY, qZ, qU, zR, zT, zU, xP, zL]))
    refine xW fun k5 h5 m5 s5 f5 n5 => ?_
    refine qS ?_; repeat' (first | (with_reducible first | apply qH | apply qB) | ((first | (with_reducible apply qR) | (with_reducible first | apply qA | apply qP | apply qD | apply qE | apply qK) | ((with_reducible first | apply qQ | apply qI | apply qJ | apply qW | apply qX) <;> intro hb <;> (try simp only [hb]) <;> (try simp only [zF] at hb)) | with_reducible refine qO zL mixed (by kernel_rfl) ?_) <;> try simp only [qV, qF, qL, qN, qG, qC, qM, reduceIte, seval, Int.cast_ofNat_Int, qY, qZ, qU, zR, zT, zU, xP, zL]))
    refine zM m5 xG rfl (by decide) rfl rfl rfl fun h6 m6 f6 => ?_
    have s6 : HS h4 h6 := (HS.refl h4).upd n5 (fun j hj => (f6 j hj).trans (f5 j hj))
    have m16 := s6 _ _ m14
    cases zF : (vZ M q.id q.to).pr
    · rw [zF] at m6
      refine qS ?_; repeat' (first | (with_reducible first | apply qH | apply qB) | ((first | (with_reducible apply qR) | (with_reducible first | apply qA | apply qP | apply qD | apply qE | apply qK) | ((with_reducible first | apply qQ | apply qI | apply qJ | apply qW | apply qX) <;> intro hb <;> (try simp only [hb]) <;> (try simp only [zF] at hb)) | with_reducible refine qO zL mixed (by kernel_rfl) ?_) <;> try simp only [qV, qF, qL, qN, qG, qC, qM, reduceIte, seval, Int.cast_ofNat_Int, qY, qZ, qU, zR, zT, zU, xP, zL, e5, Bool.not_false, gPick, qT m6 qH2, qT m6 wL, qT m16 wL]))
      refine vN m6 qH2 rfl (by simp [vcells]) rfl rfl fun h7 m7 f7 => ?_
      simp only [List.set_cons_succ, List.set_cons_zero] at m7
      have s7 : HS h4 h7 := (HS.refl h4).upd n5 (fun j hj => (f7 j hj).trans ((f6 j hj).trans (f5 j hj)))
      have s37 := (s3.trans s4).trans s7
      refine qS ?_; repeat' (first | (with_reducible first | apply qH | apply qB) | ((first | (with_reducible apply qR) | (with_reducible first | apply qA | apply qP | apply qD | apply qE | apply qK) | ((with_reducible first | apply qQ | apply qI | apply qJ | apply qW | apply qX) <;> intro hb <;> (try simp only [hb]) <;> (try simp only [zF] at hb)) | with_reducible refine qO zL mixed (by kernel_rfl) ?_) <;> try simp only [qV, qF, qL, qN, qG, qC, qM, reduceIte, seval, Int.cast_ofNat_Int, qY, qZ, qU, zR, zT, zU, xP, zL, zI m7 xG rfl]))
      refine zM (s37 _ _ m2) xG rfl (by decide) rfl rfl rfl fun h8 m8 f8 => ?_
      refine qS ?_; repeat' (first | (with_reducible first | apply qH | apply qB) | ((first | (with_reducible apply qR) | (with_reducible first | apply qA | apply qP | apply qD | apply qE | apply qK) | ((with_reducible first | apply qQ | apply qI | apply qJ | apply qW | apply qX) <;> intro hb <;> (try simp only [hb]) <;> (try simp only [zF] at hb)) | with_reducible refine qO zL mixed (by kernel_rfl) ?_) <;> try simp only [qV, qF, qL, qN, qG, qC, qM, reduceIte, seval, Int.cast_ofNat_Int, qY, qZ, qU, zR, zT, zU, xP, zL, zI m8 xG rfl]))
      exact pure (A := { vZ M q.id q.to with sm := !(vZ M q.id q.to).pr || decide ((vZ M q.id q.to).si ≤ q.fr) }) s37 (stA (by unfold AnsR; rw [if_neg k89, if_pos kin', if_neg hnw, if_neg (show ¬ q.kd = 3 by omega), if_neg (show ¬ q.kd = 4 by omega), if_pos kk])) ⟨_, _, _, _, _, _, by simp only [zF, Bool.not_false, Bool.not_true, Bool.true_or, Bool.false_or], t1.hs s7, t2.hcR s7.hc fun _ _ q => q.hs s7, t3.hcR s7.hc fun _ _ q => q.hs s7⟩ f8
    · rw [zF] at m6
      refine qS ?_; repeat' (first | (with_reducible first | apply qH | apply qB) | ((first | (with_reducible apply qR) | (with_reducible first | apply qA | apply qP | apply qD | apply qE | apply qK) | ((with_reducible first | apply qQ | apply qI | apply qJ | apply qW | apply qX) <;> intro hb <;> (try simp only [hb]) <;> (try simp only [zF] at hb)) | with_reducible refine qO zL mixed (by kernel_rfl) ?_) <;> try simp only [qV, qF, qL, qN, qG, qC, qM, reduceIte, seval, Int.cast_ofNat_Int, qY, qZ, qU, zR, zT, zU, xP, zL, e5, Bool.not_true, gPick, qT m6 qH2, qT m6 wL, qT m16 wL]))
      refine vN m6 qH2 rfl (by simp [vcells]) rfl rfl fun h7 m7 f7 => ?_
      simp only [List.set_cons_succ, List.set_cons_zero] at m7
      have s7 : HS h4 h7 := (HS.refl h4).upd n5 (fun j hj => (f7 j hj).trans ((f6 j hj).trans (f5 j hj)))
      have s37 := (s3.trans s4).trans s7
      refine qS ?_; repeat' (first | (with_reducible first | apply qH | apply qB) | ((first | (with_reducible apply qR) | (with_reducible first | apply qA | apply qP | apply qD | apply qE | apply qK) | ((with_reducible first | apply qQ | apply qI | apply qJ | apply qW | apply qX) <;> intro hb <;> (try simp only [hb]) <;> (try simp only [zF] at hb)) | with_reducible refine qO zL mixed (by kernel_rfl) ?_) <;> try simp only [qV, qF, qL, qN, qG, qC, qM, reduceIte, seval, Int.cast_ofNat_Int, qY, qZ, qU, zR, zT, zU, xP, zL, zI m7 xG rfl]))
      refine zM (s37 _ _ m2) xG rfl (by decide) rfl rfl rfl fun h8 m8 f8 => ?_
      refine qS ?_; repeat' (first | (with_reducible first | apply qH | apply qB) | ((first | (with_reducible apply qR) | (with_reducible first | apply qA | apply qP | apply qD | apply qE | apply qK) | ((with_reducible first | apply qQ | apply qI | apply qJ | apply qW | apply qX) <;> intro hb <;> (try simp only [hb]) <;> (try simp only [zF] at hb)) | with_reducible refine qO zL mixed (by kernel_rfl) ?_) <;> try simp only [qV, qF, qL, qN, qG, qC, qM, reduceIte, seval, Int.cast_ofNat_Int, qY, qZ, qU, zR, zT, zU, xP, zL, zI m8 xG rfl]))
      exact pure (A := { vZ M q.id q.to with sm := !(vZ M q.id q.to).pr || decide ((vZ M q.id q.to).si ≤ q.fr) }) s37 (stA (by unfold AnsR; rw [if_neg k89, if_pos kin', if_neg hnw, if_neg (show ¬ q.kd = 3 by omega), if_neg (show ¬ q.kd = 4 by omega), if_pos kk])) ⟨_, _, _, _, _, _, by simp only [zF, Bool.not_false, Bool.not_true, Bool.true_or, Bool.false_or], t1.hs s7, t2.hcR s7.hc fun _ _ q => q.hs s7, t3.hcR s7.hc fun _ _ q => q.hs s7⟩ f8
  · refine (c_rWhen N x3 q r3 hwn.2.1 hwn.2.2.1 rfl).mono ?_
    rintro v4 h4 ⟨⟨A, hL, r4⟩, s4⟩
    obtain ⟨w1, w2, w3, w4, w5, w6, rfl, t1, t2, t3⟩ := r4
    refine qS ?_; repeat' (first | (with_reducible first | apply qH | apply qB) | ((first | (with_reducible apply qR) | (with_reducible first | apply qA | apply qP | apply qD | apply qE | apply qK) | ((with_reducible first | apply qQ | apply qI | apply qJ | apply qW | apply qX) <;> intro hb <;> (try simp only [hb]) <;> (try simp only [zF] at hb)) | with_reducible refine qO zL mixed (by kernel_rfl) ?_) <;> try simp only [qV, qF, qL, qN, qG, qC, qM, reduceIte, seval, Int.cast_ofNat_Int, qY, qZ, qU, zR, zT, zU, xP, zL]))
    refine zM (s4 _ _ m23) xG rfl (by decide) rfl rfl rfl fun h5 m5 f5 => ?_
    refine qS ?_; repeat' (first | (with_reducible first | apply qH | apply qB) | ((first | (with_reducible apply qR) | (with_reducible first | apply qA | apply qP | apply qD | apply qE | apply qK) | ((with_reducible first | apply qQ | apply qI | apply qJ | apply qW | apply qX) <;> intro hb <;> (try simp only [hb]) <;> (try simp only [zF] at hb)) | with_reducible refine qO zL mixed (by kernel_rfl) ?_) <;> try simp only [qV, qF, qL, qN, qG, qC, qM, reduceIte, seval, Int.cast_ofNat_Int, qY, qZ, qU, zR, zT, zU, xP, zL, zI m5 xG rfl]))
    exact pure (s3.trans s4) (stA (by unfold AnsR; rw [if_neg k89, if_pos kin', if_neg hnw, if_neg (show ¬ q.kd = 3 by omega), if_pos kk]; exact hL)) ⟨_, _, _, _, _, _, rfl, t1, t2, t3⟩ f5
  · refine (qW8 N x3 r3 q.to hwn.2.2.1).mono ?_
    rintro v4 h4 ⟨r4, s4⟩
    obtain ⟨w1, w2, w3, w4, w5, w6, rfl, t1, t2, t3⟩ := r4
    have m14 := s4 _ _ m13
    refine qS ?_; repeat' (first | (with_reducible first | apply qH | apply qB) | ((first | (with_reducible apply qR) | (with_reducible first | apply qA | apply qP | apply qD | apply qE | apply qK) | ((with_reducible first | apply qQ | apply qI | apply qJ | apply qW | apply qX) <;> intro hb <;> (try simp only [hb]) <;> (try simp only [zF] at hb)) | with_reducible refine qO zL mixed (by kernel_rfl) ?_) <;> try simp only [qV, qF, qL, qN, qG, qC, qM, reduceIte, seval, Int.cast_ofNat_Int, qY, qZ, qU, zR, zT, zU, xP, zL]))
    refine xW fun k5 h5 m5 s5 f5 n5 => ?_
    refine qS ?_; repeat' (first | (with_reducible first | apply qH | apply qB) | ((first | (with_reducible apply qR) | (with_reducible first | apply qA | apply qP | apply qD | apply qE | apply qK) | ((with_reducible first | apply qQ | apply qI | apply qJ | apply qW | apply qX) <;> intro hb <;> (try simp only [hb]) <;> (try simp only [zF] at hb)) | with_reducible refine qO zL mixed (by kernel_rfl) ?_) <;> try simp only [qV, qF, qL, qN, qG, qC, qM, reduceIte, seval, Int.cast_ofNat_Int, qY, qZ, qU, zR, zT, zU, xP, zL]))
    refine zM m5 xG rfl (by decide) rfl rfl rfl fun h6 m6 f6 => ?_
    have s6 : HS h4 h6 := (HS.refl h4).upd n5 (fun j hj => (f6 j hj).trans (f5 j hj))
    have m16 := s6 _ _ m14
    have hsm := asofA_sm M q.id q.to
    refine qS ?_; repeat' (first | (with_reducible first | apply qH | apply qB) | ((first | (with_reducible apply qR) | (with_reducible first | apply qA | apply qP | apply qD | apply qE | apply qK) | ((with_reducible first | apply qQ | apply qI | apply qJ | apply qW | apply qX) <;> intro hb <;> (try simp only [hb]) <;> (try simp only [zF] at hb)) | with_reducible refine qO zL mixed (by kernel_rfl) ?_) <;> try simp only [qV, qF, qL, qN, qG, qC, qM, reduceIte, seval, Int.cast_ofNat_Int, qY, qZ, qU, zR, zT, zU, xP, zL, e5, gPick, qT m6 qH2, qT m6 wL, qT m16 wL]))
    refine vN m6 qH2 rfl (by simp [vcells]) rfl rfl fun h7 m7 f7 => ?_
    simp only [List.set_cons_succ, List.set_cons_zero] at m7
    have s7 : HS h4 h7 := (HS.refl h4).upd n5 (fun j hj => (f7 j hj).trans ((f6 j hj).trans (f5 j hj)))
    have s37 := (s3.trans s4).trans s7
    refine qS ?_; repeat' (first | (with_reducible first | apply qH | apply qB) | ((first | (with_reducible apply qR) | (with_reducible first | apply qA | apply qP | apply qD | apply qE | apply qK) | ((with_reducible first | apply qQ | apply qI | apply qJ | apply qW | apply qX) <;> intro hb <;> (try simp only [hb]) <;> (try simp only [zF] at hb)) | with_reducible refine qO zL mixed (by kernel_rfl) ?_) <;> try simp only [qV, qF, qL, qN, qG, qC, qM, reduceIte, seval, Int.cast_ofNat_Int, qY, qZ, qU, zR, zT, zU, xP, zL, zI m7 xG rfl]))
    refine zM (s37 _ _ m2) xG rfl (by decide) rfl rfl rfl fun h8 m8 f8 => ?_
    refine qS ?_; repeat' (first | (with_reducible first | apply qH | apply qB) | ((first | (with_reducible apply qR) | (with_reducible first | apply qA | apply qP | apply qD | apply qE | apply qK) | ((with_reducible first | apply qQ | apply qI | apply qJ | apply qW | apply qX) <;> intro hb <;> (try simp only [hb]) <;> (try simp only [zF] at hb)) | with_reducible refine qO zL mixed (by kernel_rfl) ?_) <;> try simp only [qV, qF, qL, qN, qG, qC, qM, reduceIte, seval, Int.cast_ofNat_Int, qY, qZ, qU, zR, zT, zU, xP, zL, zI m8 xG rfl]))
    exact pure s37 (stA (by unfold AnsR; rw [if_neg k89, if_pos kin', if_neg hnw, if_pos kk])) ⟨_, _, _, _, _, _, by rw [hsm], t1.hs s7, t2.hcR s7.hc fun _ _ q => q.hs s7, t3.hcR s7.hc fun _ _ q => q.hs s7⟩ f8
end
theorem dD : type_of% (And.intro Try.underlying89 (And.intro wT (And.intro wN (And.intro yX (And.intro yB (And.intro jA (And.intro yW (And.intro wM (And.intro yV (And.intro vQ (And.intro yL (And.intro wZ (And.intro uP (And.intro jJ rs71)))))))))))))) := And.intro Try.underlying89 (And.intro wT (And.intro wN (And.intro yX (And.intro yB (And.intro jA (And.intro yW (And.intro wM (And.intro yV (And.intro vQ (And.intro yL (And.intro wZ (And.intro uP (And.intro jJ rs71)))))))))))))
def uG : Nat → List (Nat × List Nat) × List Nat
  | 3 => ([(0, []), (1, []), (2, []), (3, []), (4, []), (5, []), (6, []), (7, []), (8, []), (9, []), (10, [])], [0, 0, 2, 6, 14, 0, 32, 126, 255, 511, 1023])
  | _ => ([], [])
theorem tU : type_of% (And.intro wT (And.intro wN (And.intro yX (And.intro yB (And.intro yW (And.intro yV (And.intro vQ (And.intro yL (And.intro wZ (And.intro uP (And.intro yK qH3))))))))))) := And.intro wT (And.intro wN (And.intro yX (And.intro yB (And.intro yW (And.intro yV (And.intro vQ (And.intro yL (And.intro wZ (And.intro uP (And.intro yK qH3))))))))))
theorem qE5 : type_of% (And.intro Try.underlying89 (And.intro wT (And.intro jA (And.intro vY (And.intro wM (And.intro vQ (And.intro wZ (And.intro yK (And.intro jJ rs92))))))))) := And.intro Try.underlying89 (And.intro wT (And.intro jA (And.intro vY (And.intro wM (And.intro vQ (And.intro wZ (And.intro yK (And.intro jJ rs92))))))))
theorem qE7 : type_of% (And.intro Try.underlying136 (And.intro wT (And.intro vY (And.intro vQ (And.intro wZ (And.intro yK rs45)))))) := And.intro Try.underlying136 (And.intro wT (And.intro vY (And.intro vQ (And.intro wZ (And.intro yK rs45)))))
theorem fxRfL_47 : type_of% (And.intro Try.underlying89 (And.intro jA (And.intro wM (And.intro vQ (And.intro wZ (And.intro yK (And.intro jJ rs47))))))) := And.intro Try.underlying89 (And.intro jA (And.intro wM (And.intro vQ (And.intro wZ (And.intro yK (And.intro jJ rs47))))))
theorem qE6 : type_of% (And.intro Try.underlying136 (And.intro wT (And.intro vY (And.intro vQ (And.intro uM (And.intro wZ (And.intro yK rs46))))))) := And.intro Try.underlying136 (And.intro wT (And.intro vY (And.intro vQ (And.intro uM (And.intro wZ (And.intro yK rs46))))))
section
variable {h0 h : GH} {k j : Nat} {p : Pm} {ew : Value} {cs l : List Value} {M : List (Int × List Bnd)} {ck : Int} {n : Nat}
theorem c_tick (N : Nat) (s0 : HS h0 h) (x : IM h0 h k j p ew cs l M ck n) {c0 c1 c2 c3 c5 c6 c7 c8 c9 : Value} (tm : Int) (hc : [c0, c1, c2, c3, c5, c6, c7, c8, c9].all zA = true) :
    GTri Try.prog N 71 [.pointer (some ⟨k, 0, none⟩), .agg #[c0, c1, c2, c3, .int .i64 tm, c5, c6, c7, c8, c9]] h fun v h' => HS h0 h' ∧
      ((tm < 0 ∨ tm > 1125899906842624) ∧ v = qS8 1 0 ∧ IM h0 h' k j p ew cs l M ck n ∨ ¬ (tm < 0 ∨ tm > 1125899906842624) ∧ v = qS8 0 0 ∧ IM h0 h' k j p ew cs l M (max ck tm) n) := by
  refine wQ Try.func71 rfl gf71 ok71 (by simp [Try.ntmps71]) ?_
  repeat' (first | (with_reducible first | apply qH | apply qB) | ((first | (with_reducible first | apply qA | apply qP | apply qD | apply qE | apply qK) | ((with_reducible first | apply qQ | apply qI | apply qJ | apply qW | apply qX) <;> intro hb <;> (try simp only [hb]) <;> (try simp only [zF] at hb)) | with_reducible refine qO uG mixed (by kernel_rfl) ?_) <;> try simp only [qV, qF, qL, qN, qG, qC, qM, reduceIte, seval, Int.cast_ofNat_Int, qY, qZ, qU, zR, zT, zU, dD, uG]))
  refine wY (by simpa [zA] using hc) fun k1 h1 m1 s1 f1 n1 => ?_
  refine qS ?_; repeat' (first | (with_reducible first | apply qH | apply qB) | ((first | (with_reducible apply qR) | (with_reducible first | apply qA | apply qP | apply qD | apply qE | apply qK) | ((with_reducible first | apply qQ | apply qI | apply qJ | apply qW | apply qX) <;> intro hb <;> (try simp only [hb]) <;> (try simp only [zF] at hb)) | with_reducible refine qO uG mixed (by kernel_rfl) ?_) <;> try simp only [qV, qF, qL, qN, qG, qC, qM, reduceIte, seval, Int.cast_ofNat_Int, qY, qZ, qU, zR, zT, zU, dD, uG]))
  refine xW fun k2 h2 m2 s2 f2 n2 => ?_
  replace m1 := s2 _ _ m1
  have s12 := s1.trans s2
  have n2' := s1.none_of n2
  have x2 := x.hs s12
  obtain ⟨ae, ce, ee⟩ := x.ep.form
  have ho2 := x2.obj
  rw [ee] at ho2
  have k2k : k2 ≠ k := fun q => by subst q; rw [x.obj] at n2'; cases n2'
  have k2j : k2 ≠ j + 1 := fun q => by subst q; rw [x.mp] at n2'; cases n2'
  by_cases hbad : tm < 0 ∨ tm > 1125899906842624
  · by_cases hn : tm < 0
    case' pos =>
      have d1 : decide (tm < 0) = true := decide_eq_true hn
      have d2 : decide (tm < 0) = true := d1
    case' neg =>
      have d1 : decide (tm < 0) = false := decide_eq_false hn
      have d2 : decide (tm > 1125899906842624) = true := decide_eq_true (by omega)
    all_goals
      refine qS ?_; repeat' (first | (with_reducible first | apply qH | apply qB) | ((first | (with_reducible apply qR) | (with_reducible first | apply qA | apply qP | apply qD | apply qE | apply qK) | ((with_reducible first | apply qQ | apply qI | apply qJ | apply qW | apply qX) <;> intro hb <;> (try simp only [hb]) <;> (try simp only [zF] at hb)) | with_reducible refine qO uG mixed (by kernel_rfl) ?_) <;> try simp only [qV, qF, qL, qN, qG, qC, qM, reduceIte, seval, Int.cast_ofNat_Int, qY, qZ, qU, zR, zT, zU, dD, uG, d1, d2, gPick, qT m1 wL, xL, xT, vB, Shape.pl, List.all_cons, List.all_nil, zA]))
      refine zM m2 xG rfl (by decide) rfl rfl rfl fun h4 m4 f4 => ?_
      refine qS ?_; repeat' (first | (with_reducible first | apply qH | apply qB) | ((first | (with_reducible apply qR) | (with_reducible first | apply qA | apply qP | apply qD | apply qE | apply qK) | ((with_reducible first | apply qQ | apply qI | apply qJ | apply qW | apply qX) <;> intro hb <;> (try simp only [hb]) <;> (try simp only [zF] at hb)) | with_reducible refine qO uG mixed (by kernel_rfl) ?_) <;> try simp only [qV, qF, qL, qN, qG, qC, qM, reduceIte, seval, Int.cast_ofNat_Int, qY, qZ, qU, zR, zT, zU, dD, uG, zI m4 xG rfl]))
      exact ⟨(s0.trans s12).upd (s0.none_of n2') f4, .inl ⟨hbad, rfl, x2.oth m2 rfl rfl f4 k2k k2j⟩⟩
  have d1 : decide (tm < 0) = false := decide_eq_false (by omega)
  have d2 : decide (tm > 1125899906842624) = false := decide_eq_false (by omega)
  have mx : (if tm > ck then tm else ck) = max ck tm := by omega
  refine qS ?_; repeat' (first | (with_reducible first | apply qH | apply qB) | ((first | (with_reducible apply qR) | (with_reducible first | apply qA | apply qP | apply qD | apply qE | apply qK) | ((with_reducible first | apply qQ | apply qI | apply qJ | apply qW | apply qX) <;> intro hb <;> (try simp only [hb]) <;> (try simp only [zF] at hb)) | with_reducible refine qO uG mixed (by kernel_rfl) ?_) <;> try simp only [qV, qF, qL, qN, qG, qC, qM, reduceIte, seval, Int.cast_ofNat_Int, qY, qZ, qU, zR, zT, zU, dD, uG, d1, d2, mx, gNil, gPick, qT ho2 wL, qT m1 wL]))
  refine vN ho2 wL rfl (by simp) rfl rfl fun h3 m3 f3 => ?_
  simp only [List.set_cons_succ, List.set_cons_zero] at m3
  rw [← ee] at m3
  have x3 := x2.setck m3 f3 (show ck ≤ max ck tm by omega)
  have m23 := (f3 k2 k2k).trans m2
  refine qS ?_; repeat' (first | (with_reducible first | apply qH | apply qB) | ((first | (with_reducible apply qR) | (with_reducible first | apply qA | apply qP | apply qD | apply qE | apply qK) | ((with_reducible first | apply qQ | apply qI | apply qJ | apply qW | apply qX) <;> intro hb <;> (try simp only [hb]) <;> (try simp only [zF] at hb)) | with_reducible refine qO uG mixed (by kernel_rfl) ?_) <;> try simp only [qV, qF, qL, qN, qG, qC, qM, reduceIte, seval, Int.cast_ofNat_Int, qY, qZ, qU, zR, zT, zU, dD, uG, xL, xT, vB, Shape.pl, List.all_cons, List.all_nil, zA]))
  refine zM m23 xG rfl (by decide) rfl rfl rfl fun h4 m4 f4 => ?_
  refine qS ?_; repeat' (first | (with_reducible first | apply qH | apply qB) | ((first | (with_reducible apply qR) | (with_reducible first | apply qA | apply qP | apply qD | apply qE | apply qK) | ((with_reducible first | apply qQ | apply qI | apply qJ | apply qW | apply qX) <;> intro hb <;> (try simp only [hb]) <;> (try simp only [zF] at hb)) | with_reducible refine qO uG mixed (by kernel_rfl) ?_) <;> try simp only [qV, qF, qL, qN, qG, qC, qM, reduceIte, seval, Int.cast_ofNat_Int, qY, qZ, qU, zR, zT, zU, dD, uG, zI m4 xG rfl]))
  exact ⟨((s0.trans s12).upd x.nk f3).upd (s0.none_of n2') f4, .inr ⟨hbad, rfl, x3.oth m23 rfl rfl f4 k2k k2j⟩⟩
def IDoP (h0 : GH) (k j : Nat) (p : Pm) (M : List (Int × List Bnd)) (ck : Int) (q : Ak) (v : Value) (h' : GH) : Prop :=
  ∃ A M' ck' ew' cs' l' n', StepR p M ck q A M' ck' ∧ RAn h' v A ∧ HS h0 h' ∧ IM h0 h' k j p ew' cs' l' M' ck' n'
theorem c_iDo (N : Nat) (s0 : HS h0 h) (x : IM h0 h k j p ew cs l M ck n) {a d : Option Addr} {c g : Nat} (q : Ak) (r : RB h (.slice a q.id.length c) q.id) (hid : q.id.length ≤ 140737488355328) (rb : RL 2 Bd h0 (.slice d q.b.length g) q.b) (hb : q.b.length ≤ 140737488355328) :
    GTri Try.prog N 32 [.pointer (some ⟨k, 0, none⟩), .agg #[.int .i64 q.kd, .slice a q.id.length c, .int .i64 q.fr, .int .i64 q.to, .int .i64 q.tm, .bool q.sm, .int .i64 q.ep, .int .i64 q.ix, .int .i64 q.lm, .slice d q.b.length g]] h fun v h' => IDoP h0 k j p M ck q v h' := by
  have htt := x.tt
  by_cases k1 : q.kd = 1
  · rw [k1]
    refine (zB0 N s0 x rb hb rfl).mono ?_
    rintro v h' ⟨rfl, s', r'⟩
    rw [htt] at r' ⊢
    rcases r' with ⟨e, y⟩ | ⟨e, ew', cs', l', y⟩
    · refine ⟨_, M, ck, _, _, _, _, ?_, RAn.zero h' _ _, s', y⟩
      unfold StepR
      rw [if_pos k1]
      exact ⟨rfl, by rw [if_neg e], rfl⟩
    · refine ⟨_, M ++ [(ck, q.b)], ck, _, _, _, _, ?_, RAn.zero h' _ _, s', y⟩
      unfold StepR
      rw [if_pos k1]
      exact ⟨rfl, by rw [if_pos e], rfl⟩
  by_cases k2 : q.kd = 2
  · have e1 : (q.kd == 1) = false := by rw [k2]; rfl
    have e2 : (q.kd == 2) = true := by rw [k2]; rfl
    refine wQ Try.func32 rfl qL2 qK5 (by simp [Try.ntmps32]) ?_
    repeat' (first | (with_reducible first | apply qH | apply qB) | ((first | (with_reducible first | apply qA | apply qP | apply qD | apply qE | apply qK) | ((with_reducible first | apply qQ | apply qI | apply qJ) <;> intro hb <;> (try simp only [hb]) <;> (try simp only [zF] at hb))) <;> try simp only [qV, qF, qL, qN, qG, qC, qM, reduceIte, seval, Int.cast_ofNat_Int, qY, qZ, tU]))
    refine wY rfl fun kk1 h1 m1 s1 f1 n1 => ?_
    refine qS ?_; repeat' (first | (with_reducible first | apply qH | apply qB) | ((first | (with_reducible apply qR) | (with_reducible first | apply qA | apply qP | apply qD | apply qE | apply qK) | ((with_reducible first | apply qQ | apply qI | apply qJ) <;> intro hb <;> (try simp only [hb]) <;> (try simp only [zF] at hb))) <;> try simp only [qV, qF, qL, qN, qG, qC, qM, reduceIte, seval, Int.cast_ofNat_Int, qY, qZ, tU]))
    refine xW fun kk2 h2 m2 s2 f2 n2 => ?_
    replace m1 := s2 _ _ m1
    have s12 := s1.trans s2
    have x2 := x.hs s12
    have n2' := s1.none_of n2
    refine qS ?_; repeat' (first | (with_reducible first | apply qH | apply qB) | ((first | (with_reducible apply qR) | (with_reducible first | apply qA | apply qP | apply qD | apply qE | apply qK) | ((with_reducible first | apply qQ | apply qI | apply qJ) <;> intro hb <;> (try simp only [hb]) <;> (try simp only [zF] at hb)) | ((refine GTri.mono (yU _ x2) ?_); rintro _ _ ⟨rfl, hh9⟩; replace hh9 := hh9.symm; subst hh9)) <;> try simp only [qV, qF, qL, qN, qG, qC, qM, reduceIte, seval, Int.cast_ofNat_Int, qY, qZ, tU, qT m1 wL, e1, e2, zI m1 uO rfl]))
    refine (c_tick N (qO9 s0 s12) (x.new s12) q.tm rfl).mono ?_
    rintro v h3 ⟨s3, r3⟩
    have m23 : h3 kk2 = _ := s3 _ _ ((pD n2').trans m2)
    have k2k : kk2 ≠ k := fun q => by subst q; rw [x.obj] at n2'; cases n2'
    have k2j : kk2 ≠ j + 1 := fun q => by subst q; rw [x.mp] at n2'; cases n2'
    have s03 := (rD s0).trans s3
    rcases r3 with ⟨hb', rfl, y⟩ | ⟨hb', rfl, y⟩
    all_goals
      refine qS ?_; repeat' (first | (with_reducible first | apply qH | apply qB) | ((first | (with_reducible apply qR) | (with_reducible first | apply qA | apply qP | apply qD | apply qE | apply qK) | ((with_reducible first | apply qQ | apply qI | apply qJ) <;> intro hb <;> (try simp only [hb]) <;> (try simp only [zF] at hb))) <;> try simp only [qV, qF, qL, qN, qG, qC, qM, reduceIte, seval, Int.cast_ofNat_Int, qY, qZ, tU]))
      refine zM m23 xG rfl (by decide) rfl rfl rfl fun h4 m4 f4 => ?_
      refine qS ?_; repeat' (first | (with_reducible first | apply qH | apply qB) | ((first | (with_reducible apply qR) | (with_reducible first | apply qA | apply qP | apply qD | apply qE | apply qK) | ((with_reducible first | apply qQ | apply qI | apply qJ) <;> intro hb <;> (try simp only [hb]) <;> (try simp only [zF] at hb))) <;> try simp only [qV, qF, qL, qN, qG, qC, qM, reduceIte, seval, Int.cast_ofNat_Int, qY, qZ, tU, zI m4 xG rfl]))
    · refine ⟨{ code := 1 }, M, ck, _, _, _, _, ?_, RAn.zero h4 1 0, s03.upd (s0.none_of n2') f4, (y.weak (rD s0)).oth m23 rfl rfl f4 k2k k2j⟩
      unfold StepR
      rw [if_neg k1, if_pos k2, if_pos hb']
      exact ⟨⟨rfl, rfl⟩, rfl⟩
    · refine ⟨{}, M, max ck q.tm, _, _, _, _, ?_, RAn.zero h4 0 0, s03.upd (s0.none_of n2') f4, (y.weak (rD s0)).oth m23 rfl rfl f4 k2k k2j⟩
      unfold StepR
      rw [if_neg k1, if_pos k2, if_neg hb']
      exact ⟨⟨rfl, rfl⟩, rfl⟩
  refine (c_DoQ N x q k1 k2 r hid rfl).mono ?_
  rintro v h' ⟨⟨A, hA, r'⟩, s'⟩
  refine ⟨A, M, ck, _, _, _, _, ?_, r', s0.trans s', x.hs s'⟩
  unfold StepR
  rw [if_neg k1, if_neg k2]
  exact ⟨hA, rfl, rfl⟩
theorem c_one0 (N : Nat) (x : IM h0 h k j p ew cs l M ck n) {e : Int} (he : e < 0 ∨ e ≥ (M.length : Int)) :
    GTri Try.prog N 92 [.pointer (some ⟨k, 0, none⟩), .int .i64 e] h fun v h' => v = .agg #[.int .i64 0, .slice none 0 0] ∧ HS h h' := by
  obtain ⟨ae, ce, ee⟩ := x.ep.form
  refine wQ Try.func92 rfl gf92 ok92 (by simp [Try.ntmps92]) ?_
  repeat' (first | (with_reducible first | apply qH | apply qB) | ((first | (with_reducible first | apply qA | apply qP | apply qD | apply qE | apply qK) | ((with_reducible first | apply qQ | apply qI | apply qJ) <;> intro hb <;> (try simp only [hb]) <;> (try simp only [zF] at hb))) <;> try simp only [qV, qF, qL, qN, qG, qC, qM, reduceIte, seval, Int.cast_ofNat_Int, qY, qZ, qE5]))
  refine xW fun k1 h1 m1 s1 f1 n1 => ?_
  have x1 := x.hs s1
  have ho := x1.obj
  rw [ee] at ho
  by_cases h0' : e < 0
  case' pos =>
    have d1 : decide (e < 0) = true := decide_eq_true h0'
    have d2 : decide (e < 0) = true := d1
  case' neg =>
    have d1 : decide (e < 0) = false := decide_eq_false h0'
    have d2 : decide (e ≥ (M.length : Int)) = true := decide_eq_true (by omega)
  all_goals
    refine qS ?_; repeat' (first | (with_reducible first | apply qH | apply qB) | ((first | (with_reducible apply qR) | (with_reducible first | apply qA | apply qP | apply qD | apply qE | apply qK) | ((with_reducible first | apply qQ | apply qI | apply qJ) <;> intro hb <;> (try simp only [hb]) <;> (try simp only [zF] at hb)) | ((refine GTri.mono (yU _ x1) ?_); rintro _ _ ⟨rfl, hh9⟩; replace hh9 := hh9.symm; subst hh9)) <;> try simp only [qV, qF, qL, qN, qG, qC, qM, reduceIte, seval, Int.cast_ofNat_Int, qY, qZ, qE5, gNil, d1, d2, gPick, qT ho gJ, xL, xT, vB, Shape.pl, List.all_cons, List.all_nil, zA]))
    refine zM m1 fI rfl (by decide) rfl rfl rfl fun h4 m4 f4 => ?_
    refine qS ?_; repeat' (first | (with_reducible first | apply qH | apply qB) | ((first | (with_reducible apply qR) | (with_reducible first | apply qA | apply qP | apply qD | apply qE | apply qK) | ((with_reducible first | apply qQ | apply qI | apply qJ) <;> intro hb <;> (try simp only [hb]) <;> (try simp only [zF] at hb))) <;> try simp only [qV, qF, qL, qN, qG, qC, qM, reduceIte, seval, Int.cast_ofNat_Int, qY, qZ, qE5, zI m4 fI rfl]))
    exact s1.upd n1 f4
theorem zA7 (N : Nat) (x : IM h0 h k j p ew cs l M ck n) (e : Int) : GTri Try.prog N 45 [.pointer (some ⟨k, 0, none⟩), .int .i64 e] h fun v h' => v = .int .i64 (if e < 0 then 0 else ((M[e.toNat]?).map (·.1)).getD 0) ∧ HS h h' := by
  refine wQ Try.func45 rfl gf45 ok45 (by simp [Try.ntmps45]) ?_
  repeat' (first | (with_reducible first | apply qH | apply qB) | ((first | (with_reducible first | apply qA | apply qP | apply qD | apply qE | apply qK) | ((with_reducible first | apply qQ | apply qI | apply qJ) <;> intro hb <;> (try simp only [hb]) <;> (try simp only [zF] at hb))) <;> try simp only [qV, qF, qL, qN, qG, qC, qM, reduceIte, seval, Int.cast_ofNat_Int, qY, qZ, qE7]))
  by_cases he : e < 0 ∨ e ≥ (M.length : Int)
  · refine (c_one0 N x he).mono ?_
    rintro _ h1 ⟨rfl, s1⟩
    refine qS ?_; repeat' (first | (with_reducible first | apply qH | apply qB) | ((first | (with_reducible apply qR) | (with_reducible first | apply qA | apply qP | apply qD | apply qE | apply qK) | ((with_reducible first | apply qQ | apply qI | apply qJ) <;> intro hb <;> (try simp only [hb]) <;> (try simp only [zF] at hb))) <;> try simp only [qV, qF, qL, qN, qG, qC, qM, reduceIte, seval, Int.cast_ofNat_Int, qY, qZ, qE7, fQ]))
    refine ⟨?_, s1⟩
    split
    · rfl
    · rw [List.getElem?_eq_none (by omega)]; rfl
  · obtain ⟨m, rfl⟩ : ∃ m : Nat, e = (m : Int) := ⟨e.toNat, by omega⟩
    obtain ⟨y, hy⟩ := vC (show m < M.length by omega)
    refine (c_one N x hy).mono ?_
    rintro _ h1 ⟨⟨u, rfl, _⟩, s1⟩
    refine qS ?_; repeat' (first | (with_reducible first | apply qH | apply qB) | ((first | (with_reducible apply qR) | (with_reducible first | apply qA | apply qP | apply qD | apply qE | apply qK) | ((with_reducible first | apply qQ | apply qI | apply qJ) <;> intro hb <;> (try simp only [hb]) <;> (try simp only [zF] at hb))) <;> try simp only [qV, qF, qL, qN, qG, qC, qM, reduceIte, seval, Int.cast_ofNat_Int, qY, qZ, qE7, fQ]))
    refine ⟨?_, s1⟩
    rw [if_neg (by omega), Int.toNat_natCast, hy]; rfl
theorem c_iNow (N : Nat) (x : IM h0 h k j p ew cs l M ck n) : GTri Try.prog N 47 [.pointer (some ⟨k, 0, none⟩)] h fun v h' => v = .int .i64 ck ∧ h' = h := by
  obtain ⟨ae, ce, ee⟩ := x.ep.form
  have ho := x.obj
  rw [ee] at ho
  refine wQ Try.func47 rfl gf47 ok47 (by simp [Try.ntmps47]) ?_
  refine qS ?_; repeat' (first | (with_reducible first | apply qH | apply qB) | ((first | (with_reducible apply qR) | (with_reducible first | apply qA | apply qP | apply qD | apply qE | apply qK) | ((with_reducible first | apply qQ | apply qI | apply qJ) <;> intro hb <;> (try simp only [hb]) <;> (try simp only [zF] at hb)) | ((refine GTri.mono (yU _ x) ?_); rintro _ _ ⟨rfl, hh9⟩; replace hh9 := hh9.symm; subst hh9)) <;> try simp only [qV, qF, qL, qN, qG, qC, qM, reduceIte, seval, Int.cast_ofNat_Int, qY, qZ, fxRfL_47, gNil, qT ho wL]))
theorem qJ6 (N : Nat) (x : IM h0 h k j p ew cs l M ck n) (e : Int) : GTri Try.prog N 46 [.pointer (some ⟨k, 0, none⟩), .int .i64 e] h fun v h' => (∃ a c, v = .slice a (if e < 0 then [] else jI M e.toNat).length c ∧ RL 2 Bd h' v (if e < 0 then [] else jI M e.toNat)) ∧ HS h h' := by
  by_cases he : e < 0 ∨ e ≥ (M.length : Int)
  · have h0' : (if e < 0 then [] else jI M e.toNat) = [] := by
      split
      · rfl
      · unfold jI; rw [List.getElem?_eq_none (by omega)]; rfl
    rw [h0']
    refine wQ Try.func46 rfl gf46 ok46 (by simp [Try.ntmps46]) ?_
    repeat' (first | (with_reducible first | apply qH | apply qB) | ((first | (with_reducible first | apply qA | apply qP | apply qD | apply qE | apply qK) | ((with_reducible first | apply qQ | apply qI | apply qJ) <;> intro hb <;> (try simp only [hb]) <;> (try simp only [zF] at hb))) <;> try simp only [qV, qF, qL, qN, qG, qC, qM, reduceIte, seval, Int.cast_ofNat_Int, qY, qZ, qE6]))
    refine (c_one0 N x he).mono ?_
    rintro _ h1 ⟨rfl, s1⟩
    refine qS ?_; repeat' (first | (with_reducible first | apply qH | apply qB) | ((first | (with_reducible apply qR) | (with_reducible first | apply qA | apply qP | apply qD | apply qE | apply qK) | ((with_reducible first | apply qQ | apply qI | apply qJ) <;> intro hb <;> (try simp only [hb]) <;> (try simp only [zF] at hb))) <;> try simp only [qV, qF, qL, qN, qG, qC, qM, reduceIte, seval, Int.cast_ofNat_Int, qY, qZ, qE6, fQ]))
    refine (c_own N h1 (b := []) (RL.nil h1) (by simp) (fun y hy => by simp at hy)).mono ?_
    rintro v2 h2 ⟨bt2, s2⟩
    refine qS ?_; repeat' (first | (with_reducible first | apply qH | apply qB) | ((first | (with_reducible apply qR) | (with_reducible first | apply qA | apply qP | apply qD | apply qE | apply qK) | ((with_reducible first | apply qQ | apply qI | apply qJ) <;> intro hb <;> (try simp only [hb]) <;> (try simp only [zF] at hb))) <;> try simp only [qV, qF, qL, qN, qG, qC, qM, reduceIte, seval, Int.cast_ofNat_Int, qY, qZ, qE6]))
    obtain ⟨ds, o, r⟩ := bt2
    obtain ⟨a, c, rfl⟩ := o.form
    exact ⟨⟨a, c, rfl, o.rl r⟩, s1.trans s2⟩
  · obtain ⟨m, rfl⟩ : ∃ m : Nat, e = (m : Int) := ⟨e.toNat, by omega⟩
    obtain ⟨y, hy⟩ := vC (show m < M.length by omega)
    rw [if_neg (by omega), Int.toNat_natCast, uJ hy]
    refine (c_iBatch N x hy).mono ?_
    rintro v h1 ⟨bt, s1⟩
    obtain ⟨a, c, rfl, _⟩ := bt.rl.form
    exact ⟨⟨a, c, rfl, bt.rl⟩, s1⟩
end
theorem qE4 : type_of% (And.intro jA (And.intro vY rs90)) := And.intro jA (And.intro vY rs90)
theorem uH : type_of% (And.intro Try.underlying89 (And.intro uN (And.intro jA (And.intro vY (And.intro wM (And.intro vQ (And.intro wZ (And.intro yK (And.intro jJ rs39))))))))) := And.intro Try.underlying89 (And.intro uN (And.intro jA (And.intro vY (And.intro wM (And.intro vQ (And.intro wZ (And.intro yK (And.intro jJ rs39))))))))
def wV : Nat → List (Nat × List Nat) × List Nat
  | 9 => ([(0, []), (1, []), (2, []), (3, []), (4, [1]), (5, [])], [0, 1, 0, 0, 8, 31])
  | _ => ([], [])
theorem EPS.src {h0 h : GH} {v : Value} {n : Nat} {cs : List Value} (o : EPS h0 h v n cs) : jM h 2 v = some (n, cs) := by
  obtain ⟨kb, c, tl, rfl, h2, h3, h4, h5⟩ := o
  have := vA h4 (o := 0) (n := n * 2) (cs := cs) (by rw [List.drop_zero, ← h3]; exact List.take_length) h3
  simp only [jM, this]; rfl
theorem EPS.weak2 {ha h0 h : GH} {v : Value} {n : Nat} {cs : List Value} (o : EPS h0 h v n cs) (s : HS ha h0) : EPS ha h v n cs := by
  obtain ⟨kb, c, tl, h1, h2, h3, h4, h5, h6⟩ := o
  exact ⟨kb, c, tl, h1, h2, h3, h4, s.none_of h5, h6⟩
theorem c_EClone (N : Nat) {h0 h : GH} {v : Value} {n : Nat} {cs : List Value} (o : EPS h0 h v n cs) (hl : n ≤ 1000000) (hc : cs.all zA = true) : GTri Try.prog N 90 [v] h fun v h' => EPS h h' v n cs ∧ HS h h' := by
  obtain ⟨a, c, e⟩ := o.form
  have hsrc := o.src
  have hn : n ≠ 0 := by obtain ⟨_, _, _, _, h2, _⟩ := o; exact h2
  have hcl : cs.length = n * 2 := by obtain ⟨_, _, _, _, _, h3, _⟩ := o; exact h3
  subst e
  have nn : (some a : Option Addr).isNone = false := rfl
  refine wQ Try.func90 rfl gf90 ok90 (by simp [Try.ntmps90]) ?_
  refine qS ?_; repeat' (first | (with_reducible first | apply qH | apply qB) | ((first | (with_reducible apply qR) | (with_reducible first | apply qA | apply qP | apply qD | apply qE | apply qK) | ((with_reducible first | apply qQ | apply qI | apply qJ) <;> intro hb <;> (try simp only [hb]) <;> (try simp only [zF] at hb))) <;> try simp only [qV, qF, qL, qN, qG, qC, qM, reduceIte, seval, Int.cast_ofNat_Int, qY, qZ, qE4, qA2, nn]))
  have iz : (!(#[] : Array (Nat × Operand)).size == 0) = false := rfl
  refine tH qW3 rfl ?_
  refine qS ?_; repeat' (first | (with_reducible first | apply qH | apply qB) | ((first | (with_reducible apply qR) | (with_reducible first | apply qA | apply qP | apply qD | apply qE | apply qK) | ((with_reducible first | apply qQ | apply qI | apply qJ) <;> intro hb <;> (try simp only [hb]) <;> (try simp only [zF] at hb))) <;> try simp only [qV, qF, qL, qN, qG, qC, qM, reduceIte, seval, Int.cast_ofNat_Int, qY, qZ, qE4]))
  refine wJ qW3 Try.underlying88 rfl (HS.refl h) (OWNC.zero _ _ _ _) hsrc hcl hc (by omega) (by simp only [maxLen]; omega) fun v3 h3 s3 fr3 o3 => ?_
  rw [List.nil_append, Nat.zero_add] at o3
  refine qS ?_; repeat' (first | (with_reducible first | apply qH | apply qB) | ((first | (with_reducible apply qR) | (with_reducible first | apply qA | apply qP | apply qD | apply qE | apply qK) | ((with_reducible first | apply qQ | apply qI | apply qJ) <;> intro hb <;> (try simp only [hb]) <;> (try simp only [zF] at hb))) <;> try simp only [qV, qF, qL, qN, qG, qC, qM, reduceIte, seval, Int.cast_ofNat_Int, qY, qZ, qE4]))
  rcases o3 with ⟨_, q, _⟩ | ⟨_, _, q, _⟩ | ⟨k2, c2, g1, g2, g3, g4, g5, g6, g7⟩
  · omega
  · omega
  · exact ⟨⟨k2, c2, true, g1, g4, g5, g6, g7, .inl ⟨rfl, g2, g3⟩⟩, s3⟩
section
variable {h0 h : GH} {k j : Nat} {p : Pm} {ew : Value} {cs l : List Value} {M : List (Int × List Bnd)} {ck : Int} {n : Nat}
theorem IM.cellC (x : IM h0 h k j p ew cs l M ck n) : cs.all zA = true := by
  obtain ⟨kb, c, tl, h1, h2, h3, h4, h5, h6⟩ := x.ep
  refine all_el (n := M.length) (es := 2) (by decide) h3 fun i hi => ?_
  obtain ⟨y, hy⟩ := vC hi
  obtain ⟨v, e, bt⟩ := x.eps i y hy
  obtain ⟨a, c', rfl, _⟩ := bt.rl.form
  rw [e]; rfl
theorem c_iCopy (N : Nat) (x : IM h0 h k j p ew cs l M ck n) : GTri Try.prog N 39 [.pointer (some ⟨k, 0, none⟩)] h fun v h' => (∃ k3 j3 ew' l', v = .pointer (some ⟨k3, 0, none⟩) ∧ IM h h' k3 j3 p ew' cs l' M ck n) ∧ HS h h' := by
  have hml := sI l x.ok
  have hkl := IM.klen x
  have hML := x.len
  have hn4 := x.n4
  obtain ⟨ae, ce, ee⟩ := x.ep.form
  have ho := x.obj
  rw [ee] at ho
  have hep := x.ep
  rw [ee] at hep
  refine wQ Try.func39 rfl gf39 ok39 (by simp [Try.ntmps39]) ?_
  refine qS ?_; repeat' (first | (with_reducible first | apply qH | apply qB) | ((first | (with_reducible apply qR) | (with_reducible first | apply qA | apply qP | apply qD | apply qE | apply qK) | ((with_reducible first | apply qQ | apply qI | apply qJ | apply qW | apply qX) <;> intro hb <;> (try simp only [hb]) <;> (try simp only [zF] at hb)) | with_reducible refine qO wV mixed (by kernel_rfl) ?_ | ((refine GTri.mono (yU _ x) ?_); rintro _ _ ⟨rfl, hh9⟩; replace hh9 := hh9.symm; subst hh9)) <;> try simp only [qV, qF, qL, qN, qG, qC, qM, reduceIte, seval, Int.cast_ofNat_Int, qY, qZ, qU, zR, zT, zU, uH, wV, gNil, zI ho sz91 rfl]))
  refine xW fun k3 h1 m1 s1 f1 n1 => ?_
  refine qS ?_; repeat' (first | (with_reducible first | apply qH | apply qB) | ((first | (with_reducible apply qR) | (with_reducible first | apply qA | apply qP | apply qD | apply qE | apply qK) | ((with_reducible first | apply qQ | apply qI | apply qJ | apply qW | apply qX) <;> intro hb <;> (try simp only [hb]) <;> (try simp only [zF] at hb)) | with_reducible refine qO wV mixed (by kernel_rfl) ?_) <;> try simp only [qV, qF, qL, qN, qG, qC, qM, reduceIte, seval, Int.cast_ofNat_Int, qY, qZ, qU, zR, zT, zU, uH, wV]))
  refine zM m1 sz91 rfl (by decide) rfl rfl rfl fun h2 m2 f2 => ?_
  have s2 : HS h h2 := (HS.refl h).upd n1 (fun j hj => (f2 j hj).trans (f1 j hj))
  refine qS ?_; repeat' (first | (with_reducible first | apply qH | apply qB) | ((first | (with_reducible apply qR) | (with_reducible first | apply qA | apply qP | apply qD | apply qE | apply qK) | ((with_reducible first | apply qQ | apply qI | apply qJ | apply qW | apply qX) <;> intro hb <;> (try simp only [hb]) <;> (try simp only [zF] at hb)) | with_reducible refine qO wV mixed (by kernel_rfl) ?_) <;> try simp only [qV, qF, qL, qN, qG, qC, qM, reduceIte, seval, Int.cast_ofNat_Int, qY, qZ, qU, zR, zT, zU, uH, wV, gNil, qT (s2 _ _ ho) gJ]))
  refine (c_EClone N (hep.hs s2) (by omega) (IM.cellC x)).mono ?_
  rintro v3 h3 ⟨ep3, s3⟩
  obtain ⟨a3, c3, rfl⟩ := ep3.form
  have m3 := s3 _ _ m2
  have s03 := s2.trans s3
  refine qS ?_; repeat' (first | (with_reducible first | apply qH | apply qB) | ((first | (with_reducible apply qR) | (with_reducible first | apply qA | apply qP | apply qD | apply qE | apply qK) | ((with_reducible first | apply qQ | apply qI | apply qJ | apply qW | apply qX) <;> intro hb <;> (try simp only [hb]) <;> (try simp only [zF] at hb)) | with_reducible refine qO wV mixed (by kernel_rfl) ?_) <;> try simp only [qV, qF, qL, qN, qG, qC, qM, reduceIte, seval, Int.cast_ofNat_Int, qY, qZ, qU, zR, zT, zU, uH, wV]))
  refine vN m3 gJ rfl (by simp [vcells]) rfl rfl fun h4 m4 f4 => ?_
  simp only [List.set_cons_succ, List.set_cons_zero] at m4
  have s04 : HS h h4 := s03.upd n1 f4
  have ep4 := (ep3.weak2 s2).hx m3 (by simp) (fun i B q e => (f4 i q).trans e)
  refine qS ?_; repeat' (first | (with_reducible first | apply qH | apply qB) | ((first | (with_reducible apply qR) | (with_reducible first | apply qA | apply qP | apply qD | apply qE | apply qK) | ((with_reducible first | apply qQ | apply qI | apply qJ | apply qW | apply qX) <;> intro hb <;> (try simp only [hb]) <;> (try simp only [zF] at hb)) | with_reducible refine qO wV mixed (by kernel_rfl) ?_) <;> try simp only [qV, qF, qL, qN, qG, qC, qM, reduceIte, seval, Int.cast_ofNat_Int, qY, qZ, qU, zR, zT, zU, uH, wV]))
  refine mm_g fun j3 h5 mp5 s5 f5 n5 => ?_
  refine qS ?_; repeat' (first | (with_reducible first | apply qH | apply qB) | ((first | (with_reducible apply qR) | (with_reducible first | apply qA | apply qP | apply qD | apply qE | apply qK) | ((with_reducible first | apply qQ | apply qI | apply qJ | apply qW | apply qX) <;> intro hb <;> (try simp only [hb]) <;> (try simp only [zF] at hb)) | with_reducible refine qO wV mixed (by kernel_rfl) ?_) <;> try simp only [qV, qF, qL, qN, qG, qC, qM, reduceIte, seval, Int.cast_ofNat_Int, qY, qZ, qU, zR, zT, zU, uH, wV]))
  refine vN (s5 _ _ m4) pA rfl (by simp [vcells]) rfl rfl fun h6 m6 f6 => ?_
  simp only [List.set_cons_succ, List.set_cons_zero] at m6
  have s06 : HS h h6 := (s04.trans s5).upd n1 f6
  have n5h : h (j3 + 1) = none := s04.none_of n5
  have k3j : j3 + 1 ≠ k3 := fun e => by rw [e, m4] at n5; cases n5
  have ep6 := (ep4.hs s5).hx (s5 _ _ m4) (by simp) (fun i B q e => (f6 i q).trans e)
  obtain ⟨Sn, hSn⟩ : ∃ Sn : List Nat → List UInt8 → List (Nat × Nat), Sn = fun is id => if (is.any fun q => qC7 l q == id) = true then uZ 0 (M.map (·.2)) id else [] := ⟨_, rfl⟩
  have y6 : IS h h6 k3 j3 p (.slice a3 M.length c3) cs [] M ck n (Sn []) := by
    refine ⟨m6, n1, (f6 _ k3j).trans mp5, n5h, rfl, rfl, ep6, fun e b hb => ?_, fun id => ?_, x.cu8, x.bl, x.len, x.tt, x.nch, x.may, List.nodup_nil, fun k hk => by simp [xO] at hk, x.ks.2.2⟩
    · obtain ⟨v, h1, h2⟩ := x.eps e b hb; exact ⟨v, h1, h2.hs s06⟩
    · rw [hSn]
      exact OWNC.nil _ _ _
  refine qS ?_; repeat' (first | (with_reducible first | apply qH | apply qB) | ((first | (with_reducible apply qR) | (with_reducible first | apply qA | apply qP | apply qD | apply qE | apply qK) | ((with_reducible first | apply qQ | apply qI | apply qJ | apply qW | apply qX) <;> intro hb <;> (try simp only [hb]) <;> (try simp only [zF] at hb)) | with_reducible refine qO wV mixed (by kernel_rfl) ?_) <;> try simp only [qV, qF, qL, qN, qG, qC, qM, reduceIte, seval, Int.cast_ofNat_Int, qY, qZ, qU, zR, zT, zU, uH, wV, gNil, qT (s06 _ _ ho) pA]))
  have hmo : ∀ {h' : GH}, HS h h' → vF h' (.map (some j)) = some l := fun {h'} s => by
    have := s _ _ x.mp
    simp only [vF, this, x.ok, if_true]
  refine ⟨_, _, j, l, Try.underlying89, rfl, hmo s06, fun it hi hi1 => ?_⟩
  have hdiv : l.length / 2 = (xO l).length := by omega
  rw [hdiv]
  generalize hh7 : vU h6 (it + 1) ⟨[IT, .map (some j), .int .i64 (((xO l).length : Nat) : Int)], 0, true, false⟩ = h7
  have m7 : h7 (it + 1) = some ⟨[IT, .map (some j), .int .i64 (((xO l).length : Nat) : Int)], 0, true, false⟩ := by rw [← hh7]; exact zV _ _ _
  have s7 : HS h6 h7 := by rw [← hh7]; exact HS.new hi1 _
  have itk : it + 1 ≠ k3 := fun e => by rw [e, m6] at hi1; cases hi1
  have itj : it + 1 ≠ j3 + 1 := fun e => by rw [e, y6.mp] at hi1; cases hi1
  have nit : h (it + 1) = none := s06.none_of hi1
  clear hh7
  refine qS ?_; repeat' (first | (with_reducible first | apply qH | apply qB) | ((first | (with_reducible apply qR) | (with_reducible first | apply qA | apply qP | apply qD | apply qE | apply qK) | ((with_reducible first | apply qQ | apply qI | apply qJ | apply qW | apply qX) <;> intro hb <;> (try simp only [hb]) <;> (try simp only [zF] at hb)) | with_reducible refine qO wV mixed (by kernel_rfl) ?_) <;> try simp only [qV, qF, qL, qN, qG, qC, qM, reduceIte, seval, Int.cast_ofNat_Int, qY, qZ, qU, zR, zT, zU, uH, wV]))
  refine wI [2, 3, 23] (fun (_ : Unit) => [])
    (fun qq y h' => HS h h' ∧ ∃ (is : List Nat) (l2 : List Value), (xO l).length - is.length = qq ∧ is.Nodup ∧ (∀ z ∈ is, z < (xO l).length) ∧ h' (it + 1) = some ⟨IT :: .map (some j) :: .int .i64 (((xO l).length : Nat) : Int) :: is.map (fun q : Nat => .int .i64 (q : Int)), 0, true, false⟩ ∧
      IS h h' k3 j3 p (.slice a3 M.length c3) cs l2 M ck n (Sn is)) (xO l).length () (by simp [lk])
    ⟨s06.trans s7, [], [], by simp, List.nodup_nil, by simp, m7, y6.hs s7⟩ ?_
  clear m7 s7
  rintro _ ⟨⟩ h7 ⟨s7, is, l2, rfl, nd, lt, m7, y7⟩
  refine qS ?_; repeat' (first | (with_reducible first | apply qH | apply qB) | ((first | (with_reducible apply qR) | (with_reducible first | apply qA | apply qP | apply qD | apply qE | apply qK) | ((with_reducible first | apply qQ | apply qI | apply qJ | apply qW | apply qX) <;> intro hb <;> (try simp only [hb]) <;> (try simp only [zF] at hb)) | with_reducible refine qO wV mixed (by kernel_rfl) ?_) <;> try simp only [qV, qF, qL, qN, qG, qC, qM, reduceIte, seval, Int.cast_ofNat_Int, qY, qZ, qU, zR, zT, zU, uH, wV]))
  refine ⟨it, j, (xO l).length, is.map (fun q : Nat => .int .i64 (q : Int)), _, l, rfl, m7, rfl, hmo s7, hml, fun hall => ?_, fun z key v hq hns hkey hv => ?_⟩
  · refine qS ?_; repeat' (first | (with_reducible first | apply qH | apply qB) | ((first | (with_reducible apply qR) | (with_reducible first | apply qA | apply qP | apply qD | apply qE | apply qK) | ((with_reducible first | apply qQ | apply qI | apply qJ | apply qW | apply qX) <;> intro hb <;> (try simp only [hb]) <;> (try simp only [zF] at hb)) | with_reducible refine qO wV mixed (by kernel_rfl) ?_) <;> try simp only [qV, qF, qL, qN, qG, qC, qM, reduceIte, seval, Int.cast_ofNat_Int, qY, qZ, qU, zR, zT, zU, uH, wV]))
    refine ⟨⟨k3, j3, _, l2, rfl, y7.upS fun id => ?_⟩, s7⟩
    rw [hSn]
    simp only
    by_cases hid : uZ 0 (M.map (·.2)) id = []
    · rw [hid]; split <;> rfl
    · obtain ⟨q, hq, hk⟩ := x.key hid
      rw [if_pos]
      rw [List.any_eq_true]
      obtain ⟨z', hz', e⟩ := List.mem_map.1 (hall q hq)
      have : z' = q := by simp at e; omega
      subst this
      exact ⟨z', hz', by simpa using hk⟩
  obtain ⟨kb, rfl, hkq, hfd⟩ := qC5 l z key v x.ok x.ks.1 hkey hv
  have hid : qC7 l z = kb.data.toList := by unfold qC7; rw [hkq]; rfl
  generalize hh8 : vU h7 (it + 1) _ = h8
  have m8 : h8 (it + 1) = some ⟨IT :: .map (some j) :: .int .i64 (((xO l).length : Nat) : Int) :: (is.map (fun q : Nat => .int .i64 (q : Int)) ++ [.int .i64 (z : Int)]), 0, true, false⟩ := by rw [← hh8]; exact zV _ _ _
  have f8 : ∀ i, i ≠ it + 1 → h8 i = h7 i := fun i hi => by rw [← hh8]; exact xD _ _ hi
  have s8 : HS h h8 := s7.upd nit f8
  clear hh8
  have y8 := y7.oth m7 rfl (by simp [wX]) f8 itk itj
  refine qS ?_; repeat' (first | (with_reducible first | apply qH | apply qB) | ((first | (with_reducible apply qR) | (with_reducible first | apply qA | apply qP | apply qD | apply qE | apply qK) | ((with_reducible first | apply qQ | apply qI | apply qJ | apply qW | apply qX) <;> intro hb <;> (try simp only [hb]) <;> (try simp only [zF] at hb)) | with_reducible refine qO wV mixed (by kernel_rfl) ?_) <;> try simp only [qV, qF, qL, qN, qG, qC, qM, reduceIte, seval, Int.cast_ofNat_Int, qY, qZ, qU, zR, zT, zU, uH, wV]))
  refine ⟨it, j, (xO l).length, z, is.map (fun q : Nat => .int .i64 (q : Int)), _, l, .string kb, v, rfl, m8, rfl, hmo s8, hml, hkey, hv, ?_⟩
  have nd' : (is ++ [z]).Nodup := by
    rw [List.nodup_append]
    refine ⟨nd, by simp, fun a ha b hb e => hns ?_⟩
    obtain rfl := List.mem_singleton.1 hb
    rw [← e]
    exact List.mem_map.2 ⟨a, ha, rfl⟩
  have lt' : ∀ y ∈ is ++ [z], y < (xO l).length := fun y hy => by
    rcases List.mem_append.1 hy with hy | hy
    · exact lt y hy
    · obtain rfl := List.mem_singleton.1 hy; exact hq
  have hlen' := gQ _ _ nd' lt'
  rw [List.length_append, List.length_singleton] at hlen'
  have hv' : v = qK7 l kb.data.toList := by
    unfold qK7
    have : yT kb.data.toList = kb := by simp [yT]
    rw [this, hfd]; rfl
  have osp := (x.sp kb.data.toList).hs s8
  rw [← hv'] at osp
  have hsl : (uZ 0 (M.map (·.2)) kb.data.toList).length ≤ 1000000 := by
    have := sG kb.data.toList (M.map (·.2)) 0
    have := x.tt
    omega
  have ho8 := y8.obj
  refine qS ?_; repeat' (first | (with_reducible first | apply qH | apply qB) | ((first | (with_reducible apply qR) | (with_reducible first | apply qA | apply qP | apply qD | apply qE | apply qK) | ((with_reducible first | apply qQ | apply qI | apply qJ | apply qW | apply qX) <;> intro hb <;> (try simp only [hb]) <;> (try simp only [zF] at hb)) | with_reducible refine qO wV mixed (by kernel_rfl) ?_) <;> try simp only [qV, qF, qL, qN, qG, qC, qM, reduceIte, seval, Int.cast_ofNat_Int, qY, qZ, qU, zR, zT, zU, uH, wV, qT ho8 pA]))
  refine (qG5 N osp hsl (qF4 _)).mono ?_
  rintro v9 h9 ⟨o9, s9⟩
  have y9 := y8.hs s9
  refine qS ?_; repeat' (first | (with_reducible first | apply qH | apply qB) | ((first | (with_reducible apply qR) | (with_reducible first | apply qA | apply qP | apply qD | apply qE | apply qK) | ((with_reducible first | apply qQ | apply qI | apply qJ | apply qW | apply qX) <;> intro hb <;> (try simp only [hb]) <;> (try simp only [zF] at hb)) | with_reducible refine qO wV mixed (by kernel_rfl) ?_) <;> try simp only [qV, qF, qL, qN, qG, qC, qM, reduceIte, seval, Int.cast_ofNat_Int, qY, qZ, qU, zR, zT, zU, uH, wV]))
  refine ⟨by rw [qT y9.obj pA]; rfl, ?_⟩
  refine qY1 y9.mp y9.ok sm89 fun h10 m10 f10 => ?_
  refine qS ?_; repeat' (first | (with_reducible first | apply qH | apply qB) | ((first | (with_reducible apply qR) | (with_reducible first | apply qA | apply qP | apply qD | apply qE | apply qK) | ((with_reducible first | apply qQ | apply qI | apply qJ | apply qW | apply qX) <;> intro hb <;> (try simp only [hb]) <;> (try simp only [zF] at hb)) | with_reducible refine qO wV mixed (by kernel_rfl) ?_) <;> try simp only [qV, qF, qL, qN, qG, qC, qM, reduceIte, seval, Int.cast_ofNat_Int, qY, qZ, qU, zR, zT, zU, uH, wV]))
  have hbk : yT kb.data.toList = kb := by simp [yT]
  obtain ⟨a9, c9, rfl⟩ := o9.form
  have hS1 : Sn (is ++ [z]) kb.data.toList = uZ 0 (M.map (·.2)) kb.data.toList := by
    rw [hSn]
    simp only
    rw [if_pos (by rw [List.any_append, Bool.or_eq_true]; exact .inr (by simp [hid]))]
  have hne : uZ 0 (M.map (·.2)) kb.data.toList ≠ [] := x.ks.2.1 kb (List.mem_of_getElem? hkq)
  have m10' : h10 (j3 + 1) = some ⟨MM :: jD (yT kb.data.toList) (.slice a9 (uZ 0 (M.map (·.2)) kb.data.toList).length c9) l2, 0, true, false⟩ := by rw [hbk]; exact m10
  have y10 := IS.put (S' := Sn (is ++ [z])) y9 kb.data.toList m10' f10 rfl (by rw [hS1]; exact o9.weak (H0.hs _)) (fun i hi => by
    rw [hSn]
    simp only
    rw [List.any_append]
    have : ([z].any fun q => qC7 l q == i) = false := by simp only [List.any_cons, List.any_nil, Bool.or_false, hid]; simpa using fun h => hi h.symm
    rw [this, Bool.or_false]) (by rw [hS1]; exact hne)
  rw [hbk] at y10
  have s10 : HS h h10 := (s8.trans s9).upd n5h f10
  refine ⟨(xO l).length - (is ++ [z]).length, (), ?_, (by simp only [List.forall_mem_cons, List.not_mem_nil, false_implies, implies_true, List.map, List.cons_append, List.nil_append, lk, Nat.reduceEqDiff, reduceIte, and_true, true_and]), s10, is ++ [z], _, rfl, nd', lt', ?_, y10⟩
  · rw [List.length_append, List.length_singleton]; omega
  · rw [f10 _ itj, s9 _ _ m8, List.map_append]; rfl
end
theorem dC : type_of% (And.intro gY (And.intro wT (And.intro uN (And.intro wM (And.intro jZ (And.intro yL (And.intro wZ rs37))))))) := And.intro gY (And.intro wT (And.intro uN (And.intro wM (And.intro jZ (And.intro yL (And.intro wZ rs37))))))
theorem kC : type_of% (And.intro gY (And.intro wT (And.intro uN (And.intro wM (And.intro jZ (And.intro wZ rs40)))))) := And.intro gY (And.intro wT (And.intro uN (And.intro wM (And.intro jZ (And.intro wZ rs40)))))
def vR : Nat → List (Nat × List Nat) × List Nat
  | 2 => ([(0, []), (1, []), (2, []), (3, []), (4, []), (6, []), (7, []), (8, []), (9, []), (10, []), (5, [10]), (11, []), (12, []), (13, []), (14, []), (15, [])], [0, 0, 2, 6, 14, 31, 0, 0, 128, 384, 896, 2047, 4095, 8191, 16383, 32767])
  | _ => ([], [])
theorem qE3 : type_of% (And.intro Try.underlying136 (And.intro Try.underlying89 (And.intro wT (And.intro jA (And.intro vY (And.intro wM (And.intro vQ (And.intro wZ (And.intro uP (And.intro yK (And.intro jJ rs41))))))))))) := And.intro Try.underlying136 (And.intro Try.underlying89 (And.intro wT (And.intro jA (And.intro vY (And.intro wM (And.intro vQ (And.intro wZ (And.intro uP (And.intro yK (And.intro jJ rs41))))))))))
theorem qE2 : type_of% (And.intro wT (And.intro wN (And.intro uM (And.intro wZ (And.intro jV (And.intro lU rs93)))))) := And.intro wT (And.intro wN (And.intro uM (And.intro wZ (And.intro jV (And.intro lU rs93)))))
def rB : Nat → List (Nat × List Nat) × List Nat
  | 6 => ([(0, []), (1, []), (2, []), (3, []), (4, []), (5, []), (6, []), (7, []), (8, []), (9, []), (10, []), (11, []), (12, []), (13, []), (14, []), (15, []), (16, []), (17, []), (18, []), (19, []), (20, []), (21, []), (22, []), (23, []), (24, []), (25, []), (26, []), (27, [])], [0, 0, 3, 7, 15, 31, 0, 0, 192, 448, 960, 1984, 4095, 8191, 16383, 16383, 65535, 131071, 262143, 524287, 16383, 16383, 3162111, 7356415, 15745023, 32522239, 67108863, 134217727])
  | _ => ([], [])
theorem c_rNew (N : Nat) (h : GH) (p : Pm) : GTri Try.prog N 37 [p.v] h fun v h' => (p.check ≠ 0 ∧ v = .tuple #[.pointer none, .int .i64 p.check] ∨ p.check = 0 ∧ ∃ k tv bv ts cs, v = .tuple #[.pointer (some ⟨k, 0, none⟩), .int .i64 0] ∧ RM h h' k p tv bv ts cs [(0, [])] 0) ∧ HS h h' := by
  have hv : p.v = .agg #[.int .i64 p.s, .int .i64 p.ht, .int .i64 p.mi, .int .i64 p.my, .int .i64 p.ch, .int .i64 p.ar, .int .i64 p.ca, .int .i64 p.pg] := rfl
  refine wQ Try.func37 rfl gf37 ok37 (by simp [Try.ntmps37]) ?_
  repeat' (first | (with_reducible first | apply qH | apply qB) | ((first | (with_reducible first | apply qA | apply qP | apply qD | apply qE | apply qK) | ((with_reducible first | apply qQ | apply qI | apply qJ) <;> intro hb <;> (try simp only [hb]) <;> (try simp only [zF] at hb))) <;> try simp only [qV, qF, qL, qN, qG, qC, qM, reduceIte, seval, Int.cast_ofNat_Int, qY, qZ, dC, hv]))
  refine wY rfl fun k1 h1 m1 s1 f1 n1 => ?_
  refine qS ?_; repeat' (first | (with_reducible first | apply qH | apply qB) | ((first | (with_reducible apply qR) | (with_reducible first | apply qA | apply qP | apply qD | apply qE | apply qK) | ((with_reducible first | apply qQ | apply qI | apply qJ) <;> intro hb <;> (try simp only [hb]) <;> (try simp only [zF] at hb))) <;> try simp only [qV, qF, qL, qN, qG, qC, qM, reduceIte, seval, Int.cast_ofNat_Int, qY, qZ, dC, zI m1 kW rfl]))
  rw [← hv]
  refine (c_rcheck N h1 p).mono ?_
  rintro _ h2 ⟨rfl, s2⟩
  have m2 := s2 _ _ m1
  by_cases hc : p.check = 0
  case neg =>
    have d1 : (p.check != 0) = true := by simpa using hc
    refine qS ?_; repeat' (first | (with_reducible first | apply qH | apply qB) | ((first | (with_reducible apply qR) | (with_reducible first | apply qA | apply qP | apply qD | apply qE | apply qK) | ((with_reducible first | apply qQ | apply qI | apply qJ) <;> intro hb <;> (try simp only [hb]) <;> (try simp only [zF] at hb))) <;> try simp only [qV, qF, qL, qN, qG, qC, qM, reduceIte, seval, Int.cast_ofNat_Int, qY, qZ, dC, d1]))
    exact ⟨.inl hc, s1.trans s2⟩
  have d1 : (p.check != 0) = false := by simpa using hc
  refine qS ?_; repeat' (first | (with_reducible first | apply qH | apply qB) | ((first | (with_reducible apply qR) | (with_reducible first | apply qA | apply qP | apply qD | apply qE | apply qK) | ((with_reducible first | apply qQ | apply qI | apply qJ) <;> intro hb <;> (try simp only [hb]) <;> (try simp only [zF] at hb))) <;> try simp only [qV, qF, qL, qN, qG, qC, qM, reduceIte, seval, Int.cast_ofNat_Int, qY, qZ, dC, d1, zI m2 kW rfl]))
  refine gV sW rfl rfl (by decide) (by decide) rfl fun k3 h3 m3 s3 f3 n3 => ?_
  refine qS ?_; repeat' (first | (with_reducible first | apply qH | apply qB) | ((first | (with_reducible apply qR) | (with_reducible first | apply qA | apply qP | apply qD | apply qE | apply qK) | ((with_reducible first | apply qQ | apply qI | apply qJ) <;> intro hb <;> (try simp only [hb]) <;> (try simp only [zF] at hb))) <;> try simp only [qV, qF, qL, qN, qG, qC, qM, reduceIte, seval, Int.cast_ofNat_Int, qY, qZ, dC, zI (s3 _ _ m2) kW rfl]))
  refine gV qR4 rfl rfl (by decide) (by decide) rfl fun k4 h4 m4 s4 f4 n4 => ?_
  refine qS ?_; repeat' (first | (with_reducible first | apply qH | apply qB) | ((first | (with_reducible apply qR) | (with_reducible first | apply qA | apply qP | apply qD | apply qE | apply qK) | ((with_reducible first | apply qQ | apply qI | apply qJ) <;> intro hb <;> (try simp only [hb]) <;> (try simp only [zF] at hb))) <;> try simp only [qV, qF, qL, qN, qG, qC, qM, reduceIte, seval, Int.cast_ofNat_Int, qY, qZ, dC, xL, xT, vB, Shape.pl, List.all_cons, List.all_nil, zA]))
  refine wY rfl fun k5 h5 m5 s5 f5 n5 => ?_
  refine qS ?_; repeat' (first | (with_reducible first | apply qH | apply qB) | ((first | (with_reducible apply qR) | (with_reducible first | apply qA | apply qP | apply qD | apply qE | apply qK) | ((with_reducible first | apply qQ | apply qI | apply qJ) <;> intro hb <;> (try simp only [hb]) <;> (try simp only [zF] at hb))) <;> try simp only [qV, qF, qL, qN, qG, qC, qM, reduceIte, seval, Int.cast_ofNat_Int, qY, qZ, dC]))
  have s14 := ((s1.trans s2).trans s3).trans s4
  have s15 := s14.trans s5
  have n3h : h k3 = none := (s1.trans s2).none_of n3
  have n4h : h k4 = none := ((s1.trans s2).trans s3).none_of n4
  have hmay : p.may = true := by
    unfold Pm.check at hc
    cases hm : p.may with
    | true => rfl
    | false => rw [hm] at hc; simp at hc
  have one : ∀ (x : Int × List Bnd), x ∈ [((0 : Int), ([] : List Bnd))] → x = (0, []) := fun x hx => List.mem_singleton.1 hx
  refine ⟨.inr ⟨hc, k5, .slice (some ⟨k3, 0, none⟩) 1 3, .slice (some ⟨k4, 0, none⟩) 1 3, [.int .i64 0], [.slice none 0 0], rfl, ?_⟩, s15⟩
  refine ⟨m5, s14.none_of n5, ⟨k3, 3, false, rfl, by simp, rfl, (s4.trans s5) _ _ m3, n3h, .inr ⟨rfl, rfl⟩⟩, rfl, ⟨k4, 3, false, rfl, by simp, rfl, s5 _ _ m4, n4h, .inr ⟨rfl, rfl⟩⟩, fun e x hx => ?_, rfl, fun x hx => ?_, by simp, by simp, rfl, by simp [gZ], hmay, List.pairwise_singleton _ _, fun x hx => by rw [one x hx]; exact Int.le_refl _, fun x hx => .inl (by rw [one x hx])⟩
  · have he : e = 0 := by have := (List.getElem?_eq_some_iff.1 hx).1; simp at this; omega
    subst he
    simp at hx
    subst hx
    exact ⟨_, rfl, [], OWNC.nil _ _ _, fun i p hp => by simp at hp⟩
  · rw [one x hx]
    exact ⟨fun y hy => by simp at hy, by simp⟩
theorem OWNC.owx {h0 h : GH} {v : Value} {n : Nat} {cs : List Value} (o : OWNC 1 h0 h v n cs) (hn : n ≠ 0) : OWX h0 h v n cs := by
  rcases o with ⟨_, q, _⟩ | ⟨_, _, q, _⟩ | ⟨k2, c2, g1, g2, g3, g4, g5, g6, g7⟩
  · exact absurd q hn
  · exact absurd q hn
  · exact ⟨k2, c2, true, g1, g4, g5, g6, g7, .inl ⟨rfl, g2, g3⟩⟩
section
variable {h0 h : GH} {k : Nat} {p : Pm} {tv bv : Value} {ts cs : List Value} {M : List (Int × List Bnd)} {ck : Int}
theorem OWX.src (o : OWX h0 h tv M.length ts) : jM h 1 tv = some (M.length, ts) := by
  obtain ⟨kb, c, tl, rfl, h2, h3, h4, h5⟩ := o
  have := vA h4 (o := 0) (n := M.length * 1) (cs := ts) (by rw [List.drop_zero, ← h3]; exact List.take_length) h3
  simp only [jM, this]; rfl
theorem c_rCopy (N : Nat) (x : RM h0 h k p tv bv ts cs M ck) : GTri Try.prog N 40 [.pointer (some ⟨k, 0, none⟩)] h fun v h' => (∃ k3 tv' bv', v = .pointer (some ⟨k3, 0, none⟩) ∧ RM h h' k3 p tv' bv' ts cs M ck) ∧ HS h h' := by
  have hML := x.len
  obtain ⟨at0, ct0, et⟩ := x.tm.form
  obtain ⟨ab0, cb0, eb⟩ := x.bat.form
  subst et
  subst eb
  have ho := x.obj
  refine wQ Try.func40 rfl gf40 ok40 (by simp [Try.ntmps40]) ?_
  refine qS ?_; repeat' (first | (with_reducible first | apply qH | apply qB) | ((first | (with_reducible apply qR) | (with_reducible first | apply qA | apply qP | apply qD | apply qE | apply qK) | ((with_reducible first | apply qQ | apply qI | apply qJ | apply qW | apply qX) <;> intro hb <;> (try simp only [hb]) <;> (try simp only [zF] at hb)) | with_reducible refine qO vR mixed (by kernel_rfl) ?_) <;> try simp only [qV, qF, qL, qN, qG, qC, qM, reduceIte, seval, Int.cast_ofNat_Int, qY, qZ, qU, zR, zT, zU, kC, vR, gNil, zI ho sz85 rfl]))
  refine xW fun k3 h1 m1 s1 f1 n1 => ?_
  refine qS ?_; repeat' (first | (with_reducible first | apply qH | apply qB) | ((first | (with_reducible apply qR) | (with_reducible first | apply qA | apply qP | apply qD | apply qE | apply qK) | ((with_reducible first | apply qQ | apply qI | apply qJ | apply qW | apply qX) <;> intro hb <;> (try simp only [hb]) <;> (try simp only [zF] at hb)) | with_reducible refine qO vR mixed (by kernel_rfl) ?_) <;> try simp only [qV, qF, qL, qN, qG, qC, qM, reduceIte, seval, Int.cast_ofNat_Int, qY, qZ, qU, zR, zT, zU, kC, vR]))
  refine zM m1 sz85 rfl (by decide) rfl rfl rfl fun h2 m2 f2 => ?_
  have s2 : HS h h2 := (HS.refl h).upd n1 (fun j hj => (f2 j hj).trans (f1 j hj))
  have ho2 := s2 _ _ ho
  have x2 := x.hs s2
  refine qS ?_; repeat' (first | (with_reducible first | apply qH | apply qB) | ((first | (with_reducible apply qR) | (with_reducible first | apply qA | apply qP | apply qD | apply qE | apply qK) | ((with_reducible first | apply qQ | apply qI | apply qJ | apply qW | apply qX) <;> intro hb <;> (try simp only [hb]) <;> (try simp only [zF] at hb)) | with_reducible refine qO vR mixed (by kernel_rfl) ?_) <;> try simp only [qV, qF, qL, qN, qG, qC, qM, reduceIte, seval, Int.cast_ofNat_Int, qY, qZ, qU, zR, zT, zU, kC, vR, gNil, qT ho2 kV, qT ho2 kX]))
  have iz : (!(#[] : Array (Nat × Operand)).size == 0) = false := rfl
  have ut : ts.all wX = true ∧ ts.all zA = true := by
    rw [x.tms, List.all_eq_true, List.all_eq_true]
    exact ⟨fun v hv => by obtain ⟨y, _, rfl⟩ := List.mem_map.1 hv; rfl, fun v hv => by obtain ⟨y, _, rfl⟩ := List.mem_map.1 hv; rfl⟩
  have uc : cs.all zA = true := all_el (n := M.length) (es := 1) (by decide) x.bat.len fun i hi => by
    obtain ⟨y, hy⟩ := vC hi
    obtain ⟨v, hv, bt⟩ := x.bats i y hy
    obtain ⟨a, c', rfl, _⟩ := bt.rl.form
    have : (cs.drop (i * 1)).take 1 = [.slice a y.2.length c'] := by
      have h1 := List.getElem?_eq_some_iff.1 hv
      rw [Nat.mul_one, List.drop_eq_getElem_cons h1.1, h1.2]; rfl
    rw [this]; rfl
  refine qS ?_; repeat' (first | (with_reducible first | apply qH | apply qB) | ((first | (with_reducible apply qR) | (with_reducible first | apply qA | apply qP | apply qD | apply qE | apply qK) | ((with_reducible first | apply qQ | apply qI | apply qJ | apply qW | apply qX) <;> intro hb <;> (try simp only [hb]) <;> (try simp only [zF] at hb)) | with_reducible refine qO vR mixed (by kernel_rfl) ?_) <;> try simp only [qV, qF, qL, qN, qG, qC, qM, reduceIte, seval, Int.cast_ofNat_Int, qY, qZ, qU, zR, zT, zU, kC, vR, iz, qT ho2 kV, qT ho2 kX]))
  refine tH sW rfl ?_
  refine qS ?_; repeat' (first | (with_reducible first | apply qH | apply qB) | ((first | (with_reducible apply qR) | (with_reducible first | apply qA | apply qP | apply qD | apply qE | apply qK) | ((with_reducible first | apply qQ | apply qI | apply qJ | apply qW | apply qX) <;> intro hb <;> (try simp only [hb]) <;> (try simp only [zF] at hb)) | with_reducible refine qO vR mixed (by kernel_rfl) ?_) <;> try simp only [qV, qF, qL, qN, qG, qC, qM, reduceIte, seval, Int.cast_ofNat_Int, qY, qZ, qU, zR, zT, zU, kC, vR, iz, gNil, qT ho2 kV, qT ho2 kX]))
  refine tH qR4 rfl ?_
  refine qS ?_; repeat' (first | (with_reducible first | apply qH | apply qB) | ((first | (with_reducible apply qR) | (with_reducible first | apply qA | apply qP | apply qD | apply qE | apply qK) | ((with_reducible first | apply qQ | apply qI | apply qJ | apply qW | apply qX) <;> intro hb <;> (try simp only [hb]) <;> (try simp only [zF] at hb)) | with_reducible refine qO vR mixed (by kernel_rfl) ?_) <;> try simp only [qV, qF, qL, qN, qG, qC, qM, reduceIte, seval, Int.cast_ofNat_Int, qY, qZ, qU, zR, zT, zU, kC, vR, iz, gNil, qT ho2 kV, qT ho2 kX]))
  have tsrc := (x2.tm).src
  have hcl := x.bat.len
  have htl := x.tm.len
  refine wJ sW Try.underlying83 rfl (HS.refl h2) (OWNC.zero _ _ _ _) tsrc htl ut.2 (by omega) (by simp only [maxLen]; omega) fun v3 h3 s3 fr3 o3 => ?_
  rw [List.nil_append, Nat.zero_add] at o3
  have ho3 := s3 _ _ ho2
  have x3 := x2.hs s3
  refine qS ?_; repeat' (first | (with_reducible first | apply qH | apply qB) | ((first | (with_reducible apply qR) | (with_reducible first | apply qA | apply qP | apply qD | apply qE | apply qK) | ((with_reducible first | apply qQ | apply qI | apply qJ | apply qW | apply qX) <;> intro hb <;> (try simp only [hb]) <;> (try simp only [zF] at hb)) | with_reducible refine qO vR mixed (by kernel_rfl) ?_) <;> try simp only [qV, qF, qL, qN, qG, qC, qM, reduceIte, seval, Int.cast_ofNat_Int, qY, qZ, qU, zR, zT, zU, kC, vR, iz, gNil, qT ho3 kV, qT ho3 kX]))
  refine wJ qR4 Try.underlying22 rfl (HS.refl h3) (OWNC.zero _ _ _ _) (x3.bat).src hcl uc (by omega) (by simp only [maxLen]; omega) fun v4 h4 s4 fr4 o4 => ?_
  rw [List.nil_append, Nat.zero_add] at o4
  have hp := x.pos
  have w3 := ((o3.owx hp).hs s4).weak s2
  have w4 := (o4.owx hp).weak (s2.trans s3)
  obtain ⟨a3, c3, rfl⟩ := w3.form
  obtain ⟨a4, c4, rfl⟩ := w4.form
  have m4 := s4 _ _ (s3 _ _ m2)
  refine qS ?_; repeat' (first | (with_reducible first | apply qH | apply qB) | ((first | (with_reducible apply qR) | (with_reducible first | apply qA | apply qP | apply qD | apply qE | apply qK) | ((with_reducible first | apply qQ | apply qI | apply qJ | apply qW | apply qX) <;> intro hb <;> (try simp only [hb]) <;> (try simp only [zF] at hb)) | with_reducible refine qO vR mixed (by kernel_rfl) ?_) <;> try simp only [qV, qF, qL, qN, qG, qC, qM, reduceIte, seval, Int.cast_ofNat_Int, qY, qZ, qU, zR, zT, zU, kC, vR]))
  refine vN m4 kV rfl (by simp [vcells]) rfl rfl fun h5 m5 f5 => ?_
  simp only [vcells, List.set_cons_succ, List.set_cons_zero] at m5
  refine qS ?_; repeat' (first | (with_reducible first | apply qH | apply qB) | ((first | (with_reducible apply qR) | (with_reducible first | apply qA | apply qP | apply qD | apply qE | apply qK) | ((with_reducible first | apply qQ | apply qI | apply qJ | apply qW | apply qX) <;> intro hb <;> (try simp only [hb]) <;> (try simp only [zF] at hb)) | with_reducible refine qO vR mixed (by kernel_rfl) ?_) <;> try simp only [qV, qF, qL, qN, qG, qC, qM, reduceIte, seval, Int.cast_ofNat_Int, qY, qZ, qU, zR, zT, zU, kC, vR]))
  refine vN m5 kX rfl (by simp) rfl rfl fun h6 m6 f6 => ?_
  simp only [List.set_cons_succ, List.set_cons_zero] at m6
  refine qS ?_; repeat' (first | (with_reducible first | apply qH | apply qB) | ((first | (with_reducible apply qR) | (with_reducible first | apply qA | apply qP | apply qD | apply qE | apply qK) | ((with_reducible first | apply qQ | apply qI | apply qJ | apply qW | apply qX) <;> intro hb <;> (try simp only [hb]) <;> (try simp only [zF] at hb)) | with_reducible refine qO vR mixed (by kernel_rfl) ?_) <;> try simp only [qV, qF, qL, qN, qG, qC, qM, reduceIte, seval, Int.cast_ofNat_Int, qY, qZ, qU, zR, zT, zU, kC, vR]))
  have hx : HX k3 h4 h6 := fun i B q e => ((f6 i q).trans (f5 i q)).trans e
  have s24 := s3.trans s4
  have s06 : HS h h6 := (s2.trans s24).upd n1 fun j hj => (f6 j hj).trans (f5 j hj)
  exact ⟨⟨k3, _, _, rfl, m6, n1, w3.hx m4 (by simp) hx, x.tms, w4.hx m4 (by simp) hx, fun e b hb => by obtain ⟨v, h1, h2⟩ := x.bats e b hb; exact ⟨v, h1, h2.hs s06⟩, x.cu8, x.bl, x.len, x.pos, x.z0, x.tt, x.may, x.ri, x.rc, x.di⟩, s06⟩
end
section
variable {h0 h : GH} {k j : Nat} {p : Pm} {ew : Value} {cs l : List Value} {M : List (Int × List Bnd)} {ck : Int} {n : Nat}
theorem IS.setck2 {h' : GH} {ck' : Int} {S : List UInt8 → List (Nat × Nat)} (x : IS h0 h k j p ew cs l M ck n S)
    (m : h' k = some ⟨[.int .i64 p.s, .int .i64 p.ht, .int .i64 p.mi, .int .i64 p.my, .int .i64 p.ch, .int .i64 p.ar, .int .i64 p.ca, .int .i64 p.pg, ew, .int .i64 ck', .int .i64 (n : Int), .map (some j)], 0, true, false⟩) (f : ∀ i, i ≠ k → h' i = h i) (hc : ∀ y ∈ M, y.1 ≤ ck') : IS h0 h' k j p ew cs l M ck' n S := by
  have kj : k ≠ j + 1 := fun e => by have h1 := x.obj; rw [e, x.mp] at h1; cases h1
  obtain ⟨ae, ce, ee⟩ := x.ep.form
  have mf : MF h h' := MF.upd x.obj rfl (by rw [ee]; rfl) f
  exact ⟨m, x.nk, (f _ (Ne.symm kj)).trans x.mp, x.nj, x.ok, x.u8, x.ep.hx x.obj (by simp) (fun i B q e => (f i q).trans e), fun e b hb => by obtain ⟨v, h1, h2⟩ := x.eps e b hb; exact ⟨v, h1, h2.mf mf⟩, fun id => (x.sp id).mf1 mf, x.cu8, x.bl, x.len, x.tt, x.nch, x.may, x.ks.1, x.ks.2.1, x.ks.2.2.1, x.ks.2.2.2.1, hc⟩
theorem qY6 (ri : M.Pairwise (fun a b => a.1 ≤ b.1)) {y : Int × List Bnd} (hy : M[M.length - 1]? = some y) : ∀ z ∈ M, z.1 ≤ y.1 := fun z hz => by
  obtain ⟨i, hi⟩ := List.mem_iff_getElem?.1 hz
  have g1 := List.getElem?_eq_some_iff.1 hi
  have g2 := List.getElem?_eq_some_iff.1 hy
  have hl := g1.1
  by_cases e : i = M.length - 1
  · subst e; rw [hy] at hi; cases hi; exact Int.le_refl _
  · have := List.pairwise_iff_getElem.1 ri i (M.length - 1) g1.1 g2.1 (by omega)
    rw [g1.2, g2.2] at this
    exact this
theorem c_iBack (N : Nat) (s0 : HS h0 h) (x : IM h0 h k j p ew cs l M ck n) {y : Int × List Bnd} (hy : M[M.length - 1]? = some y) : GTri Try.prog N 41 [.pointer (some ⟨k, 0, none⟩)] h fun v h' => v = .tuple #[] ∧ HS h0 h' ∧ IM h0 h' k j p ew cs l M y.1 n ∧ HS (fF [k] h) h' := by
  obtain ⟨ae, ce, ee⟩ := x.ep.form
  refine wQ Try.func41 rfl gf41 ok41 (by simp [Try.ntmps41]) ?_
  refine qS ?_; repeat' (first | (with_reducible first | apply qH | apply qB) | ((first | (with_reducible apply qR) | (with_reducible first | apply qA | apply qP | apply qD | apply qE | apply qK) | ((with_reducible first | apply qQ | apply qI | apply qJ) <;> intro hb <;> (try simp only [hb]) <;> (try simp only [zF] at hb)) | ((refine GTri.mono (yU _ x) ?_); rintro _ _ ⟨rfl, hh9⟩; replace hh9 := hh9.symm; subst hh9) | ((refine GTri.mono (qS1 _ x) ?_); rintro _ _ ⟨rfl, hh9⟩; replace hh9 := hh9.symm; subst hh9)) <;> try simp only [qV, qF, qL, qN, qG, qC, qM, reduceIte, seval, Int.cast_ofNat_Int, qY, qZ, qE3, Bool.not_false]))
  refine (c_one N x hy).mono ?_
  rintro _ h1 ⟨⟨u, rfl, _⟩, s1⟩
  have x1 := x.hs s1
  have ho1 := x1.obj
  rw [ee] at ho1
  refine qS ?_; repeat' (first | (with_reducible first | apply qH | apply qB) | ((first | (with_reducible apply qR) | (with_reducible first | apply qA | apply qP | apply qD | apply qE | apply qK) | ((with_reducible first | apply qQ | apply qI | apply qJ) <;> intro hb <;> (try simp only [hb]) <;> (try simp only [zF] at hb))) <;> try simp only [qV, qF, qL, qN, qG, qC, qM, reduceIte, seval, Int.cast_ofNat_Int, qY, qZ, qE3, gNil, fQ]))
  refine vN ho1 wL rfl (by simp) rfl rfl fun h2 m2 f2 => ?_
  simp only [List.set_cons_succ, List.set_cons_zero] at m2
  rw [← ee] at m2
  refine qS ?_; repeat' (first | (with_reducible first | apply qH | apply qB) | ((first | (with_reducible apply qR) | (with_reducible first | apply qA | apply qP | apply qD | apply qE | apply qK) | ((with_reducible first | apply qQ | apply qI | apply qJ) <;> intro hb <;> (try simp only [hb]) <;> (try simp only [zF] at hb))) <;> try simp only [qV, qF, qL, qN, qG, qC, qM, reduceIte, seval, Int.cast_ofNat_Int, qY, qZ, qE3]))
  refine ⟨(s0.trans s1).upd x.nk f2, x1.setck2 m2 f2 (qY6 x.ks.2.2.2.1 hy), fun i B e => ?_⟩
  unfold fF at e
  split at e
  · cases e
  · rename_i hi
    rw [f2 i (by simpa using hi)]
    exact s1 _ _ e
end
theorem pV {P : Program} {h : GH} {ad : Addr} {t n o : Nat} {cs : List Value} (hz : yH P t = some (false, 1)) (hr : xX h ad n = some cs) {v : Value} (hv : cs[o]? = some v) : xM P t h (.pointer (some ⟨ad.block, ad.off + o, none⟩)) = some v := by
  simp [xM, hz, rF hr hv]
theorem qS2 (N : Nat) (h : GH) {a b : Option Addr} {c d : Nat} {L M : List (List UInt8 × List UInt8)} (r1 : RL 2 Bd h (.slice a L.length c) L) (r2 : RL 2 Bd h (.slice b M.length d) M) (hL : L.length ≤ 140737488351232) : GTri Try.prog N 93 [.slice a L.length c, .slice b M.length d] h fun v h' => v = .bool (decide (L = M)) ∧ h' = h := by
  refine wQ Try.func93 rfl gf93 ok93 (by simp [Try.ntmps93]) ?_
  repeat' (first | (with_reducible first | apply qH | apply qB) | ((first | (with_reducible first | apply qA | apply qP | apply qD | apply qE | apply qK) | ((with_reducible first | apply qQ | apply qI | apply qJ | apply qW | apply qX) <;> intro hb <;> (try simp only [hb]) <;> (try simp only [zF] at hb)) | with_reducible refine qO rB mixed (by kernel_rfl) ?_) <;> try simp only [qV, qF, qL, qN, qG, qC, qM, reduceIte, seval, Int.cast_ofNat_Int, qY, qZ, qU, zR, zT, zU, qE2, rB]))
  · have : L ≠ M := fun e => hb (by rw [e])
    simp [this]
  have hb' : M.length = L.length := by omega
  refine wI [0, 1, 12] (fun (i : Nat) => [(13, .int .i64 (i : Int))]) (fun q i h' => L.length - i = q ∧ i ≤ L.length ∧ L.take i = M.take i ∧ h = h') L.length 0 (by simp [lk]) ⟨rfl, by omega, rfl, rfl⟩ ?_
  rintro _ i _ ⟨rfl, hi, te, rfl⟩
  by_cases hil : i < L.length
  case neg =>
    have d3 : decide ((i : Int) < (L.length : Int)) = false := decide_eq_false (by omega)
    obtain rfl : i = L.length := by omega
    rw [List.take_length, ← hb', List.take_length] at te
    refine qS ?_; repeat' (first | (with_reducible first | apply qH | apply qB) | ((first | (with_reducible apply qR) | (with_reducible first | apply qA | apply qP | apply qD | apply qE | apply qK) | ((with_reducible first | apply qQ | apply qI | apply qJ | apply qW | apply qX) <;> intro hb <;> (try simp only [hb]) <;> (try simp only [zF] at hb)) | with_reducible refine qO rB mixed (by kernel_rfl) ?_) <;> try simp only [qV, qF, qL, qN, qG, qC, qM, reduceIte, seval, Int.cast_ofNat_Int, qY, qZ, qU, zR, zT, zU, qE2, rB, d3]))
    simp [te]
  have d3 : decide ((i : Int) < (L.length : Int)) = true := decide_eq_true (by omega)
  have wi : IntKind.i64.wrap ((i : Int) + 1) = ((i + 1 : Nat) : Int) := by rw [wrap64 (by omega) (by omega)]; omega
  obtain ⟨x, hx⟩ : ∃ x, L[i]? = some x := ⟨_, List.getElem?_eq_getElem hil⟩
  obtain ⟨y, hy⟩ : ∃ y, M[i]? = some y := ⟨_, List.getElem?_eq_getElem (by omega)⟩
  obtain ⟨ad, cs2, g1, g2, a', n', c', b', m', d', rfl, p1, p2⟩ := r1.at (P := Try.prog) Try.underlying23 uQ hx
  obtain ⟨ae, cs3, g3, g4, a'', n'', c'', b'', m'', d'', rfl, p3, p4⟩ := r2.at (P := Try.prog) Try.underlying23 uQ hy
  have e1 := pV (P := Try.prog) (o := 0) wK g2 rfl
  have e2 := pV (P := Try.prog) (o := 1) wK g2 rfl
  have e3 := pV (P := Try.prog) (o := 0) wK g4 rfl
  have e4 := pV (P := Try.prog) (o := 1) wK g4 rfl
  refine qS ?_; repeat' (first | (with_reducible first | apply qH | apply qB) | ((first | (with_reducible apply qR) | (with_reducible first | apply qA | apply qP | apply qD | apply qE | apply qK) | ((with_reducible first | apply qQ | apply qI | apply qJ | apply qW | apply qX) <;> intro hb <;> (try simp only [hb]) <;> (try simp only [zF] at hb)) | with_reducible refine qO rB mixed (by kernel_rfl) ?_) <;> try simp only [qV, qF, qL, qN, qG, qC, qM, reduceIte, seval, Int.cast_ofNat_Int, qY, qZ, qU, zR, zT, zU, qE2, rB, d3, g1, g3, e1, e2, e3, e4, p1.conv Try.underlying24 Try.underlying5 Try.underlying9, p2.conv Try.underlying24 Try.underlying5 Try.underlying9, p3.conv Try.underlying24 Try.underlying5 Try.underlying9, p4.conv Try.underlying24 Try.underlying5 Try.underlying9, sT, wi, gPick]))
  rotate_left 2
  · rename_i e5 e6
    refine ⟨_, i + 1, ?_, (by simp only [List.forall_mem_cons, List.not_mem_nil, false_implies, implies_true, List.map, List.cons_append, List.nil_append, lk, Nat.reduceEqDiff, reduceIte, and_true, true_and]), rfl, by omega, ?_⟩
    · omega
    · have exy : x = y := Prod.ext e6 hb
      rw [List.take_add_one, List.take_add_one, te, hx, hy, exy]
  all_goals
    have : L ≠ M := fun e => by
      rw [e, hy] at hx
      cases hx
      contradiction
    simp [this]
theorem jP : type_of% (And.intro gY (And.intro wT (And.intro uN (And.intro wM (And.intro jZ (And.intro vQ (And.intro uM (And.intro wZ (And.intro uP (And.intro yK (And.intro dZ rs43))))))))))) := And.intro gY (And.intro wT (And.intro uN (And.intro wM (And.intro jZ (And.intro vQ (And.intro uM (And.intro wZ (And.intro uP (And.intro yK (And.intro dZ rs43))))))))))
def vH : Nat → List (Nat × List Nat) × List Nat
  | 6 => ([(0, []), (1, []), (2, []), (3, []), (4, []), (5, []), (6, []), (7, []), (8, []), (9, []), (10, []), (11, []), (12, []), (13, []), (14, []), (15, [])], [0, 1, 3, 7, 0, 31, 63, 0, 128, 384, 896, 0, 3968, 8064, 127, 32767])
  | 9 => ([(0, []), (2, []), (1, []), (3, []), (4, []), (5, []), (6, []), (8, []), (7, []), (9, []), (10, []), (11, []), (12, []), (13, []), (15, []), (16, []), (17, []), (18, []), (14, [18]), (19, []), (20, []), (21, [])], [0, 1, 0, 7, 15, 31, 63, 127, 63, 511, 1023, 2047, 4095, 8191, 16383, 8191, 40959, 106495, 237567, 524287, 1048575, 2097151])
  | _ => ([], [])
section
variable {hx hr h : GH} {k j kr : Nat} {p p' : Pm} {ew tv bv : Value} {cs l ts bs : List Value} {M : List (Int × List Bnd)} {ck : Int} {n : Nat}
theorem mK (N : Nat) (x : IM hx h k j p ew cs l M ck n) (y : RM hr h kr p' tv bv ts bs M ck) :
    GTri Try.prog N 43 [.pointer (some ⟨k, 0, none⟩), .pointer (some ⟨kr, 0, none⟩)] h fun v h' => v = .bool true ∧ HS h h' := by
  have hML := x.len
  have hpos := y.pos
  have htt := x.tt
  obtain ⟨at0, ct0, et⟩ := y.tm.form
  obtain ⟨ab0, cb0, eb⟩ := y.bat.form
  subst et
  subst eb
  have wl : IntKind.i64.wrap (((M.length - 1 : Nat) : Int) + 1) = (M.length : Int) := by rw [wrap64 (by omega) (by omega)]; omega
  refine wQ Try.func43 rfl gf43 ok43 (by simp [Try.ntmps43]) ?_
  repeat' (first | (with_reducible first | apply qH | apply qB) | ((first | (with_reducible first | apply qA | apply qP | apply qD | apply qE | apply qK) | ((with_reducible first | apply qQ | apply qI | apply qJ | apply qW | apply qX) <;> intro hb <;> (try simp only [hb]) <;> (try simp only [zF] at hb)) | with_reducible refine qO vH mixed (by kernel_rfl) ?_) <;> try simp only [qV, qF, qL, qN, qG, qC, qM, reduceIte, seval, Int.cast_ofNat_Int, qY, qZ, qU, zR, zT, zU, jP, vH]))
  refine wI [0, 1] (fun (e : Int) => [(5, .int .i64 e)])
    (fun w e h' => ((M.length : Int) + 1 - e).toNat = w ∧ -1 ≤ e ∧ e ≤ (M.length : Int) + 1 ∧ HS h h') (M.length + 2) (-1) (by simp [lk]) ⟨by omega, by omega, by omega, HS.refl _⟩ ?_
  rintro _ e h1 ⟨rfl, he0, he1, s1⟩
  have x1 := x.hs s1
  have y1 := y.hs s1
  have ho1 := y1.obj
  by_cases hle : e ≤ (M.length : Int)
  case neg =>
    have d1 : decide (e ≤ (M.length : Int)) = false := decide_eq_false hle
    refine qS ?_; repeat' (first | (with_reducible first | apply qH | apply qB) | ((first | (with_reducible apply qR) | (with_reducible first | apply qA | apply qP | apply qD | apply qE | apply qK) | ((with_reducible first | apply qQ | apply qI | apply qJ | apply qW | apply qX) <;> intro hb <;> (try simp only [hb]) <;> (try simp only [zF] at hb)) | with_reducible refine qO vH mixed (by kernel_rfl) ?_ | ((refine GTri.mono (tD _ y1) ?_); rintro _ _ ⟨rfl, hh9⟩; replace hh9 := hh9.symm; subst hh9) | ((refine GTri.mono (qS1 _ x1) ?_); rintro _ _ ⟨rfl, hh9⟩; replace hh9 := hh9.symm; subst hh9) | ((refine GTri.mono (qG4 _ x1) ?_); rintro _ _ ⟨rfl, hh9⟩; replace hh9 := hh9.symm; subst hh9)) <;> try simp only [qV, qF, qL, qN, qG, qC, qM, reduceIte, seval, Int.cast_ofNat_Int, qY, qZ, qU, zR, zT, zU, jP, vH, wl, d1, gNil, beq_self_eq_true, gPick]))
    refine (qG3 N y1).mono ?_
    rintro _ h2 ⟨rfl, s2⟩
    have dn : ((n : Int) == (gZ (M.map (·.2)) : Int)) = true := by rw [htt]; exact beq_self_eq_true _
    refine qS ?_; repeat' (first | (with_reducible first | apply qH | apply qB) | ((first | (with_reducible apply qR) | (with_reducible first | apply qA | apply qP | apply qD | apply qE | apply qK) | ((with_reducible first | apply qQ | apply qI | apply qJ | apply qW | apply qX) <;> intro hb <;> (try simp only [hb]) <;> (try simp only [zF] at hb)) | with_reducible refine qO vH mixed (by kernel_rfl) ?_ | ((refine GTri.mono (c_iNow _ (x1.hs s2)) ?_); rintro _ _ ⟨rfl, hh9⟩; replace hh9 := hh9.symm; subst hh9)) <;> try simp only [qV, qF, qL, qN, qG, qC, qM, reduceIte, seval, Int.cast_ofNat_Int, qY, qZ, qU, zR, zT, zU, jP, vH, dn, gNil, beq_self_eq_true, gPick, qT (y1.hs s2).obj wL]))
    exact s1.trans s2
  have d1 : decide (e ≤ (M.length : Int)) = true := decide_eq_true hle
  have we : IntKind.i64.wrap (e + 1) = e + 1 := by rw [wrap64 (by omega) (by omega)]
  by_cases hin : 0 ≤ e ∧ e < (M.length : Int)
  case pos =>
    obtain ⟨m, rfl⟩ : ∃ m : Nat, e = (m : Int) := ⟨e.toNat, by omega⟩
    have d2 : decide ((m : Int) ≥ 0) = true := decide_eq_true (by omega)
    have d3 : decide ((m : Int) ≤ ((M.length - 1 : Nat) : Int)) = true := decide_eq_true (by omega)
    obtain ⟨z, hz⟩ := vC (show m < M.length by omega)
    obtain ⟨_, _, k5, _, g5, l5⟩ := y1.rlt hz
    obtain ⟨_, _, k6, a6, c6, _, g6, l6, rl6⟩ := y1.rlb hz
    refine qS ?_; repeat' (first | (with_reducible first | apply qH | apply qB) | ((first | (with_reducible apply qR) | (with_reducible first | apply qA | apply qP | apply qD | apply qE | apply qK) | ((with_reducible first | apply qQ | apply qI | apply qJ | apply qW | apply qX) <;> intro hb <;> (try simp only [hb]) <;> (try simp only [zF] at hb)) | with_reducible refine qO vH mixed (by kernel_rfl) ?_ | ((refine GTri.mono (tD _ y1) ?_); rintro _ _ ⟨rfl, hh9⟩; replace hh9 := hh9.symm; subst hh9)) <;> try simp only [qV, qF, qL, qN, qG, qC, qM, reduceIte, seval, Int.cast_ofNat_Int, qY, qZ, qU, zR, zT, zU, jP, vH, wl, d1, d2, d3, gNil, gPick, g5, l5, g6, l6, qT ho1 kV, qT ho1 kX]))
    refine (zA7 N x1 (m : Int)).mono ?_
    rintro _ h2 ⟨rfl, s2⟩
    have ht : (if (m : Int) < 0 then 0 else ((M[(m : Int).toNat]?).map (·.1)).getD 0) = z.1 := by rw [if_neg (by omega), Int.toNat_natCast, hz]; rfl
    rw [ht]
    refine qS ?_; repeat' (first | (with_reducible first | apply qH | apply qB) | ((first | (with_reducible apply qR) | (with_reducible first | apply qA | apply qP | apply qD | apply qE | apply qK) | ((with_reducible first | apply qQ | apply qI | apply qJ | apply qW | apply qX) <;> intro hb <;> (try simp only [hb]) <;> (try simp only [zF] at hb)) | with_reducible refine qO vH mixed (by kernel_rfl) ?_) <;> try simp only [qV, qF, qL, qN, qG, qC, qM, reduceIte, seval, Int.cast_ofNat_Int, qY, qZ, qU, zR, zT, zU, jP, vH, bne_self_eq_false, gPick]))
    refine (qJ6 N (x1.hs s2) (m : Int)).mono ?_
    rintro _ h3 ⟨⟨a3, c3, rfl, rl3⟩, s3⟩
    rw [if_neg (by omega), Int.toNat_natCast, uJ hz] at rl3 ⊢
    have hzl := (y.bl z (List.mem_of_getElem? hz)).2
    refine qS ?_; repeat' (first | (with_reducible first | apply qH | apply qB) | ((first | (with_reducible apply qR) | (with_reducible first | apply qA | apply qP | apply qD | apply qE | apply qK) | ((with_reducible first | apply qQ | apply qI | apply qJ | apply qW | apply qX) <;> intro hb <;> (try simp only [hb]) <;> (try simp only [zF] at hb)) | with_reducible refine qO vH mixed (by kernel_rfl) ?_) <;> try simp only [qV, qF, qL, qN, qG, qC, qM, reduceIte, seval, Int.cast_ofNat_Int, qY, qZ, qU, zR, zT, zU, jP, vH]))
    refine (qS2 N h3 rl3 (rl6.bs (s2.trans s3)) (by omega)).mono ?_
    rintro _ h4 ⟨rfl, rfl⟩
    have dt : decide (z.2 = z.2) = true := decide_eq_true rfl
    refine qS ?_; repeat' (first | (with_reducible first | apply qH | apply qB) | ((first | (with_reducible apply qR) | (with_reducible first | apply qA | apply qP | apply qD | apply qE | apply qK) | ((with_reducible first | apply qQ | apply qI | apply qJ | apply qW | apply qX) <;> intro hb <;> (try simp only [hb]) <;> (try simp only [zF] at hb)) | with_reducible refine qO vH mixed (by kernel_rfl) ?_) <;> try simp only [qV, qF, qL, qN, qG, qC, qM, reduceIte, seval, Int.cast_ofNat_Int, qY, qZ, qU, zR, zT, zU, jP, vH, dt, Bool.not_true, gPick, we]))
    exact ⟨_, (m : Int) + 1, by omega, (by simp only [List.forall_mem_cons, List.not_mem_nil, false_implies, implies_true, List.map, List.cons_append, List.nil_append, lk, Nat.reduceEqDiff, reduceIte, and_true, true_and]), rfl, by omega, by omega, (s1.trans s2).trans s3⟩
  have hb0 : (if e < 0 then [] else jI M e.toNat) = [] := by
    split
    · rfl
    · unfold jI; rw [List.getElem?_eq_none (by omega)]; rfl
  have ht0 : (if e < 0 then 0 else ((M[e.toNat]?).map (·.1)).getD 0) = 0 := by
    split
    · rfl
    · rw [List.getElem?_eq_none (by omega)]; rfl
  by_cases hneg : 0 ≤ e
  case' pos =>
    have d2 : decide (e ≥ 0) = true := decide_eq_true hneg
    have d3 : decide (e ≤ ((M.length - 1 : Nat) : Int)) = false := decide_eq_false (by omega)
  case' neg =>
    have d2 : decide (e ≥ 0) = false := decide_eq_false hneg
    have d3 := d2
  all_goals
    refine qS ?_; repeat' (first | (with_reducible first | apply qH | apply qB) | ((first | (with_reducible apply qR) | (with_reducible first | apply qA | apply qP | apply qD | apply qE | apply qK) | ((with_reducible first | apply qQ | apply qI | apply qJ | apply qW | apply qX) <;> intro hb <;> (try simp only [hb]) <;> (try simp only [zF] at hb)) | with_reducible refine qO vH mixed (by kernel_rfl) ?_ | ((refine GTri.mono (tD _ y1) ?_); rintro _ _ ⟨rfl, hh9⟩; replace hh9 := hh9.symm; subst hh9)) <;> try simp only [qV, qF, qL, qN, qG, qC, qM, reduceIte, seval, Int.cast_ofNat_Int, qY, qZ, qU, zR, zT, zU, jP, vH, wl, d1, d2, d3, gNil, gPick]))
    refine (zA7 N x1 e).mono ?_
    rintro _ h2 ⟨rfl, s2⟩
    rw [ht0]
    refine qS ?_; repeat' (first | (with_reducible first | apply qH | apply qB) | ((first | (with_reducible apply qR) | (with_reducible first | apply qA | apply qP | apply qD | apply qE | apply qK) | ((with_reducible first | apply qQ | apply qI | apply qJ | apply qW | apply qX) <;> intro hb <;> (try simp only [hb]) <;> (try simp only [zF] at hb)) | with_reducible refine qO vH mixed (by kernel_rfl) ?_) <;> try simp only [qV, qF, qL, qN, qG, qC, qM, reduceIte, seval, Int.cast_ofNat_Int, qY, qZ, qU, zR, zT, zU, jP, vH, bne_self_eq_false, gPick]))
    refine (qJ6 N (x1.hs s2) e).mono ?_
    rintro _ h3 ⟨⟨a3, c3, rfl, rl3⟩, s3⟩
    rw [hb0] at rl3 ⊢
    refine qS ?_; repeat' (first | (with_reducible first | apply qH | apply qB) | ((first | (with_reducible apply qR) | (with_reducible first | apply qA | apply qP | apply qD | apply qE | apply qK) | ((with_reducible first | apply qQ | apply qI | apply qJ | apply qW | apply qX) <;> intro hb <;> (try simp only [hb]) <;> (try simp only [zF] at hb)) | with_reducible refine qO vH mixed (by kernel_rfl) ?_) <;> try simp only [qV, qF, qL, qN, qG, qC, qM, reduceIte, seval, Int.cast_ofNat_Int, qY, qZ, qU, zR, zT, zU, jP, vH]))
    refine (qS2 N h3 (M := []) rl3 (RL.nil h3) (by simp)).mono ?_
    rintro _ h4 ⟨rfl, rfl⟩
    have dt : decide (([] : List Bnd) = []) = true := decide_eq_true rfl
    refine qS ?_; repeat' (first | (with_reducible first | apply qH | apply qB) | ((first | (with_reducible apply qR) | (with_reducible first | apply qA | apply qP | apply qD | apply qE | apply qK) | ((with_reducible first | apply qQ | apply qI | apply qJ | apply qW | apply qX) <;> intro hb <;> (try simp only [hb]) <;> (try simp only [zF] at hb)) | with_reducible refine qO vH mixed (by kernel_rfl) ?_) <;> try simp only [qV, qF, qL, qN, qG, qC, qM, reduceIte, seval, Int.cast_ofNat_Int, qY, qZ, qU, zR, zT, zU, jP, vH, dt, Bool.not_true, gPick, we]))
    exact ⟨_, e + 1, by omega, (by simp only [List.forall_mem_cons, List.not_mem_nil, false_implies, implies_true, List.map, List.cons_append, List.nil_append, lk, Nat.reduceEqDiff, reduceIte, and_true, true_and]), rfl, by omega, by omega, (s1.trans s2).trans s3⟩
end
theorem StepR.m0 {p : Pm} {M M' : List (Int × List Bnd)} {ck ck' : Int} {q : Ak} {A : An} (s : StepR p M ck q A M' ck') (m0 : M[0]? = some (0, [])) : M'[0]? = some (0, []) := by
  unfold StepR at s
  split at s
  · rw [s.2.1]
    split
    · rw [List.getElem?_append_left (List.getElem?_eq_some_iff.1 m0).1]; exact m0
    · exact m0
  split at s
  · rw [s.2]; exact m0
  · rw [s.2.1]; exact m0
theorem qD0 {h : GH} {ad : Addr} {n : Nat} {cs : List Value} (e : xX h ad n = some cs) {i : Nat} {u : Value} (hu : cs[i]? = some u) {B : GB} (hB : h ad.block = some B) : B.cells[ad.off + i]? = some u := by
  have e1 := rF e (i := i) hu
  simp only [xX, if_neg (show ¬ (1 : Nat) = 0 by decide), hB] at e1
  split at e1
  case isFalse => cases e1
  simp only [Option.some.injEq] at e1
  have := congrArg (·[0]?) e1
  simpa [List.getElem?_take, List.getElem?_drop] using this
section
variable {hr h : GH} {kr : Nat} {p : Pm} {tv bv : Value} {ts bs : List Value} {M : List (Int × List Bnd)} {ck : Int}
theorem RM.rls {α : Type} {es : Nat} {R : GH → List Value → α → Prop} {v : Value} {L : List α} (x : RM hr h kr p tv bv ts bs M ck) {tb bb : Nat} {t1 t2 : Bool} (ht : h tb = some ⟨ts, 1, true, t1⟩) (hbb : h bb = some ⟨bs, 1, true, t2⟩) (r : RL es R h v L) (hes : 3 ≤ es) (hk : ∀ cs y, R h cs y → ∃ u w, cs[0]? = some u ∧ cs[2]? = some w ∧ isS u ≠ isS w)
    {h' : GH} (s : HS (fF [kr, tb, bb] h) h') (hR : ∀ cs y, R h cs y → R h' cs y) : RL es R h' v L := by
  rcases r with r | ⟨ad, c, cz, g1, g2, g3, g4, g5⟩
  · exact .inl r
  · by_cases hL : L = []
    · subst hL
      refine .inr ⟨ad, c, cz, g1, ?_, g3, fun i x hx => by simp at hx, .inl (by simp)⟩
      simpa [xX] using g2
    · have hl0 : 0 < L.length := List.length_pos_iff.2 hL
      have hn0 : L.length * es ≠ 0 := by
        have := Nat.mul_le_mul hl0 hes
        omega
      rcases g5 with g5 | ⟨B, hB, hBw⟩
      · exact absurd g5 hn0
      obtain ⟨y, hy⟩ := vC hl0
      obtain ⟨u, w, q1, q2, q3⟩ := hk _ _ (g4 0 y hy)
      rw [Nat.zero_mul, List.drop_zero] at q1 q2
      rw [List.getElem?_take, if_pos (by omega)] at q1 q2
      have c1 := qD0 g2 q1 hB
      have c2 := qD0 g2 q2 hB
      have hne : ad.block ∉ [kr, tb, bb] := fun hm => by
        simp only [List.mem_cons, List.not_mem_nil, or_false] at hm
        rcases hm with hm | hm | hm
        · rw [hm, x.obj] at hB; cases hB; simp at hBw
        · rw [hm, ht] at hB
          cases hB
          have e : ∀ (i : Nat) v, ts[i]? = some v → isS v = false := fun i v hv => by
            rw [x.tms, List.getElem?_map] at hv
            obtain ⟨_, _, rfl⟩ := Option.map_eq_some_iff.1 hv
            rfl
          exact q3 (by rw [e _ _ c1, e _ _ c2])
        · rw [hm, hbb] at hB
          cases hB
          have e : ∀ (i : Nat) v, bs[i]? = some v → isS v = true := fun i v hv => by
            have hl := (List.getElem?_eq_some_iff.1 hv).1
            have hbl := x.bat.len
            obtain ⟨y, hy⟩ := vC (show i < M.length by omega)
            obtain ⟨v2, hv2, bt⟩ := x.bats i y hy
            obtain ⟨a, c', rfl, _⟩ := bt.rl.form
            rw [hv] at hv2
            cases hv2
            rfl
          exact q3 (by rw [e _ _ c1, e _ _ c2])
      have hB' : h' ad.block = some B := s _ _ (dO hB hne)
      refine .inr ⟨ad, c, cz, g1, ?_, g3, fun i y hy => hR _ _ (g4 i y hy), .inr ⟨B, hB', hBw⟩⟩
      unfold xX at g2 ⊢
      rw [if_neg hn0] at g2 ⊢
      rw [hB] at g2
      rw [hB']
      exact g2
theorem RM.mu (x : RM hr h kr p tv bv ts bs M ck) {tb bb : Nat} {t1 t2 : Bool} (ht : h tb = some ⟨ts, 1, true, t1⟩) (hb : h bb = some ⟨bs, 1, true, t2⟩) {h' : GH} (s : HS (fF [kr, tb, bb] h) h') : MU h h' := fun i B e hu => s _ _ (dO e fun hm => by
  have ut : ts.all wX = true := by
    rw [x.tms, List.all_eq_true]
    intro v hv
    obtain ⟨y, _, rfl⟩ := List.mem_map.1 hv
    rfl
  simp only [List.mem_cons, List.not_mem_nil, or_false] at hm
  rcases hm with rfl | rfl | rfl
  · rw [x.obj] at e
    cases e
    obtain ⟨_, _, e1⟩ := x.tm.form
    obtain ⟨_, _, e2⟩ := x.bat.form
    rw [e1, e2] at hu
    simp [wX] at hu
  · rw [ht] at e; cases e; rw [ut] at hu; cases hu
  · rw [hb] at e; cases e; rw [x.cu8] at hu; cases hu)
theorem ran_ref (x : RM hr h kr p tv bv ts bs M ck) {tb bb : Nat} {t1 t2 : Bool} (ht : h tb = some ⟨ts, 1, true, t1⟩) (hb : h bb = some ⟨bs, 1, true, t2⟩) {h' : GH} (s : HS (fF [kr, tb, bb] h) h') {v : Value} {A : An} (r : RAn h v A) : RAn h' v A := by
  have mu := x.mu ht hb s
  obtain ⟨a, b, c, d, e, f, rfl, r1, r2, r3⟩ := r
  refine ⟨a, b, c, d, e, f, rfl, r1.mu mu, x.rls ht hb r2 (by decide) (fun cs y q => ?_) s (fun cs y q => ?_), x.rls ht hb r3 (by decide) (fun cs y q => ?_) s (fun cs y q => ?_)⟩
  · obtain ⟨a, c, b, d, rfl, _⟩ := q
    exact ⟨_, _, rfl, rfl, by simp [isS]⟩
  · obtain ⟨a, c, b, d, e, r1, r2⟩ := q
    exact ⟨a, c, b, d, e, r1.mu mu, r2.mu mu⟩
  · obtain ⟨a, c, b, d, rfl, _⟩ := q
    exact ⟨_, _, rfl, rfl, by simp [isS]⟩
  · obtain ⟨a, c, b, d, e, r1, r2⟩ := q
    exact ⟨a, c, b, d, e, r1.mu mu, r2.mu mu⟩
end
section
variable {hs h : GH} {k j kr : Nat} {p : Pm} {M : List (Int × List Bnd)} {ck : Int}
def Pair (hs h : GH) (k j kr : Nat) (p : Pm) (M : List (Int × List Bnd)) (ck : Int) : Prop :=
  HS hs h ∧ M[0]? = some (0, []) ∧ (∃ ew cs l n, IM hs h k j p ew cs l M ck n) ∧ ∃ tv bv ts bs, RM hs h kr p tv bv ts bs M ck
theorem qO4 {hs h : GH} {ks : List Nat} (s : HS hs h) (n : ∀ i ∈ ks, hs i = none) : HS hs (fF ks h) := fun i B e => dO (s _ _ e) fun hm => by rw [n i hm] at e; cases e
theorem qY2 (N : Nat) (P0 : Pair hs h k j kr p M ck) {a d : Option Addr} {c g : Nat} (q : Ak) (r : RB hs (.slice a q.id.length c) q.id) (hid : q.id.length ≤ 140737488355328) (rb : RL 2 Bd hs (.slice d q.b.length g) q.b) (hb : q.b.length ≤ 140737488355328) :
    GTri Try.prog N 32 [.pointer (some ⟨k, 0, none⟩), .agg #[.int .i64 q.kd, .slice a q.id.length c, .int .i64 q.fr, .int .i64 q.to, .int .i64 q.tm, .bool q.sm, .int .i64 q.ep, .int .i64 q.ix, .int .i64 q.lm, .slice d q.b.length g]] h fun v h' =>
      ∃ A M' ck', StepR p M ck q A M' ck' ∧ RAn h' v A ∧ HS hs h' ∧ M[0]? = some (0, []) ∧ (∃ ew cs l n, IM hs h' k j p ew cs l M' ck' n) ∧ ∃ tv bv ts bs, RM hs h' kr p tv bv ts bs M ck := by
  obtain ⟨s0, m0, ⟨ew, cs, l, n, x⟩, tv, bv, ts, bs, y⟩ := P0
  obtain ⟨kb, tl, hkb, hkn, xo⟩ := IS.only x
  have sb : HS hs (fF [k, j + 1, kb] h) := qO4 s0 fun i hi => by
    simp only [List.mem_cons, List.not_mem_nil, or_false] at hi
    rcases hi with rfl | rfl | rfl
    · exact x.nk
    · exact x.nj
    · exact hkn
  refine (c_iDo N (qY3 _ _) xo q (r.hs s0) hid (rb.bs sb) hb).mono ?_
  rintro v h' ⟨A, M', ck', ew', cs', l', n', st, rA, s', x'⟩
  exact ⟨A, M', ck', st, rA, sb.trans s', m0, ⟨ew', cs', l', n', x'.weak sb⟩, tv, bv, ts, bs, RM.keep x hkb y s'⟩
theorem qO3 (N : Nat) {M1 : List (Int × List Bnd)} {ck1 : Int} (s0 : HS hs h) (m0 : M[0]? = some (0, [])) (m1 : M1[0]? = some (0, [])) {ew : Value} {cs l : List Value} {n : Nat} (x : IM hs h k j p ew cs l M1 ck1 n) {tv bv : Value} {ts bs : List Value} (y : RM hs h kr p tv bv ts bs M ck) {a d : Option Addr} {c g : Nat} (q : Ak) (hqe : (Lit.int .i64 q.ep).wf = true) (r : RB hs (.slice a q.id.length c) q.id) (hid : q.id.length ≤ 140737488355328) (rb : RL 2 Bd hs (.slice d q.b.length g) q.b) (hb : q.b.length ≤ 140737488355328) {v1 : Value} {A1 : An} (st1 : StepR p M ck q A1 M1 ck1) (r1 : RAn h v1 A1) :
    GTri Try.prog N 38 [.pointer (some ⟨kr, 0, none⟩), .agg #[.int .i64 q.kd, .slice a q.id.length c, .int .i64 q.fr, .int .i64 q.to, .int .i64 q.tm, .bool q.sm, .int .i64 q.ep, .int .i64 q.ix, .int .i64 q.lm, .slice d q.b.length g]] h fun v h' =>
      RAn h' v A1 ∧ RAn h' v1 A1 ∧ Pair hs h' k j kr p M1 ck1 := by
  obtain ⟨tb, bb, t1, t2, ht, hb2, nt, nb, yo⟩ := y.only
  have sb : HS hs (fF [kr, tb, bb] h) := qO4 s0 fun i hi => by
    simp only [List.mem_cons, List.not_mem_nil, or_false] at hi
    rcases hi with rfl | rfl | rfl
    · exact y.nk
    · exact nt
    · exact nb
  refine (c_rDo N (qY3 _ _) yo q hqe (r.hs s0) hid (rb.bs s0) hb).mono ?_
  rintro v h' ⟨A, M', ck', tv', bv', ts', bs', st, rA, s', y'⟩
  obtain ⟨rfl, rfl, rfl⟩ := st.uniq st1
  refine ⟨rA, ran_ref y ht hb2 s' r1, sb.trans s', m1, ⟨ew, cs, l, n, IS.keepR x y ht hb2 m1 m0 s'⟩, tv', bv', ts', bs', y'.weak sb⟩
end
end Go.Gh
