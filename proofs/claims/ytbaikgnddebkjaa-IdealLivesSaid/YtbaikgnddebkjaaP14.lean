/- Parts of this claim's proof, 14. No statement of the claim stands here. -/
import Derived.Test.YtbaikgnddebkjaaP13
namespace Go.Gh
open Go Go.Proofs Go.RowKit
set_option linter.unusedVariables false
set_option linter.unusedSimpArgs false
set_option maxRecDepth 100000
set_option maxHeartbeats 4000000
theorem wR : type_of% (And.intro gY (And.intro wT (And.intro wN (And.intro yX (And.intro yB (And.intro ty75 (And.intro uN (And.intro yW (And.intro wM (And.intro yV (And.intro jZ (And.intro vQ (And.intro uM (And.intro yL (And.intro wZ (And.intro uP (And.intro yK (And.intro dZ rs8)))))))))))))))))) := And.intro gY (And.intro wT (And.intro wN (And.intro yX (And.intro yB (And.intro ty75 (And.intro uN (And.intro yW (And.intro wM (And.intro yV (And.intro jZ (And.intro vQ (And.intro uM (And.intro yL (And.intro wZ (And.intro uP (And.intro yK (And.intro dZ rs8)))))))))))))))))
def zY : Nat → List (Nat × List Nat) × List Nat
  | 10 => ([(0, []), (1, []), (2, []), (3, []), (4, []), (5, []), (6, []), (7, []), (8, []), (9, []), (10, []), (12, []), (13, []), (11, [13]), (14, []), (15, []), (16, []), (17, [])], [0, 1, 3, 7, 15, 31, 63, 127, 255, 511, 511, 2047, 511, 511, 16383, 32767, 65535, 131071])
  | 19 => ([(0, []), (1, []), (2, []), (3, []), (4, []), (5, []), (6, []), (7, []), (8, []), (9, []), (10, []), (12, []), (13, []), (11, [13]), (14, []), (15, []), (16, []), (17, [])], [0, 1, 3, 7, 15, 31, 63, 127, 255, 511, 511, 2047, 511, 511, 16383, 32767, 65535, 131071])
  | 24 => ([(0, []), (1, []), (2, []), (3, []), (4, []), (5, []), (6, [4]), (7, []), (8, []), (9, []), (10, []), (11, [])], [0, 0, 2, 6, 14, 0, 32, 126, 254, 511, 1023, 2047])
  | _ => ([], [])
section
variable {hs h : GH} {k j kr : Nat} {p : Pm} {M : List (Int × List Bnd)} {ck : Int}
theorem Pair.new {h2 : GH} (P0 : Pair hs h k j kr p M ck) (t : HS h h2) : Pair (hN hs h h2) h2 k j kr p M ck := by
  obtain ⟨s0, m0, ⟨ew, cs, l, n, x⟩, tv, bv, ts, bs, y⟩ := P0
  exact ⟨qO9 s0 t, m0, ⟨ew, cs, l, n, x.new t⟩, tv, bv, ts, bs, y.new t⟩
theorem Pair.weak {ha : GH} (P0 : Pair hs h k j kr p M ck) (s : HS ha hs) : Pair ha h k j kr p M ck := by
  obtain ⟨s0, m0, ⟨ew, cs, l, n, x⟩, tv, bv, ts, bs, y⟩ := P0
  exact ⟨s.trans s0, m0, ⟨ew, cs, l, n, x.weak s⟩, tv, bv, ts, bs, y.weak s⟩
theorem Pair.up {h2 : GH} (P0 : Pair hs h k j kr p M ck) (t : HS h h2) : Pair hs h2 k j kr p M ck := by
  obtain ⟨s0, m0, ⟨ew, cs, l, n, x⟩, tv, bv, ts, bs, y⟩ := P0
  exact ⟨s0.trans t, m0, ⟨ew, cs, l, n, x.hs t⟩, tv, bv, ts, bs, y.hs t⟩
end
theorem RM.setck {h0 h h' : GH} {k : Nat} {p : Pm} {tv bv : Value} {ts cs : List Value} {M : List (Int × List Bnd)} {ck ck' : Int} (x : RM h0 h k p tv bv ts cs M ck)
    (m : h' k = some ⟨[.int .i64 p.s, .int .i64 p.ht, .int .i64 p.mi, .int .i64 p.my, .int .i64 p.ch, .int .i64 p.ar, .int .i64 p.ca, .int .i64 p.pg, tv, bv, .int .i64 ck'], 0, true, false⟩) (f : ∀ i, i ≠ k → h' i = h i) (hc : ∀ y ∈ M, y.1 ≤ ck') : RM h0 h' k p tv bv ts cs M ck' := by
  obtain ⟨_, _, e1⟩ := x.tm.form
  obtain ⟨_, _, e2⟩ := x.bat.form
  have mf : MF h h' := MF.upd x.obj rfl (by rw [e1, e2]; rfl) f
  have hx : HX k h h' := fun i B q e => (f i q).trans e
  exact ⟨m, x.nk, x.tm.hx x.obj (by simp) hx, x.tms, x.bat.hx x.obj (by simp) hx, fun e b hb => by obtain ⟨v, h1, h2⟩ := x.bats e b hb; exact ⟨v, h1, h2.mf mf⟩, x.cu8, x.bl, x.len, x.pos, x.z0, x.tt, x.may, x.ri, hc, x.di⟩
theorem StepR.lens {h0 h : GH} {k j : Nat} {p : Pm} {ew : Value} {cs l : List Value} {M M' : List (Int × List Bnd)} {ck ck' : Int} {n : Nat} (x : IM h0 h k j p ew cs l M ck n) {q : Ak} {A : An} (r : StepR p M ck q A M' ck') : A.its.length ≤ 1000000 ∧ A.evs.length ≤ 1000000 := by
  unfold StepR at r
  split at r
  · rw [r.1]; simp
  split at r
  · obtain ⟨r, _⟩ := r
    split at r
    · rw [r.1]; simp
    · rw [r.1]; simp
  · exact AnsR.lens x r.1
def AkR (h : GH) (cs : List Value) (q : Ak) : Prop := ∃ (a b : Option Addr) (c d : Nat), cs = q.cs (.slice a q.id.length c) (.slice b q.b.length d) ∧ RB h (.slice a q.id.length c) q.id ∧ RL 2 Bd h (.slice b q.b.length d) q.b ∧ q.wf
theorem AkR.hs {h h' : GH} (s : HS h h') {cs : List Value} {q : Ak} (r : AkR h cs q) : AkR h' cs q := by
  obtain ⟨a, b, c, d, e, r1, r2, w⟩ := r
  exact ⟨a, b, c, d, e, r1.hs s, r2.bs s, w⟩
def toAk (y : askTy.den) : Ak := match y with | (y0, y1, y2, y3, y4, y5, y6, y7, y8, y9, _) => ⟨y0, y1, y2, y3, y4, y5, y6, y7, y8, List.map toB y9⟩
theorem ask_R2 {h : GH} {cs : List Value} {y : askTy.den} (r : askTy.R h cs y) : AkR h cs (toAk y) := by
  obtain ⟨y0, y1, y2, y3, y4, y5, y6, y7, y8, y9, y10⟩ := y
  obtain ⟨_, _, rfl, _, ⟨rfl, w0⟩, _, _, rfl, _, ⟨v, rfl, r1, _⟩, _, _, rfl, _, ⟨rfl, w2⟩, _, _, rfl, _, ⟨rfl, w3⟩, _, _, rfl, _, ⟨rfl, w4⟩, _, _, rfl, _, rfl, _, _, rfl, _, ⟨rfl, w6⟩, _, _, rfl, _, ⟨rfl, w7⟩, _, _, rfl, _, ⟨rfl, w8⟩, _, _, rfl, _, ⟨w, rfl, r9, _⟩, rfl⟩ := r
  obtain ⟨a, c, rfl, _⟩ := r1.form
  have r9' : RL 2 Bd h w (List.map toB y9) := bat_R r9
  obtain ⟨b, d, rfl, _⟩ := r9'.form
  exact ⟨a, b, c, d, rfl, r1, r9', w0, w2, w3, w4, w6, w7, w8⟩
theorem ask_fits {y : askTy.den} (hf : askTy.fits y) : (toAk y).id.length ≤ 140737488355328 ∧ (toAk y).b.length ≤ 140737488355328 := by
  obtain ⟨y0, y1, y2, y3, y4, y5, y6, y7, y8, y9, y10⟩ := y
  obtain ⟨_, f1, _, _, _, _, _, _, _, f9, _⟩ := hf
  have f1' : List.length y1 ≤ 140737488351232 := f1
  exact ⟨Nat.le_trans f1' (by decide), (bat_fits f9).2⟩
theorem asks_ok : Ty.ok Try.prog (.sl askTy) 75 = true := by kernel_rfl
theorem arg_asks {H : Type} {enc : TypeId × Value → H} {W : World} {base b0 : Nat} {v : Value} {d : DataW H} {ps : List MemPlace} {r : Reach} (h : DataW.Trod enc Try.prog W base (fun _ => true) true 75 v d ps) (hok : Value.okWide Try.prog W r b0 75 v) :
    ∃ (l : List Ak) (a : Option Addr) (c : Nat), up W.heap.size v = .slice a l.length c ∧ RL 10 AkR (h0 W) (.slice a l.length c) l ∧ ((∀ n ∈ d.weights Try.prog 75, n ≤ reachBytes) → l.length ≤ 140737488355328 ∧ ∀ q ∈ l, q.id.length ≤ 140737488355328 ∧ q.b.length ≤ 140737488355328) := by
  obtain ⟨l, a, c, e, R, _, _, f⟩ := arg_sl askTy asks_ok h hok
  have hl : (l.map toAk).length = l.length := List.length_map _
  refine ⟨l.map toAk, a, c, by rw [hl]; exact e, by rw [hl]; exact RL.map (R' := AkR) R _ fun cs x hx => ask_R2 hx, fun w => ?_⟩
  have f := f w
  have f1 : List.length l ≤ 140737488351232 := f.1
  refine ⟨by rw [hl]; exact Nat.le_trans f1 (by decide), fun q hq => ?_⟩
  obtain ⟨y, hy, rfl⟩ := List.mem_map.1 hq
  exact ask_fits (f.2 y hy)
theorem c_IdealLives (N : Nat) (h : GH) (p : Pm) {a a2 : Option Addr} {c c2 : Nat} {l l2 : List Ak} (rl : RL 10 AkR h (.slice a l.length c) l) (hl : l.length ≤ 140737488355328) (hf : ∀ q ∈ l, q.id.length ≤ 140737488355328 ∧ q.b.length ≤ 140737488355328)
    (rl2 : RL 10 AkR h (.slice a2 l2.length c2) l2) (hl2 : l2.length ≤ 140737488355328) (hf2 : ∀ q ∈ l2, q.id.length ≤ 140737488355328 ∧ q.b.length ≤ 140737488355328) (back : Bool) :
    GTri Try.prog N 8 [p.v, .slice a l.length c, .slice a2 l2.length c2, .bool back] h fun v h' => v = .bool true := by
  have hv : p.v = .agg #[.int .i64 p.s, .int .i64 p.ht, .int .i64 p.mi, .int .i64 p.my, .int .i64 p.ch, .int .i64 p.ar, .int .i64 p.ca, .int .i64 p.pg] := rfl
  refine wQ Try.func8 rfl gf8 ok8 (by simp [Try.ntmps8]) ?_
  repeat' (first | (with_reducible first | apply qH | apply qB) | ((first | (with_reducible first | apply qA | apply qP | apply qD | apply qE | apply qK) | ((with_reducible first | apply qQ | apply qI | apply qJ | apply qW | apply qX) <;> intro hb <;> (try simp only [hb]) <;> (try simp only [zF] at hb)) | with_reducible refine qO zY mixed (by kernel_rfl) ?_) <;> try simp only [qV, qF, qL, qN, qG, qC, qM, reduceIte, seval, Int.cast_ofNat_Int, qY, qZ, qU, zR, zT, zU, wR, zY, hv]))
  refine wY rfl fun k1 h1 m1 s1 f1 n1 => ?_
  refine qS ?_; repeat' (first | (with_reducible first | apply qH | apply qB) | ((first | (with_reducible apply qR) | (with_reducible first | apply qA | apply qP | apply qD | apply qE | apply qK) | ((with_reducible first | apply qQ | apply qI | apply qJ | apply qW | apply qX) <;> intro hb <;> (try simp only [hb]) <;> (try simp only [zF] at hb)) | with_reducible refine qO zY mixed (by kernel_rfl) ?_) <;> try simp only [qV, qF, qL, qN, qG, qC, qM, reduceIte, seval, Int.cast_ofNat_Int, qY, qZ, qU, zR, zT, zU, wR, zY, zI m1 kW rfl]))
  rw [← hv]
  refine (c_iNew N (HS.refl h1) p).mono ?_
  rintro _ h2 ⟨r2, s2⟩
  by_cases hc : p.check = 0
  case neg =>
    rcases r2 with ⟨_, rfl⟩ | ⟨q, _⟩
    case inr => exact absurd q hc
    refine qS ?_; repeat' (first | (with_reducible first | apply qH | apply qB) | ((first | (with_reducible apply qR) | (with_reducible first | apply qA | apply qP | apply qD | apply qE | apply qK) | ((with_reducible first | apply qQ | apply qI | apply qJ | apply qW | apply qX) <;> intro hb <;> (try simp only [hb]) <;> (try simp only [zF] at hb)) | with_reducible refine qO zY mixed (by kernel_rfl) ?_) <;> try simp only [qV, qF, qL, qN, qG, qC, qM, reduceIte, seval, Int.cast_ofNat_Int, qY, qZ, qU, zR, zT, zU, wR, zY, zI (s2 _ _ m1) kW rfl]))
    rw [← hv]
    refine (c_rNew N h2 p).mono ?_
    rintro _ h3 ⟨r3, s3⟩
    rcases r3 with ⟨_, rfl⟩ | ⟨q, _⟩
    case inr => exact absurd q hc
    refine qS ?_; repeat' (first | (with_reducible first | apply qH | apply qB) | ((first | (with_reducible apply qR) | (with_reducible first | apply qA | apply qP | apply qD | apply qE | apply qK) | ((with_reducible first | apply qQ | apply qI | apply qJ | apply qW | apply qX) <;> intro hb <;> (try simp only [hb]) <;> (try simp only [zF] at hb)) | with_reducible refine qO zY mixed (by kernel_rfl) ?_) <;> try simp only [qV, qF, qL, qN, qG, qC, qM, reduceIte, seval, Int.cast_ofNat_Int, qY, qZ, qU, zR, zT, zU, wR, zY, bne_self_eq_false, qA2, gPick, Option.isNone_none, beq_self_eq_true, Bool.not_true]))
    refine (lN N h3).mono ?_
    rintro _ h4 ⟨rfl, s4⟩
    refine qS ?_; repeat' (first | (with_reducible first | apply qH | apply qB) | ((first | (with_reducible apply qR) | (with_reducible first | apply qA | apply qP | apply qD | apply qE | apply qK) | ((with_reducible first | apply qQ | apply qI | apply qJ | apply qW | apply qX) <;> intro hb <;> (try simp only [hb]) <;> (try simp only [zF] at hb)) | with_reducible refine qO zY mixed (by kernel_rfl) ?_) <;> try simp only [qV, qF, qL, qN, qG, qC, qM, reduceIte, seval, Int.cast_ofNat_Int, qY, qZ, qU, zR, zT, zU, wR, zY]))
  rcases r2 with ⟨q, _⟩ | ⟨_, k, j, ew, cs, rfl, hk, x2⟩
  case inl => exact absurd hc q
  refine qS ?_; repeat' (first | (with_reducible first | apply qH | apply qB) | ((first | (with_reducible apply qR) | (with_reducible first | apply qA | apply qP | apply qD | apply qE | apply qK) | ((with_reducible first | apply qQ | apply qI | apply qJ | apply qW | apply qX) <;> intro hb <;> (try simp only [hb]) <;> (try simp only [zF] at hb)) | with_reducible refine qO zY mixed (by kernel_rfl) ?_) <;> try simp only [qV, qF, qL, qN, qG, qC, qM, reduceIte, seval, Int.cast_ofNat_Int, qY, qZ, qU, zR, zT, zU, wR, zY, zI (s2 _ _ m1) kW rfl]))
  rw [← hv]
  refine (c_rNew N h2 p).mono ?_
  rintro _ h3 ⟨r3, s3⟩
  rcases r3 with ⟨q, _⟩ | ⟨_, kr, tv, bv, ts, bs, rfl, y3⟩
  case inl => exact absurd hc q
  have x3 := x2.hs s3
  have P3 : Pair h1 h3 k j kr p [(0, [])] 0 := ⟨s2.trans s3, rfl, ⟨_, _, _, _, x3⟩, _, _, _, _, y3.weak s2⟩
  have z0 : ((0 : Int) != 0) = false := rfl
  refine qS ?_; repeat' (first | (with_reducible first | apply qH | apply qB) | ((first | (with_reducible apply qR) | (with_reducible first | apply qA | apply qP | apply qD | apply qE | apply qK) | ((with_reducible first | apply qQ | apply qI | apply qJ | apply qW | apply qX) <;> intro hb <;> (try simp only [hb]) <;> (try simp only [zF] at hb)) | with_reducible refine qO zY mixed (by kernel_rfl) ?_) <;> try simp only [qV, qF, qL, qN, qG, qC, qM, reduceIte, seval, Int.cast_ofNat_Int, qY, qZ, qU, zR, zT, zU, wR, zY, z0, qA2, gPick, Option.isNone_none, bne_self_eq_false, beq_self_eq_true, Bool.not_true]))
  refine wI [2, 3, 9, 11, 42, 43] (fun (i : Nat) => [(44, .int .i64 (i : Int))])
    (fun w i h' => l.length - i = w ∧ i ≤ l.length ∧ ∃ M ck, Pair h1 h' k j kr p M ck) l.length 0 (by simp [lk]) ⟨rfl, by omega, _, _, P3⟩ ?_
  rintro _ i h4 ⟨rfl, hi, M, ck, P4⟩
  have s14 := P4.1
  by_cases hil : i < l.length
  case pos =>
    have d3 : decide ((i : Int) < (l.length : Int)) = true := decide_eq_true (by omega)
    have wi : IntKind.i64.wrap ((i : Int) + 1) = ((i + 1 : Nat) : Int) := by rw [wrap64 (by omega) (by omega)]; omega
    obtain ⟨q, hy⟩ := vC hil
    have hqf := hf q (List.mem_of_getElem? hy)
    have sh4 := s1.trans s14
    obtain ⟨ad, cy, g1, g2, ai, ab, ci, cb, rfl, ri, rb, wq⟩ := (rl.hcR sh4.hc fun _ _ r => (AkR.hs sh4 r : AkR h4 _ _)).at (P := Try.prog) Try.underlying75 uO hy
    have l1' : xM Try.prog 62 h4 (.pointer (some ad)) = some (.agg #[.int .i64 q.kd, .slice ai q.id.length ci, .int .i64 q.fr, .int .i64 q.to, .int .i64 q.tm, .bool q.sm, .int .i64 q.ep, .int .i64 q.ix, .int .i64 q.lm, .slice ab q.b.length cb]) := by simp only [xM, uO, g2]; rfl
    refine qS ?_; repeat' (first | (with_reducible first | apply qH | apply qB) | ((first | (with_reducible apply qR) | (with_reducible first | apply qA | apply qP | apply qD | apply qE | apply qK) | ((with_reducible first | apply qQ | apply qI | apply qJ | apply qW | apply qX) <;> intro hb <;> (try simp only [hb]) <;> (try simp only [zF] at hb)) | with_reducible refine qO zY mixed (by kernel_rfl) ?_) <;> try simp only [qV, qF, qL, qN, qG, qC, qM, reduceIte, seval, Int.cast_ofNat_Int, qY, qZ, qU, zR, zT, zU, wR, zY, d3, g1, l1']))
    refine xW fun k5 h5 m5 s5 f5 n5 => ?_
    refine qS ?_; repeat' (first | (with_reducible first | apply qH | apply qB) | ((first | (with_reducible apply qR) | (with_reducible first | apply qA | apply qP | apply qD | apply qE | apply qK) | ((with_reducible first | apply qQ | apply qI | apply qJ | apply qW | apply qX) <;> intro hb <;> (try simp only [hb]) <;> (try simp only [zF] at hb)) | with_reducible refine qO zY mixed (by kernel_rfl) ?_) <;> try simp only [qV, qF, qL, qN, qG, qC, qM, reduceIte, seval, Int.cast_ofNat_Int, qY, qZ, qU, zR, zT, zU, wR, zY]))
    refine zM m5 uO rfl (by decide) rfl rfl rfl fun h6 m6 f6 => ?_
    have s46 : HS h4 h6 := (HS.refl h4).upd n5 (fun j hj => (f6 j hj).trans (f5 j hj))
    by_cases c1 : (i : Int) < 30
    case neg =>
      have d4 : decide ((i : Int) < 30) = false := decide_eq_false c1
      refine qS ?_; repeat' (first | (with_reducible first | apply qH | apply qB) | ((first | (with_reducible apply qR) | (with_reducible first | apply qA | apply qP | apply qD | apply qE | apply qK) | ((with_reducible first | apply qQ | apply qI | apply qJ | apply qW | apply qX) <;> intro hb <;> (try simp only [hb]) <;> (try simp only [zF] at hb)) | with_reducible refine qO zY mixed (by kernel_rfl) ?_) <;> try simp only [qV, qF, qL, qN, qG, qC, qM, reduceIte, seval, Int.cast_ofNat_Int, qY, qZ, qU, zR, zT, zU, wR, zY, d4, gPick, wi]))
      exact ⟨_, i + 1, by omega, (by simp only [List.forall_mem_cons, List.not_mem_nil, false_implies, implies_true, List.map, List.cons_append, List.nil_append, lk, Nat.reduceEqDiff, reduceIte, and_true, true_and]), rfl, by omega, M, ck, P4.up s46⟩
    have d4 : decide ((i : Int) < 30) = true := decide_eq_true c1
    by_cases c2 : (q.b.length : Int) ≤ 40
    case neg =>
      have d5 : decide ((q.b.length : Int) ≤ 40) = false := decide_eq_false c2
      refine qS ?_; repeat' (first | (with_reducible first | apply qH | apply qB) | ((first | (with_reducible apply qR) | (with_reducible first | apply qA | apply qP | apply qD | apply qE | apply qK) | ((with_reducible first | apply qQ | apply qI | apply qJ | apply qW | apply qX) <;> intro hb <;> (try simp only [hb]) <;> (try simp only [zF] at hb)) | with_reducible refine qO zY mixed (by kernel_rfl) ?_) <;> try simp only [qV, qF, qL, qN, qG, qC, qM, reduceIte, seval, Int.cast_ofNat_Int, qY, qZ, qU, zR, zT, zU, wR, zY, d4, d5, qT m6 jX, gPick, wi]))
      exact ⟨_, i + 1, by omega, (by simp only [List.forall_mem_cons, List.not_mem_nil, false_implies, implies_true, List.map, List.cons_append, List.nil_append, lk, Nat.reduceEqDiff, reduceIte, and_true, true_and]), rfl, by omega, M, ck, P4.up s46⟩
    have d5 : decide ((q.b.length : Int) ≤ 40) = true := decide_eq_true c2
    have P6 := P4.new s46
    have hb6 : hN h1 h4 h6 k5 = _ := (pD n5).trans m6
    have sN : HS h1 (hN h1 h4 h6) := rD s14
    have rlN := rl.hcR (s1.trans sN).hc fun _ _ r => (AkR.hs (s1.trans sN) r : AkR (hN h1 h4 h6) _ _)
    obtain ⟨ad', cy', g1', g2', ai', ab', ci', cb', e', ri', rb', _⟩ := rlN.at (P := Try.prog) Try.underlying75 uO hy
    have hcy : cy' = q.cs (.slice ai q.id.length ci) (.slice ab q.b.length cb) := by
      rw [g1] at g1'
      cases g1'
      have h1' := (rl.hcR s1.hc fun _ _ r => (AkR.hs s1 r : AkR h1 _ _)).at (P := Try.prog) Try.underlying75 uO hy
      obtain ⟨ad2, cy2, z1, z2, _⟩ := h1'
      rw [g1] at z1
      cases z1
      rw [kB s14.hc z2] at g2
      rw [kB sN.hc z2] at g2'
      cases g2
      cases g2'
      rfl
    rw [e'] at hcy
    have hsl : Value.slice ai' q.id.length ci' = .slice ai q.id.length ci ∧ Value.slice ab' q.b.length cb' = .slice ab q.b.length cb := by
      unfold Ak.cs at hcy
      simp only [List.cons.injEq, true_and, and_true] at hcy
      exact hcy
    rw [hsl.1] at ri'
    rw [hsl.2] at rb'
    refine qS ?_; repeat' (first | (with_reducible first | apply qH | apply qB) | ((first | (with_reducible apply qR) | (with_reducible first | apply qA | apply qP | apply qD | apply qE | apply qK) | ((with_reducible first | apply qQ | apply qI | apply qJ | apply qW | apply qX) <;> intro hb <;> (try simp only [hb]) <;> (try simp only [zF] at hb)) | with_reducible refine qO zY mixed (by kernel_rfl) ?_) <;> try simp only [qV, qF, qL, qN, qG, qC, qM, reduceIte, seval, Int.cast_ofNat_Int, qY, qZ, qU, zR, zT, zU, wR, zY, d4, d5, qT m6 jX, zI m6 uO rfl, gPick, wi]))
    refine (qY2 N P6 q ri' hqf.1 rb' hqf.2).mono ?_
    rintro v7 h7 ⟨A, M', ck', st, rA, s7, m0, ⟨ew', cs', l', n', x7⟩, tv', bv', ts', bs', y7⟩
    have m67 := s7 _ _ hb6
    refine qS ?_; repeat' (first | (with_reducible first | apply qH | apply qB) | ((first | (with_reducible apply qR) | (with_reducible first | apply qA | apply qP | apply qD | apply qE | apply qK) | ((with_reducible first | apply qQ | apply qI | apply qJ | apply qW | apply qX) <;> intro hb <;> (try simp only [hb]) <;> (try simp only [zF] at hb)) | with_reducible refine qO zY mixed (by kernel_rfl) ?_) <;> try simp only [qV, qF, qL, qN, qG, qC, qM, reduceIte, seval, Int.cast_ofNat_Int, qY, qZ, qU, zR, zT, zU, wR, zY, zI m6 uO rfl, zI m67 uO rfl]))
    refine (qO3 N s7 m0 (st.m0 m0) x7 y7 q wq.2.2.2.2.1 ri' hqf.1 rb' hqf.2 st rA).mono ?_
    rintro v8 h8 ⟨r8, r7, P8⟩
    have hlen := st.lens P6.2.2.1.choose_spec.choose_spec.choose_spec.choose_spec
    have m68 := P8.1 _ _ hb6
    refine qS ?_; repeat' (first | (with_reducible first | apply qH | apply qB) | ((first | (with_reducible apply qR) | (with_reducible first | apply qA | apply qP | apply qD | apply qE | apply qK) | ((with_reducible first | apply qQ | apply qI | apply qJ | apply qW | apply qX) <;> intro hb <;> (try simp only [hb]) <;> (try simp only [zF] at hb)) | with_reducible refine qO zY mixed (by kernel_rfl) ?_) <;> try simp only [qV, qF, qL, qN, qG, qC, qM, reduceIte, seval, Int.cast_ofNat_Int, qY, qZ, qU, zR, zT, zU, wR, zY, zI m6 uO rfl, zI m67 uO rfl, zI m68 uO rfl, qT m6 jX, qT m67 jX, qT m68 jX]))
    refine (zA8 N h8 r7 r8 hlen.1 hlen.2).mono ?_
    rintro _ h9 ⟨rfl, s9⟩
    refine qS ?_; repeat' (first | (with_reducible first | apply qH | apply qB) | ((first | (with_reducible apply qR) | (with_reducible first | apply qA | apply qP | apply qD | apply qE | apply qK) | ((with_reducible first | apply qQ | apply qI | apply qJ | apply qW | apply qX) <;> intro hb <;> (try simp only [hb]) <;> (try simp only [zF] at hb)) | with_reducible refine qO zY mixed (by kernel_rfl) ?_) <;> try simp only [qV, qF, qL, qN, qG, qC, qM, reduceIte, seval, Int.cast_ofNat_Int, qY, qZ, qU, zR, zT, zU, wR, zY, Bool.not_true, gPick, wi]))
    exact ⟨_, i + 1, by omega, (by simp only [List.forall_mem_cons, List.not_mem_nil, false_implies, implies_true, List.map, List.cons_append, List.nil_append, lk, Nat.reduceEqDiff, reduceIte, and_true, true_and]), rfl, by omega, M', ck', (P8.up s9).weak sN⟩
  have d3 : decide ((i : Int) < (l.length : Int)) = false := decide_eq_false (by omega)
  obtain ⟨_, m0, ⟨ew4, cs4, l4, n4, x4⟩, tv4, bv4, ts4, bs4, y4⟩ := P4
  refine qS ?_; repeat' (first | (with_reducible first | apply qH | apply qB) | ((first | (with_reducible apply qR) | (with_reducible first | apply qA | apply qP | apply qD | apply qE | apply qK) | ((with_reducible first | apply qQ | apply qI | apply qJ | apply qW | apply qX) <;> intro hb <;> (try simp only [hb]) <;> (try simp only [zF] at hb)) | with_reducible refine qO zY mixed (by kernel_rfl) ?_) <;> try simp only [qV, qF, qL, qN, qG, qC, qM, reduceIte, seval, Int.cast_ofNat_Int, qY, qZ, qU, zR, zT, zU, wR, zY, d3]))
  refine (c_iCopy N x4).mono ?_
  rintro _ h5 ⟨⟨kc, jc, ewc, lc, rfl, xc⟩, s5⟩
  refine qS ?_; repeat' (first | (with_reducible first | apply qH | apply qB) | ((first | (with_reducible apply qR) | (with_reducible first | apply qA | apply qP | apply qD | apply qE | apply qK) | ((with_reducible first | apply qQ | apply qI | apply qJ | apply qW | apply qX) <;> intro hb <;> (try simp only [hb]) <;> (try simp only [zF] at hb)) | with_reducible refine qO zY mixed (by kernel_rfl) ?_) <;> try simp only [qV, qF, qL, qN, qG, qC, qM, reduceIte, seval, Int.cast_ofNat_Int, qY, qZ, qU, zR, zT, zU, wR, zY]))
  refine (c_rCopy N (y4.hs s5)).mono ?_
  rintro _ h6 ⟨⟨ky, tvy, bvy, rfl, yy⟩, s6⟩
  have Pc : Pair h4 h6 kc jc ky p M ck := ⟨s5.trans s6, m0, ⟨_, _, _, _, xc.hs s6⟩, _, _, _, _, yy.weak s5⟩
  refine qS ?_; repeat' (first | (with_reducible first | apply qH | apply qB) | ((first | (with_reducible apply qR) | (with_reducible first | apply qA | apply qP | apply qD | apply qE | apply qK) | ((with_reducible first | apply qQ | apply qI | apply qJ | apply qW | apply qX) <;> intro hb <;> (try simp only [hb]) <;> (try simp only [zF] at hb)) | with_reducible refine qO zY mixed (by kernel_rfl) ?_) <;> try simp only [qV, qF, qL, qN, qG, qC, qM, reduceIte, seval, Int.cast_ofNat_Int, qY, qZ, qU, zR, zT, zU, wR, zY, qA2]))
  have sB := s1.trans s14
  refine wI [3, 9, 11, 15, 16, 74, 75] (fun (i : Nat) => [(76, .int .i64 (i : Int))])
    (fun w i h' => l2.length - i = w ∧ i ≤ l2.length ∧ ∃ M ck, Pair h4 h' kc jc ky p M ck) l2.length 0 (by simp [lk]) ⟨rfl, by omega, _, _, Pc⟩ ?_
  rintro _ i g4 ⟨rfl, hi, M, ck, Q4⟩
  have s14 := Q4.1
  by_cases hil : i < l2.length
  case pos =>
    have d3 : decide ((i : Int) < (l2.length : Int)) = true := decide_eq_true (by omega)
    have wi : IntKind.i64.wrap ((i : Int) + 1) = ((i + 1 : Nat) : Int) := by rw [wrap64 (by omega) (by omega)]; omega
    obtain ⟨q, hy⟩ := vC hil
    have hqf := hf2 q (List.mem_of_getElem? hy)
    have sh4 := sB.trans s14
    obtain ⟨ad, cy, g1, g2, ai, ab, ci, cb, rfl, ri, rb, wq⟩ := (rl2.hcR sh4.hc fun _ _ r => (AkR.hs sh4 r : AkR g4 _ _)).at (P := Try.prog) Try.underlying75 uO hy
    have l1' : xM Try.prog 62 g4 (.pointer (some ad)) = some (.agg #[.int .i64 q.kd, .slice ai q.id.length ci, .int .i64 q.fr, .int .i64 q.to, .int .i64 q.tm, .bool q.sm, .int .i64 q.ep, .int .i64 q.ix, .int .i64 q.lm, .slice ab q.b.length cb]) := by simp only [xM, uO, g2]; rfl
    refine qS ?_; repeat' (first | (with_reducible first | apply qH | apply qB) | ((first | (with_reducible apply qR) | (with_reducible first | apply qA | apply qP | apply qD | apply qE | apply qK) | ((with_reducible first | apply qQ | apply qI | apply qJ | apply qW | apply qX) <;> intro hb <;> (try simp only [hb]) <;> (try simp only [zF] at hb)) | with_reducible refine qO zY mixed (by kernel_rfl) ?_) <;> try simp only [qV, qF, qL, qN, qG, qC, qM, reduceIte, seval, Int.cast_ofNat_Int, qY, qZ, qU, zR, zT, zU, wR, zY, d3, g1, l1']))
    refine xW fun k5 g5 m5 s5 f5 n5 => ?_
    refine qS ?_; repeat' (first | (with_reducible first | apply qH | apply qB) | ((first | (with_reducible apply qR) | (with_reducible first | apply qA | apply qP | apply qD | apply qE | apply qK) | ((with_reducible first | apply qQ | apply qI | apply qJ | apply qW | apply qX) <;> intro hb <;> (try simp only [hb]) <;> (try simp only [zF] at hb)) | with_reducible refine qO zY mixed (by kernel_rfl) ?_) <;> try simp only [qV, qF, qL, qN, qG, qC, qM, reduceIte, seval, Int.cast_ofNat_Int, qY, qZ, qU, zR, zT, zU, wR, zY]))
    refine zM m5 uO rfl (by decide) rfl rfl rfl fun g6 m6 f6 => ?_
    have s46 : HS g4 g6 := (HS.refl g4).upd n5 (fun j hj => (f6 j hj).trans (f5 j hj))
    by_cases c1 : (i : Int) < 10
    case neg =>
      have d4 : decide ((i : Int) < 10) = false := decide_eq_false c1
      refine qS ?_; repeat' (first | (with_reducible first | apply qH | apply qB) | ((first | (with_reducible apply qR) | (with_reducible first | apply qA | apply qP | apply qD | apply qE | apply qK) | ((with_reducible first | apply qQ | apply qI | apply qJ | apply qW | apply qX) <;> intro hb <;> (try simp only [hb]) <;> (try simp only [zF] at hb)) | with_reducible refine qO zY mixed (by kernel_rfl) ?_) <;> try simp only [qV, qF, qL, qN, qG, qC, qM, reduceIte, seval, Int.cast_ofNat_Int, qY, qZ, qU, zR, zT, zU, wR, zY, d4, gPick, wi]))
      exact ⟨_, i + 1, by omega, (by simp only [List.forall_mem_cons, List.not_mem_nil, false_implies, implies_true, List.map, List.cons_append, List.nil_append, lk, Nat.reduceEqDiff, reduceIte, and_true, true_and]), rfl, by omega, M, ck, Q4.up s46⟩
    have d4 : decide ((i : Int) < 10) = true := decide_eq_true c1
    by_cases c2 : (q.b.length : Int) ≤ 40
    case neg =>
      have d5 : decide ((q.b.length : Int) ≤ 40) = false := decide_eq_false c2
      refine qS ?_; repeat' (first | (with_reducible first | apply qH | apply qB) | ((first | (with_reducible apply qR) | (with_reducible first | apply qA | apply qP | apply qD | apply qE | apply qK) | ((with_reducible first | apply qQ | apply qI | apply qJ | apply qW | apply qX) <;> intro hb <;> (try simp only [hb]) <;> (try simp only [zF] at hb)) | with_reducible refine qO zY mixed (by kernel_rfl) ?_) <;> try simp only [qV, qF, qL, qN, qG, qC, qM, reduceIte, seval, Int.cast_ofNat_Int, qY, qZ, qU, zR, zT, zU, wR, zY, d4, d5, qT m6 jX, gPick, wi]))
      exact ⟨_, i + 1, by omega, (by simp only [List.forall_mem_cons, List.not_mem_nil, false_implies, implies_true, List.map, List.cons_append, List.nil_append, lk, Nat.reduceEqDiff, reduceIte, and_true, true_and]), rfl, by omega, M, ck, Q4.up s46⟩
    have d5 : decide ((q.b.length : Int) ≤ 40) = true := decide_eq_true c2
    have P6 := Q4.new s46
    have hb6 : hN h4 g4 g6 k5 = _ := (pD n5).trans m6
    have sN : HS h4 (hN h4 g4 g6) := rD s14
    have rlN := rl2.hcR (sB.trans sN).hc fun _ _ r => (AkR.hs (sB.trans sN) r : AkR (hN h4 g4 g6) _ _)
    obtain ⟨ad', cy', g1', g2', ai', ab', ci', cb', e', ri', rb', _⟩ := rlN.at (P := Try.prog) Try.underlying75 uO hy
    have hcy : cy' = q.cs (.slice ai q.id.length ci) (.slice ab q.b.length cb) := by
      rw [g1] at g1'
      cases g1'
      have h4' := (rl2.hcR sB.hc fun _ _ r => (AkR.hs sB r : AkR h4 _ _)).at (P := Try.prog) Try.underlying75 uO hy
      obtain ⟨ad2, cy2, z1, z2, _⟩ := h4'
      rw [g1] at z1
      cases z1
      rw [kB s14.hc z2] at g2
      rw [kB sN.hc z2] at g2'
      cases g2
      cases g2'
      rfl
    rw [e'] at hcy
    have hsl : Value.slice ai' q.id.length ci' = .slice ai q.id.length ci ∧ Value.slice ab' q.b.length cb' = .slice ab q.b.length cb := by
      unfold Ak.cs at hcy
      simp only [List.cons.injEq, true_and, and_true] at hcy
      exact hcy
    rw [hsl.1] at ri'
    rw [hsl.2] at rb'
    refine qS ?_; repeat' (first | (with_reducible first | apply qH | apply qB) | ((first | (with_reducible apply qR) | (with_reducible first | apply qA | apply qP | apply qD | apply qE | apply qK) | ((with_reducible first | apply qQ | apply qI | apply qJ | apply qW | apply qX) <;> intro hb <;> (try simp only [hb]) <;> (try simp only [zF] at hb)) | with_reducible refine qO zY mixed (by kernel_rfl) ?_) <;> try simp only [qV, qF, qL, qN, qG, qC, qM, reduceIte, seval, Int.cast_ofNat_Int, qY, qZ, qU, zR, zT, zU, wR, zY, d4, d5, qT m6 jX, zI m6 uO rfl, gPick, wi]))
    refine (qY2 N P6 q ri' hqf.1 rb' hqf.2).mono ?_
    rintro v7 g7 ⟨A, M', ck', st, rA, s7, m0, ⟨ew', cs', l', n', x7⟩, tv', bv', ts', bs', y7⟩
    have m67 := s7 _ _ hb6
    refine qS ?_; repeat' (first | (with_reducible first | apply qH | apply qB) | ((first | (with_reducible apply qR) | (with_reducible first | apply qA | apply qP | apply qD | apply qE | apply qK) | ((with_reducible first | apply qQ | apply qI | apply qJ | apply qW | apply qX) <;> intro hb <;> (try simp only [hb]) <;> (try simp only [zF] at hb)) | with_reducible refine qO zY mixed (by kernel_rfl) ?_) <;> try simp only [qV, qF, qL, qN, qG, qC, qM, reduceIte, seval, Int.cast_ofNat_Int, qY, qZ, qU, zR, zT, zU, wR, zY, zI m6 uO rfl, zI m67 uO rfl]))
    refine (qO3 N s7 m0 (st.m0 m0) x7 y7 q wq.2.2.2.2.1 ri' hqf.1 rb' hqf.2 st rA).mono ?_
    rintro v8 g8 ⟨r8, r7, P8⟩
    have hlen := st.lens P6.2.2.1.choose_spec.choose_spec.choose_spec.choose_spec
    have m68 := P8.1 _ _ hb6
    refine qS ?_; repeat' (first | (with_reducible first | apply qH | apply qB) | ((first | (with_reducible apply qR) | (with_reducible first | apply qA | apply qP | apply qD | apply qE | apply qK) | ((with_reducible first | apply qQ | apply qI | apply qJ | apply qW | apply qX) <;> intro hb <;> (try simp only [hb]) <;> (try simp only [zF] at hb)) | with_reducible refine qO zY mixed (by kernel_rfl) ?_) <;> try simp only [qV, qF, qL, qN, qG, qC, qM, reduceIte, seval, Int.cast_ofNat_Int, qY, qZ, qU, zR, zT, zU, wR, zY, zI m6 uO rfl, zI m67 uO rfl, zI m68 uO rfl, qT m6 jX, qT m67 jX, qT m68 jX]))
    refine (zA8 N g8 r7 r8 hlen.1 hlen.2).mono ?_
    rintro _ g9 ⟨rfl, s9⟩
    refine qS ?_; repeat' (first | (with_reducible first | apply qH | apply qB) | ((first | (with_reducible apply qR) | (with_reducible first | apply qA | apply qP | apply qD | apply qE | apply qK) | ((with_reducible first | apply qQ | apply qI | apply qJ | apply qW | apply qX) <;> intro hb <;> (try simp only [hb]) <;> (try simp only [zF] at hb)) | with_reducible refine qO zY mixed (by kernel_rfl) ?_) <;> try simp only [qV, qF, qL, qN, qG, qC, qM, reduceIte, seval, Int.cast_ofNat_Int, qY, qZ, qU, zR, zT, zU, wR, zY, Bool.not_true, gPick, wi]))
    exact ⟨_, i + 1, by omega, (by simp only [List.forall_mem_cons, List.not_mem_nil, false_implies, implies_true, List.map, List.cons_append, List.nil_append, lk, Nat.reduceEqDiff, reduceIte, and_true, true_and]), rfl, by omega, M', ck', (P8.up s9).weak sN⟩
  have d3 : decide ((i : Int) < (l2.length : Int)) = false := decide_eq_false (by omega)
  obtain ⟨sE, mE, ⟨ewE, csE, lE, nE, xE⟩, tvE, bvE, tsE, bsE, yE⟩ := Q4
  cases back
  case false =>
    refine qS ?_; repeat' (first | (with_reducible first | apply qH | apply qB) | ((first | (with_reducible apply qR) | (with_reducible first | apply qA | apply qP | apply qD | apply qE | apply qK) | ((with_reducible first | apply qQ | apply qI | apply qJ | apply qW | apply qX) <;> intro hb <;> (try simp only [hb]) <;> (try simp only [zF] at hb)) | with_reducible refine qO zY mixed (by kernel_rfl) ?_) <;> try simp only [qV, qF, qL, qN, qG, qC, qM, reduceIte, seval, Int.cast_ofNat_Int, qY, qZ, qU, zR, zT, zU, wR, zY, d3]))
    refine (mK N (x4.hs sE) (y4.hs sE)).mono ?_
    rintro _ g5 ⟨rfl, s5'⟩
    refine qS ?_; repeat' (first | (with_reducible first | apply qH | apply qB) | ((first | (with_reducible apply qR) | (with_reducible first | apply qA | apply qP | apply qD | apply qE | apply qK) | ((with_reducible first | apply qQ | apply qI | apply qJ | apply qW | apply qX) <;> intro hb <;> (try simp only [hb]) <;> (try simp only [zF] at hb)) | with_reducible refine qO zY mixed (by kernel_rfl) ?_) <;> try simp only [qV, qF, qL, qN, qG, qC, qM, reduceIte, seval, Int.cast_ofNat_Int, qY, qZ, qU, zR, zT, zU, wR, zY, gPick]))
    refine (mK N (xE.hs s5') (yE.hs s5')).mono ?_
    rintro _ g6 ⟨rfl, s6'⟩
    refine qS ?_; repeat' (first | (with_reducible first | apply qH | apply qB) | ((first | (with_reducible apply qR) | (with_reducible first | apply qA | apply qP | apply qD | apply qE | apply qK) | ((with_reducible first | apply qQ | apply qI | apply qJ | apply qW | apply qX) <;> intro hb <;> (try simp only [hb]) <;> (try simp only [zF] at hb)) | with_reducible refine qO zY mixed (by kernel_rfl) ?_) <;> try simp only [qV, qF, qL, qN, qG, qC, qM, reduceIte, seval, Int.cast_ofNat_Int, qY, qZ, qU, zR, zT, zU, wR, zY, gPick]))
    refine (lN N g6).mono ?_
    rintro _ g7 ⟨rfl, s7'⟩
    refine qS ?_; repeat' (first | (with_reducible first | apply qH | apply qB) | ((first | (with_reducible apply qR) | (with_reducible first | apply qA | apply qP | apply qD | apply qE | apply qK) | ((with_reducible first | apply qQ | apply qI | apply qJ | apply qW | apply qX) <;> intro hb <;> (try simp only [hb]) <;> (try simp only [zF] at hb)) | with_reducible refine qO zY mixed (by kernel_rfl) ?_) <;> try simp only [qV, qF, qL, qN, qG, qC, qM, reduceIte, seval, Int.cast_ofNat_Int, qY, qZ, qU, zR, zT, zU, wR, zY, gPick]))
  case true =>
    obtain ⟨yl, hyl⟩ := vC (show M.length - 1 < M.length by have := yE.pos; omega)
    refine qS ?_; repeat' (first | (with_reducible first | apply qH | apply qB) | ((first | (with_reducible apply qR) | (with_reducible first | apply qA | apply qP | apply qD | apply qE | apply qK) | ((with_reducible first | apply qQ | apply qI | apply qJ | apply qW | apply qX) <;> intro hb <;> (try simp only [hb]) <;> (try simp only [zF] at hb)) | with_reducible refine qO zY mixed (by kernel_rfl) ?_) <;> try simp only [qV, qF, qL, qN, qG, qC, qM, reduceIte, seval, Int.cast_ofNat_Int, qY, qZ, qU, zR, zT, zU, wR, zY, d3]))
    refine (c_iBack N sE xE hyl).mono ?_
    rintro _ g5 ⟨rfl, s5', xF, sF⟩
    obtain ⟨kb, tl, hkb, _, _⟩ := IS.only xE
    have yF := RM.keep xE hkb yE (h' := g5) fun i B e => by
      refine sF _ _ ?_
      unfold fF at e ⊢
      split at e
      · cases e
      · rename_i hi
        rw [if_neg (fun hm => hi (by rw [List.mem_singleton.1 hm]; exact List.mem_cons_self))]
        exact e
    obtain ⟨tb, bb, t1, t2, ht, hbb, _, _, _⟩ := yF.only
    obtain ⟨aF, cF, kF, eF, gF, lF⟩ := yF.rlt hyl
    obtain ⟨abF, cbF, ebF⟩ := yF.bat.form
    subst eF
    subst ebF
    have hoF := yF.obj
    refine qS ?_; repeat' (first | (with_reducible first | apply qH | apply qB) | ((first | (with_reducible apply qR) | (with_reducible first | apply qA | apply qP | apply qD | apply qE | apply qK) | ((with_reducible first | apply qQ | apply qI | apply qJ | apply qW | apply qX) <;> intro hb <;> (try simp only [hb]) <;> (try simp only [zF] at hb)) | with_reducible refine qO zY mixed (by kernel_rfl) ?_ | ((refine GTri.mono (tD _ yF) ?_); rintro _ _ ⟨rfl, hh9⟩; replace hh9 := hh9.symm; subst hh9)) <;> try simp only [qV, qF, qL, qN, qG, qC, qM, reduceIte, seval, Int.cast_ofNat_Int, qY, qZ, qU, zR, zT, zU, wR, zY, gNil, gF, lF, qT hoF kV]))
    refine vN hoF wL rfl (by simp) rfl rfl fun g6 m6 f6 => ?_
    simp only [List.set_cons_succ, List.set_cons_zero] at m6
    have y6 := yF.setck m6 f6 (qY6 yE.ri hyl)
    have x6 := IS.keepR xF yF ht hbb mE mE (h' := g6) fun i B e => by
      unfold fF at e
      split at e
      · cases e
      · rename_i hi
        rw [f6 i (fun q => hi (by rw [q]; exact List.mem_cons_self))]
        exact e
    have s6 : HS h4 g6 := s5'.upd yF.nk f6
    refine qS ?_; repeat' (first | (with_reducible first | apply qH | apply qB) | ((first | (with_reducible apply qR) | (with_reducible first | apply qA | apply qP | apply qD | apply qE | apply qK) | ((with_reducible first | apply qQ | apply qI | apply qJ | apply qW | apply qX) <;> intro hb <;> (try simp only [hb]) <;> (try simp only [zF] at hb)) | with_reducible refine qO zY mixed (by kernel_rfl) ?_) <;> try simp only [qV, qF, qL, qN, qG, qC, qM, reduceIte, seval, Int.cast_ofNat_Int, qY, qZ, qU, zR, zT, zU, wR, zY]))
    refine (mK N (x4.hs s6) (y4.hs s6)).mono ?_
    rintro _ g7 ⟨rfl, s7'⟩
    refine qS ?_; repeat' (first | (with_reducible first | apply qH | apply qB) | ((first | (with_reducible apply qR) | (with_reducible first | apply qA | apply qP | apply qD | apply qE | apply qK) | ((with_reducible first | apply qQ | apply qI | apply qJ | apply qW | apply qX) <;> intro hb <;> (try simp only [hb]) <;> (try simp only [zF] at hb)) | with_reducible refine qO zY mixed (by kernel_rfl) ?_) <;> try simp only [qV, qF, qL, qN, qG, qC, qM, reduceIte, seval, Int.cast_ofNat_Int, qY, qZ, qU, zR, zT, zU, wR, zY, gPick]))
    refine (mK N (x6.hs s7') (y6.hs s7')).mono ?_
    rintro _ g8 ⟨rfl, s8'⟩
    refine qS ?_; repeat' (first | (with_reducible first | apply qH | apply qB) | ((first | (with_reducible apply qR) | (with_reducible first | apply qA | apply qP | apply qD | apply qE | apply qK) | ((with_reducible first | apply qQ | apply qI | apply qJ | apply qW | apply qX) <;> intro hb <;> (try simp only [hb]) <;> (try simp only [zF] at hb)) | with_reducible refine qO zY mixed (by kernel_rfl) ?_) <;> try simp only [qV, qF, qL, qN, qG, qC, qM, reduceIte, seval, Int.cast_ofNat_Int, qY, qZ, qU, zR, zT, zU, wR, zY, gPick]))
    refine (lN N g8).mono ?_
    rintro _ g9 ⟨rfl, s9'⟩
    refine qS ?_; repeat' (first | (with_reducible first | apply qH | apply qB) | ((first | (with_reducible apply qR) | (with_reducible first | apply qA | apply qP | apply qD | apply qE | apply qK) | ((with_reducible first | apply qQ | apply qI | apply qJ | apply qW | apply qX) <;> intro hb <;> (try simp only [hb]) <;> (try simp only [zF] at hb)) | with_reducible refine qO zY mixed (by kernel_rfl) ?_) <;> try simp only [qV, qF, qL, qN, qG, qC, qM, reduceIte, seval, Int.cast_ofNat_Int, qY, qZ, qU, zR, zT, zU, wR, zY, gPick]))
end Go.Gh
