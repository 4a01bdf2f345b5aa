/- Parts of this claim's proof, 11. No statement of the claim stands here. -/
import Derived.Test.YtbaikgnddebkjaaP10
namespace Go.Gh
open Go Go.Proofs Go.RowKit
set_option linter.unusedVariables false
set_option linter.unusedSimpArgs false
set_option maxRecDepth 100000
set_option maxHeartbeats 4000000
theorem vP : type_of% (And.intro Try.underlying130 (And.intro Try.underlying89 (And.intro wT (And.intro wN (And.intro uN (And.intro jA (And.intro vY (And.intro wM (And.intro vQ (And.intro gH (And.intro uM (And.intro ty130 (And.intro wZ (And.intro uP (And.intro jV (And.intro jJ (And.intro lU rs108))))))))))))))))) := And.intro Try.underlying130 (And.intro Try.underlying89 (And.intro wT (And.intro wN (And.intro uN (And.intro jA (And.intro vY (And.intro wM (And.intro vQ (And.intro gH (And.intro uM (And.intro ty130 (And.intro wZ (And.intro uP (And.intro jV (And.intro jJ (And.intro lU rs108))))))))))))))))
def xR : Nat → List (Nat × List Nat) × List Nat
  | 1 => ([(0, []), (1, []), (2, []), (3, []), (4, []), (5, []), (6, []), (7, [])], [0, 1, 3, 7, 0, 16, 63, 127])
  | 7 => ([(0, []), (1, []), (2, []), (3, []), (4, []), (5, []), (6, []), (7, []), (8, []), (9, []), (10, []), (11, [])], [0, 1, 3, 7, 0, 0, 48, 112, 255, 511, 1023, 2047])
  | 9 => ([(0, []), (2, []), (3, []), (4, []), (5, []), (6, []), (8, []), (9, []), (10, []), (11, []), (1, [6, 11]), (7, [11]), (12, []), (13, []), (14, [])], [0, 1, 0, 0, 12, 28, 60, 127, 0, 0, 768, 1792, 4095, 8191, 16383])
  | _ => ([], [])
def qN7 (s : List (Nat × Nat)) (e : Int) : Option Nat := ((s.filter fun p => decide ((p.1 : Int) ≤ e)).getLast?).map (·.1)
def rC (b : List Bnd) (id : List UInt8) : List UInt8 := ((b.find? (fun z => z.1 == id)).map (·.2)).getD []
def dY (M : List (Int × List Bnd)) (id : List UInt8) (e : Int) : Option (List UInt8 × Nat) := (qN7 (uZ 0 (M.map (·.2)) id) e).map fun ep => (rC ((M[ep]?.map (·.2)).getD []) id, ep)
theorem ris_pw {s : List (Nat × Nat)} (r : tG s) : s.Pairwise fun a b => a.1 ≤ b.1 := by
  rw [List.pairwise_iff_getElem]
  intro i j hi hj hij
  exact r i j _ _ (by omega) (List.getElem?_eq_getElem hi) (List.getElem?_eq_getElem hj)
theorem qX5 {s : List (Nat × Nat)} (r : tG s) {e : Int} {p : Nat × Nat} (hp : p ∈ s) (hpe : (p.1 : Int) ≤ e) (mx : ∀ q ∈ s, (q.1 : Int) ≤ e → q.1 ≤ p.1) : qN7 s e = some p.1 := by
  have hm : p ∈ s.filter fun p => decide ((p.1 : Int) ≤ e) := List.mem_filter.2 ⟨hp, decide_eq_true hpe⟩
  have pw := (ris_pw r).filter fun p => decide ((p.1 : Int) ≤ e)
  unfold qN7
  cases hl : (s.filter fun p => decide ((p.1 : Int) ≤ e)).getLast? with
  | none => rw [List.getLast?_eq_none_iff] at hl; rw [hl] at hm; simp at hm
  | some z =>
    obtain ⟨ys, hy⟩ := List.getLast?_eq_some_iff.1 hl
    have hz : z ∈ s.filter fun p => decide ((p.1 : Int) ≤ e) := by rw [hy]; simp
    obtain ⟨hz1, hz2⟩ := List.mem_filter.1 hz
    have h1 := mx z hz1 (of_decide_eq_true hz2)
    have h2 : p.1 ≤ z.1 := by
      rw [hy] at hm pw
      rcases List.mem_append.1 hm with h | h
      · exact (List.pairwise_append.1 pw).2.2 p h z (by simp)
      · obtain rfl := List.mem_singleton.1 h; exact Nat.le_refl _
    simp only [Option.map_some]
    congr 1
    omega
theorem qS4 {s : List (Nat × Nat)} {e : Int} (h : ∀ q ∈ s, ¬ (q.1 : Int) ≤ e) : qN7 s e = none := by
  unfold qN7
  have : (s.filter fun p => decide ((p.1 : Int) ≤ e)) = [] := by
    rw [List.filter_eq_nil_iff]
    intro a ha
    simpa using h a ha
  rw [this]; rfl
theorem atS_lo {s : List (Nat × Nat)} (r : tG s) {e : Int} {n : Nat} {b : Bool} (lo : Lo s e n) (hb : b = true ↔ ∃ p, s[n]? = some p ∧ (p.1 : Int) = e) :
    (b = false ∧ n = 0 ∧ qN7 s e = none) ∨ ∃ i p, s[i]? = some p ∧ (if b = true then n else n - 1) = i ∧ (b = false → n ≠ 0) ∧ qN7 s e = some p.1 := by
  have idx : ∀ q ∈ s, ∃ i, s[i]? = some q := fun q hq => List.mem_iff_getElem?.1 hq
  cases b with
  | true =>
    obtain ⟨p, hp, he⟩ := hb.1 rfl
    refine .inr ⟨n, p, hp, rfl, by simp, qX5 r (List.mem_of_getElem? hp) (by omega) fun q _ h => by omega⟩
  | false =>
    have hn : ∀ i q, s[i]? = some q → n ≤ i → ¬ (q.1 : Int) ≤ e := fun i q hq hi h => by
      have h1 := (lo.2 i q hq)
      have hne : ¬ (q.1 : Int) < e := fun h2 => by have := h1.2 h2; omega
      have hil := (List.getElem?_eq_some_iff.1 hq).1
      have hg : s[n]? = some s[n] := List.getElem?_eq_getElem (by omega)
      have h3 := lo.2 n _ hg
      have h4 := r n i _ _ hi hg hq
      have : ∃ p, s[n]? = some p ∧ (p.1 : Int) = e := ⟨_, hg, by
        have : ¬ ((s[n]'(by omega)).1 : Int) < e := fun h5 => by have := h3.2 h5; omega
        omega⟩
      have := hb.2 this
      cases this
    by_cases h0 : n = 0
    · subst h0
      exact .inl ⟨rfl, rfl, qS4 fun q hq => by obtain ⟨i, hi⟩ := idx q hq; exact hn i q hi (Nat.zero_le _)⟩
    · have hl := lo.1
      have hg : s[n - 1]? = some s[n - 1] := List.getElem?_eq_getElem (by omega)
      refine .inr ⟨n - 1, _, hg, rfl, fun _ => h0, qX5 r (List.mem_of_getElem? hg) (by have := (lo.2 _ _ hg).1 (by omega); omega) fun q hq hqe => ?_⟩
      obtain ⟨i, hi⟩ := idx q hq
      have hin : i < n := by
        rcases Nat.lt_or_ge i n with h | h
        · exact h
        · exact absurd hqe (hn i q hi h)
      exact r i (n - 1) _ _ (by omega) hi hg
def AtV (h : GH) (id : List UInt8) (o : Option (List UInt8 × Nat)) (v : Value) : Prop := match o with
  | none => v = .tuple #[.agg #[.slice none 0 0, .slice none 0 0, .int .i64 0], .bool false]
  | some (key, ep) => ∃ a c b d, v = .tuple #[.agg #[.slice a id.length c, .slice b key.length d, .int .i64 (ep : Int)], .bool true] ∧ RB h (.slice a id.length c) id ∧ RB h (.slice b key.length d) key
theorem qC9 {h : GH} {a : Addr} {n : Nat} {cs : List Value} (e : xX h a n = some cs) (hn : n ≠ 0) : a.spot = none := by
  unfold xX at e
  rw [if_neg hn] at e
  split at e
  · assumption
  · cases e
theorem c_iat (N : Nat) {h0 h : GH} {k j : Nat} {p : Pm} {ew : Value} {cs l : List Value} {M : List (Int × List Bnd)} {ck : Int} {n : Nat} (x : IM h0 h k j p ew cs l M ck n) {a : Option Addr} {c : Nat} {id : List UInt8} (r : RB h (.slice a id.length c) id) (hid : id.length ≤ 140737488355328) (e : Int) :
    GTri Try.prog N 108 [.pointer (some ⟨k, 0, none⟩), .slice a id.length c, .int .i64 e] h fun v h' => AtV h' id (dY M id e) v ∧ HS h h' := by
  have hn4 := x.n4
  have hsl := sG id (M.map (·.2)) 0
  rw [← x.tt] at hsl
  refine wQ Try.func108 rfl gf108 ok108 (by simp [Try.ntmps108]) ?_
  repeat' (first | (with_reducible first | apply qH | apply qB) | ((first | (with_reducible first | apply qA | apply qP | apply qD | apply qE | apply qK) | ((with_reducible first | apply qQ | apply qI | apply qJ | apply qW | apply qX) <;> intro hb <;> (try simp only [hb]) <;> (try simp only [zF] at hb)) | with_reducible refine qO xR mixed (by kernel_rfl) ?_) <;> try simp only [qV, qF, qL, qN, qG, qC, qM, reduceIte, seval, Int.cast_ofNat_Int, qY, qZ, qU, zR, zT, zU, vP, xR]))
  refine wY rfl fun k1 h1 m1 s1 f1 n1 => ?_
  refine qS ?_; repeat' (first | (with_reducible first | apply qH | apply qB) | ((first | (with_reducible apply qR) | (with_reducible first | apply qA | apply qP | apply qD | apply qE | apply qK) | ((with_reducible first | apply qQ | apply qI | apply qJ | apply qW | apply qX) <;> intro hb <;> (try simp only [hb]) <;> (try simp only [zF] at hb)) | with_reducible refine qO xR mixed (by kernel_rfl) ?_) <;> try simp only [qV, qF, qL, qN, qG, qC, qM, reduceIte, seval, Int.cast_ofNat_Int, qY, qZ, qU, zR, zT, zU, vP, xR]))
  refine xW fun k2 h2 m2 s2 f2 n2 => ?_
  replace m1 := s2 _ _ m1
  have s12 := s1.trans s2
  have x2 := x.hs s12
  have cv := (r.hs s12).conv Try.underlying24 Try.underlying5 Try.underlying9
  have lk2 := x2.look id
  refine qS ?_; repeat' (first | (with_reducible first | apply qH | apply qB) | ((first | (with_reducible apply qR) | (with_reducible first | apply qA | apply qP | apply qD | apply qE | apply qK) | ((with_reducible first | apply qQ | apply qI | apply qJ | apply qW | apply qX) <;> intro hb <;> (try simp only [hb]) <;> (try simp only [zF] at hb)) | with_reducible refine qO xR mixed (by kernel_rfl) ?_) <;> try simp only [qV, qF, qL, qN, qG, qC, qM, reduceIte, seval, Int.cast_ofNat_Int, qY, qZ, qU, zR, zT, zU, vP, xR, gNil, qT m1 wK, cv, qT x2.obj pA, lk2]))
  have rl2 := epc_rl (x2.sp id)
  refine (c_bsi N h2 rl2 (by omega) (sD id _ 0) e).mono ?_
  rintro _ h3 ⟨⟨n3, b3, rfl, lo3, hb3⟩, rfl⟩
  rcases atS_lo (sD id _ 0) lo3 hb3 with ⟨rfl, rfl, hat⟩ | ⟨i, q, hq, hi, hn0, hat⟩
  · have z : ((0 : Int) == 0) = true := rfl
    have w : IntKind.i64.wrap (0 - 1) = -1 := rfl
    have d : decide ((-1 : Int) < 0) = true := rfl
    have hA : dY M id e = none := by unfold dY; rw [hat]; rfl
    refine qS ?_; repeat' (first | (with_reducible first | apply qH | apply qB) | ((first | (with_reducible apply qR) | (with_reducible first | apply qA | apply qP | apply qD | apply qE | apply qK) | ((with_reducible first | apply qQ | apply qI | apply qJ | apply qW | apply qX) <;> intro hb <;> (try simp only [hb]) <;> (try simp only [zF] at hb)) | with_reducible refine qO xR mixed (by kernel_rfl) ?_) <;> try simp only [qV, qF, qL, qN, qG, qC, qM, reduceIte, seval, Int.cast_ofNat_Int, qY, qZ, qU, zR, zT, zU, vP, xR, Bool.not_false, Int.natCast_zero, w, d, xL, xT, vB, Shape.pl, List.all_cons, List.all_nil, zA]))
    refine zM m2 yY rfl (by decide) rfl rfl rfl fun h4 m4 f4 => ?_
    refine qS ?_; repeat' (first | (with_reducible first | apply qH | apply qB) | ((first | (with_reducible apply qR) | (with_reducible first | apply qA | apply qP | apply qD | apply qE | apply qK) | ((with_reducible first | apply qQ | apply qI | apply qJ | apply qW | apply qX) <;> intro hb <;> (try simp only [hb]) <;> (try simp only [zF] at hb)) | with_reducible refine qO xR mixed (by kernel_rfl) ?_) <;> try simp only [qV, qF, qL, qN, qG, qC, qM, reduceIte, seval, Int.cast_ofNat_Int, qY, qZ, qU, zR, zT, zU, vP, xR, zI m4 yY rfl]))
    rw [hA]
    exact ⟨rfl, s12.upd (s1.none_of n2) f4⟩
  obtain ⟨_, hqM, b, hb, hqb, hqid⟩ := jS (List.mem_of_getElem? hq)
  rw [Nat.zero_add, List.length_map] at hqM
  rw [Nat.sub_zero, List.getElem?_map] at hb
  obtain ⟨y, hy, rfl⟩ := Option.map_eq_some_iff.1 hb
  obtain ⟨vb, hvb, bt⟩ := x2.eps _ _ hy
  have hvb1 : cs[q.1 * 2 + 1]? = some vb := by
    have : ((cs.drop (q.1 * 2)).take 2)[1]? = some vb := by rw [hvb]; rfl
    rw [List.getElem?_take, if_pos (by decide), List.getElem?_drop] at this
    exact this
  obtain ⟨ab, cb, eb⟩ : ∃ a c, vb = .slice a y.2.length c := by
    obtain ⟨ds, o, _⟩ := bt
    exact o.form
  subst eb
  obtain ⟨ke, tle, ge, hke⟩ := x2.ep.at (P := Try.prog) Try.underlying88 fI hqM
  obtain ⟨ad, cs2, g1, g2, g3⟩ := rl2.at (P := Try.prog) Try.underlying83 wL hq
  unfold Ep1 at g3
  subst g3
  obtain ⟨asl, csl, esl, _⟩ := rl2.form
  rw [esl] at g1
  obtain ⟨ae, ce, ee⟩ := x2.ep.form
  rw [ee] at ge
  have ho2 := x2.obj
  rw [ee] at ho2
  have ld : ∀ {h' : GH}, HS h3 h' → xM Try.prog 3 h' (.pointer (some ad)) = some (.int .i64 q.1) := fun {h'} s => by simp only [xM, wL, kB s.hc g2]; rfl
  have hby := x.bl y (List.mem_of_getElem? hy)
  have hA : dY M id e = some (rC y.2 id, q.1) := by unfold dY; rw [hat]; simp [hy]
  rw [hA]
  have gi : jN Try.prog 83 (.slice asl (uZ 0 (M.map (·.2)) id).length csl) ((i : Nat) : Int) = some (.pointer (some ad)) := g1
  rw [esl]
  have nn : decide (((i : Nat) : Int) < 0) = false := decide_eq_false (by omega)
  have hw : (b3 = false → IntKind.i64.wrap ((n3 : Int) - 1) = (i : Int)) := fun hb => by
    have := hn0 hb
    rw [hb] at hi
    simp at hi
    have := lo3.1
    rw [wrap64 (by omega) (by omega)]; omega
  cases b3
  · have w := hw rfl
    refine qS ?_; repeat' (first | (with_reducible first | apply qH | apply qB) | ((first | (with_reducible apply qR) | (with_reducible first | apply qA | apply qP | apply qD | apply qE | apply qK) | ((with_reducible first | apply qQ | apply qI | apply qJ | apply qW | apply qX) <;> intro hb <;> (try simp only [hb]) <;> (try simp only [zF] at hb)) | with_reducible refine qO xR mixed (by kernel_rfl) ?_) <;> try simp only [qV, qF, qL, qN, qG, qC, qM, reduceIte, seval, Int.cast_ofNat_Int, qY, qZ, qU, zR, zT, zU, vP, xR, List.map_toArray, List.map_cons, List.map_nil, Bool.not_false, w, nn, gNil, qT ho2 gJ, gi, ld (HS.refl _), ge, qT hke jX, hvb1]))
    refine (c_ixf N h3 bt.rl (by omega) m1 (r.hs s12) ⟨hqb, hqid⟩).mono ?_
    rintro _ h4 ⟨⟨i4, y4, rfl, hy4, hf4⟩, s4⟩
    have hkey : rC y.2 id = y4.2 := by unfold rC; rw [hf4]; rfl
    rw [hkey]
    have hid4 : y4.1 = id := by have := List.find?_some hf4; simpa using this
    obtain ⟨ad4, cs4, g4, g5, a5, n5, c5, b5, m5, d5, rfl, q1, q2⟩ := (bt.rl.bs s4).at (P := Try.prog) Try.underlying23 uQ hy4
    have lk4 : ∀ {h' : GH}, HS h4 h' → xM Try.prog 24 h' (.pointer (some ⟨ad4.block, ad4.off + 1, none⟩)) = some (.slice b5 m5 d5) := fun {h'} s => by
      have := rF (kB s.hc g5) (i := 1) (v := .slice b5 m5 d5) rfl
      simp only [xM, wK, this]; rfl
    have hsp := qC9 g5 (by decide)
    rw [uY hsp] at g4
    have hsm := hby.1 _ (List.mem_of_getElem? hy4)
    have e5 := q2.len_eq
    subst e5
    have ho4 := s4 _ _ ho2
    refine qS ?_; repeat' (first | (with_reducible first | apply qH | apply qB) | ((first | (with_reducible apply qR) | (with_reducible first | apply qA | apply qP | apply qD | apply qE | apply qK) | ((with_reducible first | apply qQ | apply qI | apply qJ | apply qW | apply qX) <;> intro hb <;> (try simp only [hb]) <;> (try simp only [zF] at hb)) | with_reducible refine qO xR mixed (by kernel_rfl) ?_) <;> try simp only [qV, qF, qL, qN, qG, qC, qM, reduceIte, seval, Int.cast_ofNat_Int, qY, qZ, qU, zR, zT, zU, vP, xR, Bool.false_and, Bool.not_false, gNil, qT (s4 _ _ m1) wK, g4, lk4 (HS.refl _), gi, ld s4]))
    refine (fD N h4 (r.hs (s12.trans s4)) hid).mono ?_
    rintro _ h5 ⟨s5, o5⟩
    obtain ⟨a6, c6, rfl⟩ := o5.form
    refine qS ?_; repeat' (first | (with_reducible first | apply qH | apply qB) | ((first | (with_reducible apply qR) | (with_reducible first | apply qA | apply qP | apply qD | apply qE | apply qK) | ((with_reducible first | apply qQ | apply qI | apply qJ | apply qW | apply qX) <;> intro hb <;> (try simp only [hb]) <;> (try simp only [zF] at hb)) | with_reducible refine qO xR mixed (by kernel_rfl) ?_) <;> try simp only [qV, qF, qL, qN, qG, qC, qM, reduceIte, seval, Int.cast_ofNat_Int, qY, qZ, qU, zR, zT, zU, vP, xR, Bool.false_and, Bool.not_false, gNil, qT (s5 _ _ (s4 _ _ m1)) wK, g4, lk4 s5, gi, ld (s4.trans s5)]))
    refine (fD N h5 ((q2.hs s5)) hsm.2).mono ?_
    rintro _ h6 ⟨s6, o6⟩
    obtain ⟨a7, c7, rfl⟩ := o6.form
    have m26 := s6 _ _ (s5 _ _ (s4 _ _ m2))
    refine qS ?_; repeat' (first | (with_reducible first | apply qH | apply qB) | ((first | (with_reducible apply qR) | (with_reducible first | apply qA | apply qP | apply qD | apply qE | apply qK) | ((with_reducible first | apply qQ | apply qI | apply qJ | apply qW | apply qX) <;> intro hb <;> (try simp only [hb]) <;> (try simp only [zF] at hb)) | with_reducible refine qO xR mixed (by kernel_rfl) ?_) <;> try simp only [qV, qF, qL, qN, qG, qC, qM, reduceIte, seval, Int.cast_ofNat_Int, qY, qZ, qU, zR, zT, zU, vP, xR, Bool.false_and, Bool.not_false, gNil, qT (s6 _ _ (s5 _ _ (s4 _ _ m1))) wK, g4, lk4 (s5.trans s6), gi, ld ((s4.trans s5).trans s6), xL, xT, vB, Shape.pl, List.all_cons, List.all_nil, zA]))
    refine zM m26 yY rfl (by decide) rfl rfl rfl fun h7 m7 f7 => ?_
    refine qS ?_; repeat' (first | (with_reducible first | apply qH | apply qB) | ((first | (with_reducible apply qR) | (with_reducible first | apply qA | apply qP | apply qD | apply qE | apply qK) | ((with_reducible first | apply qQ | apply qI | apply qJ | apply qW | apply qX) <;> intro hb <;> (try simp only [hb]) <;> (try simp only [zF] at hb)) | with_reducible refine qO xR mixed (by kernel_rfl) ?_) <;> try simp only [qV, qF, qL, qN, qG, qC, qM, reduceIte, seval, Int.cast_ofNat_Int, qY, qZ, qU, zR, zT, zU, vP, xR, zI m7 yY rfl]))
    have hx : HX k2 h6 h7 := fun j B n e => (f7 j n).trans e
    have nk2 : h k2 = none := s1.none_of n2
    refine ⟨⟨a6, c6, a7, c7, rfl, (o5.rb.hs s6).hx m26 rfl hx, o6.rb.hx m26 rfl hx⟩, ?_⟩
    exact (((s12.trans s4).trans s5).trans s6).upd nk2 f7
  · simp only [if_true] at hi
    subst hi
    refine qS ?_; repeat' (first | (with_reducible first | apply qH | apply qB) | ((first | (with_reducible apply qR) | (with_reducible first | apply qA | apply qP | apply qD | apply qE | apply qK) | ((with_reducible first | apply qQ | apply qI | apply qJ | apply qW | apply qX) <;> intro hb <;> (try simp only [hb]) <;> (try simp only [zF] at hb)) | with_reducible refine qO xR mixed (by kernel_rfl) ?_) <;> try simp only [qV, qF, qL, qN, qG, qC, qM, reduceIte, seval, Int.cast_ofNat_Int, qY, qZ, qU, zR, zT, zU, vP, xR, List.map_toArray, List.map_cons, List.map_nil, Bool.not_true, nn, gNil, qT ho2 gJ, gi, ld (HS.refl _), ge, qT hke jX, hvb1]))
    refine (c_ixf N h3 bt.rl (by omega) m1 (r.hs s12) ⟨hqb, hqid⟩).mono ?_
    rintro _ h4 ⟨⟨i4, y4, rfl, hy4, hf4⟩, s4⟩
    have hkey : rC y.2 id = y4.2 := by unfold rC; rw [hf4]; rfl
    rw [hkey]
    have hid4 : y4.1 = id := by have := List.find?_some hf4; simpa using this
    obtain ⟨ad4, cs4, g4, g5, a5, n5, c5, b5, m5, d5, rfl, q1, q2⟩ := (bt.rl.bs s4).at (P := Try.prog) Try.underlying23 uQ hy4
    have lk4 : ∀ {h' : GH}, HS h4 h' → xM Try.prog 24 h' (.pointer (some ⟨ad4.block, ad4.off + 1, none⟩)) = some (.slice b5 m5 d5) := fun {h'} s => by
      have := rF (kB s.hc g5) (i := 1) (v := .slice b5 m5 d5) rfl
      simp only [xM, wK, this]; rfl
    have hsp := qC9 g5 (by decide)
    rw [uY hsp] at g4
    have hsm := hby.1 _ (List.mem_of_getElem? hy4)
    have e5 := q2.len_eq
    subst e5
    have ho4 := s4 _ _ ho2
    refine qS ?_; repeat' (first | (with_reducible first | apply qH | apply qB) | ((first | (with_reducible apply qR) | (with_reducible first | apply qA | apply qP | apply qD | apply qE | apply qK) | ((with_reducible first | apply qQ | apply qI | apply qJ | apply qW | apply qX) <;> intro hb <;> (try simp only [hb]) <;> (try simp only [zF] at hb)) | with_reducible refine qO xR mixed (by kernel_rfl) ?_) <;> try simp only [qV, qF, qL, qN, qG, qC, qM, reduceIte, seval, Int.cast_ofNat_Int, qY, qZ, qU, zR, zT, zU, vP, xR, Bool.false_and, Bool.not_false, gNil, qT (s4 _ _ m1) wK, g4, lk4 (HS.refl _), gi, ld s4]))
    refine (fD N h4 (r.hs (s12.trans s4)) hid).mono ?_
    rintro _ h5 ⟨s5, o5⟩
    obtain ⟨a6, c6, rfl⟩ := o5.form
    refine qS ?_; repeat' (first | (with_reducible first | apply qH | apply qB) | ((first | (with_reducible apply qR) | (with_reducible first | apply qA | apply qP | apply qD | apply qE | apply qK) | ((with_reducible first | apply qQ | apply qI | apply qJ | apply qW | apply qX) <;> intro hb <;> (try simp only [hb]) <;> (try simp only [zF] at hb)) | with_reducible refine qO xR mixed (by kernel_rfl) ?_) <;> try simp only [qV, qF, qL, qN, qG, qC, qM, reduceIte, seval, Int.cast_ofNat_Int, qY, qZ, qU, zR, zT, zU, vP, xR, Bool.false_and, Bool.not_false, gNil, qT (s5 _ _ (s4 _ _ m1)) wK, g4, lk4 s5, gi, ld (s4.trans s5)]))
    refine (fD N h5 ((q2.hs s5)) hsm.2).mono ?_
    rintro _ h6 ⟨s6, o6⟩
    obtain ⟨a7, c7, rfl⟩ := o6.form
    have m26 := s6 _ _ (s5 _ _ (s4 _ _ m2))
    refine qS ?_; repeat' (first | (with_reducible first | apply qH | apply qB) | ((first | (with_reducible apply qR) | (with_reducible first | apply qA | apply qP | apply qD | apply qE | apply qK) | ((with_reducible first | apply qQ | apply qI | apply qJ | apply qW | apply qX) <;> intro hb <;> (try simp only [hb]) <;> (try simp only [zF] at hb)) | with_reducible refine qO xR mixed (by kernel_rfl) ?_) <;> try simp only [qV, qF, qL, qN, qG, qC, qM, reduceIte, seval, Int.cast_ofNat_Int, qY, qZ, qU, zR, zT, zU, vP, xR, Bool.false_and, Bool.not_false, gNil, qT (s6 _ _ (s5 _ _ (s4 _ _ m1))) wK, g4, lk4 (s5.trans s6), gi, ld ((s4.trans s5).trans s6), xL, xT, vB, Shape.pl, List.all_cons, List.all_nil, zA]))
    refine zM m26 yY rfl (by decide) rfl rfl rfl fun h7 m7 f7 => ?_
    refine qS ?_; repeat' (first | (with_reducible first | apply qH | apply qB) | ((first | (with_reducible apply qR) | (with_reducible first | apply qA | apply qP | apply qD | apply qE | apply qK) | ((with_reducible first | apply qQ | apply qI | apply qJ | apply qW | apply qX) <;> intro hb <;> (try simp only [hb]) <;> (try simp only [zF] at hb)) | with_reducible refine qO xR mixed (by kernel_rfl) ?_) <;> try simp only [qV, qF, qL, qN, qG, qC, qM, reduceIte, seval, Int.cast_ofNat_Int, qY, qZ, qU, zR, zT, zU, vP, xR, zI m7 yY rfl]))
    have hx : HX k2 h6 h7 := fun j B n e => (f7 j n).trans e
    have nk2 : h k2 = none := s1.none_of n2
    refine ⟨⟨a6, c6, a7, c7, rfl, (o5.rb.hs s6).hx m26 rfl hx, o6.rb.hx m26 rfl hx⟩, ?_⟩
    exact (((s12.trans s4).trans s5).trans s6).upd nk2 f7
theorem uV : type_of% (And.intro wT (And.intro wN (And.intro yX (And.intro yB (And.intro yW (And.intro yV (And.intro vQ (And.intro gH (And.intro yL (And.intro wZ (And.intro uP (And.intro jV (And.intro yK rs72))))))))))))) := And.intro wT (And.intro wN (And.intro yX (And.intro yB (And.intro yW (And.intro yV (And.intro vQ (And.intro gH (And.intro yL (And.intro wZ (And.intro uP (And.intro jV (And.intro yK rs72))))))))))))
theorem kS : type_of% (And.intro Try.underlying89 (And.intro wT (And.intro wN (And.intro jA (And.intro vY (And.intro yW (And.intro wM (And.intro vQ (And.intro wZ (And.intro uP (And.intro jV (And.intro jJ rs78)))))))))))) := And.intro Try.underlying89 (And.intro wT (And.intro wN (And.intro jA (And.intro vY (And.intro yW (And.intro wM (And.intro vQ (And.intro wZ (And.intro uP (And.intro jV (And.intro jJ rs78)))))))))))
def vW : Nat → List (Nat × List Nat) × List Nat
  | 9 => ([(0, []), (1, []), (2, []), (3, []), (4, []), (5, []), (6, []), (7, []), (8, []), (9, []), (10, []), (11, []), (12, []), (13, []), (14, []), (15, []), (16, []), (17, []), (18, []), (19, []), (20, []), (21, []), (22, [])], [0, 1, 3, 0, 8, 24, 56, 120, 255, 511, 1023, 2047, 4095, 8191, 16383, 32767, 65535, 131071, 262143, 524287, 1048575, 2097151, 4194303])
  | 11 => ([(0, []), (1, []), (2, []), (3, []), (4, []), (5, []), (6, []), (7, []), (8, [])], [0, 1, 0, 4, 12, 28, 60, 127, 255])
  | 15 => ([(0, []), (1, []), (2, []), (3, []), (4, []), (5, []), (6, []), (7, []), (8, []), (9, []), (10, []), (11, []), (12, []), (13, []), (14, []), (15, []), (16, [])], [0, 1, 3, 7, 15, 31, 63, 127, 63, 319, 831, 1855, 3903, 8191, 16383, 32767, 65535])
  | _ => ([], [])
structure Ak where
  kd : Int
  id : List UInt8
  fr : Int
  to : Int
  tm : Int
  sm : Bool
  ep : Int
  ix : Int
  lm : Int
  b : List Bnd
abbrev Itm := Bnd × Nat
def It (h : GH) (cs : List Value) (x : Itm) : Prop := ∃ a c b d, cs = [.slice a x.1.1.length c, .slice b x.1.2.length d, .int .i64 (x.2 : Int)] ∧ RB h (.slice a x.1.1.length c) x.1.1 ∧ RB h (.slice b x.1.2.length d) x.1.2
structure An where
  code : Int := 0
  ep : Int := 0
  pr : Bool := false
  sm : Bool := false
  key : List UInt8 := []
  si : Int := 0
  its : List Itm := []
  evs : List (Nat × Nat × Bnd) := []
  more : Bool := false
def RAn (h : GH) (v : Value) (x : An) : Prop := ∃ a b c d e f, v = .agg #[.int .i64 x.code, .int .i64 x.ep, .bool x.pr, .bool x.sm, .slice a x.key.length b, .int .i64 x.si, .slice c x.its.length d, .slice e x.evs.length f, .bool x.more] ∧
  RB h (.slice a x.key.length b) x.key ∧ RL 3 It h (.slice c x.its.length d) x.its ∧ RL 4 Ev h (.slice e x.evs.length f) x.evs
theorem It.hs {h h' : GH} (x : HS h h') {cs : List Value} {e : Itm} (r : It h cs e) : It h' cs e := by
  obtain ⟨a, c, b, d, e, r1, r2⟩ := r
  exact ⟨a, c, b, d, e, r1.hs x, r2.hs x⟩
theorem RAn.hs {h h' : GH} (s : HS h h') {v : Value} {x : An} (r : RAn h v x) : RAn h' v x := by
  obtain ⟨a, b, c, d, e, f, rfl, r1, r2, r3⟩ := r
  exact ⟨a, b, c, d, e, f, rfl, r1.hs s, r2.hcR s.hc fun _ _ q => q.hs s, r3.hcR s.hc fun _ _ q => q.hs s⟩
theorem RAn.zero (h : GH) (e t : Int) : RAn h (qS8 e t) { code := e, ep := t } := ⟨none, 0, none, 0, none, 0, rfl, RB.nil h, RL.nil h, RL.nil h⟩
def vZ (M : List (Int × List Bnd)) (id : List UInt8) (e : Int) : An := match dY M id e with
  | none => {}
  | some (key, ep) => { pr := true, key := key, si := (ep : Int) }
theorem qX2 (N : Nat) {h0 h : GH} {k j : Nat} {p : Pm} {ew : Value} {cs l : List Value} {M : List (Int × List Bnd)} {ck : Int} {n : Nat} (x : IM h0 h k j p ew cs l M ck n) {a : Option Addr} {c : Nat} {id : List UInt8} (r : RB h (.slice a id.length c) id) (hid : id.length ≤ 140737488355328) (e : Int)
    {c0 c2 c4 c5 c6 c7 c8 c9 : Value} (hc : [c0, c2, c4, c5, c6, c7, c8, c9].all zA = true) :
    GTri Try.prog N 72 [.pointer (some ⟨k, 0, none⟩), .agg #[c0, .slice a id.length c, c2, .int .i64 e, c4, c5, c6, c7, c8, c9]] h fun v h' => RAn h' v (vZ M id e) ∧ HS h h' := by
  refine wQ Try.func72 rfl gf72 ok72 (by simp [Try.ntmps72]) ?_
  repeat' (first | (with_reducible first | apply qH | apply qB) | ((first | (with_reducible first | apply qA | apply qP | apply qD | apply qE | apply qK) | ((with_reducible first | apply qQ | apply qI | apply qJ) <;> intro hb <;> (try simp only [hb]) <;> (try simp only [zF] at hb))) <;> try simp only [qV, qF, qL, qN, qG, qC, qM, reduceIte, seval, Int.cast_ofNat_Int, qY, qZ, uV]))
  refine wY (by simpa [zA] using hc) fun k1 h1 m1 s1 f1 n1 => ?_
  refine qS ?_; repeat' (first | (with_reducible first | apply qH | apply qB) | ((first | (with_reducible apply qR) | (with_reducible first | apply qA | apply qP | apply qD | apply qE | apply qK) | ((with_reducible first | apply qQ | apply qI | apply qJ) <;> intro hb <;> (try simp only [hb]) <;> (try simp only [zF] at hb))) <;> try simp only [qV, qF, qL, qN, qG, qC, qM, reduceIte, seval, Int.cast_ofNat_Int, qY, qZ, uV]))
  refine xW fun k2 h2 m2 s2 f2 n2 => ?_
  replace m1 := s2 _ _ m1
  have s12 := s1.trans s2
  refine qS ?_; repeat' (first | (with_reducible first | apply qH | apply qB) | ((first | (with_reducible apply qR) | (with_reducible first | apply qA | apply qP | apply qD | apply qE | apply qK) | ((with_reducible first | apply qQ | apply qI | apply qJ) <;> intro hb <;> (try simp only [hb]) <;> (try simp only [zF] at hb))) <;> try simp only [qV, qF, qL, qN, qG, qC, qM, reduceIte, seval, Int.cast_ofNat_Int, qY, qZ, uV, qT m1 wK, qT m1 wL]))
  refine (c_iat N (x.hs s12) (r.hs s12) hid e).mono ?_
  rintro v3 h3 ⟨at3, s3⟩
  have hx : ∀ {h' : GH}, (∀ j, j ≠ k2 → h' j = h3 j) → HS h h' := fun {h'} f => (s12.trans s3).upd (s1.none_of n2) f
  unfold vZ
  cases hA : dY M id e with
  | none =>
    rw [hA] at at3
    simp only [AtV] at at3
    subst at3
    refine qS ?_; repeat' (first | (with_reducible first | apply qH | apply qB) | ((first | (with_reducible apply qR) | (with_reducible first | apply qA | apply qP | apply qD | apply qE | apply qK) | ((with_reducible first | apply qQ | apply qI | apply qJ) <;> intro hb <;> (try simp only [hb]) <;> (try simp only [zF] at hb))) <;> try simp only [qV, qF, qL, qN, qG, qC, qM, reduceIte, seval, Int.cast_ofNat_Int, qY, qZ, uV]))
    refine xW fun k4 h4 m4 s4 f4 n4 => ?_
    refine qS ?_; repeat' (first | (with_reducible first | apply qH | apply qB) | ((first | (with_reducible apply qR) | (with_reducible first | apply qA | apply qP | apply qD | apply qE | apply qK) | ((with_reducible first | apply qQ | apply qI | apply qJ) <;> intro hb <;> (try simp only [hb]) <;> (try simp only [zF] at hb))) <;> try simp only [qV, qF, qL, qN, qG, qC, qM, reduceIte, seval, Int.cast_ofNat_Int, qY, qZ, uV]))
    refine zM m4 yY rfl (by decide) rfl rfl rfl fun h5 m5 f5 => ?_
    have s5 : HS h3 h5 := (HS.refl h3).upd n4 (fun j hj => (f5 j hj).trans (f4 j hj))
    have m25 := s5 _ _ (s3 _ _ m2)
    refine qS ?_; repeat' (first | (with_reducible first | apply qH | apply qB) | ((first | (with_reducible apply qR) | (with_reducible first | apply qA | apply qP | apply qD | apply qE | apply qK) | ((with_reducible first | apply qQ | apply qI | apply qJ) <;> intro hb <;> (try simp only [hb]) <;> (try simp only [zF] at hb))) <;> try simp only [qV, qF, qL, qN, qG, qC, qM, reduceIte, seval, Int.cast_ofNat_Int, qY, qZ, uV, qT m5 wK, qT m5 wL, xL, xT, vB, Shape.pl, List.all_cons, List.all_nil, zA]))
    refine zM m25 xG rfl (by decide) rfl rfl rfl fun h6 m6 f6 => ?_
    refine qS ?_; repeat' (first | (with_reducible first | apply qH | apply qB) | ((first | (with_reducible apply qR) | (with_reducible first | apply qA | apply qP | apply qD | apply qE | apply qK) | ((with_reducible first | apply qQ | apply qI | apply qJ) <;> intro hb <;> (try simp only [hb]) <;> (try simp only [zF] at hb))) <;> try simp only [qV, qF, qL, qN, qG, qC, qM, reduceIte, seval, Int.cast_ofNat_Int, qY, qZ, uV, zI m6 xG rfl]))
    exact ⟨RAn.zero h6 0 0, ((s12.trans s3).trans s5).upd (s1.none_of n2) f6⟩
  | some q =>
    obtain ⟨key, ep⟩ := q
    rw [hA] at at3
    simp only [AtV] at at3
    obtain ⟨a3, c3, b3, d3, rfl, r3, r4⟩ := at3
    refine qS ?_; repeat' (first | (with_reducible first | apply qH | apply qB) | ((first | (with_reducible apply qR) | (with_reducible first | apply qA | apply qP | apply qD | apply qE | apply qK) | ((with_reducible first | apply qQ | apply qI | apply qJ) <;> intro hb <;> (try simp only [hb]) <;> (try simp only [zF] at hb))) <;> try simp only [qV, qF, qL, qN, qG, qC, qM, reduceIte, seval, Int.cast_ofNat_Int, qY, qZ, uV]))
    refine xW fun k4 h4 m4 s4 f4 n4 => ?_
    refine qS ?_; repeat' (first | (with_reducible first | apply qH | apply qB) | ((first | (with_reducible apply qR) | (with_reducible first | apply qA | apply qP | apply qD | apply qE | apply qK) | ((with_reducible first | apply qQ | apply qI | apply qJ) <;> intro hb <;> (try simp only [hb]) <;> (try simp only [zF] at hb))) <;> try simp only [qV, qF, qL, qN, qG, qC, qM, reduceIte, seval, Int.cast_ofNat_Int, qY, qZ, uV]))
    refine zM m4 yY rfl (by decide) rfl rfl rfl fun h5 m5 f5 => ?_
    have s5 : HS h3 h5 := (HS.refl h3).upd n4 (fun j hj => (f5 j hj).trans (f4 j hj))
    have m25 := s5 _ _ (s3 _ _ m2)
    refine qS ?_; repeat' (first | (with_reducible first | apply qH | apply qB) | ((first | (with_reducible apply qR) | (with_reducible first | apply qA | apply qP | apply qD | apply qE | apply qK) | ((with_reducible first | apply qQ | apply qI | apply qJ) <;> intro hb <;> (try simp only [hb]) <;> (try simp only [zF] at hb))) <;> try simp only [qV, qF, qL, qN, qG, qC, qM, reduceIte, seval, Int.cast_ofNat_Int, qY, qZ, uV, qT m5 wK, qT m5 wL, xL, xT, vB, Shape.pl, List.all_cons, List.all_nil, zA]))
    refine zM m25 xG rfl (by decide) rfl rfl rfl fun h6 m6 f6 => ?_
    refine qS ?_; repeat' (first | (with_reducible first | apply qH | apply qB) | ((first | (with_reducible apply qR) | (with_reducible first | apply qA | apply qP | apply qD | apply qE | apply qK) | ((with_reducible first | apply qQ | apply qI | apply qJ) <;> intro hb <;> (try simp only [hb]) <;> (try simp only [zF] at hb))) <;> try simp only [qV, qF, qL, qN, qG, qC, qM, reduceIte, seval, Int.cast_ofNat_Int, qY, qZ, uV, zI m6 xG rfl]))
    exact ⟨⟨b3, d3, none, 0, none, 0, rfl, (r4.hs s5).hx m25 rfl (fun j B n e => (f6 j n).trans e), RL.nil h6, RL.nil h6⟩, ((s12.trans s3).trans s5).upd (s1.none_of n2) f6⟩
def xQ (r g : Bool) (p : Pm) (m : Nat) (q : Ak) : Int :=
  if (q.id.length : Int) > p.mi ∨ q.to < 0 ∨ (r = true ∧ q.fr < 0) then 1 else if q.to ≥ (m : Int) then 83 else if r = true ∧ q.fr > q.to then 84 else if g = true ∧ (q.lm < 1 ∨ q.lm > p.pg) then 1 else 0
def kA (k : Int) : Bool := k == 6 || k == 7 || k == 10 || k == 5
def kY (k : Int) : Bool := k == 6 || k == 7 || k == 10
theorem sS (N : Nat) {h0 h : GH} {k j : Nat} {p : Pm} {ew : Value} {cs l : List Value} {M : List (Int × List Bnd)} {ck : Int} {n : Nat} (x : IM h0 h k j p ew cs l M ck n) {a : Option Addr} {c : Nat} (q : Ak) (hid : q.id.length ≤ 140737488355328)
    {c4 c5 c6 c7 c9 : Value} (hc : [c4, c5, c6, c7, c9].all zA = true) :
    GTri Try.prog N 78 [.pointer (some ⟨k, 0, none⟩), .agg #[.int .i64 q.kd, .slice a q.id.length c, .int .i64 q.fr, .int .i64 q.to, c4, c5, c6, c7, .int .i64 q.lm, c9]] h fun v h' => v = .int .i64 (xQ (kA q.kd) (kY q.kd) p M.length q) ∧ HS h h' := by
  have cases5 : ∃ b6 b7 b10 b5 : Bool, (q.kd == 6) = b6 ∧ (q.kd == 7) = b7 ∧ (q.kd == 10) = b10 ∧ (q.kd == 5) = b5 ∧ kA q.kd = (b6 || b7 || b10 || b5) ∧ kY q.kd = (b6 || b7 || b10) ∧
      ((b6 = true ∧ b7 = false ∧ b10 = false ∧ b5 = false) ∨ (b6 = false ∧ b7 = true ∧ b10 = false ∧ b5 = false) ∨ (b6 = false ∧ b7 = false ∧ b10 = true ∧ b5 = false) ∨ (b6 = false ∧ b7 = false ∧ b10 = false ∧ b5 = true) ∨ (b6 = false ∧ b7 = false ∧ b10 = false ∧ b5 = false)) := by
    refine ⟨_, _, _, _, rfl, rfl, rfl, rfl, rfl, rfl, ?_⟩
    by_cases h6 : q.kd = 6
    · left; simp [h6]
    by_cases h7 : q.kd = 7
    · right; left; simp [h7]
    by_cases h10 : q.kd = 10
    · right; right; left; simp [h10]
    by_cases h5 : q.kd = 5
    · right; right; right; left; simp [h5]
    · right; right; right; right; simp [h6, h7, h10, h5]
  obtain ⟨b6, b7, b10, b5, e6, e7, e10, e5, hR, hG, hb⟩ := cases5
  rw [hR, hG]
  obtain ⟨ae, ce, ee⟩ := x.ep.form
  refine wQ Try.func78 rfl gf78 ok78 (by simp [Try.ntmps78]) ?_
  repeat' (first | (with_reducible first | apply qH | apply qB) | ((first | (with_reducible first | apply qA | apply qP | apply qD | apply qE | apply qK) | ((with_reducible first | apply qQ | apply qI | apply qJ | apply qW | apply qX) <;> intro hb <;> (try simp only [hb]) <;> (try simp only [zF] at hb)) | with_reducible refine qO vW mixed (by kernel_rfl) ?_) <;> try simp only [qV, qF, qL, qN, qG, qC, qM, reduceIte, seval, Int.cast_ofNat_Int, qY, qZ, qU, zR, zT, zU, kS, vW]))
  refine wY (by simpa [zA] using hc) fun k1 h1 m1 s1 f1 n1 => ?_
  have x1 := x.hs s1
  have ho := x1.obj
  rw [ee] at ho
  rcases hb with ⟨rfl, rfl, rfl, rfl⟩ | ⟨rfl, rfl, rfl, rfl⟩ | ⟨rfl, rfl, rfl, rfl⟩ | ⟨rfl, rfl, rfl, rfl⟩ | ⟨rfl, rfl, rfl, rfl⟩
  all_goals
    cases d1 : decide ((q.id.length : Int) > p.mi)
    case true =>
      have c1 := of_decide_eq_true d1
      refine qS ?_; repeat' (first | (with_reducible first | apply qH | apply qB) | ((first | (with_reducible apply qR) | (with_reducible first | apply qA | apply qP | apply qD | apply qE | apply qK) | ((with_reducible first | apply qQ | apply qI | apply qJ | apply qW | apply qX) <;> intro hb <;> (try simp only [hb]) <;> (try simp only [zF] at hb)) | with_reducible refine qO vW mixed (by kernel_rfl) ?_) <;> try simp only [qV, qF, qL, qN, qG, qC, qM, reduceIte, seval, Int.cast_ofNat_Int, qY, qZ, qU, zR, zT, zU, kS, vW, gNil, qT m1 wL, qT m1 wK, qT ho wL, qT ho gJ, e6, e7, e10, e5, gPick, Bool.or_true, Bool.or_false, Bool.true_or, Bool.false_or, d1]))
      exact ⟨by simp only [xQ, c1, true_or, if_true], s1⟩
    have c1 := of_decide_eq_false d1
    cases d2 : decide (q.to < 0)
    case true =>
      have c2 := of_decide_eq_true d2
      refine qS ?_; repeat' (first | (with_reducible first | apply qH | apply qB) | ((first | (with_reducible apply qR) | (with_reducible first | apply qA | apply qP | apply qD | apply qE | apply qK) | ((with_reducible first | apply qQ | apply qI | apply qJ | apply qW | apply qX) <;> intro hb <;> (try simp only [hb]) <;> (try simp only [zF] at hb)) | with_reducible refine qO vW mixed (by kernel_rfl) ?_) <;> try simp only [qV, qF, qL, qN, qG, qC, qM, reduceIte, seval, Int.cast_ofNat_Int, qY, qZ, qU, zR, zT, zU, kS, vW, gNil, qT m1 wL, qT m1 wK, qT ho wL, qT ho gJ, e6, e7, e10, e5, gPick, Bool.or_true, Bool.or_false, Bool.true_or, Bool.false_or, d1, d2]))
      exact ⟨by simp only [xQ, c2, true_or, or_true, if_true], s1⟩
    have c2 := of_decide_eq_false d2
    cases d3 : decide (q.fr < 0)
    case true =>
      have c3 := of_decide_eq_true d3
      cases d4 : decide (q.to ≥ (M.length : Int))
      case true =>
        have c4 := of_decide_eq_true d4
        refine qS ?_; repeat' (first | (with_reducible first | apply qH | apply qB) | ((first | (with_reducible apply qR) | (with_reducible first | apply qA | apply qP | apply qD | apply qE | apply qK) | ((with_reducible first | apply qQ | apply qI | apply qJ | apply qW | apply qX) <;> intro hb <;> (try simp only [hb]) <;> (try simp only [zF] at hb)) | with_reducible refine qO vW mixed (by kernel_rfl) ?_) <;> try simp only [qV, qF, qL, qN, qG, qC, qM, reduceIte, seval, Int.cast_ofNat_Int, qY, qZ, qU, zR, zT, zU, kS, vW, gNil, qT m1 wL, qT m1 wK, qT ho wL, qT ho gJ, e6, e7, e10, e5, gPick, Bool.or_true, Bool.or_false, Bool.true_or, Bool.false_or, d1, d2, d3, d4]))
        exact ⟨by simp [xQ, c1, c2, c3, c4] <;> omega, s1⟩
      have c4 := of_decide_eq_false d4
      refine qS ?_; repeat' (first | (with_reducible first | apply qH | apply qB) | ((first | (with_reducible apply qR) | (with_reducible first | apply qA | apply qP | apply qD | apply qE | apply qK) | ((with_reducible first | apply qQ | apply qI | apply qJ | apply qW | apply qX) <;> intro hb <;> (try simp only [hb]) <;> (try simp only [zF] at hb)) | with_reducible refine qO vW mixed (by kernel_rfl) ?_) <;> try simp only [qV, qF, qL, qN, qG, qC, qM, reduceIte, seval, Int.cast_ofNat_Int, qY, qZ, qU, zR, zT, zU, kS, vW, gNil, qT m1 wL, qT m1 wK, qT ho wL, qT ho gJ, e6, e7, e10, e5, gPick, Bool.or_true, Bool.or_false, Bool.true_or, Bool.false_or, d1, d2, d3, d4]))
      exact ⟨by simp [xQ, c1, c2, c3, c4] <;> omega, s1⟩
    have c3 := of_decide_eq_false d3
    cases d4 : decide (q.to ≥ (M.length : Int))
    case true =>
      have c4 := of_decide_eq_true d4
      refine qS ?_; repeat' (first | (with_reducible first | apply qH | apply qB) | ((first | (with_reducible apply qR) | (with_reducible first | apply qA | apply qP | apply qD | apply qE | apply qK) | ((with_reducible first | apply qQ | apply qI | apply qJ | apply qW | apply qX) <;> intro hb <;> (try simp only [hb]) <;> (try simp only [zF] at hb)) | with_reducible refine qO vW mixed (by kernel_rfl) ?_) <;> try simp only [qV, qF, qL, qN, qG, qC, qM, reduceIte, seval, Int.cast_ofNat_Int, qY, qZ, qU, zR, zT, zU, kS, vW, gNil, qT m1 wL, qT m1 wK, qT ho wL, qT ho gJ, e6, e7, e10, e5, gPick, Bool.or_true, Bool.or_false, Bool.true_or, Bool.false_or, d1, d2, d3, d4]))
      exact ⟨by simp only [xQ, c1, c2, c3, c4, and_false, false_or, or_false, if_true, if_false], s1⟩
    have c4 := of_decide_eq_false d4
    cases d5 : decide (q.fr > q.to)
    case true =>
      have c5 := of_decide_eq_true d5
      cases d6 : decide (q.lm < 1) <;> cases d7 : decide (q.lm > p.pg)
      all_goals
        first
        | have c6 := of_decide_eq_true d6
        | have c6 := of_decide_eq_false d6
        first
        | have c7 := of_decide_eq_true d7
        | have c7 := of_decide_eq_false d7
        refine qS ?_; repeat' (first | (with_reducible first | apply qH | apply qB) | ((first | (with_reducible apply qR) | (with_reducible first | apply qA | apply qP | apply qD | apply qE | apply qK) | ((with_reducible first | apply qQ | apply qI | apply qJ | apply qW | apply qX) <;> intro hb <;> (try simp only [hb]) <;> (try simp only [zF] at hb)) | with_reducible refine qO vW mixed (by kernel_rfl) ?_) <;> try simp only [qV, qF, qL, qN, qG, qC, qM, reduceIte, seval, Int.cast_ofNat_Int, qY, qZ, qU, zR, zT, zU, kS, vW, gNil, qT m1 wL, qT m1 wK, qT ho wL, qT ho gJ, e6, e7, e10, e5, gPick, Bool.or_true, Bool.or_false, Bool.true_or, Bool.false_or, d1, d2, d3, d4, d5, d6, d7]))
        exact ⟨by simp [xQ, c1, c2, c3, c4, c5, c6, c7] <;> omega, s1⟩
    have c5 := of_decide_eq_false d5
    cases d6 : decide (q.lm < 1) <;> cases d7 : decide (q.lm > p.pg)
    all_goals
      first
      | have c6 := of_decide_eq_true d6
      | have c6 := of_decide_eq_false d6
      first
      | have c7 := of_decide_eq_true d7
      | have c7 := of_decide_eq_false d7
      refine qS ?_; repeat' (first | (with_reducible first | apply qH | apply qB) | ((first | (with_reducible apply qR) | (with_reducible first | apply qA | apply qP | apply qD | apply qE | apply qK) | ((with_reducible first | apply qQ | apply qI | apply qJ | apply qW | apply qX) <;> intro hb <;> (try simp only [hb]) <;> (try simp only [zF] at hb)) | with_reducible refine qO vW mixed (by kernel_rfl) ?_) <;> try simp only [qV, qF, qL, qN, qG, qC, qM, reduceIte, seval, Int.cast_ofNat_Int, qY, qZ, qU, zR, zT, zU, kS, vW, gNil, qT m1 wL, qT m1 wK, qT ho wL, qT ho gJ, e6, e7, e10, e5, gPick, Bool.or_true, Bool.or_false, Bool.true_or, Bool.false_or, d1, d2, d3, d4, d5, d6, d7]))
      exact ⟨by simp [xQ, c1, c2, c3, c4, c5, c6, c7] <;> omega, s1⟩
theorem yQ : type_of% (And.intro wT (And.intro wN (And.intro yX (And.intro yB (And.intro yW (And.intro yV (And.intro vQ (And.intro yL (And.intro wZ (And.intro uP (And.intro yK qH3))))))))))) := And.intro wT (And.intro wN (And.intro yX (And.intro yB (And.intro yW (And.intro yV (And.intro vQ (And.intro yL (And.intro wZ (And.intro uP (And.intro yK qH3))))))))))
theorem IS.base {h0 hb h : GH} {k j : Nat} {p : Pm} {ew : Value} {cs l : List Value} {M : List (Int × List Bnd)} {ck : Int} {n : Nat} {S : List UInt8 → List (Nat × Nat)} (x : IS h0 h k j p ew cs l M ck n S) (f : ∀ i, h i ≠ none → h0 i = none → hb i = none) : IS hb h k j p ew cs l M ck n S := by
  refine ⟨x.obj, f k (by rw [x.obj]; simp) x.nk, x.mp, f _ (by rw [x.mp]; simp) x.nj, x.ok, x.u8, ?_, x.eps, x.sp, x.cu8, x.bl, x.len, x.tt, x.nch, x.may, x.ks⟩
  obtain ⟨kb, c, tl, h1, h2, h3, h4, h5, h6⟩ := x.ep
  exact ⟨kb, c, tl, h1, h2, h3, h4, f _ (by rw [h4]; simp) h5, h6⟩
theorem IS.weak {h0 hb h : GH} {k j : Nat} {p : Pm} {ew : Value} {cs l : List Value} {M : List (Int × List Bnd)} {ck : Int} {n : Nat} {S : List UInt8 → List (Nat × Nat)} (x : IS hb h k j p ew cs l M ck n S) (s : HS h0 hb) : IS h0 h k j p ew cs l M ck n S := by
  refine ⟨x.obj, s.none_of x.nk, x.mp, s.none_of x.nj, x.ok, x.u8, ?_, x.eps, x.sp, x.cu8, x.bl, x.len, x.tt, x.nch, x.may, x.ks⟩
  obtain ⟨kb, c, tl, h1, h2, h3, h4, h5, h6⟩ := x.ep
  exact ⟨kb, c, tl, h1, h2, h3, h4, s.none_of h5, h6⟩
def hN (h0 h h2 : GH) : GH := fun i => match h i with
  | some _ => h0 i
  | none => h2 i
theorem pD {h0 h h2 : GH} {k : Nat} (n : h k = none) : hN h0 h h2 k = h2 k := by unfold hN; rw [n]
theorem rD {h0 h h2 : GH} (s : HS h0 h) : HS h0 (hN h0 h h2) := fun i B e => by unfold hN; rw [s _ _ e]; exact e
theorem qO9 {h0 h h2 : GH} (s : HS h0 h) (t : HS h h2) : HS (hN h0 h h2) h2 := fun i B e => by
  unfold hN at e
  split at e
  · exact t _ _ (s _ _ e)
  · exact e
theorem IS.new {h0 h h2 : GH} {k j : Nat} {p : Pm} {ew : Value} {cs l : List Value} {M : List (Int × List Bnd)} {ck : Int} {n : Nat} {S : List UInt8 → List (Nat × Nat)} (x : IS h0 h k j p ew cs l M ck n S) (t : HS h h2) : IS (hN h0 h h2) h2 k j p ew cs l M ck n S :=
  (x.base (hb := hN h0 h h2) fun i hi h0i => by
    unfold hN
    cases e : h i with
    | none => exact absurd e hi
    | some B => exact h0i).hs t
theorem zB0 (N : Nat) {h0 h : GH} {k j : Nat} {p : Pm} {ew : Value} {cs l : List Value} {M : List (Int × List Bnd)} {ck : Int} {n : Nat} (s0 : HS h0 h) (x : IM h0 h k j p ew cs l M ck n) {d : Option Addr} {g : Nat} {b : List Bnd} (rl : RL 2 Bd h0 (.slice d b.length g) b) (hb : b.length ≤ 140737488355328)
    {c1 c2 c3 c4 c5 c6 c7 c8 : Value} (hc : [c1, c2, c3, c4, c5, c6, c7, c8].all zA = true) :
    GTri Try.prog N 32 [.pointer (some ⟨k, 0, none⟩), .agg #[.int .i64 1, c1, c2, c3, c4, c5, c6, c7, c8, .slice d b.length g]] h fun v h' =>
      v = qS8 (kH p M.length n b) (if kH p M.length n b = 0 then (M.length : Int) else 0) ∧ HS h0 h' ∧
      (kH p M.length n b ≠ 0 ∧ IM h0 h' k j p ew cs l M ck n ∨ kH p M.length n b = 0 ∧ ∃ ew' cs' l', IM h0 h' k j p ew' cs' l' (M ++ [(ck, b)]) ck (n + b.length)) := by
  have hc1 : [Value.int .i64 1, c1, c2, c3, c4, c5, c6, c7, c8].all zA = true := by simpa [zA] using hc
  refine wQ Try.func32 rfl qL2 qK5 (by simp [Try.ntmps32]) ?_
  repeat' (first | (with_reducible first | apply qH | apply qB) | ((first | (with_reducible first | apply qA | apply qP | apply qD | apply qE | apply qK) | ((with_reducible first | apply qQ | apply qI | apply qJ) <;> intro hb <;> (try simp only [hb]) <;> (try simp only [zF] at hb))) <;> try simp only [qV, qF, qL, qN, qG, qC, qM, reduceIte, seval, Int.cast_ofNat_Int, qY, qZ, yQ]))
  refine wY (by simpa [zA] using hc) fun k1 h1 m1 s1 f1 n1 => ?_
  refine qS ?_; repeat' (first | (with_reducible first | apply qH | apply qB) | ((first | (with_reducible apply qR) | (with_reducible first | apply qA | apply qP | apply qD | apply qE | apply qK) | ((with_reducible first | apply qQ | apply qI | apply qJ) <;> intro hb <;> (try simp only [hb]) <;> (try simp only [zF] at hb))) <;> try simp only [qV, qF, qL, qN, qG, qC, qM, reduceIte, seval, Int.cast_ofNat_Int, qY, qZ, yQ]))
  refine xW fun k2 h2 m2 s2 f2 n2 => ?_
  replace m1 := s2 _ _ m1
  have s12 := s1.trans s2
  have x2 := x.hs s12
  have n2' := s1.none_of n2
  have d0 : ((1 : Int) == 1) = true := rfl
  refine qS ?_; repeat' (first | (with_reducible first | apply qH | apply qB) | ((first | (with_reducible apply qR) | (with_reducible first | apply qA | apply qP | apply qD | apply qE | apply qK) | ((with_reducible first | apply qQ | apply qI | apply qJ) <;> intro hb <;> (try simp only [hb]) <;> (try simp only [zF] at hb)) | ((refine GTri.mono (yU _ x2) ?_); rintro _ _ ⟨rfl, hh9⟩; replace hh9 := hh9.symm; subst hh9)) <;> try simp only [qV, qF, qL, qN, qG, qC, qM, reduceIte, seval, Int.cast_ofNat_Int, qY, qZ, yQ, qT m1 wL, d0, zI m1 uO rfl]))
  refine (zE7 N (qO9 s0 s12) (x.new s12) ((rl.bs (rD s0))) hb hc1).mono ?_
  rintro _ h3 ⟨rfl, s3, r3⟩
  have m23 : h3 k2 = _ := s3 _ _ ((pD n2').trans m2)
  have k2k : k2 ≠ k := fun q => by subst q; rw [x.obj] at n2'; cases n2'
  have k2j : k2 ≠ j + 1 := fun q => by subst q; rw [x.mp] at n2'; cases n2'
  refine qS ?_; repeat' (first | (with_reducible first | apply qH | apply qB) | ((first | (with_reducible apply qR) | (with_reducible first | apply qA | apply qP | apply qD | apply qE | apply qK) | ((with_reducible first | apply qQ | apply qI | apply qJ) <;> intro hb <;> (try simp only [hb]) <;> (try simp only [zF] at hb))) <;> try simp only [qV, qF, qL, qN, qG, qC, qM, reduceIte, seval, Int.cast_ofNat_Int, qY, qZ, yQ]))
  refine zM m23 xG rfl (by decide) rfl rfl rfl fun h4 m4 f4 => ?_
  refine qS ?_; repeat' (first | (with_reducible first | apply qH | apply qB) | ((first | (with_reducible apply qR) | (with_reducible first | apply qA | apply qP | apply qD | apply qE | apply qK) | ((with_reducible first | apply qQ | apply qI | apply qJ) <;> intro hb <;> (try simp only [hb]) <;> (try simp only [zF] at hb))) <;> try simp only [qV, qF, qL, qN, qG, qC, qM, reduceIte, seval, Int.cast_ofNat_Int, qY, qZ, yQ, zI m4 xG rfl]))
  refine ⟨rfl, ((rD s0).trans s3).upd (s0.none_of n2') f4, ?_⟩
  rcases r3 with ⟨e, y⟩ | ⟨e, ew', cs', l', y⟩
  · exact .inl ⟨e, (y.weak (rD s0)).oth m23 rfl rfl f4 k2k k2j⟩
  · exact .inr ⟨e, ew', cs', l', (y.weak (rD s0)).oth m23 rfl rfl f4 k2k k2j⟩
theorem qS3 (N : Nat) {h0 h : GH} {k j : Nat} {p : Pm} {ew : Value} {cs l : List Value} {M : List (Int × List Bnd)} {ck : Int} {n : Nat} (x : IM h0 h k j p ew cs l M ck n) {a : Option Addr} {c : Nat} (q : Ak) (hk : q.kd = 3) (r : RB h (.slice a q.id.length c) q.id) (hid : q.id.length ≤ 140737488355328)
    {c4 c5 c6 c7 c9 : Value} (hc : [c4, c5, c6, c7, c9].all zA = true) :
    GTri Try.prog N 32 [.pointer (some ⟨k, 0, none⟩), .agg #[.int .i64 q.kd, .slice a q.id.length c, .int .i64 q.fr, .int .i64 q.to, c4, c5, c6, c7, .int .i64 q.lm, c9]] h fun v h' =>
      RAn h' v (if xQ false false p M.length q = 0 then vZ M q.id q.to else { code := xQ false false p M.length q }) ∧ HS h h' := by
  have hc3 : [Value.int .i64 q.kd, .int .i64 q.fr, c4, c5, c6, c7, .int .i64 q.lm, c9].all zA = true := by simpa [zA] using hc
  have hr : kA q.kd = false := by rw [hk]; rfl
  have hg : kY q.kd = false := by rw [hk]; rfl
  have e1 : (q.kd == 1) = false := by rw [hk]; rfl
  have e2 : (q.kd == 2) = false := by rw [hk]; rfl
  have e8 : (q.kd == 8) = false := by rw [hk]; rfl
  have e9 : (q.kd == 9) = false := by rw [hk]; rfl
  have e3 : (q.kd == 3) = true := by rw [hk]; rfl
  refine wQ Try.func32 rfl qL2 qK5 (by simp [Try.ntmps32]) ?_
  repeat' (first | (with_reducible first | apply qH | apply qB) | ((first | (with_reducible first | apply qA | apply qP | apply qD | apply qE | apply qK) | ((with_reducible first | apply qQ | apply qI | apply qJ) <;> intro hb <;> (try simp only [hb]) <;> (try simp only [zF] at hb))) <;> try simp only [qV, qF, qL, qN, qG, qC, qM, reduceIte, seval, Int.cast_ofNat_Int, qY, qZ, yQ]))
  refine wY (by simpa [zA] using hc) fun k1 h1 m1 s1 f1 n1 => ?_
  refine qS ?_; repeat' (first | (with_reducible first | apply qH | apply qB) | ((first | (with_reducible apply qR) | (with_reducible first | apply qA | apply qP | apply qD | apply qE | apply qK) | ((with_reducible first | apply qQ | apply qI | apply qJ) <;> intro hb <;> (try simp only [hb]) <;> (try simp only [zF] at hb))) <;> try simp only [qV, qF, qL, qN, qG, qC, qM, reduceIte, seval, Int.cast_ofNat_Int, qY, qZ, yQ]))
  refine xW fun k2 h2 m2 s2 f2 n2 => ?_
  replace m1 := s2 _ _ m1
  have s12 := s1.trans s2
  have x2 := x.hs s12
  have n2' := s1.none_of n2
  refine qS ?_; repeat' (first | (with_reducible first | apply qH | apply qB) | ((first | (with_reducible apply qR) | (with_reducible first | apply qA | apply qP | apply qD | apply qE | apply qK) | ((with_reducible first | apply qQ | apply qI | apply qJ) <;> intro hb <;> (try simp only [hb]) <;> (try simp only [zF] at hb)) | ((refine GTri.mono (yU _ x2) ?_); rintro _ _ ⟨rfl, hh9⟩; replace hh9 := hh9.symm; subst hh9)) <;> try simp only [qV, qF, qL, qN, qG, qC, qM, reduceIte, seval, Int.cast_ofNat_Int, qY, qZ, yQ, List.map_toArray, List.map_cons, List.map_nil, qT m1 wL, e1, e2, e8, e9, e3, zI m1 uO rfl]))
  refine (sS N x2 q hid hc).mono ?_
  rintro _ h3 ⟨rfl, s3⟩
  rw [hr, hg]
  have m23 := s3 _ _ m2
  by_cases hw : xQ false false p M.length q = 0
  case neg =>
    rw [if_neg hw]
    have dw : (xQ false false p M.length q != 0) = true := by simpa using hw
    refine qS ?_; repeat' (first | (with_reducible first | apply qH | apply qB) | ((first | (with_reducible apply qR) | (with_reducible first | apply qA | apply qP | apply qD | apply qE | apply qK) | ((with_reducible first | apply qQ | apply qI | apply qJ) <;> intro hb <;> (try simp only [hb]) <;> (try simp only [zF] at hb))) <;> try simp only [qV, qF, qL, qN, qG, qC, qM, reduceIte, seval, Int.cast_ofNat_Int, qY, qZ, yQ, dw, xL, xT, vB, Shape.pl, List.all_cons, List.all_nil, zA]))
    refine zM m23 xG rfl (by decide) rfl rfl rfl fun h4 m4 f4 => ?_
    refine qS ?_; repeat' (first | (with_reducible first | apply qH | apply qB) | ((first | (with_reducible apply qR) | (with_reducible first | apply qA | apply qP | apply qD | apply qE | apply qK) | ((with_reducible first | apply qQ | apply qI | apply qJ) <;> intro hb <;> (try simp only [hb]) <;> (try simp only [zF] at hb))) <;> try simp only [qV, qF, qL, qN, qG, qC, qM, reduceIte, seval, Int.cast_ofNat_Int, qY, qZ, yQ, zI m4 xG rfl]))
    exact ⟨RAn.zero h4 _ 0, (s12.trans s3).upd n2' f4⟩
  rw [if_pos hw]
  have dw : (xQ false false p M.length q != 0) = false := by simpa using hw
  have s03 := s12.trans s3
  refine qS ?_; repeat' (first | (with_reducible first | apply qH | apply qB) | ((first | (with_reducible apply qR) | (with_reducible first | apply qA | apply qP | apply qD | apply qE | apply qK) | ((with_reducible first | apply qQ | apply qI | apply qJ) <;> intro hb <;> (try simp only [hb]) <;> (try simp only [zF] at hb))) <;> try simp only [qV, qF, qL, qN, qG, qC, qM, reduceIte, seval, Int.cast_ofNat_Int, qY, qZ, yQ, dw, zI (s3 _ _ m1) uO rfl]))
  refine (qX2 N (x.hs s03) (r.hs s03) hid q.to hc3).mono ?_
  rintro v4 h4 ⟨r4, s4⟩
  obtain ⟨a4, b4, c4', d4, e4, f4', rfl, t1, t2, t3⟩ := r4
  refine qS ?_; repeat' (first | (with_reducible first | apply qH | apply qB) | ((first | (with_reducible apply qR) | (with_reducible first | apply qA | apply qP | apply qD | apply qE | apply qK) | ((with_reducible first | apply qQ | apply qI | apply qJ) <;> intro hb <;> (try simp only [hb]) <;> (try simp only [zF] at hb))) <;> try simp only [qV, qF, qL, qN, qG, qC, qM, reduceIte, seval, Int.cast_ofNat_Int, qY, qZ, yQ]))
  refine zM (s4 _ _ m23) xG rfl (by decide) rfl rfl rfl fun h5 m5 f5 => ?_
  refine qS ?_; repeat' (first | (with_reducible first | apply qH | apply qB) | ((first | (with_reducible apply qR) | (with_reducible first | apply qA | apply qP | apply qD | apply qE | apply qK) | ((with_reducible first | apply qQ | apply qI | apply qJ) <;> intro hb <;> (try simp only [hb]) <;> (try simp only [zF] at hb))) <;> try simp only [qV, qF, qL, qN, qG, qC, qM, reduceIte, seval, Int.cast_ofNat_Int, qY, qZ, yQ, zI m5 xG rfl]))
  have hx : HX k2 h4 h5 := fun j B n e => (f5 j n).trans e
  have m24 := s4 _ _ m23
  have key := t1.hx m24 rfl hx
  have i1 : RL 3 It h5 _ _ := t2.hxR m24 ⟨rfl, rfl⟩ hx fun cs y r => by
    obtain ⟨a, c, b, d, e, r1, r2⟩ := r
    exact ⟨a, c, b, d, e, r1.hx m24 rfl hx, r2.hx m24 rfl hx⟩
  have i2 : RL 4 Ev h5 _ _ := t3.hxR m24 ⟨rfl, rfl⟩ hx fun cs y r => by
    obtain ⟨a, c, b, d, e, r1, r2⟩ := r
    exact ⟨a, c, b, d, e, r1.hx m24 rfl hx, r2.hx m24 rfl hx⟩
  exact ⟨⟨_, _, _, _, _, _, rfl, key, i1, i2⟩, (s03.trans s4).upd n2' f5⟩
theorem uF : type_of% (And.intro Try.underlying70 (And.intro wT (And.intro wN (And.intro yX (And.intro yB (And.intro yW (And.intro wM (And.intro yV (And.intro vQ (And.intro uM (And.intro yL (And.intro wZ (And.intro uP (And.intro jV (And.intro yK rs35))))))))))))))) := And.intro Try.underlying70 (And.intro wT (And.intro wN (And.intro yX (And.intro yB (And.intro yW (And.intro wM (And.intro yV (And.intro vQ (And.intro uM (And.intro yL (And.intro wZ (And.intro uP (And.intro jV (And.intro yK rs35))))))))))))))
theorem lN (N : Nat) (h : GH) : GTri Try.prog N 35 [] h fun v h' => v = .bool true ∧ HS h h' := by
  refine wQ Try.func35 rfl gf35 ok35 (by simp [Try.ntmps35]) ?_
  repeat' (first | (with_reducible first | apply qH | apply qB) | ((first | (with_reducible first | apply qA | apply qP | apply qD | apply qE | apply qK) | ((with_reducible first | apply qQ | apply qI | apply qJ) <;> intro hb <;> (try simp only [hb]) <;> (try simp only [zF] at hb))) <;> try simp only [qV, qF, qL, qN, qG, qC, qM, reduceIte, seval, Int.cast_ofNat_Int, qY, qZ, uF]))
  refine (zE6 N h).mono ?_
  rintro _ h1 ⟨rfl, s1⟩
  refine qS ?_; repeat' (first | (with_reducible first | apply qH | apply qB) | ((first | (with_reducible apply qR) | (with_reducible first | apply qA | apply qP | apply qD | apply qE | apply qK) | ((with_reducible first | apply qQ | apply qI | apply qJ) <;> intro hb <;> (try simp only [hb]) <;> (try simp only [zF] at hb))) <;> try simp only [qV, qF, qL, qN, qG, qC, qM, reduceIte, seval, Int.cast_ofNat_Int, qY, qZ, uF]))
  refine (c_iNew N s1 pms).mono ?_
  rintro _ h2 ⟨r2, s2⟩
  have hck : pms.check = 0 := by decide
  rcases r2 with ⟨q, _⟩ | ⟨_, k, j, ew, cs, rfl, hk, x2⟩
  · exact absurd hck q
  have s02 := s1.trans s2
  have z : ((0 : Int) != 0) = false := rfl
  refine qS ?_; repeat' (first | (with_reducible first | apply qH | apply qB) | ((first | (with_reducible apply qR) | (with_reducible first | apply qA | apply qP | apply qD | apply qE | apply qK) | ((with_reducible first | apply qQ | apply qI | apply qJ) <;> intro hb <;> (try simp only [hb]) <;> (try simp only [zF] at hb))) <;> try simp only [qV, qF, qL, qN, qG, qC, qM, reduceIte, seval, Int.cast_ofNat_Int, qY, qZ, uF, qA2, z, gPick]))
  refine gV fG rfl rfl (by decide) (by decide) rfl fun k3 h3 m3 s3 f3 n3 => ?_
  refine qS ?_; repeat' (first | (with_reducible first | apply qH | apply qB) | ((first | (with_reducible apply qR) | (with_reducible first | apply qA | apply qP | apply qD | apply qE | apply qK) | ((with_reducible first | apply qQ | apply qI | apply qJ) <;> intro hb <;> (try simp only [hb]) <;> (try simp only [zF] at hb))) <;> try simp only [qV, qF, qL, qN, qG, qC, qM, reduceIte, seval, Int.cast_ofNat_Int, qY, qZ, uF, if_true]))
  refine mark_g Try.underlying24 Try.underlying5 m3 rfl (by decide) fun h4 m4 f4 => ?_
  have s4 : HS h2 h4 := (HS.refl h2).upd n3 (fun i hi => (f4 i hi).trans (f3 i hi))
  refine qS ?_; repeat' (first | (with_reducible first | apply qH | apply qB) | ((first | (with_reducible apply qR) | (with_reducible first | apply qA | apply qP | apply qD | apply qE | apply qK) | ((with_reducible first | apply qQ | apply qI | apply qJ) <;> intro hb <;> (try simp only [hb]) <;> (try simp only [zF] at hb))) <;> try simp only [qV, qF, qL, qN, qG, qC, qM, reduceIte, seval, Int.cast_ofNat_Int, qY, qZ, uF, xL, xT, vB, Shape.pl, List.all_cons, List.all_nil, zA]))
  refine gV zE4 rfl rfl (by decide) (by decide) rfl fun k5 h5 m5 s5 f5 n5 => ?_
  have s25 := s4.trans s5
  have xN := x2.new s25
  have n5' : h2 k5 = none := s4.none_of n5
  have rb : RB (hN h h2 h5) (.slice (some ⟨k3, 0, none⟩) 1 3) [97] := pQ (l := [97]) ((pD n3).trans (s5 _ _ m4)) rfl
  have l5 : RL 2 Bd (hN h h2 h5) (.slice (some ⟨k5, 0, none⟩) 1 3) [([97], [])] := one_rl (R := Bd) (x := ([97], [])) ((pD n5').trans m5) rfl (by decide) ⟨_, _, _, _, _, _, rfl, rb, .inl ⟨0, rfl, rfl⟩⟩
  refine qS ?_; repeat' (first | (with_reducible first | apply qH | apply qB) | ((first | (with_reducible apply qR) | (with_reducible first | apply qA | apply qP | apply qD | apply qE | apply qK) | ((with_reducible first | apply qQ | apply qI | apply qJ) <;> intro hb <;> (try simp only [hb]) <;> (try simp only [zF] at hb))) <;> try simp only [qV, qF, qL, qN, qG, qC, qM, reduceIte, seval, Int.cast_ofNat_Int, qY, qZ, uF, xL, xT, vB, Shape.pl, List.all_cons, List.all_nil, zA]))
  refine (zB0 N (qO9 s02 s25) xN (b := [([97], [])]) l5 (by simp) rfl).mono ?_
  rintro _ h6 ⟨rfl, s6, r6⟩
  have hp : kH pms [((0 : Int), ([] : List Bnd))].length 0 [([97], [])] = 0 := by decide
  rcases r6 with ⟨q, _⟩ | ⟨_, ew', cs', l', x6⟩
  · exact absurd hp q
  rw [hp]
  have s06 := (rD s02).trans s6
  simp only [if_true, qS8]
  refine qS ?_; repeat' (first | (with_reducible first | apply qH | apply qB) | ((first | (with_reducible apply qR) | (with_reducible first | apply qA | apply qP | apply qD | apply qE | apply qK) | ((with_reducible first | apply qQ | apply qI | apply qJ) <;> intro hb <;> (try simp only [hb]) <;> (try simp only [zF] at hb))) <;> try simp only [qV, qF, qL, qN, qG, qC, qM, reduceIte, seval, Int.cast_ofNat_Int, qY, qZ, uF]))
  refine xW fun k7 h7 m7 s7 f7 n7 => ?_
  refine qS ?_; repeat' (first | (with_reducible first | apply qH | apply qB) | ((first | (with_reducible apply qR) | (with_reducible first | apply qA | apply qP | apply qD | apply qE | apply qK) | ((with_reducible first | apply qQ | apply qI | apply qJ) <;> intro hb <;> (try simp only [hb]) <;> (try simp only [zF] at hb))) <;> try simp only [qV, qF, qL, qN, qG, qC, qM, reduceIte, seval, Int.cast_ofNat_Int, qY, qZ, uF]))
  refine zM m7 xG rfl (by decide) rfl rfl rfl fun h8 m8 f8 => ?_
  have s8 : HS h6 h8 := (HS.refl h6).upd n7 (fun i hi => (f8 i hi).trans (f7 i hi))
  have x8 := x6.hs s8
  have dl : (((([((0 : Int), ([] : List Bnd))] : List (Int × List Bnd)).length : Nat) : Int) == 1) = true := rfl
  have dn : (((0 + [(([97] : List UInt8), ([] : List UInt8))].length : Nat) : Int) == 1) = true := rfl
  have z0 : ((0 : Int) == 0) = true := rfl
  refine qS ?_; repeat' (first | (with_reducible first | apply qH | apply qB) | ((first | (with_reducible apply qR) | (with_reducible first | apply qA | apply qP | apply qD | apply qE | apply qK) | ((with_reducible first | apply qQ | apply qI | apply qJ) <;> intro hb <;> (try simp only [hb]) <;> (try simp only [zF] at hb)) | ((refine GTri.mono (qG4 _ x8) ?_); rintro _ _ ⟨rfl, hh9⟩; replace hh9 := hh9.symm; subst hh9)) <;> try simp only [qV, qF, qL, qN, qG, qC, qM, reduceIte, seval, Int.cast_ofNat_Int, qY, qZ, uF, qT m8 sz29, qT m8 wL, dl, dn, z0, gPick]))
  refine gV fG rfl rfl (by decide) (by decide) rfl fun k9 h9 m9 s9 f9 n9 => ?_
  refine qS ?_; repeat' (first | (with_reducible first | apply qH | apply qB) | ((first | (with_reducible apply qR) | (with_reducible first | apply qA | apply qP | apply qD | apply qE | apply qK) | ((with_reducible first | apply qQ | apply qI | apply qJ) <;> intro hb <;> (try simp only [hb]) <;> (try simp only [zF] at hb))) <;> try simp only [qV, qF, qL, qN, qG, qC, qM, reduceIte, seval, Int.cast_ofNat_Int, qY, qZ, uF, if_true]))
  refine mark_g Try.underlying24 Try.underlying5 m9 rfl (by decide) fun h10 m10 f10 => ?_
  have s10 : HS h8 h10 := (HS.refl h8).upd n9 (fun i hi => (f10 i hi).trans (f9 i hi))
  have x10 := x8.hs s10
  have rb10 : RB h10 (.slice (some ⟨k9, 0, none⟩) 1 3) [97] := pQ (l := [97]) m10 rfl
  refine qS ?_; repeat' (first | (with_reducible first | apply qH | apply qB) | ((first | (with_reducible apply qR) | (with_reducible first | apply qA | apply qP | apply qD | apply qE | apply qK) | ((with_reducible first | apply qQ | apply qI | apply qJ) <;> intro hb <;> (try simp only [hb]) <;> (try simp only [zF] at hb))) <;> try simp only [qV, qF, qL, qN, qG, qC, qM, reduceIte, seval, Int.cast_ofNat_Int, qY, qZ, uF, xL, xT, vB, Shape.pl, List.all_cons, List.all_nil, zA]))
  refine (qS3 N x10 (q := ⟨3, [97], 0, 1, 0, false, 0, 0, 0, []⟩) rfl rb10 (by simp) rfl).mono ?_
  rintro v11 h11 ⟨r11, s11⟩
  have hw : xQ false false pms ([((0 : Int), ([] : List Bnd))] ++ [(0, [(([97] : List UInt8), ([] : List UInt8))])]).length ⟨3, [97], 0, 1, 0, false, 0, 0, 0, []⟩ = 0 := by decide
  have ha : (vZ ([((0 : Int), ([] : List Bnd))] ++ [(0, [(([97] : List UInt8), ([] : List UInt8))])]) [97] 1).pr = true := by decide
  rw [if_pos hw] at r11
  obtain ⟨a, b, c, d, e, f, rfl, _⟩ := r11
  rw [ha]
  refine qS ?_; repeat' (first | (with_reducible first | apply qH | apply qB) | ((first | (with_reducible apply qR) | (with_reducible first | apply qA | apply qP | apply qD | apply qE | apply qK) | ((with_reducible first | apply qQ | apply qI | apply qJ) <;> intro hb <;> (try simp only [hb]) <;> (try simp only [zF] at hb))) <;> try simp only [qV, qF, qL, qN, qG, qC, qM, reduceIte, seval, Int.cast_ofNat_Int, qY, qZ, uF, fQ, gPick]))
  exact ((s06.trans s8).trans s10).trans s11
abbrev askTy : Ty := .fcons (.i .i64) (.fcons .bs (.fcons (.i .i64) (.fcons (.i .i64) (.fcons (.i .i64) (.fcons .b (.fcons (.i .i64) (.fcons (.i .i64) (.fcons (.i .i64) (.fcons (.sl bdTy) .fnil)))))))))
def Ak.cs (q : Ak) (i b : Value) : List Value := [.int .i64 q.kd, i, .int .i64 q.fr, .int .i64 q.to, .int .i64 q.tm, .bool q.sm, .int .i64 q.ep, .int .i64 q.ix, .int .i64 q.lm, b]
def Ak.wf (q : Ak) : Prop := (Lit.int .i64 q.kd).wf = true ∧ (Lit.int .i64 q.fr).wf = true ∧ (Lit.int .i64 q.to).wf = true ∧ (Lit.int .i64 q.tm).wf = true ∧ (Lit.int .i64 q.ep).wf = true ∧ (Lit.int .i64 q.ix).wf = true ∧ (Lit.int .i64 q.lm).wf = true
def Once (b : List Bnd) : Prop := (b.map (·.1)).Nodup
theorem qO5 (s : ByteArray) (x : Value) : ∀ (l : List Value), dP l = true → uA s l = none → (jD s x l).length = l.length + 2
  | [], _, _ => rfl
  | [v], h, _ => by cases v <;> simp [dP] at h
  | k :: v :: l, h, hf => by
    cases k with
    | string k =>
      have e4 : (s == k) = true ↔ s = k := MapKept.bytes_beq _ _
      have hne : ¬ (s == k) = true := fun e => by
        simp only [uA, if_pos e] at hf
        cases hf
      have hf' : uA s l = none := by simpa only [uA, if_neg hne] using hf
      have ih := qO5 s x l (by simpa [dP] using h) hf'
      rw [jD, if_neg hne]
      simp [ih]
    | _ => simp [dP] at h
theorem qB7 (b : List Bnd) (id : List UInt8) : ∀ i, (∀ k, k < i → (vI b k).1 ≠ id) → uA (yT id) (fA b i) = none
  | 0, _ => rfl
  | i + 1, h => by
    rw [fA, (kJ _ (yT id) _ _ (gB b i)).2, if_neg (fun e => h i (by omega) (mL e).symm)]
    exact qB7 b id i fun k hk => h k (by omega)
theorem qI4 {b : List Bnd} (o : Once b) : ∀ i, i ≤ b.length → (fA b i).length = 2 * i
  | 0, _ => rfl
  | i + 1, h => by
    have ih := qI4 o i (by omega)
    rw [fA, qO5 _ _ _ (gB b i) ?_, ih]
    · omega
    · refine qB7 b _ i fun k hk e => ?_
      have h1 : b[k]? = some b[k] := List.getElem?_eq_getElem (by omega)
      have h2 : b[i]? = some b[i] := List.getElem?_eq_getElem (by omega)
      simp only [vI, h1, h2, Option.getD_some] at e
      have h3 : (b.map (·.1))[k]? = (b.map (·.1))[i]? := by simp [h1, h2, e]
      have := (List.getElem?_inj (by rw [List.length_map]; omega) o).1 h3
      omega
theorem chk_ok {p : Pm} {b : List Bnd} (h0 : b ≠ []) (h1 : b.length ≤ 32) (h2 : ∀ x ∈ b, ¬ jC p x) (o : Once b) : jR p b = 0 := by
  unfold jR
  rw [if_neg h0, if_neg (by omega), if_neg (fun ⟨x, hx, hq⟩ => h2 x hx hq), qI4 o _ (Nat.le_refl _), if_neg (by omega)]
theorem qU9 {P : Program} {t e es : Nat} {b : Bool} (ht : P.underlying t = some (.slice e)) (he : yH P e = some (b, es)) (h h' : GH) {a : Option Addr} {n c : Nat} {k : IntKind} {v : Int} {r : Value} (g : vO P t h (.slice a n c) none (some (.int k v)) none = some r) : vO P t h' (.slice a n c) none (some (.int k v)) none = some r := by
  rw [← g]
  cases a with
  | none => cases n <;> simp only [vO, ht, he]
  | some a =>
    simp only [vO, ht, he, fB, true_or, or_true, if_true]
theorem IS.setck {h0 h h' : GH} {k j : Nat} {p : Pm} {ew : Value} {cs l : List Value} {M : List (Int × List Bnd)} {ck ck' : Int} {n : Nat} {S : List UInt8 → List (Nat × Nat)} (x : IS h0 h k j p ew cs l M ck n S)
    (m : h' k = some ⟨[.int .i64 p.s, .int .i64 p.ht, .int .i64 p.mi, .int .i64 p.my, .int .i64 p.ch, .int .i64 p.ar, .int .i64 p.ca, .int .i64 p.pg, ew, .int .i64 ck', .int .i64 (n : Int), .map (some j)], 0, true, false⟩) (f : ∀ i, i ≠ k → h' i = h i) (hc : ck ≤ ck') : IS h0 h' k j p ew cs l M ck' n S := by
  have kj : k ≠ j + 1 := fun e => by have h1 := x.obj; rw [e, x.mp] at h1; cases h1
  obtain ⟨ae, ce, ee⟩ := x.ep.form
  have mf : MF h h' := MF.upd x.obj rfl (by rw [ee]; rfl) f
  exact ⟨m, x.nk, (f _ (Ne.symm kj)).trans x.mp, x.nj, x.ok, x.u8, x.ep.hx x.obj (by simp) (fun i B q e => (f i q).trans e), fun e b hb => by obtain ⟨v, h1, h2⟩ := x.eps e b hb; exact ⟨v, h1, h2.mf mf⟩, fun id => (x.sp id).mf1 mf, x.cu8, x.bl, x.len, x.tt, x.nch, x.may, x.ks.1, x.ks.2.1, x.ks.2.2.1, x.ks.2.2.2.1, fun y hy => Int.le_trans (x.ks.2.2.2.2 y hy) hc⟩
theorem tot_take (B : List (List Bnd)) (i : Nat) : gZ (B.take i) ≤ gZ B := by
  have : gZ B = gZ (B.take i) + gZ (B.drop i) := by
    conv => lhs; rw [← List.take_append_drop i B]
    simp only [gZ, List.map_append, List.sum_append]
  omega
theorem mZ : type_of% (And.intro Try.underlying89 (And.intro wT (And.intro jA (And.intro vY (And.intro wM (And.intro vQ (And.intro wZ (And.intro yK (And.intro jJ rs92))))))))) := And.intro Try.underlying89 (And.intro wT (And.intro jA (And.intro vY (And.intro wM (And.intro vQ (And.intro wZ (And.intro yK (And.intro jJ rs92))))))))
theorem lA : type_of% (And.intro Try.underlying136 (And.intro wT (And.intro vY (And.intro vQ (And.intro uM (And.intro wZ (And.intro yK rs46))))))) := And.intro Try.underlying136 (And.intro wT (And.intro vY (And.intro vQ (And.intro uM (And.intro wZ (And.intro yK rs46))))))
theorem c_one (N : Nat) {h0 h : GH} {k j : Nat} {p : Pm} {ew : Value} {cs l : List Value} {M : List (Int × List Bnd)} {ck : Int} {n : Nat} (x : IM h0 h k j p ew cs l M ck n) {e : Nat} {y : Int × List Bnd} (hy : M[e]? = some y) :
    GTri Try.prog N 92 [.pointer (some ⟨k, 0, none⟩), .int .i64 (e : Int)] h fun v h' => (∃ u, v = .agg #[.int .i64 y.1, u] ∧ Bat H0 h' u y.2) ∧ HS h h' := by
  have hlt := (List.getElem?_eq_some_iff.1 hy).1
  have hML := x.len
  refine wQ Try.func92 rfl gf92 ok92 (by simp [Try.ntmps92]) ?_
  repeat' (first | (with_reducible first | apply qH | apply qB) | ((first | (with_reducible first | apply qA | apply qP | apply qD | apply qE | apply qK) | ((with_reducible first | apply qQ | apply qI | apply qJ) <;> intro hb <;> (try simp only [hb]) <;> (try simp only [zF] at hb))) <;> try simp only [qV, qF, qL, qN, qG, qC, qM, reduceIte, seval, Int.cast_ofNat_Int, qY, qZ, mZ]))
  refine xW fun k1 h1 m1 s1 f1 n1 => ?_
  have x1 := x.hs s1
  obtain ⟨a, c, ee⟩ := x1.ep.form
  have ho := x1.obj
  rw [ee] at ho
  obtain ⟨vb, hvb, bt⟩ := x1.eps _ _ hy
  obtain ⟨ke, tle, ge, hke⟩ := x1.ep.at (P := Try.prog) Try.underlying88 fI hlt
  rw [ee] at ge
  have d1 : decide ((e : Int) < 0) = false := decide_eq_false (by omega)
  have d2 : decide ((e : Int) ≥ (M.length : Int)) = false := decide_eq_false (by omega)
  have hcl : cs.length = M.length * 2 := by obtain ⟨_, _, _, _, _, q, _⟩ := x1.ep; exact q
  have ld : xM Try.prog 136 h1 (.pointer (some ⟨ke, e * 2, none⟩)) = some (.agg #[.int .i64 y.1, vb]) := by
    have := vA hke (o := e * 2) (n := 2) hvb rfl
    simp only [xM, fI, this]; rfl
  obtain ⟨ab, cb, eb⟩ : ∃ a c, vb = .slice a y.2.length c := by
    obtain ⟨ds, o, _⟩ := bt
    exact o.form
  subst eb
  refine qS ?_; repeat' (first | (with_reducible first | apply qH | apply qB) | ((first | (with_reducible apply qR) | (with_reducible first | apply qA | apply qP | apply qD | apply qE | apply qK) | ((with_reducible first | apply qQ | apply qI | apply qJ) <;> intro hb <;> (try simp only [hb]) <;> (try simp only [zF] at hb)) | ((refine GTri.mono (yU _ x1) ?_); rintro _ _ ⟨rfl, hh9⟩; replace hh9 := hh9.symm; subst hh9)) <;> try simp only [qV, qF, qL, qN, qG, qC, qM, reduceIte, seval, Int.cast_ofNat_Int, qY, qZ, mZ, gNil, d1, d2, gPick, qT ho gJ, ge, ld]))
  refine zM m1 fI rfl (by decide) rfl rfl rfl fun h4 m4 f4 => ?_
  refine qS ?_; repeat' (first | (with_reducible first | apply qH | apply qB) | ((first | (with_reducible apply qR) | (with_reducible first | apply qA | apply qP | apply qD | apply qE | apply qK) | ((with_reducible first | apply qQ | apply qI | apply qJ) <;> intro hb <;> (try simp only [hb]) <;> (try simp only [zF] at hb))) <;> try simp only [qV, qF, qL, qN, qG, qC, qM, reduceIte, seval, Int.cast_ofNat_Int, qY, qZ, mZ, zI m4 fI rfl]))
  exact ⟨⟨_, rfl, bt.mf (MF.upd m1 rfl rfl f4)⟩, s1.upd n1 f4⟩
theorem c_iBatch (N : Nat) {h0 h : GH} {k j : Nat} {p : Pm} {ew : Value} {cs l : List Value} {M : List (Int × List Bnd)} {ck : Int} {n : Nat} (x : IM h0 h k j p ew cs l M ck n) {e : Nat} {y : Int × List Bnd} (hy : M[e]? = some y) :
    GTri Try.prog N 46 [.pointer (some ⟨k, 0, none⟩), .int .i64 (e : Int)] h fun v h' => Bat H0 h' v y.2 ∧ HS h h' := by
  obtain ⟨hys, hyl⟩ := x.bl _ (List.mem_of_getElem? hy)
  refine wQ Try.func46 rfl gf46 ok46 (by simp [Try.ntmps46]) ?_
  repeat' (first | (with_reducible first | apply qH | apply qB) | ((first | (with_reducible first | apply qA | apply qP | apply qD | apply qE | apply qK) | ((with_reducible first | apply qQ | apply qI | apply qJ) <;> intro hb <;> (try simp only [hb]) <;> (try simp only [zF] at hb))) <;> try simp only [qV, qF, qL, qN, qG, qC, qM, reduceIte, seval, Int.cast_ofNat_Int, qY, qZ, lA]))
  refine (c_one N x hy).mono ?_
  rintro _ h1 ⟨⟨u, rfl, bt⟩, s1⟩
  obtain ⟨ab, cb, rfl⟩ : ∃ a c, u = .slice a y.2.length c := by
    obtain ⟨ds, o, _⟩ := bt
    exact o.form
  refine qS ?_; repeat' (first | (with_reducible first | apply qH | apply qB) | ((first | (with_reducible apply qR) | (with_reducible first | apply qA | apply qP | apply qD | apply qE | apply qK) | ((with_reducible first | apply qQ | apply qI | apply qJ) <;> intro hb <;> (try simp only [hb]) <;> (try simp only [zF] at hb))) <;> try simp only [qV, qF, qL, qN, qG, qC, qM, reduceIte, seval, Int.cast_ofNat_Int, qY, qZ, lA, fQ]))
  refine (c_own N h1 bt.rl (by omega) hys).mono ?_
  rintro v2 h2 ⟨bt2, s2⟩
  refine qS ?_; repeat' (first | (with_reducible first | apply qH | apply qB) | ((first | (with_reducible apply qR) | (with_reducible first | apply qA | apply qP | apply qD | apply qE | apply qK) | ((with_reducible first | apply qQ | apply qI | apply qJ) <;> intro hb <;> (try simp only [hb]) <;> (try simp only [zF] at hb))) <;> try simp only [qV, qF, qL, qN, qG, qC, qM, reduceIte, seval, Int.cast_ofNat_Int, qY, qZ, lA]))
  obtain ⟨ds, o, r⟩ := bt2
  exact ⟨⟨ds, o.weak (H0.hs _), r⟩, s1.trans s2⟩
theorem gU : type_of% (And.intro Try.underlying89 (And.intro wT (And.intro wN (And.intro jA (And.intro vY (And.intro yW (And.intro wM (And.intro vQ (And.intro uM (And.intro wZ (And.intro uP (And.intro jJ rs113)))))))))))) := And.intro Try.underlying89 (And.intro wT (And.intro wN (And.intro jA (And.intro vY (And.intro yW (And.intro wM (And.intro vQ (And.intro uM (And.intro wZ (And.intro uP (And.intro jJ rs113)))))))))))
def yI : Nat → List (Nat × List Nat) × List Nat
  | 3 => ([(0, []), (1, []), (2, []), (3, []), (4, []), (5, []), (6, []), (7, []), (8, []), (9, []), (10, []), (11, []), (12, []), (13, []), (14, []), (15, []), (16, []), (17, []), (18, []), (19, []), (20, []), (21, []), (22, []), (23, []), (24, []), (25, []), (26, []), (27, []), (28, []), (29, []), (30, []), (31, []), (32, [])], [0, 1, 0, 4, 15, 31, 63, 127, 63, 319, 1023, 2047, 4095, 8191, 16383, 32767, 65535, 131071, 262143, 524287, 262143, 1310719, 3407871, 7602175, 262143, 17039359, 66322431, 133431295, 267649023, 536084479, 1073741823, 2147483647, 4294967295])
  | _ => ([], [])
theorem wS : type_of% (And.intro Try.underlying89 (And.intro wT (And.intro wN (And.intro yX (And.intro yB (And.intro jA (And.intro vY (And.intro zC0 (And.intro yW (And.intro wM (And.intro yV (And.intro vQ (And.intro uM (And.intro yL (And.intro wZ (And.intro uP (And.intro jV (And.intro yK (And.intro jJ rs76))))))))))))))))))) := And.intro Try.underlying89 (And.intro wT (And.intro wN (And.intro yX (And.intro yB (And.intro jA (And.intro vY (And.intro zC0 (And.intro yW (And.intro wM (And.intro yV (And.intro vQ (And.intro uM (And.intro yL (And.intro wZ (And.intro uP (And.intro jV (And.intro yK (And.intro jJ rs76))))))))))))))))))
def xC : Nat → List (Nat × List Nat) × List Nat
  | 10 => ([(0, []), (1, []), (2, []), (3, []), (4, []), (5, []), (7, []), (8, []), (6, [1, 8]), (9, [1]), (10, []), (11, [1]), (12, []), (13, []), (14, [])], [0, 1, 0, 0, 0, 16, 48, 0, 128, 496, 1020, 2044, 4095, 8191, 16383])
  | _ => ([], [])
def jI (M : List (Int × List Bnd)) (e : Nat) : List Bnd := (M[e]?.map (·.2)).getD []
theorem uJ {M : List (Int × List Bnd)} {e : Nat} {y : Int × List Bnd} (h : M[e]? = some y) : jI M e = y.2 := by unfold jI; rw [h]; rfl
def tC (e : Nat) (b : List Bnd) : List (Nat × Nat × Bnd) := (List.range b.length).map fun i => (e, i, vI b i)
def gL (M : List (Int × List Bnd)) (e c : Nat) : List (Nat × Nat × Bnd) := (List.range c).flatMap fun k => tC (e + k) (jI M (e + k))
theorem rL (e : Nat) (b : List Bnd) : (tC e b).length = b.length := by simp [tC]
theorem qF2 {e : Nat} {b : List Bnd} {i : Nat} (h : i < b.length) : (tC e b)[i]? = some (e, i, vI b i) := by simp [tC, h]
theorem evA_succ (M : List (Int × List Bnd)) (e c : Nat) : gL M e (c + 1) = gL M e c ++ tC (e + c) (jI M (e + c)) := by
  unfold gL
  rw [List.range_succ, List.flatMap_append, List.flatMap_singleton]
theorem dG (M : List (Int × List Bnd)) (e c : Nat) : gL M e (c + 1) = tC e (jI M e) ++ gL M (e + 1) c := by
  unfold gL
  rw [List.range_succ_eq_map, List.flatMap_cons, List.flatMap_map, Nat.add_zero]
  congr 1
  congr 1
  funext k
  rw [show e + Nat.succ k = e + 1 + k by omega]
theorem zE3 (M : List (Int × List Bnd)) (e c d : Nat) : gL M e (c + d) = gL M e c ++ gL M (e + c) d := by
  induction c generalizing e with
  | zero => simp [gL]
  | succ c ih => rw [show c + 1 + d = (c + d) + 1 by omega, dG, dG, ih, List.append_assoc, show e + 1 + c = e + (c + 1) by omega]
def gG (M : List (Int × List Bnd)) (ep ix e i : Nat) : List (Nat × Nat × Bnd) := (gL M ep (e - ep) ++ (tC e (jI M e)).take i).drop ix
def jH (M : List (Int × List Bnd)) (q : Ak) : Bool := if q.fr = q.to then q.ep == q.fr + 1 && q.ix == 0 else decide (q.ep > q.fr) && decide (q.ep ≤ q.to) && decide (q.ix ≥ 0) && decide (q.ix < ((jI M q.ep.toNat).length : Int))
theorem c_cursor (N : Nat) {h0 h : GH} {k j : Nat} {p : Pm} {ew : Value} {cs l : List Value} {M : List (Int × List Bnd)} {ck : Int} {n : Nat} (x : IM h0 h k j p ew cs l M ck n) (q : Ak) (h1 : 0 ≤ q.fr) (h2 : q.fr ≤ q.to) (h3 : q.to < (M.length : Int))
    {c1 c4 c5 c8 c9 : Value} (hc : [c1, c4, c5, c8, c9].all zA = true) :
    GTri Try.prog N 113 [.pointer (some ⟨k, 0, none⟩), .agg #[.int .i64 q.kd, c1, .int .i64 q.fr, .int .i64 q.to, c4, c5, .int .i64 q.ep, .int .i64 q.ix, c8, c9]] h fun v h' => v = .bool (jH M q) ∧ HS h h' := by
  have hML := x.len
  have w : IntKind.i64.wrap (q.fr + 1) = q.fr + 1 := by rw [wrap64 (by omega) (by omega)]
  obtain ⟨ae, ce, ee⟩ := x.ep.form
  refine wQ Try.func113 rfl gf113 ok113 (by simp [Try.ntmps113]) ?_
  repeat' (first | (with_reducible first | apply qH | apply qB) | ((first | (with_reducible first | apply qA | apply qP | apply qD | apply qE | apply qK) | ((with_reducible first | apply qQ | apply qI | apply qJ | apply qW | apply qX) <;> intro hb <;> (try simp only [hb]) <;> (try simp only [zF] at hb)) | with_reducible refine qO yI mixed (by kernel_rfl) ?_) <;> try simp only [qV, qF, qL, qN, qG, qC, qM, reduceIte, seval, Int.cast_ofNat_Int, qY, qZ, qU, zR, zT, zU, gU, yI]))
  refine wY (by simpa [zA] using hc) fun k1 hh1 m1 s1 f1 n1 => ?_
  have x1 := x.hs s1
  have ho := x1.obj
  rw [ee] at ho
  unfold jH
  cases d1 : (q.fr == q.to)
  case true =>
    have e1 : q.fr = q.to := by simpa using d1
    cases d2 : (q.ep == q.fr + 1) <;> cases d3 : (q.ix == 0)
    all_goals
      refine qS ?_; repeat' (first | (with_reducible first | apply qH | apply qB) | ((first | (with_reducible apply qR) | (with_reducible first | apply qA | apply qP | apply qD | apply qE | apply qK) | ((with_reducible first | apply qQ | apply qI | apply qJ | apply qW | apply qX) <;> intro hb <;> (try simp only [hb]) <;> (try simp only [zF] at hb)) | with_reducible refine qO yI mixed (by kernel_rfl) ?_) <;> try simp only [qV, qF, qL, qN, qG, qC, qM, reduceIte, seval, Int.cast_ofNat_Int, qY, qZ, qU, zR, zT, zU, gU, yI, qT m1 wL, d1, d2, d3, w, gPick]))
      exact ⟨by rw [if_pos e1] <;> rfl, s1⟩
  have e1 : ¬ q.fr = q.to := by simpa using d1
  rw [if_neg e1]
  by_cases c1' : q.ep > q.fr
  case neg =>
    have d2 : decide (q.ep > q.fr) = false := decide_eq_false c1'
    cases d3 : decide (q.ep ≤ q.to) <;> cases d4 : decide (q.ix ≥ 0)
    all_goals
      refine qS ?_; repeat' (first | (with_reducible first | apply qH | apply qB) | ((first | (with_reducible apply qR) | (with_reducible first | apply qA | apply qP | apply qD | apply qE | apply qK) | ((with_reducible first | apply qQ | apply qI | apply qJ | apply qW | apply qX) <;> intro hb <;> (try simp only [hb]) <;> (try simp only [zF] at hb)) | with_reducible refine qO yI mixed (by kernel_rfl) ?_) <;> try simp only [qV, qF, qL, qN, qG, qC, qM, reduceIte, seval, Int.cast_ofNat_Int, qY, qZ, qU, zR, zT, zU, gU, yI, gNil, qT m1 wL, d1, d2, d3, d4, gPick]))
      exact ⟨rfl, s1⟩
  have d2 : decide (q.ep > q.fr) = true := decide_eq_true c1'
  by_cases c2' : q.ep ≤ q.to
  case neg =>
    have d3 : decide (q.ep ≤ q.to) = false := decide_eq_false c2'
    cases d4 : decide (q.ix ≥ 0)
    all_goals
      refine qS ?_; repeat' (first | (with_reducible first | apply qH | apply qB) | ((first | (with_reducible apply qR) | (with_reducible first | apply qA | apply qP | apply qD | apply qE | apply qK) | ((with_reducible first | apply qQ | apply qI | apply qJ | apply qW | apply qX) <;> intro hb <;> (try simp only [hb]) <;> (try simp only [zF] at hb)) | with_reducible refine qO yI mixed (by kernel_rfl) ?_) <;> try simp only [qV, qF, qL, qN, qG, qC, qM, reduceIte, seval, Int.cast_ofNat_Int, qY, qZ, qU, zR, zT, zU, gU, yI, gNil, qT m1 wL, d1, d2, d3, d4, gPick]))
      exact ⟨rfl, s1⟩
  have d3 : decide (q.ep ≤ q.to) = true := decide_eq_true c2'
  cases d4 : decide (q.ix ≥ 0)
  case false =>
    refine qS ?_; repeat' (first | (with_reducible first | apply qH | apply qB) | ((first | (with_reducible apply qR) | (with_reducible first | apply qA | apply qP | apply qD | apply qE | apply qK) | ((with_reducible first | apply qQ | apply qI | apply qJ | apply qW | apply qX) <;> intro hb <;> (try simp only [hb]) <;> (try simp only [zF] at hb)) | with_reducible refine qO yI mixed (by kernel_rfl) ?_) <;> try simp only [qV, qF, qL, qN, qG, qC, qM, reduceIte, seval, Int.cast_ofNat_Int, qY, qZ, qU, zR, zT, zU, gU, yI, gNil, qT m1 wL, d1, d2, d3, d4, gPick]))
    exact ⟨rfl, s1⟩
  obtain ⟨e, he⟩ : ∃ e : Nat, q.ep = (e : Int) := ⟨q.ep.toNat, by omega⟩
  have hlt : e < M.length := by omega
  obtain ⟨y, hy⟩ : ∃ y, M[e]? = some y := ⟨_, List.getElem?_eq_getElem hlt⟩
  obtain ⟨vb, hvb, bt⟩ := x1.eps _ _ hy
  have hvb1 : cs[e * 2 + 1]? = some vb := by
    have : ((cs.drop (e * 2)).take 2)[1]? = some vb := by rw [hvb]; rfl
    rw [List.getElem?_take, if_pos (by decide), List.getElem?_drop] at this
    exact this
  obtain ⟨ab, cb, eb⟩ : ∃ a c, vb = .slice a y.2.length c := by
    obtain ⟨ds, o, _⟩ := bt
    exact o.form
  subst eb
  obtain ⟨ke, tle, ge, hke⟩ := x1.ep.at (P := Try.prog) Try.underlying88 fI hlt
  rw [ee] at ge
  have hb : jI M q.ep.toNat = y.2 := by rw [he]; exact uJ hy
  rw [hb]
  rw [he] at d2 d3
  refine qS ?_; repeat' (first | (with_reducible first | apply qH | apply qB) | ((first | (with_reducible apply qR) | (with_reducible first | apply qA | apply qP | apply qD | apply qE | apply qK) | ((with_reducible first | apply qQ | apply qI | apply qJ | apply qW | apply qX) <;> intro hb <;> (try simp only [hb]) <;> (try simp only [zF] at hb)) | with_reducible refine qO yI mixed (by kernel_rfl) ?_) <;> try simp only [qV, qF, qL, qN, qG, qC, qM, reduceIte, seval, Int.cast_ofNat_Int, qY, qZ, qU, zR, zT, zU, gU, yI, gNil, he, qT m1 wL, qT ho gJ, ge, qT hke jX, hvb1, d1, d2, d3, d4, gPick, Bool.true_and]))
  exact s1
def sY (M : List (Int × List Bnd)) (q : Ak) : An :=
  if jH M q = true then
    match ((gL M q.ep.toNat (q.to + 1 - q.ep).toNat).drop q.ix.toNat)[q.lm.toNat]? with
    | none => { evs := (gL M q.ep.toNat (q.to + 1 - q.ep).toNat).drop q.ix.toNat }
    | some z => { evs := ((gL M q.ep.toNat (q.to + 1 - q.ep).toNat).drop q.ix.toNat).take q.lm.toNat, more := true, ep := (z.1 : Int), si := (z.2.1 : Int) }
  else { code := 85 }
theorem fed_zero (M : List (Int × List Bnd)) (ep ix : Nat) : gG M ep ix ep 0 = [] := by simp [gG, gL]
theorem qR2 (M : List (Int × List Bnd)) {ep ix e : Nat} (h : ep ≤ e) : gG M ep ix e (jI M e).length = gG M ep ix (e + 1) 0 := by
  unfold gG
  rw [show e + 1 - ep = (e - ep) + 1 by omega, evA_succ, List.take_zero, List.append_nil, show ep + (e - ep) = e by omega]
  rw [List.take_of_length_le (by rw [rL]; exact Nat.le_refl _)]
theorem qF3 (M : List (Int × List Bnd)) {ep e ix : Nat} (he : ep < e) (hx : ix < (jI M ep).length) : ix ≤ (gL M ep (e - ep)).length := by
  rw [show e - ep = (e - ep - 1) + 1 by omega, dG, List.length_append, rL]
  omega
theorem fed_skip (M : List (Int × List Bnd)) {ep ix i : Nat} (h : i < ix) (hx : ix < (jI M ep).length) : gG M ep ix ep (i + 1) = gG M ep ix ep i := by
  unfold gG
  have : gL M ep (ep - ep) = [] := by simp [gL]
  rw [this, List.nil_append, List.nil_append, List.drop_eq_nil_of_le (by rw [List.length_take]; omega), List.drop_eq_nil_of_le (by rw [List.length_take]; omega)]
theorem qR1 (M : List (Int × List Bnd)) {ep ix e i : Nat} (he : ep ≤ e) (hi : i < (jI M e).length) (h : e = ep → ix ≤ i) (hx : ix < (jI M ep).length) : gG M ep ix e (i + 1) = gG M ep ix e i ++ [(e, i, vI (jI M e) i)] := by
  unfold gG
  have hg := qF2 (e := e) hi
  rw [List.take_add_one, hg, ← List.append_assoc, List.drop_append_of_le_length]
  · rfl
  · rw [List.length_append, List.length_take, rL]
    by_cases h0 : e = ep
    · have := h h0; omega
    · have := qF3 M (show ep < e by omega) hx; omega
theorem zA1 (M : List (Int × List Bnd)) {ep ix e i to : Nat} (he : ep ≤ e) (het : e ≤ to) (hi : i < (jI M e).length) (h : e = ep → ix ≤ i) (hx : ix < (jI M ep).length) : ∃ r, (gL M ep (to + 1 - ep)).drop ix = gG M ep ix e i ++ (e, i, vI (jI M e) i) :: r := by
  have h1 : gL M ep (to + 1 - ep) = gL M ep (e - ep) ++ gL M e (to + 1 - e) := by
    rw [show to + 1 - ep = (e - ep) + (to + 1 - e) by omega, zE3, show ep + (e - ep) = e by omega]
  have h2 : gL M e (to + 1 - e) = tC e (jI M e) ++ gL M (e + 1) (to - e) := by
    rw [show to + 1 - e = (to - e) + 1 by omega, dG]
  have hil : i < (tC e (jI M e)).length := by rw [rL]; exact hi
  have h3 : tC e (jI M e) = (tC e (jI M e)).take i ++ (e, i, vI (jI M e) i) :: (tC e (jI M e)).drop (i + 1) := by
    conv => lhs; rw [← List.take_append_drop i (tC e (jI M e))]
    rw [List.drop_eq_getElem_cons hil]
    have := (List.getElem?_eq_some_iff.1 (qF2 (e := e) hi)).2
    rw [this]
  refine ⟨(tC e (jI M e)).drop (i + 1) ++ gL M (e + 1) (to - e), ?_⟩
  unfold gG
  rw [h1, h2]
  have hl : ix ≤ (gL M ep (e - ep) ++ (tC e (jI M e)).take i).length := by
    rw [List.length_append, List.length_take, rL]
    by_cases h0 : e = ep
    · have := h h0; omega
    · have := qF3 M (show ep < e by omega) hx; omega
  have hS : ∀ (A R : List (Nat × Nat × Bnd)), A ++ (tC e (jI M e) ++ R) = (A ++ (tC e (jI M e)).take i) ++ (e, i, vI (jI M e) i) :: ((tC e (jI M e)).drop (i + 1) ++ R) := fun A R => by
    conv => lhs; rw [h3]
    simp only [List.append_assoc, List.cons_append]
  rw [hS, List.drop_append_of_le_length hl]
theorem c_feed (N : Nat) {h0 h : GH} {k j : Nat} {p : Pm} {ew : Value} {cs l : List Value} {M : List (Int × List Bnd)} {ck : Int} {n : Nat} (x : IM h0 h k j p ew cs l M ck n) (q : Ak) (h1 : 0 ≤ q.fr) (h2 : q.fr ≤ q.to) (h3 : q.to < (M.length : Int)) (h4 : 1 ≤ q.lm ∧ q.lm ≤ 32)
    {c1 c4 c5 c9 : Value} (hc : [c1, c4, c5, c9].all zA = true) :
    GTri Try.prog N 76 [.pointer (some ⟨k, 0, none⟩), .agg #[.int .i64 q.kd, c1, .int .i64 q.fr, .int .i64 q.to, c4, c5, .int .i64 q.ep, .int .i64 q.ix, .int .i64 q.lm, c9]] h fun v h' => RAn h' v (sY M q) ∧ HS h h' := by
  have hML := x.len
  have hc' : [c1, c4, c5, .int .i64 q.lm, c9].all zA = true := by simpa [zA] using hc
  refine wQ Try.func76 rfl gf76 ok76 (by simp [Try.ntmps76]) ?_
  repeat' (first | (with_reducible first | apply qH | apply qB) | ((first | (with_reducible first | apply qA | apply qP | apply qD | apply qE | apply qK) | ((with_reducible first | apply qQ | apply qI | apply qJ | apply qW | apply qX) <;> intro hb <;> (try simp only [hb]) <;> (try simp only [zF] at hb)) | with_reducible refine qO xC mixed (by kernel_rfl) ?_) <;> try simp only [qV, qF, qL, qN, qG, qC, qM, reduceIte, seval, Int.cast_ofNat_Int, qY, qZ, qU, zR, zT, zU, wS, xC]))
  refine wY (by simpa [zA] using hc) fun k1 hh1 m1 s1 f1 n1 => ?_
  refine qS ?_; repeat' (first | (with_reducible first | apply qH | apply qB) | ((first | (with_reducible apply qR) | (with_reducible first | apply qA | apply qP | apply qD | apply qE | apply qK) | ((with_reducible first | apply qQ | apply qI | apply qJ | apply qW | apply qX) <;> intro hb <;> (try simp only [hb]) <;> (try simp only [zF] at hb)) | with_reducible refine qO xC mixed (by kernel_rfl) ?_) <;> try simp only [qV, qF, qL, qN, qG, qC, qM, reduceIte, seval, Int.cast_ofNat_Int, qY, qZ, qU, zR, zT, zU, wS, xC]))
  refine xW fun k2 hh2 m2 s2 f2 n2 => ?_
  replace m1 := s2 _ _ m1
  have s12 := s1.trans s2
  have n2' := s1.none_of n2
  refine qS ?_; repeat' (first | (with_reducible first | apply qH | apply qB) | ((first | (with_reducible apply qR) | (with_reducible first | apply qA | apply qP | apply qD | apply qE | apply qK) | ((with_reducible first | apply qQ | apply qI | apply qJ | apply qW | apply qX) <;> intro hb <;> (try simp only [hb]) <;> (try simp only [zF] at hb)) | with_reducible refine qO xC mixed (by kernel_rfl) ?_) <;> try simp only [qV, qF, qL, qN, qG, qC, qM, reduceIte, seval, Int.cast_ofNat_Int, qY, qZ, qU, zR, zT, zU, wS, xC, zI m1 uO rfl]))
  refine (c_cursor N (x.hs s12) q h1 h2 h3 hc').mono ?_
  rintro _ hh3 ⟨rfl, s3⟩
  replace m1 := s3 _ _ m1
  replace m2 := s3 _ _ m2
  have s03 := s12.trans s3
  unfold sY
  by_cases hcu : jH M q = true
  case neg =>
    have hcu' : jH M q = false := by simpa using hcu
    rw [if_neg hcu]
    refine qS ?_; repeat' (first | (with_reducible first | apply qH | apply qB) | ((first | (with_reducible apply qR) | (with_reducible first | apply qA | apply qP | apply qD | apply qE | apply qK) | ((with_reducible first | apply qQ | apply qI | apply qJ | apply qW | apply qX) <;> intro hb <;> (try simp only [hb]) <;> (try simp only [zF] at hb)) | with_reducible refine qO xC mixed (by kernel_rfl) ?_) <;> try simp only [qV, qF, qL, qN, qG, qC, qM, reduceIte, seval, Int.cast_ofNat_Int, qY, qZ, qU, zR, zT, zU, wS, xC, hcu', Bool.not_false, xL, xT, vB, Shape.pl, List.all_cons, List.all_nil, zA]))
    refine zM m2 xG rfl (by decide) rfl rfl rfl fun hh4 m4 f4 => ?_
    refine qS ?_; repeat' (first | (with_reducible first | apply qH | apply qB) | ((first | (with_reducible apply qR) | (with_reducible first | apply qA | apply qP | apply qD | apply qE | apply qK) | ((with_reducible first | apply qQ | apply qI | apply qJ | apply qW | apply qX) <;> intro hb <;> (try simp only [hb]) <;> (try simp only [zF] at hb)) | with_reducible refine qO xC mixed (by kernel_rfl) ?_) <;> try simp only [qV, qF, qL, qN, qG, qC, qM, reduceIte, seval, Int.cast_ofNat_Int, qY, qZ, qU, zR, zT, zU, wS, xC, zI m4 xG rfl]))
    exact ⟨RAn.zero hh4 85 0, s03.upd n2' f4⟩
  rw [if_pos hcu]
  refine qS ?_; repeat' (first | (with_reducible first | apply qH | apply qB) | ((first | (with_reducible apply qR) | (with_reducible first | apply qA | apply qP | apply qD | apply qE | apply qK) | ((with_reducible first | apply qQ | apply qI | apply qJ | apply qW | apply qX) <;> intro hb <;> (try simp only [hb]) <;> (try simp only [zF] at hb)) | with_reducible refine qO xC mixed (by kernel_rfl) ?_) <;> try simp only [qV, qF, qL, qN, qG, qC, qM, reduceIte, seval, Int.cast_ofNat_Int, qY, qZ, qU, zR, zT, zU, wS, xC, hcu, Bool.not_true]))
  refine xW fun k5 hh5 m5 s5 f5 n5 => ?_
  have m15 := s5 _ _ m1
  have m25 := s5 _ _ m2
  have s05 := s03.trans s5
  have n5' := s03.none_of n5
  refine qS ?_; repeat' (first | (with_reducible first | apply qH | apply qB) | ((first | (with_reducible apply qR) | (with_reducible first | apply qA | apply qP | apply qD | apply qE | apply qK) | ((with_reducible first | apply qQ | apply qI | apply qJ | apply qW | apply qX) <;> intro hb <;> (try simp only [hb]) <;> (try simp only [zF] at hb)) | with_reducible refine qO xC mixed (by kernel_rfl) ?_) <;> try simp only [qV, qF, qL, qN, qG, qC, qM, reduceIte, seval, Int.cast_ofNat_Int, qY, qZ, qU, zR, zT, zU, wS, xC, qT m15 wL]))
  obtain ⟨ep, hep⟩ : ∃ ep : Nat, q.ep = (ep : Int) := ⟨q.ep.toNat, by
    unfold jH at hcu
    by_cases e1 : q.fr = q.to
    · rw [if_pos e1] at hcu
      simp at hcu
      omega
    · rw [if_neg e1] at hcu
      simp at hcu
      omega⟩
  obtain ⟨ix, hix⟩ : ∃ ix : Nat, q.ix = (ix : Int) := ⟨q.ix.toNat, by
    unfold jH at hcu
    by_cases e1 : q.fr = q.to
    · rw [if_pos e1] at hcu
      simp at hcu
      omega
    · rw [if_neg e1] at hcu
      simp at hcu
      omega⟩
  obtain ⟨to, hto⟩ : ∃ to : Nat, q.to = (to : Int) := ⟨q.to.toNat, by omega⟩
  obtain ⟨lm, hlm⟩ : ∃ lm : Nat, q.lm = (lm : Int) := ⟨q.lm.toNat, by omega⟩
  have hle : ep ≤ to + 1 := by
    unfold jH at hcu
    by_cases e1 : q.fr = q.to
    · rw [if_pos e1] at hcu
      simp at hcu
      omega
    · rw [if_neg e1] at hcu
      simp at hcu
      omega
  have hxb : ep ≤ to → ix < (jI M ep).length := fun hle2 => by
    unfold jH at hcu
    by_cases e1 : q.fr = q.to
    · rw [if_pos e1] at hcu
      simp at hcu
      omega
    · rw [if_neg e1, hep] at hcu
      simp at hcu
      omega
  have eto : (q.to + 1 - q.ep).toNat = to + 1 - ep := by omega
  rw [eto, hep, hix, hlm, Int.toNat_natCast, Int.toNat_natCast, Int.toNat_natCast]
  have hto' : to < M.length := by omega
  have z9 : h k1 = none := n1
  have kk : k1 ≠ k2 := fun q => by subst q; rw [m1] at m2; simp at m2
  have k5k1 : k5 ≠ k1 := fun q => by subst q; rw [m1] at n5; cases n5
  have k5k2 : k5 ≠ k2 := fun q => by subst q; rw [m2] at n5; cases n5
  have b0 : ∀ e, e ≤ to → (jI M e).length ≤ 32 := fun e he => by
    obtain ⟨y, hy⟩ : ∃ y, M[e]? = some y := ⟨_, List.getElem?_eq_getElem (by omega)⟩
    rw [uJ hy]
    exact (x.bl y (List.mem_of_getElem? hy)).2
  let Iv : Nat → Nat → GH → Prop := fun e i h' => HS h h' ∧ h' k1 = hh5 k1 ∧ h' k2 = hh5 k2 ∧ (gG M ep ix e i).length ≤ lm ∧ ∃ a c, h' k5 = some ⟨[.int .i64 0, .int .i64 0, .bool false, .bool false, .slice none 0 0, .int .i64 0, .slice none 0 0, .slice a (gG M ep ix e i).length c, .bool false], 0, true, false⟩ ∧ Evs h h' (.slice a (gG M ep ix e i).length c) (gG M ep ix e i)
  have hIv : ∀ e i h', Iv e i h' = (HS h h' ∧ h' k1 = hh5 k1 ∧ h' k2 = hh5 k2 ∧ (gG M ep ix e i).length ≤ lm ∧ ∃ a c, h' k5 = some ⟨[.int .i64 0, .int .i64 0, .bool false, .bool false, .slice none 0 0, .int .i64 0, .slice none 0 0, .slice a (gG M ep ix e i).length c, .bool false], 0, true, false⟩ ∧ Evs h h' (.slice a (gG M ep ix e i).length c) (gG M ep ix e i)) := fun _ _ _ => rfl
  clear_value Iv
  refine wI [0, 3, 4, 5] (fun (e : Nat) => [(6, .int .i64 (e : Int))]) (fun q e h' => to + 1 - e = q ∧ ep ≤ e ∧ e ≤ to + 1 ∧ Iv e 0 h') (to + 1 - ep) ep (by simp [lk]) ⟨rfl, Nat.le_refl _, hle, ?_⟩ ?_
  · rw [hIv, fed_zero]
    exact ⟨s05, rfl, rfl, by simp, none, 0, m5, [], OWNC.nil _ _ _, rfl, fun i p hp => by simp at hp⟩
  rintro _ e hh6 ⟨rfl, hepe, heto, iv⟩
  rw [hIv] at iv
  obtain ⟨s6, e16, e26, hlen, a6, c6, m56, ev6⟩ := iv
  have m16 := e16.trans m15
  have m26 := e26.trans m25
  by_cases het : e ≤ to
  case neg =>
    obtain rfl : e = to + 1 := by omega
    have d3 : decide (((to + 1 : Nat) : Int) ≤ q.to) = false := decide_eq_false (by omega)
    refine qS ?_; repeat' (first | (with_reducible first | apply qH | apply qB) | ((first | (with_reducible apply qR) | (with_reducible first | apply qA | apply qP | apply qD | apply qE | apply qK) | ((with_reducible first | apply qQ | apply qI | apply qJ | apply qW | apply qX) <;> intro hb <;> (try simp only [hb]) <;> (try simp only [zF] at hb)) | with_reducible refine qO xC mixed (by kernel_rfl) ?_) <;> try simp only [qV, qF, qL, qN, qG, qC, qM, reduceIte, seval, Int.cast_ofNat_Int, qY, qZ, qU, zR, zT, zU, wS, xC, qT m16 wL, d3, zI m56 xG rfl]))
    refine zM m26 xG rfl (by decide) rfl rfl rfl fun hh7 m7 f7 => ?_
    refine qS ?_; repeat' (first | (with_reducible first | apply qH | apply qB) | ((first | (with_reducible apply qR) | (with_reducible first | apply qA | apply qP | apply qD | apply qE | apply qK) | ((with_reducible first | apply qQ | apply qI | apply qJ | apply qW | apply qX) <;> intro hb <;> (try simp only [hb]) <;> (try simp only [zF] at hb)) | with_reducible refine qO xC mixed (by kernel_rfl) ?_) <;> try simp only [qV, qF, qL, qN, qG, qC, qM, reduceIte, seval, Int.cast_ofNat_Int, qY, qZ, qU, zR, zT, zU, wS, xC, zI m7 xG rfl]))
    have hT : gG M ep ix (to + 1) 0 = (gL M ep (to + 1 - ep)).drop ix := by unfold gG; rw [List.take_zero, List.append_nil]
    rw [hT] at hlen ev6 ⊢
    have hn : ((gL M ep (to + 1 - ep)).drop ix)[lm]? = none := List.getElem?_eq_none (by omega)
    rw [hn]
    obtain ⟨ds, o, u, r⟩ := ev6
    have hx : HX k2 hh6 hh7 := fun j B n e => (f7 j n).trans e
    have ev7 : Evs h hh7 (.slice a6 ((gL M ep (to + 1 - ep)).drop ix).length c6) ((gL M ep (to + 1 - ep)).drop ix) := ⟨ds, o.hx m26 (by simp) hx, u, fun i p hp => by
      obtain ⟨a, c, b, d, e, r1, r2⟩ := r i p hp
      exact ⟨a, c, b, d, e, r1.hx m26 rfl hx, r2.hx m26 rfl hx⟩⟩
    exact ⟨⟨none, 0, none, 0, a6, c6, rfl, RB.nil _, RL.nil _, ev7.rl⟩, s6.upd n2' f7⟩
  have d3 : decide ((e : Int) ≤ q.to) = true := decide_eq_true (by omega)
  have x6 := x.hs s6
  obtain ⟨y, hy⟩ : ∃ y, M[e]? = some y := ⟨_, List.getElem?_eq_getElem (by omega)⟩
  have hbe : jI M e = y.2 := uJ hy
  have hb32 := b0 e het
  rw [hbe] at hb32
  have hxix := hxb (by omega)
  have hys := (x.bl y (List.mem_of_getElem? hy)).1
  obtain ⟨vb, hvb, bt⟩ := x6.eps _ _ hy
  have hvb1 : cs[e * 2 + 1]? = some vb := by
    have : ((cs.drop (e * 2)).take 2)[1]? = some vb := by rw [hvb]; rfl
    rw [List.getElem?_take, if_pos (by decide), List.getElem?_drop] at this
    exact this
  obtain ⟨ab, cb, eb⟩ : ∃ a c, vb = .slice a y.2.length c := by
    obtain ⟨ds, o, _⟩ := bt
    exact o.form
  subst eb
  obtain ⟨ke, tle, ge, hke⟩ := x6.ep.at (P := Try.prog) Try.underlying88 fI (i := e) (by omega)
  obtain ⟨ae, ce, ee⟩ := x6.ep.form
  rw [ee] at ge
  have ho6 := x6.obj
  rw [ee] at ho6
  have rlb : RL 2 Bd h (.slice ab y.2.length cb) y.2 := by
    obtain ⟨vb2, hvb2, bt2⟩ := x.eps _ _ hy
    rw [hvb] at hvb2
    cases hvb2
    exact bt2.rl
  have wE : IntKind.i64.wrap ((e : Int) + 1) = ((e + 1 : Nat) : Int) := by rw [wrap64 (by omega) (by omega)]; omega
  have iv0 : Iv e 0 hh6 := by rw [hIv]; exact ⟨s6, e16, e26, hlen, a6, c6, m56, ev6⟩
  refine qS ?_; repeat' (first | (with_reducible first | apply qH | apply qB) | ((first | (with_reducible apply qR) | (with_reducible first | apply qA | apply qP | apply qD | apply qE | apply qK) | ((with_reducible first | apply qQ | apply qI | apply qJ | apply qW | apply qX) <;> intro hb <;> (try simp only [hb]) <;> (try simp only [zF] at hb)) | with_reducible refine qO xC mixed (by kernel_rfl) ?_) <;> try simp only [qV, qF, qL, qN, qG, qC, qM, reduceIte, seval, Int.cast_ofNat_Int, qY, qZ, qU, zR, zT, zU, wS, xC, gNil, qT m16 wL, d3, qT ho6 gJ, ge, qT hke jX, hvb1]))
  refine wI [0, 3, 4, 5, 6, 16, 17, 18, 19, 22, 23, 24, 25, 26, 27, 28, 29, 30] (fun (i : Nat) => [(31, .int .i64 (i : Int))]) (fun q i h' => y.2.length - i = q ∧ i ≤ y.2.length ∧ Iv e i h') y.2.length 0 (by simp [lk]) ⟨rfl, by omega, iv0⟩ ?_
  clear iv0
  rintro _ i hh7 ⟨rfl, hi, iv⟩
  by_cases hib : i < y.2.length
  case neg =>
    obtain rfl : i = y.2.length := by omega
    have d4 : decide ((y.2.length : Int) < (y.2.length : Int)) = false := decide_eq_false (by omega)
    refine qS ?_; repeat' (first | (with_reducible first | apply qH | apply qB) | ((first | (with_reducible apply qR) | (with_reducible first | apply qA | apply qP | apply qD | apply qE | apply qK) | ((with_reducible first | apply qQ | apply qI | apply qJ | apply qW | apply qX) <;> intro hb <;> (try simp only [hb]) <;> (try simp only [zF] at hb)) | with_reducible refine qO xC mixed (by kernel_rfl) ?_) <;> try simp only [qV, qF, qL, qN, qG, qC, qM, reduceIte, seval, Int.cast_ofNat_Int, qY, qZ, qU, zR, zT, zU, wS, xC, d4, wE]))
    refine ⟨_, e + 1, ?_, (by simp only [List.forall_mem_cons, List.not_mem_nil, false_implies, implies_true, List.map, List.cons_append, List.nil_append, lk, Nat.reduceEqDiff, reduceIte, and_true, true_and]), rfl, by omega, by omega, ?_⟩
    · omega
    · have := qR2 M (ix := ix) hepe
      rw [hbe] at this
      rw [hIv] at iv ⊢
      rw [this] at iv
      exact iv
  rw [hIv] at iv
  obtain ⟨s7, e17, e27, hlen7, a7, c7, m57, ev7⟩ := iv
  have m17 := e17.trans m15
  have m27 := e27.trans m25
  have d4 : decide ((i : Int) < (y.2.length : Int)) = true := decide_eq_true (by omega)
  have wi : IntKind.i64.wrap ((i : Int) + 1) = ((i + 1 : Nat) : Int) := by rw [wrap64 (by omega) (by omega)]; omega
  obtain ⟨zz, hz⟩ : ∃ z, y.2[i]? = some z := ⟨_, List.getElem?_eq_getElem hib⟩
  have hbi : vI (jI M e) i = zz := by rw [hbe]; simp [vI, hz]
  obtain ⟨ad, cs2, g1, g2, a', n', c', b', m', d', rfl, q1, q2⟩ := (rlb.bs s7).at (P := Try.prog) Try.underlying23 uQ hz
  have l1 : xM Try.prog 99 hh7 (.pointer (some ad)) = some (.agg #[.slice a' n' c', .slice b' m' d']) := by simp only [xM, uQ, g2]; rfl
  refine qS ?_; repeat' (first | (with_reducible first | apply qH | apply qB) | ((first | (with_reducible apply qR) | (with_reducible first | apply qA | apply qP | apply qD | apply qE | apply qK) | ((with_reducible first | apply qQ | apply qI | apply qJ | apply qW | apply qX) <;> intro hb <;> (try simp only [hb]) <;> (try simp only [zF] at hb)) | with_reducible refine qO xC mixed (by kernel_rfl) ?_) <;> try simp only [qV, qF, qL, qN, qG, qC, qM, reduceIte, seval, Int.cast_ofNat_Int, qY, qZ, qU, zR, zT, zU, wS, xC, d4, g1, l1]))
  refine xW fun k8 hh8 m8 s8 f8 n8 => ?_
  refine qS ?_; repeat' (first | (with_reducible first | apply qH | apply qB) | ((first | (with_reducible apply qR) | (with_reducible first | apply qA | apply qP | apply qD | apply qE | apply qK) | ((with_reducible first | apply qQ | apply qI | apply qJ | apply qW | apply qX) <;> intro hb <;> (try simp only [hb]) <;> (try simp only [zF] at hb)) | with_reducible refine qO xC mixed (by kernel_rfl) ?_) <;> try simp only [qV, qF, qL, qN, qG, qC, qM, reduceIte, seval, Int.cast_ofNat_Int, qY, qZ, qU, zR, zT, zU, wS, xC]))
  refine zM m8 uQ rfl (by decide) rfl rfl rfl fun hh9 m9 f9 => ?_
  have s9 : HS hh7 hh9 := (HS.refl hh7).upd n8 (fun j hj => (f9 j hj).trans (f8 j hj))
  have m19 := s9 _ _ m17
  have m29 := s9 _ _ m27
  have m59 := s9 _ _ m57
  have s79 := s7.trans s9
  have ev9 := ev7.hs s9
  have iv9 : Iv e i hh9 := by rw [hIv]; exact ⟨s79, by rw [m19, m15], by rw [m29, m25], hlen7, a7, c7, m59, ev9⟩
  have dE : ((e : Int) == q.ep) = decide (e = ep) := by rw [hep, Bool.eq_iff_iff]; simp only [beq_iff_eq, decide_eq_true_eq]; omega
  have dI : decide ((i : Int) < q.ix) = decide (i < ix) := by rw [hix, Bool.eq_iff_iff]; simp only [decide_eq_true_eq]; omega
  by_cases hsk : e = ep ∧ i < ix
  · obtain ⟨rfl, hlt⟩ := hsk
    have dE' : ((e : Int) == q.ep) = true := by rw [dE]; simp
    have dI' : decide ((i : Int) < q.ix) = true := by rw [dI]; simpa using hlt
    refine qS ?_; repeat' (first | (with_reducible first | apply qH | apply qB) | ((first | (with_reducible apply qR) | (with_reducible first | apply qA | apply qP | apply qD | apply qE | apply qK) | ((with_reducible first | apply qQ | apply qI | apply qJ | apply qW | apply qX) <;> intro hb <;> (try simp only [hb]) <;> (try simp only [zF] at hb)) | with_reducible refine qO xC mixed (by kernel_rfl) ?_) <;> try simp only [qV, qF, qL, qN, qG, qC, qM, reduceIte, seval, Int.cast_ofNat_Int, qY, qZ, qU, zR, zT, zU, wS, xC, qT m19 wL, dE', dI', gPick, wi]))
    refine ⟨_, i + 1, ?_, (by simp only [List.forall_mem_cons, List.not_mem_nil, false_implies, implies_true, List.map, List.cons_append, List.nil_append, lk, Nat.reduceEqDiff, reduceIte, and_true, true_and]), rfl, by omega, ?_⟩
    · omega
    · have := fed_skip M hlt hxix
      rw [hIv] at iv9 ⊢
      rw [this]
      exact iv9
  have hge : e = ep → ix ≤ i := fun h => by
    rcases Nat.lt_or_ge i ix with h' | h'
    · exact absurd ⟨h, h'⟩ hsk
    · exact h'
  have hbi' : i < (jI M e).length := by rw [hbe]; exact hib
  have dT : ∀ (b : Bool), ((e : Int) == q.ep) = b → decide ((i : Int) < q.ix) = false ∨ b = false := fun b hb => by
    rw [dE] at hb
    by_cases h : e = ep
    · exact .inl (by rw [dI]; have := hge h; simp; omega)
    · exact .inr (by rw [← hb]; simp [h])
  obtain ⟨r, hr⟩ := zA1 M hepe het hbi' hge hxix
  by_cases hfull : (gG M ep ix e i).length = lm
  · have d5 : (((gG M ep ix e i).length : Int) == q.lm) = true := by rw [hlm]; simp [hfull]
    have hg : ((gL M ep (to + 1 - ep)).drop ix)[lm]? = some (e, i, vI (jI M e) i) := by rw [hr, ← hfull, List.getElem?_append_right (Nat.le_refl _), Nat.sub_self]; rfl
    have ht : ((gL M ep (to + 1 - ep)).drop ix).take lm = gG M ep ix e i := by rw [hr, ← hfull, List.take_left]
    rw [hg]
    simp only
    rw [ht]
    have fin : ∀ {h' : GH}, HX k5 hh9 h' → h' k5 = some ⟨[.int .i64 0, .int .i64 (e : Int), .bool false, .bool false, .slice none 0 0, .int .i64 (i : Int), .slice none 0 0, .slice a7 (gG M ep ix e i).length c7, .bool true], 0, true, false⟩ → HS h h' ∧ h' k2 = hh5 k2 ∧ Evs h h' (.slice a7 (gG M ep ix e i).length c7) (gG M ep ix e i) := by
      intro h' hx m
      refine ⟨fun j B hj => hx _ _ (fun q => by subst q; rw [n5'] at hj; cases hj) (s79 _ _ hj), ?_, ?_⟩
      · rw [m25]; exact hx _ _ (Ne.symm k5k2) m29
      · obtain ⟨ds, o, u, r⟩ := ev9
        exact ⟨ds, o.hx m59 (by simp) hx, u, fun i p hp => by
          obtain ⟨a, c, b, d, e, r1, r2⟩ := r i p hp
          exact ⟨a, c, b, d, e, r1.hx m59 rfl hx, r2.hx m59 rfl hx⟩⟩
    have sel : (((e : Int) == q.ep) = false) ∨ (((e : Int) == q.ep) = true ∧ decide ((i : Int) < q.ix) = false) := by
      cases hE : ((e : Int) == q.ep) with
      | false => exact .inl rfl
      | true => exact .inr ⟨rfl, (dT true hE).resolve_right (by simp)⟩
    rcases sel with hE | ⟨hE, dI'⟩
    all_goals
      first
      | have _ := dI'
      | have dI' := hE
      refine qS ?_; repeat' (first | (with_reducible first | apply qH | apply qB) | ((first | (with_reducible apply qR) | (with_reducible first | apply qA | apply qP | apply qD | apply qE | apply qK) | ((with_reducible first | apply qQ | apply qI | apply qJ | apply qW | apply qX) <;> intro hb <;> (try simp only [hb]) <;> (try simp only [zF] at hb)) | with_reducible refine qO xC mixed (by kernel_rfl) ?_) <;> try simp only [qV, qF, qL, qN, qG, qC, qM, reduceIte, seval, Int.cast_ofNat_Int, qY, qZ, qU, zR, zT, zU, wS, xC, qT m19 wL, qT m59 dJ, hE, dI', d5, gPick]))
      refine vN m59 qH2 rfl (by simp) rfl rfl fun hh10 m10 f10 => ?_
      simp only [List.set_cons_succ, List.set_cons_zero] at m10
      refine qS ?_; repeat' (first | (with_reducible first | apply qH | apply qB) | ((first | (with_reducible apply qR) | (with_reducible first | apply qA | apply qP | apply qD | apply qE | apply qK) | ((with_reducible first | apply qQ | apply qI | apply qJ | apply qW | apply qX) <;> intro hb <;> (try simp only [hb]) <;> (try simp only [zF] at hb)) | with_reducible refine qO xC mixed (by kernel_rfl) ?_) <;> try simp only [qV, qF, qL, qN, qG, qC, qM, reduceIte, seval, Int.cast_ofNat_Int, qY, qZ, qU, zR, zT, zU, wS, xC]))
      refine vN m10 wL rfl (by simp) rfl rfl fun hh11 m11 f11 => ?_
      simp only [List.set_cons_succ, List.set_cons_zero] at m11
      refine qS ?_; repeat' (first | (with_reducible first | apply qH | apply qB) | ((first | (with_reducible apply qR) | (with_reducible first | apply qA | apply qP | apply qD | apply qE | apply qK) | ((with_reducible first | apply qQ | apply qI | apply qJ | apply qW | apply qX) <;> intro hb <;> (try simp only [hb]) <;> (try simp only [zF] at hb)) | with_reducible refine qO xC mixed (by kernel_rfl) ?_) <;> try simp only [qV, qF, qL, qN, qG, qC, qM, reduceIte, seval, Int.cast_ofNat_Int, qY, qZ, qU, zR, zT, zU, wS, xC]))
      refine vN m11 wL rfl (by simp) rfl rfl fun hh12 m12 f12 => ?_
      simp only [List.set_cons_succ, List.set_cons_zero] at m12
      have hx12 : HX k5 hh9 hh12 := fun j B n e => ((f12 j n).trans ((f11 j n).trans (f10 j n))).trans e
      obtain ⟨s12', e212, ev12⟩ := fin hx12 m12
      have m212 := e212.trans m25
      refine qS ?_; repeat' (first | (with_reducible first | apply qH | apply qB) | ((first | (with_reducible apply qR) | (with_reducible first | apply qA | apply qP | apply qD | apply qE | apply qK) | ((with_reducible first | apply qQ | apply qI | apply qJ | apply qW | apply qX) <;> intro hb <;> (try simp only [hb]) <;> (try simp only [zF] at hb)) | with_reducible refine qO xC mixed (by kernel_rfl) ?_) <;> try simp only [qV, qF, qL, qN, qG, qC, qM, reduceIte, seval, Int.cast_ofNat_Int, qY, qZ, qU, zR, zT, zU, wS, xC, zI m12 xG rfl]))
      refine zM m212 xG rfl (by decide) rfl rfl rfl fun hh13 m13 f13 => ?_
      refine qS ?_; repeat' (first | (with_reducible first | apply qH | apply qB) | ((first | (with_reducible apply qR) | (with_reducible first | apply qA | apply qP | apply qD | apply qE | apply qK) | ((with_reducible first | apply qQ | apply qI | apply qJ | apply qW | apply qX) <;> intro hb <;> (try simp only [hb]) <;> (try simp only [zF] at hb)) | with_reducible refine qO xC mixed (by kernel_rfl) ?_) <;> try simp only [qV, qF, qL, qN, qG, qC, qM, reduceIte, seval, Int.cast_ofNat_Int, qY, qZ, qU, zR, zT, zU, wS, xC, zI m13 xG rfl]))
      have hx : HX k2 hh12 hh13 := fun j B n e => (f13 j n).trans e
      obtain ⟨ds, o, u, r'⟩ := ev12
      have ev13 : Evs h hh13 (.slice a7 (gG M ep ix e i).length c7) (gG M ep ix e i) := ⟨ds, o.hx m212 (by simp) hx, u, fun i p hp => by
        obtain ⟨a, c, b, d, e, r1, r2⟩ := r' i p hp
        exact ⟨a, c, b, d, e, r1.hx m212 rfl hx, r2.hx m212 rfl hx⟩⟩
      exact ⟨⟨none, 0, none, 0, a7, c7, rfl, RB.nil _, RL.nil _, ev13.rl⟩, s12'.upd n2' f13⟩
  have hlt : (gG M ep ix e i).length < lm := by omega
  have d5 : (((gG M ep ix e i).length : Int) == q.lm) = false := by rw [hlm, beq_eq_false_iff_ne]; omega
  have sel : (((e : Int) == q.ep) = false) ∨ (((e : Int) == q.ep) = true ∧ decide ((i : Int) < q.ix) = false) := by
    cases hE : ((e : Int) == q.ep) with
    | false => exact .inl rfl
    | true => exact .inr ⟨rfl, (dT true hE).resolve_right (by simp)⟩
  have hzs := hys zz (List.mem_of_getElem? hz)
  have hnext := qR1 M hepe hbi' hge hxix
  rw [hbi] at hnext
  have e1 := (q1.hs s9).len_eq
  have e2 := (q2.hs s9).len_eq
  subst e1
  subst e2
  rcases sel with hE | ⟨hE, dI'⟩
  all_goals
    first
    | have _ := dI'
    | have dI' := hE
    refine qS ?_; repeat' (first | (with_reducible first | apply qH | apply qB) | ((first | (with_reducible apply qR) | (with_reducible first | apply qA | apply qP | apply qD | apply qE | apply qK) | ((with_reducible first | apply qQ | apply qI | apply qJ | apply qW | apply qX) <;> intro hb <;> (try simp only [hb]) <;> (try simp only [zF] at hb)) | with_reducible refine qO xC mixed (by kernel_rfl) ?_) <;> try simp only [qV, qF, qL, qN, qG, qC, qM, reduceIte, seval, Int.cast_ofNat_Int, qY, qZ, qU, zR, zT, zU, wS, xC, qT m19 wL, qT m59 dJ, qT m9 wK, hE, dI', d5, gPick]))
    refine (fD N hh9 (q1.hs s9) hzs.1).mono ?_
    rintro _ hh10 ⟨s10, o10⟩
    obtain ⟨a10, c10, rfl⟩ := o10.form
    refine qS ?_; repeat' (first | (with_reducible first | apply qH | apply qB) | ((first | (with_reducible apply qR) | (with_reducible first | apply qA | apply qP | apply qD | apply qE | apply qK) | ((with_reducible first | apply qQ | apply qI | apply qJ | apply qW | apply qX) <;> intro hb <;> (try simp only [hb]) <;> (try simp only [zF] at hb)) | with_reducible refine qO xC mixed (by kernel_rfl) ?_) <;> try simp only [qV, qF, qL, qN, qG, qC, qM, reduceIte, seval, Int.cast_ofNat_Int, qY, qZ, qU, zR, zT, zU, wS, xC, qT (s10 _ _ m9) wK, qT (s10 _ _ m59) dJ]))
    refine (fD N hh10 ((q2.hs s9).hs s10) hzs.2).mono ?_
    rintro _ hh11 ⟨s11, o11⟩
    obtain ⟨a11, c11, rfl⟩ := o11.form
    have s911 := s10.trans s11
    refine qS ?_; repeat' (first | (with_reducible first | apply qH | apply qB) | ((first | (with_reducible apply qR) | (with_reducible first | apply qA | apply qP | apply qD | apply qE | apply qK) | ((with_reducible first | apply qQ | apply qI | apply qJ | apply qW | apply qX) <;> intro hb <;> (try simp only [hb]) <;> (try simp only [zF] at hb)) | with_reducible refine qO xC mixed (by kernel_rfl) ?_) <;> try simp only [qV, qF, qL, qN, qG, qC, qM, reduceIte, seval, Int.cast_ofNat_Int, qY, qZ, qU, zR, zT, zU, wS, xC, Bool.false_and, Bool.not_false, qT (s911 _ _ m9) wK, qT (s911 _ _ m59) dJ, xL, xT, vB, Shape.pl, List.all_cons, List.all_nil, zA]))
    refine fH el36 rfl rfl (by decide) (by decide) rfl fun k12 hh12 b12 s12' f12 n12 => ?_
    have s912 := s911.trans s12'
    have s712 := s79.trans s912
    obtain ⟨ds, o12, u12, r12⟩ := ev9.hs s912
    refine qS ?_; repeat' (first | (with_reducible first | apply qH | apply qB) | ((first | (with_reducible apply qR) | (with_reducible first | apply qA | apply qP | apply qD | apply qE | apply qK) | ((with_reducible first | apply qQ | apply qI | apply qJ | apply qW | apply qX) <;> intro hb <;> (try simp only [hb]) <;> (try simp only [zF] at hb)) | with_reducible refine qO xC mixed (by kernel_rfl) ?_) <;> try simp only [qV, qF, qL, qN, qG, qC, qM, reduceIte, seval, Int.cast_ofNat_Int, qY, qZ, qU, zR, zT, zU, wS, xC, qT (s912 _ _ m9) wK, qT (s912 _ _ m59) dJ]))
    refine wJ el36 Try.underlying36 rfl s712 o12 b12 rfl rfl (by omega) (by simp only [maxLen]; omega) fun v13 hh13 s13 fr13 o13 => ?_
    obtain ⟨a13, c13, rfl⟩ := o13.form
    have m513 := tV fr13 (s912 _ _ m59) (by simp)
    have m113 := tV fr13 (s912 _ _ m19) (by simp)
    have m213 := tV fr13 (s912 _ _ m29) (by simp)
    refine qS ?_; repeat' (first | (with_reducible first | apply qH | apply qB) | ((first | (with_reducible apply qR) | (with_reducible first | apply qA | apply qP | apply qD | apply qE | apply qK) | ((with_reducible first | apply qQ | apply qI | apply qJ | apply qW | apply qX) <;> intro hb <;> (try simp only [hb]) <;> (try simp only [zF] at hb)) | with_reducible refine qO xC mixed (by kernel_rfl) ?_) <;> try simp only [qV, qF, qL, qN, qG, qC, qM, reduceIte, seval, Int.cast_ofNat_Int, qY, qZ, qU, zR, zT, zU, wS, xC, qT m513 dJ]))
    refine vN m513 dJ rfl (by simp) rfl rfl fun hh14 m14 f14 => ?_
    simp only [List.set_cons_succ, List.set_cons_zero] at m14
    refine qS ?_; repeat' (first | (with_reducible first | apply qH | apply qB) | ((first | (with_reducible apply qR) | (with_reducible first | apply qA | apply qP | apply qD | apply qE | apply qK) | ((with_reducible first | apply qQ | apply qI | apply qJ | apply qW | apply qX) <;> intro hb <;> (try simp only [hb]) <;> (try simp only [zF] at hb)) | with_reducible refine qO xC mixed (by kernel_rfl) ?_) <;> try simp only [qV, qF, qL, qN, qG, qC, qM, reduceIte, seval, Int.cast_ofNat_Int, qY, qZ, qU, zR, zT, zU, wS, xC, wi]))
    have hx : HX k5 hh13 hh14 := fun j B n e => (f14 j n).trans e
    have keep : ∀ {q : List Value} {ee : Nat × Nat × Bnd}, Ev hh12 q ee → Ev hh14 q ee := fun {q ee} w => by
      obtain ⟨a, c, b, d, e, r1, r2⟩ := w
      exact ⟨a, c, b, d, e, (jW fr13 u12 r1).hx m513 rfl hx, (jW fr13 u12 r2).hx m513 rfl hx⟩
    have newe : Ev hh12 [.int .i64 (e : Int), .int .i64 (i : Int), .slice a10 zz.1.length c10, .slice a11 zz.2.length c11] (e, i, zz) := ⟨a10, c10, a11, c11, rfl, (o10.rb.hs s11).hs s12', o11.rb.hs s12'⟩
    refine ⟨_, i + 1, ?_, (by simp only [List.forall_mem_cons, List.not_mem_nil, false_implies, implies_true, List.map, List.cons_append, List.nil_append, lk, Nat.reduceEqDiff, reduceIte, and_true, true_and]), rfl, by omega, ?_⟩
    · omega
    · rw [hIv, hnext]
      have hl1 : (gG M ep ix e i ++ [(e, i, zz)]).length = (gG M ep ix e i).length + 1 := by simp
      rw [hl1]
      refine ⟨s13.upd n5' f14, ?_, ?_, by omega, a13, c13, m14, ds ++ [.int .i64 (e : Int), .int .i64 (i : Int), .slice a10 zz.1.length c10, .slice a11 zz.2.length c11], ?_, by rw [List.all_append, u12]; rfl, ?_⟩
      · rw [f14 _ (Ne.symm k5k1), m113, m15]
      · rw [f14 _ (Ne.symm k5k2), m213, m25]
      · rw [hl1]; exact o13.hx m513 (by simp) hx
      · exact dX (R := Ev hh14) o12.len rfl (fun i p hp => keep (r12 i p hp)) (keep newe)
theorem kR : type_of% (And.intro wT (And.intro wN (And.intro yX (And.intro yB (And.intro yW (And.intro yV (And.intro vQ (And.intro yL (And.intro wZ (And.intro uP (And.intro yK qH3))))))))))) := And.intro wT (And.intro wN (And.intro yX (And.intro yB (And.intro yW (And.intro yV (And.intro vQ (And.intro yL (And.intro wZ (And.intro uP (And.intro yK qH3))))))))))
theorem RAn.hxv {h h' : GH} {k : Nat} {B : GB} {v : Value} {x : An} (r : RAn h v x) (m : h k = some B) (hB : B.es = 0 ∧ B.wr = true) (hu : B.cells.all wX = true) (f : HX k h h') : RAn h' v x := by
  obtain ⟨a4, b4, c4', d4, e4, f4', rfl, t1, t2, t3⟩ := r
  refine ⟨_, _, _, _, _, _, rfl, t1.hx m hu f, t2.hxR m hB f fun cs y r => ?_, t3.hxR m hB f fun cs y r => ?_⟩
  · obtain ⟨a, c, b, d, e, r1, r2⟩ := r
    exact ⟨a, c, b, d, e, r1.hx m hu f, r2.hx m hu f⟩
  · obtain ⟨a, c, b, d, e, r1, r2⟩ := r
    exact ⟨a, c, b, d, e, r1.hx m hu f, r2.hx m hu f⟩
theorem wrong0 {p : Pm} {m : Nat} {q : Ak} (h : xQ true true p m q = 0) : 0 ≤ q.fr ∧ q.fr ≤ q.to ∧ q.to < (m : Int) ∧ 1 ≤ q.lm ∧ q.lm ≤ p.pg := by
  unfold xQ at h
  split at h
  · simp at h
  split at h
  · simp at h
  split at h
  · simp at h
  split at h
  · simp at h
  rename_i h1 h2 h3 h4
  simp only [true_and] at h1 h3 h4
  omega
theorem c_DoFeed (N : Nat) {h0 h : GH} {k j : Nat} {p : Pm} {ew : Value} {cs l : List Value} {M : List (Int × List Bnd)} {ck : Int} {n : Nat} (x : IM h0 h k j p ew cs l M ck n) {a : Option Addr} {c : Nat} (q : Ak) (hk : q.kd = 7) (hid : q.id.length ≤ 140737488355328)
    {c4 c5 c9 : Value} (hc : [c4, c5, c9].all zA = true) :
    GTri Try.prog N 32 [.pointer (some ⟨k, 0, none⟩), .agg #[.int .i64 q.kd, .slice a q.id.length c, .int .i64 q.fr, .int .i64 q.to, c4, c5, .int .i64 q.ep, .int .i64 q.ix, .int .i64 q.lm, c9]] h fun v h' =>
      RAn h' v (if xQ true true p M.length q = 0 then sY M q else { code := xQ true true p M.length q }) ∧ HS h h' := by
  have hc3 : [Value.slice a q.id.length c, c4, c5, c9].all zA = true := by simpa [zA] using hc
  have hc4 : [c4, c5, .int .i64 q.ep, .int .i64 q.ix, c9].all zA = true := by simpa [zA] using hc
  have hr : kA q.kd = true := by rw [hk]; rfl
  have hg : kY q.kd = true := by rw [hk]; rfl
  have hpg := p.may_iff.1 x.may
  have e1 : (q.kd == 1) = false := by rw [hk]; rfl
  have e2 : (q.kd == 2) = false := by rw [hk]; rfl
  have e8 : (q.kd == 8) = false := by rw [hk]; rfl
  have e9 : (q.kd == 9) = false := by rw [hk]; rfl
  have e3 : (q.kd == 3) = false := by rw [hk]; rfl
  have e4 : (q.kd == 4) = false := by rw [hk]; rfl
  have e5 : (q.kd == 5) = false := by rw [hk]; rfl
  have e6 : (q.kd == 6) = false := by rw [hk]; rfl
  have e7 : (q.kd == 7) = true := by rw [hk]; rfl
  refine wQ Try.func32 rfl qL2 qK5 (by simp [Try.ntmps32]) ?_
  repeat' (first | (with_reducible first | apply qH | apply qB) | ((first | (with_reducible first | apply qA | apply qP | apply qD | apply qE | apply qK) | ((with_reducible first | apply qQ | apply qI | apply qJ) <;> intro hb <;> (try simp only [hb]) <;> (try simp only [zF] at hb))) <;> try simp only [qV, qF, qL, qN, qG, qC, qM, reduceIte, seval, Int.cast_ofNat_Int, qY, qZ, kR]))
  refine wY (by simpa [zA] using hc) fun k1 h1 m1 s1 f1 n1 => ?_
  refine qS ?_; repeat' (first | (with_reducible first | apply qH | apply qB) | ((first | (with_reducible apply qR) | (with_reducible first | apply qA | apply qP | apply qD | apply qE | apply qK) | ((with_reducible first | apply qQ | apply qI | apply qJ) <;> intro hb <;> (try simp only [hb]) <;> (try simp only [zF] at hb))) <;> try simp only [qV, qF, qL, qN, qG, qC, qM, reduceIte, seval, Int.cast_ofNat_Int, qY, qZ, kR]))
  refine xW fun k2 h2 m2 s2 f2 n2 => ?_
  replace m1 := s2 _ _ m1
  have s12 := s1.trans s2
  have x2 := x.hs s12
  have n2' := s1.none_of n2
  refine qS ?_; repeat' (first | (with_reducible first | apply qH | apply qB) | ((first | (with_reducible apply qR) | (with_reducible first | apply qA | apply qP | apply qD | apply qE | apply qK) | ((with_reducible first | apply qQ | apply qI | apply qJ) <;> intro hb <;> (try simp only [hb]) <;> (try simp only [zF] at hb)) | ((refine GTri.mono (yU _ x2) ?_); rintro _ _ ⟨rfl, hh9⟩; replace hh9 := hh9.symm; subst hh9)) <;> try simp only [qV, qF, qL, qN, qG, qC, qM, reduceIte, seval, Int.cast_ofNat_Int, qY, qZ, kR, List.map_toArray, List.map_cons, List.map_nil, qT m1 wL, e1, e2, e8, e9, e3, e4, e5, e6, e7, zI m1 uO rfl]))
  refine (sS N x2 q hid hc4).mono ?_
  rintro _ h3 ⟨rfl, s3⟩
  rw [hr, hg]
  have m23 := s3 _ _ m2
  by_cases hw : xQ true true p M.length q = 0
  case neg =>
    rw [if_neg hw]
    have dw : (xQ true true p M.length q != 0) = true := by simpa using hw
    refine qS ?_; repeat' (first | (with_reducible first | apply qH | apply qB) | ((first | (with_reducible apply qR) | (with_reducible first | apply qA | apply qP | apply qD | apply qE | apply qK) | ((with_reducible first | apply qQ | apply qI | apply qJ) <;> intro hb <;> (try simp only [hb]) <;> (try simp only [zF] at hb))) <;> try simp only [qV, qF, qL, qN, qG, qC, qM, reduceIte, seval, Int.cast_ofNat_Int, qY, qZ, kR, dw, xL, xT, vB, Shape.pl, List.all_cons, List.all_nil, zA]))
    refine zM m23 xG rfl (by decide) rfl rfl rfl fun h4 m4 f4 => ?_
    refine qS ?_; repeat' (first | (with_reducible first | apply qH | apply qB) | ((first | (with_reducible apply qR) | (with_reducible first | apply qA | apply qP | apply qD | apply qE | apply qK) | ((with_reducible first | apply qQ | apply qI | apply qJ) <;> intro hb <;> (try simp only [hb]) <;> (try simp only [zF] at hb))) <;> try simp only [qV, qF, qL, qN, qG, qC, qM, reduceIte, seval, Int.cast_ofNat_Int, qY, qZ, kR, zI m4 xG rfl]))
    exact ⟨RAn.zero h4 _ 0, (s12.trans s3).upd n2' f4⟩
  rw [if_pos hw]
  obtain ⟨w1, w2, w3, w4, w5⟩ := wrong0 hw
  have dw : (xQ true true p M.length q != 0) = false := by simpa using hw
  have s03 := s12.trans s3
  refine qS ?_; repeat' (first | (with_reducible first | apply qH | apply qB) | ((first | (with_reducible apply qR) | (with_reducible first | apply qA | apply qP | apply qD | apply qE | apply qK) | ((with_reducible first | apply qQ | apply qI | apply qJ) <;> intro hb <;> (try simp only [hb]) <;> (try simp only [zF] at hb))) <;> try simp only [qV, qF, qL, qN, qG, qC, qM, reduceIte, seval, Int.cast_ofNat_Int, qY, qZ, kR, dw, zI (s3 _ _ m1) uO rfl]))
  refine (c_feed N (x.hs s03) q w1 w2 w3 (by omega) hc3).mono ?_
  rintro v4 h4 ⟨r4, s4⟩
  have r4' := r4
  obtain ⟨a4, b4, c4', d4, e4, f4', rfl, _⟩ := r4
  refine qS ?_; repeat' (first | (with_reducible first | apply qH | apply qB) | ((first | (with_reducible apply qR) | (with_reducible first | apply qA | apply qP | apply qD | apply qE | apply qK) | ((with_reducible first | apply qQ | apply qI | apply qJ) <;> intro hb <;> (try simp only [hb]) <;> (try simp only [zF] at hb))) <;> try simp only [qV, qF, qL, qN, qG, qC, qM, reduceIte, seval, Int.cast_ofNat_Int, qY, qZ, kR]))
  refine zM (s4 _ _ m23) xG rfl (by decide) rfl rfl rfl fun h5 m5 f5 => ?_
  refine qS ?_; repeat' (first | (with_reducible first | apply qH | apply qB) | ((first | (with_reducible apply qR) | (with_reducible first | apply qA | apply qP | apply qD | apply qE | apply qK) | ((with_reducible first | apply qQ | apply qI | apply qJ) <;> intro hb <;> (try simp only [hb]) <;> (try simp only [zF] at hb))) <;> try simp only [qV, qF, qL, qN, qG, qC, qM, reduceIte, seval, Int.cast_ofNat_Int, qY, qZ, kR, zI m5 xG rfl]))
  exact ⟨r4'.hxv (s4 _ _ m23) ⟨rfl, rfl⟩ rfl fun j B n e => (f5 j n).trans e, (s03.trans s4).upd n2' f5⟩
theorem qM7 (M : List (Int × List Bnd)) : ∀ (c s : Nat), s + c ≤ M.length → (gL M s c).length ≤ gZ ((M.map (·.2)).drop s)
  | 0, s, _ => by simp [gL]
  | c + 1, s, h => by
    have ih := qM7 M c (s + 1) (by omega)
    obtain ⟨y, hy⟩ : ∃ y, M[s]? = some y := ⟨_, List.getElem?_eq_getElem (by omega)⟩
    have hd : (M.map (·.2)).drop s = y.2 :: (M.map (·.2)).drop (s + 1) := by
      have hl : s < (M.map (·.2)).length := by rw [List.length_map]; omega
      rw [List.drop_eq_getElem_cons hl]
      have : (M.map (·.2))[s]? = some y.2 := by rw [List.getElem?_map, hy]; rfl
      have := (List.getElem?_eq_some_iff.1 this).2
      rw [this]
    rw [dG, List.length_append, rL, uJ hy, hd]
    simp only [gZ, List.map_cons, List.sum_cons] at ih ⊢
    omega
def tI (k : Nat) (h : GH) : GH := fun i => if i = k then none else h i
theorem hide_k (k : Nat) (h : GH) : tI k h k = none := by unfold tI; rw [if_pos rfl]
theorem sJ {k : Nat} (h : GH) : ∀ i, i ≠ k → tI k h i = h i := fun i n => by unfold tI; rw [if_neg n]
theorem qY9 (k : Nat) (h : GH) : HS (tI k h) h := fun i B e => by
  unfold tI at e
  split at e
  · cases e
  · exact e
theorem qA7 {k : Nat} {a h : GH} (s : HS a h) (n : a k = none) : HS a (tI k h) := fun i B e => by
  rw [sJ h i (fun q => by rw [q, n] at e; cases e)]
  exact s _ _ e
theorem tot_drop (B : List (List Bnd)) (i : Nat) : gZ (B.drop i) ≤ gZ B := by
  have : gZ B = gZ (B.take i) + gZ (B.drop i) := by
    conv => lhs; rw [← List.take_append_drop i B]
    simp only [gZ, List.map_append, List.sum_append]
  omega
end Go.Gh
namespace Go.Gh
open Go Go.Proofs Go.RowKit Go.Sort Go.Shelf
set_option linter.unusedVariables false
set_option linter.unusedSimpArgs false
set_option maxRecDepth 100000
set_option maxHeartbeats 2000000
theorem rV : type_of% (And.intro wN (And.intro gH (And.intro wZ (And.intro jV rs112)))) := And.intro wN (And.intro gH (And.intro wZ (And.intro jV rs112)))
theorem qE0 : type_of% (And.intro wN (And.intro yB (And.intro gH (And.intro wZ rs148)))) := And.intro wN (And.intro yB (And.intro gH (And.intro wZ rs148)))
def rN : Nat → List (Nat × List Nat) × List Nat
  | 4 => ([(0, []), (1, []), (2, []), (3, []), (4, []), (5, []), (6, []), (7, []), (8, []), (9, []), (10, []), (11, []), (12, []), (13, []), (14, []), (15, []), (16, [])], [0, 0, 3, 7, 15, 15, 15, 111, 239, 15, 15, 1039, 3599, 7695, 16383, 32767, 65535])
  | 6 => ([(0, []), (1, []), (2, []), (3, []), (4, []), (5, []), (6, []), (7, []), (8, []), (9, []), (10, []), (11, []), (12, []), (13, []), (14, []), (15, []), (16, []), (17, [])], [0, 0, 0, 0, 8, 0, 0, 64, 224, 480, 0, 0, 3072, 7168, 16355, 32739, 65535, 131071])
  | _ => ([], [])
theorem pF : type_of% (And.intro Try.underlying157 (And.intro wN (And.intro yB (And.intro gH (And.intro qI1 (And.intro ty164 (And.intro wZ (And.intro uP rs136)))))))) := And.intro Try.underlying157 (And.intro wN (And.intro yB (And.intro gH (And.intro qI1 (And.intro ty164 (And.intro wZ (And.intro uP rs136)))))))
def gM : Nat → List (Nat × List Nat) × List Nat
  | 17 => ([(0, []), (1, []), (2, []), (3, []), (4, []), (5, []), (6, []), (7, []), (8, []), (9, []), (10, []), (11, []), (12, []), (13, []), (14, []), (15, []), (16, [])], [0, 1, 3, 7, 7, 7, 39, 119, 247, 7, 7, 1543, 3591, 8191, 16383, 32767, 65535])
  | _ => ([], [])
theorem qE1 : type_of% (And.intro Try.underlying157 (And.intro lL (And.intro yB (And.intro gH (And.intro qI1 (And.intro wZ (And.intro zB9 rs111))))))) := And.intro Try.underlying157 (And.intro lL (And.intro yB (And.intro gH (And.intro qI1 (And.intro wZ (And.intro zB9 rs111))))))
theorem c_icmp (N : Nat) (h : GH) {c1 c2 : List Value} {x y : Itm} (r1 : It h c1 x) (r2 : It h c2 y) : GTri Try.prog N 112 [.agg c1.toArray, .agg c2.toArray] h fun v h' => v = .int .i64 (idO x.1.1 y.1.1) := by
  obtain ⟨a, c, b, d, rfl, p1, p2⟩ := r1
  obtain ⟨a', c', b', d', rfl, q1, q2⟩ := r2
  refine wQ Try.func112 rfl gf112 ok112 (by simp [Try.ntmps112]) ?_
  repeat' (first | (with_reducible first | apply qH | apply qB) | ((first | (with_reducible first | apply qA | apply qP | apply qD | apply qE | apply qK) | ((with_reducible first | apply qQ | apply qI | apply qJ) <;> intro hb <;> (try simp only [hb]) <;> (try simp only [zF] at hb))) <;> try simp only [qV, qF, qL, qN, qG, qC, qM, reduceIte, seval, Int.cast_ofNat_Int, qY, qZ, rV]))
  refine wY rfl fun k1 h1 m1 s1 f1 n1 => ?_
  refine qS ?_; repeat' (first | (with_reducible first | apply qH | apply qB) | ((first | (with_reducible apply qR) | (with_reducible first | apply qA | apply qP | apply qD | apply qE | apply qK) | ((with_reducible first | apply qQ | apply qI | apply qJ) <;> intro hb <;> (try simp only [hb]) <;> (try simp only [zF] at hb))) <;> try simp only [qV, qF, qL, qN, qG, qC, qM, reduceIte, seval, Int.cast_ofNat_Int, qY, qZ, rV]))
  refine wY rfl fun k2 h2 m2 s2 f2 n2 => ?_
  replace m1 := s2 _ _ m1
  have s3 := s1.trans s2
  refine qS ?_; repeat' (first | (with_reducible first | apply qH | apply qB) | ((first | (with_reducible apply qR) | (with_reducible first | apply qA | apply qP | apply qD | apply qE | apply qK) | ((with_reducible first | apply qQ | apply qI | apply qJ) <;> intro hb <;> (try simp only [hb]) <;> (try simp only [zF] at hb))) <;> try simp only [qV, qF, qL, qN, qG, qC, qM, reduceIte, seval, Int.cast_ofNat_Int, qY, qZ, rV, qT m1 wK, qT m2 wK]))
  refine (zA9 N h2 (p1.hs s3) (q1.hs s3) rfl rfl).mono ?_
  rintro _ h3 ⟨rfl, s4⟩
  refine qS ?_; repeat' (first | (with_reducible first | apply qH | apply qB) | ((first | (with_reducible apply qR) | (with_reducible first | apply qA | apply qP | apply qD | apply qE | apply qK) | ((with_reducible first | apply qQ | apply qI | apply qJ) <;> intro hb <;> (try simp only [hb]) <;> (try simp only [zF] at hb))) <;> try simp only [qV, qF, qL, qN, qG, qC, qM, reduceIte, seval, Int.cast_ofNat_Int, qY, qZ, rV, idO]))
theorem c_insI0 (N : Nat) (h : GH) (v f : Value) : GTri Try.prog N 148 [v, .int .i64 0, .int .i64 0, f] h fun u h' => h' = h := by
  have w1 : IntKind.i64.wrap (0 + 1) = 1 := rfl
  have d1 : decide ((1 : Int) < 0) = false := rfl
  refine wQ Try.func148 rfl gf148 ok148 (by simp [Try.ntmps148]) ?_
  repeat' (first | (with_reducible first | apply qH | apply qB) | ((first | (with_reducible first | apply qA | apply qP | apply qD | apply qE | apply qK) | ((with_reducible first | apply qQ | apply qI | apply qJ | apply qW | apply qX) <;> intro hb <;> (try simp only [hb]) <;> (try simp only [zF] at hb)) | with_reducible refine qO rN mixed (by kernel_rfl) ?_) <;> try simp only [qV, qF, qL, qN, qG, qC, qM, reduceIte, seval, Int.cast_ofNat_Int, qY, qZ, qU, zR, zT, zU, qE0, rN, w1]))
  refine wI [0, 1, 2, 3] (fun (i : Unit) => [(8, .int .i64 1)]) (fun q i h' => h' = h) 0 () (by simp [lk]) rfl ?_
  rintro _ _ h3 rfl
  refine qS ?_; repeat' (first | (with_reducible first | apply qH | apply qB) | ((first | (with_reducible apply qR) | (with_reducible first | apply qA | apply qP | apply qD | apply qE | apply qK) | ((with_reducible first | apply qQ | apply qI | apply qJ | apply qW | apply qX) <;> intro hb <;> (try simp only [hb]) <;> (try simp only [zF] at hb)) | with_reducible refine qO rN mixed (by kernel_rfl) ?_) <;> try simp only [qV, qF, qL, qN, qG, qC, qM, reduceIte, seval, Int.cast_ofNat_Int, qY, qZ, qU, zR, zT, zU, qE0, rN, d1]))
theorem c_pdqI0 (N : Nat) (h : GH) (v f : Value) (L : Int) : GTri Try.prog N 136 [v, .int .i64 0, .int .i64 0, .int .i64 L, f] h fun u h' => h' = h := by
  have w1 : IntKind.i64.wrap (0 - 0) = 0 := rfl
  have d1 : decide ((0 : Int) ≤ 12) = true := rfl
  refine wQ Try.func136 rfl gf136 ok136 (by simp [Try.ntmps136]) ?_
  repeat' (first | (with_reducible first | apply qH | apply qB) | ((first | (with_reducible first | apply qA | apply qP | apply qD | apply qE | apply qK) | ((with_reducible first | apply qQ | apply qI | apply qJ | apply qW | apply qX) <;> intro hb <;> (try simp only [hb]) <;> (try simp only [zF] at hb)) | with_reducible refine qO gM mixed (by kernel_rfl) ?_) <;> try simp only [qV, qF, qL, qN, qG, qC, qM, reduceIte, seval, Int.cast_ofNat_Int, qY, qZ, qU, zR, zT, zU, pF, gM]))
  refine wI [0, 4] (fun (i : Unit) => [(1, .int .i64 0), (2, .int .i64 0), (3, .int .i64 L), (10, .bool true), (11, .bool true)]) (fun q i h' => h' = h) 0 () (by simp [lk]) rfl ?_
  rintro _ _ h3 rfl
  refine qS ?_; repeat' (first | (with_reducible first | apply qH | apply qB) | ((first | (with_reducible apply qR) | (with_reducible first | apply qA | apply qP | apply qD | apply qE | apply qK) | ((with_reducible first | apply qQ | apply qI | apply qJ | apply qW | apply qX) <;> intro hb <;> (try simp only [hb]) <;> (try simp only [zF] at hb)) | with_reducible refine qO gM mixed (by kernel_rfl) ?_) <;> try simp only [qV, qF, qL, qN, qG, qC, qM, reduceIte, seval, Int.cast_ofNat_Int, qY, qZ, qU, zR, zT, zU, pF, gM, w1, d1]))
  refine (c_insI0 N h3 v f).mono ?_
  rintro _ h4 rfl
  refine qS ?_; repeat' (first | (with_reducible first | apply qH | apply qB) | ((first | (with_reducible apply qR) | (with_reducible first | apply qA | apply qP | apply qD | apply qE | apply qK) | ((with_reducible first | apply qQ | apply qI | apply qJ | apply qW | apply qX) <;> intro hb <;> (try simp only [hb]) <;> (try simp only [zF] at hb)) | with_reducible refine qO gM mixed (by kernel_rfl) ?_) <;> try simp only [qV, qF, qL, qN, qG, qC, qM, reduceIte, seval, Int.cast_ofNat_Int, qY, qZ, qU, zR, zT, zU, pF, gM]))
theorem c_sortI (N : Nat) {h0 h : GH} {v : Value} {l : List Itm} {cs : List Value} (o : OWNC 3 h0 h v l.length cs) (hu : cs.all wX = true) (hcc : cs.all zA = true) (hR : ∀ (i : Nat) x, l[i]? = some x → It h ((cs.drop (i * 3)).take 3) x) (hl : l.length ≤ 1000000) :
    GTri Try.prog N 111 [v, .func (.func 112) #[] #[]] h fun u h' => zB4 It (fun x y => idO x.1.1 y.1.1) h0 h v l h' := by
  by_cases hl0 : l = []
  · subst hl0
    have fin : zB4 It (fun x y => idO x.1.1 y.1.1) h0 h v [] h := sortR0 o
    obtain ⟨a, c, rfl⟩ := o.form
    have u0 : IntKind.u64.wrap 0 = 0 := rfl
    refine wQ Try.func111 rfl gf111 ok111 (by simp [Try.ntmps111]) ?_
    refine qS ?_; repeat' (first | (with_reducible first | apply qH | apply qB) | ((first | (with_reducible apply qR) | (with_reducible first | apply qA | apply qP | apply qD | apply qE | apply qK) | ((with_reducible first | apply qQ | apply qI | apply qJ) <;> intro hb <;> (try simp only [hb]) <;> (try simp only [zF] at hb)) | ((refine GTri.mono (c_blen _ _) ?_); rintro _ _ ⟨rfl, hh9⟩; replace hh9 := hh9.symm; subst hh9)) <;> try simp only [qV, qF, qL, qN, qG, qC, qM, reduceIte, seval, Int.cast_ofNat_Int, qY, qZ, qE1, List.length_nil, Int.natCast_zero, u0]))
    refine (c_pdqI0 N h _ _ _).mono ?_
    rintro _ h2 rfl
    refine qS ?_; repeat' (first | (with_reducible first | apply qH | apply qB) | ((first | (with_reducible apply qR) | (with_reducible first | apply qA | apply qP | apply qD | apply qE | apply qK) | ((with_reducible first | apply qQ | apply qI | apply qJ) <;> intro hb <;> (try simp only [hb]) <;> (try simp only [zF] at hb))) <;> try simp only [qV, qF, qL, qN, qG, qC, qM, reduceIte, seval, Int.cast_ofNat_Int, qY, qZ, qE1]))
    exact fin
  · have hn0 : l.length ≠ 0 := fun q => hl0 (List.eq_nil_of_length_eq_zero q)
    rcases o with ⟨_, q, _⟩ | ⟨_, _, q, _⟩ | ⟨kb, c, rfl, m1, m2, m3, m4, m5, m6⟩
    · exact absurd q hn0
    · exact absurd q hn0
    have := sort_tri qB5 (K := 3) Try.isAgg97 Try.sizeOf97 (by decide) gf111 (N := N) (h := h) (R := It) (fun x y => idO x.1.1 y.1.1) (tc_id.on fun x : Itm => x.1.1).swo (g := 112) gf112 (c := c) hl0 (by omega) m5 m4 hu hcc hR
      (fun {N' φ w M ds ds'} x s r hv => by
        obtain ⟨a, c, b, d, rfl, r1, r2⟩ := r
        cases hv with
        | cons v1 hv =>
        cases hv with
        | cons v2 hv =>
        obtain ⟨a', e1⟩ := shV_sl M a x.1.1.length c
        obtain ⟨b', e2⟩ := shV_sl M b x.1.2.length d
        have q1 := sh_rb (M := M) s m5 hu v1 r1
        have q2 := sh_rb (M := M) s m5 hu v2 r2
        rw [e1] at q1
        rw [e2] at q2
        exact ⟨a', c, b', d, by simp only [List.map_cons, List.map_nil, e1, e2]; rfl, q1, q2⟩)
      (fun M h' c1 c2 x y r1 r2 => c_icmp M h' r1 r2)
    refine this.mono ?_
    rintro u h' ⟨l2, cs2, z1, z2, z3, z4, z5, z6, z7⟩
    exact sortR1 m1 m2 hl0 m5 m6 m4 hu z1 z2 z3 z4 z5 z7 fun cs x r k => by
      obtain ⟨a, c, b, d, e, r1, r2⟩ := r
      exact ⟨a, c, b, d, e, k _ _ r1, k _ _ r2⟩
end Go.Gh
namespace Go.Gh
open Go Go.Proofs Go.RowKit
set_option linter.unusedVariables false
set_option linter.unusedSimpArgs false
set_option maxRecDepth 100000
set_option maxHeartbeats 4000000
def qC7 (l : List Value) (q : Nat) : List UInt8 := ((xO l)[q]?.getD ByteArray.empty).data.toList
theorem zB1 (k : ByteArray) : yT k.data.toList = k := by
  unfold yT
  simp
theorem gQ : ∀ (n : Nat) (is : List Nat), is.Nodup → (∀ q ∈ is, q < n) → is.length ≤ n
  | 0, is, _, h => by
    cases is with
    | nil => simp
    | cons q is => have := h q (by simp); omega
  | n + 1, is, nd, h => by
    by_cases hn : n ∈ is
    · have := gQ n (is.erase n) (nd.erase n) fun q hq => by
        have h1 := (List.Nodup.mem_erase_iff nd).1 hq
        have := h q h1.2
        have := h1.1
        omega
      rw [List.length_erase_of_mem hn] at this
      omega
    · have := gQ n is nd fun q hq => by
        have := h q hq
        have : q ≠ n := fun e => hn (by rw [← e]; exact hq)
        omega
      omega
theorem qY8 {l : List Value} (nd : (xO l).Nodup) {p q : Nat} (hp : p < (xO l).length) (hq : q < (xO l).length) (e : qC7 l p = qC7 l q) : p = q := by
  unfold qC7 at e
  rw [List.getElem?_eq_getElem hp, List.getElem?_eq_getElem hq] at e
  simp only [Option.getD_some] at e
  have e2 : (xO l)[p] = (xO l)[q] := by
    have h1 := zB1 (xO l)[p]
    have h2 := zB1 (xO l)[q]
    rw [← h1, ← h2, e]
  have pw := List.pairwise_iff_getElem.1 nd
  rcases Nat.lt_trichotomy p q with h | h | h
  · exact absurd e2 (pw p q hp hq h)
  · exact h
  · exact absurd e2.symm (pw q p hq hp h)
theorem vC {α : Type} {l : List α} {i : Nat} (h : i < l.length) : ∃ y, l[i]? = some y := ⟨_, List.getElem?_eq_getElem h⟩
def dis (b : List Bnd) : Prop := (b.map (·.1)).Nodup
instance (b : List Bnd) : Decidable (dis b) := by unfold dis; infer_instance
theorem qF5 {b : List Bnd} {i j : Nat} {p q : Bnd} (hij : j < i) (hp : b[i]? = some p) (hq : b[j]? = some q) (e : p.1 = q.1) : ¬ dis b := fun n => by
  have h1 := List.getElem?_eq_some_iff.1 hp
  have h2 := List.getElem?_eq_some_iff.1 hq
  have := List.pairwise_iff_getElem.1 n j i (by simpa using h2.1) (by simpa using h1.1) hij
  apply this
  simp only [List.getElem_map, h1.2, h2.2, e]
theorem dis_of {b : List Bnd} (h : ∀ (i j : Nat) (p q : Bnd), j < i → b[i]? = some p → b[j]? = some q → p.1 ≠ q.1) : dis b := by
  unfold dis
  rw [List.Nodup, List.pairwise_iff_getElem]
  intro i j hi hj hij
  simp only [List.getElem_map]
  exact (h j i _ _ hij (List.getElem?_eq_getElem (by simpa using hj)) (List.getElem?_eq_getElem (by simpa using hi))).symm
def mts (e : Nat) (b : List Bnd) (id : List UInt8) : Nat → List (Nat × Nat × Bnd)
  | 0 => []
  | i + 1 => mts e b id i ++ (if (vI b i).1 = id then [(e, i, vI b i)] else [])
def batN (B : List (List Bnd)) (e : Nat) : List Bnd := (B[e]?).getD []
def rls (B : List (List Bnd)) (id : List UInt8) (f : Int) : Nat → List (Nat × Nat × Bnd)
  | 0 => []
  | e + 1 => if ((e + 1 : Nat) : Int) > f then mts (e + 1) (batN B e) id (batN B e).length ++ rls B id f e else []
theorem newsp_iff {ep : Nat} {b : List Bnd} {id : List UInt8} {p : Nat × Nat} : ∀ {i : Nat}, p ∈ yG ep b i id ↔ p.1 = ep ∧ p.2 < i ∧ (vI b p.2).1 = id
  | 0 => by simp [yG]
  | i + 1 => by
    simp only [yG, List.mem_append, newsp_iff (i := i)]
    constructor
    · rintro (⟨h1, h2, h3⟩ | h)
      · exact ⟨h1, by omega, h3⟩
      · split at h
        · rename_i hid
          obtain rfl := List.mem_singleton.1 h
          exact ⟨rfl, Nat.lt_succ_self _, hid.symm⟩
        · simp at h
    · rintro ⟨h1, h2, h3⟩
      rcases Nat.lt_or_ge p.2 i with h | h
      · exact .inl ⟨h1, h, h3⟩
      · have e : p.2 = i := by omega
        rw [e] at h3
        rw [if_pos h3.symm]
        exact .inr (by obtain ⟨p1, p2⟩ := p; simp only at h1 e; rw [h1, e]; exact List.mem_singleton.2 rfl)
theorem qI6 {ep : Nat} {b : List Bnd} (d : dis b) (id : List UInt8) : ∀ i, i ≤ b.length → yG ep b i id = [] ∨ ∃ p, yG ep b i id = [p]
  | 0, _ => .inl rfl
  | i + 1, hi => by
    simp only [yG]
    by_cases h : id = (vI b i).1
    · rw [if_pos h]
      have he : yG ep b i id = [] := by
        rw [List.eq_nil_iff_forall_not_mem]
        intro p hp
        obtain ⟨h1, h2, h3⟩ := newsp_iff.1 hp
        have g1 : b[i]? = some (vI b i) := by simp [vI, List.getElem?_eq_getElem (show i < b.length by omega)]
        have g2 : b[p.2]? = some (vI b p.2) := by simp [vI, List.getElem?_eq_getElem (show p.2 < b.length by omega)]
        exact qF5 h2 g1 g2 (by rw [← h, h3]) d
      rw [he]
      exact .inr ⟨_, rfl⟩
    · rw [if_neg h, List.append_nil]
      exact qI6 d id i (by omega)
theorem qI3 (b : List Bnd) : ∀ i, i ≤ b.length → (xO (tO b i)).length ≤ i ∧ (∀ k, yT k ∈ xO (tO b i) ↔ ∃ j, j < i ∧ (vI b j).1 = k) ∧ ((xO (tO b i)).length = i ↔ ∀ j z, z < j → j < i → (vI b j).1 ≠ (vI b z).1)
  | 0, _ => ⟨by simp [tO, xO], fun k => by simp [tO, xO], ⟨fun _ j z _ h => by omega, fun _ => rfl⟩⟩
  | i + 1, hi => by
    obtain ⟨h1, h2, h3⟩ := qI3 b i (by omega)
    rcases fS (yT (vI b i).1) (.int .i64 (i : Int)) (tO b i) (qB6 b i) with ⟨hm, e⟩ | ⟨hm, e⟩
    · simp only [tO, e]
      obtain ⟨z, hz, hze⟩ := (h2 _).1 hm
      refine ⟨by omega, fun k => ?_, ⟨fun hl => by omega, fun hall => absurd hze.symm (hall i z hz (by omega))⟩⟩
      rw [h2]
      constructor
      · rintro ⟨j, hj, hk⟩; exact ⟨j, by omega, hk⟩
      · rintro ⟨j, hj, hk⟩
        rcases Nat.lt_or_ge j i with h | h
        · exact ⟨j, h, hk⟩
        · obtain rfl : j = i := by omega
          exact ⟨z, hz, hze.trans hk⟩
    · simp only [tO, e, List.length_append, List.length_singleton]
      refine ⟨by omega, fun k => ?_, ?_⟩
      · rw [List.mem_append, h2, List.mem_singleton]
        constructor
        · rintro (⟨j, hj, hk⟩ | hk)
          · exact ⟨j, by omega, hk⟩
          · exact ⟨i, by omega, (mL hk).symm⟩
        · rintro ⟨j, hj, hk⟩
          rcases Nat.lt_or_ge j i with h | h
          · exact .inl ⟨j, h, hk⟩
          · obtain rfl : j = i := by omega
            exact .inr (by rw [hk])
      · have hn : ∀ z, z < i → (vI b i).1 ≠ (vI b z).1 := fun z hz e => hm ((h2 _).2 ⟨z, hz, e.symm⟩)
        constructor
        · intro hl j z hz hj
          rcases Nat.lt_or_ge j i with h | h
          · exact h3.1 (by omega) j z hz h
          · obtain rfl : j = i := by omega
            exact hn z hz
        · intro hall
          have := h3.2 fun j z hz hj => hall j z hz (by omega)
          omega
theorem dH {b : List Bnd} {i : Nat} {p : Bnd} (h : b[i]? = some p) : vI b i = p := by simp [vI, h]
theorem zA4 : ∀ a b : List UInt8, Lib.compareBytes a b = 0 → a = b
  | [], [], _ => rfl
  | [], _ :: _, h => by simp [Lib.compareBytes] at h
  | _ :: _, [], h => by simp [Lib.compareBytes] at h
  | x :: a, y :: b, h => by
    simp only [Lib.compareBytes, u8lt] at h
    split at h
    · cases h
    · split at h
      · cases h
      · rename_i h1 h2
        have e : x = y := UInt8.toNat_inj.1 (by omega)
        rw [e, zA4 a b h]
theorem qO8 {x y : List UInt8} (hx : x.length ≤ 255) (hy : y.length ≤ 255) (h : idO x y = 0) : x = y := by
  have e := zA4 _ _ h
  unfold jF at e
  rw [List.take_of_length_le hx, List.take_of_length_le hy] at e
  injection e
def jY (M : List (Int × List Bnd)) (q : Ak) (id : List UInt8) : Option Itm := match dY M id q.to with
  | none => none
  | some (key, ep) => if (ep : Int) > q.fr ∧ (q.sm = true → idO id q.id > 0) then some ((id, key), ep) else none
theorem qA9 {M : List (Int × List Bnd)} {q : Ak} {id : List UInt8} {z : Itm} (h : jY M q id = some z) : z.1.1 = id := by
  unfold jY at h
  split at h
  · cases h
  · split at h
    · cases h; rfl
    · cases h
structure Diff (M : List (Int × List Bnd)) (q : Ak) (L : List Itm) : Prop where
  ord : L.Pairwise fun x y => idO x.1.1 y.1.1 < 0
  mem : ∀ z, z ∈ L ↔ jY M q z.1.1 = some z
theorem Diff.uniq {M M' : List (Int × List Bnd)} {q q' : Ak} {L L' : List Itm} (x : Diff M q L) (y : Diff M' q' L') (h : ∀ id, jY M q id = jY M' q' id) : L = L' := by
  have irr : ∀ z : Itm, ¬ idO z.1.1 z.1.1 < 0 := fun z => by have := tc_id.anti z.1.1 z.1.1; omega
  have nd : ∀ (L : List Itm), (L.Pairwise fun x y => idO x.1.1 y.1.1 < 0) → L.Nodup := by
    intro L p
    refine List.Pairwise.imp ?_ p
    intro a b hab e
    subst e
    exact irr a hab
  have pm : L.Perm L' := (List.perm_ext_iff_of_nodup (nd _ x.ord) (nd _ y.ord)).2 fun z => by rw [x.mem, y.mem, h]
  refine List.Perm.eq_of_pairwise (le := fun x y : Itm => idO x.1.1 y.1.1 < 0) (fun a b ha hb hab hba => ?_) x.ord y.ord pm
  have := tc_id.anti a.1.1 b.1.1
  omega
theorem Diff.len {M : List (Int × List Bnd)} {q : Ak} {L : List Itm} (x : Diff M q L) : ∀ z ∈ L, (z.2 : Int) > q.fr ∧ dY M z.1.1 q.to = some (z.1.2, z.2) := fun z hz => by
  have h := (x.mem z).1 hz
  unfold jY at h
  split at h
  · cases h
  · rename_i key ep e
    split at h
    · rename_i h1
      obtain ⟨⟨id, k⟩, s⟩ := z
      cases h
      exact ⟨h1.1, e⟩
    · cases h
theorem mN {M : List (Int × List Bnd)} {id : List UInt8} {e : Int} {key : List UInt8} {ep : Nat} (h : dY M id e = some (key, ep)) : ∃ p ∈ uZ 0 (M.map (·.2)) id, p.1 = ep ∧ (ep : Int) ≤ e := by
  unfold dY at h
  obtain ⟨ep', h1, h2⟩ := Option.map_eq_some_iff.1 h
  cases h2
  unfold qN7 at h1
  obtain ⟨p, hp, rfl⟩ := Option.map_eq_some_iff.1 h1
  have := List.mem_of_getLast? hp
  obtain ⟨g1, g2⟩ := List.mem_filter.1 this
  exact ⟨p, g1, rfl, by simpa using g2⟩
theorem zC5 {s : ByteArray} {x y : Value} {l m : List Value} (hl : dP l = true) (hm : dP m = true) (e : xO l = xO m) : xO (jD s x l) = xO (jD s y m) := by
  rcases fS s x l hl with ⟨h1, h2⟩ | ⟨h1, h2⟩ <;> rcases fS s y m hm with ⟨h3, h4⟩ | ⟨h3, h4⟩
  · rw [h2, h4, e]
  · rw [e] at h1; exact absurd h1 h3
  · rw [e] at h1; exact absurd h3 h1
  · rw [h2, h4, e]
theorem qB8 (b : List Bnd) : ∀ i, xO (fA b i) = xO (tO b i)
  | 0 => rfl
  | i + 1 => zC5 (gB b i) (qB6 b i) (qB8 b i)
theorem mJ {p : Pm} {b : List Bnd} (h : jR p b = 0) : dis b ∧ ∀ x ∈ b, ¬ jC p x := by
  unfold jR at h
  split at h
  · simp at h
  split at h
  · simp at h
  split at h
  · simp at h
  split at h
  · simp at h
  rename_i h1 h2 h3 h4
  refine ⟨?_, fun x hx hq => h3 ⟨x, hx, hq⟩⟩
  have hk := sI _ (gB b b.length)
  obtain ⟨g1, _, g3⟩ := qI3 b b.length (Nat.le_refl _)
  rw [← qB8] at g1 g3
  have hall := g3.1 (by omega)
  exact dis_of fun i j p q hij hp hq e => hall i j hij (List.getElem?_eq_some_iff.1 hp).1 (by rw [dH hp, dH hq, e])
theorem wP : type_of% (And.intro Try.underlying157 (And.intro Try.underlying89 (And.intro wT (And.intro wN (And.intro yX (And.intro yB (And.intro jA (And.intro yW (And.intro wM (And.intro yV (And.intro vQ (And.intro gH (And.intro qI1 (And.intro yL (And.intro wZ (And.intro uP (And.intro jV (And.intro yK (And.intro jJ (And.intro lU rs75)))))))))))))))))))) := And.intro Try.underlying157 (And.intro Try.underlying89 (And.intro wT (And.intro wN (And.intro yX (And.intro yB (And.intro jA (And.intro yW (And.intro wM (And.intro yV (And.intro vQ (And.intro gH (And.intro qI1 (And.intro yL (And.intro wZ (And.intro uP (And.intro jV (And.intro yK (And.intro jJ (And.intro lU rs75)))))))))))))))))))
theorem qF1 (k : ByteArray) : ∀ (l : List Value), dP l = true → uA k l ≠ none → k ∈ xO l
  | [], _, h => absurd rfl h
  | [u], h, _ => by cases u <;> simp [dP] at h
  | q :: u :: l, h, e => by
    cases q with
    | string q =>
      rw [uA] at e
      simp only [xO, List.mem_cons]
      by_cases hk : (k == q) = true
      · exact .inl ((MapKept.bytes_beq _ _).1 hk)
      · rw [if_neg hk] at e
        exact .inr (qF1 k l (by simpa [dP] using h) e)
    | _ => simp [dP] at h
section
variable {h0 h : GH} {k j : Nat} {p : Pm} {ew : Value} {cs l : List Value} {M : List (Int × List Bnd)} {ck : Int} {n : Nat}
theorem IS.key {S : List UInt8 → List (Nat × Nat)} (x : IS h0 h k j p ew cs l M ck n S) {id : List UInt8} (hs : S id ≠ []) : ∃ q, q < (xO l).length ∧ qC7 l q = id := by
  have hf : uA (yT id) l ≠ none := fun e => by
    have o := x.sp id
    unfold qK7 at o
    rw [e] at o
    obtain ⟨a, c, q⟩ := o.form
    have : (S id).length = 0 := by
      simp only [Option.getD_none] at q
      injection q with q1 q2 q3
      exact q2.symm
    exact hs (List.eq_nil_of_length_eq_zero this)
  obtain ⟨q, hq⟩ := List.mem_iff_getElem?.1 (qF1 _ _ x.ok hf)
  refine ⟨q, (List.getElem?_eq_some_iff.1 hq).1, ?_⟩
  unfold qC7
  rw [hq]
  simp [yT]
theorem IM.kch (x : IM h0 h k j p ew cs l M ck n) {z : Nat} (hz : z < (xO l).length) : ∃ (pp : Nat × Nat) (y : Int × List Bnd) (r : List (Nat × Nat)), uZ 0 (M.map (·.2)) (qC7 l z) = pp :: r ∧ M[pp.1]? = some y ∧ pp.2 < y.2.length ∧ (vI y.2 pp.2).1 = qC7 l z ∧ jR p y.2 = 0 := by
  have hk : (xO l)[z]? = some (xO l)[z] := List.getElem?_eq_getElem hz
  have h1 := x.ks.2.1 _ (List.mem_of_getElem? hk)
  have hkid : qC7 l z = (xO l)[z].data.toList := by unfold qC7; rw [hk]; rfl
  rw [← hkid] at h1
  cases hs : uZ 0 (M.map (·.2)) (qC7 l z) with
  | nil => exact absurd hs h1
  | cons pp r =>
    have hm : pp ∈ uZ 0 (M.map (·.2)) (qC7 l z) := by rw [hs]; exact List.mem_cons_self
    obtain ⟨_, _, b, hb, hl, hid⟩ := jS hm
    rw [Nat.sub_zero, List.getElem?_map] at hb
    obtain ⟨y, hy, rfl⟩ := Option.map_eq_some_iff.1 hb
    refine ⟨pp, y, r, rfl, hy, hl, hid, ?_⟩
    rcases x.ks.2.2.1 y (List.mem_of_getElem? hy) with e | e
    · rw [e] at hl; simp at hl
    · exact e
theorem IM.kshort (x : IM h0 h k j p ew cs l M ck n) {z : Nat} (hz : z < (xO l).length) : (qC7 l z).length ≤ 24 := by
  obtain ⟨pp, y, r, _, hy, hl, hid, hc⟩ := x.kch hz
  have hm := p.may_iff.1 x.may
  have := (mJ hc).2 (vI y.2 pp.2) (by
    have : y.2[pp.2]? = some (vI y.2 pp.2) := by simp [vI, List.getElem?_eq_getElem hl]
    exact List.mem_of_getElem? this)
  unfold jC at this
  rw [hid] at this
  omega
theorem IM.klen (x : IM h0 h k j p ew cs l M ck n) : (xO l).length ≤ 8192 := by
  have hch : ∀ z, ∃ g : Nat, z < (xO l).length → ∃ (pp : Nat × Nat) (y : Int × List Bnd), g = 32 * pp.1 + pp.2 ∧ M[pp.1]? = some y ∧ pp.2 < 32 ∧ (vI y.2 pp.2).1 = qC7 l z := fun z => by
    by_cases hz : z < (xO l).length
    · obtain ⟨pp, y, r, _, hy, hl, hid, hc⟩ := x.kch hz
      have := (lM x.may hc).2
      exact ⟨_, fun _ => ⟨pp, y, rfl, hy, by omega, hid⟩⟩
    · exact ⟨0, fun q => absurd q hz⟩
  obtain ⟨g, hg⟩ := Classical.axiomOfChoice hch
  have hinj : ∀ a b, a < (xO l).length → b < (xO l).length → g a = g b → a = b := fun a b ha hb e => by
    obtain ⟨p1, y1, e1, m1, l1, i1⟩ := hg a ha
    obtain ⟨p2, y2, e2, m2, l2, i2⟩ := hg b hb
    have h1 : p1.1 = p2.1 := by omega
    have h2 : p1.2 = p2.2 := by omega
    rw [h1, m2] at m1
    cases m1
    rw [h2] at i1
    exact qY8 x.ks.1 ha hb (i1.symm.trans i2)
  have nd : ((List.range (xO l).length).map g).Nodup := by
    unfold List.Nodup
    rw [List.pairwise_map]
    exact List.nodup_range.imp_of_mem fun ha hb hne e => hne (hinj _ _ (List.mem_range.1 ha) (List.mem_range.1 hb) e)
  have := gQ 8192 _ nd fun q hq => by
    obtain ⟨z, hz, rfl⟩ := List.mem_map.1 hq
    obtain ⟨pp, y, e, hy, hl, _⟩ := hg z (List.mem_range.1 hz)
    have := (List.getElem?_eq_some_iff.1 hy).1
    have := x.len
    omega
  rw [List.length_map, List.length_range] at this
  exact this
end
theorem RL.cut3 {α : Type} {P : Program} {es : Nat} {R : GH → List Value → α → Prop} {h : GH} {a : Option Addr} {c : Nat} {l : List α} (r : RL es R h (.slice a l.length c) l) {t e : TypeId} {b : Bool} (ht : P.underlying t = some (.slice e)) (he : yH P e = some (b, es)) {m : Nat} (hm : m ≤ l.length) :
    ∃ a' c', (∀ h', vO P t h' (.slice a l.length c) none (some (.int .i64 (m : Int))) (some (.int .i64 (m : Int))) = some (.slice a' m c')) ∧ RL es R h (.slice a' m c') (l.take m) := by
  have hl : (l.take m).length = m := by simp; omega
  rcases r with ⟨c2, hv, rfl⟩ | ⟨ad, c2, cs, hv, h2, h3, h4, h5⟩
  · cases hv
    simp at hm
    subst hm
    exact ⟨none, 0, fun h' => by simp [vO, ht, he, gD, fB, uB], .inl ⟨0, rfl, by simp⟩⟩
  · cases hv
    have hle : m * es ≤ l.length * es := Nat.mul_le_mul_right es hm
    refine ⟨some ⟨ad.block, ad.off, ad.spot⟩, 2 * m + 1, fun h' => ?_, .inr ⟨⟨ad.block, ad.off, ad.spot⟩, 2 * m + 1, cs.take (m * es), by rw [hl], ?_, by omega, fun i x hx => ?_, ?_⟩⟩
    · have hb : 0 ≤ (m : Int) ∧ (m : Int) ≤ ((max l.length (c / 2) : Nat) : Int) := ⟨by omega, by omega⟩
      simp only [vO, ht, he, uB, hb, and_self, if_true, fB]
      simp
    · rw [hl]
      have := sL h2 0 (m * es) (by omega)
      simpa using this
    · have hi : i < m := by have := (List.getElem?_eq_some_iff.1 hx).1; omega
      rw [List.getElem?_take, if_pos hi] at hx
      have hie : i * es + es ≤ m * es := by
        have := Nat.mul_le_mul_right es (show i + 1 ≤ m by omega)
        rw [Nat.add_mul, Nat.one_mul] at this; exact this
      have := h4 i x hx
      rw [List.drop_take, List.take_take, Nat.min_eq_left (by omega)]
      exact this
    · rw [hl]
      rcases h5 with h5 | h5
      · exact .inl (by omega)
      · exact .inr h5
def dL (M : List (Int × List Bnd)) (q : Ak) (l : List Value) (is : List Nat) : List Itm := is.filterMap fun z => jY M q (qC7 l z)
theorem c_diff (N : Nat) {h0 h : GH} {k j : Nat} {p : Pm} {ew : Value} {cs l : List Value} {M : List (Int × List Bnd)} {ck : Int} {n : Nat} (x : IM h0 h k j p ew cs l M ck n) {a : Option Addr} {c : Nat} (q : Ak) (r : RB h (.slice a q.id.length c) q.id) (hl0 : 0 ≤ q.lm) (hl1 : q.lm ≤ 100000)
    {c0 c4 c6 c7 c9 : Value} (hc : [c0, c4, c6, c7, c9].all zA = true) :
    GTri Try.prog N 75 [.pointer (some ⟨k, 0, none⟩), .agg #[c0, .slice a q.id.length c, .int .i64 q.fr, .int .i64 q.to, c4, .bool q.sm, c6, c7, .int .i64 q.lm, c9]] h fun v h' =>
      (∃ L, Diff M q L ∧ RAn h' v { its := L.take q.lm.toNat, more := decide (q.lm.toNat < L.length) }) ∧ HS h h' := by
  have hml := sI l x.ok
  have hkl := x.klen
  refine wQ Try.func75 rfl gf75 ok75 (by simp [Try.ntmps75]) ?_
  repeat' (first | (with_reducible first | apply qH | apply qB) | ((first | (with_reducible first | apply qA | apply qP | apply qD | apply qE | apply qK) | ((with_reducible first | apply qQ | apply qI | apply qJ) <;> intro hb <;> (try simp only [hb]) <;> (try simp only [zF] at hb))) <;> try simp only [qV, qF, qL, qN, qG, qC, qM, reduceIte, seval, Int.cast_ofNat_Int, qY, qZ, wP]))
  refine wY (by simpa [zA] using hc) fun k1 h1 m1 s1 f1 n1 => ?_
  refine qS ?_; repeat' (first | (with_reducible first | apply qH | apply qB) | ((first | (with_reducible apply qR) | (with_reducible first | apply qA | apply qP | apply qD | apply qE | apply qK) | ((with_reducible first | apply qQ | apply qI | apply qJ) <;> intro hb <;> (try simp only [hb]) <;> (try simp only [zF] at hb))) <;> try simp only [qV, qF, qL, qN, qG, qC, qM, reduceIte, seval, Int.cast_ofNat_Int, qY, qZ, wP]))
  refine xW fun k2 h2 m2 s2 f2 n2 => ?_
  replace m1 := s2 _ _ m1
  have s12 := s1.trans s2
  have x2 := x.hs s12
  have n2' := s1.none_of n2
  refine qS ?_; repeat' (first | (with_reducible first | apply qH | apply qB) | ((first | (with_reducible apply qR) | (with_reducible first | apply qA | apply qP | apply qD | apply qE | apply qK) | ((with_reducible first | apply qQ | apply qI | apply qJ) <;> intro hb <;> (try simp only [hb]) <;> (try simp only [zF] at hb))) <;> try simp only [qV, qF, qL, qN, qG, qC, qM, reduceIte, seval, Int.cast_ofNat_Int, qY, qZ, wP, gNil, qT x2.obj pA]))
  have hmo : ∀ {h' : GH}, HS h2 h' → vF h' (.map (some j)) = some l := fun {h'} s => by
    have := s _ _ x2.mp
    simp only [vF, this, x.ok, if_true]
  refine ⟨_, _, j, l, Try.underlying89, rfl, hmo (HS.refl h2), fun it hi hi1 => ?_⟩
  have hdiv : l.length / 2 = (xO l).length := by omega
  rw [hdiv]
  generalize hh1 : vU h2 (it + 1) ⟨[IT, .map (some j), .int .i64 (((xO l).length : Nat) : Int)], 0, true, false⟩ = h3
  have m3 : h3 (it + 1) = some ⟨[IT, .map (some j), .int .i64 (((xO l).length : Nat) : Int)], 0, true, false⟩ := by rw [← hh1]; exact zV _ _ _
  have s3 : HS h2 h3 := by rw [← hh1]; exact HS.new hi1 _
  clear hh1
  refine qS ?_; repeat' (first | (with_reducible first | apply qH | apply qB) | ((first | (with_reducible apply qR) | (with_reducible first | apply qA | apply qP | apply qD | apply qE | apply qK) | ((with_reducible first | apply qQ | apply qI | apply qJ) <;> intro hb <;> (try simp only [hb]) <;> (try simp only [zF] at hb))) <;> try simp only [qV, qF, qL, qN, qG, qC, qM, reduceIte, seval, Int.cast_ofNat_Int, qY, qZ, wP]))
  refine wI [0, 3, 4, 14] (fun (y : Option Addr × Nat × Nat) => [(5, .slice y.1 y.2.1 y.2.2)])
    (fun qq y h' => HS h2 h' ∧ ∃ (is : List Nat) (ds : List Value), (xO l).length - is.length = qq ∧ is.Nodup ∧ (∀ z ∈ is, z < (xO l).length) ∧ h' (it + 1) = some ⟨IT :: .map (some j) :: .int .i64 (((xO l).length : Nat) : Int) :: is.map (fun q : Nat => .int .i64 (q : Int)), 0, true, false⟩ ∧
      OWNC 3 h2 h' (.slice y.1 y.2.1 y.2.2) (dL M q l is).length ds ∧ ds.all wX = true ∧ ds.all zA = true ∧ ∀ (i : Nat) x, (dL M q l is)[i]? = some x → It h' ((ds.drop (i * 3)).take 3) x) (xO l).length (none, 0, 0) (by simp [lk])
    ⟨s3, [], [], by simp, List.nodup_nil, by simp, m3, OWNC.nil _ _ _, rfl, rfl, fun i x hx => by simp [dL] at hx⟩ ?_
  clear m3 s3
  rintro _ ⟨a3, n3, c3⟩ h3 ⟨s3, is, ds, rfl, nd, lt, m3, o3, u3, ic3, r3⟩
  have x3 := x2.hs s3
  refine qS ?_; repeat' (first | (with_reducible first | apply qH | apply qB) | ((first | (with_reducible apply qR) | (with_reducible first | apply qA | apply qP | apply qD | apply qE | apply qK) | ((with_reducible first | apply qQ | apply qI | apply qJ) <;> intro hb <;> (try simp only [hb]) <;> (try simp only [zF] at hb))) <;> try simp only [qV, qF, qL, qN, qG, qC, qM, reduceIte, seval, Int.cast_ofNat_Int, qY, qZ, wP]))
  refine ⟨it, j, (xO l).length, is.map (fun q : Nat => .int .i64 (q : Int)), _, l, rfl, m3, rfl, hmo s3, hml, fun hall => ?_, fun z key v hq hns hkey hv => ?_⟩
  · -- all were met
    have hmem : ∀ z, z ∈ is ↔ z < (xO l).length := fun z => ⟨lt z, fun h => by
      obtain ⟨z', hz', e⟩ := List.mem_map.1 (hall z h)
      have : z' = z := by simp at e; omega
      subst this; exact hz'⟩
    have n3L : n3 = (dL M q l is).length := by
      obtain ⟨_, _, q⟩ := o3.form
      cases q; rfl
    subst n3L
    have hcl : (dL M q l is).length ≤ 8192 := by
      have h1 : (dL M q l is).length ≤ is.length := List.length_filterMap_le _ _
      have h2 := gQ _ is nd lt
      omega
    refine qS ?_; repeat' (first | (with_reducible first | apply qH | apply qB) | ((first | (with_reducible apply qR) | (with_reducible first | apply qA | apply qP | apply qD | apply qE | apply qK) | ((with_reducible first | apply qQ | apply qI | apply qJ) <;> intro hb <;> (try simp only [hb]) <;> (try simp only [zF] at hb))) <;> try simp only [qV, qF, qL, qN, qG, qC, qM, reduceIte, seval, Int.cast_ofNat_Int, qY, qZ, wP]))
    refine (c_sortI N o3 u3 ic3 r3 (by omega)).mono ?_
    rintro _ h4 ⟨l2, cs2, p4, so4, o4, u4, r4, k4, hs4⟩
    have s4 := hs4 s3
    have m14 := s4 _ _ m1
    have m24 := s4 _ _ m2
    have hl2 := p4.length_eq
    have hmd : ∀ z, z ∈ dL M q l is ↔ jY M q z.1.1 = some z := fun z => by
      unfold dL
      rw [List.mem_filterMap]
      constructor
      · rintro ⟨i, hi, e⟩
        rw [qA9 e]; exact e
      · intro e
        have hne : uZ 0 (M.map (·.2)) z.1.1 ≠ [] := fun q0 => by
          unfold jY dY at e
          rw [q0] at e
          simp [qN7] at e
        obtain ⟨i, hi, hk⟩ := x.key hne
        exact ⟨i, (hmem i).2 hi, by rw [hk]; exact e⟩
    have D : Diff M q l2 := by
      refine ⟨?_, fun z => by rw [p4.mem_iff, hmd]⟩
      have hndM : ((dL M q l is).map (·.1.1)).Nodup := by
        have e : ∀ is : List Nat, is.Nodup → (∀ z ∈ is, z < (xO l).length) → ((dL M q l is).map (·.1.1)).Nodup := by
          intro is
          induction is with
          | nil => intro _ _; simp [dL]
          | cons i is ih =>
            intro n h
            have ih := ih (List.nodup_cons.1 n).2 fun z hz => h z (List.mem_cons_of_mem _ hz)
            have e : dL M q l (i :: is) = (match jY M q (qC7 l i) with | some p => [p] | none => []) ++ dL M q l is := by
              unfold dL
              rw [List.filterMap_cons]
              cases jY M q (qC7 l i) <;> rfl
            rw [e]
            cases hd : jY M q (qC7 l i) with
            | none => exact ih
            | some p =>
              simp only [List.cons_append, List.nil_append, List.map_cons, List.nodup_cons]
              refine ⟨fun hm => ?_, ih⟩
              obtain ⟨z, hz, ez⟩ := List.mem_map.1 hm
              unfold dL at hz
              obtain ⟨i', hi', e'⟩ := List.mem_filterMap.1 hz
              have h1 := qA9 e'
              have h2 := qA9 hd
              have := qY8 x.ks.1 (h i' (List.mem_cons_of_mem _ hi')) (h i List.mem_cons_self) (by rw [← h1, ← h2, ez])
              subst this
              exact (List.nodup_cons.1 n).1 hi'
        exact e is nd lt
      have hnd2 : (l2.map (·.1.1)).Nodup := ((p4.map (·.1.1)).nodup_iff).2 hndM
      have hsh : ∀ z ∈ l2, z.1.1.length ≤ 255 := fun z hz => by
        have := (p4.mem_iff.1 hz)
        unfold dL at this
        obtain ⟨i, hi, e⟩ := List.mem_filterMap.1 this
        rw [qA9 e]
        have := x.kshort (lt i hi)
        omega
      rw [List.pairwise_iff_getElem]
      intro i j hi hj hij
      have h1 : ¬ idO l2[j].1.1 l2[i].1.1 < 0 := so4 i j _ _ hij (List.getElem?_eq_getElem hi) (List.getElem?_eq_getElem hj)
      have h2 := tc_id.anti l2[i].1.1 l2[j].1.1
      rcases Int.lt_or_eq_of_le (show idO l2[i].1.1 l2[j].1.1 ≤ 0 by omega) with h3 | h3
      · exact h3
      · exfalso
        have h4 := qO8 (hsh _ (List.getElem_mem hi)) (hsh _ (List.getElem_mem hj)) h3
        have pw := List.pairwise_iff_getElem.1 hnd2 i j (by rw [List.length_map]; exact hi) (by rw [List.length_map]; exact hj) hij
        apply pw
        simp only [List.getElem_map]
        exact h4
    rw [← hl2] at hcl ⊢
    have o4' : OWNC 3 h2 h4 (.slice a3 l2.length c3) l2.length cs2 := by
      rw [hl2] at o4 ⊢
      exact o4
    have rl4 : RL 3 It h4 (.slice a3 l2.length c3) l2 := o4'.rl r4
    obtain ⟨lm, hlm⟩ : ∃ lm : Nat, q.lm = (lm : Int) := ⟨q.lm.toNat, by omega⟩
    have hlmt : q.lm.toNat = lm := by omega
    rw [hlm] at m14
    have mn : (if (lm : Int) < (l2.length : Int) then (lm : Int) else (l2.length : Int)) = ((min l2.length lm : Nat) : Int) := by split <;> omega
    obtain ⟨a5, c5, e5, r5⟩ := rl4.cut3 (P := Try.prog) Try.underlying68 yY (m := min l2.length lm) (Nat.min_le_left _ _)
    have htk : l2.take (min l2.length lm) = l2.take lm := by
      rcases Nat.le_total l2.length lm with h | h
      · rw [Nat.min_eq_left h, List.take_length, List.take_of_length_le h]
      · rw [Nat.min_eq_right h]
    have dm : decide (((min l2.length lm : Nat) : Int) < (l2.length : Int)) = decide (lm < l2.length) := by
      by_cases h : lm < l2.length
      · rw [decide_eq_true h, decide_eq_true (by omega)]
      · rw [decide_eq_false h, decide_eq_false (by omega)]
    refine qS ?_; repeat' (first | (with_reducible first | apply qH | apply qB) | ((first | (with_reducible apply qR) | (with_reducible first | apply qA | apply qP | apply qD | apply qE | apply qK) | ((with_reducible first | apply qQ | apply qI | apply qJ) <;> intro hb <;> (try simp only [hb]) <;> (try simp only [zF] at hb))) <;> try simp only [qV, qF, qL, qN, qG, qC, qM, reduceIte, seval, Int.cast_ofNat_Int, qY, qZ, wP, mn, e5, dm, qT m14 wL, xL, xT, vB, Shape.pl, List.all_cons, List.all_nil, zA]))
    refine zM m24 xG rfl (by decide) rfl rfl rfl fun h5 m5 f5 => ?_
    refine qS ?_; repeat' (first | (with_reducible first | apply qH | apply qB) | ((first | (with_reducible apply qR) | (with_reducible first | apply qA | apply qP | apply qD | apply qE | apply qK) | ((with_reducible first | apply qQ | apply qI | apply qJ) <;> intro hb <;> (try simp only [hb]) <;> (try simp only [zF] at hb))) <;> try simp only [qV, qF, qL, qN, qG, qC, qM, reduceIte, seval, Int.cast_ofNat_Int, qY, qZ, wP, zI m5 xG rfl]))
    have hx : HX k2 h4 h5 := fun j B n e => (f5 j n).trans e
    refine ⟨⟨l2, D, ?_⟩, (s12.trans s4).upd n2' f5⟩
    rw [hlmt]
    have hln : (l2.take lm).length = min l2.length lm := by rw [List.length_take, Nat.min_comm]
    rw [htk] at r5
    rw [← hln] at r5 ⊢
    refine ⟨none, 0, a5, c5, none, 0, rfl, RB.nil h5, r5.hxR m24 ⟨rfl, rfl⟩ hx fun cs y r => ?_, RL.nil h5⟩
    obtain ⟨a, c, b, d, e, r1, r2⟩ := r
    exact ⟨a, c, b, d, e, r1.hx m24 rfl hx, r2.hx m24 rfl hx⟩
  obtain ⟨kb, rfl, hkq, hfd⟩ := qC5 l z key v x.ok x.ks.1 hkey hv
  have hid : qC7 l z = kb.data.toList := by unfold qC7; rw [hkq]; rfl
  have hshort : kb.data.toList.length ≤ 24 := by rw [← hid]; exact x.kshort hq
  generalize hh4 : vU h3 (it + 1) _ = h4
  have m4 : h4 (it + 1) = some ⟨IT :: .map (some j) :: .int .i64 (((xO l).length : Nat) : Int) :: (is.map (fun q : Nat => .int .i64 (q : Int)) ++ [.int .i64 (z : Int)]), 0, true, false⟩ := by rw [← hh4]; exact zV _ _ _
  have f4 : ∀ i, i ≠ it + 1 → h4 i = h3 i := fun i hi => by rw [← hh4]; exact xD _ _ hi
  have s4 : HS h2 h4 := s3.upd hi1 f4
  clear hh4
  have x4 := x2.hs s4
  have uit : (⟨IT :: .map (some j) :: .int .i64 (((xO l).length : Nat) : Int) :: is.map (fun q : Nat => .int .i64 (q : Int)), 0, true, false⟩ : GB).cells.all wX = true := by simp [wX]
  have hx4 : HX (it + 1) h3 h4 := fun i B n e => (f4 i n).trans e
  refine qS ?_; repeat' (first | (with_reducible first | apply qH | apply qB) | ((first | (with_reducible apply qR) | (with_reducible first | apply qA | apply qP | apply qD | apply qE | apply qK) | ((with_reducible first | apply qQ | apply qI | apply qJ) <;> intro hb <;> (try simp only [hb]) <;> (try simp only [zF] at hb))) <;> try simp only [qV, qF, qL, qN, qG, qC, qM, reduceIte, seval, Int.cast_ofNat_Int, qY, qZ, wP]))
  refine ⟨it, j, (xO l).length, z, is.map (fun q : Nat => .int .i64 (q : Int)), _, l, .string kb, v, rfl, m4, rfl, hmo s4, hml, hkey, hv, ?_⟩
  have nd' : (is ++ [z]).Nodup := by
    rw [List.nodup_append]
    refine ⟨nd, by simp, fun a ha b hb e => hns ?_⟩
    obtain rfl := List.mem_singleton.1 hb
    rw [← e]
    exact List.mem_map.2 ⟨a, ha, rfl⟩
  have lt' : ∀ y ∈ is ++ [z], y < (xO l).length := fun y hy => by
    rcases List.mem_append.1 hy with hy | hy
    · exact lt y hy
    · obtain rfl := List.mem_singleton.1 hy; exact hq
  have hlen' := gQ _ _ nd' lt'
  rw [List.length_append, List.length_singleton] at hlen'
  have mm4 : h4 (it + 1) = some ⟨IT :: .map (some j) :: .int .i64 (((xO l).length : Nat) : Int) :: (is ++ [z]).map (fun q : Nat => .int .i64 (q : Int)), 0, true, false⟩ := by rw [m4, List.map_append]; rfl
  have o4 : OWNC 3 h2 h4 (.slice a3 n3 c3) (dL M q l is).length ds := o3.hx m3 (by simp) hx4
  have n3L : n3 = (dL M q l is).length := by
    obtain ⟨_, _, q⟩ := o3.form
    cases q; rfl
  subst n3L
  have hdl : (dL M q l is).length ≤ is.length := List.length_filterMap_le _ _
  have fr4 : ∀ {q : List Value} {ee : Itm}, It h3 q ee → It h4 q ee := fun {q ee} w => by
    obtain ⟨a, c, b, d, e, r1, r2⟩ := w
    exact ⟨a, c, b, d, e, r1.hx m3 uit hx4, r2.hx m3 uit hx4⟩
  have fr45 : ∀ {h' : GH} (s : HS h4 h') {q : List Value} {ee : Itm}, It h3 q ee → It h' q ee := fun {h'} s {q ee} w => (fr4 w).hs s
  have hch : ∀ o, jY M q kb.data.toList = o → dL M q l (is ++ [z]) = dL M q l is ++ (match o with | some p => [p] | none => []) := fun o ho => by
    unfold dL
    rw [List.filterMap_append]
    congr 1
    simp only [List.filterMap_cons, List.filterMap_nil, hid, ho]
    cases o <;> rfl
  have skip : jY M q kb.data.toList = none → ∀ h', HS h4 h' → HS h2 h' ∧ ∃ (is' : List Nat) (ds' : List Value), (xO l).length - is'.length < (xO l).length - is.length ∧ is'.Nodup ∧ (∀ q ∈ is', q < (xO l).length) ∧ h' (it + 1) = some ⟨IT :: .map (some j) :: .int .i64 (((xO l).length : Nat) : Int) :: is'.map (fun q : Nat => .int .i64 (q : Int)), 0, true, false⟩ ∧
      OWNC 3 h2 h' (.slice a3 (dL M q l is).length c3) (dL M q l is').length ds' ∧ ds'.all wX = true ∧ ds'.all zA = true ∧ ∀ (i : Nat) x, (dL M q l is')[i]? = some x → It h' ((ds'.drop (i * 3)).take 3) x := fun hno h' s => by
    have e := hch _ hno
    simp only [List.append_nil] at e
    refine ⟨s4.trans s, is ++ [z], ds, by rw [List.length_append, List.length_singleton]; omega, nd', lt', s _ _ mm4, by rw [e]; exact o4.hs s, u3, ic3, fun i x hx => ?_⟩
    rw [e] at hx
    exact fr45 s (r3 i x hx)
  have m14 := s4 _ _ m1
  simp only [qV, qF, qL, qN, qG, qC, qM, reduceIte, seval, Int.cast_ofNat_Int, qY, qZ, wP]
  refine qH ?_
  refine gr_of ?_
  refine gr_cut 2 ?_
  simp only [qV, qF, qL, qN, qG, qC, qM, reduceIte, seval, Int.cast_ofNat_Int, qY, qZ, wP]
  refine gr_sb Try.underlying9 Try.underlying24 Try.underlying5 rfl fun k6 h6 m6 s6' f6 n6 => ?_
  have m16 := s6' _ _ m14
  refine gr_end ?_
  simp only [yM]
  refine qS ?_; repeat' (first | (with_reducible first | apply qH | apply qB) | ((first | (with_reducible apply qR) | (with_reducible first | apply qA | apply qP | apply qD | apply qE | apply qK) | ((with_reducible first | apply qQ | apply qI | apply qJ) <;> intro hb <;> (try simp only [hb]) <;> (try simp only [zF] at hb))) <;> try simp only [qV, qF, qL, qN, qG, qC, qM, reduceIte, seval, Int.cast_ofNat_Int, qY, qZ, wP, qT m16 wL]))
  refine (c_iat N (x4.hs s6') (bytes_rb m6) (by omega) q.to).mono ?_
  rintro v7 h7 ⟨at7, s7⟩
  have m17 := s7 _ _ m16
  have s47 := s6'.trans s7
  cases hA : dY M kb.data.toList q.to with
  | none =>
    rw [hA] at at7
    simp only [AtV] at at7
    subst at7
    have hno : jY M q kb.data.toList = none := by unfold jY; rw [hA]
    refine qS ?_; repeat' (first | (with_reducible first | apply qH | apply qB) | ((first | (with_reducible apply qR) | (with_reducible first | apply qA | apply qP | apply qD | apply qE | apply qK) | ((with_reducible first | apply qQ | apply qI | apply qJ) <;> intro hb <;> (try simp only [hb]) <;> (try simp only [zF] at hb))) <;> try simp only [qV, qF, qL, qN, qG, qC, qM, reduceIte, seval, Int.cast_ofNat_Int, qY, qZ, wP]))
    refine xW fun k8 h8 m8 s8 f8 n8 => ?_
    refine qS ?_; repeat' (first | (with_reducible first | apply qH | apply qB) | ((first | (with_reducible apply qR) | (with_reducible first | apply qA | apply qP | apply qD | apply qE | apply qK) | ((with_reducible first | apply qQ | apply qI | apply qJ) <;> intro hb <;> (try simp only [hb]) <;> (try simp only [zF] at hb))) <;> try simp only [qV, qF, qL, qN, qG, qC, qM, reduceIte, seval, Int.cast_ofNat_Int, qY, qZ, wP]))
    refine zM m8 yY rfl (by decide) rfl rfl rfl fun h9 m9 f9 => ?_
    have s9 : HS h7 h9 := (HS.refl h7).upd n8 (fun j hj => (f9 j hj).trans (f8 j hj))
    refine qS ?_; repeat' (first | (with_reducible first | apply qH | apply qB) | ((first | (with_reducible apply qR) | (with_reducible first | apply qA | apply qP | apply qD | apply qE | apply qK) | ((with_reducible first | apply qQ | apply qI | apply qJ) <;> intro hb <;> (try simp only [hb]) <;> (try simp only [zF] at hb))) <;> try simp only [qV, qF, qL, qN, qG, qC, qM, reduceIte, seval, Int.cast_ofNat_Int, qY, qZ, wP, gPick, qT m9 wL]))
    obtain ⟨z0, is', ds', z1, z2⟩ := skip hno h9 (s47.trans s9)
    exact ⟨_, (a3, (dL M q l is).length, c3), z1, (by simp only [List.forall_mem_cons, List.not_mem_nil, false_implies, implies_true, List.map, List.cons_append, List.nil_append, lk, Nat.reduceEqDiff, reduceIte, and_true, true_and]), z0, is', ds', rfl, z2⟩
  | some pr =>
    obtain ⟨key', ep⟩ := pr
    rw [hA] at at7
    simp only [AtV] at at7
    obtain ⟨a7, c7, b7, d7, rfl, r7, r8⟩ := at7
    refine qS ?_; repeat' (first | (with_reducible first | apply qH | apply qB) | ((first | (with_reducible apply qR) | (with_reducible first | apply qA | apply qP | apply qD | apply qE | apply qK) | ((with_reducible first | apply qQ | apply qI | apply qJ) <;> intro hb <;> (try simp only [hb]) <;> (try simp only [zF] at hb))) <;> try simp only [qV, qF, qL, qN, qG, qC, qM, reduceIte, seval, Int.cast_ofNat_Int, qY, qZ, wP]))
    refine xW fun k8 h8 m8 s8 f8 n8 => ?_
    refine qS ?_; repeat' (first | (with_reducible first | apply qH | apply qB) | ((first | (with_reducible apply qR) | (with_reducible first | apply qA | apply qP | apply qD | apply qE | apply qK) | ((with_reducible first | apply qQ | apply qI | apply qJ) <;> intro hb <;> (try simp only [hb]) <;> (try simp only [zF] at hb))) <;> try simp only [qV, qF, qL, qN, qG, qC, qM, reduceIte, seval, Int.cast_ofNat_Int, qY, qZ, wP]))
    refine zM m8 yY rfl (by decide) rfl rfl rfl fun h9 m9 f9 => ?_
    have s9 : HS h7 h9 := (HS.refl h7).upd n8 (fun j hj => (f9 j hj).trans (f8 j hj))
    have m19 := s9 _ _ m17
    by_cases hf : (ep : Int) > q.fr
    case neg =>
      have d1 : decide ((ep : Int) > q.fr) = false := decide_eq_false hf
      have hno : jY M q kb.data.toList = none := by unfold jY; rw [hA]; simp only; rw [if_neg (fun z => hf z.1)]
      refine qS ?_; repeat' (first | (with_reducible first | apply qH | apply qB) | ((first | (with_reducible apply qR) | (with_reducible first | apply qA | apply qP | apply qD | apply qE | apply qK) | ((with_reducible first | apply qQ | apply qI | apply qJ) <;> intro hb <;> (try simp only [hb]) <;> (try simp only [zF] at hb))) <;> try simp only [qV, qF, qL, qN, qG, qC, qM, reduceIte, seval, Int.cast_ofNat_Int, qY, qZ, wP, gPick, d1, qT m9 wL, qT m19 wL]))
      obtain ⟨z0, is', ds', z1, z2⟩ := skip hno h9 (s47.trans s9)
      exact ⟨_, (a3, (dL M q l is).length, c3), z1, (by simp only [List.forall_mem_cons, List.not_mem_nil, false_implies, implies_true, List.map, List.cons_append, List.nil_append, lk, Nat.reduceEqDiff, reduceIte, and_true, true_and]), z0, is', ds', rfl, z2⟩
    have d1 : decide ((ep : Int) > q.fr) = true := decide_eq_true hf
    cases hsm : q.sm with
    | false =>
      have hyes : jY M q kb.data.toList = some ((kb.data.toList, key'), ep) := by unfold jY; rw [hA]; simp only; rw [if_pos ⟨hf, fun z => by rw [hsm] at z; cases z⟩]
      rw [hsm] at m19
      refine qS ?_; repeat' (first | (with_reducible first | apply qH | apply qB) | ((first | (with_reducible apply qR) | (with_reducible first | apply qA | apply qP | apply qD | apply qE | apply qK) | ((with_reducible first | apply qQ | apply qI | apply qJ) <;> intro hb <;> (try simp only [hb]) <;> (try simp only [zF] at hb))) <;> try simp only [qV, qF, qL, qN, qG, qC, qM, reduceIte, seval, Int.cast_ofNat_Int, qY, qZ, wP, gPick, d1, zI m9 yY rfl, qT m9 wL, qT m19 wL, qT m19 qH2]))
      refine fH tK rfl rfl (by decide) (by decide) rfl fun k12 h12 b12 s12' f12 n12 => ?_
      have s412 := (s6'.trans s7).trans ((s9).trans s12')
      refine qS ?_; repeat' (first | (with_reducible first | apply qH | apply qB) | ((first | (with_reducible apply qR) | (with_reducible first | apply qA | apply qP | apply qD | apply qE | apply qK) | ((with_reducible first | apply qQ | apply qI | apply qJ) <;> intro hb <;> (try simp only [hb]) <;> (try simp only [zF] at hb))) <;> try simp only [qV, qF, qL, qN, qG, qC, qM, reduceIte, seval, Int.cast_ofNat_Int, qY, qZ, wP]))
      refine wJ tK Try.underlying68 rfl (s4.trans s412) (o4.hs s412) b12 rfl rfl (by omega) (by simp only [maxLen]; omega) fun v13 h13 s13 fr13 o13 => ?_
      obtain ⟨a13, c13, rfl⟩ := o13.form
      refine qS ?_; repeat' (first | (with_reducible first | apply qH | apply qB) | ((first | (with_reducible apply qR) | (with_reducible first | apply qA | apply qP | apply qD | apply qE | apply qK) | ((with_reducible first | apply qQ | apply qI | apply qJ) <;> intro hb <;> (try simp only [hb]) <;> (try simp only [zF] at hb))) <;> try simp only [qV, qF, qL, qN, qG, qC, qM, reduceIte, seval, Int.cast_ofNat_Int, qY, qZ, wP]))
      have e := hch _ hyes
      have m12 := s412 _ _ mm4
      have keep : ∀ {q : List Value} {ee : Itm}, It h12 q ee → It h13 q ee := fun {q ee} w => by
        obtain ⟨a, c, b, d, e, r1, r2⟩ := w
        exact ⟨a, c, b, d, e, jW fr13 u3 r1, jW fr13 u3 r2⟩
      refine ⟨_, (a13, (dL M q l is).length + 1, c13), ?_, (by simp only [List.forall_mem_cons, List.not_mem_nil, false_implies, implies_true, List.map, List.cons_append, List.nil_append, lk, Nat.reduceEqDiff, reduceIte, and_true, true_and]), s13, is ++ [z], _, rfl, nd', lt', tV fr13 m12 (by simp), by rw [e, List.length_append]; exact o13, by rw [List.all_append, u3]; rfl, by rw [List.all_append, ic3]; rfl, ?_⟩
      · rw [List.length_append, List.length_singleton]; omega
      · rw [e]
        refine dX (R := It h13) o3.len rfl (fun i x hx => keep (fr45 s412 (r3 i x hx))) (keep ⟨a7, c7, b7, d7, rfl, (r7.hs (s9)).hs s12', (r8.hs (s9)).hs s12'⟩)
    | true =>
      rw [hsm] at m19
      refine qS ?_; repeat' (first | (with_reducible first | apply qH | apply qB) | ((first | (with_reducible apply qR) | (with_reducible first | apply qA | apply qP | apply qD | apply qE | apply qK) | ((with_reducible first | apply qQ | apply qI | apply qJ) <;> intro hb <;> (try simp only [hb]) <;> (try simp only [zF] at hb))) <;> try simp only [qV, qF, qL, qN, qG, qC, qM, reduceIte, seval, Int.cast_ofNat_Int, qY, qZ, wP, gPick, d1, qT m9 wL, qT m9 wK, qT m19 wL, qT m19 qH2, qT m19 wK]))
      have s49 := s47.trans s9
      refine (zA9 N h9 (r7.hs s9) (((r.hs s12).hs (s4.trans s49))) rfl rfl).mono ?_
      rintro _ h10 ⟨rfl, s10⟩
      have m910 := s10 _ _ m9
      by_cases hgt : Lib.compareBytes (jF kb.data.toList) (jF q.id) > 0
      case neg =>
        have d2 : decide (Lib.compareBytes (jF kb.data.toList) (jF q.id) > 0) = false := decide_eq_false hgt
        have hno : jY M q kb.data.toList = none := by unfold jY; rw [hA]; simp only; rw [if_neg (fun z => hgt (z.2 hsm))]
        refine qS ?_; repeat' (first | (with_reducible first | apply qH | apply qB) | ((first | (with_reducible apply qR) | (with_reducible first | apply qA | apply qP | apply qD | apply qE | apply qK) | ((with_reducible first | apply qQ | apply qI | apply qJ) <;> intro hb <;> (try simp only [hb]) <;> (try simp only [zF] at hb))) <;> try simp only [qV, qF, qL, qN, qG, qC, qM, reduceIte, seval, Int.cast_ofNat_Int, qY, qZ, wP, gPick, d2]))
        obtain ⟨z0, is', ds', z1, z2⟩ := skip hno h10 (s49.trans s10)
        exact ⟨_, (a3, (dL M q l is).length, c3), z1, (by simp only [List.forall_mem_cons, List.not_mem_nil, false_implies, implies_true, List.map, List.cons_append, List.nil_append, lk, Nat.reduceEqDiff, reduceIte, and_true, true_and]), z0, is', ds', rfl, z2⟩
      have d2 : decide (Lib.compareBytes (jF kb.data.toList) (jF q.id) > 0) = true := decide_eq_true hgt
      have hyes : jY M q kb.data.toList = some ((kb.data.toList, key'), ep) := by unfold jY; rw [hA]; simp only; rw [if_pos ⟨hf, fun _ => hgt⟩]
      refine qS ?_; repeat' (first | (with_reducible first | apply qH | apply qB) | ((first | (with_reducible apply qR) | (with_reducible first | apply qA | apply qP | apply qD | apply qE | apply qK) | ((with_reducible first | apply qQ | apply qI | apply qJ) <;> intro hb <;> (try simp only [hb]) <;> (try simp only [zF] at hb))) <;> try simp only [qV, qF, qL, qN, qG, qC, qM, reduceIte, seval, Int.cast_ofNat_Int, qY, qZ, wP, gPick, d2, zI m910 yY rfl]))
      refine fH tK rfl rfl (by decide) (by decide) rfl fun k12 h12 b12 s12' f12 n12 => ?_
      have s412 := (s6'.trans s7).trans ((s9.trans s10).trans s12')
      refine qS ?_; repeat' (first | (with_reducible first | apply qH | apply qB) | ((first | (with_reducible apply qR) | (with_reducible first | apply qA | apply qP | apply qD | apply qE | apply qK) | ((with_reducible first | apply qQ | apply qI | apply qJ) <;> intro hb <;> (try simp only [hb]) <;> (try simp only [zF] at hb))) <;> try simp only [qV, qF, qL, qN, qG, qC, qM, reduceIte, seval, Int.cast_ofNat_Int, qY, qZ, wP]))
      refine wJ tK Try.underlying68 rfl (s4.trans s412) (o4.hs s412) b12 rfl rfl (by omega) (by simp only [maxLen]; omega) fun v13 h13 s13 fr13 o13 => ?_
      obtain ⟨a13, c13, rfl⟩ := o13.form
      refine qS ?_; repeat' (first | (with_reducible first | apply qH | apply qB) | ((first | (with_reducible apply qR) | (with_reducible first | apply qA | apply qP | apply qD | apply qE | apply qK) | ((with_reducible first | apply qQ | apply qI | apply qJ) <;> intro hb <;> (try simp only [hb]) <;> (try simp only [zF] at hb))) <;> try simp only [qV, qF, qL, qN, qG, qC, qM, reduceIte, seval, Int.cast_ofNat_Int, qY, qZ, wP]))
      have e := hch _ hyes
      have m12 := s412 _ _ mm4
      have keep : ∀ {q : List Value} {ee : Itm}, It h12 q ee → It h13 q ee := fun {q ee} w => by
        obtain ⟨a, c, b, d, e, r1, r2⟩ := w
        exact ⟨a, c, b, d, e, jW fr13 u3 r1, jW fr13 u3 r2⟩
      refine ⟨_, (a13, (dL M q l is).length + 1, c13), ?_, (by simp only [List.forall_mem_cons, List.not_mem_nil, false_implies, implies_true, List.map, List.cons_append, List.nil_append, lk, Nat.reduceEqDiff, reduceIte, and_true, true_and]), s13, is ++ [z], _, rfl, nd', lt', tV fr13 m12 (by simp), by rw [e, List.length_append]; exact o13, by rw [List.all_append, u3]; rfl, by rw [List.all_append, ic3]; rfl, ?_⟩
      · rw [List.length_append, List.length_singleton]; omega
      · rw [e]
        refine dX (R := It h13) o3.len rfl (fun i x hx => keep (fr45 s412 (r3 i x hx))) (keep ⟨a7, c7, b7, d7, rfl, (r7.hs (s9.trans s10)).hs s12', (r8.hs (s9.trans s10)).hs s12'⟩)
theorem kQ : type_of% (And.intro wT (And.intro wN (And.intro yX (And.intro yB (And.intro yW (And.intro yV (And.intro vQ (And.intro yL (And.intro wZ (And.intro uP (And.intro yK qH3))))))))))) := And.intro wT (And.intro wN (And.intro yX (And.intro yB (And.intro yW (And.intro yV (And.intro vQ (And.intro yL (And.intro wZ (And.intro uP (And.intro yK qH3))))))))))
def fJ (q : Ak) (L : List Itm) : An := { its := L.take q.lm.toNat, more := decide (q.lm.toNat < L.length) }
theorem c_DoDiff (N : Nat) {h0 h : GH} {k j : Nat} {p : Pm} {ew : Value} {cs l : List Value} {M : List (Int × List Bnd)} {ck : Int} {n : Nat} (x : IM h0 h k j p ew cs l M ck n) {a : Option Addr} {c : Nat} (q : Ak) (hk : q.kd = 6) (r : RB h (.slice a q.id.length c) q.id) (hid : q.id.length ≤ 140737488355328)
    {c4 c6 c7 c9 : Value} (hc : [c4, c6, c7, c9].all zA = true) :
    GTri Try.prog N 32 [.pointer (some ⟨k, 0, none⟩), .agg #[.int .i64 q.kd, .slice a q.id.length c, .int .i64 q.fr, .int .i64 q.to, c4, .bool q.sm, c6, c7, .int .i64 q.lm, c9]] h fun v h' =>
      (xQ true true p M.length q ≠ 0 ∧ RAn h' v { code := xQ true true p M.length q } ∨ xQ true true p M.length q = 0 ∧ ∃ L, Diff M q L ∧ RAn h' v (fJ q L)) ∧ HS h h' := by
  have hc3 : [Value.int .i64 q.kd, c4, c6, c7, c9].all zA = true := by simpa [zA] using hc
  have hc4 : [c4, .bool q.sm, c6, c7, c9].all zA = true := by simpa [zA] using hc
  have hr : kA q.kd = true := by rw [hk]; rfl
  have hg : kY q.kd = true := by rw [hk]; rfl
  have hpg := p.may_iff.1 x.may
  have e1 : (q.kd == 1) = false := by rw [hk]; rfl
  have e2 : (q.kd == 2) = false := by rw [hk]; rfl
  have e8 : (q.kd == 8) = false := by rw [hk]; rfl
  have e9 : (q.kd == 9) = false := by rw [hk]; rfl
  have e3 : (q.kd == 3) = false := by rw [hk]; rfl
  have e4 : (q.kd == 4) = false := by rw [hk]; rfl
  have e5 : (q.kd == 5) = false := by rw [hk]; rfl
  have e6 : (q.kd == 6) = true := by rw [hk]; rfl
  refine wQ Try.func32 rfl qL2 qK5 (by simp [Try.ntmps32]) ?_
  repeat' (first | (with_reducible first | apply qH | apply qB) | ((first | (with_reducible first | apply qA | apply qP | apply qD | apply qE | apply qK) | ((with_reducible first | apply qQ | apply qI | apply qJ) <;> intro hb <;> (try simp only [hb]) <;> (try simp only [zF] at hb))) <;> try simp only [qV, qF, qL, qN, qG, qC, qM, reduceIte, seval, Int.cast_ofNat_Int, qY, qZ, kQ]))
  refine wY (by simpa [zA] using hc) fun k1 h1 m1 s1 f1 n1 => ?_
  refine qS ?_; repeat' (first | (with_reducible first | apply qH | apply qB) | ((first | (with_reducible apply qR) | (with_reducible first | apply qA | apply qP | apply qD | apply qE | apply qK) | ((with_reducible first | apply qQ | apply qI | apply qJ) <;> intro hb <;> (try simp only [hb]) <;> (try simp only [zF] at hb))) <;> try simp only [qV, qF, qL, qN, qG, qC, qM, reduceIte, seval, Int.cast_ofNat_Int, qY, qZ, kQ]))
  refine xW fun k2 h2 m2 s2 f2 n2 => ?_
  replace m1 := s2 _ _ m1
  have s12 := s1.trans s2
  have x2 := x.hs s12
  have n2' := s1.none_of n2
  refine qS ?_; repeat' (first | (with_reducible first | apply qH | apply qB) | ((first | (with_reducible apply qR) | (with_reducible first | apply qA | apply qP | apply qD | apply qE | apply qK) | ((with_reducible first | apply qQ | apply qI | apply qJ) <;> intro hb <;> (try simp only [hb]) <;> (try simp only [zF] at hb)) | ((refine GTri.mono (yU _ x2) ?_); rintro _ _ ⟨rfl, hh9⟩; replace hh9 := hh9.symm; subst hh9)) <;> try simp only [qV, qF, qL, qN, qG, qC, qM, reduceIte, seval, Int.cast_ofNat_Int, qY, qZ, kQ, List.map_toArray, List.map_cons, List.map_nil, qT m1 wL, e1, e2, e8, e9, e3, e4, e5, e6, zI m1 uO rfl]))
  refine (sS N x2 q hid hc4).mono ?_
  rintro _ h3 ⟨rfl, s3⟩
  rw [hr, hg]
  have m23 := s3 _ _ m2
  by_cases hw : xQ true true p M.length q = 0
  case neg =>
    have dw : (xQ true true p M.length q != 0) = true := by simpa using hw
    refine qS ?_; repeat' (first | (with_reducible first | apply qH | apply qB) | ((first | (with_reducible apply qR) | (with_reducible first | apply qA | apply qP | apply qD | apply qE | apply qK) | ((with_reducible first | apply qQ | apply qI | apply qJ) <;> intro hb <;> (try simp only [hb]) <;> (try simp only [zF] at hb))) <;> try simp only [qV, qF, qL, qN, qG, qC, qM, reduceIte, seval, Int.cast_ofNat_Int, qY, qZ, kQ, dw, xL, xT, vB, Shape.pl, List.all_cons, List.all_nil, zA]))
    refine zM m23 xG rfl (by decide) rfl rfl rfl fun h4 m4 f4 => ?_
    refine qS ?_; repeat' (first | (with_reducible first | apply qH | apply qB) | ((first | (with_reducible apply qR) | (with_reducible first | apply qA | apply qP | apply qD | apply qE | apply qK) | ((with_reducible first | apply qQ | apply qI | apply qJ) <;> intro hb <;> (try simp only [hb]) <;> (try simp only [zF] at hb))) <;> try simp only [qV, qF, qL, qN, qG, qC, qM, reduceIte, seval, Int.cast_ofNat_Int, qY, qZ, kQ, zI m4 xG rfl]))
    exact ⟨.inl ⟨hw, RAn.zero h4 _ 0⟩, (s12.trans s3).upd n2' f4⟩
  obtain ⟨w1, w2, w3, w4, w5⟩ := wrong0 hw
  have dw : (xQ true true p M.length q != 0) = false := by simpa using hw
  have s03 := s12.trans s3
  refine qS ?_; repeat' (first | (with_reducible first | apply qH | apply qB) | ((first | (with_reducible apply qR) | (with_reducible first | apply qA | apply qP | apply qD | apply qE | apply qK) | ((with_reducible first | apply qQ | apply qI | apply qJ) <;> intro hb <;> (try simp only [hb]) <;> (try simp only [zF] at hb))) <;> try simp only [qV, qF, qL, qN, qG, qC, qM, reduceIte, seval, Int.cast_ofNat_Int, qY, qZ, kQ, dw, zI (s3 _ _ m1) uO rfl]))
  refine (c_diff N (x.hs s03) q (r.hs s03) (by omega) (by omega) hc3).mono ?_
  rintro v4 h4 ⟨⟨L, D, r4⟩, s4⟩
  have r4' : RAn h4 v4 (fJ q L) := r4
  obtain ⟨a4, b4, c4', d4, e4, f4', rfl, _⟩ := r4
  refine qS ?_; repeat' (first | (with_reducible first | apply qH | apply qB) | ((first | (with_reducible apply qR) | (with_reducible first | apply qA | apply qP | apply qD | apply qE | apply qK) | ((with_reducible first | apply qQ | apply qI | apply qJ) <;> intro hb <;> (try simp only [hb]) <;> (try simp only [zF] at hb))) <;> try simp only [qV, qF, qL, qN, qG, qC, qM, reduceIte, seval, Int.cast_ofNat_Int, qY, qZ, kQ]))
  refine zM (s4 _ _ m23) xG rfl (by decide) rfl rfl rfl fun h5 m5 f5 => ?_
  refine qS ?_; repeat' (first | (with_reducible first | apply qH | apply qB) | ((first | (with_reducible apply qR) | (with_reducible first | apply qA | apply qP | apply qD | apply qE | apply qK) | ((with_reducible first | apply qQ | apply qI | apply qJ) <;> intro hb <;> (try simp only [hb]) <;> (try simp only [zF] at hb))) <;> try simp only [qV, qF, qL, qN, qG, qC, qM, reduceIte, seval, Int.cast_ofNat_Int, qY, qZ, kQ, zI m5 xG rfl]))
  exact ⟨.inr ⟨hw, L, D, r4'.hxv (s4 _ _ m23) ⟨rfl, rfl⟩ rfl fun j B n e => (f5 j n).trans e⟩, (s03.trans s4).upd n2' f5⟩
theorem idO_irr (x : List UInt8) : ¬ idO x x < 0 := by have := tc_id.anti x x; omega
theorem Diff.nodup {M : List (Int × List Bnd)} {q : Ak} {L : List Itm} (x : Diff M q L) : (L.map (·.1.1)).Nodup := by
  unfold List.Nodup
  rw [List.pairwise_map]
  refine List.Pairwise.imp ?_ x.ord
  intro a b hab e
  rw [e] at hab
  exact idO_irr _ hab
theorem evA_mem {M : List (Int × List Bnd)} {e i : Nat} : ∀ {c s : Nat}, s ≤ e → e < s + c → i < (jI M e).length → (e, i, vI (jI M e) i) ∈ gL M s c := fun {c s} h1 h2 h3 => by
  unfold gL
  rw [List.mem_flatMap]
  refine ⟨e - s, List.mem_range.2 (by omega), ?_⟩
  rw [show s + (e - s) = e by omega]
  exact List.mem_of_getElem? (qF2 h3)
theorem Diff.lens {M : List (Int × List Bnd)} {q : Ak} {L : List Itm} (x : Diff M q L) : L.length ≤ gZ (M.map (·.2)) := by
  have hall : (gL M 0 M.length).length ≤ gZ (M.map (·.2)) := by
    have := qM7 M M.length 0 (by omega)
    rwa [List.drop_zero] at this
  have hch : ∀ id : List UInt8, ∃ g : Nat, id ∈ L.map (·.1.1) → ∃ v, (gL M 0 M.length)[g]? = some v ∧ v.2.2.1 = id := fun id => by
    by_cases h : id ∈ L.map (·.1.1)
    · obtain ⟨z, hz, rfl⟩ := List.mem_map.1 h
      obtain ⟨_, hat⟩ := x.len z hz
      obtain ⟨pp, hp, _, _⟩ := mN hat
      obtain ⟨_, hl, b, hb, hi, hid⟩ := jS hp
      rw [Nat.sub_zero, List.getElem?_map] at hb
      obtain ⟨y, hy, rfl⟩ := Option.map_eq_some_iff.1 hb
      have hbo := uJ hy
      rw [Nat.zero_add, List.length_map] at hl
      have hm := evA_mem (M := M) (e := pp.1) (i := pp.2) (s := 0) (c := M.length) (Nat.zero_le _) (by omega) (by rw [hbo]; exact hi)
      obtain ⟨g, hg⟩ := List.mem_iff_getElem?.1 hm
      exact ⟨g, fun _ => ⟨_, hg, by rw [hbo]; exact hid⟩⟩
    · exact ⟨0, fun q => absurd q h⟩
  obtain ⟨g, hg⟩ := Classical.axiomOfChoice hch
  have nd : ((L.map (·.1.1)).map g).Nodup := by
    unfold List.Nodup
    rw [List.pairwise_map]
    refine List.Pairwise.imp_of_mem ?_ x.nodup
    intro a b ha hb hne e
    obtain ⟨v, h1, h2⟩ := hg a ha
    obtain ⟨w, h3, h4⟩ := hg b hb
    rw [e, h3] at h1
    cases h1
    exact hne (h2.symm.trans h4)
  have := gQ (gL M 0 M.length).length _ nd fun q hq => by
    obtain ⟨id, hid, rfl⟩ := List.mem_map.1 hq
    obtain ⟨v, h1, _⟩ := hg id hid
    exact (List.getElem?_eq_some_iff.1 h1).1
  rw [List.length_map, List.length_map] at this
  omega
def Its (h0 h : GH) (v : Value) (L : List Itm) : Prop := ∃ ds, OWNC 3 h0 h v L.length ds ∧ ds.all wX = true ∧ ∀ (i : Nat) x, L[i]? = some x → It h ((ds.drop (i * 3)).take 3) x
theorem Its.hs {h0 h h' : GH} {v : Value} {L : List Itm} (x : Its h0 h v L) (s : HS h h') : Its h0 h' v L := by
  obtain ⟨ds, o, u, r⟩ := x
  exact ⟨ds, o.hs s, u, fun i p hp => (r i p hp).hs s⟩
theorem Its.rl {h0 h : GH} {v : Value} {L : List Itm} (x : Its h0 h v L) : RL 3 It h v L := by
  obtain ⟨ds, o, u, r⟩ := x
  exact o.rl r
theorem qE9 : type_of% (And.intro uN (And.intro wZ rs114)) := And.intro uN (And.intro wZ rs114)
theorem vV : type_of% (And.intro uN (And.intro wZ (And.intro uP rs137))) := And.intro uN (And.intro wZ (And.intro uP rs137))
theorem c_Bwd (N : Nat) (h : GH) (a : Option Addr) (n c : Nat) : GTri Try.prog N 114 [.slice a n c] h fun u h' => (∃ kb, u = .func (.func 137) #[] #[.pointer (some ⟨kb, 0, none⟩)] ∧ h' kb = some ⟨[.slice a n c], 0, true, false⟩ ∧ h kb = none) ∧ HS h h' := by
  refine wQ Try.func114 rfl gf114 ok114 (by simp [Try.ntmps114]) ?_
  repeat' (first | (with_reducible first | apply qH | apply qB) | ((first | (with_reducible first | apply qA | apply qP | apply qD | apply qE | apply qK) | ((with_reducible first | apply qQ | apply qI | apply qJ) <;> intro hb <;> (try simp only [hb]) <;> (try simp only [zF] at hb))) <;> try simp only [qV, qF, qL, qN, qG, qC, qM, reduceIte, seval, Int.cast_ofNat_Int, qY, qZ, qE9]))
  refine wY rfl fun k1 h1 m1 s1 f1 n1 => ?_
  refine qS ?_; repeat' (first | (with_reducible first | apply qH | apply qB) | ((first | (with_reducible apply qR) | (with_reducible first | apply qA | apply qP | apply qD | apply qE | apply qK) | ((with_reducible first | apply qQ | apply qI | apply qJ) <;> intro hb <;> (try simp only [hb]) <;> (try simp only [zF] at hb))) <;> try simp only [qV, qF, qL, qN, qG, qC, qM, reduceIte, seval, Int.cast_ofNat_Int, qY, qZ, qE9, List.map_toArray, List.map_cons, List.map_nil]))
  exact ⟨⟨k1, rfl, m1, n1⟩, s1⟩
theorem c_bwd1 (N l : Nat) (r : LRec) {h : GH} {kb : Nat} {a : Option Addr} {c : Nat} {s : List (Nat × Nat)} (hs : s.length ≤ 1000000) (I : Nat → GH → Prop) (h0 : I s.length h)
    (hb : ∀ i h', I i h' → h' kb = some ⟨[.slice a s.length c], 0, true, false⟩ ∧ RL 1 Ep1 h' (.slice a s.length c) s)
    (y : ∀ i h', i < s.length → I (i + 1) h' → YTri Try.prog N l r [.int .i64 (i : Int), .int .i64 (((s[i]?).getD (0, 0)).1 : Int)] h' (I i)) :
    GTrio l r Try.prog N 137 [.func (.yield l) #[] #[], .pointer (some ⟨kb, 0, none⟩)] h (I 0) := by
  refine gtrio Try.func137 rfl gf137 ok137 rs137 (by simp [Try.ntmps137]) ?_
  obtain ⟨m0, r0⟩ := hb _ _ h0
  have w0 : IntKind.i64.wrap ((s.length : Int) - 1) = (s.length : Int) - 1 := by rw [wrap64 (by omega) (by omega)]
  simp only [qV, qF, qL, qN, qG, qC, qM, reduceIte, seval, Int.cast_ofNat_Int, qY, qZ, vV]
  refine pT ?_
  refine mX (qA ?_)
  simp only [qV, qF, qL, qN, qG, qC, qM, reduceIte, seval, Int.cast_ofNat_Int, qY, qZ, vV, qT m0 kV, w0, List.getElem?_cons_zero, List.getElem?_cons_succ]
  refine qJ2 ?_
  refine gwo_loop (fun m e' h' => m ≤ s.length ∧ e' = [(0, .func (.yield l) #[] #[]), (1, .pointer (some ⟨kb, 0, none⟩)), (3, .int .i64 ((m : Int) - 1))] ∧ I m h') s.length
    (e0 := [(0, .func (.yield l) #[] #[]), (1, .pointer (some ⟨kb, 0, none⟩)), (3, .int .i64 ((s.length : Int) - 1))]) ?_ ⟨Nat.le_refl _, rfl, h0⟩ ?_
  · exact (qK2 (by simp only [List.forall_mem_cons, List.not_mem_nil, false_implies, implies_true, lk, Nat.reduceEqDiff, reduceIte, and_true, true_and]))
  rintro m e' h' ⟨hm, rfl, hI⟩
  obtain ⟨m1, r1⟩ := hb _ _ hI
  refine pT ?_
  refine pT ?_
  refine mX (qA ?_)
  by_cases hm0 : m = 0
  · have d : decide ((m : Int) - 1 ≥ 0) = false := decide_eq_false (by omega)
    simp only [qV, qF, qL, qN, qG, qC, qM, reduceIte, seval, Int.cast_ofNat_Int, qY, qZ, vV, d]
    refine qU3 ?_
    simp only [qV, qF, qL, qN, qG, qC, qM, reduceIte, seval, Int.cast_ofNat_Int, qY, qZ, vV, gif_f]
    refine mX (qE ?_)
    simp only [qV, qF, qL, qN, qG, qC, qM, reduceIte, seval, Int.cast_ofNat_Int, qY, qZ, vV]
    subst hm0
    exact ⟨.inl trivial, hI⟩
  obtain ⟨i, rfl⟩ : ∃ i, m = i + 1 := ⟨m - 1, by omega⟩
  have e1 : ((i + 1 : Nat) : Int) - 1 = (i : Int) := by omega
  rw [e1]
  have d : decide ((i : Int) ≥ 0) = true := decide_eq_true (by omega)
  simp only [qV, qF, qL, qN, qG, qC, qM, reduceIte, seval, Int.cast_ofNat_Int, qY, qZ, vV, d]
  refine qU3 ?_
  simp only [qV, qF, qL, qN, qG, qC, qM, reduceIte, seval, Int.cast_ofNat_Int, qY, qZ, vV, gif_t]
  refine mX (qD ?_)
  simp only [qV, qF, qL, qN, qG, qC, qM, reduceIte, seval, Int.cast_ofNat_Int, qY, qZ, vV]
  refine pT ?_
  refine qJ2 ?_
  refine pT ?_
  obtain ⟨x, hx⟩ := vC (show i < s.length by omega)
  obtain ⟨ad, cs2, g1, g2, g3⟩ := r1.at (P := Try.prog) Try.underlying83 wL hx
  unfold Ep1 at g3
  subst g3
  have l4 : xM Try.prog 3 h' (.pointer (some ad)) = some (.int .i64 x.1) := by simp only [xM, wL, g2]; rfl
  refine gro_of ?_
  refine gro_cut 6 ?_
  simp only [qV, qF, qL, qN, qG, qC, qM, reduceIte, seval, Int.cast_ofNat_Int, qY, qZ, vV, qT m1 kV, g1, l4, List.getElem?_cons_zero, List.getElem?_cons_succ, List.drop_succ_cons, List.drop_zero, List.take_succ_cons, List.take_zero]
  refine zD0 rfl ?_
  simp only [qV, qF, qL, qN, qG, qC, qM, reduceIte, seval, Int.cast_ofNat_Int, qY, qZ, vV]
  have yy := y i h' (by omega) hI
  rw [hx] at yy
  simp only [Option.getD_some] at yy
  intro hG φ w args' sm hv hlo
  obtain ⟨fn, tmps, assign, body, q1, q2⟩ := yy hG φ w args' sm hv hlo
  refine ⟨fn, tmps, assign, body, q1, q2.mono ?_⟩
  rintro e w' ⟨φ', h2, p1, p2, p3, p4, p5⟩
  refine ⟨φ', h2, p1, p2, p3, p4, ?_⟩
  refine gro_end ?_
  simp only [qV, qF, qL, qN, qG, qC, qM, reduceIte, seval, Int.cast_ofNat_Int, qY, qZ, vV, yM]
  refine qU3 ?_
  simp only [qV, qF, qL, qN, qG, qC, qM, reduceIte, seval, Int.cast_ofNat_Int, qY, qZ, vV, gif_f, Bool.not_true]
  refine mX (qD ?_)
  simp only [qV, qF, qL, qN, qG, qC, qM, reduceIte, seval, Int.cast_ofNat_Int, qY, qZ, vV]
  refine mX (qA ?_)
  have w1 : IntKind.i64.wrap ((i : Int) - 1) = (i : Int) - 1 := by rw [wrap64 (by omega) (by omega)]
  simp only [qV, qF, qL, qN, qG, qC, qM, reduceIte, seval, Int.cast_ofNat_Int, qY, qZ, vV, w1]
  exact ⟨i, _, by omega, (qK2 (by simp only [List.forall_mem_cons, List.not_mem_nil, false_implies, implies_true, lk, Nat.reduceEqDiff, reduceIte, and_true, true_and])), by omega, rfl, p5⟩
theorem vT : type_of% (And.intro Try.underlying89 (And.intro wT (And.intro wN (And.intro yX (And.intro yB (And.intro uN (And.intro jA (And.intro yW (And.intro wM (And.intro yV (And.intro vQ (And.intro gH (And.intro yL (And.intro wZ (And.intro uP (And.intro jV (And.intro yK (And.intro jJ (And.intro lU rs77))))))))))))))))))) := And.intro Try.underlying89 (And.intro wT (And.intro wN (And.intro yX (And.intro yB (And.intro uN (And.intro jA (And.intro yW (And.intro wM (And.intro yV (And.intro vQ (And.intro gH (And.intro yL (And.intro wZ (And.intro uP (And.intro jV (And.intro yK (And.intro jJ (And.intro lU rs77))))))))))))))))))
def xS : Nat → List (Nat × List Nat) × List Nat
  | 2 => ([(0, []), (1, []), (2, []), (3, []), (4, []), (5, []), (6, []), (7, []), (8, [])], [0, 1, 3, 7, 0, 16, 48, 127, 255])
  | 8 => ([(0, []), (1, []), (2, []), (3, []), (4, []), (5, []), (6, []), (7, []), (8, []), (9, [])], [0, 0, 0, 7, 0, 0, 32, 112, 255, 511])
  | _ => ([], [])
def qB2 (q : Ak) (p : Nat × Nat) : Bool := decide ((p.1 : Int) > q.fr) && decide ((p.1 : Int) ≤ q.to)
def vit (M : List (Int × List Bnd)) (id : List UInt8) (p : Nat × Nat) : Itm := ((id, rC (jI M p.1) id), p.1)
def sU (M : List (Int × List Bnd)) (q : Ak) (s : List (Nat × Nat)) (i : Nat) : List Itm := (((s.drop i).filter (qB2 q)).reverse).map (vit M q.id)
def fU (M : List (Int × List Bnd)) (q : Ak) : List Itm := sU M q (uZ 0 (M.map (·.2)) q.id) 0
theorem qB3 (M : List (Int × List Bnd)) (q : Ak) (s : List (Nat × Nat)) (i : Nat) : (sU M q s i).length ≤ s.length - i := by
  unfold sU
  rw [List.length_map, List.length_reverse]
  refine Nat.le_trans (List.length_filter_le _ _) ?_
  rw [List.length_drop]; exact Nat.le_refl _
theorem zB8 (M : List (Int × List Bnd)) (q : Ak) {s : List (Nat × Nat)} {i : Nat} {p : Nat × Nat} (h : s[i]? = some p) : sU M q s i = sU M q s (i + 1) ++ (if qB2 q p = true then [vit M q.id p] else []) := by
  unfold sU
  have : s.drop i = p :: s.drop (i + 1) := by
    have h1 := List.getElem?_eq_some_iff.1 h
    rw [List.drop_eq_getElem_cons h1.1, h1.2]
  rw [this, List.filter_cons]
  by_cases hv : qB2 q p = true
  · rw [if_pos hv, if_pos hv, List.reverse_cons, List.map_append]; rfl
  · rw [if_neg hv, if_neg hv, List.append_nil]
theorem atI_at {M : List (Int × List Bnd)} {id : List UInt8} {p : Nat × Nat} (h : p ∈ uZ 0 (M.map (·.2)) id) : dY M id (p.1 : Int) = some (rC (jI M p.1) id, p.1) := by
  unfold dY
  rw [qX5 (sD id _ 0) h (Int.le_refl _) fun q _ hq => by omega]
  rfl
def VInv (hb : GH) (k5 : Nat) (L : Nat → List Itm) (i : Nat) (h' : GH) : Prop := HS hb h' ∧ ∃ a5 c5, h' k5 = some ⟨[.slice a5 (L i).length c5], 0, true, false⟩ ∧ Its hb h' (.slice a5 (L i).length c5) (L i)
theorem qW7 (N : Nat) {h0 h : GH} {k j : Nat} {p : Pm} {ew : Value} {cs l : List Value} {M : List (Int × List Bnd)} {ck : Int} {n : Nat} (x : IM h0 h k j p ew cs l M ck n) {a : Option Addr} {c : Nat} (q : Ak) (r : RB h (.slice a q.id.length c) q.id) (hid : q.id.length ≤ 140737488355328) (hl0 : 0 ≤ q.lm) (hl1 : q.lm ≤ 100000)
    {c0 c4 c5 c6 c7 c9 : Value} (hc : [c0, c4, c5, c6, c7, c9].all zA = true) :
    GTri Try.prog N 77 [.pointer (some ⟨k, 0, none⟩), .agg #[c0, .slice a q.id.length c, .int .i64 q.fr, .int .i64 q.to, c4, c5, c6, c7, .int .i64 q.lm, c9]] h fun v h' =>
      RAn h' v (fJ q (fU M q)) ∧ HS h h' := by
  have hn4 := x.n4
  have hsl := sG q.id (M.map (·.2)) 0
  rw [← x.tt] at hsl
  refine wQ Try.func77 rfl gf77 ok77 (by simp [Try.ntmps77]) ?_
  repeat' (first | (with_reducible first | apply qH | apply qB) | ((first | (with_reducible first | apply qA | apply qP | apply qD | apply qE | apply qK) | ((with_reducible first | apply qQ | apply qI | apply qJ | apply qW | apply qX) <;> intro hb <;> (try simp only [hb]) <;> (try simp only [zF] at hb)) | with_reducible refine qO xS mixed (by kernel_rfl) ?_) <;> try simp only [qV, qF, qL, qN, qG, qC, qM, reduceIte, seval, Int.cast_ofNat_Int, qY, qZ, qU, zR, zT, zU, vT, xS]))
  refine wY rfl fun k2 h2 m2 s2 f2 n2 => ?_
  refine qS ?_; repeat' (first | (with_reducible first | apply qH | apply qB) | ((first | (with_reducible apply qR) | (with_reducible first | apply qA | apply qP | apply qD | apply qE | apply qK) | ((with_reducible first | apply qQ | apply qI | apply qJ | apply qW | apply qX) <;> intro hb <;> (try simp only [hb]) <;> (try simp only [zF] at hb)) | with_reducible refine qO xS mixed (by kernel_rfl) ?_) <;> try simp only [qV, qF, qL, qN, qG, qC, qM, reduceIte, seval, Int.cast_ofNat_Int, qY, qZ, qU, zR, zT, zU, vT, xS]))
  refine wY (by simpa [zA] using hc) fun k3 h3 m3 s3 f3 n3 => ?_
  refine qS ?_; repeat' (first | (with_reducible first | apply qH | apply qB) | ((first | (with_reducible apply qR) | (with_reducible first | apply qA | apply qP | apply qD | apply qE | apply qK) | ((with_reducible first | apply qQ | apply qI | apply qJ | apply qW | apply qX) <;> intro hb <;> (try simp only [hb]) <;> (try simp only [zF] at hb)) | with_reducible refine qO xS mixed (by kernel_rfl) ?_) <;> try simp only [qV, qF, qL, qN, qG, qC, qM, reduceIte, seval, Int.cast_ofNat_Int, qY, qZ, qU, zR, zT, zU, vT, xS]))
  refine xW fun k4 h4 m4 s4 f4 n4 => ?_
  refine qS ?_; repeat' (first | (with_reducible first | apply qH | apply qB) | ((first | (with_reducible apply qR) | (with_reducible first | apply qA | apply qP | apply qD | apply qE | apply qK) | ((with_reducible first | apply qQ | apply qI | apply qJ | apply qW | apply qX) <;> intro hb <;> (try simp only [hb]) <;> (try simp only [zF] at hb)) | with_reducible refine qO xS mixed (by kernel_rfl) ?_) <;> try simp only [qV, qF, qL, qN, qG, qC, qM, reduceIte, seval, Int.cast_ofNat_Int, qY, qZ, qU, zR, zT, zU, vT, xS]))
  refine xW fun k5 h5 m5 s5 f5 n5 => ?_
  have k25 : k2 ≠ k5 := qY4 (s4 _ _ (s3 _ _ m2)) n5
  have k35 : k3 ≠ k5 := qY4 (s4 _ _ m3) n5
  have k45 : k4 ≠ k5 := qY4 m4 n5
  replace m2 := s5 _ _ (s4 _ _ (s3 _ _ m2))
  replace m3 := s5 _ _ (s4 _ _ m3)
  replace m4 := s5 _ _ m4
  have s15 := ((s2.trans s3).trans s4).trans s5
  have x5 := x.hs s15
  have cv := (r.hs s15).conv Try.underlying24 Try.underlying5 Try.underlying9
  have lk5 := x5.look q.id
  obtain ⟨av, cv', emg⟩ := (x5.sp q.id).form
  rw [emg] at lk5
  have n5h : h k5 = none := (s2.trans s3).trans s4 |>.none_of n5
  have n4h : h k4 = none := (s2.trans s3).none_of n4
  refine qS ?_; repeat' (first | (with_reducible first | apply qH | apply qB) | ((first | (with_reducible apply qR) | (with_reducible first | apply qA | apply qP | apply qD | apply qE | apply qK) | ((with_reducible first | apply qQ | apply qI | apply qJ | apply qW | apply qX) <;> intro hb <;> (try simp only [hb]) <;> (try simp only [zF] at hb)) | with_reducible refine qO xS mixed (by kernel_rfl) ?_) <;> try simp only [qV, qF, qL, qN, qG, qC, qM, reduceIte, seval, Int.cast_ofNat_Int, qY, qZ, qU, zR, zT, zU, vT, xS, qT m2 sz63, qT m3 wK, gNil, qT x5.obj pA, cv, lk5]))
  refine (c_Bwd N h5 av (uZ 0 (M.map (·.2)) q.id).length cv').mono ?_
  rintro _ h6 ⟨⟨kb, rfl, mb, nb⟩, s6⟩
  have x6 := x5.hs s6
  have m26 := s6 _ _ m2
  have m36 := s6 _ _ m3
  have m46 := s6 _ _ m4
  have m56 := s6 _ _ m5
  have s16 := s15.trans s6
  have k5k : k5 ≠ k := fun z => by subst z; rw [x.obj] at n5h; cases n5h
  have k5j : k5 ≠ j + 1 := fun z => by subst z; rw [x.mp] at n5h; cases n5h
  have kb5 : kb ≠ k5 := (qY4 m5 nb).symm
  have sb : HS h (tI k5 h6) := qA7 s16 n5h
  have xb : IM h0 (tI k5 h6) k j p ew cs l M ck n := x6.oth m56 rfl rfl (sJ h6) k5k k5j
  have hbn : tI k5 h6 k5 = none := hide_k k5 h6
  have sb6 : HS (tI k5 h6) h6 := qY9 k5 h6
  have b2 := (sJ h6 _ k25).trans m26
  have b3 := (sJ h6 _ k35).trans m36
  have b4 := (sJ h6 _ k45).trans m46
  have bb := (sJ h6 _ kb5).trans mb
  generalize tI k5 h6 = hb at sb xb hbn sb6 b2 b3 b4 bb
  have rlS : ∀ {h' : GH}, HS hb h' → RL 1 Ep1 h' (.slice av (uZ 0 (M.map (·.2)) q.id).length cv') (uZ 0 (M.map (·.2)) q.id) := fun {h'} s => by
    have := epc_rl ((xb.hs s).sp q.id)
    rw [emg] at this
    exact this
  refine qS ?_; repeat' (first | (with_reducible first | apply qH | apply qB) | ((first | (with_reducible apply qR) | (with_reducible first | apply qA | apply qP | apply qD | apply qE | apply qK) | ((with_reducible first | apply qQ | apply qI | apply qJ | apply qW | apply qX) <;> intro hb <;> (try simp only [hb]) <;> (try simp only [zF] at hb)) | with_reducible refine qO xS mixed (by kernel_rfl) ?_) <;> try simp only [qV, qF, qL, qN, qG, qC, qM, reduceIte, seval, Int.cast_ofNat_Int, qY, qZ, qU, zR, zT, zU, vT, xS]))
  refine gw_range (gf := 137) (fb := [.pointer (some ⟨kb, 0, none⟩)]) (by simp [lk]) rfl (uZ 0 (M.map (·.2)) q.id).length
    (VInv hb k5 (sU M q (uZ 0 (M.map (·.2)) q.id)))
    (fun i => (.int .i64 (i : Int), .int .i64 ((((uZ 0 (M.map (·.2)) q.id)[i]?).getD (0, 0)).1 : Int))) ?_ (fun l' r' h2' hI y => c_bwd1 N l' r' (by omega) (VInv hb k5 (sU M q (uZ 0 (M.map (·.2)) q.id))) hI (fun i h' hI => ⟨hI.1 _ _ bb, rlS hI.1⟩) y) (fun i hi h7 hI => ?_) (fun h7 hI => ?_)
  · have e0 : sU M q (uZ 0 (M.map (·.2)) q.id) (uZ 0 (M.map (·.2)) q.id).length = [] := by unfold sU; rw [List.drop_length]; rfl
    unfold VInv
    rw [e0]
    exact ⟨sb6, none, 0, m56, [], OWNC.nil _ _ _, rfl, fun i p hp => by simp at hp⟩
  · obtain ⟨s7, a5, c5, m57, ig7⟩ := hI
    obtain ⟨pp, hpp⟩ := vC hi
    have hvs := zB8 M q hpp
    have hvl := qB3 M q (uZ 0 (M.map (·.2)) q.id) (i + 1)
    have hpm := List.mem_of_getElem? hpp
    simp only [hpp, Option.getD_some, yM]
    have b27 := s7 _ _ b2
    have b37 := s7 _ _ b3
    cases hv1 : decide ((pp.1 : Int) > q.fr)
    case false =>
      have hv : qB2 q pp = false := by unfold qB2; rw [hv1]; rfl
      rw [if_neg (by rw [hv]; simp), List.append_nil] at hvs
      refine qS ?_; repeat' (first | (with_reducible first | apply qH | apply qB) | ((first | (with_reducible apply qR) | (with_reducible first | apply qA | apply qP | apply qD | apply qE | apply qK) | ((with_reducible first | apply qQ | apply qI | apply qJ | apply qW | apply qX) <;> intro hb <;> (try simp only [hb]) <;> (try simp only [zF] at hb)) | with_reducible refine qO xS mixed (by kernel_rfl) ?_) <;> try simp only [qV, qF, qL, qN, qG, qC, qM, reduceIte, seval, Int.cast_ofNat_Int, qY, qZ, qU, zR, zT, zU, vT, xS, hv1, gPick, bq_n, qT b37 wL]))
      refine ⟨s7, a5, c5, ?_, ?_⟩
      · rw [hvs]; exact m57
      · rw [hvs]; exact ig7
    cases hv2 : decide ((pp.1 : Int) ≤ q.to)
    case false =>
      have hv : qB2 q pp = false := by unfold qB2; rw [hv2, Bool.and_false]
      rw [if_neg (by rw [hv]; simp), List.append_nil] at hvs
      refine qS ?_; repeat' (first | (with_reducible first | apply qH | apply qB) | ((first | (with_reducible apply qR) | (with_reducible first | apply qA | apply qP | apply qD | apply qE | apply qK) | ((with_reducible first | apply qQ | apply qI | apply qJ | apply qW | apply qX) <;> intro hb <;> (try simp only [hb]) <;> (try simp only [zF] at hb)) | with_reducible refine qO xS mixed (by kernel_rfl) ?_) <;> try simp only [qV, qF, qL, qN, qG, qC, qM, reduceIte, seval, Int.cast_ofNat_Int, qY, qZ, qU, zR, zT, zU, vT, xS, hv1, hv2, gPick, bq_n, qT b37 wL]))
      refine ⟨s7, a5, c5, ?_, ?_⟩
      · rw [hvs]; exact m57
      · rw [hvs]; exact ig7
    have hv : qB2 q pp = true := by unfold qB2; rw [hv1, hv2]; rfl
    rw [if_pos hv] at hvs
    refine qS ?_; repeat' (first | (with_reducible first | apply qH | apply qB) | ((first | (with_reducible apply qR) | (with_reducible first | apply qA | apply qP | apply qD | apply qE | apply qK) | ((with_reducible first | apply qQ | apply qI | apply qJ | apply qW | apply qX) <;> intro hb <;> (try simp only [hb]) <;> (try simp only [zF] at hb)) | with_reducible refine qO xS mixed (by kernel_rfl) ?_) <;> try simp only [qV, qF, qL, qN, qG, qC, qM, reduceIte, seval, Int.cast_ofNat_Int, qY, qZ, qU, zR, zT, zU, vT, xS, hv1, hv2, gPick, qT b37 wL, qT b37 wK, qT b27 sz63]))
    refine (c_iat N (xb.hs s7) ((r.hs sb).hs s7) hid (pp.1 : Int)).mono ?_
    rintro v8 h8 ⟨at8, s8⟩
    rw [atI_at hpm] at at8
    simp only [AtV] at at8
    obtain ⟨a8, c8, d8, e8, rfl, r8, r9⟩ := at8
    refine qS ?_; repeat' (first | (with_reducible first | apply qH | apply qB) | ((first | (with_reducible apply qR) | (with_reducible first | apply qA | apply qP | apply qD | apply qE | apply qK) | ((with_reducible first | apply qQ | apply qI | apply qJ | apply qW | apply qX) <;> intro hb <;> (try simp only [hb]) <;> (try simp only [zF] at hb)) | with_reducible refine qO xS mixed (by kernel_rfl) ?_) <;> try simp only [qV, qF, qL, qN, qG, qC, qM, reduceIte, seval, Int.cast_ofNat_Int, qY, qZ, qU, zR, zT, zU, vT, xS]))
    refine xW fun k9 h9 m9 s9 f9 n9 => ?_
    refine qS ?_; repeat' (first | (with_reducible first | apply qH | apply qB) | ((first | (with_reducible apply qR) | (with_reducible first | apply qA | apply qP | apply qD | apply qE | apply qK) | ((with_reducible first | apply qQ | apply qI | apply qJ | apply qW | apply qX) <;> intro hb <;> (try simp only [hb]) <;> (try simp only [zF] at hb)) | with_reducible refine qO xS mixed (by kernel_rfl) ?_) <;> try simp only [qV, qF, qL, qN, qG, qC, qM, reduceIte, seval, Int.cast_ofNat_Int, qY, qZ, qU, zR, zT, zU, vT, xS]))
    refine zM m9 yY rfl (by decide) rfl rfl rfl fun h10 m10 f10 => ?_
    have s10 : HS h8 h10 := (HS.refl h8).upd n9 (fun j hj => (f10 j hj).trans (f9 j hj))
    have s710 := s8.trans s10
    have m510 := s710 _ _ m57
    refine qS ?_; repeat' (first | (with_reducible first | apply qH | apply qB) | ((first | (with_reducible apply qR) | (with_reducible first | apply qA | apply qP | apply qD | apply qE | apply qK) | ((with_reducible first | apply qQ | apply qI | apply qJ | apply qW | apply qX) <;> intro hb <;> (try simp only [hb]) <;> (try simp only [zF] at hb)) | with_reducible refine qO xS mixed (by kernel_rfl) ?_) <;> try simp only [qV, qF, qL, qN, qG, qC, qM, reduceIte, seval, Int.cast_ofNat_Int, qY, qZ, qU, zR, zT, zU, vT, xS, qT m510 qH1, zI m10 yY rfl]))
    refine fH tK rfl rfl (by decide) (by decide) rfl fun k12 h12 b12 s12 f12 n12 => ?_
    have s712 := s710.trans s12
    obtain ⟨ds, o7, u7, e7⟩ := ig7
    refine qS ?_; repeat' (first | (with_reducible first | apply qH | apply qB) | ((first | (with_reducible apply qR) | (with_reducible first | apply qA | apply qP | apply qD | apply qE | apply qK) | ((with_reducible first | apply qQ | apply qI | apply qJ | apply qW | apply qX) <;> intro hb <;> (try simp only [hb]) <;> (try simp only [zF] at hb)) | with_reducible refine qO xS mixed (by kernel_rfl) ?_) <;> try simp only [qV, qF, qL, qN, qG, qC, qM, reduceIte, seval, Int.cast_ofNat_Int, qY, qZ, qU, zR, zT, zU, vT, xS]))
    refine wJ tK Try.underlying68 rfl (s7.trans s712) (o7.hs s712) b12 rfl rfl (by omega) (by simp only [maxLen]; omega) fun v13 h13 s13 fr13 o13 => ?_
    obtain ⟨a13, c13, rfl⟩ := o13.form
    have m513 := tV fr13 (s712 _ _ m57) (by simp)
    refine qS ?_; repeat' (first | (with_reducible first | apply qH | apply qB) | ((first | (with_reducible apply qR) | (with_reducible first | apply qA | apply qP | apply qD | apply qE | apply qK) | ((with_reducible first | apply qQ | apply qI | apply qJ | apply qW | apply qX) <;> intro hb <;> (try simp only [hb]) <;> (try simp only [zF] at hb)) | with_reducible refine qO xS mixed (by kernel_rfl) ?_) <;> try simp only [qV, qF, qL, qN, qG, qC, qM, reduceIte, seval, Int.cast_ofNat_Int, qY, qZ, qU, zR, zT, zU, vT, xS]))
    refine vN m513 qH1 rfl (by simp) rfl rfl fun h14 m14 f14 => ?_
    simp only [List.set_cons_zero] at m14
    refine qS ?_; repeat' (first | (with_reducible first | apply qH | apply qB) | ((first | (with_reducible apply qR) | (with_reducible first | apply qA | apply qP | apply qD | apply qE | apply qK) | ((with_reducible first | apply qQ | apply qI | apply qJ | apply qW | apply qX) <;> intro hb <;> (try simp only [hb]) <;> (try simp only [zF] at hb)) | with_reducible refine qO xS mixed (by kernel_rfl) ?_) <;> try simp only [qV, qF, qL, qN, qG, qC, qM, reduceIte, seval, Int.cast_ofNat_Int, qY, qZ, qU, zR, zT, zU, vT, xS, bq_n]))
    have hx : HX k5 h13 h14 := fun j B n e => (f14 j n).trans e
    have keep : ∀ {z : List Value} {ee : Itm}, It h12 z ee → It h14 z ee := fun {z ee} w => by
      obtain ⟨a, c, b, d, e, r1, r2⟩ := w
      exact ⟨a, c, b, d, e, (jW fr13 u7 r1).hx m513 rfl hx, (jW fr13 u7 r2).hx m513 rfl hx⟩
    have hl1 : (sU M q (uZ 0 (M.map (·.2)) q.id) i).length = (sU M q (uZ 0 (M.map (·.2)) q.id) (i + 1)).length + 1 := by rw [hvs, List.length_append]; rfl
    refine ⟨s13.upd hbn f14, a13, c13, by rw [hl1]; exact m14, ds ++ [.slice a8 q.id.length c8, .slice d8 (rC (jI M pp.1) q.id).length e8, .int .i64 (pp.1 : Int)], by rw [hl1]; exact o13.hx m513 (by simp) hx, by rw [List.all_append, u7]; rfl, ?_⟩
    rw [hvs]
    exact dX (R := It h14) o7.len rfl (fun i p hp => keep ((e7 i p hp).hs s712)) (keep ⟨a8, c8, d8, e8, rfl, r8.hs (s10.trans s12), r9.hs (s10.trans s12)⟩)
  · obtain ⟨s7, a5, c5, m57, ig7⟩ := hI
    have hvl := qB3 M q (uZ 0 (M.map (·.2)) q.id) 0
    have eV : sU M q (uZ 0 (M.map (·.2)) q.id) 0 = fU M q := rfl
    rw [eV] at m57 ig7 hvl
    generalize fU M q = L at m57 ig7 hvl ⊢
    have b37 := s7 _ _ b3
    have b47 := s7 _ _ b4
    obtain ⟨lm, hlm⟩ : ∃ lm : Nat, q.lm = (lm : Int) := ⟨q.lm.toNat, by omega⟩
    have hlmt : q.lm.toNat = lm := by omega
    rw [hlm] at b37
    have rl7 := ig7.rl
    have mn : (if (lm : Int) < (L.length : Int) then (lm : Int) else (L.length : Int)) = ((min L.length lm : Nat) : Int) := by split <;> omega
    obtain ⟨a9, c9', e9, r9⟩ := rl7.cut3 (P := Try.prog) Try.underlying68 yY (m := min L.length lm) (Nat.min_le_left _ _)
    have htk : L.take (min L.length lm) = L.take lm := by
      rcases Nat.le_total L.length lm with h | h
      · rw [Nat.min_eq_left h, List.take_length, List.take_of_length_le h]
      · rw [Nat.min_eq_right h]
    have dm : decide (((min L.length lm : Nat) : Int) < (L.length : Int)) = decide (lm < L.length) := by
      by_cases h : lm < L.length
      · rw [decide_eq_true h, decide_eq_true (by omega)]
      · rw [decide_eq_false h, decide_eq_false (by omega)]
    refine qS ?_; repeat' (first | (with_reducible first | apply qH | apply qB) | ((first | (with_reducible apply qR) | (with_reducible first | apply qA | apply qP | apply qD | apply qE | apply qK) | ((with_reducible first | apply qQ | apply qI | apply qJ | apply qW | apply qX) <;> intro hb <;> (try simp only [hb]) <;> (try simp only [zF] at hb)) | with_reducible refine qO xS mixed (by kernel_rfl) ?_) <;> try simp only [qV, qF, qL, qN, qG, qC, qM, reduceIte, seval, Int.cast_ofNat_Int, qY, qZ, qU, zR, zT, zU, vT, xS, mn, e9, dm, qT m57 qH1, qT b37 wL, xL, xT, vB, Shape.pl, List.all_cons, List.all_nil, zA]))
    refine zM b47 xG rfl (by decide) rfl rfl rfl fun h8 m8 f8 => ?_
    refine qS ?_; repeat' (first | (with_reducible first | apply qH | apply qB) | ((first | (with_reducible apply qR) | (with_reducible first | apply qA | apply qP | apply qD | apply qE | apply qK) | ((with_reducible first | apply qQ | apply qI | apply qJ | apply qW | apply qX) <;> intro hb <;> (try simp only [hb]) <;> (try simp only [zF] at hb)) | with_reducible refine qO xS mixed (by kernel_rfl) ?_) <;> try simp only [qV, qF, qL, qN, qG, qC, qM, reduceIte, seval, Int.cast_ofNat_Int, qY, qZ, qU, zR, zT, zU, vT, xS, zI m8 xG rfl]))
    have hx : HX k4 h7 h8 := fun j B n e => (f8 j n).trans e
    refine ⟨?_, (sb.trans s7).upd n4h f8⟩
    unfold fJ
    rw [hlmt]
    have hln : (L.take lm).length = min L.length lm := by rw [List.length_take, Nat.min_comm]
    rw [htk] at r9
    rw [← hln] at r9 ⊢
    refine ⟨none, 0, a9, c9', none, 0, rfl, RB.nil h8, r9.hxR b47 ⟨rfl, rfl⟩ hx fun cs y r => ?_, RL.nil h8⟩
    obtain ⟨a, c, b, d, e, r1, r2⟩ := r
    exact ⟨a, c, b, d, e, r1.hx b47 rfl hx, r2.hx b47 rfl hx⟩
end Go.Gh
