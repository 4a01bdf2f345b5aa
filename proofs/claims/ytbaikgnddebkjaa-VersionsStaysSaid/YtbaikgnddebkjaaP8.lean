/- Parts of this claim's proof, 8. No statement of the claim stands here. -/
import Derived.Test.YtbaikgnddebkjaaP7
/- Versions: what stays so. -/

namespace Go.Gh
open Go Go.Proofs Go.RowKit
set_option linter.unusedVariables false
set_option linter.unusedSimpArgs false
set_option maxRecDepth 100000
set_option maxHeartbeats 2000000

theorem Upto.cut {s t : List (Nat × Nat)} {e : Int} {n : Nat} (ht : ∀ p ∈ t, e < (p.1 : Int)) (u : Upto (s ++ t) e n) : Upto s e n := by
  refine ⟨?_, fun i p hp => ?_⟩
  · rcases Nat.lt_or_ge s.length n with h | h
    · exfalso
      have hlt : s.length < (s ++ t).length := Nat.lt_of_lt_of_le h u.1
      have hx : (s ++ t)[s.length]? = some (s ++ t)[s.length] := List.getElem?_eq_getElem hlt
      have := (u.2 _ _ hx).1 h
      rw [List.getElem?_append_right (Nat.le_refl _)] at hx
      have := ht _ (List.mem_of_getElem? hx)
      omega
    · exact h
  · have hi := (List.getElem?_eq_some_iff.1 hp).1
    exact u.2 i p (by rw [List.getElem?_append_left hi]; exact hp)
theorem evOf_app {B : List (List Bnd)} {b : List Bnd} {p : Nat × Nat} (h1 : 1 ≤ p.1) (h2 : p.1 ≤ B.length) : evOf (B ++ [b]) p = evOf B p := by
  unfold evOf
  rw [List.getElem?_append_left (by omega)]
/-- What is listed stays so. -/
theorem lsd_stays {B : List (List Bnd)} {b : List Bnd} {s t : List (Nat × Nat)} (hs : ∀ p ∈ s, 1 ≤ p.1 ∧ p.1 ≤ B.length) (ht : ∀ p ∈ t, p.1 = B.length + 1) {f e : Int} (he : e ≤ (B.length : Int)) {n1 n2 m1 m2 : Nat} (a1 : Upto s f n1) (a2 : Upto s e n2) (b1 : Upto (s ++ t) f m1) (b2 : Upto (s ++ t) e m2) :
    lsd (B ++ [b]) (s ++ t) m1 m2 = lsd B s n1 n2 := by
  have e2 : m2 = n2 := (b2.cut fun p hp => by rw [ht p hp]; omega).uniq a2
  subst e2
  have hmap : ∀ (q : Nat), lsd (B ++ [b]) (s ++ t) q m2 = lsd B s q m2 := fun q => by
    unfold lsd
    rw [List.take_append_of_le_length a2.1]
    refine List.map_congr_left fun p hp => ?_
    have hp' : p ∈ s := List.mem_of_mem_take (List.mem_of_mem_drop (List.mem_reverse.1 hp))
    exact evOf_app (hs p hp').1 (hs p hp').2
  rw [hmap]
  by_cases hf : f ≤ (B.length : Int)
  · have e1 : m1 = n1 := (b1.cut fun p hp => by rw [ht p hp]; omega).uniq a1
    rw [e1]
  · have le : ∀ {s : List (Nat × Nat)} {n m : Nat}, Upto s f n → Upto s e m → m ≤ n := fun {s n m} u w => by
      rcases Nat.lt_or_ge n m with h | h
      · exfalso
        have hlt : n < s.length := Nat.lt_of_lt_of_le h w.1
        have hx : s[n]? = some s[n] := List.getElem?_eq_getElem hlt
        have z1 := (w.2 _ _ hx).1 h
        have := (u.2 _ _ hx).2 (by omega)
        omega
      · exact h
    rw [lsd_self B s (le b1 b2), lsd_self B s (le a1 a2)]
/-- An event, or none. -/
def AtEv (B : List (List Bnd)) (s : List (Nat × Nat)) (n : Nat) : (Nat × Nat × Bnd) × Bool := if n = 0 then ((0, 0, [], []), false) else (evOf B ((s[n - 1]?).getD (0, 0)), true)
theorem AtIs.ev {B : List (List Bnd)} {s : List (Nat × Nat)} {e : Int} {v : Value} {h : GH} (a : AtIs B s e v h) : ∃ n cs, Upto s e n ∧ v = .tuple #[.agg cs.toArray, .bool (AtEv B s n).2] ∧ Ev h cs (AtEv B s n).1 := by
  obtain ⟨n, u, a⟩ := a
  rcases a with ⟨rfl, rfl⟩ | ⟨p, cs, hn, hp, rfl, ev⟩
  · exact ⟨0, _, u, rfl, none, 0, none, 0, rfl, .inl ⟨0, rfl, rfl⟩, .inl ⟨0, rfl, rfl⟩⟩
  · refine ⟨n, cs, u, ?_, ?_⟩
    · simp [AtEv, hn]
    · simp only [AtEv, if_neg hn, hp, Option.getD_some]; exact ev
theorem at_stays {B : List (List Bnd)} {b : List Bnd} {s t : List (Nat × Nat)} (hs : ∀ p ∈ s, 1 ≤ p.1 ∧ p.1 ≤ B.length) (ht : ∀ p ∈ t, p.1 = B.length + 1) {e : Int} (he : e ≤ (B.length : Int)) {n m : Nat} (a : Upto s e n) (c : Upto (s ++ t) e m) :
    AtEv (B ++ [b]) (s ++ t) m = AtEv B s n := by
  have e2 : m = n := (c.cut fun p hp => by rw [ht p hp]; omega).uniq a
  subst e2
  unfold AtEv
  by_cases hm : m = 0
  · rw [if_pos hm, if_pos hm]
  · have hlt : m - 1 < s.length := by have := a.1; omega
    have hx : s[m - 1]? = some s[m - 1] := List.getElem?_eq_getElem hlt
    rw [if_neg hm, if_neg hm, List.getElem?_append_left hlt, hx, Option.getD_some]
    have := hs _ (List.mem_of_getElem? hx)
    rw [evOf_app this.1 this.2]

/-- A batch among an argument's. -/
def Bl (h : GH) (cs : List Value) (b : List Bnd) : Prop := ∃ a c, cs = [.slice a b.length c] ∧ RL 2 Bd h (.slice a b.length c) b
theorem Bl.hs {h h' : GH} (s : HS h h') {cs : List Value} {b : List Bnd} (r : Bl h cs b) : Bl h' cs b := by
  obtain ⟨a, c, e, r⟩ := r
  exact ⟨a, c, e, r.bs s⟩
/-- A batch as handed in: its first ten, each of a length that there is. -/
def small (b : List Bnd) : Prop := ∀ p ∈ b, p.1.length ≤ 140737488355328 ∧ p.2.length ≤ 140737488355328
theorem RL.ten {h : GH} {a : Option Addr} {c : Nat} {b : List Bnd} (r : RL 2 Bd h (.slice a b.length c) b) :
    ∃ a' c', gSlice Try.prog 23 h (.slice a b.length c) none (some (.int .i64 ((min b.length 10 : Nat) : Int))) none = some (.slice a' (b.take (min b.length 10)).length c') ∧ RL 2 Bd h (.slice a' (b.take (min b.length 10)).length c') (b.take (min b.length 10)) := by
  have hl : (b.take (min b.length 10)).length = min b.length 10 := by simp
  rw [hl]
  exact r.cut Try.underlying23 sz99 (Nat.min_le_left _ _)

theorem Ev.fk {k j : Nat} {h h' : GH} (x : FK k j h h') {cs : List Value} {e : Nat × Nat × Bnd} (r : Ev h cs e) : Ev h' cs e := by
  obtain ⟨a, c, b, d, e, r1, r2⟩ := r
  exact ⟨a, c, b, d, e, x.2 _ _ r1, x.2 _ _ r2⟩
theorem Evs.fk {k j : Nat} {h0 h h' : GH} (x : FK k j h h') {B1 B2 : GB} (e1 : h k = some B1) (z1 : B1.es = 0) (e2 : h (j + 1) = some B2) (z2 : B2.es = 0) {v : Value} {L : List (Nat × Nat × Bnd)} (r : Evs h0 h v L) : Evs h0 h' v L := by
  obtain ⟨ds, o, u, r⟩ := r
  refine ⟨ds, ?_, u, fun i p hp => (r i p hp).fk x⟩
  rcases o with o | o | ⟨kb, c, h1, h2, h3, h4, h5, h6, h7⟩
  · exact .inl o
  · exact .inr (.inl o)
  · refine .inr (.inr ⟨kb, c, h1, h2, h3, h4, h5, x.1 _ _ h6 ?_ ?_ (by simp), h7⟩)
    · rintro rfl; rw [e1] at h6; cases h6; simp at z1
    · rintro rfl; rw [e2] at h6; cases h6; simp at z2

theorem c_VersionsStays (N : Nat) (h : GH) {a b e : Option Addr} {c d g : Nat} {l : List (List Bnd)} {more : List Bnd} {id : List UInt8} (f t : Int) (r1 : RL 1 Bl h (.slice a l.length c) l) (r2 : RL 2 Bd h (.slice b more.length d) more) (r3 : RB h (.slice e id.length g) id)
    (hl : l.length ≤ 140737488355328) (hls : ∀ x ∈ l, small x ∧ x.length ≤ 140737488355328) (hms : small more) (hml : more.length ≤ 140737488355328) :
    GTri Try.prog N 3 [.slice a l.length c, .slice b more.length d, .agg #[.slice e id.length g, .int .i64 f, .int .i64 t]] h fun v h' => v = .bool true := by
  refine gtri Try.func3 rfl gf3 ok3 (by simp [Try.ntmps3]) ?_
  repeat' (first | (with_reducible first | refine gw_seq ?_ | refine gw_block ?_) | ((first | (with_reducible first | refine gw_region ?_ | refine gw_if ?_ | refine gw_skip ?_ | refine gw_exit ?_ | refine gw_ret ?_) | ((with_reducible first | refine gif_b (fun hb => ?_) (fun hb => ?_) | refine want_t (fun hb => ?_) (fun hb => ?_) | refine want_f (fun hb => ?_) (fun hb => ?_) | refine dr_t (fun hb => ?_) (fun hb => ?_) | refine dr_f (fun hb => ?_) (fun hb => ?_)) <;> (try simp only [hb]) <;> (try simp only [hpr] at hb)) | with_reducible refine gw_draw (id := 8) [(0, []), (1, []), (2, []), (3, [1]), (4, []), (5, [])] [0, 1, 0, 4, 15, 31] mixed (by kernel_rfl) ?_) <;> try simp only [List.map, gop, ev, lk, aenv, gyield, gBin, gInt, gStrOp, gUn, gPick, gNil, gExtract, gIfc, gConvK, gIndexO, gIndexVO, gMakeV, gMinV, gMaxV, isInt, gMin, gMax, gBlt, gLenX, gCallV, gInvoke, gNilM, Array.toList_map, vcells, gField, gIndexV, gPart, reduceIte, Nat.reduceAdd, Nat.reduceSub, Nat.reduceMul, Nat.reduceLT, Nat.reduceLeDiff, Nat.reduceEqDiff, Nat.reduceBEq, Int.reduceLT, Int.reduceLE, Int.reduceGT, Int.reduceGE, Int.reduceEq, Int.reduceNe, Int.reduceAdd, Int.reduceSub, Int.reduceMul, Int.reduceNeg, Int.reduceToNat, Int.reduceBEq, Int.reduceBNe, Int.cast_ofNat_Int, List.getElem?_toArray, stp, rvOf, wlk, rdv, isEff, dsOf, sgl, stq, Try.underlying22, Try.underlying23, Try.underlying24, Try.underlying26, Try.underlying27, Try.underlying3, Try.underlying33, Try.underlying36, Try.underlying4, Try.underlying44, Try.underlying5, Try.underlying99, ty22, ty23, ty24, ty36, ty26, ty33, ty44, ty99, ty27, ty3, ty4, ty5, rs3]))
  refine box_g rfl fun k1 h1 m1 s1 f1 n1 => ?_
  refine mk_of ?_; repeat' (first | (with_reducible first | refine gw_seq ?_ | refine gw_block ?_) | ((first | (with_reducible refine mk_to ?_) | (with_reducible first | refine gw_region ?_ | refine gw_if ?_ | refine gw_skip ?_ | refine gw_exit ?_ | refine gw_ret ?_) | ((with_reducible first | refine gif_b (fun hb => ?_) (fun hb => ?_) | refine want_t (fun hb => ?_) (fun hb => ?_) | refine want_f (fun hb => ?_) (fun hb => ?_) | refine dr_t (fun hb => ?_) (fun hb => ?_) | refine dr_f (fun hb => ?_) (fun hb => ?_)) <;> (try simp only [hb]) <;> (try simp only [hpr] at hb)) | with_reducible refine gw_draw (id := 8) [(0, []), (1, []), (2, []), (3, [1]), (4, []), (5, [])] [0, 1, 0, 4, 15, 31] mixed (by kernel_rfl) ?_) <;> try simp only [List.map, gop, ev, lk, aenv, gyield, gBin, gInt, gStrOp, gUn, gPick, gNil, gExtract, gIfc, gConvK, gIndexO, gIndexVO, gMakeV, gMinV, gMaxV, isInt, gMin, gMax, gBlt, gLenX, gCallV, gInvoke, gNilM, Array.toList_map, vcells, gField, gIndexV, gPart, reduceIte, Nat.reduceAdd, Nat.reduceSub, Nat.reduceMul, Nat.reduceLT, Nat.reduceLeDiff, Nat.reduceEqDiff, Nat.reduceBEq, Int.reduceLT, Int.reduceLE, Int.reduceGT, Int.reduceGE, Int.reduceEq, Int.reduceNe, Int.reduceAdd, Int.reduceSub, Int.reduceMul, Int.reduceNeg, Int.reduceToNat, Int.reduceBEq, Int.reduceBNe, Int.cast_ofNat_Int, List.getElem?_toArray, stp, rvOf, wlk, rdv, isEff, dsOf, sgl, stq, Try.underlying22, Try.underlying23, Try.underlying24, Try.underlying26, Try.underlying27, Try.underlying3, Try.underlying33, Try.underlying36, Try.underlying4, Try.underlying44, Try.underlying5, Try.underlying99, ty22, ty23, ty24, ty36, ty26, ty33, ty44, ty99, ty27, ty3, ty4, ty5, rs3]))
  refine (c_New N s1).mono ?_
  rintro _ h2 ⟨⟨k, j, rfl, hk, x2⟩, s2⟩
  replace m1 := s2 _ _ m1
  refine mk_of ?_; repeat' (first | (with_reducible first | refine gw_seq ?_ | refine gw_block ?_) | ((first | (with_reducible refine mk_to ?_) | (with_reducible first | refine gw_region ?_ | refine gw_if ?_ | refine gw_skip ?_ | refine gw_exit ?_ | refine gw_ret ?_) | ((with_reducible first | refine gif_b (fun hb => ?_) (fun hb => ?_) | refine want_t (fun hb => ?_) (fun hb => ?_) | refine want_f (fun hb => ?_) (fun hb => ?_) | refine dr_t (fun hb => ?_) (fun hb => ?_) | refine dr_f (fun hb => ?_) (fun hb => ?_)) <;> (try simp only [hb]) <;> (try simp only [hpr] at hb)) | with_reducible refine gw_draw (id := 8) [(0, []), (1, []), (2, []), (3, [1]), (4, []), (5, [])] [0, 1, 0, 4, 15, 31] mixed (by kernel_rfl) ?_) <;> try simp only [List.map, gop, ev, lk, aenv, gyield, gBin, gInt, gStrOp, gUn, gPick, gNil, gExtract, gIfc, gConvK, gIndexO, gIndexVO, gMakeV, gMinV, gMaxV, isInt, gMin, gMax, gBlt, gLenX, gCallV, gInvoke, gNilM, Array.toList_map, vcells, gField, gIndexV, gPart, reduceIte, Nat.reduceAdd, Nat.reduceSub, Nat.reduceMul, Nat.reduceLT, Nat.reduceLeDiff, Nat.reduceEqDiff, Nat.reduceBEq, Int.reduceLT, Int.reduceLE, Int.reduceGT, Int.reduceGE, Int.reduceEq, Int.reduceNe, Int.reduceAdd, Int.reduceSub, Int.reduceMul, Int.reduceNeg, Int.reduceToNat, Int.reduceBEq, Int.reduceBNe, Int.cast_ofNat_Int, List.getElem?_toArray, stp, rvOf, wlk, rdv, isEff, dsOf, sgl, stq, Try.underlying22, Try.underlying23, Try.underlying24, Try.underlying26, Try.underlying27, Try.underlying3, Try.underlying33, Try.underlying36, Try.underlying4, Try.underlying44, Try.underlying5, Try.underlying99, ty22, ty23, ty24, ty36, ty26, ty33, ty44, ty99, ty27, ty3, ty4, ty5, rs3]))
  refine gw_loop2 [1, 5, 6, 7, 17, 18] (fun (i : Nat) => [(19, .int .i64 (i : Int))])
    (fun q i h' => l.length - i = q ∧ i ≤ l.length ∧ HS h h' ∧ h' k1 = some ⟨[.slice e id.length g, .int .i64 f, .int .i64 t], 0, true, false⟩ ∧ ∃ bv cs l' B S, IX h h' k j bv cs l' B S ∧ B.length ≤ min i 20) l.length 0 (by simp [lk]) ⟨rfl, by omega, s1.trans s2, m1, _, _, _, _, _, x2, by simp⟩ ?_
  clear m1 x2
  rintro _ i h3 ⟨rfl, hi, s3, m1, bv, cs, l', B, S, x3, hBl⟩
  have hk1k : k1 ≠ k := fun q => by have z := x3.obj; rw [← q, m1] at z; cases z
  have hk1j : k1 ≠ j + 1 := fun q => by have z := x3.mp; rw [← q, m1] at z; cases z
  by_cases hil : i < l.length
  · have d3 : decide ((i : Int) < (l.length : Int)) = true := decide_eq_true (by omega)
    have wi : IntKind.i64.wrap ((i : Int) + 1) = ((i + 1 : Nat) : Int) := by rw [wrap64 (by omega) (by omega)]; omega
    obtain ⟨y, hy⟩ : ∃ y, l[i]? = some y := ⟨_, List.getElem?_eq_getElem hil⟩
    obtain ⟨ad, cs2, g1, g2, a', c', rfl, ry⟩ := (r1.hcR s3.hc (fun _ _ q => q.hs s3)).at (P := Try.prog) Try.underlying22 sz23 hy
    have l1 : gLoad Try.prog 23 h3 (.pointer (some ad)) = some (.slice a' y.length c') := by simp only [gLoad, sz23, g2]; rfl
    by_cases hi20 : i < 20
    · have d4 : decide ((i : Int) < 20) = true := decide_eq_true (by omega)
      have mn : (if (10 : Int) < (y.length : Int) then (10 : Int) else (y.length : Int)) = ((min y.length 10 : Nat) : Int) := min_if y.length 10
      obtain ⟨a4, c4, e4, r4⟩ := ry.ten
      have hys := hls y (List.mem_of_getElem? hy)
      refine mk_of ?_; repeat' (first | (with_reducible first | refine gw_seq ?_ | refine gw_block ?_) | ((first | (with_reducible refine mk_to ?_) | (with_reducible first | refine gw_region ?_ | refine gw_if ?_ | refine gw_skip ?_ | refine gw_exit ?_ | refine gw_ret ?_) | ((with_reducible first | refine gif_b (fun hb => ?_) (fun hb => ?_) | refine want_t (fun hb => ?_) (fun hb => ?_) | refine want_f (fun hb => ?_) (fun hb => ?_) | refine dr_t (fun hb => ?_) (fun hb => ?_) | refine dr_f (fun hb => ?_) (fun hb => ?_)) <;> (try simp only [hb]) <;> (try simp only [hpr] at hb)) | with_reducible refine gw_draw (id := 8) [(0, []), (1, []), (2, []), (3, [1]), (4, []), (5, [])] [0, 1, 0, 4, 15, 31] mixed (by kernel_rfl) ?_) <;> try simp only [List.map, gop, ev, lk, aenv, gyield, gBin, gInt, gStrOp, gUn, gPick, gNil, gExtract, gIfc, gConvK, gIndexO, gIndexVO, gMakeV, gMinV, gMaxV, isInt, gMin, gMax, gBlt, gLenX, gCallV, gInvoke, gNilM, Array.toList_map, vcells, gField, gIndexV, gPart, reduceIte, Nat.reduceAdd, Nat.reduceSub, Nat.reduceMul, Nat.reduceLT, Nat.reduceLeDiff, Nat.reduceEqDiff, Nat.reduceBEq, Int.reduceLT, Int.reduceLE, Int.reduceGT, Int.reduceGE, Int.reduceEq, Int.reduceNe, Int.reduceAdd, Int.reduceSub, Int.reduceMul, Int.reduceNeg, Int.reduceToNat, Int.reduceBEq, Int.reduceBNe, Int.cast_ofNat_Int, List.getElem?_toArray, stp, rvOf, wlk, rdv, isEff, dsOf, sgl, stq, Try.underlying22, Try.underlying23, Try.underlying24, Try.underlying26, Try.underlying27, Try.underlying3, Try.underlying33, Try.underlying36, Try.underlying4, Try.underlying44, Try.underlying5, Try.underlying99, ty22, ty23, ty24, ty36, ty26, ty33, ty44, ty99, ty27, ty3, ty4, ty5, rs3, d3, g1, l1, d4, mn, e4]))
      refine (c_Add N s3 x3 (by omega) r4 (by rw [List.length_take]; omega) (fun p hp => hys.1 p (List.mem_of_mem_take hp))).mono ?_
      rintro _ h5 ⟨rfl, s5, fk5, ad5⟩
      have m5 := fk5.1 _ _ m1 hk1k hk1j (by simp)
      refine mk_of ?_; repeat' (first | (with_reducible first | refine gw_seq ?_ | refine gw_block ?_) | ((first | (with_reducible refine mk_to ?_) | (with_reducible first | refine gw_region ?_ | refine gw_if ?_ | refine gw_skip ?_ | refine gw_exit ?_ | refine gw_ret ?_) | ((with_reducible first | refine gif_b (fun hb => ?_) (fun hb => ?_) | refine want_t (fun hb => ?_) (fun hb => ?_) | refine want_f (fun hb => ?_) (fun hb => ?_) | refine dr_t (fun hb => ?_) (fun hb => ?_) | refine dr_f (fun hb => ?_) (fun hb => ?_)) <;> (try simp only [hb]) <;> (try simp only [hpr] at hb)) | with_reducible refine gw_draw (id := 8) [(0, []), (1, []), (2, []), (3, [1]), (4, []), (5, [])] [0, 1, 0, 4, 15, 31] mixed (by kernel_rfl) ?_) <;> try simp only [List.map, gop, ev, lk, aenv, gyield, gBin, gInt, gStrOp, gUn, gPick, gNil, gExtract, gIfc, gConvK, gIndexO, gIndexVO, gMakeV, gMinV, gMaxV, isInt, gMin, gMax, gBlt, gLenX, gCallV, gInvoke, gNilM, Array.toList_map, vcells, gField, gIndexV, gPart, reduceIte, Nat.reduceAdd, Nat.reduceSub, Nat.reduceMul, Nat.reduceLT, Nat.reduceLeDiff, Nat.reduceEqDiff, Nat.reduceBEq, Int.reduceLT, Int.reduceLE, Int.reduceGT, Int.reduceGE, Int.reduceEq, Int.reduceNe, Int.reduceAdd, Int.reduceSub, Int.reduceMul, Int.reduceNeg, Int.reduceToNat, Int.reduceBEq, Int.reduceBNe, Int.cast_ofNat_Int, List.getElem?_toArray, stp, rvOf, wlk, rdv, isEff, dsOf, sgl, stq, Try.underlying22, Try.underlying23, Try.underlying24, Try.underlying26, Try.underlying27, Try.underlying3, Try.underlying33, Try.underlying36, Try.underlying4, Try.underlying44, Try.underlying5, Try.underlying99, ty22, ty23, ty24, ty36, ty26, ty33, ty44, ty99, ty27, ty3, ty4, ty5, rs3, wi]))
      refine ⟨_, i + 1, ?_, (by simp only [List.forall_mem_cons, List.not_mem_nil, false_implies, implies_true, List.map, List.cons_append, List.nil_append, lk, Nat.reduceEqDiff, reduceIte, and_true, true_and]), rfl, by omega, s5, m5, ?_⟩
      · omega
      · rcases ad5 with ⟨_, x5⟩ | ⟨_, bv5, cs5, l5, x5⟩
        · exact ⟨_, _, _, _, _, x5, by omega⟩
        · exact ⟨_, _, _, _, _, x5, by rw [List.length_append]; simp only [List.length_singleton]; omega⟩
    · have d4 : decide ((i : Int) < 20) = false := decide_eq_false (by omega)
      refine mk_of ?_; repeat' (first | (with_reducible first | refine gw_seq ?_ | refine gw_block ?_) | ((first | (with_reducible refine mk_to ?_) | (with_reducible first | refine gw_region ?_ | refine gw_if ?_ | refine gw_skip ?_ | refine gw_exit ?_ | refine gw_ret ?_) | ((with_reducible first | refine gif_b (fun hb => ?_) (fun hb => ?_) | refine want_t (fun hb => ?_) (fun hb => ?_) | refine want_f (fun hb => ?_) (fun hb => ?_) | refine dr_t (fun hb => ?_) (fun hb => ?_) | refine dr_f (fun hb => ?_) (fun hb => ?_)) <;> (try simp only [hb]) <;> (try simp only [hpr] at hb)) | with_reducible refine gw_draw (id := 8) [(0, []), (1, []), (2, []), (3, [1]), (4, []), (5, [])] [0, 1, 0, 4, 15, 31] mixed (by kernel_rfl) ?_) <;> try simp only [List.map, gop, ev, lk, aenv, gyield, gBin, gInt, gStrOp, gUn, gPick, gNil, gExtract, gIfc, gConvK, gIndexO, gIndexVO, gMakeV, gMinV, gMaxV, isInt, gMin, gMax, gBlt, gLenX, gCallV, gInvoke, gNilM, Array.toList_map, vcells, gField, gIndexV, gPart, reduceIte, Nat.reduceAdd, Nat.reduceSub, Nat.reduceMul, Nat.reduceLT, Nat.reduceLeDiff, Nat.reduceEqDiff, Nat.reduceBEq, Int.reduceLT, Int.reduceLE, Int.reduceGT, Int.reduceGE, Int.reduceEq, Int.reduceNe, Int.reduceAdd, Int.reduceSub, Int.reduceMul, Int.reduceNeg, Int.reduceToNat, Int.reduceBEq, Int.reduceBNe, Int.cast_ofNat_Int, List.getElem?_toArray, stp, rvOf, wlk, rdv, isEff, dsOf, sgl, stq, Try.underlying22, Try.underlying23, Try.underlying24, Try.underlying26, Try.underlying27, Try.underlying3, Try.underlying33, Try.underlying36, Try.underlying4, Try.underlying44, Try.underlying5, Try.underlying99, ty22, ty23, ty24, ty36, ty26, ty33, ty44, ty99, ty27, ty3, ty4, ty5, rs3, d3, g1, l1, d4, wi]))
      refine ⟨_, i + 1, ?_, (by simp only [List.forall_mem_cons, List.not_mem_nil, false_implies, implies_true, List.map, List.cons_append, List.nil_append, lk, Nat.reduceEqDiff, reduceIte, and_true, true_and]), rfl, by omega, s3, m1, _, _, _, _, _, x3, by omega⟩
      omega
  have d3 : decide ((i : Int) < (l.length : Int)) = false := decide_eq_false (by omega)
  have hB90 : B.length ≤ 20 := by omega
  refine mk_of ?_; repeat' (first | (with_reducible first | refine gw_seq ?_ | refine gw_block ?_) | ((first | (with_reducible refine mk_to ?_) | (with_reducible first | refine gw_region ?_ | refine gw_if ?_ | refine gw_skip ?_ | refine gw_exit ?_ | refine gw_ret ?_) | ((with_reducible first | refine gif_b (fun hb => ?_) (fun hb => ?_) | refine want_t (fun hb => ?_) (fun hb => ?_) | refine want_f (fun hb => ?_) (fun hb => ?_) | refine dr_t (fun hb => ?_) (fun hb => ?_) | refine dr_f (fun hb => ?_) (fun hb => ?_)) <;> (try simp only [hb]) <;> (try simp only [hpr] at hb)) | with_reducible refine gw_draw (id := 8) [(0, []), (1, []), (2, []), (3, [1]), (4, []), (5, [])] [0, 1, 0, 4, 15, 31] mixed (by kernel_rfl) ?_ | ((refine GTri.mono (c_Last _ x3) ?_); rintro _ _ ⟨rfl, hh9⟩; replace hh9 := hh9.symm; subst hh9)) <;> try simp only [List.map, gop, ev, lk, aenv, gyield, gBin, gInt, gStrOp, gUn, gPick, gNil, gExtract, gIfc, gConvK, gIndexO, gIndexVO, gMakeV, gMinV, gMaxV, isInt, gMin, gMax, gBlt, gLenX, gCallV, gInvoke, gNilM, Array.toList_map, vcells, gField, gIndexV, gPart, reduceIte, Nat.reduceAdd, Nat.reduceSub, Nat.reduceMul, Nat.reduceLT, Nat.reduceLeDiff, Nat.reduceEqDiff, Nat.reduceBEq, Int.reduceLT, Int.reduceLE, Int.reduceGT, Int.reduceGE, Int.reduceEq, Int.reduceNe, Int.reduceAdd, Int.reduceSub, Int.reduceMul, Int.reduceNeg, Int.reduceToNat, Int.reduceBEq, Int.reduceBNe, Int.cast_ofNat_Int, List.getElem?_toArray, stp, rvOf, wlk, rdv, isEff, dsOf, sgl, stq, Try.underlying22, Try.underlying23, Try.underlying24, Try.underlying26, Try.underlying27, Try.underlying3, Try.underlying33, Try.underlying36, Try.underlying4, Try.underlying44, Try.underlying5, Try.underlying99, ty22, ty23, ty24, ty36, ty26, ty33, ty44, ty99, ty27, ty3, ty4, ty5, rs3, d3, gload1 m1 sz3, gload1 m1 sz24, List.getElem?_cons_zero, List.getElem?_cons_succ]))
  have hto : (if (B.length : Int) < t then (B.length : Int) else t) ≤ (B.length : Int) := by split <;> omega
  generalize (if (B.length : Int) < t then (B.length : Int) else t) = to at hto ⊢
  refine (c_At N x3 (by omega) (r3.hs s3) to).mono ?_
  rintro _ h4 ⟨at4, s4⟩
  obtain ⟨n4, ca, u4, rfl, ev4⟩ := at4.ev
  obtain ⟨z1, z2, z3, z4⟩ := ev4.cells
  refine mk_of ?_; repeat' (first | (with_reducible first | refine gw_seq ?_ | refine gw_block ?_) | ((first | (with_reducible refine mk_to ?_) | (with_reducible first | refine gw_region ?_ | refine gw_if ?_ | refine gw_skip ?_ | refine gw_exit ?_ | refine gw_ret ?_) | ((with_reducible first | refine gif_b (fun hb => ?_) (fun hb => ?_) | refine want_t (fun hb => ?_) (fun hb => ?_) | refine want_f (fun hb => ?_) (fun hb => ?_) | refine dr_t (fun hb => ?_) (fun hb => ?_) | refine dr_f (fun hb => ?_) (fun hb => ?_)) <;> (try simp only [hb]) <;> (try simp only [hpr] at hb)) | with_reducible refine gw_draw (id := 8) [(0, []), (1, []), (2, []), (3, [1]), (4, []), (5, [])] [0, 1, 0, 4, 15, 31] mixed (by kernel_rfl) ?_) <;> try simp only [List.map, gop, ev, lk, aenv, gyield, gBin, gInt, gStrOp, gUn, gPick, gNil, gExtract, gIfc, gConvK, gIndexO, gIndexVO, gMakeV, gMinV, gMaxV, isInt, gMin, gMax, gBlt, gLenX, gCallV, gInvoke, gNilM, Array.toList_map, vcells, gField, gIndexV, gPart, reduceIte, Nat.reduceAdd, Nat.reduceSub, Nat.reduceMul, Nat.reduceLT, Nat.reduceLeDiff, Nat.reduceEqDiff, Nat.reduceBEq, Int.reduceLT, Int.reduceLE, Int.reduceGT, Int.reduceGE, Int.reduceEq, Int.reduceNe, Int.reduceAdd, Int.reduceSub, Int.reduceMul, Int.reduceNeg, Int.reduceToNat, Int.reduceBEq, Int.reduceBNe, Int.cast_ofNat_Int, List.getElem?_toArray, stp, rvOf, wlk, rdv, isEff, dsOf, sgl, stq, Try.underlying22, Try.underlying23, Try.underlying24, Try.underlying26, Try.underlying27, Try.underlying3, Try.underlying33, Try.underlying36, Try.underlying4, Try.underlying44, Try.underlying5, Try.underlying99, ty22, ty23, ty24, ty36, ty26, ty33, ty44, ty99, ty27, ty3, ty4, ty5, rs3]))
  refine new_g fun k5 h5 m5 s5 f5 n5 => ?_
  refine mk_of ?_; repeat' (first | (with_reducible first | refine gw_seq ?_ | refine gw_block ?_) | ((first | (with_reducible refine mk_to ?_) | (with_reducible first | refine gw_region ?_ | refine gw_if ?_ | refine gw_skip ?_ | refine gw_exit ?_ | refine gw_ret ?_) | ((with_reducible first | refine gif_b (fun hb => ?_) (fun hb => ?_) | refine want_t (fun hb => ?_) (fun hb => ?_) | refine want_f (fun hb => ?_) (fun hb => ?_) | refine dr_t (fun hb => ?_) (fun hb => ?_) | refine dr_f (fun hb => ?_) (fun hb => ?_)) <;> (try simp only [hb]) <;> (try simp only [hpr] at hb)) | with_reducible refine gw_draw (id := 8) [(0, []), (1, []), (2, []), (3, [1]), (4, []), (5, [])] [0, 1, 0, 4, 15, 31] mixed (by kernel_rfl) ?_) <;> try simp only [List.map, gop, ev, lk, aenv, gyield, gBin, gInt, gStrOp, gUn, gPick, gNil, gExtract, gIfc, gConvK, gIndexO, gIndexVO, gMakeV, gMinV, gMaxV, isInt, gMin, gMax, gBlt, gLenX, gCallV, gInvoke, gNilM, Array.toList_map, vcells, gField, gIndexV, gPart, reduceIte, Nat.reduceAdd, Nat.reduceSub, Nat.reduceMul, Nat.reduceLT, Nat.reduceLeDiff, Nat.reduceEqDiff, Nat.reduceBEq, Int.reduceLT, Int.reduceLE, Int.reduceGT, Int.reduceGE, Int.reduceEq, Int.reduceNe, Int.reduceAdd, Int.reduceSub, Int.reduceMul, Int.reduceNeg, Int.reduceToNat, Int.reduceBEq, Int.reduceBNe, Int.cast_ofNat_Int, List.getElem?_toArray, stp, rvOf, wlk, rdv, isEff, dsOf, sgl, stq, Try.underlying22, Try.underlying23, Try.underlying24, Try.underlying26, Try.underlying27, Try.underlying3, Try.underlying33, Try.underlying36, Try.underlying4, Try.underlying44, Try.underlying5, Try.underlying99, ty22, ty23, ty24, ty36, ty26, ty33, ty44, ty99, ty27, ty3, ty4, ty5, rs3]))
  refine st_all m5 sz33 rfl (by decide) (by rw [z4]; exact z1) rfl (by rw [z4]; exact z2) fun h6 m6 f6 => ?_
  rw [z4] at m6
  have s6 : HS h4 h6 := (HS.refl h4).upd n5 (fun i hi => (f6 i hi).trans (f5 i hi))
  have s46 := s4.trans s6
  have m16 := s46 _ _ m1
  have x6 := x3.hs s46
  refine mk_of ?_; repeat' (first | (with_reducible first | refine gw_seq ?_ | refine gw_block ?_) | ((first | (with_reducible refine mk_to ?_) | (with_reducible first | refine gw_region ?_ | refine gw_if ?_ | refine gw_skip ?_ | refine gw_exit ?_ | refine gw_ret ?_) | ((with_reducible first | refine gif_b (fun hb => ?_) (fun hb => ?_) | refine want_t (fun hb => ?_) (fun hb => ?_) | refine want_f (fun hb => ?_) (fun hb => ?_) | refine dr_t (fun hb => ?_) (fun hb => ?_) | refine dr_f (fun hb => ?_) (fun hb => ?_)) <;> (try simp only [hb]) <;> (try simp only [hpr] at hb)) | with_reducible refine gw_draw (id := 8) [(0, []), (1, []), (2, []), (3, [1]), (4, []), (5, [])] [0, 1, 0, 4, 15, 31] mixed (by kernel_rfl) ?_) <;> try simp only [List.map, gop, ev, lk, aenv, gyield, gBin, gInt, gStrOp, gUn, gPick, gNil, gExtract, gIfc, gConvK, gIndexO, gIndexVO, gMakeV, gMinV, gMaxV, isInt, gMin, gMax, gBlt, gLenX, gCallV, gInvoke, gNilM, Array.toList_map, vcells, gField, gIndexV, gPart, reduceIte, Nat.reduceAdd, Nat.reduceSub, Nat.reduceMul, Nat.reduceLT, Nat.reduceLeDiff, Nat.reduceEqDiff, Nat.reduceBEq, Int.reduceLT, Int.reduceLE, Int.reduceGT, Int.reduceGE, Int.reduceEq, Int.reduceNe, Int.reduceAdd, Int.reduceSub, Int.reduceMul, Int.reduceNeg, Int.reduceToNat, Int.reduceBEq, Int.reduceBNe, Int.cast_ofNat_Int, List.getElem?_toArray, stp, rvOf, wlk, rdv, isEff, dsOf, sgl, stq, Try.underlying22, Try.underlying23, Try.underlying24, Try.underlying26, Try.underlying27, Try.underlying3, Try.underlying33, Try.underlying36, Try.underlying4, Try.underlying44, Try.underlying5, Try.underlying99, ty22, ty23, ty24, ty36, ty26, ty33, ty44, ty99, ty27, ty3, ty4, ty5, rs3, gload1 m16 sz24, gload1 m16 sz3, List.getElem?_cons_zero, List.getElem?_cons_succ]))
  refine (c_List N x6 (by omega) ((r3.hs s3).hs s46) f to).mono ?_
  rintro _ h7 ⟨⟨p1, p2, up1, up2, es7⟩, s7⟩
  obtain ⟨a7, c7, rfl, _⟩ := es7.rl.form
  have x7 := x6.hs s7
  have hs7 := (s3.trans s46).trans s7
  have m17 := s7 _ _ m16
  have mn : (if (10 : Int) < (more.length : Int) then (10 : Int) else (more.length : Int)) = ((min more.length 10 : Nat) : Int) := min_if more.length 10
  obtain ⟨a8, c8, e8, r8⟩ := (r2.bs hs7).ten
  refine mk_of ?_; repeat' (first | (with_reducible first | refine gw_seq ?_ | refine gw_block ?_) | ((first | (with_reducible refine mk_to ?_) | (with_reducible first | refine gw_region ?_ | refine gw_if ?_ | refine gw_skip ?_ | refine gw_exit ?_ | refine gw_ret ?_) | ((with_reducible first | refine gif_b (fun hb => ?_) (fun hb => ?_) | refine want_t (fun hb => ?_) (fun hb => ?_) | refine want_f (fun hb => ?_) (fun hb => ?_) | refine dr_t (fun hb => ?_) (fun hb => ?_) | refine dr_f (fun hb => ?_) (fun hb => ?_)) <;> (try simp only [hb]) <;> (try simp only [hpr] at hb)) | with_reducible refine gw_draw (id := 8) [(0, []), (1, []), (2, []), (3, [1]), (4, []), (5, [])] [0, 1, 0, 4, 15, 31] mixed (by kernel_rfl) ?_) <;> try simp only [List.map, gop, ev, lk, aenv, gyield, gBin, gInt, gStrOp, gUn, gPick, gNil, gExtract, gIfc, gConvK, gIndexO, gIndexVO, gMakeV, gMinV, gMaxV, isInt, gMin, gMax, gBlt, gLenX, gCallV, gInvoke, gNilM, Array.toList_map, vcells, gField, gIndexV, gPart, reduceIte, Nat.reduceAdd, Nat.reduceSub, Nat.reduceMul, Nat.reduceLT, Nat.reduceLeDiff, Nat.reduceEqDiff, Nat.reduceBEq, Int.reduceLT, Int.reduceLE, Int.reduceGT, Int.reduceGE, Int.reduceEq, Int.reduceNe, Int.reduceAdd, Int.reduceSub, Int.reduceMul, Int.reduceNeg, Int.reduceToNat, Int.reduceBEq, Int.reduceBNe, Int.cast_ofNat_Int, List.getElem?_toArray, stp, rvOf, wlk, rdv, isEff, dsOf, sgl, stq, Try.underlying22, Try.underlying23, Try.underlying24, Try.underlying26, Try.underlying27, Try.underlying3, Try.underlying33, Try.underlying36, Try.underlying4, Try.underlying44, Try.underlying5, Try.underlying99, ty22, ty23, ty24, ty36, ty26, ty33, ty44, ty99, ty27, ty3, ty4, ty5, rs3, mn, e8]))
  refine (c_Add N hs7 x7 (by omega) r8 (by rw [List.length_take]; omega) (fun p hp => hms p (List.mem_of_mem_take hp))).mono ?_
  rintro _ h8 ⟨rfl, s8, fk8, ad8⟩
  have m18 := fk8.1 _ _ m17 hk1k hk1j (by simp)
  have k5k : k5 ≠ k := (ne_of (x3.hs s4).obj n5).symm
  have k5j : k5 ≠ j + 1 := (ne_of (x3.hs s4).mp n5).symm
  have m68 := fk8.1 _ _ (s7 _ _ m6) k5k k5j (by simp)
  have ev8 := ((ev4.hs s6).hs s7).fk fk8
  have es8 := es7.fk fk8 x7.obj rfl x7.mp rfl
  have hval : ∀ p ∈ S id, 1 ≤ p.1 ∧ p.1 ≤ B.length := fun p hp => ⟨(x3.val id p hp).1, (x3.val id p hp).2.1⟩
  have key : ∃ bv' cs' l2 B' S', IX h h8 k j bv' cs' l2 B' S' ∧ B'.length ≤ 30 ∧ (∀ n m, Upto (S id) to n → Upto (S' id) to m → AtEv B' (S' id) m = AtEv B (S id) n) ∧ (∀ q1 q2 w1 w2, Upto (S id) f q1 → Upto (S id) to q2 → Upto (S' id) f w1 → Upto (S' id) to w2 → lsd B' (S' id) w1 w2 = lsd B (S id) q1 q2) := by
    rcases ad8 with ⟨_, x8⟩ | ⟨_, bv', cs', l2, x8⟩
    · exact ⟨_, _, _, _, _, x8, by omega, fun n m u w => by rw [w.uniq u], fun q1 q2 w1 w2 u1 u2 u3 u4 => by rw [u3.uniq u1, u4.uniq u2]⟩
    · exact ⟨_, _, _, _, _, x8, by rw [List.length_append]; simp only [List.length_singleton]; omega, fun n m u w => at_stays hval (fun p hp => (newsp_mem hp).1) hto u w, fun q1 q2 w1 w2 u1 u2 u3 u4 => lsd_stays hval (fun p hp => (newsp_mem hp).1) hto u1 u2 u3 u4⟩
  obtain ⟨bv', cs', l2, B', S', x8, hB', kat, kls⟩ := key
  refine mk_of ?_; repeat' (first | (with_reducible first | refine gw_seq ?_ | refine gw_block ?_) | ((first | (with_reducible refine mk_to ?_) | (with_reducible first | refine gw_region ?_ | refine gw_if ?_ | refine gw_skip ?_ | refine gw_exit ?_ | refine gw_ret ?_) | ((with_reducible first | refine gif_b (fun hb => ?_) (fun hb => ?_) | refine want_t (fun hb => ?_) (fun hb => ?_) | refine want_f (fun hb => ?_) (fun hb => ?_) | refine dr_t (fun hb => ?_) (fun hb => ?_) | refine dr_f (fun hb => ?_) (fun hb => ?_)) <;> (try simp only [hb]) <;> (try simp only [hpr] at hb)) | with_reducible refine gw_draw (id := 8) [(0, []), (1, []), (2, []), (3, [1]), (4, []), (5, [])] [0, 1, 0, 4, 15, 31] mixed (by kernel_rfl) ?_) <;> try simp only [List.map, gop, ev, lk, aenv, gyield, gBin, gInt, gStrOp, gUn, gPick, gNil, gExtract, gIfc, gConvK, gIndexO, gIndexVO, gMakeV, gMinV, gMaxV, isInt, gMin, gMax, gBlt, gLenX, gCallV, gInvoke, gNilM, Array.toList_map, vcells, gField, gIndexV, gPart, reduceIte, Nat.reduceAdd, Nat.reduceSub, Nat.reduceMul, Nat.reduceLT, Nat.reduceLeDiff, Nat.reduceEqDiff, Nat.reduceBEq, Int.reduceLT, Int.reduceLE, Int.reduceGT, Int.reduceGE, Int.reduceEq, Int.reduceNe, Int.reduceAdd, Int.reduceSub, Int.reduceMul, Int.reduceNeg, Int.reduceToNat, Int.reduceBEq, Int.reduceBNe, Int.cast_ofNat_Int, List.getElem?_toArray, stp, rvOf, wlk, rdv, isEff, dsOf, sgl, stq, Try.underlying22, Try.underlying23, Try.underlying24, Try.underlying26, Try.underlying27, Try.underlying3, Try.underlying33, Try.underlying36, Try.underlying4, Try.underlying44, Try.underlying5, Try.underlying99, ty22, ty23, ty24, ty36, ty26, ty33, ty44, ty99, ty27, ty3, ty4, ty5, rs3, gload1 m18 sz24, gload1 m18 sz3, List.getElem?_cons_zero, List.getElem?_cons_succ]))
  refine (c_At N x8 (by omega) (r3.hs s8) to).mono ?_
  rintro _ h9 ⟨at9, s9⟩
  obtain ⟨n9, cb, u9, rfl, ev9⟩ := at9.ev
  rw [kat n4 n9 u4 u9] at ev9
  have hb9 := congrArg Prod.snd (kat n4 n9 u4 u9)
  obtain ⟨z5, z6, z7, z8⟩ := ev9.cells
  refine mk_of ?_; repeat' (first | (with_reducible first | refine gw_seq ?_ | refine gw_block ?_) | ((first | (with_reducible refine mk_to ?_) | (with_reducible first | refine gw_region ?_ | refine gw_if ?_ | refine gw_skip ?_ | refine gw_exit ?_ | refine gw_ret ?_) | ((with_reducible first | refine gif_b (fun hb => ?_) (fun hb => ?_) | refine want_t (fun hb => ?_) (fun hb => ?_) | refine want_f (fun hb => ?_) (fun hb => ?_) | refine dr_t (fun hb => ?_) (fun hb => ?_) | refine dr_f (fun hb => ?_) (fun hb => ?_)) <;> (try simp only [hb]) <;> (try simp only [hpr] at hb)) | with_reducible refine gw_draw (id := 8) [(0, []), (1, []), (2, []), (3, [1]), (4, []), (5, [])] [0, 1, 0, 4, 15, 31] mixed (by kernel_rfl) ?_) <;> try simp only [List.map, gop, ev, lk, aenv, gyield, gBin, gInt, gStrOp, gUn, gPick, gNil, gExtract, gIfc, gConvK, gIndexO, gIndexVO, gMakeV, gMinV, gMaxV, isInt, gMin, gMax, gBlt, gLenX, gCallV, gInvoke, gNilM, Array.toList_map, vcells, gField, gIndexV, gPart, reduceIte, Nat.reduceAdd, Nat.reduceSub, Nat.reduceMul, Nat.reduceLT, Nat.reduceLeDiff, Nat.reduceEqDiff, Nat.reduceBEq, Int.reduceLT, Int.reduceLE, Int.reduceGT, Int.reduceGE, Int.reduceEq, Int.reduceNe, Int.reduceAdd, Int.reduceSub, Int.reduceMul, Int.reduceNeg, Int.reduceToNat, Int.reduceBEq, Int.reduceBNe, Int.cast_ofNat_Int, List.getElem?_toArray, stp, rvOf, wlk, rdv, isEff, dsOf, sgl, stq, Try.underlying22, Try.underlying23, Try.underlying24, Try.underlying26, Try.underlying27, Try.underlying3, Try.underlying33, Try.underlying36, Try.underlying4, Try.underlying44, Try.underlying5, Try.underlying99, ty22, ty23, ty24, ty36, ty26, ty33, ty44, ty99, ty27, ty3, ty4, ty5, rs3]))
  refine new_g fun k10 h10 m10 s10 f10 n10 => ?_
  refine mk_of ?_; repeat' (first | (with_reducible first | refine gw_seq ?_ | refine gw_block ?_) | ((first | (with_reducible refine mk_to ?_) | (with_reducible first | refine gw_region ?_ | refine gw_if ?_ | refine gw_skip ?_ | refine gw_exit ?_ | refine gw_ret ?_) | ((with_reducible first | refine gif_b (fun hb => ?_) (fun hb => ?_) | refine want_t (fun hb => ?_) (fun hb => ?_) | refine want_f (fun hb => ?_) (fun hb => ?_) | refine dr_t (fun hb => ?_) (fun hb => ?_) | refine dr_f (fun hb => ?_) (fun hb => ?_)) <;> (try simp only [hb]) <;> (try simp only [hpr] at hb)) | with_reducible refine gw_draw (id := 8) [(0, []), (1, []), (2, []), (3, [1]), (4, []), (5, [])] [0, 1, 0, 4, 15, 31] mixed (by kernel_rfl) ?_) <;> try simp only [List.map, gop, ev, lk, aenv, gyield, gBin, gInt, gStrOp, gUn, gPick, gNil, gExtract, gIfc, gConvK, gIndexO, gIndexVO, gMakeV, gMinV, gMaxV, isInt, gMin, gMax, gBlt, gLenX, gCallV, gInvoke, gNilM, Array.toList_map, vcells, gField, gIndexV, gPart, reduceIte, Nat.reduceAdd, Nat.reduceSub, Nat.reduceMul, Nat.reduceLT, Nat.reduceLeDiff, Nat.reduceEqDiff, Nat.reduceBEq, Int.reduceLT, Int.reduceLE, Int.reduceGT, Int.reduceGE, Int.reduceEq, Int.reduceNe, Int.reduceAdd, Int.reduceSub, Int.reduceMul, Int.reduceNeg, Int.reduceToNat, Int.reduceBEq, Int.reduceBNe, Int.cast_ofNat_Int, List.getElem?_toArray, stp, rvOf, wlk, rdv, isEff, dsOf, sgl, stq, Try.underlying22, Try.underlying23, Try.underlying24, Try.underlying26, Try.underlying27, Try.underlying3, Try.underlying33, Try.underlying36, Try.underlying4, Try.underlying44, Try.underlying5, Try.underlying99, ty22, ty23, ty24, ty36, ty26, ty33, ty44, ty99, ty27, ty3, ty4, ty5, rs3]))
  refine st_all m10 sz33 rfl (by decide) (by rw [z8]; exact z5) rfl (by rw [z8]; exact z6) fun h11 m11 f11 => ?_
  rw [z8] at m11
  have s11 : HS h9 h11 := (HS.refl h9).upd n10 (fun i hi => (f11 i hi).trans (f10 i hi))
  have s911 := s9.trans s11
  have m6b := s911 _ _ m68
  refine mk_of ?_; repeat' (first | (with_reducible first | refine gw_seq ?_ | refine gw_block ?_) | ((first | (with_reducible refine mk_to ?_) | (with_reducible first | refine gw_region ?_ | refine gw_if ?_ | refine gw_skip ?_ | refine gw_exit ?_ | refine gw_ret ?_) | ((with_reducible first | refine gif_b (fun hb => ?_) (fun hb => ?_) | refine want_t (fun hb => ?_) (fun hb => ?_) | refine want_f (fun hb => ?_) (fun hb => ?_) | refine dr_t (fun hb => ?_) (fun hb => ?_) | refine dr_f (fun hb => ?_) (fun hb => ?_)) <;> (try simp only [hb]) <;> (try simp only [hpr] at hb)) | with_reducible refine gw_draw (id := 8) [(0, []), (1, []), (2, []), (3, [1]), (4, []), (5, [])] [0, 1, 0, 4, 15, 31] mixed (by kernel_rfl) ?_) <;> try simp only [List.map, gop, ev, lk, aenv, gyield, gBin, gInt, gStrOp, gUn, gPick, gNil, gExtract, gIfc, gConvK, gIndexO, gIndexVO, gMakeV, gMinV, gMaxV, isInt, gMin, gMax, gBlt, gLenX, gCallV, gInvoke, gNilM, Array.toList_map, vcells, gField, gIndexV, gPart, reduceIte, Nat.reduceAdd, Nat.reduceSub, Nat.reduceMul, Nat.reduceLT, Nat.reduceLeDiff, Nat.reduceEqDiff, Nat.reduceBEq, Int.reduceLT, Int.reduceLE, Int.reduceGT, Int.reduceGE, Int.reduceEq, Int.reduceNe, Int.reduceAdd, Int.reduceSub, Int.reduceMul, Int.reduceNeg, Int.reduceToNat, Int.reduceBEq, Int.reduceBNe, Int.cast_ofNat_Int, List.getElem?_toArray, stp, rvOf, wlk, rdv, isEff, dsOf, sgl, stq, Try.underlying22, Try.underlying23, Try.underlying24, Try.underlying26, Try.underlying27, Try.underlying3, Try.underlying33, Try.underlying36, Try.underlying4, Try.underlying44, Try.underlying5, Try.underlying99, ty22, ty23, ty24, ty36, ty26, ty33, ty44, ty99, ty27, ty3, ty4, ty5, rs3, gloadA m6b sz33 z1, gloadA m11 sz33 z5]))
  refine (c_sameEvent N h11 (ev8.hs s911) (ev9.hs s11) _ _).mono ?_
  rintro _ h12 ⟨⟨r12, rfl, hr12⟩, s12⟩
  obtain rfl : r12 = true := hr12.2 ⟨hb9.symm, rfl⟩
  have s812 := s911.trans s12
  have m112 := s812 _ _ m18
  refine mk_of ?_; repeat' (first | (with_reducible first | refine gw_seq ?_ | refine gw_block ?_) | ((first | (with_reducible refine mk_to ?_) | (with_reducible first | refine gw_region ?_ | refine gw_if ?_ | refine gw_skip ?_ | refine gw_exit ?_ | refine gw_ret ?_) | ((with_reducible first | refine gif_b (fun hb => ?_) (fun hb => ?_) | refine want_t (fun hb => ?_) (fun hb => ?_) | refine want_f (fun hb => ?_) (fun hb => ?_) | refine dr_t (fun hb => ?_) (fun hb => ?_) | refine dr_f (fun hb => ?_) (fun hb => ?_)) <;> (try simp only [hb]) <;> (try simp only [hpr] at hb)) | with_reducible refine gw_draw (id := 8) [(0, []), (1, []), (2, []), (3, [1]), (4, []), (5, [])] [0, 1, 0, 4, 15, 31] mixed (by kernel_rfl) ?_) <;> try simp only [List.map, gop, ev, lk, aenv, gyield, gBin, gInt, gStrOp, gUn, gPick, gNil, gExtract, gIfc, gConvK, gIndexO, gIndexVO, gMakeV, gMinV, gMaxV, isInt, gMin, gMax, gBlt, gLenX, gCallV, gInvoke, gNilM, Array.toList_map, vcells, gField, gIndexV, gPart, reduceIte, Nat.reduceAdd, Nat.reduceSub, Nat.reduceMul, Nat.reduceLT, Nat.reduceLeDiff, Nat.reduceEqDiff, Nat.reduceBEq, Int.reduceLT, Int.reduceLE, Int.reduceGT, Int.reduceGE, Int.reduceEq, Int.reduceNe, Int.reduceAdd, Int.reduceSub, Int.reduceMul, Int.reduceNeg, Int.reduceToNat, Int.reduceBEq, Int.reduceBNe, Int.cast_ofNat_Int, List.getElem?_toArray, stp, rvOf, wlk, rdv, isEff, dsOf, sgl, stq, Try.underlying22, Try.underlying23, Try.underlying24, Try.underlying26, Try.underlying27, Try.underlying3, Try.underlying33, Try.underlying36, Try.underlying4, Try.underlying44, Try.underlying5, Try.underlying99, ty22, ty23, ty24, ty36, ty26, ty33, ty44, ty99, ty27, ty3, ty4, ty5, rs3, gPick, gload1 m112 sz24, gload1 m112 sz3, List.getElem?_cons_zero, List.getElem?_cons_succ]))
  refine (c_List N (x8.hs s812) (by omega) ((r3.hs s8).hs s812) f to).mono ?_
  rintro _ h13 ⟨⟨w1, w2, up3, up4, es13⟩, s13⟩
  rw [kls p1 p2 w1 w2 up1 up2 up3 up4] at es13
  obtain ⟨a13, c13, rfl, _⟩ := es13.rl.form
  have es8' := (es8.hs s812).hs s13
  have hll := lsd_len B (S id) p1 p2 up2.1
  have hsl := x3.sl id
  have hup := up2.1
  refine mk_of ?_; repeat' (first | (with_reducible first | refine gw_seq ?_ | refine gw_block ?_) | ((first | (with_reducible refine mk_to ?_) | (with_reducible first | refine gw_region ?_ | refine gw_if ?_ | refine gw_skip ?_ | refine gw_exit ?_ | refine gw_ret ?_) | ((with_reducible first | refine gif_b (fun hb => ?_) (fun hb => ?_) | refine want_t (fun hb => ?_) (fun hb => ?_) | refine want_f (fun hb => ?_) (fun hb => ?_) | refine dr_t (fun hb => ?_) (fun hb => ?_) | refine dr_f (fun hb => ?_) (fun hb => ?_)) <;> (try simp only [hb]) <;> (try simp only [hpr] at hb)) | with_reducible refine gw_draw (id := 8) [(0, []), (1, []), (2, []), (3, [1]), (4, []), (5, [])] [0, 1, 0, 4, 15, 31] mixed (by kernel_rfl) ?_) <;> try simp only [List.map, gop, ev, lk, aenv, gyield, gBin, gInt, gStrOp, gUn, gPick, gNil, gExtract, gIfc, gConvK, gIndexO, gIndexVO, gMakeV, gMinV, gMaxV, isInt, gMin, gMax, gBlt, gLenX, gCallV, gInvoke, gNilM, Array.toList_map, vcells, gField, gIndexV, gPart, reduceIte, Nat.reduceAdd, Nat.reduceSub, Nat.reduceMul, Nat.reduceLT, Nat.reduceLeDiff, Nat.reduceEqDiff, Nat.reduceBEq, Int.reduceLT, Int.reduceLE, Int.reduceGT, Int.reduceGE, Int.reduceEq, Int.reduceNe, Int.reduceAdd, Int.reduceSub, Int.reduceMul, Int.reduceNeg, Int.reduceToNat, Int.reduceBEq, Int.reduceBNe, Int.cast_ofNat_Int, List.getElem?_toArray, stp, rvOf, wlk, rdv, isEff, dsOf, sgl, stq, Try.underlying22, Try.underlying23, Try.underlying24, Try.underlying26, Try.underlying27, Try.underlying3, Try.underlying33, Try.underlying36, Try.underlying4, Try.underlying44, Try.underlying5, Try.underlying99, ty22, ty23, ty24, ty36, ty26, ty33, ty44, ty99, ty27, ty3, ty4, ty5, rs3]))
  refine (c_SE N h13 es8'.rl es13.rl (by omega)).mono ?_
  rintro _ h14 ⟨⟨r14, rfl, hr14⟩, s14⟩
  obtain rfl : r14 = true := hr14.2 rfl
  refine mk_of ?_; repeat' (first | (with_reducible first | refine gw_seq ?_ | refine gw_block ?_) | ((first | (with_reducible refine mk_to ?_) | (with_reducible first | refine gw_region ?_ | refine gw_if ?_ | refine gw_skip ?_ | refine gw_exit ?_ | refine gw_ret ?_) | ((with_reducible first | refine gif_b (fun hb => ?_) (fun hb => ?_) | refine want_t (fun hb => ?_) (fun hb => ?_) | refine want_f (fun hb => ?_) (fun hb => ?_) | refine dr_t (fun hb => ?_) (fun hb => ?_) | refine dr_f (fun hb => ?_) (fun hb => ?_)) <;> (try simp only [hb]) <;> (try simp only [hpr] at hb)) | with_reducible refine gw_draw (id := 8) [(0, []), (1, []), (2, []), (3, [1]), (4, []), (5, [])] [0, 1, 0, 4, 15, 31] mixed (by kernel_rfl) ?_) <;> try simp only [List.map, gop, ev, lk, aenv, gyield, gBin, gInt, gStrOp, gUn, gPick, gNil, gExtract, gIfc, gConvK, gIndexO, gIndexVO, gMakeV, gMinV, gMaxV, isInt, gMin, gMax, gBlt, gLenX, gCallV, gInvoke, gNilM, Array.toList_map, vcells, gField, gIndexV, gPart, reduceIte, Nat.reduceAdd, Nat.reduceSub, Nat.reduceMul, Nat.reduceLT, Nat.reduceLeDiff, Nat.reduceEqDiff, Nat.reduceBEq, Int.reduceLT, Int.reduceLE, Int.reduceGT, Int.reduceGE, Int.reduceEq, Int.reduceNe, Int.reduceAdd, Int.reduceSub, Int.reduceMul, Int.reduceNeg, Int.reduceToNat, Int.reduceBEq, Int.reduceBNe, Int.cast_ofNat_Int, List.getElem?_toArray, stp, rvOf, wlk, rdv, isEff, dsOf, sgl, stq, Try.underlying22, Try.underlying23, Try.underlying24, Try.underlying26, Try.underlying27, Try.underlying3, Try.underlying33, Try.underlying36, Try.underlying4, Try.underlying44, Try.underlying5, Try.underlying99, ty22, ty23, ty24, ty36, ty26, ty33, ty44, ty99, ty27, ty3, ty4, ty5, rs3, gPick]))
  refine (c_awake33 N h14).mono ?_
  rintro _ h15 ⟨rfl, s15⟩
  refine mk_of ?_; repeat' (first | (with_reducible first | refine gw_seq ?_ | refine gw_block ?_) | ((first | (with_reducible refine mk_to ?_) | (with_reducible first | refine gw_region ?_ | refine gw_if ?_ | refine gw_skip ?_ | refine gw_exit ?_ | refine gw_ret ?_) | ((with_reducible first | refine gif_b (fun hb => ?_) (fun hb => ?_) | refine want_t (fun hb => ?_) (fun hb => ?_) | refine want_f (fun hb => ?_) (fun hb => ?_) | refine dr_t (fun hb => ?_) (fun hb => ?_) | refine dr_f (fun hb => ?_) (fun hb => ?_)) <;> (try simp only [hb]) <;> (try simp only [hpr] at hb)) | with_reducible refine gw_draw (id := 8) [(0, []), (1, []), (2, []), (3, [1]), (4, []), (5, [])] [0, 1, 0, 4, 15, 31] mixed (by kernel_rfl) ?_) <;> try simp only [List.map, gop, ev, lk, aenv, gyield, gBin, gInt, gStrOp, gUn, gPick, gNil, gExtract, gIfc, gConvK, gIndexO, gIndexVO, gMakeV, gMinV, gMaxV, isInt, gMin, gMax, gBlt, gLenX, gCallV, gInvoke, gNilM, Array.toList_map, vcells, gField, gIndexV, gPart, reduceIte, Nat.reduceAdd, Nat.reduceSub, Nat.reduceMul, Nat.reduceLT, Nat.reduceLeDiff, Nat.reduceEqDiff, Nat.reduceBEq, Int.reduceLT, Int.reduceLE, Int.reduceGT, Int.reduceGE, Int.reduceEq, Int.reduceNe, Int.reduceAdd, Int.reduceSub, Int.reduceMul, Int.reduceNeg, Int.reduceToNat, Int.reduceBEq, Int.reduceBNe, Int.cast_ofNat_Int, List.getElem?_toArray, stp, rvOf, wlk, rdv, isEff, dsOf, sgl, stq, Try.underlying22, Try.underlying23, Try.underlying24, Try.underlying26, Try.underlying27, Try.underlying3, Try.underlying33, Try.underlying36, Try.underlying4, Try.underlying44, Try.underlying5, Try.underlying99, ty22, ty23, ty24, ty36, ty26, ty33, ty44, ty99, ty27, ty3, ty4, ty5, rs3, gPick]))
end Go.Gh

/- Versions: the law's arguments. -/

namespace Go.Gh
open Go Go.Proofs Go.RowKit
set_option linter.unusedVariables false
set_option linter.unusedSimpArgs false
set_option maxRecDepth 100000
set_option maxHeartbeats 1000000

abbrev bdTy : Ty := .fcons .bs (.fcons .bs .fnil)
abbrev qTy : Ty := .fcons .bs (.fcons (.i .i64) (.fcons (.i .i64) .fnil))
theorem bats_ok : Ty.ok Try.prog (.sl (.sl bdTy)) 22 = true := by kernel_rfl
theorem bat_ok : Ty.ok Try.prog (.sl bdTy) 23 = true := by kernel_rfl
theorem q_ok : Ty.ok Try.prog qTy 26 = true := by kernel_rfl
theorem q_un : ∃ fs, (Try.prog).underlying 26 = some (.struct fs) := ⟨_, Try.underlying26⟩
def toB (x : bdTy.den) : Bnd := (x.1, x.2.1)
theorem bd_R {h : GH} {cs : List Value} {x : bdTy.den} (r : bdTy.R h cs x) : Bd h cs (toB x) := by
  obtain ⟨y1, y2, y3⟩ := x
  obtain ⟨c1, c2, rfl, _, ⟨v, rfl, r1, _⟩, c3, c4, rfl, _, ⟨w, rfl, r2, _⟩, rfl⟩ := r
  obtain ⟨a, c, rfl, _⟩ := r1.form
  obtain ⟨b, d, rfl, _⟩ := r2.form
  exact ⟨_, _, _, _, _, _, rfl, r1, r2⟩
theorem bat_R {h : GH} {v : Value} {l : List bdTy.den} (r : RL 2 bdTy.R h v l) : RL 2 Bd h v (l.map toB) := RL.map (R' := Bd) r _ fun cs x hx => bd_R hx
theorem bl_R {h : GH} {cs : List Value} {l : List bdTy.den} (r : Ty.R (.sl bdTy) h cs l) : Bl h cs (l.map toB) := by
  obtain ⟨v, rfl, r, _⟩ := r
  have r' := bat_R r
  obtain ⟨a, c, rfl, _⟩ := r'.form
  exact ⟨a, c, rfl, r'⟩
theorem bat_fits {l : List bdTy.den} (f : Ty.fits (.sl bdTy) l) : small (l.map toB) ∧ (l.map toB).length ≤ 140737488355328 := by
  refine ⟨fun p hp => ?_, ?_⟩
  · obtain ⟨z, hz, rfl⟩ := List.mem_map.1 hp
    have f2 : List.length z.1 ≤ 140737488351232 ∧ List.length z.2.1 ≤ 140737488351232 := ⟨(f.2 z hz).1, (f.2 z hz).2.1⟩
    exact ⟨Nat.le_trans f2.1 (by decide), Nat.le_trans f2.2 (by decide)⟩
  · have f1 : List.length l ≤ 140737488351232 := f.1
    exact Nat.le_trans (Nat.le_of_eq (List.length_map _)) (Nat.le_trans f1 (by decide))
section
variable {H : Type} {enc : TypeId × Value → H} {W : World} {base b0 : Nat} {v : Value} {d : DataW H} {ps : List MemPlace} {r : Reach}
theorem arg_bats (h : DataW.Trod enc Try.prog W base (fun _ => true) true 22 v d ps) (hok : Value.okWide Try.prog W r b0 22 v) :
    ∃ (l : List (List Bnd)) (a : Option Addr) (c : Nat), up W.heap.size v = .slice a l.length c ∧ RL 1 Bl (h0 W) (.slice a l.length c) l ∧ ((∀ n ∈ d.weights Try.prog 22, n ≤ reachBytes) → l.length ≤ 140737488355328 ∧ ∀ x ∈ l, small x ∧ x.length ≤ 140737488355328) := by
  obtain ⟨l, a, c, e, R, _, _, f⟩ := arg_sl (.sl bdTy) bats_ok h hok
  have hl : (l.map fun x : List bdTy.den => x.map toB).length = l.length := List.length_map _
  refine ⟨l.map fun x : List bdTy.den => x.map toB, a, c, by rw [hl]; exact e, by rw [hl]; exact RL.map (R' := Bl) R _ fun cs x hx => bl_R hx, fun w => ?_⟩
  have f := f w
  refine ⟨by rw [hl]; exact Nat.le_trans f.1 (by decide), fun x hx => ?_⟩
  obtain ⟨z, hz, rfl⟩ := List.mem_map.1 hx
  exact bat_fits (f.2 z hz)
theorem arg_bat (h : DataW.Trod enc Try.prog W base (fun _ => true) true 23 v d ps) (hok : Value.okWide Try.prog W r b0 23 v) :
    ∃ (l : List Bnd) (a : Option Addr) (c : Nat), up W.heap.size v = .slice a l.length c ∧ RL 2 Bd (h0 W) (.slice a l.length c) l ∧ ((∀ n ∈ d.weights Try.prog 23, n ≤ reachBytes) → small l ∧ l.length ≤ 140737488355328) := by
  obtain ⟨l, a, c, e, R, _, _, f⟩ := arg_sl bdTy bat_ok h hok
  have hl : (List.map toB l).length = l.length := List.length_map _
  exact ⟨List.map toB l, a, c, by rw [hl]; exact e, by rw [hl]; exact bat_R R, fun w => bat_fits (f w)⟩
theorem arg_q (h : DataW.Trod enc Try.prog W base (fun _ => true) true 26 v d ps) (hok : Value.okWide Try.prog W r b0 26 v) :
    ∃ (id : List UInt8) (f t : Int) (a : Option Addr) (c : Nat), up W.heap.size v = .agg #[.slice a id.length c, .int .i64 f, .int .i64 t] ∧ RB (h0 W) (.slice a id.length c) id := by
  obtain ⟨fs, hu⟩ := q_un
  obtain ⟨y, cs, e1, R1, _, _⟩ := arg_st qTy hu q_ok h hok
  obtain ⟨y1, y2, y3, y4⟩ := y
  obtain ⟨_, _, rfl, _, ⟨w, rfl, r1, _⟩, _, _, rfl, _, ⟨rfl, _⟩, _, _, rfl, _, ⟨rfl, _⟩, rfl⟩ := R1
  obtain ⟨a, c, rfl, _⟩ := r1.form
  exact ⟨y1, y2, y3, a, c, e1, r1⟩
end
end Go.Gh

