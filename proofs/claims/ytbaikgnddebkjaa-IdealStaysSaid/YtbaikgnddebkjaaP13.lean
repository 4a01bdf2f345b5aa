/- Parts of this claim's proof, 13. No statement of the claim stands here. -/
import Derived.Test.YtbaikgnddebkjaaP12
/- Ideal: an identity's versions. -/

namespace Go.Gh
open Go Go.Proofs Go.RowKit
set_option linter.unusedVariables false
set_option linter.unusedSimpArgs false
set_option maxRecDepth 100000
set_option maxHeartbeats 4000000

def vsel (q : Ak) (p : Nat × Nat) : Bool := decide ((p.1 : Int) > q.fr) && decide ((p.1 : Int) ≤ q.to)
def vit (M : List (Int × List Bnd)) (id : List UInt8) (p : Nat × Nat) : Itm := ((id, keyOf (bOf M p.1) id), p.1)
/-- What versions are told, from the i-th change on. -/
def vacc (M : List (Int × List Bnd)) (q : Ak) (s : List (Nat × Nat)) (i : Nat) : List Itm := (((s.drop i).filter (vsel q)).reverse).map (vit M q.id)
def versL (M : List (Int × List Bnd)) (q : Ak) : List Itm := vacc M q (sps 0 (M.map (·.2)) q.id) 0
theorem vacc_len (M : List (Int × List Bnd)) (q : Ak) (s : List (Nat × Nat)) (i : Nat) : (vacc M q s i).length ≤ s.length - i := by
  unfold vacc
  rw [List.length_map, List.length_reverse]
  refine Nat.le_trans (List.length_filter_le _ _) ?_
  rw [List.length_drop]; exact Nat.le_refl _
theorem vacc_step (M : List (Int × List Bnd)) (q : Ak) {s : List (Nat × Nat)} {i : Nat} {p : Nat × Nat} (h : s[i]? = some p) : vacc M q s i = vacc M q s (i + 1) ++ (if vsel q p = true then [vit M q.id p] else []) := by
  unfold vacc
  have : s.drop i = p :: s.drop (i + 1) := by
    have h1 := List.getElem?_eq_some_iff.1 h
    rw [List.drop_eq_getElem_cons h1.1, h1.2]
  rw [this, List.filter_cons]
  by_cases hv : vsel q p = true
  · rw [if_pos hv, if_pos hv, List.reverse_cons, List.map_append]; rfl
  · rw [if_neg hv, if_neg hv, List.append_nil]
theorem atI_at {M : List (Int × List Bnd)} {id : List UInt8} {p : Nat × Nat} (h : p ∈ sps 0 (M.map (·.2)) id) : atI M id (p.1 : Int) = some (keyOf (bOf M p.1) id, p.1) := by
  unfold atI
  rw [atS_of (sps_ris id _ 0) h (Int.le_refl _) fun q _ hq => by omega]
  rfl
def VInv (hb : GH) (k5 : Nat) (L : Nat → List Itm) (i : Nat) (h' : GH) : Prop := HS hb h' ∧ ∃ a5 c5, h' k5 = some ⟨[.slice a5 (L i).length c5], 0, true, false⟩ ∧ Its hb h' (.slice a5 (L i).length c5) (L i)
theorem c_versions (N : Nat) {h0 h : GH} {k j : Nat} {p : Pm} {ew : Value} {cs l : List Value} {M : List (Int × List Bnd)} {ck : Int} {n : Nat} (x : IM h0 h k j p ew cs l M ck n) {a : Option Addr} {c : Nat} (q : Ak) (r : RB h (.slice a q.id.length c) q.id) (hid : q.id.length ≤ 140737488355328) (hl0 : 0 ≤ q.lm) (hl1 : q.lm ≤ 100000)
    {c0 c4 c5 c6 c7 c9 : Value} (hc : [c0, c4, c5, c6, c7, c9].all isCell = true) :
    GTri Try.prog N 77 [.pointer (some ⟨k, 0, none⟩), .agg #[c0, .slice a q.id.length c, .int .i64 q.fr, .int .i64 q.to, c4, c5, c6, c7, .int .i64 q.lm, c9]] h fun v h' =>
      RAn h' v (diffA q (versL M q)) ∧ HS h h' := by
  have hn4 := x.n4
  have hsl := sps_len q.id (M.map (·.2)) 0
  rw [← x.tt] at hsl
  refine gtri Try.func77 rfl gf77 ok77 (by simp [Try.ntmps77]) ?_
  repeat' (first | (with_reducible first | refine gw_seq ?_ | refine gw_block ?_) | ((first | (with_reducible first | refine gw_region ?_ | refine gw_if ?_ | refine gw_skip ?_ | refine gw_exit ?_ | refine gw_ret ?_) | ((with_reducible first | refine gif_b (fun hb => ?_) (fun hb => ?_) | refine want_t (fun hb => ?_) (fun hb => ?_) | refine want_f (fun hb => ?_) (fun hb => ?_) | refine dr_t (fun hb => ?_) (fun hb => ?_) | refine dr_f (fun hb => ?_) (fun hb => ?_)) <;> (try simp only [hb]) <;> (try simp only [hpr] at hb)) | with_reducible refine gw_draw (id := 2) [(0, []), (1, []), (2, []), (3, []), (4, []), (5, []), (6, []), (7, []), (8, [])] [0, 1, 3, 7, 0, 16, 48, 127, 255] mixed (by kernel_rfl) ?_ | with_reducible refine gw_draw (id := 8) [(0, []), (1, []), (2, []), (3, []), (4, []), (5, []), (6, []), (7, []), (8, []), (9, [])] [0, 0, 0, 7, 0, 0, 32, 112, 255, 511] mixed (by kernel_rfl) ?_) <;> try simp only [gop, gyield, gLenX, gNilM, gField, gIndexV, gPart, reduceIte, seval, Int.cast_ofNat_Int, stz, stp, isEff, sgl, sty, stq, Try.underlying89, ty23, ty24, ty36, ty68, ty83, ty88, ty62, ty65, ty70, ty91, ty97, ty29, ty3, ty4, ty5, ty63, ty89, ty9, rs77]))
  refine box_g rfl fun k2 h2 m2 s2 f2 n2 => ?_
  refine mk_of ?_; repeat' (first | (with_reducible first | refine gw_seq ?_ | refine gw_block ?_) | ((first | (with_reducible refine mk_to ?_) | (with_reducible first | refine gw_region ?_ | refine gw_if ?_ | refine gw_skip ?_ | refine gw_exit ?_ | refine gw_ret ?_) | ((with_reducible first | refine gif_b (fun hb => ?_) (fun hb => ?_) | refine want_t (fun hb => ?_) (fun hb => ?_) | refine want_f (fun hb => ?_) (fun hb => ?_) | refine dr_t (fun hb => ?_) (fun hb => ?_) | refine dr_f (fun hb => ?_) (fun hb => ?_)) <;> (try simp only [hb]) <;> (try simp only [hpr] at hb)) | with_reducible refine gw_draw (id := 2) [(0, []), (1, []), (2, []), (3, []), (4, []), (5, []), (6, []), (7, []), (8, [])] [0, 1, 3, 7, 0, 16, 48, 127, 255] mixed (by kernel_rfl) ?_ | with_reducible refine gw_draw (id := 8) [(0, []), (1, []), (2, []), (3, []), (4, []), (5, []), (6, []), (7, []), (8, []), (9, [])] [0, 0, 0, 7, 0, 0, 32, 112, 255, 511] mixed (by kernel_rfl) ?_) <;> try simp only [gop, gyield, gLenX, gNilM, gField, gIndexV, gPart, reduceIte, seval, Int.cast_ofNat_Int, stz, stp, isEff, sgl, sty, stq, Try.underlying89, ty23, ty24, ty36, ty68, ty83, ty88, ty62, ty65, ty70, ty91, ty97, ty29, ty3, ty4, ty5, ty63, ty89, ty9, rs77]))
  refine box_g (by simpa [isCell] using hc) fun k3 h3 m3 s3 f3 n3 => ?_
  refine mk_of ?_; repeat' (first | (with_reducible first | refine gw_seq ?_ | refine gw_block ?_) | ((first | (with_reducible refine mk_to ?_) | (with_reducible first | refine gw_region ?_ | refine gw_if ?_ | refine gw_skip ?_ | refine gw_exit ?_ | refine gw_ret ?_) | ((with_reducible first | refine gif_b (fun hb => ?_) (fun hb => ?_) | refine want_t (fun hb => ?_) (fun hb => ?_) | refine want_f (fun hb => ?_) (fun hb => ?_) | refine dr_t (fun hb => ?_) (fun hb => ?_) | refine dr_f (fun hb => ?_) (fun hb => ?_)) <;> (try simp only [hb]) <;> (try simp only [hpr] at hb)) | with_reducible refine gw_draw (id := 2) [(0, []), (1, []), (2, []), (3, []), (4, []), (5, []), (6, []), (7, []), (8, [])] [0, 1, 3, 7, 0, 16, 48, 127, 255] mixed (by kernel_rfl) ?_ | with_reducible refine gw_draw (id := 8) [(0, []), (1, []), (2, []), (3, []), (4, []), (5, []), (6, []), (7, []), (8, []), (9, [])] [0, 0, 0, 7, 0, 0, 32, 112, 255, 511] mixed (by kernel_rfl) ?_) <;> try simp only [gop, gyield, gLenX, gNilM, gField, gIndexV, gPart, reduceIte, seval, Int.cast_ofNat_Int, stz, stp, isEff, sgl, sty, stq, Try.underlying89, ty23, ty24, ty36, ty68, ty83, ty88, ty62, ty65, ty70, ty91, ty97, ty29, ty3, ty4, ty5, ty63, ty89, ty9, rs77]))
  refine new_g fun k4 h4 m4 s4 f4 n4 => ?_
  refine mk_of ?_; repeat' (first | (with_reducible first | refine gw_seq ?_ | refine gw_block ?_) | ((first | (with_reducible refine mk_to ?_) | (with_reducible first | refine gw_region ?_ | refine gw_if ?_ | refine gw_skip ?_ | refine gw_exit ?_ | refine gw_ret ?_) | ((with_reducible first | refine gif_b (fun hb => ?_) (fun hb => ?_) | refine want_t (fun hb => ?_) (fun hb => ?_) | refine want_f (fun hb => ?_) (fun hb => ?_) | refine dr_t (fun hb => ?_) (fun hb => ?_) | refine dr_f (fun hb => ?_) (fun hb => ?_)) <;> (try simp only [hb]) <;> (try simp only [hpr] at hb)) | with_reducible refine gw_draw (id := 2) [(0, []), (1, []), (2, []), (3, []), (4, []), (5, []), (6, []), (7, []), (8, [])] [0, 1, 3, 7, 0, 16, 48, 127, 255] mixed (by kernel_rfl) ?_ | with_reducible refine gw_draw (id := 8) [(0, []), (1, []), (2, []), (3, []), (4, []), (5, []), (6, []), (7, []), (8, []), (9, [])] [0, 0, 0, 7, 0, 0, 32, 112, 255, 511] mixed (by kernel_rfl) ?_) <;> try simp only [gop, gyield, gLenX, gNilM, gField, gIndexV, gPart, reduceIte, seval, Int.cast_ofNat_Int, stz, stp, isEff, sgl, sty, stq, Try.underlying89, ty23, ty24, ty36, ty68, ty83, ty88, ty62, ty65, ty70, ty91, ty97, ty29, ty3, ty4, ty5, ty63, ty89, ty9, rs77]))
  refine new_g fun k5 h5 m5 s5 f5 n5 => ?_
  have k25 : k2 ≠ k5 := ne_of (s4 _ _ (s3 _ _ m2)) n5
  have k35 : k3 ≠ k5 := ne_of (s4 _ _ m3) n5
  have k45 : k4 ≠ k5 := ne_of m4 n5
  replace m2 := s5 _ _ (s4 _ _ (s3 _ _ m2))
  replace m3 := s5 _ _ (s4 _ _ m3)
  replace m4 := s5 _ _ m4
  have s15 := ((s2.trans s3).trans s4).trans s5
  have x5 := x.hs s15
  have cv := (r.hs s15).conv Try.underlying24 Try.underlying5 Try.underlying9
  have lk5 := x5.look q.id
  obtain ⟨av, cv', emg⟩ := (x5.sp q.id).form
  rw [emg] at lk5
  have n5h : h k5 = none := (s2.trans s3).trans s4 |>.none_of n5
  have n4h : h k4 = none := (s2.trans s3).none_of n4
  refine mk_of ?_; repeat' (first | (with_reducible first | refine gw_seq ?_ | refine gw_block ?_) | ((first | (with_reducible refine mk_to ?_) | (with_reducible first | refine gw_region ?_ | refine gw_if ?_ | refine gw_skip ?_ | refine gw_exit ?_ | refine gw_ret ?_) | ((with_reducible first | refine gif_b (fun hb => ?_) (fun hb => ?_) | refine want_t (fun hb => ?_) (fun hb => ?_) | refine want_f (fun hb => ?_) (fun hb => ?_) | refine dr_t (fun hb => ?_) (fun hb => ?_) | refine dr_f (fun hb => ?_) (fun hb => ?_)) <;> (try simp only [hb]) <;> (try simp only [hpr] at hb)) | with_reducible refine gw_draw (id := 2) [(0, []), (1, []), (2, []), (3, []), (4, []), (5, []), (6, []), (7, []), (8, [])] [0, 1, 3, 7, 0, 16, 48, 127, 255] mixed (by kernel_rfl) ?_ | with_reducible refine gw_draw (id := 8) [(0, []), (1, []), (2, []), (3, []), (4, []), (5, []), (6, []), (7, []), (8, []), (9, [])] [0, 0, 0, 7, 0, 0, 32, 112, 255, 511] mixed (by kernel_rfl) ?_) <;> try simp only [gop, gyield, gLenX, gNilM, gField, gIndexV, gPart, reduceIte, seval, Int.cast_ofNat_Int, stz, stp, isEff, sgl, sty, stq, Try.underlying89, ty23, ty24, ty36, ty68, ty83, ty88, ty62, ty65, ty70, ty91, ty97, ty29, ty3, ty4, ty5, ty63, ty89, ty9, rs77, gload1 m2 sz63, gload1 m3 sz24, gNil, gload1 x5.obj sz89, cv, lk5, List.getElem?_cons_zero, List.getElem?_cons_succ]))
  refine (c_Bwd N h5 av (sps 0 (M.map (·.2)) q.id).length cv').mono ?_
  rintro _ h6 ⟨⟨kb, rfl, mb, nb⟩, s6⟩
  have x6 := x5.hs s6
  have m26 := s6 _ _ m2
  have m36 := s6 _ _ m3
  have m46 := s6 _ _ m4
  have m56 := s6 _ _ m5
  have s16 := s15.trans s6
  have k5k : k5 ≠ k := fun z => by subst z; rw [x.obj] at n5h; cases n5h
  have k5j : k5 ≠ j + 1 := fun z => by subst z; rw [x.mp] at n5h; cases n5h
  have kb5 : kb ≠ k5 := (ne_of m5 nb).symm
  -- the base: all but the list
  have sb : HS h (hide k5 h6) := hide_of s16 n5h
  have xb : IM h0 (hide k5 h6) k j p ew cs l M ck n := x6.oth m56 rfl rfl (hide_ne h6) k5k k5j
  have hbn : hide k5 h6 k5 = none := hide_k k5 h6
  have sb6 : HS (hide k5 h6) h6 := hide_hs k5 h6
  have b2 := (hide_ne h6 _ k25).trans m26
  have b3 := (hide_ne h6 _ k35).trans m36
  have b4 := (hide_ne h6 _ k45).trans m46
  have bb := (hide_ne h6 _ kb5).trans mb
  generalize hide k5 h6 = hb at sb xb hbn sb6 b2 b3 b4 bb
  have rlS : ∀ {h' : GH}, HS hb h' → RL 1 Ep1 h' (.slice av (sps 0 (M.map (·.2)) q.id).length cv') (sps 0 (M.map (·.2)) q.id) := fun {h'} s => by
    have := epc_rl ((xb.hs s).sp q.id)
    rw [emg] at this
    exact this
  refine mk_of ?_; repeat' (first | (with_reducible first | refine gw_seq ?_ | refine gw_block ?_) | ((first | (with_reducible refine mk_to ?_) | (with_reducible first | refine gw_region ?_ | refine gw_if ?_ | refine gw_skip ?_ | refine gw_exit ?_ | refine gw_ret ?_) | ((with_reducible first | refine gif_b (fun hb => ?_) (fun hb => ?_) | refine want_t (fun hb => ?_) (fun hb => ?_) | refine want_f (fun hb => ?_) (fun hb => ?_) | refine dr_t (fun hb => ?_) (fun hb => ?_) | refine dr_f (fun hb => ?_) (fun hb => ?_)) <;> (try simp only [hb]) <;> (try simp only [hpr] at hb)) | with_reducible refine gw_draw (id := 2) [(0, []), (1, []), (2, []), (3, []), (4, []), (5, []), (6, []), (7, []), (8, [])] [0, 1, 3, 7, 0, 16, 48, 127, 255] mixed (by kernel_rfl) ?_ | with_reducible refine gw_draw (id := 8) [(0, []), (1, []), (2, []), (3, []), (4, []), (5, []), (6, []), (7, []), (8, []), (9, [])] [0, 0, 0, 7, 0, 0, 32, 112, 255, 511] mixed (by kernel_rfl) ?_) <;> try simp only [gop, gyield, gLenX, gNilM, gField, gIndexV, gPart, reduceIte, seval, Int.cast_ofNat_Int, stz, stp, isEff, sgl, sty, stq, Try.underlying89, ty23, ty24, ty36, ty68, ty83, ty88, ty62, ty65, ty70, ty91, ty97, ty29, ty3, ty4, ty5, ty63, ty89, ty9, rs77]))
  refine gw_range (gf := 137) (fb := [.pointer (some ⟨kb, 0, none⟩)]) (by simp [lk]) rfl (sps 0 (M.map (·.2)) q.id).length
    (VInv hb k5 (vacc M q (sps 0 (M.map (·.2)) q.id)))
    (fun i => (.int .i64 (i : Int), .int .i64 ((((sps 0 (M.map (·.2)) q.id)[i]?).getD (0, 0)).1 : Int))) ?_ (fun l' r' h2' hI y => c_bwd1 N l' r' (by omega) (VInv hb k5 (vacc M q (sps 0 (M.map (·.2)) q.id))) hI (fun i h' hI => ⟨hI.1 _ _ bb, rlS hI.1⟩) y) (fun i hi h7 hI => ?_) (fun h7 hI => ?_)
  · have e0 : vacc M q (sps 0 (M.map (·.2)) q.id) (sps 0 (M.map (·.2)) q.id).length = [] := by unfold vacc; rw [List.drop_length]; rfl
    unfold VInv
    rw [e0]
    exact ⟨sb6, none, 0, m56, [], OWNC.nil _ _ _, rfl, fun i p hp => by simp at hp⟩
  · obtain ⟨s7, a5, c5, m57, ig7⟩ := hI
    obtain ⟨pp, hpp⟩ := get_lt hi
    have hvs := vacc_step M q hpp
    have hvl := vacc_len M q (sps 0 (M.map (·.2)) q.id) (i + 1)
    have hpm := List.mem_of_getElem? hpp
    simp only [hpp, Option.getD_some, eput]
    have b27 := s7 _ _ b2
    have b37 := s7 _ _ b3
    cases hv1 : decide ((pp.1 : Int) > q.fr)
    case false =>
      have hv : vsel q pp = false := by unfold vsel; rw [hv1]; rfl
      rw [if_neg (by rw [hv]; simp), List.append_nil] at hvs
      refine mk_of ?_; repeat' (first | (with_reducible first | refine gw_seq ?_ | refine gw_block ?_) | ((first | (with_reducible refine mk_to ?_) | (with_reducible first | refine gw_region ?_ | refine gw_if ?_ | refine gw_skip ?_ | refine gw_exit ?_ | refine gw_ret ?_) | ((with_reducible first | refine gif_b (fun hb => ?_) (fun hb => ?_) | refine want_t (fun hb => ?_) (fun hb => ?_) | refine want_f (fun hb => ?_) (fun hb => ?_) | refine dr_t (fun hb => ?_) (fun hb => ?_) | refine dr_f (fun hb => ?_) (fun hb => ?_)) <;> (try simp only [hb]) <;> (try simp only [hpr] at hb)) | with_reducible refine gw_draw (id := 2) [(0, []), (1, []), (2, []), (3, []), (4, []), (5, []), (6, []), (7, []), (8, [])] [0, 1, 3, 7, 0, 16, 48, 127, 255] mixed (by kernel_rfl) ?_ | with_reducible refine gw_draw (id := 8) [(0, []), (1, []), (2, []), (3, []), (4, []), (5, []), (6, []), (7, []), (8, []), (9, [])] [0, 0, 0, 7, 0, 0, 32, 112, 255, 511] mixed (by kernel_rfl) ?_) <;> try simp only [gop, gyield, gLenX, gNilM, gField, gIndexV, gPart, reduceIte, seval, Int.cast_ofNat_Int, stz, stp, isEff, sgl, sty, stq, Try.underlying89, ty23, ty24, ty36, ty68, ty83, ty88, ty62, ty65, ty70, ty91, ty97, ty29, ty3, ty4, ty5, ty63, ty89, ty9, rs77, hv1, gPick, bq_n, gload1 b37 sz3, List.getElem?_cons_zero, List.getElem?_cons_succ]))
      refine ⟨s7, a5, c5, ?_, ?_⟩
      · rw [hvs]; exact m57
      · rw [hvs]; exact ig7
    cases hv2 : decide ((pp.1 : Int) ≤ q.to)
    case false =>
      have hv : vsel q pp = false := by unfold vsel; rw [hv2, Bool.and_false]
      rw [if_neg (by rw [hv]; simp), List.append_nil] at hvs
      refine mk_of ?_; repeat' (first | (with_reducible first | refine gw_seq ?_ | refine gw_block ?_) | ((first | (with_reducible refine mk_to ?_) | (with_reducible first | refine gw_region ?_ | refine gw_if ?_ | refine gw_skip ?_ | refine gw_exit ?_ | refine gw_ret ?_) | ((with_reducible first | refine gif_b (fun hb => ?_) (fun hb => ?_) | refine want_t (fun hb => ?_) (fun hb => ?_) | refine want_f (fun hb => ?_) (fun hb => ?_) | refine dr_t (fun hb => ?_) (fun hb => ?_) | refine dr_f (fun hb => ?_) (fun hb => ?_)) <;> (try simp only [hb]) <;> (try simp only [hpr] at hb)) | with_reducible refine gw_draw (id := 2) [(0, []), (1, []), (2, []), (3, []), (4, []), (5, []), (6, []), (7, []), (8, [])] [0, 1, 3, 7, 0, 16, 48, 127, 255] mixed (by kernel_rfl) ?_ | with_reducible refine gw_draw (id := 8) [(0, []), (1, []), (2, []), (3, []), (4, []), (5, []), (6, []), (7, []), (8, []), (9, [])] [0, 0, 0, 7, 0, 0, 32, 112, 255, 511] mixed (by kernel_rfl) ?_) <;> try simp only [gop, gyield, gLenX, gNilM, gField, gIndexV, gPart, reduceIte, seval, Int.cast_ofNat_Int, stz, stp, isEff, sgl, sty, stq, Try.underlying89, ty23, ty24, ty36, ty68, ty83, ty88, ty62, ty65, ty70, ty91, ty97, ty29, ty3, ty4, ty5, ty63, ty89, ty9, rs77, hv1, hv2, gPick, bq_n, gload1 b37 sz3, List.getElem?_cons_zero, List.getElem?_cons_succ]))
      refine ⟨s7, a5, c5, ?_, ?_⟩
      · rw [hvs]; exact m57
      · rw [hvs]; exact ig7
    have hv : vsel q pp = true := by unfold vsel; rw [hv1, hv2]; rfl
    rw [if_pos hv] at hvs
    refine mk_of ?_; repeat' (first | (with_reducible first | refine gw_seq ?_ | refine gw_block ?_) | ((first | (with_reducible refine mk_to ?_) | (with_reducible first | refine gw_region ?_ | refine gw_if ?_ | refine gw_skip ?_ | refine gw_exit ?_ | refine gw_ret ?_) | ((with_reducible first | refine gif_b (fun hb => ?_) (fun hb => ?_) | refine want_t (fun hb => ?_) (fun hb => ?_) | refine want_f (fun hb => ?_) (fun hb => ?_) | refine dr_t (fun hb => ?_) (fun hb => ?_) | refine dr_f (fun hb => ?_) (fun hb => ?_)) <;> (try simp only [hb]) <;> (try simp only [hpr] at hb)) | with_reducible refine gw_draw (id := 2) [(0, []), (1, []), (2, []), (3, []), (4, []), (5, []), (6, []), (7, []), (8, [])] [0, 1, 3, 7, 0, 16, 48, 127, 255] mixed (by kernel_rfl) ?_ | with_reducible refine gw_draw (id := 8) [(0, []), (1, []), (2, []), (3, []), (4, []), (5, []), (6, []), (7, []), (8, []), (9, [])] [0, 0, 0, 7, 0, 0, 32, 112, 255, 511] mixed (by kernel_rfl) ?_) <;> try simp only [gop, gyield, gLenX, gNilM, gField, gIndexV, gPart, reduceIte, seval, Int.cast_ofNat_Int, stz, stp, isEff, sgl, sty, stq, Try.underlying89, ty23, ty24, ty36, ty68, ty83, ty88, ty62, ty65, ty70, ty91, ty97, ty29, ty3, ty4, ty5, ty63, ty89, ty9, rs77, hv1, hv2, gPick, gload1 b37 sz3, gload1 b37 sz24, gload1 b27 sz63, List.getElem?_cons_zero, List.getElem?_cons_succ]))
    refine (c_iat N (xb.hs s7) ((r.hs sb).hs s7) hid (pp.1 : Int)).mono ?_
    rintro v8 h8 ⟨at8, s8⟩
    rw [atI_at hpm] at at8
    simp only [AtV] at at8
    obtain ⟨a8, c8, d8, e8, rfl, r8, r9⟩ := at8
    refine mk_of ?_; repeat' (first | (with_reducible first | refine gw_seq ?_ | refine gw_block ?_) | ((first | (with_reducible refine mk_to ?_) | (with_reducible first | refine gw_region ?_ | refine gw_if ?_ | refine gw_skip ?_ | refine gw_exit ?_ | refine gw_ret ?_) | ((with_reducible first | refine gif_b (fun hb => ?_) (fun hb => ?_) | refine want_t (fun hb => ?_) (fun hb => ?_) | refine want_f (fun hb => ?_) (fun hb => ?_) | refine dr_t (fun hb => ?_) (fun hb => ?_) | refine dr_f (fun hb => ?_) (fun hb => ?_)) <;> (try simp only [hb]) <;> (try simp only [hpr] at hb)) | with_reducible refine gw_draw (id := 2) [(0, []), (1, []), (2, []), (3, []), (4, []), (5, []), (6, []), (7, []), (8, [])] [0, 1, 3, 7, 0, 16, 48, 127, 255] mixed (by kernel_rfl) ?_ | with_reducible refine gw_draw (id := 8) [(0, []), (1, []), (2, []), (3, []), (4, []), (5, []), (6, []), (7, []), (8, []), (9, [])] [0, 0, 0, 7, 0, 0, 32, 112, 255, 511] mixed (by kernel_rfl) ?_) <;> try simp only [gop, gyield, gLenX, gNilM, gField, gIndexV, gPart, reduceIte, seval, Int.cast_ofNat_Int, stz, stp, isEff, sgl, sty, stq, Try.underlying89, ty23, ty24, ty36, ty68, ty83, ty88, ty62, ty65, ty70, ty91, ty97, ty29, ty3, ty4, ty5, ty63, ty89, ty9, rs77]))
    refine new_g fun k9 h9 m9 s9 f9 n9 => ?_
    refine mk_of ?_; repeat' (first | (with_reducible first | refine gw_seq ?_ | refine gw_block ?_) | ((first | (with_reducible refine mk_to ?_) | (with_reducible first | refine gw_region ?_ | refine gw_if ?_ | refine gw_skip ?_ | refine gw_exit ?_ | refine gw_ret ?_) | ((with_reducible first | refine gif_b (fun hb => ?_) (fun hb => ?_) | refine want_t (fun hb => ?_) (fun hb => ?_) | refine want_f (fun hb => ?_) (fun hb => ?_) | refine dr_t (fun hb => ?_) (fun hb => ?_) | refine dr_f (fun hb => ?_) (fun hb => ?_)) <;> (try simp only [hb]) <;> (try simp only [hpr] at hb)) | with_reducible refine gw_draw (id := 2) [(0, []), (1, []), (2, []), (3, []), (4, []), (5, []), (6, []), (7, []), (8, [])] [0, 1, 3, 7, 0, 16, 48, 127, 255] mixed (by kernel_rfl) ?_ | with_reducible refine gw_draw (id := 8) [(0, []), (1, []), (2, []), (3, []), (4, []), (5, []), (6, []), (7, []), (8, []), (9, [])] [0, 0, 0, 7, 0, 0, 32, 112, 255, 511] mixed (by kernel_rfl) ?_) <;> try simp only [gop, gyield, gLenX, gNilM, gField, gIndexV, gPart, reduceIte, seval, Int.cast_ofNat_Int, stz, stp, isEff, sgl, sty, stq, Try.underlying89, ty23, ty24, ty36, ty68, ty83, ty88, ty62, ty65, ty70, ty91, ty97, ty29, ty3, ty4, ty5, ty63, ty89, ty9, rs77]))
    refine st_all m9 sz97 rfl (by decide) rfl rfl rfl fun h10 m10 f10 => ?_
    have s10 : HS h8 h10 := (HS.refl h8).upd n9 (fun j hj => (f10 j hj).trans (f9 j hj))
    have s710 := s8.trans s10
    have m510 := s710 _ _ m57
    refine mk_of ?_; repeat' (first | (with_reducible first | refine gw_seq ?_ | refine gw_block ?_) | ((first | (with_reducible refine mk_to ?_) | (with_reducible first | refine gw_region ?_ | refine gw_if ?_ | refine gw_skip ?_ | refine gw_exit ?_ | refine gw_ret ?_) | ((with_reducible first | refine gif_b (fun hb => ?_) (fun hb => ?_) | refine want_t (fun hb => ?_) (fun hb => ?_) | refine want_f (fun hb => ?_) (fun hb => ?_) | refine dr_t (fun hb => ?_) (fun hb => ?_) | refine dr_f (fun hb => ?_) (fun hb => ?_)) <;> (try simp only [hb]) <;> (try simp only [hpr] at hb)) | with_reducible refine gw_draw (id := 2) [(0, []), (1, []), (2, []), (3, []), (4, []), (5, []), (6, []), (7, []), (8, [])] [0, 1, 3, 7, 0, 16, 48, 127, 255] mixed (by kernel_rfl) ?_ | with_reducible refine gw_draw (id := 8) [(0, []), (1, []), (2, []), (3, []), (4, []), (5, []), (6, []), (7, []), (8, []), (9, [])] [0, 0, 0, 7, 0, 0, 32, 112, 255, 511] mixed (by kernel_rfl) ?_) <;> try simp only [gop, gyield, gLenX, gNilM, gField, gIndexV, gPart, reduceIte, seval, Int.cast_ofNat_Int, stz, stp, isEff, sgl, sty, stq, Try.underlying89, ty23, ty24, ty36, ty68, ty83, ty88, ty62, ty65, ty70, ty91, ty97, ty29, ty3, ty4, ty5, ty63, ty89, ty9, rs77, gload1 m510 sz68, gloadA m10 sz97 rfl, List.getElem?_cons_zero, List.getElem?_cons_succ]))
    refine bsn1_g el68 rfl rfl (by decide) (by decide) rfl fun k12 h12 b12 s12 f12 n12 => ?_
    have s712 := s710.trans s12
    obtain ⟨ds, o7, u7, e7⟩ := ig7
    refine mk_of ?_; repeat' (first | (with_reducible first | refine gw_seq ?_ | refine gw_block ?_) | ((first | (with_reducible refine mk_to ?_) | (with_reducible first | refine gw_region ?_ | refine gw_if ?_ | refine gw_skip ?_ | refine gw_exit ?_ | refine gw_ret ?_) | ((with_reducible first | refine gif_b (fun hb => ?_) (fun hb => ?_) | refine want_t (fun hb => ?_) (fun hb => ?_) | refine want_f (fun hb => ?_) (fun hb => ?_) | refine dr_t (fun hb => ?_) (fun hb => ?_) | refine dr_f (fun hb => ?_) (fun hb => ?_)) <;> (try simp only [hb]) <;> (try simp only [hpr] at hb)) | with_reducible refine gw_draw (id := 2) [(0, []), (1, []), (2, []), (3, []), (4, []), (5, []), (6, []), (7, []), (8, [])] [0, 1, 3, 7, 0, 16, 48, 127, 255] mixed (by kernel_rfl) ?_ | with_reducible refine gw_draw (id := 8) [(0, []), (1, []), (2, []), (3, []), (4, []), (5, []), (6, []), (7, []), (8, []), (9, [])] [0, 0, 0, 7, 0, 0, 32, 112, 255, 511] mixed (by kernel_rfl) ?_) <;> try simp only [gop, gyield, gLenX, gNilM, gField, gIndexV, gPart, reduceIte, seval, Int.cast_ofNat_Int, stz, stp, isEff, sgl, sty, stq, Try.underlying89, ty23, ty24, ty36, ty68, ty83, ty88, ty62, ty65, ty70, ty91, ty97, ty29, ty3, ty4, ty5, ty63, ty89, ty9, rs77]))
    refine append_ownc el68 Try.underlying68 rfl (s7.trans s712) (o7.hs s712) b12 rfl rfl (by omega) (by simp only [maxLen]; omega) fun v13 h13 s13 fr13 o13 => ?_
    obtain ⟨a13, c13, rfl⟩ := o13.form
    have m513 := fr_es fr13 (s712 _ _ m57) (by simp)
    refine mk_of ?_; repeat' (first | (with_reducible first | refine gw_seq ?_ | refine gw_block ?_) | ((first | (with_reducible refine mk_to ?_) | (with_reducible first | refine gw_region ?_ | refine gw_if ?_ | refine gw_skip ?_ | refine gw_exit ?_ | refine gw_ret ?_) | ((with_reducible first | refine gif_b (fun hb => ?_) (fun hb => ?_) | refine want_t (fun hb => ?_) (fun hb => ?_) | refine want_f (fun hb => ?_) (fun hb => ?_) | refine dr_t (fun hb => ?_) (fun hb => ?_) | refine dr_f (fun hb => ?_) (fun hb => ?_)) <;> (try simp only [hb]) <;> (try simp only [hpr] at hb)) | with_reducible refine gw_draw (id := 2) [(0, []), (1, []), (2, []), (3, []), (4, []), (5, []), (6, []), (7, []), (8, [])] [0, 1, 3, 7, 0, 16, 48, 127, 255] mixed (by kernel_rfl) ?_ | with_reducible refine gw_draw (id := 8) [(0, []), (1, []), (2, []), (3, []), (4, []), (5, []), (6, []), (7, []), (8, []), (9, [])] [0, 0, 0, 7, 0, 0, 32, 112, 255, 511] mixed (by kernel_rfl) ?_) <;> try simp only [gop, gyield, gLenX, gNilM, gField, gIndexV, gPart, reduceIte, seval, Int.cast_ofNat_Int, stz, stp, isEff, sgl, sty, stq, Try.underlying89, ty23, ty24, ty36, ty68, ty83, ty88, ty62, ty65, ty70, ty91, ty97, ty29, ty3, ty4, ty5, ty63, ty89, ty9, rs77]))
    refine st_one m513 sz68 rfl (by simp) rfl rfl fun h14 m14 f14 => ?_
    simp only [List.set_cons_zero] at m14
    refine mk_of ?_; repeat' (first | (with_reducible first | refine gw_seq ?_ | refine gw_block ?_) | ((first | (with_reducible refine mk_to ?_) | (with_reducible first | refine gw_region ?_ | refine gw_if ?_ | refine gw_skip ?_ | refine gw_exit ?_ | refine gw_ret ?_) | ((with_reducible first | refine gif_b (fun hb => ?_) (fun hb => ?_) | refine want_t (fun hb => ?_) (fun hb => ?_) | refine want_f (fun hb => ?_) (fun hb => ?_) | refine dr_t (fun hb => ?_) (fun hb => ?_) | refine dr_f (fun hb => ?_) (fun hb => ?_)) <;> (try simp only [hb]) <;> (try simp only [hpr] at hb)) | with_reducible refine gw_draw (id := 2) [(0, []), (1, []), (2, []), (3, []), (4, []), (5, []), (6, []), (7, []), (8, [])] [0, 1, 3, 7, 0, 16, 48, 127, 255] mixed (by kernel_rfl) ?_ | with_reducible refine gw_draw (id := 8) [(0, []), (1, []), (2, []), (3, []), (4, []), (5, []), (6, []), (7, []), (8, []), (9, [])] [0, 0, 0, 7, 0, 0, 32, 112, 255, 511] mixed (by kernel_rfl) ?_) <;> try simp only [gop, gyield, gLenX, gNilM, gField, gIndexV, gPart, reduceIte, seval, Int.cast_ofNat_Int, stz, stp, isEff, sgl, sty, stq, Try.underlying89, ty23, ty24, ty36, ty68, ty83, ty88, ty62, ty65, ty70, ty91, ty97, ty29, ty3, ty4, ty5, ty63, ty89, ty9, rs77, bq_n]))
    have hx : HX k5 h13 h14 := fun j B n e => (f14 j n).trans e
    have keep : ∀ {z : List Value} {ee : Itm}, It h12 z ee → It h14 z ee := fun {z ee} w => by
      obtain ⟨a, c, b, d, e, r1, r2⟩ := w
      exact ⟨a, c, b, d, e, (fr_rb fr13 u7 r1).hx m513 rfl hx, (fr_rb fr13 u7 r2).hx m513 rfl hx⟩
    have hl1 : (vacc M q (sps 0 (M.map (·.2)) q.id) i).length = (vacc M q (sps 0 (M.map (·.2)) q.id) (i + 1)).length + 1 := by rw [hvs, List.length_append]; rfl
    refine ⟨s13.upd hbn f14, a13, c13, by rw [hl1]; exact m14, ds ++ [.slice a8 q.id.length c8, .slice d8 (keyOf (bOf M pp.1) q.id).length e8, .int .i64 (pp.1 : Int)], by rw [hl1]; exact o13.hx m513 (by simp) hx, by rw [List.all_append, u7]; rfl, ?_⟩
    rw [hvs]
    exact app_el (R := It h14) o7.len rfl (fun i p hp => keep ((e7 i p hp).hs s712)) (keep ⟨a8, c8, d8, e8, rfl, r8.hs (s10.trans s12), r9.hs (s10.trans s12)⟩)
  · obtain ⟨s7, a5, c5, m57, ig7⟩ := hI
    have hvl := vacc_len M q (sps 0 (M.map (·.2)) q.id) 0
    have eV : vacc M q (sps 0 (M.map (·.2)) q.id) 0 = versL M q := rfl
    rw [eV] at m57 ig7 hvl
    generalize versL M q = L at m57 ig7 hvl ⊢
    have b37 := s7 _ _ b3
    have b47 := s7 _ _ b4
    obtain ⟨lm, hlm⟩ : ∃ lm : Nat, q.lm = (lm : Int) := ⟨q.lm.toNat, by omega⟩
    have hlmt : q.lm.toNat = lm := by omega
    rw [hlm] at b37
    have rl7 := ig7.rl
    have mn : (if (lm : Int) < (L.length : Int) then (lm : Int) else (L.length : Int)) = ((min L.length lm : Nat) : Int) := by split <;> omega
    obtain ⟨a9, c9', e9, r9⟩ := rl7.cut3 (P := Try.prog) Try.underlying68 sz97 (m := min L.length lm) (Nat.min_le_left _ _)
    have htk : L.take (min L.length lm) = L.take lm := by
      rcases Nat.le_total L.length lm with h | h
      · rw [Nat.min_eq_left h, List.take_length, List.take_of_length_le h]
      · rw [Nat.min_eq_right h]
    have dm : decide (((min L.length lm : Nat) : Int) < (L.length : Int)) = decide (lm < L.length) := by
      by_cases h : lm < L.length
      · rw [decide_eq_true h, decide_eq_true (by omega)]
      · rw [decide_eq_false h, decide_eq_false (by omega)]
    refine mk_of ?_; repeat' (first | (with_reducible first | refine gw_seq ?_ | refine gw_block ?_) | ((first | (with_reducible refine mk_to ?_) | (with_reducible first | refine gw_region ?_ | refine gw_if ?_ | refine gw_skip ?_ | refine gw_exit ?_ | refine gw_ret ?_) | ((with_reducible first | refine gif_b (fun hb => ?_) (fun hb => ?_) | refine want_t (fun hb => ?_) (fun hb => ?_) | refine want_f (fun hb => ?_) (fun hb => ?_) | refine dr_t (fun hb => ?_) (fun hb => ?_) | refine dr_f (fun hb => ?_) (fun hb => ?_)) <;> (try simp only [hb]) <;> (try simp only [hpr] at hb)) | with_reducible refine gw_draw (id := 2) [(0, []), (1, []), (2, []), (3, []), (4, []), (5, []), (6, []), (7, []), (8, [])] [0, 1, 3, 7, 0, 16, 48, 127, 255] mixed (by kernel_rfl) ?_ | with_reducible refine gw_draw (id := 8) [(0, []), (1, []), (2, []), (3, []), (4, []), (5, []), (6, []), (7, []), (8, []), (9, [])] [0, 0, 0, 7, 0, 0, 32, 112, 255, 511] mixed (by kernel_rfl) ?_) <;> try simp only [gop, gyield, gLenX, gNilM, gField, gIndexV, gPart, reduceIte, seval, Int.cast_ofNat_Int, stz, stp, isEff, sgl, sty, stq, Try.underlying89, ty23, ty24, ty36, ty68, ty83, ty88, ty62, ty65, ty70, ty91, ty97, ty29, ty3, ty4, ty5, ty63, ty89, ty9, rs77, mn, e9, dm, gload1 m57 sz68, gload1 b37 sz3, List.getElem?_cons_zero, List.getElem?_cons_succ, gBuild, lfill, lput, Shape.pl, List.all_cons, List.all_nil, isCell]))
    refine st_all b47 sz70 rfl (by decide) rfl rfl rfl fun h8 m8 f8 => ?_
    refine mk_of ?_; repeat' (first | (with_reducible first | refine gw_seq ?_ | refine gw_block ?_) | ((first | (with_reducible refine mk_to ?_) | (with_reducible first | refine gw_region ?_ | refine gw_if ?_ | refine gw_skip ?_ | refine gw_exit ?_ | refine gw_ret ?_) | ((with_reducible first | refine gif_b (fun hb => ?_) (fun hb => ?_) | refine want_t (fun hb => ?_) (fun hb => ?_) | refine want_f (fun hb => ?_) (fun hb => ?_) | refine dr_t (fun hb => ?_) (fun hb => ?_) | refine dr_f (fun hb => ?_) (fun hb => ?_)) <;> (try simp only [hb]) <;> (try simp only [hpr] at hb)) | with_reducible refine gw_draw (id := 2) [(0, []), (1, []), (2, []), (3, []), (4, []), (5, []), (6, []), (7, []), (8, [])] [0, 1, 3, 7, 0, 16, 48, 127, 255] mixed (by kernel_rfl) ?_ | with_reducible refine gw_draw (id := 8) [(0, []), (1, []), (2, []), (3, []), (4, []), (5, []), (6, []), (7, []), (8, []), (9, [])] [0, 0, 0, 7, 0, 0, 32, 112, 255, 511] mixed (by kernel_rfl) ?_) <;> try simp only [gop, gyield, gLenX, gNilM, gField, gIndexV, gPart, reduceIte, seval, Int.cast_ofNat_Int, stz, stp, isEff, sgl, sty, stq, Try.underlying89, ty23, ty24, ty36, ty68, ty83, ty88, ty62, ty65, ty70, ty91, ty97, ty29, ty3, ty4, ty5, ty63, ty89, ty9, rs77, gloadA m8 sz70 rfl]))
    have hx : HX k4 h7 h8 := fun j B n e => (f8 j n).trans e
    refine ⟨?_, (sb.trans s7).upd n4h f8⟩
    unfold diffA
    rw [hlmt]
    have hln : (L.take lm).length = min L.length lm := by rw [List.length_take, Nat.min_comm]
    rw [htk] at r9
    rw [← hln] at r9 ⊢
    refine ⟨none, 0, a9, c9', none, 0, rfl, RB.nil h8, r9.hxR b47 ⟨rfl, rfl⟩ hx fun cs y r => ?_, RL.nil h8⟩
    obtain ⟨a, c, b, d, e, r1, r2⟩ := r
    exact ⟨a, c, b, d, e, r1.hx b47 rfl hx, r2.hx b47 rfl hx⟩
end Go.Gh

/- Ideal: what counts at a time. -/

namespace Go.Gh
open Go Go.Proofs Go.RowKit
set_option linter.unusedVariables false
set_option linter.unusedSimpArgs false
set_option maxRecDepth 100000
set_option maxHeartbeats 4000000

/-- An epoch in memory. -/
def Ep2 (_ : GH) (cs : List Value) (x : Int × List Bnd) : Prop := ∃ a c, cs = [.int .i64 x.1, .slice a x.2.length c]
theorem IM.rle {h0 h : GH} {k j : Nat} {p : Pm} {ew : Value} {cs l : List Value} {M : List (Int × List Bnd)} {ck : Int} {n : Nat} (x : IM h0 h k j p ew cs l M ck n) : RL 2 Ep2 h ew M := by
  obtain ⟨kb, c, tl, h1, h2, h3, h4, h5, h6⟩ := x.ep
  refine .inr ⟨_, c, cs, h1, gread_lit h4 (o := 0) (by rw [List.drop_zero]; exact List.take_of_length_le (by show cs.length ≤ _; omega)) h3, by omega, fun i y hy => ?_, .inr ⟨_, h4, .inl (by show 2 ≠ 0; decide)⟩⟩
  obtain ⟨v, e, bt⟩ := x.eps i y hy
  obtain ⟨ds, o, _⟩ := bt
  obtain ⟨a, c, rfl⟩ := o.form
  exact ⟨a, c, e⟩
/-- So many are of times up to one. -/
def WU (s : List (Int × List Bnd)) (t : Int) (n : Nat) : Prop := n ≤ s.length ∧ ∀ (i : Nat) (p : Int × List Bnd), s[i]? = some p → (i < n ↔ p.1 ≤ t)
theorem WU.uniq {s : List (Int × List Bnd)} {t : Int} {n m : Nat} (a : WU s t n) (b : WU s t m) : n = m := by
  have key : ∀ {n m : Nat}, WU s t n → WU s t m → ¬ n < m := fun {n m} a b hlt => by
    have hn : n < s.length := Nat.lt_of_lt_of_le hlt b.1
    have hx : s[n]? = some s[n] := List.getElem?_eq_getElem hn
    have h1 := (b.2 n _ hx).1 hlt
    have := (a.2 n _ hx).2 h1
    omega
  have h1 := key a b
  have h2 := key b a
  omega
theorem pw_le {s : List (Int × List Bnd)} (hs : s.Pairwise fun a b => a.1 ≤ b.1) {i j : Nat} {p q : Int × List Bnd} (hij : i ≤ j) (hp : s[i]? = some p) (hq : s[j]? = some q) : p.1 ≤ q.1 := by
  have h1 := List.getElem?_eq_some_iff.1 hp
  have h2 := List.getElem?_eq_some_iff.1 hq
  rcases Nat.lt_or_ge i j with h | h
  · have := List.pairwise_iff_getElem.1 hs i j h1.1 h2.1 h
    rw [h1.2, h2.2] at this
    exact this
  · obtain rfl : i = j := by omega
    rw [hp] at hq; cases hq
    exact Int.le_refl _
theorem c_when1 (N : Nat) (h : GH) (t : Int) (a : Option Addr) (n c : Nat) (e : Int) : GTri Try.prog N 110 [.agg #[.int .i64 t, .slice a n c], .int .i64 e] h fun v h' => v = .int .i64 (if t ≤ e then -1 else 1) ∧ HS h h' := by
  refine gtri Try.func110 rfl gf110 ok110 (by simp [Try.ntmps110]) ?_
  repeat' (first | (with_reducible first | refine gw_seq ?_ | refine gw_block ?_) | ((first | (with_reducible first | refine gw_region ?_ | refine gw_if ?_ | refine gw_skip ?_ | refine gw_exit ?_ | refine gw_ret ?_) | ((with_reducible first | refine gif_b (fun hb => ?_) (fun hb => ?_) | refine want_t (fun hb => ?_) (fun hb => ?_) | refine want_f (fun hb => ?_) (fun hb => ?_)) <;> (try simp only [hb]) <;> (try simp only [hpr] at hb))) <;> try simp only [gop, gyield, gLenX, gNilM, gField, gIndexV, gPart, reduceIte, seval, Int.cast_ofNat_Int, stz, stp, ty23, ty136, ty3, rs110]))
  refine box_g rfl fun k1 h1 m1 s1 f1 n1 => ?_
  by_cases hae : t ≤ e
  · have d : decide (t ≤ e) = true := decide_eq_true hae
    refine mk_of ?_; repeat' (first | (with_reducible first | refine gw_seq ?_ | refine gw_block ?_) | ((first | (with_reducible refine mk_to ?_) | (with_reducible first | refine gw_region ?_ | refine gw_if ?_ | refine gw_skip ?_ | refine gw_exit ?_ | refine gw_ret ?_) | ((with_reducible first | refine gif_b (fun hb => ?_) (fun hb => ?_) | refine want_t (fun hb => ?_) (fun hb => ?_) | refine want_f (fun hb => ?_) (fun hb => ?_)) <;> (try simp only [hb]) <;> (try simp only [hpr] at hb))) <;> try simp only [gop, gyield, gLenX, gNilM, gField, gIndexV, gPart, reduceIte, seval, Int.cast_ofNat_Int, stz, stp, ty23, ty136, ty3, rs110, gload1 m1 sz3, d, List.getElem?_cons_zero]))
    exact ⟨by rw [if_pos hae], s1⟩
  · have d : decide (t ≤ e) = false := decide_eq_false hae
    refine mk_of ?_; repeat' (first | (with_reducible first | refine gw_seq ?_ | refine gw_block ?_) | ((first | (with_reducible refine mk_to ?_) | (with_reducible first | refine gw_region ?_ | refine gw_if ?_ | refine gw_skip ?_ | refine gw_exit ?_ | refine gw_ret ?_) | ((with_reducible first | refine gif_b (fun hb => ?_) (fun hb => ?_) | refine want_t (fun hb => ?_) (fun hb => ?_) | refine want_f (fun hb => ?_) (fun hb => ?_)) <;> (try simp only [hb]) <;> (try simp only [hpr] at hb))) <;> try simp only [gop, gyield, gLenX, gNilM, gField, gIndexV, gPart, reduceIte, seval, Int.cast_ofNat_Int, stz, stp, ty23, ty136, ty3, rs110, gload1 m1 sz3, d, List.getElem?_cons_zero]))
    exact ⟨by rw [if_neg hae], s1⟩
theorem c_bse (N : Nat) (h : GH) {v : Value} {s : List (Int × List Bnd)} (r : RL 2 Ep2 h v s) (hl : s.length ≤ 140737488355328) (hs : s.Pairwise fun a b => a.1 ≤ b.1) (e : Int) : GTri Try.prog N 109 [v, .int .i64 e, .func (.func 110) #[] #[]] h fun v h' =>
    (∃ (n : Nat) (b : Bool), v = .tuple #[.int .i64 (n : Int), .bool b] ∧ WU s e n) ∧ HS h h' := by
  obtain ⟨a, c, rfl, _⟩ := r.form
  refine gtri Try.func109 rfl gf109 ok109 (by simp [Try.ntmps109]) ?_
  repeat' (first | (with_reducible first | refine gw_seq ?_ | refine gw_block ?_) | ((first | (with_reducible first | refine gw_region ?_ | refine gw_if ?_ | refine gw_skip ?_ | refine gw_exit ?_ | refine gw_ret ?_) | ((with_reducible first | refine gif_b (fun hb => ?_) (fun hb => ?_) | refine want_t (fun hb => ?_) (fun hb => ?_) | refine want_f (fun hb => ?_) (fun hb => ?_)) <;> (try simp only [hb]) <;> (try simp only [hpr] at hb))) <;> try simp only [gop, gyield, gLenX, gNilM, gField, gIndexV, gPart, reduceIte, seval, Int.cast_ofNat_Int, stz, stp, cv3_56, cv56_3, ty23, ty88, ty136, ty3, ty56, rs109]))
  refine gw_loop2 [0, 1, 2, 6, 7, 8] (fun (x : Nat × Nat) => [(9, .int .i64 (x.1 : Int)), (10, .int .i64 (x.2 : Int))])
    (fun q x h' => x.2 - x.1 = q ∧ x.1 ≤ x.2 ∧ x.2 ≤ s.length ∧ HS h h' ∧ (∀ (i : Nat) (p : Int × List Bnd), s[i]? = some p → i < x.1 → p.1 ≤ e) ∧ (∀ (i : Nat) (p : Int × List Bnd), s[i]? = some p → x.2 ≤ i → ¬ p.1 ≤ e)) s.length (0, s.length) (by simp [lk])
    ⟨by simp, by simp, by simp, HS.refl h, (fun i p _ hi => by simp at hi), fun i p hi hl => by have := (List.getElem?_eq_some_iff.1 hi).1; simp only at hl; omega⟩ ?_
  rintro _ ⟨i, j⟩ h1 ⟨rfl, hij, hj, s1, lo, hi⟩
  simp only at hij hj lo hi
  by_cases hlt : i < j
  case neg =>
    obtain rfl : i = j := by omega
    have d : decide ((i : Int) < (i : Int)) = false := decide_eq_false (by omega)
    have up : WU s e i := ⟨hj, fun q p hq => ⟨fun h => lo q p hq h, fun h => by
      rcases Nat.lt_or_ge q i with h' | h'
      · exact h'
      · exact absurd h (hi q p hq h')⟩⟩
    by_cases hil : i < s.length
    · have d2 : decide ((i : Int) < (s.length : Int)) = true := decide_eq_true (by omega)
      obtain ⟨p, hp⟩ : ∃ p, s[i]? = some p := ⟨_, List.getElem?_eq_getElem hil⟩
      obtain ⟨ad, cs2, g1, g2, ay, cy, rfl⟩ := (r.hcR s1.hc (fun _ _ h => h)).at (P := Try.prog) Try.underlying88 sz136 hp
      have l4 : gLoad Try.prog 136 h1 (.pointer (some ad)) = some (.agg #[.int .i64 p.1, .slice ay p.2.length cy]) := by simp only [gLoad, sz136, g2]; rfl
      refine mk_of ?_; repeat' (first | (with_reducible first | refine gw_seq ?_ | refine gw_block ?_) | ((first | (with_reducible refine mk_to ?_) | (with_reducible first | refine gw_region ?_ | refine gw_if ?_ | refine gw_skip ?_ | refine gw_exit ?_ | refine gw_ret ?_) | ((with_reducible first | refine gif_b (fun hb => ?_) (fun hb => ?_) | refine want_t (fun hb => ?_) (fun hb => ?_) | refine want_f (fun hb => ?_) (fun hb => ?_)) <;> (try simp only [hb]) <;> (try simp only [hpr] at hb))) <;> try simp only [gop, gyield, gLenX, gNilM, gField, gIndexV, gPart, reduceIte, seval, Int.cast_ofNat_Int, stz, stp, cv3_56, cv56_3, ty23, ty88, ty136, ty3, ty56, rs109, d, d2, g1, l4, gPick]))
      refine (c_when1 N h1 p.1 ay p.2.length cy e).mono ?_
      rintro _ h2 ⟨rfl, s2⟩
      refine mk_of ?_; repeat' (first | (with_reducible first | refine gw_seq ?_ | refine gw_block ?_) | ((first | (with_reducible refine mk_to ?_) | (with_reducible first | refine gw_region ?_ | refine gw_if ?_ | refine gw_skip ?_ | refine gw_exit ?_ | refine gw_ret ?_) | ((with_reducible first | refine gif_b (fun hb => ?_) (fun hb => ?_) | refine want_t (fun hb => ?_) (fun hb => ?_) | refine want_f (fun hb => ?_) (fun hb => ?_)) <;> (try simp only [hb]) <;> (try simp only [hpr] at hb))) <;> try simp only [gop, gyield, gLenX, gNilM, gField, gIndexV, gPart, reduceIte, seval, Int.cast_ofNat_Int, stz, stp, cv3_56, cv56_3, ty23, ty88, ty136, ty3, ty56, rs109, gPick]))
      exact ⟨⟨i, _, rfl, up⟩, s1.trans s2⟩
    · have d2 : decide ((i : Int) < (s.length : Int)) = false := decide_eq_false (by omega)
      refine mk_of ?_; repeat' (first | (with_reducible first | refine gw_seq ?_ | refine gw_block ?_) | ((first | (with_reducible refine mk_to ?_) | (with_reducible first | refine gw_region ?_ | refine gw_if ?_ | refine gw_skip ?_ | refine gw_exit ?_ | refine gw_ret ?_) | ((with_reducible first | refine gif_b (fun hb => ?_) (fun hb => ?_) | refine want_t (fun hb => ?_) (fun hb => ?_) | refine want_f (fun hb => ?_) (fun hb => ?_)) <;> (try simp only [hb]) <;> (try simp only [hpr] at hb))) <;> try simp only [gop, gyield, gLenX, gNilM, gField, gIndexV, gPart, reduceIte, seval, Int.cast_ofNat_Int, stz, stp, cv3_56, cv56_3, ty23, ty88, ty136, ty3, ty56, rs109, d, d2, gPick]))
      exact ⟨⟨i, _, rfl, up⟩, s1⟩
  have d : decide ((i : Int) < (j : Int)) = true := decide_eq_true (by omega)
  have w1 : IntKind.i64.wrap ((i : Int) + (j : Int)) = ((i + j : Nat) : Int) := by rw [wrap64 (by omega) (by omega)]; omega
  have w2 : IntKind.u64.wrap ((i + j : Nat) : Int) = ((i + j : Nat) : Int) := wrapu64 (by omega) (by omega)
  have w3 : IntKind.i64.wrap (((i + j) / 2 : Nat) : Int) = (((i + j) / 2 : Nat) : Int) := wrap64 (by omega) (by omega)
  have w4 : IntKind.i64.wrap ((((i + j) / 2 : Nat) : Int) + 1) = (((i + j) / 2 + 1 : Nat) : Int) := by rw [wrap64 (by omega) (by omega)]; omega
  have sh := shr1 (i + j) IntKind.u64.bits rfl
  have hm : (i + j) / 2 < s.length := by omega
  obtain ⟨p, hp⟩ : ∃ p, s[(i + j) / 2]? = some p := ⟨_, List.getElem?_eq_getElem hm⟩
  obtain ⟨ad, cs2, g1, g2, ay, cy, rfl⟩ := (r.hcR s1.hc (fun _ _ h => h)).at (P := Try.prog) Try.underlying88 sz136 hp
  have l4 : gLoad Try.prog 136 h1 (.pointer (some ad)) = some (.agg #[.int .i64 p.1, .slice ay p.2.length cy]) := by simp only [gLoad, sz136, g2]; rfl
  refine mk_of ?_; repeat' (first | (with_reducible first | refine gw_seq ?_ | refine gw_block ?_) | ((first | (with_reducible refine mk_to ?_) | (with_reducible first | refine gw_region ?_ | refine gw_if ?_ | refine gw_skip ?_ | refine gw_exit ?_ | refine gw_ret ?_) | ((with_reducible first | refine gif_b (fun hb => ?_) (fun hb => ?_) | refine want_t (fun hb => ?_) (fun hb => ?_) | refine want_f (fun hb => ?_) (fun hb => ?_)) <;> (try simp only [hb]) <;> (try simp only [hpr] at hb))) <;> try simp only [gop, gyield, gLenX, gNilM, gField, gIndexV, gPart, reduceIte, seval, Int.cast_ofNat_Int, stz, stp, cv3_56, cv56_3, ty23, ty88, ty136, ty3, ty56, rs109, d, w1, w2, w3, sh, g1, l4]))
  refine (c_when1 N h1 p.1 ay p.2.length cy e).mono ?_
  rintro _ h2 ⟨rfl, s2⟩
  by_cases hpe : p.1 ≤ e
  · have d3 : decide ((-1 : Int) < 0) = true := rfl
    refine mk_of ?_; repeat' (first | (with_reducible first | refine gw_seq ?_ | refine gw_block ?_) | ((first | (with_reducible refine mk_to ?_) | (with_reducible first | refine gw_region ?_ | refine gw_if ?_ | refine gw_skip ?_ | refine gw_exit ?_ | refine gw_ret ?_) | ((with_reducible first | refine gif_b (fun hb => ?_) (fun hb => ?_) | refine want_t (fun hb => ?_) (fun hb => ?_) | refine want_f (fun hb => ?_) (fun hb => ?_)) <;> (try simp only [hb]) <;> (try simp only [hpr] at hb))) <;> try simp only [gop, gyield, gLenX, gNilM, gField, gIndexV, gPart, reduceIte, seval, Int.cast_ofNat_Int, stz, stp, cv3_56, cv56_3, ty23, ty88, ty136, ty3, ty56, rs109, if_pos hpe, d3, w4]))
    refine ⟨_, ((i + j) / 2 + 1, j), ?_, (by simp only [List.forall_mem_cons, List.not_mem_nil, false_implies, implies_true, List.map, List.cons_append, List.nil_append, lk, Nat.reduceEqDiff, reduceIte, and_true, true_and]), rfl, by omega, hj, s1.trans s2, fun q p' hq hlt' => ?_, hi⟩
    · simp only; omega
    · have := pw_le hs (i := q) (j := (i + j) / 2) (by simp only at hlt'; omega) hq hp
      omega
  · have d3 : decide ((1 : Int) < 0) = false := rfl
    refine mk_of ?_; repeat' (first | (with_reducible first | refine gw_seq ?_ | refine gw_block ?_) | ((first | (with_reducible refine mk_to ?_) | (with_reducible first | refine gw_region ?_ | refine gw_if ?_ | refine gw_skip ?_ | refine gw_exit ?_ | refine gw_ret ?_) | ((with_reducible first | refine gif_b (fun hb => ?_) (fun hb => ?_) | refine want_t (fun hb => ?_) (fun hb => ?_) | refine want_f (fun hb => ?_) (fun hb => ?_)) <;> (try simp only [hb]) <;> (try simp only [hpr] at hb))) <;> try simp only [gop, gyield, gLenX, gNilM, gField, gIndexV, gPart, reduceIte, seval, Int.cast_ofNat_Int, stz, stp, cv3_56, cv56_3, ty23, ty88, ty136, ty3, ty56, rs109, if_neg hpe, d3]))
    refine ⟨_, (i, (i + j) / 2), ?_, (by simp only [List.forall_mem_cons, List.not_mem_nil, false_implies, implies_true, List.map, List.cons_append, List.nil_append, lk, Nat.reduceEqDiff, reduceIte, and_true, true_and]), rfl, by omega, by omega, s1.trans s2, lo, fun q p' hq hle => ?_⟩
    · simp only; omega
    · have := pw_le hs (i := (i + j) / 2) (j := q) hle hp hq
      omega


/-- What a time is answered. -/
def WhenR (M : List (Int × List Bnd)) (q : Ak) (A : An) : Prop := ∃ n, WU (M.take (q.to.toNat + 1)) q.tm n ∧ A = if n = 0 then { code := 86 } else { asofA M q.id ((n - 1 : Nat) : Int) with ep := ((n - 1 : Nat) : Int) }
theorem c_when (N : Nat) {h0 h : GH} {k j : Nat} {p : Pm} {ew : Value} {cs l : List Value} {M : List (Int × List Bnd)} {ck : Int} {n : Nat} (x : IM h0 h k j p ew cs l M ck n) {a : Option Addr} {c : Nat} (q : Ak) (r : RB h (.slice a q.id.length c) q.id) (hid : q.id.length ≤ 140737488355328) (ht0 : 0 ≤ q.to) (ht1 : q.to < (M.length : Int))
    {c0 c2 c5 c6 c7 c8 c9 : Value} (hc : [c0, c2, c5, c6, c7, c8, c9].all isCell = true) :
    GTri Try.prog N 73 [.pointer (some ⟨k, 0, none⟩), .agg #[c0, .slice a q.id.length c, c2, .int .i64 q.to, .int .i64 q.tm, c5, c6, c7, c8, c9]] h fun v h' => (∃ A, WhenR M q A ∧ RAn h' v A) ∧ HS h h' := by
  have hML := x.len
  obtain ⟨to, hto⟩ : ∃ to : Nat, q.to = (to : Int) := ⟨q.to.toNat, by omega⟩
  have htn : q.to.toNat = to := by omega
  obtain ⟨ae, ce, ee⟩ := x.ep.form
  refine gtri Try.func73 rfl gf73 ok73 (by simp [Try.ntmps73]) ?_
  repeat' (first | (with_reducible first | refine gw_seq ?_ | refine gw_block ?_) | ((first | (with_reducible first | refine gw_region ?_ | refine gw_if ?_ | refine gw_skip ?_ | refine gw_exit ?_ | refine gw_ret ?_) | ((with_reducible first | refine gif_b (fun hb => ?_) (fun hb => ?_) | refine want_t (fun hb => ?_) (fun hb => ?_) | refine want_f (fun hb => ?_) (fun hb => ?_) | refine dr_t (fun hb => ?_) (fun hb => ?_) | refine dr_f (fun hb => ?_) (fun hb => ?_)) <;> (try simp only [hb]) <;> (try simp only [hpr] at hb)) | with_reducible refine gw_draw (id := 1) [(0, []), (1, []), (2, []), (3, []), (4, []), (5, []), (6, []), (7, []), (8, []), (9, []), (10, []), (11, []), (12, []), (13, []), (14, []), (15, [])] [0, 1, 3, 7, 0, 16, 48, 127, 0, 256, 1023, 2047, 4095, 4095, 8191, 32767] mixed (by kernel_rfl) ?_) <;> try simp only [gop, gyield, gLenX, gNilM, gField, gIndexV, gPart, reduceIte, seval, Int.cast_ofNat_Int, stz, stp, isEff, sgl, sty, stq, Try.underlying155, Try.underlying89, ty23, ty24, ty36, ty68, ty88, ty136, ty62, ty65, ty70, ty91, ty155, ty29, ty3, ty4, ty63, ty89, rs73]))
  refine box_g (by simpa [isCell] using hc) fun k3 h3 m3 s3 f3 n3 => ?_
  refine mk_of ?_; repeat' (first | (with_reducible first | refine gw_seq ?_ | refine gw_block ?_) | ((first | (with_reducible refine mk_to ?_) | (with_reducible first | refine gw_region ?_ | refine gw_if ?_ | refine gw_skip ?_ | refine gw_exit ?_ | refine gw_ret ?_) | ((with_reducible first | refine gif_b (fun hb => ?_) (fun hb => ?_) | refine want_t (fun hb => ?_) (fun hb => ?_) | refine want_f (fun hb => ?_) (fun hb => ?_) | refine dr_t (fun hb => ?_) (fun hb => ?_) | refine dr_f (fun hb => ?_) (fun hb => ?_)) <;> (try simp only [hb]) <;> (try simp only [hpr] at hb)) | with_reducible refine gw_draw (id := 1) [(0, []), (1, []), (2, []), (3, []), (4, []), (5, []), (6, []), (7, []), (8, []), (9, []), (10, []), (11, []), (12, []), (13, []), (14, []), (15, [])] [0, 1, 3, 7, 0, 16, 48, 127, 0, 256, 1023, 2047, 4095, 4095, 8191, 32767] mixed (by kernel_rfl) ?_) <;> try simp only [gop, gyield, gLenX, gNilM, gField, gIndexV, gPart, reduceIte, seval, Int.cast_ofNat_Int, stz, stp, isEff, sgl, sty, stq, Try.underlying155, Try.underlying89, ty23, ty24, ty36, ty68, ty88, ty136, ty62, ty65, ty70, ty91, ty155, ty29, ty3, ty4, ty63, ty89, rs73]))
  refine new_g fun k4 h4 m4 s4 f4 n4 => ?_
  replace m3 := s4 _ _ m3
  have s14 := s3.trans s4
  have x4 := x.hs s14
  have n4h := s3.none_of n4
  have ho := x4.obj
  rw [ee] at ho
  have rle := IM.rle x4
  rw [ee] at rle
  obtain ⟨a5, c5', e5, r5⟩ := rle.cut (P := Try.prog) Try.underlying88 sz136 (m := to + 1) (by omega)
  have e5' := fun h' => gSlice_any (P := Try.prog) Try.underlying88 sz136 h4 h' e5
  have w1 : IntKind.i64.wrap ((to : Int) + 1) = ((to + 1 : Nat) : Int) := by rw [wrap64 (by omega) (by omega)]; omega
  have hlt : (M.take (to + 1)).length = to + 1 := by rw [List.length_take]; omega
  rw [hto] at m3
  refine mk_of ?_; repeat' (first | (with_reducible first | refine gw_seq ?_ | refine gw_block ?_) | ((first | (with_reducible refine mk_to ?_) | (with_reducible first | refine gw_region ?_ | refine gw_if ?_ | refine gw_skip ?_ | refine gw_exit ?_ | refine gw_ret ?_) | ((with_reducible first | refine gif_b (fun hb => ?_) (fun hb => ?_) | refine want_t (fun hb => ?_) (fun hb => ?_) | refine want_f (fun hb => ?_) (fun hb => ?_) | refine dr_t (fun hb => ?_) (fun hb => ?_) | refine dr_f (fun hb => ?_) (fun hb => ?_)) <;> (try simp only [hb]) <;> (try simp only [hpr] at hb)) | with_reducible refine gw_draw (id := 1) [(0, []), (1, []), (2, []), (3, []), (4, []), (5, []), (6, []), (7, []), (8, []), (9, []), (10, []), (11, []), (12, []), (13, []), (14, []), (15, [])] [0, 1, 3, 7, 0, 16, 48, 127, 0, 256, 1023, 2047, 4095, 4095, 8191, 32767] mixed (by kernel_rfl) ?_) <;> try simp only [gop, gyield, gLenX, gNilM, gField, gIndexV, gPart, reduceIte, seval, Int.cast_ofNat_Int, stz, stp, isEff, sgl, sty, stq, Try.underlying155, Try.underlying89, ty23, ty24, ty36, ty68, ty88, ty136, ty62, ty65, ty70, ty91, ty155, ty29, ty3, ty4, ty63, ty89, rs73, gNil, gload1 ho sz88, gload1 m3 sz3, w1, e5', List.getElem?_cons_zero, List.getElem?_cons_succ]))
  have pw := x.ks.2.2.2.1.sublist (List.take_sublist (to + 1) M)
  refine (c_bse N h4 (v := .slice a5 (to + 1) c5') r5 (by omega) pw q.tm).mono ?_
  rintro _ h6 ⟨⟨n6, b6, rfl, wu⟩, s6⟩
  have m36 := s6 _ _ m3
  have m46 := s6 _ _ m4
  have hwr : ∀ A, A = (if n6 = 0 then { code := 86 } else { asofA M q.id ((n6 - 1 : Nat) : Int) with ep := ((n6 - 1 : Nat) : Int) } : An) → WhenR M q A := fun A e => ⟨n6, by rw [htn]; exact wu, e⟩
  by_cases hn : n6 = 0
  · subst hn
    have d0 : (((0 : Nat) : Int) == 0) = true := rfl
    refine mk_of ?_; repeat' (first | (with_reducible first | refine gw_seq ?_ | refine gw_block ?_) | ((first | (with_reducible refine mk_to ?_) | (with_reducible first | refine gw_region ?_ | refine gw_if ?_ | refine gw_skip ?_ | refine gw_exit ?_ | refine gw_ret ?_) | ((with_reducible first | refine gif_b (fun hb => ?_) (fun hb => ?_) | refine want_t (fun hb => ?_) (fun hb => ?_) | refine want_f (fun hb => ?_) (fun hb => ?_) | refine dr_t (fun hb => ?_) (fun hb => ?_) | refine dr_f (fun hb => ?_) (fun hb => ?_)) <;> (try simp only [hb]) <;> (try simp only [hpr] at hb)) | with_reducible refine gw_draw (id := 1) [(0, []), (1, []), (2, []), (3, []), (4, []), (5, []), (6, []), (7, []), (8, []), (9, []), (10, []), (11, []), (12, []), (13, []), (14, []), (15, [])] [0, 1, 3, 7, 0, 16, 48, 127, 0, 256, 1023, 2047, 4095, 4095, 8191, 32767] mixed (by kernel_rfl) ?_) <;> try simp only [gop, gyield, gLenX, gNilM, gField, gIndexV, gPart, reduceIte, seval, Int.cast_ofNat_Int, stz, stp, isEff, sgl, sty, stq, Try.underlying155, Try.underlying89, ty23, ty24, ty36, ty68, ty88, ty136, ty62, ty65, ty70, ty91, ty155, ty29, ty3, ty4, ty63, ty89, rs73, d0, gBuild, lfill, lput, Shape.pl, List.all_cons, List.all_nil, isCell]))
    refine st_all m46 sz70 rfl (by decide) rfl rfl rfl fun h7 m7 f7 => ?_
    refine mk_of ?_; repeat' (first | (with_reducible first | refine gw_seq ?_ | refine gw_block ?_) | ((first | (with_reducible refine mk_to ?_) | (with_reducible first | refine gw_region ?_ | refine gw_if ?_ | refine gw_skip ?_ | refine gw_exit ?_ | refine gw_ret ?_) | ((with_reducible first | refine gif_b (fun hb => ?_) (fun hb => ?_) | refine want_t (fun hb => ?_) (fun hb => ?_) | refine want_f (fun hb => ?_) (fun hb => ?_) | refine dr_t (fun hb => ?_) (fun hb => ?_) | refine dr_f (fun hb => ?_) (fun hb => ?_)) <;> (try simp only [hb]) <;> (try simp only [hpr] at hb)) | with_reducible refine gw_draw (id := 1) [(0, []), (1, []), (2, []), (3, []), (4, []), (5, []), (6, []), (7, []), (8, []), (9, []), (10, []), (11, []), (12, []), (13, []), (14, []), (15, [])] [0, 1, 3, 7, 0, 16, 48, 127, 0, 256, 1023, 2047, 4095, 4095, 8191, 32767] mixed (by kernel_rfl) ?_) <;> try simp only [gop, gyield, gLenX, gNilM, gField, gIndexV, gPart, reduceIte, seval, Int.cast_ofNat_Int, stz, stp, isEff, sgl, sty, stq, Try.underlying155, Try.underlying89, ty23, ty24, ty36, ty68, ty88, ty136, ty62, ty65, ty70, ty91, ty155, ty29, ty3, ty4, ty63, ty89, rs73, gloadA m7 sz70 rfl]))
    exact ⟨⟨_, hwr _ rfl, RAn.zero h7 86 0⟩, (s14.trans s6).upd n4h f7⟩
  have d0 : ((n6 : Int) == 0) = false := by rw [beq_eq_false_iff_ne]; omega
  have hn6 := wu.1
  have w2 : IntKind.i64.wrap ((n6 : Int) - 1) = ((n6 - 1 : Nat) : Int) := by rw [wrap64 (by omega) (by omega)]; omega
  refine mk_of ?_; repeat' (first | (with_reducible first | refine gw_seq ?_ | refine gw_block ?_) | ((first | (with_reducible refine mk_to ?_) | (with_reducible first | refine gw_region ?_ | refine gw_if ?_ | refine gw_skip ?_ | refine gw_exit ?_ | refine gw_ret ?_) | ((with_reducible first | refine gif_b (fun hb => ?_) (fun hb => ?_) | refine want_t (fun hb => ?_) (fun hb => ?_) | refine want_f (fun hb => ?_) (fun hb => ?_) | refine dr_t (fun hb => ?_) (fun hb => ?_) | refine dr_f (fun hb => ?_) (fun hb => ?_)) <;> (try simp only [hb]) <;> (try simp only [hpr] at hb)) | with_reducible refine gw_draw (id := 1) [(0, []), (1, []), (2, []), (3, []), (4, []), (5, []), (6, []), (7, []), (8, []), (9, []), (10, []), (11, []), (12, []), (13, []), (14, []), (15, [])] [0, 1, 3, 7, 0, 16, 48, 127, 0, 256, 1023, 2047, 4095, 4095, 8191, 32767] mixed (by kernel_rfl) ?_) <;> try simp only [gop, gyield, gLenX, gNilM, gField, gIndexV, gPart, reduceIte, seval, Int.cast_ofNat_Int, stz, stp, isEff, sgl, sty, stq, Try.underlying155, Try.underlying89, ty23, ty24, ty36, ty68, ty88, ty136, ty62, ty65, ty70, ty91, ty155, ty29, ty3, ty4, ty63, ty89, rs73, d0, w2]))
  refine st_one m36 sz3 rfl (by simp) rfl rfl fun h7 m7 f7 => ?_
  simp only [List.set_cons_succ, List.set_cons_zero] at m7
  have n3h : h k3 = none := n3
  have k34 : k4 ≠ k3 := fun z => by subst z; rw [m3] at *; simp_all
  have s17 : HS h h7 := (s14.trans s6).upd n3h f7
  have m47 := (f7 _ k34).trans m46
  refine mk_of ?_; repeat' (first | (with_reducible first | refine gw_seq ?_ | refine gw_block ?_) | ((first | (with_reducible refine mk_to ?_) | (with_reducible first | refine gw_region ?_ | refine gw_if ?_ | refine gw_skip ?_ | refine gw_exit ?_ | refine gw_ret ?_) | ((with_reducible first | refine gif_b (fun hb => ?_) (fun hb => ?_) | refine want_t (fun hb => ?_) (fun hb => ?_) | refine want_f (fun hb => ?_) (fun hb => ?_) | refine dr_t (fun hb => ?_) (fun hb => ?_) | refine dr_f (fun hb => ?_) (fun hb => ?_)) <;> (try simp only [hb]) <;> (try simp only [hpr] at hb)) | with_reducible refine gw_draw (id := 1) [(0, []), (1, []), (2, []), (3, []), (4, []), (5, []), (6, []), (7, []), (8, []), (9, []), (10, []), (11, []), (12, []), (13, []), (14, []), (15, [])] [0, 1, 3, 7, 0, 16, 48, 127, 0, 256, 1023, 2047, 4095, 4095, 8191, 32767] mixed (by kernel_rfl) ?_) <;> try simp only [gop, gyield, gLenX, gNilM, gField, gIndexV, gPart, reduceIte, seval, Int.cast_ofNat_Int, stz, stp, isEff, sgl, sty, stq, Try.underlying155, Try.underlying89, ty23, ty24, ty36, ty68, ty88, ty136, ty62, ty65, ty70, ty91, ty155, ty29, ty3, ty4, ty63, ty89, rs73, gloadA m7 sz62 rfl]))
  refine (c_asof N (x.hs s17) (r.hs s17) hid ((n6 - 1 : Nat) : Int) (by simpa [isCell] using hc)).mono ?_
  rintro v8 h8 ⟨r8, s8⟩
  obtain ⟨t1, t2, t3, t4, t5, t6, rfl, q1, q2, q3⟩ := r8
  refine mk_of ?_; repeat' (first | (with_reducible first | refine gw_seq ?_ | refine gw_block ?_) | ((first | (with_reducible refine mk_to ?_) | (with_reducible first | refine gw_region ?_ | refine gw_if ?_ | refine gw_skip ?_ | refine gw_exit ?_ | refine gw_ret ?_) | ((with_reducible first | refine gif_b (fun hb => ?_) (fun hb => ?_) | refine want_t (fun hb => ?_) (fun hb => ?_) | refine want_f (fun hb => ?_) (fun hb => ?_) | refine dr_t (fun hb => ?_) (fun hb => ?_) | refine dr_f (fun hb => ?_) (fun hb => ?_)) <;> (try simp only [hb]) <;> (try simp only [hpr] at hb)) | with_reducible refine gw_draw (id := 1) [(0, []), (1, []), (2, []), (3, []), (4, []), (5, []), (6, []), (7, []), (8, []), (9, []), (10, []), (11, []), (12, []), (13, []), (14, []), (15, [])] [0, 1, 3, 7, 0, 16, 48, 127, 0, 256, 1023, 2047, 4095, 4095, 8191, 32767] mixed (by kernel_rfl) ?_) <;> try simp only [gop, gyield, gLenX, gNilM, gField, gIndexV, gPart, reduceIte, seval, Int.cast_ofNat_Int, stz, stp, isEff, sgl, sty, stq, Try.underlying155, Try.underlying89, ty23, ty24, ty36, ty68, ty88, ty136, ty62, ty65, ty70, ty91, ty155, ty29, ty3, ty4, ty63, ty89, rs73]))
  refine new_g fun k9 h9 m9 s9 f9 n9 => ?_
  refine mk_of ?_; repeat' (first | (with_reducible first | refine gw_seq ?_ | refine gw_block ?_) | ((first | (with_reducible refine mk_to ?_) | (with_reducible first | refine gw_region ?_ | refine gw_if ?_ | refine gw_skip ?_ | refine gw_exit ?_ | refine gw_ret ?_) | ((with_reducible first | refine gif_b (fun hb => ?_) (fun hb => ?_) | refine want_t (fun hb => ?_) (fun hb => ?_) | refine want_f (fun hb => ?_) (fun hb => ?_) | refine dr_t (fun hb => ?_) (fun hb => ?_) | refine dr_f (fun hb => ?_) (fun hb => ?_)) <;> (try simp only [hb]) <;> (try simp only [hpr] at hb)) | with_reducible refine gw_draw (id := 1) [(0, []), (1, []), (2, []), (3, []), (4, []), (5, []), (6, []), (7, []), (8, []), (9, []), (10, []), (11, []), (12, []), (13, []), (14, []), (15, [])] [0, 1, 3, 7, 0, 16, 48, 127, 0, 256, 1023, 2047, 4095, 4095, 8191, 32767] mixed (by kernel_rfl) ?_) <;> try simp only [gop, gyield, gLenX, gNilM, gField, gIndexV, gPart, reduceIte, seval, Int.cast_ofNat_Int, stz, stp, isEff, sgl, sty, stq, Try.underlying155, Try.underlying89, ty23, ty24, ty36, ty68, ty88, ty136, ty62, ty65, ty70, ty91, ty155, ty29, ty3, ty4, ty63, ty89, rs73]))
  refine st_all m9 sz70 rfl (by decide) rfl rfl rfl fun h10 m10 f10 => ?_
  have s10 : HS h8 h10 := (HS.refl h8).upd n9 (fun j hj => (f10 j hj).trans (f9 j hj))
  have m710 := s10 _ _ (s8 _ _ m7)
  have m410 := s10 _ _ (s8 _ _ m47)
  refine mk_of ?_; repeat' (first | (with_reducible first | refine gw_seq ?_ | refine gw_block ?_) | ((first | (with_reducible refine mk_to ?_) | (with_reducible first | refine gw_region ?_ | refine gw_if ?_ | refine gw_skip ?_ | refine gw_exit ?_ | refine gw_ret ?_) | ((with_reducible first | refine gif_b (fun hb => ?_) (fun hb => ?_) | refine want_t (fun hb => ?_) (fun hb => ?_) | refine want_f (fun hb => ?_) (fun hb => ?_) | refine dr_t (fun hb => ?_) (fun hb => ?_) | refine dr_f (fun hb => ?_) (fun hb => ?_)) <;> (try simp only [hb]) <;> (try simp only [hpr] at hb)) | with_reducible refine gw_draw (id := 1) [(0, []), (1, []), (2, []), (3, []), (4, []), (5, []), (6, []), (7, []), (8, []), (9, []), (10, []), (11, []), (12, []), (13, []), (14, []), (15, [])] [0, 1, 3, 7, 0, 16, 48, 127, 0, 256, 1023, 2047, 4095, 4095, 8191, 32767] mixed (by kernel_rfl) ?_) <;> try simp only [gop, gyield, gLenX, gNilM, gField, gIndexV, gPart, reduceIte, seval, Int.cast_ofNat_Int, stz, stp, isEff, sgl, sty, stq, Try.underlying155, Try.underlying89, ty23, ty24, ty36, ty68, ty88, ty136, ty62, ty65, ty70, ty91, ty155, ty29, ty3, ty4, ty63, ty89, rs73, gload1 m710 sz3, List.getElem?_cons_zero, List.getElem?_cons_succ]))
  refine st_one m10 sz3 rfl (by simp [vcells]) rfl rfl fun h11 m11 f11 => ?_
  have hA : asofA M q.id ((n6 - 1 : Nat) : Int) = asofA M q.id ((n6 - 1 : Nat) : Int) := rfl
  generalize asofA M q.id ((n6 - 1 : Nat) : Int) = A at q1 q2 q3 m9 m10 m11 hwr ⊢
  have m11' : h11 k9 = some ⟨[.int .i64 A.code, .int .i64 ((n6 - 1 : Nat) : Int), .bool A.pr, .bool A.sm, .slice t1 A.key.length t2, .int .i64 A.si, .slice t3 A.its.length t4, .slice t5 A.evs.length t6, .bool A.more], 0, true, false⟩ := m11
  have k94 : k4 ≠ k9 := fun z => by subst z; rw [s8 _ _ m47] at n9; cases n9
  have m411 := (f11 _ k94).trans m410
  refine mk_of ?_; repeat' (first | (with_reducible first | refine gw_seq ?_ | refine gw_block ?_) | ((first | (with_reducible refine mk_to ?_) | (with_reducible first | refine gw_region ?_ | refine gw_if ?_ | refine gw_skip ?_ | refine gw_exit ?_ | refine gw_ret ?_) | ((with_reducible first | refine gif_b (fun hb => ?_) (fun hb => ?_) | refine want_t (fun hb => ?_) (fun hb => ?_) | refine want_f (fun hb => ?_) (fun hb => ?_) | refine dr_t (fun hb => ?_) (fun hb => ?_) | refine dr_f (fun hb => ?_) (fun hb => ?_)) <;> (try simp only [hb]) <;> (try simp only [hpr] at hb)) | with_reducible refine gw_draw (id := 1) [(0, []), (1, []), (2, []), (3, []), (4, []), (5, []), (6, []), (7, []), (8, []), (9, []), (10, []), (11, []), (12, []), (13, []), (14, []), (15, [])] [0, 1, 3, 7, 0, 16, 48, 127, 0, 256, 1023, 2047, 4095, 4095, 8191, 32767] mixed (by kernel_rfl) ?_) <;> try simp only [gop, gyield, gLenX, gNilM, gField, gIndexV, gPart, reduceIte, seval, Int.cast_ofNat_Int, stz, stp, isEff, sgl, sty, stq, Try.underlying155, Try.underlying89, ty23, ty24, ty36, ty68, ty88, ty136, ty62, ty65, ty70, ty91, ty155, ty29, ty3, ty4, ty63, ty89, rs73, gloadA m11' sz70 rfl]))
  refine st_all m411 sz70 rfl (by decide) rfl rfl rfl fun h12 m12 f12 => ?_
  refine mk_of ?_; repeat' (first | (with_reducible first | refine gw_seq ?_ | refine gw_block ?_) | ((first | (with_reducible refine mk_to ?_) | (with_reducible first | refine gw_region ?_ | refine gw_if ?_ | refine gw_skip ?_ | refine gw_exit ?_ | refine gw_ret ?_) | ((with_reducible first | refine gif_b (fun hb => ?_) (fun hb => ?_) | refine want_t (fun hb => ?_) (fun hb => ?_) | refine want_f (fun hb => ?_) (fun hb => ?_) | refine dr_t (fun hb => ?_) (fun hb => ?_) | refine dr_f (fun hb => ?_) (fun hb => ?_)) <;> (try simp only [hb]) <;> (try simp only [hpr] at hb)) | with_reducible refine gw_draw (id := 1) [(0, []), (1, []), (2, []), (3, []), (4, []), (5, []), (6, []), (7, []), (8, []), (9, []), (10, []), (11, []), (12, []), (13, []), (14, []), (15, [])] [0, 1, 3, 7, 0, 16, 48, 127, 0, 256, 1023, 2047, 4095, 4095, 8191, 32767] mixed (by kernel_rfl) ?_) <;> try simp only [gop, gyield, gLenX, gNilM, gField, gIndexV, gPart, reduceIte, seval, Int.cast_ofNat_Int, stz, stp, isEff, sgl, sty, stq, Try.underlying155, Try.underlying89, ty23, ty24, ty36, ty68, ty88, ty136, ty62, ty65, ty70, ty91, ty155, ty29, ty3, ty4, ty63, ty89, rs73, gloadA m12 sz70 rfl]))
  have r10 : RAn h10 (.agg #[.int .i64 A.code, .int .i64 A.ep, .bool A.pr, .bool A.sm, .slice t1 A.key.length t2, .int .i64 A.si, .slice t3 A.its.length t4, .slice t5 A.evs.length t6, .bool A.more]) A := RAn.hs s10 ⟨t1, t2, t3, t4, t5, t6, rfl, q1, q2, q3⟩
  have r11 := r10.hxv m10 ⟨rfl, rfl⟩ rfl fun j B n e => (f11 j n).trans e
  have r12 := r11.hxv m411 ⟨rfl, rfl⟩ rfl fun j B n e => (f12 j n).trans e
  obtain ⟨u1, u2, u3, u4, u5, u6, e12, g1, g2, g3⟩ := r12
  injection e12 with e12
  simp only [Array.mk.injEq, List.cons.injEq, Value.slice.injEq, and_true, true_and] at e12
  obtain ⟨⟨rfl, rfl⟩, ⟨rfl, rfl⟩, rfl, rfl⟩ := e12
  refine ⟨⟨{ A with ep := ((n6 - 1 : Nat) : Int) }, hwr _ (by rw [if_neg hn]), _, _, _, _, _, _, rfl, g1, g2, g3⟩, ?_⟩
  have s0 : HS h h11 := ((s17.trans s8).trans s10).upd (s17.none_of (s8.none_of n9)) f11
  exact s0.upd n4h f12
theorem c_interval (N : Nat) {h0 h : GH} {k j : Nat} {p : Pm} {ew : Value} {cs l : List Value} {M : List (Int × List Bnd)} {ck : Int} {n : Nat} (x : IM h0 h k j p ew cs l M ck n) {a : Option Addr} {c : Nat} (q : Ak) (r : RB h (.slice a q.id.length c) q.id) (hid : q.id.length ≤ 140737488355328)
    {c0 c4 c5 c6 c7 c8 c9 : Value} (hc : [c0, c4, c5, c6, c7, c8, c9].all isCell = true) :
    GTri Try.prog N 74 [.pointer (some ⟨k, 0, none⟩), .agg #[c0, .slice a q.id.length c, .int .i64 q.fr, .int .i64 q.to, c4, c5, c6, c7, c8, c9]] h fun v h' => RAn h' v { asofA M q.id q.to with sm := !(asofA M q.id q.to).pr || decide ((asofA M q.id q.to).si ≤ q.fr) } ∧ HS h h' := by
  refine gtri Try.func74 rfl gf74 ok74 (by simp [Try.ntmps74]) ?_
  repeat' (first | (with_reducible first | refine gw_seq ?_ | refine gw_block ?_) | ((first | (with_reducible first | refine gw_region ?_ | refine gw_if ?_ | refine gw_skip ?_ | refine gw_exit ?_ | refine gw_ret ?_) | ((with_reducible first | refine gif_b (fun hb => ?_) (fun hb => ?_) | refine want_t (fun hb => ?_) (fun hb => ?_) | refine want_f (fun hb => ?_) (fun hb => ?_)) <;> (try simp only [hb]) <;> (try simp only [hpr] at hb))) <;> try simp only [gop, gyield, gLenX, gNilM, gField, gIndexV, gPart, reduceIte, seval, Int.cast_ofNat_Int, stz, stp, ty23, ty24, ty36, ty68, ty62, ty70, ty91, ty29, ty3, ty4, ty63, rs74]))
  refine box_g (by simpa [isCell] using hc) fun k3 h3 m3 s3 f3 n3 => ?_
  refine mk_of ?_; repeat' (first | (with_reducible first | refine gw_seq ?_ | refine gw_block ?_) | ((first | (with_reducible refine mk_to ?_) | (with_reducible first | refine gw_region ?_ | refine gw_if ?_ | refine gw_skip ?_ | refine gw_exit ?_ | refine gw_ret ?_) | ((with_reducible first | refine gif_b (fun hb => ?_) (fun hb => ?_) | refine want_t (fun hb => ?_) (fun hb => ?_) | refine want_f (fun hb => ?_) (fun hb => ?_)) <;> (try simp only [hb]) <;> (try simp only [hpr] at hb))) <;> try simp only [gop, gyield, gLenX, gNilM, gField, gIndexV, gPart, reduceIte, seval, Int.cast_ofNat_Int, stz, stp, ty23, ty24, ty36, ty68, ty62, ty70, ty91, ty29, ty3, ty4, ty63, rs74]))
  refine new_g fun k4 h4 m4 s4 f4 n4 => ?_
  replace m3 := s4 _ _ m3
  have s14 := s3.trans s4
  have n4h := s3.none_of n4
  refine mk_of ?_; repeat' (first | (with_reducible first | refine gw_seq ?_ | refine gw_block ?_) | ((first | (with_reducible refine mk_to ?_) | (with_reducible first | refine gw_region ?_ | refine gw_if ?_ | refine gw_skip ?_ | refine gw_exit ?_ | refine gw_ret ?_) | ((with_reducible first | refine gif_b (fun hb => ?_) (fun hb => ?_) | refine want_t (fun hb => ?_) (fun hb => ?_) | refine want_f (fun hb => ?_) (fun hb => ?_)) <;> (try simp only [hb]) <;> (try simp only [hpr] at hb))) <;> try simp only [gop, gyield, gLenX, gNilM, gField, gIndexV, gPart, reduceIte, seval, Int.cast_ofNat_Int, stz, stp, ty23, ty24, ty36, ty68, ty62, ty70, ty91, ty29, ty3, ty4, ty63, rs74, gloadA m3 sz62 rfl]))
  refine (c_asof N (x.hs s14) (r.hs s14) hid q.to (by simpa [isCell] using hc)).mono ?_
  rintro v8 h8 ⟨r8, s8⟩
  generalize asofA M q.id q.to = A at r8 ⊢
  obtain ⟨t1, t2, t3, t4, t5, t6, rfl, q1, q2, q3⟩ := r8
  refine mk_of ?_; repeat' (first | (with_reducible first | refine gw_seq ?_ | refine gw_block ?_) | ((first | (with_reducible refine mk_to ?_) | (with_reducible first | refine gw_region ?_ | refine gw_if ?_ | refine gw_skip ?_ | refine gw_exit ?_ | refine gw_ret ?_) | ((with_reducible first | refine gif_b (fun hb => ?_) (fun hb => ?_) | refine want_t (fun hb => ?_) (fun hb => ?_) | refine want_f (fun hb => ?_) (fun hb => ?_)) <;> (try simp only [hb]) <;> (try simp only [hpr] at hb))) <;> try simp only [gop, gyield, gLenX, gNilM, gField, gIndexV, gPart, reduceIte, seval, Int.cast_ofNat_Int, stz, stp, ty23, ty24, ty36, ty68, ty62, ty70, ty91, ty29, ty3, ty4, ty63, rs74]))
  refine new_g fun k9 h9 m9 s9 f9 n9 => ?_
  refine mk_of ?_; repeat' (first | (with_reducible first | refine gw_seq ?_ | refine gw_block ?_) | ((first | (with_reducible refine mk_to ?_) | (with_reducible first | refine gw_region ?_ | refine gw_if ?_ | refine gw_skip ?_ | refine gw_exit ?_ | refine gw_ret ?_) | ((with_reducible first | refine gif_b (fun hb => ?_) (fun hb => ?_) | refine want_t (fun hb => ?_) (fun hb => ?_) | refine want_f (fun hb => ?_) (fun hb => ?_)) <;> (try simp only [hb]) <;> (try simp only [hpr] at hb))) <;> try simp only [gop, gyield, gLenX, gNilM, gField, gIndexV, gPart, reduceIte, seval, Int.cast_ofNat_Int, stz, stp, ty23, ty24, ty36, ty68, ty62, ty70, ty91, ty29, ty3, ty4, ty63, rs74]))
  refine st_all m9 sz70 rfl (by decide) rfl rfl rfl fun h10 m10 f10 => ?_
  have s10 : HS h8 h10 := (HS.refl h8).upd n9 (fun j hj => (f10 j hj).trans (f9 j hj))
  have m310 := s10 _ _ (s8 _ _ m3)
  have m410 := s10 _ _ (s8 _ _ m4)
  have m10' : h10 k9 = some ⟨[.int .i64 A.code, .int .i64 A.ep, .bool A.pr, .bool A.sm, .slice t1 A.key.length t2, .int .i64 A.si, .slice t3 A.its.length t4, .slice t5 A.evs.length t6, .bool A.more], 0, true, false⟩ := m10
  have r10 : RAn h10 (.agg #[.int .i64 A.code, .int .i64 A.ep, .bool A.pr, .bool A.sm, .slice t1 A.key.length t2, .int .i64 A.si, .slice t3 A.its.length t4, .slice t5 A.evs.length t6, .bool A.more]) A := RAn.hs s10 ⟨t1, t2, t3, t4, t5, t6, rfl, q1, q2, q3⟩
  have k94 : k4 ≠ k9 := fun z => by subst z; rw [s8 _ _ m4] at n9; cases n9
  have n9h : h k9 = none := s14.none_of (s8.none_of n9)
  have fin : ∀ {b : Bool} {h11 h12 : GH}, b = (!A.pr || decide (A.si ≤ q.fr)) → h11 k9 = some ⟨[.int .i64 A.code, .int .i64 A.ep, .bool A.pr, .bool b, .slice t1 A.key.length t2, .int .i64 A.si, .slice t3 A.its.length t4, .slice t5 A.evs.length t6, .bool A.more], 0, true, false⟩ → (∀ j, j ≠ k9 → h11 j = h10 j) → (∀ j, j ≠ k4 → h12 j = h11 j) →
      RAn h12 (.agg #[.int .i64 A.code, .int .i64 A.ep, .bool A.pr, .bool b, .slice t1 A.key.length t2, .int .i64 A.si, .slice t3 A.its.length t4, .slice t5 A.evs.length t6, .bool A.more]) { A with sm := !A.pr || decide (A.si ≤ q.fr) } ∧ HS h h12 := by
    intro b h11 h12 hb m11 f11 f12
    subst hb
    have r11 := r10.hxv m10 ⟨rfl, rfl⟩ rfl fun j B n e => (f11 j n).trans e
    have r12 := r11.hxv ((f11 _ k94).trans m410) ⟨rfl, rfl⟩ rfl fun j B n e => (f12 j n).trans e
    obtain ⟨u1, u2, u3, u4, u5, u6, e12, g1, g2, g3⟩ := r12
    injection e12 with e12
    simp only [Array.mk.injEq, List.cons.injEq, Value.slice.injEq, and_true, true_and] at e12
    obtain ⟨⟨rfl, rfl⟩, ⟨rfl, rfl⟩, rfl, rfl⟩ := e12
    exact ⟨⟨_, _, _, _, _, _, rfl, g1, g2, g3⟩, (((s14.trans s8).trans s10).upd n9h f11).upd n4h f12⟩
  cases hpr : A.pr
  · rw [hpr] at m10' fin
    refine mk_of ?_; repeat' (first | (with_reducible first | refine gw_seq ?_ | refine gw_block ?_) | ((first | (with_reducible refine mk_to ?_) | (with_reducible first | refine gw_region ?_ | refine gw_if ?_ | refine gw_skip ?_ | refine gw_exit ?_ | refine gw_ret ?_) | ((with_reducible first | refine gif_b (fun hb => ?_) (fun hb => ?_) | refine want_t (fun hb => ?_) (fun hb => ?_) | refine want_f (fun hb => ?_) (fun hb => ?_)) <;> (try simp only [hb]) <;> (try simp only [hpr] at hb))) <;> try simp only [gop, gyield, gLenX, gNilM, gField, gIndexV, gPart, reduceIte, seval, Int.cast_ofNat_Int, stz, stp, ty23, ty24, ty36, ty68, ty62, ty70, ty91, ty29, ty3, ty4, ty63, rs74, gPick, Bool.not_false, gload1 m10' sz4, List.getElem?_cons_zero, List.getElem?_cons_succ]))
    refine st_one m10' sz4 rfl (by simp) rfl rfl fun h11 m11 f11 => ?_
    simp only [List.set_cons_succ, List.set_cons_zero] at m11
    have m411 := (f11 _ k94).trans m410
    refine mk_of ?_; repeat' (first | (with_reducible first | refine gw_seq ?_ | refine gw_block ?_) | ((first | (with_reducible refine mk_to ?_) | (with_reducible first | refine gw_region ?_ | refine gw_if ?_ | refine gw_skip ?_ | refine gw_exit ?_ | refine gw_ret ?_) | ((with_reducible first | refine gif_b (fun hb => ?_) (fun hb => ?_) | refine want_t (fun hb => ?_) (fun hb => ?_) | refine want_f (fun hb => ?_) (fun hb => ?_)) <;> (try simp only [hb]) <;> (try simp only [hpr] at hb))) <;> try simp only [gop, gyield, gLenX, gNilM, gField, gIndexV, gPart, reduceIte, seval, Int.cast_ofNat_Int, stz, stp, ty23, ty24, ty36, ty68, ty62, ty70, ty91, ty29, ty3, ty4, ty63, rs74, gloadA m11 sz70 rfl]))
    refine st_all m411 sz70 rfl (by decide) rfl rfl rfl fun h12 m12 f12 => ?_
    refine mk_of ?_; repeat' (first | (with_reducible first | refine gw_seq ?_ | refine gw_block ?_) | ((first | (with_reducible refine mk_to ?_) | (with_reducible first | refine gw_region ?_ | refine gw_if ?_ | refine gw_skip ?_ | refine gw_exit ?_ | refine gw_ret ?_) | ((with_reducible first | refine gif_b (fun hb => ?_) (fun hb => ?_) | refine want_t (fun hb => ?_) (fun hb => ?_) | refine want_f (fun hb => ?_) (fun hb => ?_)) <;> (try simp only [hb]) <;> (try simp only [hpr] at hb))) <;> try simp only [gop, gyield, gLenX, gNilM, gField, gIndexV, gPart, reduceIte, seval, Int.cast_ofNat_Int, stz, stp, ty23, ty24, ty36, ty68, ty62, ty70, ty91, ty29, ty3, ty4, ty63, rs74, gloadA m12 sz70 rfl]))
    exact fin (by simp) m11 f11 f12
  · rw [hpr] at m10' fin
    refine mk_of ?_; repeat' (first | (with_reducible first | refine gw_seq ?_ | refine gw_block ?_) | ((first | (with_reducible refine mk_to ?_) | (with_reducible first | refine gw_region ?_ | refine gw_if ?_ | refine gw_skip ?_ | refine gw_exit ?_ | refine gw_ret ?_) | ((with_reducible first | refine gif_b (fun hb => ?_) (fun hb => ?_) | refine want_t (fun hb => ?_) (fun hb => ?_) | refine want_f (fun hb => ?_) (fun hb => ?_)) <;> (try simp only [hb]) <;> (try simp only [hpr] at hb))) <;> try simp only [gop, gyield, gLenX, gNilM, gField, gIndexV, gPart, reduceIte, seval, Int.cast_ofNat_Int, stz, stp, ty23, ty24, ty36, ty68, ty62, ty70, ty91, ty29, ty3, ty4, ty63, rs74, gPick, Bool.not_true, gload1 m10' sz4, gload1 m10' sz3, gload1 m310 sz3, List.getElem?_cons_zero, List.getElem?_cons_succ]))
    refine st_one m10' sz4 rfl (by simp) rfl rfl fun h11 m11 f11 => ?_
    simp only [List.set_cons_succ, List.set_cons_zero] at m11
    have m411 := (f11 _ k94).trans m410
    refine mk_of ?_; repeat' (first | (with_reducible first | refine gw_seq ?_ | refine gw_block ?_) | ((first | (with_reducible refine mk_to ?_) | (with_reducible first | refine gw_region ?_ | refine gw_if ?_ | refine gw_skip ?_ | refine gw_exit ?_ | refine gw_ret ?_) | ((with_reducible first | refine gif_b (fun hb => ?_) (fun hb => ?_) | refine want_t (fun hb => ?_) (fun hb => ?_) | refine want_f (fun hb => ?_) (fun hb => ?_)) <;> (try simp only [hb]) <;> (try simp only [hpr] at hb))) <;> try simp only [gop, gyield, gLenX, gNilM, gField, gIndexV, gPart, reduceIte, seval, Int.cast_ofNat_Int, stz, stp, ty23, ty24, ty36, ty68, ty62, ty70, ty91, ty29, ty3, ty4, ty63, rs74, gloadA m11 sz70 rfl]))
    refine st_all m411 sz70 rfl (by decide) rfl rfl rfl fun h12 m12 f12 => ?_
    refine mk_of ?_; repeat' (first | (with_reducible first | refine gw_seq ?_ | refine gw_block ?_) | ((first | (with_reducible refine mk_to ?_) | (with_reducible first | refine gw_region ?_ | refine gw_if ?_ | refine gw_skip ?_ | refine gw_exit ?_ | refine gw_ret ?_) | ((with_reducible first | refine gif_b (fun hb => ?_) (fun hb => ?_) | refine want_t (fun hb => ?_) (fun hb => ?_) | refine want_f (fun hb => ?_) (fun hb => ?_)) <;> (try simp only [hb]) <;> (try simp only [hpr] at hb))) <;> try simp only [gop, gyield, gLenX, gNilM, gField, gIndexV, gPart, reduceIte, seval, Int.cast_ofNat_Int, stz, stp, ty23, ty24, ty36, ty68, ty62, ty70, ty91, ty29, ty3, ty4, ty63, rs74, gloadA m12 sz70 rfl]))
    exact fin (by simp) m11 f11 f12
end Go.Gh

/- Ideal: a map asked, whatever. -/

namespace Go.Gh
open Go Go.Proofs Go.RowKit
set_option linter.unusedVariables false
set_option linter.unusedSimpArgs false
set_option maxRecDepth 100000
set_option maxHeartbeats 4000000

theorem wrongN {r g : Bool} {p : Pm} {m : Nat} {q : Ak} (h : wrongF r g p m q = 0) : (q.id.length : Int) ≤ p.mi ∧ 0 ≤ q.to ∧ q.to < (m : Int) ∧ (r = true → 0 ≤ q.fr ∧ q.fr ≤ q.to) ∧ (g = true → 1 ≤ q.lm ∧ q.lm ≤ p.pg) := by
  unfold wrongF at h
  split at h
  · simp at h
  split at h
  · simp at h
  split at h
  · simp at h
  split at h
  · simp at h
  rename_i h1 h2 h3 h4
  refine ⟨by omega, by omega, by omega, fun hr => ?_, fun hg => ?_⟩
  · subst hr; simp only [true_and] at h1 h3; omega
  · subst hg; simp only [true_and] at h4; omega
theorem c_DoW (N : Nat) {h0 h : GH} {k j : Nat} {p : Pm} {ew : Value} {cs l : List Value} {M : List (Int × List Bnd)} {ck : Int} {n : Nat} (x : IM h0 h k j p ew cs l M ck n) {a : Option Addr} {c : Nat} (q : Ak) (hk : q.kd = 4) (r : RB h (.slice a q.id.length c) q.id) (hid : q.id.length ≤ 140737488355328)
    {c9 : Value} (hc : isCell c9 = true) :
    GTri Try.prog N 32 [.pointer (some ⟨k, 0, none⟩), .agg #[.int .i64 q.kd, .slice a q.id.length c, .int .i64 q.fr, .int .i64 q.to, .int .i64 q.tm, .bool q.sm, .int .i64 q.ep, .int .i64 q.ix, .int .i64 q.lm, c9]] h fun v h' =>
      (wrongF false false p M.length q ≠ 0 ∧ RAn h' v { code := wrongF false false p M.length q } ∨ wrongF false false p M.length q = 0 ∧ ∃ A, WhenR M q A ∧ RAn h' v A) ∧ HS h h' := by
  have hcc : [Value.int .i64 q.tm, .bool q.sm, .int .i64 q.ep, .int .i64 q.ix, c9].all isCell = true := by simpa [isCell] using hc
  have hr : rngK q.kd = false := by rw [hk]; rfl
  have hg : pagK q.kd = false := by rw [hk]; rfl
  have hpg := p.may_iff.1 x.may
  have e1 : (q.kd == 1) = false := by rw [hk]; rfl
  have e2 : (q.kd == 2) = false := by rw [hk]; rfl
  have e8 : (q.kd == 8) = false := by rw [hk]; rfl
  have e9 : (q.kd == 9) = false := by rw [hk]; rfl
  have e3 : (q.kd == 3) = false := by rw [hk]; rfl
  have e4 : (q.kd == 4) = true := by rw [hk]; rfl
  refine gtri Try.func32 rfl gf32 ok32 (by simp [Try.ntmps32]) ?_
  repeat' (first | (with_reducible first | refine gw_seq ?_ | refine gw_block ?_) | ((first | (with_reducible first | refine gw_region ?_ | refine gw_if ?_ | refine gw_skip ?_ | refine gw_exit ?_ | refine gw_ret ?_) | ((with_reducible first | refine gif_b (fun hb => ?_) (fun hb => ?_) | refine want_t (fun hb => ?_) (fun hb => ?_) | refine want_f (fun hb => ?_) (fun hb => ?_)) <;> (try simp only [hb]) <;> (try simp only [hpr] at hb))) <;> try simp only [gop, gyield, gLenX, gNilM, gField, gIndexV, gPart, reduceIte, seval, Int.cast_ofNat_Int, stz, stp, ty23, ty24, ty36, ty68, ty62, ty70, ty91, ty29, ty3, ty4, ty63, rs32]))
  refine box_g (by simpa [isCell] using hc) fun k1 h1 m1 s1 f1 n1 => ?_
  refine mk_of ?_; repeat' (first | (with_reducible first | refine gw_seq ?_ | refine gw_block ?_) | ((first | (with_reducible refine mk_to ?_) | (with_reducible first | refine gw_region ?_ | refine gw_if ?_ | refine gw_skip ?_ | refine gw_exit ?_ | refine gw_ret ?_) | ((with_reducible first | refine gif_b (fun hb => ?_) (fun hb => ?_) | refine want_t (fun hb => ?_) (fun hb => ?_) | refine want_f (fun hb => ?_) (fun hb => ?_)) <;> (try simp only [hb]) <;> (try simp only [hpr] at hb))) <;> try simp only [gop, gyield, gLenX, gNilM, gField, gIndexV, gPart, reduceIte, seval, Int.cast_ofNat_Int, stz, stp, ty23, ty24, ty36, ty68, ty62, ty70, ty91, ty29, ty3, ty4, ty63, rs32]))
  refine new_g fun k2 h2 m2 s2 f2 n2 => ?_
  replace m1 := s2 _ _ m1
  have s12 := s1.trans s2
  have x2 := x.hs s12
  have n2' := s1.none_of n2
  refine mk_of ?_; repeat' (first | (with_reducible first | refine gw_seq ?_ | refine gw_block ?_) | ((first | (with_reducible refine mk_to ?_) | (with_reducible first | refine gw_region ?_ | refine gw_if ?_ | refine gw_skip ?_ | refine gw_exit ?_ | refine gw_ret ?_) | ((with_reducible first | refine gif_b (fun hb => ?_) (fun hb => ?_) | refine want_t (fun hb => ?_) (fun hb => ?_) | refine want_f (fun hb => ?_) (fun hb => ?_)) <;> (try simp only [hb]) <;> (try simp only [hpr] at hb)) | ((refine GTri.mono (c_inone _ x2) ?_); rintro _ _ ⟨rfl, hh9⟩; replace hh9 := hh9.symm; subst hh9)) <;> try simp only [gop, gyield, gLenX, gNilM, gField, gIndexV, gPart, reduceIte, seval, Int.cast_ofNat_Int, stz, stp, ty23, ty24, ty36, ty68, ty62, ty70, ty91, ty29, ty3, ty4, ty63, rs32, List.map_toArray, List.map_cons, List.map_nil, gload1 m1 sz3, e1, e2, e8, e9, e3, e4, gloadA m1 sz62 rfl, List.getElem?_cons_zero, List.getElem?_cons_succ]))
  refine (c_wrong N x2 q hid hcc).mono ?_
  rintro _ h3 ⟨rfl, s3⟩
  rw [hr, hg]
  have m23 := s3 _ _ m2
  by_cases hw : wrongF false false p M.length q = 0
  case neg =>
    have dw : (wrongF false false p M.length q != 0) = true := by simpa using hw
    refine mk_of ?_; repeat' (first | (with_reducible first | refine gw_seq ?_ | refine gw_block ?_) | ((first | (with_reducible refine mk_to ?_) | (with_reducible first | refine gw_region ?_ | refine gw_if ?_ | refine gw_skip ?_ | refine gw_exit ?_ | refine gw_ret ?_) | ((with_reducible first | refine gif_b (fun hb => ?_) (fun hb => ?_) | refine want_t (fun hb => ?_) (fun hb => ?_) | refine want_f (fun hb => ?_) (fun hb => ?_)) <;> (try simp only [hb]) <;> (try simp only [hpr] at hb))) <;> try simp only [gop, gyield, gLenX, gNilM, gField, gIndexV, gPart, reduceIte, seval, Int.cast_ofNat_Int, stz, stp, ty23, ty24, ty36, ty68, ty62, ty70, ty91, ty29, ty3, ty4, ty63, rs32, dw, gBuild, lfill, lput, Shape.pl, List.all_cons, List.all_nil, isCell]))
    refine st_all m23 sz70 rfl (by decide) rfl rfl rfl fun h4 m4 f4 => ?_
    refine mk_of ?_; repeat' (first | (with_reducible first | refine gw_seq ?_ | refine gw_block ?_) | ((first | (with_reducible refine mk_to ?_) | (with_reducible first | refine gw_region ?_ | refine gw_if ?_ | refine gw_skip ?_ | refine gw_exit ?_ | refine gw_ret ?_) | ((with_reducible first | refine gif_b (fun hb => ?_) (fun hb => ?_) | refine want_t (fun hb => ?_) (fun hb => ?_) | refine want_f (fun hb => ?_) (fun hb => ?_)) <;> (try simp only [hb]) <;> (try simp only [hpr] at hb))) <;> try simp only [gop, gyield, gLenX, gNilM, gField, gIndexV, gPart, reduceIte, seval, Int.cast_ofNat_Int, stz, stp, ty23, ty24, ty36, ty68, ty62, ty70, ty91, ty29, ty3, ty4, ty63, rs32, gloadA m4 sz70 rfl]))
    exact ⟨.inl ⟨hw, RAn.zero h4 _ 0⟩, (s12.trans s3).upd n2' f4⟩
  obtain ⟨w1, w2, w3, w4, w5⟩ := wrongN hw
  have dw : (wrongF false false p M.length q != 0) = false := by simpa using hw
  have s03 := s12.trans s3
  refine mk_of ?_; repeat' (first | (with_reducible first | refine gw_seq ?_ | refine gw_block ?_) | ((first | (with_reducible refine mk_to ?_) | (with_reducible first | refine gw_region ?_ | refine gw_if ?_ | refine gw_skip ?_ | refine gw_exit ?_ | refine gw_ret ?_) | ((with_reducible first | refine gif_b (fun hb => ?_) (fun hb => ?_) | refine want_t (fun hb => ?_) (fun hb => ?_) | refine want_f (fun hb => ?_) (fun hb => ?_)) <;> (try simp only [hb]) <;> (try simp only [hpr] at hb))) <;> try simp only [gop, gyield, gLenX, gNilM, gField, gIndexV, gPart, reduceIte, seval, Int.cast_ofNat_Int, stz, stp, ty23, ty24, ty36, ty68, ty62, ty70, ty91, ty29, ty3, ty4, ty63, rs32, dw, gloadA (s3 _ _ m1) sz62 rfl]))
  refine (c_when N (x.hs s03) q (r.hs s03) hid w2 w3 (by simpa [isCell] using hc)).mono ?_
  rintro v4 h4 ⟨⟨A, hA, r4⟩, s4⟩
  have r4' := r4
  obtain ⟨a4, b4, c4', d4, e4', f4', rfl, _⟩ := r4
  refine mk_of ?_; repeat' (first | (with_reducible first | refine gw_seq ?_ | refine gw_block ?_) | ((first | (with_reducible refine mk_to ?_) | (with_reducible first | refine gw_region ?_ | refine gw_if ?_ | refine gw_skip ?_ | refine gw_exit ?_ | refine gw_ret ?_) | ((with_reducible first | refine gif_b (fun hb => ?_) (fun hb => ?_) | refine want_t (fun hb => ?_) (fun hb => ?_) | refine want_f (fun hb => ?_) (fun hb => ?_)) <;> (try simp only [hb]) <;> (try simp only [hpr] at hb))) <;> try simp only [gop, gyield, gLenX, gNilM, gField, gIndexV, gPart, reduceIte, seval, Int.cast_ofNat_Int, stz, stp, ty23, ty24, ty36, ty68, ty62, ty70, ty91, ty29, ty3, ty4, ty63, rs32]))
  refine st_all (s4 _ _ m23) sz70 rfl (by decide) rfl rfl rfl fun h5 m5 f5 => ?_
  refine mk_of ?_; repeat' (first | (with_reducible first | refine gw_seq ?_ | refine gw_block ?_) | ((first | (with_reducible refine mk_to ?_) | (with_reducible first | refine gw_region ?_ | refine gw_if ?_ | refine gw_skip ?_ | refine gw_exit ?_ | refine gw_ret ?_) | ((with_reducible first | refine gif_b (fun hb => ?_) (fun hb => ?_) | refine want_t (fun hb => ?_) (fun hb => ?_) | refine want_f (fun hb => ?_) (fun hb => ?_)) <;> (try simp only [hb]) <;> (try simp only [hpr] at hb))) <;> try simp only [gop, gyield, gLenX, gNilM, gField, gIndexV, gPart, reduceIte, seval, Int.cast_ofNat_Int, stz, stp, ty23, ty24, ty36, ty68, ty62, ty70, ty91, ty29, ty3, ty4, ty63, rs32, gloadA m5 sz70 rfl]))
  exact ⟨.inr ⟨hw, _, hA, r4'.hxv (s4 _ _ m23) ⟨rfl, rfl⟩ rfl fun j B n e => (f5 j n).trans e⟩, (s03.trans s4).upd n2' f5⟩
theorem c_DoI (N : Nat) {h0 h : GH} {k j : Nat} {p : Pm} {ew : Value} {cs l : List Value} {M : List (Int × List Bnd)} {ck : Int} {n : Nat} (x : IM h0 h k j p ew cs l M ck n) {a : Option Addr} {c : Nat} (q : Ak) (hk : q.kd = 5) (r : RB h (.slice a q.id.length c) q.id) (hid : q.id.length ≤ 140737488355328)
    {c9 : Value} (hc : isCell c9 = true) :
    GTri Try.prog N 32 [.pointer (some ⟨k, 0, none⟩), .agg #[.int .i64 q.kd, .slice a q.id.length c, .int .i64 q.fr, .int .i64 q.to, .int .i64 q.tm, .bool q.sm, .int .i64 q.ep, .int .i64 q.ix, .int .i64 q.lm, c9]] h fun v h' =>
      (wrongF true false p M.length q ≠ 0 ∧ RAn h' v { code := wrongF true false p M.length q } ∨ wrongF true false p M.length q = 0 ∧ ∃ A, A = { asofA M q.id q.to with sm := !(asofA M q.id q.to).pr || decide ((asofA M q.id q.to).si ≤ q.fr) } ∧ RAn h' v A) ∧ HS h h' := by
  have hcc : [Value.int .i64 q.tm, .bool q.sm, .int .i64 q.ep, .int .i64 q.ix, c9].all isCell = true := by simpa [isCell] using hc
  have hr : rngK q.kd = true := by rw [hk]; rfl
  have hg : pagK q.kd = false := by rw [hk]; rfl
  have hpg := p.may_iff.1 x.may
  have e1 : (q.kd == 1) = false := by rw [hk]; rfl
  have e2 : (q.kd == 2) = false := by rw [hk]; rfl
  have e8 : (q.kd == 8) = false := by rw [hk]; rfl
  have e9 : (q.kd == 9) = false := by rw [hk]; rfl
  have e3 : (q.kd == 3) = false := by rw [hk]; rfl
  have e4 : (q.kd == 4) = false := by rw [hk]; rfl
  have e5 : (q.kd == 5) = true := by rw [hk]; rfl
  refine gtri Try.func32 rfl gf32 ok32 (by simp [Try.ntmps32]) ?_
  repeat' (first | (with_reducible first | refine gw_seq ?_ | refine gw_block ?_) | ((first | (with_reducible first | refine gw_region ?_ | refine gw_if ?_ | refine gw_skip ?_ | refine gw_exit ?_ | refine gw_ret ?_) | ((with_reducible first | refine gif_b (fun hb => ?_) (fun hb => ?_) | refine want_t (fun hb => ?_) (fun hb => ?_) | refine want_f (fun hb => ?_) (fun hb => ?_)) <;> (try simp only [hb]) <;> (try simp only [hpr] at hb))) <;> try simp only [gop, gyield, gLenX, gNilM, gField, gIndexV, gPart, reduceIte, seval, Int.cast_ofNat_Int, stz, stp, ty23, ty24, ty36, ty68, ty62, ty70, ty91, ty29, ty3, ty4, ty63, rs32]))
  refine box_g (by simpa [isCell] using hc) fun k1 h1 m1 s1 f1 n1 => ?_
  refine mk_of ?_; repeat' (first | (with_reducible first | refine gw_seq ?_ | refine gw_block ?_) | ((first | (with_reducible refine mk_to ?_) | (with_reducible first | refine gw_region ?_ | refine gw_if ?_ | refine gw_skip ?_ | refine gw_exit ?_ | refine gw_ret ?_) | ((with_reducible first | refine gif_b (fun hb => ?_) (fun hb => ?_) | refine want_t (fun hb => ?_) (fun hb => ?_) | refine want_f (fun hb => ?_) (fun hb => ?_)) <;> (try simp only [hb]) <;> (try simp only [hpr] at hb))) <;> try simp only [gop, gyield, gLenX, gNilM, gField, gIndexV, gPart, reduceIte, seval, Int.cast_ofNat_Int, stz, stp, ty23, ty24, ty36, ty68, ty62, ty70, ty91, ty29, ty3, ty4, ty63, rs32]))
  refine new_g fun k2 h2 m2 s2 f2 n2 => ?_
  replace m1 := s2 _ _ m1
  have s12 := s1.trans s2
  have x2 := x.hs s12
  have n2' := s1.none_of n2
  refine mk_of ?_; repeat' (first | (with_reducible first | refine gw_seq ?_ | refine gw_block ?_) | ((first | (with_reducible refine mk_to ?_) | (with_reducible first | refine gw_region ?_ | refine gw_if ?_ | refine gw_skip ?_ | refine gw_exit ?_ | refine gw_ret ?_) | ((with_reducible first | refine gif_b (fun hb => ?_) (fun hb => ?_) | refine want_t (fun hb => ?_) (fun hb => ?_) | refine want_f (fun hb => ?_) (fun hb => ?_)) <;> (try simp only [hb]) <;> (try simp only [hpr] at hb)) | ((refine GTri.mono (c_inone _ x2) ?_); rintro _ _ ⟨rfl, hh9⟩; replace hh9 := hh9.symm; subst hh9)) <;> try simp only [gop, gyield, gLenX, gNilM, gField, gIndexV, gPart, reduceIte, seval, Int.cast_ofNat_Int, stz, stp, ty23, ty24, ty36, ty68, ty62, ty70, ty91, ty29, ty3, ty4, ty63, rs32, List.map_toArray, List.map_cons, List.map_nil, gload1 m1 sz3, e1, e2, e8, e9, e3, e4, e5, gloadA m1 sz62 rfl, List.getElem?_cons_zero, List.getElem?_cons_succ]))
  refine (c_wrong N x2 q hid hcc).mono ?_
  rintro _ h3 ⟨rfl, s3⟩
  rw [hr, hg]
  have m23 := s3 _ _ m2
  by_cases hw : wrongF true false p M.length q = 0
  case neg =>
    have dw : (wrongF true false p M.length q != 0) = true := by simpa using hw
    refine mk_of ?_; repeat' (first | (with_reducible first | refine gw_seq ?_ | refine gw_block ?_) | ((first | (with_reducible refine mk_to ?_) | (with_reducible first | refine gw_region ?_ | refine gw_if ?_ | refine gw_skip ?_ | refine gw_exit ?_ | refine gw_ret ?_) | ((with_reducible first | refine gif_b (fun hb => ?_) (fun hb => ?_) | refine want_t (fun hb => ?_) (fun hb => ?_) | refine want_f (fun hb => ?_) (fun hb => ?_)) <;> (try simp only [hb]) <;> (try simp only [hpr] at hb))) <;> try simp only [gop, gyield, gLenX, gNilM, gField, gIndexV, gPart, reduceIte, seval, Int.cast_ofNat_Int, stz, stp, ty23, ty24, ty36, ty68, ty62, ty70, ty91, ty29, ty3, ty4, ty63, rs32, dw, gBuild, lfill, lput, Shape.pl, List.all_cons, List.all_nil, isCell]))
    refine st_all m23 sz70 rfl (by decide) rfl rfl rfl fun h4 m4 f4 => ?_
    refine mk_of ?_; repeat' (first | (with_reducible first | refine gw_seq ?_ | refine gw_block ?_) | ((first | (with_reducible refine mk_to ?_) | (with_reducible first | refine gw_region ?_ | refine gw_if ?_ | refine gw_skip ?_ | refine gw_exit ?_ | refine gw_ret ?_) | ((with_reducible first | refine gif_b (fun hb => ?_) (fun hb => ?_) | refine want_t (fun hb => ?_) (fun hb => ?_) | refine want_f (fun hb => ?_) (fun hb => ?_)) <;> (try simp only [hb]) <;> (try simp only [hpr] at hb))) <;> try simp only [gop, gyield, gLenX, gNilM, gField, gIndexV, gPart, reduceIte, seval, Int.cast_ofNat_Int, stz, stp, ty23, ty24, ty36, ty68, ty62, ty70, ty91, ty29, ty3, ty4, ty63, rs32, gloadA m4 sz70 rfl]))
    exact ⟨.inl ⟨hw, RAn.zero h4 _ 0⟩, (s12.trans s3).upd n2' f4⟩
  obtain ⟨w1, w2, w3, w4, w5⟩ := wrongN hw
  have dw : (wrongF true false p M.length q != 0) = false := by simpa using hw
  have s03 := s12.trans s3
  refine mk_of ?_; repeat' (first | (with_reducible first | refine gw_seq ?_ | refine gw_block ?_) | ((first | (with_reducible refine mk_to ?_) | (with_reducible first | refine gw_region ?_ | refine gw_if ?_ | refine gw_skip ?_ | refine gw_exit ?_ | refine gw_ret ?_) | ((with_reducible first | refine gif_b (fun hb => ?_) (fun hb => ?_) | refine want_t (fun hb => ?_) (fun hb => ?_) | refine want_f (fun hb => ?_) (fun hb => ?_)) <;> (try simp only [hb]) <;> (try simp only [hpr] at hb))) <;> try simp only [gop, gyield, gLenX, gNilM, gField, gIndexV, gPart, reduceIte, seval, Int.cast_ofNat_Int, stz, stp, ty23, ty24, ty36, ty68, ty62, ty70, ty91, ty29, ty3, ty4, ty63, rs32, dw, gloadA (s3 _ _ m1) sz62 rfl]))
  refine (c_interval N (x.hs s03) q (r.hs s03) hid (by simpa [isCell] using hc)).mono ?_
  rintro v4 h4 ⟨r4, s4⟩
  have r4' := r4
  obtain ⟨a4, b4, c4', d4, e4', f4', rfl, _⟩ := r4
  refine mk_of ?_; repeat' (first | (with_reducible first | refine gw_seq ?_ | refine gw_block ?_) | ((first | (with_reducible refine mk_to ?_) | (with_reducible first | refine gw_region ?_ | refine gw_if ?_ | refine gw_skip ?_ | refine gw_exit ?_ | refine gw_ret ?_) | ((with_reducible first | refine gif_b (fun hb => ?_) (fun hb => ?_) | refine want_t (fun hb => ?_) (fun hb => ?_) | refine want_f (fun hb => ?_) (fun hb => ?_)) <;> (try simp only [hb]) <;> (try simp only [hpr] at hb))) <;> try simp only [gop, gyield, gLenX, gNilM, gField, gIndexV, gPart, reduceIte, seval, Int.cast_ofNat_Int, stz, stp, ty23, ty24, ty36, ty68, ty62, ty70, ty91, ty29, ty3, ty4, ty63, rs32]))
  refine st_all (s4 _ _ m23) sz70 rfl (by decide) rfl rfl rfl fun h5 m5 f5 => ?_
  refine mk_of ?_; repeat' (first | (with_reducible first | refine gw_seq ?_ | refine gw_block ?_) | ((first | (with_reducible refine mk_to ?_) | (with_reducible first | refine gw_region ?_ | refine gw_if ?_ | refine gw_skip ?_ | refine gw_exit ?_ | refine gw_ret ?_) | ((with_reducible first | refine gif_b (fun hb => ?_) (fun hb => ?_) | refine want_t (fun hb => ?_) (fun hb => ?_) | refine want_f (fun hb => ?_) (fun hb => ?_)) <;> (try simp only [hb]) <;> (try simp only [hpr] at hb))) <;> try simp only [gop, gyield, gLenX, gNilM, gField, gIndexV, gPart, reduceIte, seval, Int.cast_ofNat_Int, stz, stp, ty23, ty24, ty36, ty68, ty62, ty70, ty91, ty29, ty3, ty4, ty63, rs32, gloadA m5 sz70 rfl]))
  exact ⟨.inr ⟨hw, _, rfl, r4'.hxv (s4 _ _ m23) ⟨rfl, rfl⟩ rfl fun j B n e => (f5 j n).trans e⟩, (s03.trans s4).upd n2' f5⟩
theorem c_DoV (N : Nat) {h0 h : GH} {k j : Nat} {p : Pm} {ew : Value} {cs l : List Value} {M : List (Int × List Bnd)} {ck : Int} {n : Nat} (x : IM h0 h k j p ew cs l M ck n) {a : Option Addr} {c : Nat} (q : Ak) (hk : q.kd = 10) (r : RB h (.slice a q.id.length c) q.id) (hid : q.id.length ≤ 140737488355328)
    {c9 : Value} (hc : isCell c9 = true) :
    GTri Try.prog N 32 [.pointer (some ⟨k, 0, none⟩), .agg #[.int .i64 q.kd, .slice a q.id.length c, .int .i64 q.fr, .int .i64 q.to, .int .i64 q.tm, .bool q.sm, .int .i64 q.ep, .int .i64 q.ix, .int .i64 q.lm, c9]] h fun v h' =>
      (wrongF true true p M.length q ≠ 0 ∧ RAn h' v { code := wrongF true true p M.length q } ∨ wrongF true true p M.length q = 0 ∧ ∃ A, A = diffA q (versL M q) ∧ RAn h' v A) ∧ HS h h' := by
  have hcc : [Value.int .i64 q.tm, .bool q.sm, .int .i64 q.ep, .int .i64 q.ix, c9].all isCell = true := by simpa [isCell] using hc
  have hr : rngK q.kd = true := by rw [hk]; rfl
  have hg : pagK q.kd = true := by rw [hk]; rfl
  have hpg := p.may_iff.1 x.may
  have e1 : (q.kd == 1) = false := by rw [hk]; rfl
  have e2 : (q.kd == 2) = false := by rw [hk]; rfl
  have e8 : (q.kd == 8) = false := by rw [hk]; rfl
  have e9 : (q.kd == 9) = false := by rw [hk]; rfl
  have e3 : (q.kd == 3) = false := by rw [hk]; rfl
  have e4 : (q.kd == 4) = false := by rw [hk]; rfl
  have e5 : (q.kd == 5) = false := by rw [hk]; rfl
  have e6 : (q.kd == 6) = false := by rw [hk]; rfl
  have e7 : (q.kd == 7) = false := by rw [hk]; rfl
  have e10 : (q.kd == 10) = true := by rw [hk]; rfl
  refine gtri Try.func32 rfl gf32 ok32 (by simp [Try.ntmps32]) ?_
  repeat' (first | (with_reducible first | refine gw_seq ?_ | refine gw_block ?_) | ((first | (with_reducible first | refine gw_region ?_ | refine gw_if ?_ | refine gw_skip ?_ | refine gw_exit ?_ | refine gw_ret ?_) | ((with_reducible first | refine gif_b (fun hb => ?_) (fun hb => ?_) | refine want_t (fun hb => ?_) (fun hb => ?_) | refine want_f (fun hb => ?_) (fun hb => ?_)) <;> (try simp only [hb]) <;> (try simp only [hpr] at hb))) <;> try simp only [gop, gyield, gLenX, gNilM, gField, gIndexV, gPart, reduceIte, seval, Int.cast_ofNat_Int, stz, stp, ty23, ty24, ty36, ty68, ty62, ty70, ty91, ty29, ty3, ty4, ty63, rs32]))
  refine box_g (by simpa [isCell] using hc) fun k1 h1 m1 s1 f1 n1 => ?_
  refine mk_of ?_; repeat' (first | (with_reducible first | refine gw_seq ?_ | refine gw_block ?_) | ((first | (with_reducible refine mk_to ?_) | (with_reducible first | refine gw_region ?_ | refine gw_if ?_ | refine gw_skip ?_ | refine gw_exit ?_ | refine gw_ret ?_) | ((with_reducible first | refine gif_b (fun hb => ?_) (fun hb => ?_) | refine want_t (fun hb => ?_) (fun hb => ?_) | refine want_f (fun hb => ?_) (fun hb => ?_)) <;> (try simp only [hb]) <;> (try simp only [hpr] at hb))) <;> try simp only [gop, gyield, gLenX, gNilM, gField, gIndexV, gPart, reduceIte, seval, Int.cast_ofNat_Int, stz, stp, ty23, ty24, ty36, ty68, ty62, ty70, ty91, ty29, ty3, ty4, ty63, rs32]))
  refine new_g fun k2 h2 m2 s2 f2 n2 => ?_
  replace m1 := s2 _ _ m1
  have s12 := s1.trans s2
  have x2 := x.hs s12
  have n2' := s1.none_of n2
  refine mk_of ?_; repeat' (first | (with_reducible first | refine gw_seq ?_ | refine gw_block ?_) | ((first | (with_reducible refine mk_to ?_) | (with_reducible first | refine gw_region ?_ | refine gw_if ?_ | refine gw_skip ?_ | refine gw_exit ?_ | refine gw_ret ?_) | ((with_reducible first | refine gif_b (fun hb => ?_) (fun hb => ?_) | refine want_t (fun hb => ?_) (fun hb => ?_) | refine want_f (fun hb => ?_) (fun hb => ?_)) <;> (try simp only [hb]) <;> (try simp only [hpr] at hb)) | ((refine GTri.mono (c_inone _ x2) ?_); rintro _ _ ⟨rfl, hh9⟩; replace hh9 := hh9.symm; subst hh9)) <;> try simp only [gop, gyield, gLenX, gNilM, gField, gIndexV, gPart, reduceIte, seval, Int.cast_ofNat_Int, stz, stp, ty23, ty24, ty36, ty68, ty62, ty70, ty91, ty29, ty3, ty4, ty63, rs32, List.map_toArray, List.map_cons, List.map_nil, gload1 m1 sz3, e1, e2, e8, e9, e3, e4, e5, e6, e7, e10, gloadA m1 sz62 rfl, List.getElem?_cons_zero, List.getElem?_cons_succ]))
  refine (c_wrong N x2 q hid hcc).mono ?_
  rintro _ h3 ⟨rfl, s3⟩
  rw [hr, hg]
  have m23 := s3 _ _ m2
  by_cases hw : wrongF true true p M.length q = 0
  case neg =>
    have dw : (wrongF true true p M.length q != 0) = true := by simpa using hw
    refine mk_of ?_; repeat' (first | (with_reducible first | refine gw_seq ?_ | refine gw_block ?_) | ((first | (with_reducible refine mk_to ?_) | (with_reducible first | refine gw_region ?_ | refine gw_if ?_ | refine gw_skip ?_ | refine gw_exit ?_ | refine gw_ret ?_) | ((with_reducible first | refine gif_b (fun hb => ?_) (fun hb => ?_) | refine want_t (fun hb => ?_) (fun hb => ?_) | refine want_f (fun hb => ?_) (fun hb => ?_)) <;> (try simp only [hb]) <;> (try simp only [hpr] at hb))) <;> try simp only [gop, gyield, gLenX, gNilM, gField, gIndexV, gPart, reduceIte, seval, Int.cast_ofNat_Int, stz, stp, ty23, ty24, ty36, ty68, ty62, ty70, ty91, ty29, ty3, ty4, ty63, rs32, dw, gBuild, lfill, lput, Shape.pl, List.all_cons, List.all_nil, isCell]))
    refine st_all m23 sz70 rfl (by decide) rfl rfl rfl fun h4 m4 f4 => ?_
    refine mk_of ?_; repeat' (first | (with_reducible first | refine gw_seq ?_ | refine gw_block ?_) | ((first | (with_reducible refine mk_to ?_) | (with_reducible first | refine gw_region ?_ | refine gw_if ?_ | refine gw_skip ?_ | refine gw_exit ?_ | refine gw_ret ?_) | ((with_reducible first | refine gif_b (fun hb => ?_) (fun hb => ?_) | refine want_t (fun hb => ?_) (fun hb => ?_) | refine want_f (fun hb => ?_) (fun hb => ?_)) <;> (try simp only [hb]) <;> (try simp only [hpr] at hb))) <;> try simp only [gop, gyield, gLenX, gNilM, gField, gIndexV, gPart, reduceIte, seval, Int.cast_ofNat_Int, stz, stp, ty23, ty24, ty36, ty68, ty62, ty70, ty91, ty29, ty3, ty4, ty63, rs32, gloadA m4 sz70 rfl]))
    exact ⟨.inl ⟨hw, RAn.zero h4 _ 0⟩, (s12.trans s3).upd n2' f4⟩
  obtain ⟨w1, w2, w3, w4, w5⟩ := wrongN hw
  have dw : (wrongF true true p M.length q != 0) = false := by simpa using hw
  have s03 := s12.trans s3
  refine mk_of ?_; repeat' (first | (with_reducible first | refine gw_seq ?_ | refine gw_block ?_) | ((first | (with_reducible refine mk_to ?_) | (with_reducible first | refine gw_region ?_ | refine gw_if ?_ | refine gw_skip ?_ | refine gw_exit ?_ | refine gw_ret ?_) | ((with_reducible first | refine gif_b (fun hb => ?_) (fun hb => ?_) | refine want_t (fun hb => ?_) (fun hb => ?_) | refine want_f (fun hb => ?_) (fun hb => ?_)) <;> (try simp only [hb]) <;> (try simp only [hpr] at hb))) <;> try simp only [gop, gyield, gLenX, gNilM, gField, gIndexV, gPart, reduceIte, seval, Int.cast_ofNat_Int, stz, stp, ty23, ty24, ty36, ty68, ty62, ty70, ty91, ty29, ty3, ty4, ty63, rs32, dw, gloadA (s3 _ _ m1) sz62 rfl]))
  refine (c_versions N (x.hs s03) q (r.hs s03) hid (by have := w5 rfl; omega) (by have := w5 rfl; omega) (by simpa [isCell] using hc)).mono ?_
  rintro v4 h4 ⟨r4, s4⟩
  have r4' := r4
  obtain ⟨a4, b4, c4', d4, e4', f4', rfl, _⟩ := r4
  refine mk_of ?_; repeat' (first | (with_reducible first | refine gw_seq ?_ | refine gw_block ?_) | ((first | (with_reducible refine mk_to ?_) | (with_reducible first | refine gw_region ?_ | refine gw_if ?_ | refine gw_skip ?_ | refine gw_exit ?_ | refine gw_ret ?_) | ((with_reducible first | refine gif_b (fun hb => ?_) (fun hb => ?_) | refine want_t (fun hb => ?_) (fun hb => ?_) | refine want_f (fun hb => ?_) (fun hb => ?_)) <;> (try simp only [hb]) <;> (try simp only [hpr] at hb))) <;> try simp only [gop, gyield, gLenX, gNilM, gField, gIndexV, gPart, reduceIte, seval, Int.cast_ofNat_Int, stz, stp, ty23, ty24, ty36, ty68, ty62, ty70, ty91, ty29, ty3, ty4, ty63, rs32]))
  refine st_all (s4 _ _ m23) sz70 rfl (by decide) rfl rfl rfl fun h5 m5 f5 => ?_
  refine mk_of ?_; repeat' (first | (with_reducible first | refine gw_seq ?_ | refine gw_block ?_) | ((first | (with_reducible refine mk_to ?_) | (with_reducible first | refine gw_region ?_ | refine gw_if ?_ | refine gw_skip ?_ | refine gw_exit ?_ | refine gw_ret ?_) | ((with_reducible first | refine gif_b (fun hb => ?_) (fun hb => ?_) | refine want_t (fun hb => ?_) (fun hb => ?_) | refine want_f (fun hb => ?_) (fun hb => ?_)) <;> (try simp only [hb]) <;> (try simp only [hpr] at hb))) <;> try simp only [gop, gyield, gLenX, gNilM, gField, gIndexV, gPart, reduceIte, seval, Int.cast_ofNat_Int, stz, stp, ty23, ty24, ty36, ty68, ty62, ty70, ty91, ty29, ty3, ty4, ty63, rs32, gloadA m5 sz70 rfl]))
  exact ⟨.inr ⟨hw, _, rfl, r4'.hxv (s4 _ _ m23) ⟨rfl, rfl⟩ rfl fun j B n e => (f5 j n).trans e⟩, (s03.trans s4).upd n2' f5⟩

/-- What a request that changes nothing is answered. -/
def AnsR (p : Pm) (M : List (Int × List Bnd)) (q : Ak) (A : An) : Prop :=
  if q.kd = 8 ∨ q.kd = 9 then A = {} else if q.kd = 3 ∨ q.kd = 4 ∨ q.kd = 5 ∨ q.kd = 6 ∨ q.kd = 7 ∨ q.kd = 10 then
    if wrongF (rngK q.kd) (pagK q.kd) p M.length q ≠ 0 then A = { code := wrongF (rngK q.kd) (pagK q.kd) p M.length q }
    else if q.kd = 3 then A = asofA M q.id q.to
    else if q.kd = 4 then WhenR M q A
    else if q.kd = 5 then A = { asofA M q.id q.to with sm := !(asofA M q.id q.to).pr || decide ((asofA M q.id q.to).si ≤ q.fr) }
    else if q.kd = 6 then ∃ L, Diff M q L ∧ A = diffA q L
    else if q.kd = 7 then A = feedA M q
    else A = diffA q (versL M q)
  else A = { code := 87 }
theorem c_DoQ (N : Nat) {h0 h : GH} {k j : Nat} {p : Pm} {ew : Value} {cs l : List Value} {M : List (Int × List Bnd)} {ck : Int} {n : Nat} (x : IM h0 h k j p ew cs l M ck n) {a : Option Addr} {c : Nat} (q : Ak) (h1 : q.kd ≠ 1) (h2 : q.kd ≠ 2) (r : RB h (.slice a q.id.length c) q.id) (hid : q.id.length ≤ 140737488355328)
    {c9 : Value} (hc : isCell c9 = true) :
    GTri Try.prog N 32 [.pointer (some ⟨k, 0, none⟩), .agg #[.int .i64 q.kd, .slice a q.id.length c, .int .i64 q.fr, .int .i64 q.to, .int .i64 q.tm, .bool q.sm, .int .i64 q.ep, .int .i64 q.ix, .int .i64 q.lm, c9]] h fun v h' => (∃ A, AnsR p M q A ∧ RAn h' v A) ∧ HS h h' := by
  by_cases k3 : q.kd = 3
  · have e : rngK q.kd = false ∧ pagK q.kd = false := by rw [k3]; exact ⟨rfl, rfl⟩
    refine (c_DoAsof N x q k3 r hid (by simpa [isCell] using hc)).mono ?_
    rintro v h' ⟨r', s'⟩
    refine ⟨⟨_, ?_, r'⟩, s'⟩
    unfold AnsR
    rw [e.1, e.2, if_neg (by omega), if_pos (.inl k3)]
    by_cases hw : wrongF false false p M.length q = 0
    · rw [if_pos hw, if_neg (fun z => z hw), if_pos k3]
    · rw [if_neg hw, if_pos hw]
  by_cases k4 : q.kd = 4
  · have e : rngK q.kd = false ∧ pagK q.kd = false := by rw [k4]; exact ⟨rfl, rfl⟩
    refine (c_DoW N x q k4 r hid hc).mono ?_
    rintro v h' ⟨r', s'⟩
    rcases r' with ⟨hw, r'⟩ | ⟨hw, A, hA, r'⟩ <;> refine ⟨⟨_, ?_, r'⟩, s'⟩ <;> unfold AnsR <;> rw [e.1, e.2, if_neg (by omega), if_pos (by omega)]
    · rw [if_pos hw]
    · rw [if_neg (fun z => z hw), if_neg k3, if_pos k4]; exact hA
  by_cases k5 : q.kd = 5
  · have e : rngK q.kd = true ∧ pagK q.kd = false := by rw [k5]; exact ⟨rfl, rfl⟩
    refine (c_DoI N x q k5 r hid hc).mono ?_
    rintro v h' ⟨r', s'⟩
    rcases r' with ⟨hw, r'⟩ | ⟨hw, A, hA, r'⟩ <;> refine ⟨⟨_, ?_, r'⟩, s'⟩ <;> unfold AnsR <;> rw [e.1, e.2, if_neg (by omega), if_pos (by omega)]
    · rw [if_pos hw]
    · rw [if_neg (fun z => z hw), if_neg k3, if_neg k4, if_pos k5]; exact hA
  by_cases k6 : q.kd = 6
  · have e : rngK q.kd = true ∧ pagK q.kd = true := by rw [k6]; exact ⟨rfl, rfl⟩
    refine (c_DoDiff N x q k6 r hid (by simpa [isCell] using hc)).mono ?_
    rintro v h' ⟨r', s'⟩
    rcases r' with ⟨hw, r'⟩ | ⟨hw, L, D, r'⟩ <;> refine ⟨⟨_, ?_, r'⟩, s'⟩ <;> unfold AnsR <;> rw [e.1, e.2, if_neg (by omega), if_pos (by omega)]
    · rw [if_pos hw]
    · rw [if_neg (fun z => z hw), if_neg k3, if_neg k4, if_neg k5, if_pos k6]; exact ⟨L, D, rfl⟩
  by_cases k7 : q.kd = 7
  · have e : rngK q.kd = true ∧ pagK q.kd = true := by rw [k7]; exact ⟨rfl, rfl⟩
    refine (c_DoFeed N x q k7 hid (by simpa [isCell] using hc)).mono ?_
    rintro v h' ⟨r', s'⟩
    refine ⟨⟨_, ?_, r'⟩, s'⟩
    unfold AnsR
    rw [e.1, e.2, if_neg (by omega), if_pos (by omega)]
    by_cases hw : wrongF true true p M.length q = 0
    · rw [if_pos hw, if_neg (fun z => z hw), if_neg k3, if_neg k4, if_neg k5, if_neg k6, if_pos k7]
    · rw [if_neg hw, if_pos hw]
  by_cases k10 : q.kd = 10
  · have e : rngK q.kd = true ∧ pagK q.kd = true := by rw [k10]; exact ⟨rfl, rfl⟩
    refine (c_DoV N x q k10 r hid hc).mono ?_
    rintro v h' ⟨r', s'⟩
    rcases r' with ⟨hw, r'⟩ | ⟨hw, A, hA, r'⟩ <;> refine ⟨⟨_, ?_, r'⟩, s'⟩ <;> unfold AnsR <;> rw [e.1, e.2, if_neg (by omega), if_pos (by omega)]
    · rw [if_pos hw]
    · rw [if_neg (fun z => z hw), if_neg k3, if_neg k4, if_neg k5, if_neg k6, if_neg k7]; exact hA
  have e1 : (q.kd == 1) = false := by simpa using h1
  have e2 : (q.kd == 2) = false := by simpa using h2
  have e3 : (q.kd == 3) = false := by simpa using k3
  have e4 : (q.kd == 4) = false := by simpa using k4
  have e5 : (q.kd == 5) = false := by simpa using k5
  have e6 : (q.kd == 6) = false := by simpa using k6
  have e7 : (q.kd == 7) = false := by simpa using k7
  have e10 : (q.kd == 10) = false := by simpa using k10
  refine gtri Try.func32 rfl gf32 ok32 (by simp [Try.ntmps32]) ?_
  repeat' (first | (with_reducible first | refine gw_seq ?_ | refine gw_block ?_) | ((first | (with_reducible first | refine gw_region ?_ | refine gw_if ?_ | refine gw_skip ?_ | refine gw_exit ?_ | refine gw_ret ?_) | ((with_reducible first | refine gif_b (fun hb => ?_) (fun hb => ?_) | refine want_t (fun hb => ?_) (fun hb => ?_) | refine want_f (fun hb => ?_) (fun hb => ?_)) <;> (try simp only [hb]) <;> (try simp only [hpr] at hb))) <;> try simp only [gop, gyield, gLenX, gNilM, gField, gIndexV, gPart, reduceIte, seval, Int.cast_ofNat_Int, stz, stp, ty23, ty24, ty36, ty68, ty62, ty70, ty91, ty29, ty3, ty4, ty63, rs32]))
  refine box_g (by simpa [isCell] using hc) fun kb1 hb1 m1 s1 f1 n1 => ?_
  refine mk_of ?_; repeat' (first | (with_reducible first | refine gw_seq ?_ | refine gw_block ?_) | ((first | (with_reducible refine mk_to ?_) | (with_reducible first | refine gw_region ?_ | refine gw_if ?_ | refine gw_skip ?_ | refine gw_exit ?_ | refine gw_ret ?_) | ((with_reducible first | refine gif_b (fun hb => ?_) (fun hb => ?_) | refine want_t (fun hb => ?_) (fun hb => ?_) | refine want_f (fun hb => ?_) (fun hb => ?_)) <;> (try simp only [hb]) <;> (try simp only [hpr] at hb))) <;> try simp only [gop, gyield, gLenX, gNilM, gField, gIndexV, gPart, reduceIte, seval, Int.cast_ofNat_Int, stz, stp, ty23, ty24, ty36, ty68, ty62, ty70, ty91, ty29, ty3, ty4, ty63, rs32]))
  refine new_g fun kb2 hb2 m2 s2 f2 n2 => ?_
  replace m1 := s2 _ _ m1
  have s12 := s1.trans s2
  have x2 := x.hs s12
  have n2' := s1.none_of n2
  by_cases k8 : q.kd = 8
  · have e8 : (q.kd == 8) = true := by rw [k8]; rfl
    refine mk_of ?_; repeat' (first | (with_reducible first | refine gw_seq ?_ | refine gw_block ?_) | ((first | (with_reducible refine mk_to ?_) | (with_reducible first | refine gw_region ?_ | refine gw_if ?_ | refine gw_skip ?_ | refine gw_exit ?_ | refine gw_ret ?_) | ((with_reducible first | refine gif_b (fun hb => ?_) (fun hb => ?_) | refine want_t (fun hb => ?_) (fun hb => ?_) | refine want_f (fun hb => ?_) (fun hb => ?_)) <;> (try simp only [hb]) <;> (try simp only [hpr] at hb)) | ((refine GTri.mono (c_inone _ x2) ?_); rintro _ _ ⟨rfl, hh9⟩; replace hh9 := hh9.symm; subst hh9)) <;> try simp only [gop, gyield, gLenX, gNilM, gField, gIndexV, gPart, reduceIte, seval, Int.cast_ofNat_Int, stz, stp, ty23, ty24, ty36, ty68, ty62, ty70, ty91, ty29, ty3, ty4, ty63, rs32, List.map_toArray, List.map_cons, List.map_nil, gload1 m1 sz3, e1, e2, e8, List.getElem?_cons_zero, List.getElem?_cons_succ, gBuild, lfill, lput, Shape.pl, List.all_cons, List.all_nil, isCell]))
    refine st_all m2 sz70 rfl (by decide) rfl rfl rfl fun h4 m4 f4 => ?_
    refine mk_of ?_; repeat' (first | (with_reducible first | refine gw_seq ?_ | refine gw_block ?_) | ((first | (with_reducible refine mk_to ?_) | (with_reducible first | refine gw_region ?_ | refine gw_if ?_ | refine gw_skip ?_ | refine gw_exit ?_ | refine gw_ret ?_) | ((with_reducible first | refine gif_b (fun hb => ?_) (fun hb => ?_) | refine want_t (fun hb => ?_) (fun hb => ?_) | refine want_f (fun hb => ?_) (fun hb => ?_)) <;> (try simp only [hb]) <;> (try simp only [hpr] at hb))) <;> try simp only [gop, gyield, gLenX, gNilM, gField, gIndexV, gPart, reduceIte, seval, Int.cast_ofNat_Int, stz, stp, ty23, ty24, ty36, ty68, ty62, ty70, ty91, ty29, ty3, ty4, ty63, rs32, gloadA m4 sz70 rfl]))
    exact ⟨⟨{}, by unfold AnsR; rw [if_pos (.inl k8)], RAn.zero h4 0 0⟩, s12.upd n2' f4⟩
  have e8 : (q.kd == 8) = false := by simpa using k8
  by_cases k9 : q.kd = 9
  · have e9 : (q.kd == 9) = true := by rw [k9]; rfl
    refine mk_of ?_; repeat' (first | (with_reducible first | refine gw_seq ?_ | refine gw_block ?_) | ((first | (with_reducible refine mk_to ?_) | (with_reducible first | refine gw_region ?_ | refine gw_if ?_ | refine gw_skip ?_ | refine gw_exit ?_ | refine gw_ret ?_) | ((with_reducible first | refine gif_b (fun hb => ?_) (fun hb => ?_) | refine want_t (fun hb => ?_) (fun hb => ?_) | refine want_f (fun hb => ?_) (fun hb => ?_)) <;> (try simp only [hb]) <;> (try simp only [hpr] at hb)) | ((refine GTri.mono (c_inone _ x2) ?_); rintro _ _ ⟨rfl, hh9⟩; replace hh9 := hh9.symm; subst hh9)) <;> try simp only [gop, gyield, gLenX, gNilM, gField, gIndexV, gPart, reduceIte, seval, Int.cast_ofNat_Int, stz, stp, ty23, ty24, ty36, ty68, ty62, ty70, ty91, ty29, ty3, ty4, ty63, rs32, List.map_toArray, List.map_cons, List.map_nil, gload1 m1 sz3, e1, e2, e8, e9, List.getElem?_cons_zero, List.getElem?_cons_succ, gBuild, lfill, lput, Shape.pl, List.all_cons, List.all_nil, isCell]))
    refine st_all m2 sz70 rfl (by decide) rfl rfl rfl fun h4 m4 f4 => ?_
    refine mk_of ?_; repeat' (first | (with_reducible first | refine gw_seq ?_ | refine gw_block ?_) | ((first | (with_reducible refine mk_to ?_) | (with_reducible first | refine gw_region ?_ | refine gw_if ?_ | refine gw_skip ?_ | refine gw_exit ?_ | refine gw_ret ?_) | ((with_reducible first | refine gif_b (fun hb => ?_) (fun hb => ?_) | refine want_t (fun hb => ?_) (fun hb => ?_) | refine want_f (fun hb => ?_) (fun hb => ?_)) <;> (try simp only [hb]) <;> (try simp only [hpr] at hb))) <;> try simp only [gop, gyield, gLenX, gNilM, gField, gIndexV, gPart, reduceIte, seval, Int.cast_ofNat_Int, stz, stp, ty23, ty24, ty36, ty68, ty62, ty70, ty91, ty29, ty3, ty4, ty63, rs32, gloadA m4 sz70 rfl]))
    exact ⟨⟨{}, by unfold AnsR; rw [if_pos (.inr k9)], RAn.zero h4 0 0⟩, s12.upd n2' f4⟩
  have e9 : (q.kd == 9) = false := by simpa using k9
  refine mk_of ?_; repeat' (first | (with_reducible first | refine gw_seq ?_ | refine gw_block ?_) | ((first | (with_reducible refine mk_to ?_) | (with_reducible first | refine gw_region ?_ | refine gw_if ?_ | refine gw_skip ?_ | refine gw_exit ?_ | refine gw_ret ?_) | ((with_reducible first | refine gif_b (fun hb => ?_) (fun hb => ?_) | refine want_t (fun hb => ?_) (fun hb => ?_) | refine want_f (fun hb => ?_) (fun hb => ?_)) <;> (try simp only [hb]) <;> (try simp only [hpr] at hb)) | ((refine GTri.mono (c_inone _ x2) ?_); rintro _ _ ⟨rfl, hh9⟩; replace hh9 := hh9.symm; subst hh9)) <;> try simp only [gop, gyield, gLenX, gNilM, gField, gIndexV, gPart, reduceIte, seval, Int.cast_ofNat_Int, stz, stp, ty23, ty24, ty36, ty68, ty62, ty70, ty91, ty29, ty3, ty4, ty63, rs32, List.map_toArray, List.map_cons, List.map_nil, gload1 m1 sz3, e1, e2, e8, e9, e3, e4, e5, e6, e7, e10, List.getElem?_cons_zero, List.getElem?_cons_succ, gBuild, lfill, lput, Shape.pl, List.all_cons, List.all_nil, isCell]))
  refine st_all m2 sz70 rfl (by decide) rfl rfl rfl fun h4 m4 f4 => ?_
  refine mk_of ?_; repeat' (first | (with_reducible first | refine gw_seq ?_ | refine gw_block ?_) | ((first | (with_reducible refine mk_to ?_) | (with_reducible first | refine gw_region ?_ | refine gw_if ?_ | refine gw_skip ?_ | refine gw_exit ?_ | refine gw_ret ?_) | ((with_reducible first | refine gif_b (fun hb => ?_) (fun hb => ?_) | refine want_t (fun hb => ?_) (fun hb => ?_) | refine want_f (fun hb => ?_) (fun hb => ?_)) <;> (try simp only [hb]) <;> (try simp only [hpr] at hb))) <;> try simp only [gop, gyield, gLenX, gNilM, gField, gIndexV, gPart, reduceIte, seval, Int.cast_ofNat_Int, stz, stp, ty23, ty24, ty36, ty68, ty62, ty70, ty91, ty29, ty3, ty4, ty63, rs32, gloadA m4 sz70 rfl]))
  exact ⟨⟨{ code := 87 }, by unfold AnsR; rw [if_neg (by omega), if_neg (by omega)], RAn.zero h4 87 0⟩, s12.upd n2' f4⟩
end Go.Gh

/- Ideal: answers compared; what stays while a map is written. -/

namespace Go.Gh
open Go Go.Proofs Go.RowKit
set_option linter.unusedVariables false
set_option linter.unusedSimpArgs false
set_option maxRecDepth 100000
set_option maxHeartbeats 4000000

/-- Two answers that tell the same are told to be the same. -/
theorem c_SameA (N : Nat) (h : GH) {v w : Value} {A : An} (r1 : RAn h v A) (r2 : RAn h w A) (hi : A.its.length ≤ 1000000) (he : A.evs.length ≤ 1000000) :
    GTri Try.prog N 34 [v, w] h fun u h' => u = .bool true ∧ HS h h' := by
  obtain ⟨a1, a2, a3, a4, a5, a6, rfl, k1, i1, e1⟩ := r1
  obtain ⟨b1, b2, b3, b4, b5, b6, rfl, k2, i2, e2⟩ := r2
  refine gtri Try.func34 rfl gf34 ok34 (by simp [Try.ntmps34]) ?_
  repeat' (first | (with_reducible first | refine gw_seq ?_ | refine gw_block ?_) | ((first | (with_reducible first | refine gw_region ?_ | refine gw_if ?_ | refine gw_skip ?_ | refine gw_exit ?_ | refine gw_ret ?_) | ((with_reducible first | refine gif_b (fun hb => ?_) (fun hb => ?_) | refine want_t (fun hb => ?_) (fun hb => ?_) | refine want_f (fun hb => ?_) (fun hb => ?_)) <;> (try simp only [hb]) <;> (try simp only [hpr] at hb))) <;> try simp only [gop, gyield, gLenX, gNilM, gField, gIndexV, gPart, reduceIte, seval, Int.cast_ofNat_Int, stz, stp, ty24, ty36, ty68, ty33, ty70, ty97, ty29, ty3, ty4, ty5, ty9, rs34]))
  refine box_g rfl fun kb1 h1 m1 s1 f1 n1 => ?_
  refine mk_of ?_; repeat' (first | (with_reducible first | refine gw_seq ?_ | refine gw_block ?_) | ((first | (with_reducible refine mk_to ?_) | (with_reducible first | refine gw_region ?_ | refine gw_if ?_ | refine gw_skip ?_ | refine gw_exit ?_ | refine gw_ret ?_) | ((with_reducible first | refine gif_b (fun hb => ?_) (fun hb => ?_) | refine want_t (fun hb => ?_) (fun hb => ?_) | refine want_f (fun hb => ?_) (fun hb => ?_)) <;> (try simp only [hb]) <;> (try simp only [hpr] at hb))) <;> try simp only [gop, gyield, gLenX, gNilM, gField, gIndexV, gPart, reduceIte, seval, Int.cast_ofNat_Int, stz, stp, ty24, ty36, ty68, ty33, ty70, ty97, ty29, ty3, ty4, ty5, ty9, rs34]))
  refine box_g rfl fun kb2 h2 m2 s2 f2 n2 => ?_
  replace m1 := s2 _ _ m1
  have s12 := s1.trans s2
  have cv1 := (k1.hs s12).conv Try.underlying24 Try.underlying5 Try.underlying9
  have cv2 := (k2.hs s12).conv Try.underlying24 Try.underlying5 Try.underlying9
  refine mk_of ?_; repeat' (first | (with_reducible first | refine gw_seq ?_ | refine gw_block ?_) | ((first | (with_reducible refine mk_to ?_) | (with_reducible first | refine gw_region ?_ | refine gw_if ?_ | refine gw_skip ?_ | refine gw_exit ?_ | refine gw_ret ?_) | ((with_reducible first | refine gif_b (fun hb => ?_) (fun hb => ?_) | refine want_t (fun hb => ?_) (fun hb => ?_) | refine want_f (fun hb => ?_) (fun hb => ?_)) <;> (try simp only [hb]) <;> (try simp only [hpr] at hb))) <;> try simp only [gop, gyield, gLenX, gNilM, gField, gIndexV, gPart, reduceIte, seval, Int.cast_ofNat_Int, stz, stp, ty24, ty36, ty68, ty33, ty70, ty97, ty29, ty3, ty4, ty5, ty9, rs34]))
  simp only [List.append_eq, List.cons_append, List.nil_append]
  refine mk_of ?_; repeat' (first | (with_reducible first | refine gw_seq ?_ | refine gw_block ?_) | ((first | (with_reducible refine mk_to ?_) | (with_reducible first | refine gw_region ?_ | refine gw_if ?_ | refine gw_skip ?_ | refine gw_exit ?_ | refine gw_ret ?_) | ((with_reducible first | refine gif_b (fun hb => ?_) (fun hb => ?_) | refine want_t (fun hb => ?_) (fun hb => ?_) | refine want_f (fun hb => ?_) (fun hb => ?_)) <;> (try simp only [hb]) <;> (try simp only [hpr] at hb))) <;> try simp only [gop, gyield, gLenX, gNilM, gField, gIndexV, gPart, reduceIte, seval, Int.cast_ofNat_Int, stz, stp, ty24, ty36, ty68, ty33, ty70, ty97, ty29, ty3, ty4, ty5, ty9, rs34, gload1 m1 sz29, gload1 m1 sz3, gload1 m1 sz4, gload1 m1 sz24, gload1 m1 sz68, gload1 m1 sz36, gload1 m2 sz29, gload1 m2 sz3, gload1 m2 sz4, gload1 m2 sz24, gload1 m2 sz68, gload1 m2 sz36, cv1, cv2, bne_self_eq_false, gPick, List.getElem?_cons_zero, List.getElem?_cons_succ]))
  all_goals try exact absurd trivial hb
  have i1' := i1.hcR s12.hc fun _ _ q => (q.hs s12 : It h2 _ _)
  have i2' := i2.hcR s12.hc fun _ _ q => (q.hs s12 : It h2 _ _)
  have e1' := e1.hcR s12.hc fun _ _ q => (q.hs s12 : Ev h2 _ _)
  have e2' := e2.hcR s12.hc fun _ _ q => (q.hs s12 : Ev h2 _ _)
  refine gw_loop2 [2, 3, 79, 80] (fun (i : Nat) => [(81, .int .i64 (i : Int))])
    (fun q i h' => A.its.length - i = q ∧ i ≤ A.its.length ∧ HS h2 h') A.its.length 0 (by simp [lk]) ⟨rfl, by omega, HS.refl _⟩ ?_
  rintro _ i h3 ⟨rfl, hi3, s3⟩
  have m13 := s3 _ _ m1
  have m23 := s3 _ _ m2
  by_cases hil : i < A.its.length
  · have d3 : decide ((i : Int) < (A.its.length : Int)) = true := decide_eq_true (by omega)
    have wi : IntKind.i64.wrap ((i : Int) + 1) = ((i + 1 : Nat) : Int) := by rw [wrap64 (by omega) (by omega)]; omega
    obtain ⟨y, hy⟩ := get_lt hil
    obtain ⟨ad, cy, g1, g2, p1, p2, p3, p4, rfl, p5, p6⟩ := (i1'.hcR s3.hc fun _ _ q => (q.hs s3 : It h3 _ _)).at (P := Try.prog) Try.underlying68 sz97 hy
    have l1 : gLoad Try.prog 97 h3 (.pointer (some ad)) = some (.agg #[.slice p1 y.1.1.length p2, .slice p3 y.1.2.length p4, .int .i64 (y.2 : Int)]) := by simp only [gLoad, sz97, g2]; rfl
    refine mk_of ?_; repeat' (first | (with_reducible first | refine gw_seq ?_ | refine gw_block ?_) | ((first | (with_reducible refine mk_to ?_) | (with_reducible first | refine gw_region ?_ | refine gw_if ?_ | refine gw_skip ?_ | refine gw_exit ?_ | refine gw_ret ?_) | ((with_reducible first | refine gif_b (fun hb => ?_) (fun hb => ?_) | refine want_t (fun hb => ?_) (fun hb => ?_) | refine want_f (fun hb => ?_) (fun hb => ?_)) <;> (try simp only [hb]) <;> (try simp only [hpr] at hb))) <;> try simp only [gop, gyield, gLenX, gNilM, gField, gIndexV, gPart, reduceIte, seval, Int.cast_ofNat_Int, stz, stp, ty24, ty36, ty68, ty33, ty70, ty97, ty29, ty3, ty4, ty5, ty9, rs34, d3, g1, l1]))
    refine new_g fun k4 h4 m4 s4 f4 n4 => ?_
    refine mk_of ?_; repeat' (first | (with_reducible first | refine gw_seq ?_ | refine gw_block ?_) | ((first | (with_reducible refine mk_to ?_) | (with_reducible first | refine gw_region ?_ | refine gw_if ?_ | refine gw_skip ?_ | refine gw_exit ?_ | refine gw_ret ?_) | ((with_reducible first | refine gif_b (fun hb => ?_) (fun hb => ?_) | refine want_t (fun hb => ?_) (fun hb => ?_) | refine want_f (fun hb => ?_) (fun hb => ?_)) <;> (try simp only [hb]) <;> (try simp only [hpr] at hb))) <;> try simp only [gop, gyield, gLenX, gNilM, gField, gIndexV, gPart, reduceIte, seval, Int.cast_ofNat_Int, stz, stp, ty24, ty36, ty68, ty33, ty70, ty97, ty29, ty3, ty4, ty5, ty9, rs34]))
    refine st_all m4 sz97 rfl (by decide) rfl rfl rfl fun h5 m5 f5 => ?_
    have s5 : HS h3 h5 := (HS.refl h3).upd n4 (fun j hj => (f5 j hj).trans (f4 j hj))
    have s25 := s3.trans s5
    have m25 := s5 _ _ m23
    obtain ⟨ad2, cy2, g3, g4, q1, q2, q3, q4, rfl, q5, q6⟩ := (i2'.hcR s25.hc fun _ _ q => (q.hs s25 : It h5 _ _)).at (P := Try.prog) Try.underlying68 sz97 hy
    have l2 : gLoad Try.prog 97 h5 (.pointer (some ad2)) = some (.agg #[.slice q1 y.1.1.length q2, .slice q3 y.1.2.length q4, .int .i64 (y.2 : Int)]) := by simp only [gLoad, sz97, g4]; rfl
    refine mk_of ?_; repeat' (first | (with_reducible first | refine gw_seq ?_ | refine gw_block ?_) | ((first | (with_reducible refine mk_to ?_) | (with_reducible first | refine gw_region ?_ | refine gw_if ?_ | refine gw_skip ?_ | refine gw_exit ?_ | refine gw_ret ?_) | ((with_reducible first | refine gif_b (fun hb => ?_) (fun hb => ?_) | refine want_t (fun hb => ?_) (fun hb => ?_) | refine want_f (fun hb => ?_) (fun hb => ?_)) <;> (try simp only [hb]) <;> (try simp only [hpr] at hb))) <;> try simp only [gop, gyield, gLenX, gNilM, gField, gIndexV, gPart, reduceIte, seval, Int.cast_ofNat_Int, stz, stp, ty24, ty36, ty68, ty33, ty70, ty97, ty29, ty3, ty4, ty5, ty9, rs34, g3, l2, gload1 m25 sz68, List.getElem?_cons_zero, List.getElem?_cons_succ]))
    refine new_g fun k6 h6 m6 s6 f6 n6 => ?_
    refine mk_of ?_; repeat' (first | (with_reducible first | refine gw_seq ?_ | refine gw_block ?_) | ((first | (with_reducible refine mk_to ?_) | (with_reducible first | refine gw_region ?_ | refine gw_if ?_ | refine gw_skip ?_ | refine gw_exit ?_ | refine gw_ret ?_) | ((with_reducible first | refine gif_b (fun hb => ?_) (fun hb => ?_) | refine want_t (fun hb => ?_) (fun hb => ?_) | refine want_f (fun hb => ?_) (fun hb => ?_)) <;> (try simp only [hb]) <;> (try simp only [hpr] at hb))) <;> try simp only [gop, gyield, gLenX, gNilM, gField, gIndexV, gPart, reduceIte, seval, Int.cast_ofNat_Int, stz, stp, ty24, ty36, ty68, ty33, ty70, ty97, ty29, ty3, ty4, ty5, ty9, rs34]))
    refine st_all m6 sz97 rfl (by decide) rfl rfl rfl fun h7 m7 f7 => ?_
    have s7 : HS h5 h7 := (HS.refl h5).upd n6 (fun j hj => (f7 j hj).trans (f6 j hj))
    have m57 := s7 _ _ m5
    have ca := ((p5.hs s5).hs s7).conv Try.underlying24 Try.underlying5 Try.underlying9
    have cb := ((p6.hs s5).hs s7).conv Try.underlying24 Try.underlying5 Try.underlying9
    have cc := (q5.hs s7).conv Try.underlying24 Try.underlying5 Try.underlying9
    have cd := (q6.hs s7).conv Try.underlying24 Try.underlying5 Try.underlying9
    refine mk_of ?_; repeat' (first | (with_reducible first | refine gw_seq ?_ | refine gw_block ?_) | ((first | (with_reducible refine mk_to ?_) | (with_reducible first | refine gw_region ?_ | refine gw_if ?_ | refine gw_skip ?_ | refine gw_exit ?_ | refine gw_ret ?_) | ((with_reducible first | refine gif_b (fun hb => ?_) (fun hb => ?_) | refine want_t (fun hb => ?_) (fun hb => ?_) | refine want_f (fun hb => ?_) (fun hb => ?_)) <;> (try simp only [hb]) <;> (try simp only [hpr] at hb))) <;> try simp only [gop, gyield, gLenX, gNilM, gField, gIndexV, gPart, reduceIte, seval, Int.cast_ofNat_Int, stz, stp, ty24, ty36, ty68, ty33, ty70, ty97, ty29, ty3, ty4, ty5, ty9, rs34, gload1 m57 sz24, gload1 m57 sz3, gload1 m7 sz24, gload1 m7 sz3, ca, cb, cc, cd, bne_self_eq_false, gPick, wi, List.getElem?_cons_zero, List.getElem?_cons_succ]))
    all_goals try exact absurd trivial hb
    exact ⟨_, i + 1, by omega, (by simp only [List.forall_mem_cons, List.not_mem_nil, false_implies, implies_true, List.map, List.cons_append, List.nil_append, lk, Nat.reduceEqDiff, reduceIte, and_true, true_and]), rfl, by omega, s25.trans s7⟩
  have d3 : decide ((i : Int) < (A.its.length : Int)) = false := decide_eq_false (by omega)
  refine mk_of ?_; repeat' (first | (with_reducible first | refine gw_seq ?_ | refine gw_block ?_) | ((first | (with_reducible refine mk_to ?_) | (with_reducible first | refine gw_region ?_ | refine gw_if ?_ | refine gw_skip ?_ | refine gw_exit ?_ | refine gw_ret ?_) | ((with_reducible first | refine gif_b (fun hb => ?_) (fun hb => ?_) | refine want_t (fun hb => ?_) (fun hb => ?_) | refine want_f (fun hb => ?_) (fun hb => ?_)) <;> (try simp only [hb]) <;> (try simp only [hpr] at hb))) <;> try simp only [gop, gyield, gLenX, gNilM, gField, gIndexV, gPart, reduceIte, seval, Int.cast_ofNat_Int, stz, stp, ty24, ty36, ty68, ty33, ty70, ty97, ty29, ty3, ty4, ty5, ty9, rs34, d3, gload1 m13 sz36, List.getElem?_cons_zero, List.getElem?_cons_succ]))
  refine gw_loop2 [3, 116, 117] (fun (i : Nat) => [(118, .int .i64 (i : Int))])
    (fun q i h' => A.evs.length - i = q ∧ i ≤ A.evs.length ∧ HS h3 h') A.evs.length 0 (by simp [lk]) ⟨rfl, by omega, HS.refl _⟩ ?_
  clear hil hi3 d3
  rintro _ i h3' ⟨rfl, hi3, s3'⟩
  have s23 := s3.trans s3'
  have m23 := s23 _ _ m2
  by_cases hil : i < A.evs.length
  · have d3 : decide ((i : Int) < (A.evs.length : Int)) = true := decide_eq_true (by omega)
    have wi : IntKind.i64.wrap ((i : Int) + 1) = ((i + 1 : Nat) : Int) := by rw [wrap64 (by omega) (by omega)]; omega
    obtain ⟨y, hy⟩ := get_lt hil
    obtain ⟨ad, cy, g1, g2, p1, p2, p3, p4, rfl, p5, p6⟩ := (e1'.hcR s23.hc fun _ _ q => (q.hs s23 : Ev h3' _ _)).at (P := Try.prog) Try.underlying36 sz33 hy
    have l1 : gLoad Try.prog 33 h3' (.pointer (some ad)) = some (.agg #[.int .i64 (y.1 : Int), .int .i64 (y.2.1 : Int), .slice p1 y.2.2.1.length p2, .slice p3 y.2.2.2.length p4]) := by simp only [gLoad, sz33, g2]; rfl
    refine mk_of ?_; repeat' (first | (with_reducible first | refine gw_seq ?_ | refine gw_block ?_) | ((first | (with_reducible refine mk_to ?_) | (with_reducible first | refine gw_region ?_ | refine gw_if ?_ | refine gw_skip ?_ | refine gw_exit ?_ | refine gw_ret ?_) | ((with_reducible first | refine gif_b (fun hb => ?_) (fun hb => ?_) | refine want_t (fun hb => ?_) (fun hb => ?_) | refine want_f (fun hb => ?_) (fun hb => ?_)) <;> (try simp only [hb]) <;> (try simp only [hpr] at hb))) <;> try simp only [gop, gyield, gLenX, gNilM, gField, gIndexV, gPart, reduceIte, seval, Int.cast_ofNat_Int, stz, stp, ty24, ty36, ty68, ty33, ty70, ty97, ty29, ty3, ty4, ty5, ty9, rs34, d3, g1, l1]))
    refine new_g fun k4 h4 m4 s4 f4 n4 => ?_
    refine mk_of ?_; repeat' (first | (with_reducible first | refine gw_seq ?_ | refine gw_block ?_) | ((first | (with_reducible refine mk_to ?_) | (with_reducible first | refine gw_region ?_ | refine gw_if ?_ | refine gw_skip ?_ | refine gw_exit ?_ | refine gw_ret ?_) | ((with_reducible first | refine gif_b (fun hb => ?_) (fun hb => ?_) | refine want_t (fun hb => ?_) (fun hb => ?_) | refine want_f (fun hb => ?_) (fun hb => ?_)) <;> (try simp only [hb]) <;> (try simp only [hpr] at hb))) <;> try simp only [gop, gyield, gLenX, gNilM, gField, gIndexV, gPart, reduceIte, seval, Int.cast_ofNat_Int, stz, stp, ty24, ty36, ty68, ty33, ty70, ty97, ty29, ty3, ty4, ty5, ty9, rs34]))
    refine st_all m4 sz33 rfl (by decide) rfl rfl rfl fun h5 m5 f5 => ?_
    have s5 : HS h3' h5 := (HS.refl h3').upd n4 (fun j hj => (f5 j hj).trans (f4 j hj))
    have s25 := s23.trans s5
    have m25 := s5 _ _ m23
    obtain ⟨ad2, cy2, g3, g4, q1, q2, q3, q4, rfl, q5, q6⟩ := (e2'.hcR s25.hc fun _ _ q => (q.hs s25 : Ev h5 _ _)).at (P := Try.prog) Try.underlying36 sz33 hy
    have l2 : gLoad Try.prog 33 h5 (.pointer (some ad2)) = some (.agg #[.int .i64 (y.1 : Int), .int .i64 (y.2.1 : Int), .slice q1 y.2.2.1.length q2, .slice q3 y.2.2.2.length q4]) := by simp only [gLoad, sz33, g4]; rfl
    refine mk_of ?_; repeat' (first | (with_reducible first | refine gw_seq ?_ | refine gw_block ?_) | ((first | (with_reducible refine mk_to ?_) | (with_reducible first | refine gw_region ?_ | refine gw_if ?_ | refine gw_skip ?_ | refine gw_exit ?_ | refine gw_ret ?_) | ((with_reducible first | refine gif_b (fun hb => ?_) (fun hb => ?_) | refine want_t (fun hb => ?_) (fun hb => ?_) | refine want_f (fun hb => ?_) (fun hb => ?_)) <;> (try simp only [hb]) <;> (try simp only [hpr] at hb))) <;> try simp only [gop, gyield, gLenX, gNilM, gField, gIndexV, gPart, reduceIte, seval, Int.cast_ofNat_Int, stz, stp, ty24, ty36, ty68, ty33, ty70, ty97, ty29, ty3, ty4, ty5, ty9, rs34, g3, l2, gload1 m25 sz36, List.getElem?_cons_zero, List.getElem?_cons_succ]))
    refine new_g fun k6 h6 m6 s6 f6 n6 => ?_
    refine mk_of ?_; repeat' (first | (with_reducible first | refine gw_seq ?_ | refine gw_block ?_) | ((first | (with_reducible refine mk_to ?_) | (with_reducible first | refine gw_region ?_ | refine gw_if ?_ | refine gw_skip ?_ | refine gw_exit ?_ | refine gw_ret ?_) | ((with_reducible first | refine gif_b (fun hb => ?_) (fun hb => ?_) | refine want_t (fun hb => ?_) (fun hb => ?_) | refine want_f (fun hb => ?_) (fun hb => ?_)) <;> (try simp only [hb]) <;> (try simp only [hpr] at hb))) <;> try simp only [gop, gyield, gLenX, gNilM, gField, gIndexV, gPart, reduceIte, seval, Int.cast_ofNat_Int, stz, stp, ty24, ty36, ty68, ty33, ty70, ty97, ty29, ty3, ty4, ty5, ty9, rs34]))
    refine st_all m6 sz33 rfl (by decide) rfl rfl rfl fun h7 m7 f7 => ?_
    have s7 : HS h5 h7 := (HS.refl h5).upd n6 (fun j hj => (f7 j hj).trans (f6 j hj))
    have m57 := s7 _ _ m5
    have ca := ((p5.hs s5).hs s7).conv Try.underlying24 Try.underlying5 Try.underlying9
    have cb := ((p6.hs s5).hs s7).conv Try.underlying24 Try.underlying5 Try.underlying9
    have cc := (q5.hs s7).conv Try.underlying24 Try.underlying5 Try.underlying9
    have cd := (q6.hs s7).conv Try.underlying24 Try.underlying5 Try.underlying9
    refine mk_of ?_; repeat' (first | (with_reducible first | refine gw_seq ?_ | refine gw_block ?_) | ((first | (with_reducible refine mk_to ?_) | (with_reducible first | refine gw_region ?_ | refine gw_if ?_ | refine gw_skip ?_ | refine gw_exit ?_ | refine gw_ret ?_) | ((with_reducible first | refine gif_b (fun hb => ?_) (fun hb => ?_) | refine want_t (fun hb => ?_) (fun hb => ?_) | refine want_f (fun hb => ?_) (fun hb => ?_)) <;> (try simp only [hb]) <;> (try simp only [hpr] at hb))) <;> try simp only [gop, gyield, gLenX, gNilM, gField, gIndexV, gPart, reduceIte, seval, Int.cast_ofNat_Int, stz, stp, ty24, ty36, ty68, ty33, ty70, ty97, ty29, ty3, ty4, ty5, ty9, rs34, gload1 m57 sz24, gload1 m57 sz3, gload1 m7 sz24, gload1 m7 sz3, ca, cb, cc, cd, bne_self_eq_false, gPick, wi, List.getElem?_cons_zero, List.getElem?_cons_succ]))
    all_goals try exact absurd trivial hb
    exact ⟨_, i + 1, by omega, (by simp only [List.forall_mem_cons, List.not_mem_nil, false_implies, implies_true, List.map, List.cons_append, List.nil_append, lk, Nat.reduceEqDiff, reduceIte, and_true, true_and]), rfl, by omega, s3'.trans (s5.trans s7)⟩
  have d3 : decide ((i : Int) < (A.evs.length : Int)) = false := decide_eq_false (by omega)
  refine mk_of ?_; repeat' (first | (with_reducible first | refine gw_seq ?_ | refine gw_block ?_) | ((first | (with_reducible refine mk_to ?_) | (with_reducible first | refine gw_region ?_ | refine gw_if ?_ | refine gw_skip ?_ | refine gw_exit ?_ | refine gw_ret ?_) | ((with_reducible first | refine gif_b (fun hb => ?_) (fun hb => ?_) | refine want_t (fun hb => ?_) (fun hb => ?_) | refine want_f (fun hb => ?_) (fun hb => ?_)) <;> (try simp only [hb]) <;> (try simp only [hpr] at hb))) <;> try simp only [gop, gyield, gLenX, gNilM, gField, gIndexV, gPart, reduceIte, seval, Int.cast_ofNat_Int, stz, stp, ty24, ty36, ty68, ty33, ty70, ty97, ty29, ty3, ty4, ty5, ty9, rs34, d3]))
  exact s12.trans s23

/-! ## What stays while a map is written -/
def offB (ks : List Nat) (h : GH) : GH := fun i => if i ∈ ks then none else h i
theorem offB_hs (ks : List Nat) (h : GH) : HS (offB ks h) h := fun i B e => by
  unfold offB at e
  split at e
  · cases e
  · exact e
theorem offB_of {ks : List Nat} {h : GH} {i : Nat} {B : GB} (e : h i = some B) (n : i ∉ ks) : offB ks h i = some B := by
  unfold offB
  rw [if_neg n]; exact e
section
variable {h0 h : GH} {k j : Nat} {p : Pm} {ew : Value} {cs l : List Value} {M : List (Int × List Bnd)} {ck : Int} {n : Nat} {S : List UInt8 → List (Nat × Nat)}
/-- A map, of a base that has all else. -/
theorem IS.only (x : IS h0 h k j p ew cs l M ck n S) : ∃ kb tl, h kb = some ⟨cs, 2, true, tl⟩ ∧ h0 kb = none ∧ IS (offB [k, j + 1, kb] h) h k j p ew cs l M ck n S := by
  obtain ⟨kb, c, tl, g1, g2, g3, g4, g5, g6⟩ := x.ep
  refine ⟨kb, tl, g4, g5, x.obj, by simp [offB], x.mp, by simp [offB], x.ok, x.u8, ⟨kb, c, tl, g1, g2, g3, g4, by simp [offB], g6⟩, x.eps, x.sp, x.cu8, x.bl, x.len, x.tt, x.nch, x.may, x.ks⟩
theorem IS.off (x : IS h0 h k j p ew cs l M ck n S) {kb : Nat} {tl : Bool} (hkb : h kb = some ⟨cs, 2, true, tl⟩) : MF h (offB [k, j + 1, kb] h) := fun i B e q => by
  refine offB_of e fun hm => ?_
  obtain ⟨ae, ce, ee⟩ := x.ep.form
  simp only [List.mem_cons, List.not_mem_nil, or_false] at hm
  rcases hm with rfl | rfl | rfl
  · rw [x.obj, ee] at e
    cases e
    rcases q with q | q | ⟨q, _⟩ <;> simp [notU8] at q
  · rw [x.mp] at e
    cases e
    rcases q with q | q | ⟨q, _⟩
    · simp only [List.all_cons, x.u8, Bool.and_true] at q; cases q
    · simp at q
    · simp at q
  · rw [hkb] at e
    cases e
    rcases q with q | q | ⟨_, a, b, c, r, q⟩
    · rw [x.cu8] at q; cases q
    · simp at q
    · obtain ⟨t, r', e'⟩ := x.first
      rw [e'] at q; cases q
def isS : Value → Bool
  | .slice .. => true
  | _ => false
theorem IS.alt (x : IS h0 h k j p ew cs l M ck n S) {o : Nat} {u v : Value} (h1 : cs[o]? = some u) (h2 : cs[o + 1]? = some v) : isS u ≠ isS v := by
  obtain ⟨kb, c, tl, g1, g2, g3, g4, g5, g6⟩ := x.ep
  have hl := (List.getElem?_eq_some_iff.1 h2).1
  have at2 : ∀ e, e < M.length → ∃ t a b c, cs[e * 2]? = some (.int .i64 t) ∧ cs[e * 2 + 1]? = some (.slice a b c) := fun e he => by
    obtain ⟨y, hy⟩ := get_lt he
    obtain ⟨w, h3, bt⟩ := x.eps e y hy
    obtain ⟨ds, ow, _⟩ := bt
    obtain ⟨a, c, rfl⟩ := ow.form
    have q0 : ((cs.drop (e * 2)).take 2)[0]? = some (.int .i64 y.1) := by rw [h3]; rfl
    have q1 : ((cs.drop (e * 2)).take 2)[1]? = some (.slice a y.2.length c) := by rw [h3]; rfl
    rw [List.getElem?_take, if_pos (by decide), List.getElem?_drop] at q0 q1
    exact ⟨_, _, _, _, q0, q1⟩
  rcases Nat.mod_two_eq_zero_or_one o with ho | ho
  · obtain ⟨t, a, b, c, q0, q1⟩ := at2 (o / 2) (by omega)
    rw [show o / 2 * 2 = o by omega] at q0 q1
    rw [h1] at q0
    rw [h2] at q1
    cases q0; cases q1
    simp [isS]
  · obtain ⟨t, a, b, c, q0, q1⟩ := at2 (o / 2) (by omega)
    obtain ⟨t', a', b', c', q0', q1'⟩ := at2 (o / 2 + 1) (by omega)
    rw [show o / 2 * 2 + 1 = o by omega] at q1
    rw [show (o / 2 + 1) * 2 = o + 1 by omega] at q0'
    rw [h1] at q1
    rw [h2] at q0'
    cases q1; cases q0'
    simp [isS]
/-- A slice whose elements begin with two cells of a kind stays. -/
theorem IS.rls {α : Type} {es : Nat} {R : GH → List Value → α → Prop} {v : Value} {L : List α} (x : IS h0 h k j p ew cs l M ck n S) {kb : Nat} {tl : Bool} (hkb : h kb = some ⟨cs, 2, true, tl⟩) (r : RL es R h v L) (hes : 2 ≤ es) (hk : ∀ cs y, R h cs y → ∃ u w, cs[0]? = some u ∧ cs[1]? = some w ∧ isS u = isS w)
    {h' : GH} (s : HS (offB [k, j + 1, kb] h) h') (hR : ∀ cs y, R h cs y → R h' cs y) : RL es R h' v L := by
  rcases r with r | ⟨ad, c, cz, g1, g2, g3, g4, g5⟩
  · exact .inl r
  · by_cases hL : L = []
    · subst hL
      refine .inr ⟨ad, c, cz, g1, ?_, g3, fun i x hx => by simp at hx, .inl (by simp)⟩
      simpa [gread] using g2
    · have hl0 : 0 < L.length := List.length_pos_iff.2 hL
      have hn0 : L.length * es ≠ 0 := by
        have := Nat.mul_le_mul hl0 hes
        omega
      rcases g5 with g5 | ⟨B, hB, hBw⟩
      · exact absurd g5 hn0
      have hne : ad.block ∉ [k, j + 1, kb] := fun hm => by
        simp only [List.mem_cons, List.not_mem_nil, or_false] at hm
        rcases hm with hm | hm | hm
        · rw [hm, x.obj] at hB; cases hB; simp at hBw
        · rw [hm, x.mp] at hB; cases hB; simp at hBw
        · obtain ⟨y, hy⟩ := get_lt hl0
          obtain ⟨u, w, q1, q2, q3⟩ := hk _ _ (g4 0 y hy)
          rw [Nat.zero_mul, List.drop_zero] at q1 q2
          rw [List.getElem?_take] at q1 q2
          rw [if_pos (by omega)] at q1 q2
          have hs := gread_spot2 g2 hn0
          have e1 := gread_get g2 (i := 0) q1
          have e2 := gread_get g2 (i := 1) q2
          rw [hm] at e1 e2
          simp only [gread, if_neg (show ¬ (1 : Nat) = 0 by decide), hkb] at e1 e2
          split at e1
          case isFalse => cases e1
          split at e2
          case isFalse => cases e2
          simp only [Option.some.injEq] at e1 e2
          have c1 : cs[ad.off + 0]? = some u := by
            have := congrArg (·[0]?) e1
            simpa [List.getElem?_take, List.getElem?_drop] using this
          have c2 : cs[ad.off + 1]? = some w := by
            have := congrArg (·[0]?) e2
            simpa [List.getElem?_take, List.getElem?_drop] using this
          exact x.alt (o := ad.off) (by simpa using c1) c2 q3
      have hB' : h' ad.block = some B := s _ _ (offB_of hB hne)
      refine .inr ⟨ad, c, cz, g1, ?_, g3, fun i y hy => hR _ _ (g4 i y hy), .inr ⟨B, hB', hBw⟩⟩
      unfold gread at g2 ⊢
      rw [if_neg hn0] at g2 ⊢
      rw [hB] at g2
      rw [hB']
      exact g2
theorem RB.offB (x : IS h0 h k j p ew cs l M ck n S) {kb : Nat} {tl : Bool} (hkb : h kb = some ⟨cs, 2, true, tl⟩) {h' : GH} (s : HS (offB [k, j + 1, kb] h) h') {v : Value} {L : List UInt8} (r : RB h v L) : RB h' v L := (r.mf (x.off hkb)).hs s
theorem RAn.offB (x : IS h0 h k j p ew cs l M ck n S) {kb : Nat} {tl : Bool} (hkb : h kb = some ⟨cs, 2, true, tl⟩) {h' : GH} (s : HS (offB [k, j + 1, kb] h) h') {v : Value} {A : An} (r : RAn h v A) : RAn h' v A := by
  obtain ⟨a, b, c, d, e, f, rfl, r1, r2, r3⟩ := r
  refine ⟨a, b, c, d, e, f, rfl, RB.offB x hkb s r1, x.rls hkb r2 (by decide) (fun cs y q => ?_) s (fun cs y q => ?_), x.rls hkb r3 (by decide) (fun cs y q => ?_) s (fun cs y q => ?_)⟩
  · obtain ⟨a, c, b, d, rfl, _⟩ := q
    exact ⟨_, _, rfl, rfl, rfl⟩
  · obtain ⟨a, c, b, d, e, r1, r2⟩ := q
    exact ⟨a, c, b, d, e, RB.offB x hkb s r1, RB.offB x hkb s r2⟩
  · obtain ⟨a, c, b, d, rfl, _⟩ := q
    exact ⟨_, _, rfl, rfl, rfl⟩
  · obtain ⟨a, c, b, d, e, r1, r2⟩ := q
    exact ⟨a, c, b, d, e, RB.offB x hkb s r1, RB.offB x hkb s r2⟩
end
end Go.Gh

/- Ideal: what is answered stays so. Plain laws. -/

namespace Go.Gh
open Go Go.Proofs Go.RowKit
set_option linter.unusedVariables false
set_option linter.unusedSimpArgs false
set_option maxRecDepth 100000
set_option maxHeartbeats 2000000

theorem sps_cat (id : List UInt8) (B : List (List Bnd)) : ∀ (A : List (List Bnd)) (e : Nat), sps e (A ++ B) id = sps e A id ++ sps (e + A.length) B id
  | [], e => by simp [sps]
  | b :: A, e => by
    simp only [List.cons_append, sps, sps_cat id B A (e + 1), List.append_assoc, List.length_cons]
    rw [show e + 1 + A.length = e + (A.length + 1) by omega]
section
variable {M E : List (Int × List Bnd)}
theorem sps_ext (id : List UInt8) : ∃ r, sps 0 ((M ++ E).map (·.2)) id = sps 0 (M.map (·.2)) id ++ r ∧ ∀ p ∈ r, M.length ≤ p.1 := by
  refine ⟨_, by rw [List.map_append, sps_cat], fun p hp => ?_⟩
  have := (sps_mem hp).1
  rw [List.length_map] at this
  omega
theorem bOf_ext {e : Nat} (h : e < M.length) : bOf (M ++ E) e = bOf M e := by unfold bOf; rw [List.getElem?_append_left h]
theorem atI_ext (id : List UInt8) {t : Int} (h : t < (M.length : Int)) : atI (M ++ E) id t = atI M id t := by
  obtain ⟨r, e, hr⟩ := sps_ext (M := M) (E := E) id
  have hS : atS (sps 0 ((M ++ E).map (·.2)) id) t = atS (sps 0 (M.map (·.2)) id) t := by
    unfold atS
    rw [e, List.filter_append]
    have : r.filter (fun p => decide ((p.1 : Int) ≤ t)) = [] := by
      rw [List.filter_eq_nil_iff]
      intro p hp
      have := hr p hp
      simp only [decide_eq_true_eq]
      omega
    rw [this, List.append_nil]
  unfold atI
  rw [hS]
  cases hA : atS (sps 0 (M.map (·.2)) id) t with
  | none => rfl
  | some ep =>
    have : ep < M.length := by
      unfold atS at hA
      obtain ⟨w, hw, rfl⟩ := Option.map_eq_some_iff.1 hA
      have h1 := (List.mem_filter.1 (List.mem_of_getLast? hw)).1
      have := (sps_mem h1).2.1
      rw [List.length_map] at this
      omega
    simp only [Option.map_some]
    rw [List.getElem?_append_left this]
theorem evA_ext : ∀ (c s : Nat), s + c ≤ M.length → evA (M ++ E) s c = evA M s c
  | 0, _, _ => rfl
  | c + 1, s, h => by
    rw [evA_cons, evA_cons, evA_ext c (s + 1) (by omega), bOf_ext (by omega)]
theorem dsel_ext (q : Ak) (id : List UInt8) (h : q.to < (M.length : Int)) : dsel (M ++ E) q id = dsel M q id := by
  unfold dsel
  rw [atI_ext id h]
theorem asofA_ext (id : List UInt8) {t : Int} (h : t < (M.length : Int)) : asofA (M ++ E) id t = asofA M id t := by
  unfold asofA
  rw [atI_ext id h]
theorem versL_ext (q : Ak) (h : q.to < (M.length : Int)) : versL (M ++ E) q = versL M q := by
  obtain ⟨r, e, hr⟩ := sps_ext (M := M) (E := E) q.id
  unfold versL vacc
  rw [e, List.drop_zero, List.drop_zero, List.filter_append]
  have : r.filter (vsel q) = [] := by
    rw [List.filter_eq_nil_iff]
    intro p hp
    have := hr p hp
    unfold vsel
    simp only [Bool.and_eq_true, decide_eq_true_eq]
    omega
  rw [this, List.append_nil]
  refine List.map_congr_left fun p hp => ?_
  have h1 := (List.mem_filter.1 (List.mem_reverse.1 hp)).1
  have := (sps_mem h1).2.1
  rw [List.length_map] at this
  unfold vit
  rw [bOf_ext (by omega)]
theorem curOk_ext (q : Ak) (h0 : 0 ≤ q.to) (h : q.to < (M.length : Int)) : curOk (M ++ E) q = curOk M q := by
  unfold curOk
  split
  · rfl
  · by_cases he : q.ep ≤ q.to
    · rw [bOf_ext (by omega)]
    · rw [decide_eq_false he]; simp
theorem feedA_ext (q : Ak) (h0 : 0 ≤ q.to) (hf : 0 ≤ q.fr) (h : q.to < (M.length : Int)) : feedA (M ++ E) q = feedA M q := by
  unfold feedA
  rw [curOk_ext q h0 h]
  by_cases hc : curOk M q = true
  · rw [if_pos hc, if_pos hc]
    have hep : 0 ≤ q.ep := by
      unfold curOk at hc
      split at hc
      · simp only [Bool.and_eq_true, beq_iff_eq] at hc
        omega
      · simp only [Bool.and_eq_true, decide_eq_true_eq] at hc
        omega
    by_cases he : q.ep ≤ q.to
    · rw [evA_ext _ _ (by omega)]
    · have : (q.to + 1 - q.ep).toNat = 0 := by omega
      rw [this]
      rfl
  · rw [if_neg hc, if_neg hc]
theorem wrongF_ext (r g : Bool) (p : Pm) (q : Ak) (h : q.to < (M.length : Int)) : wrongF r g p (M ++ E).length q = wrongF r g p M.length q := by
  unfold wrongF
  have e1 : ¬ q.to ≥ ((M ++ E).length : Int) := by rw [List.length_append]; omega
  have e2 : ¬ q.to ≥ (M.length : Int) := by omega
  rw [if_neg e1, if_neg e2]
theorem AnsR.ext {p : Pm} {q : Ak} {A A' : An} (h0 : 0 ≤ q.to) (h : q.to < (M.length : Int)) (h1 : AnsR p M q A) (h2 : AnsR p (M ++ E) q A') : A' = A := by
  unfold AnsR at h1 h2
  rw [wrongF_ext _ _ _ _ h] at h2
  split at h1
  · rename_i c; rw [if_pos c] at h2; rw [h1, h2]
  rename_i c1
  rw [if_neg c1] at h2
  split at h1
  case isFalse c => rw [if_neg c] at h2; rw [h1, h2]
  rename_i c2
  rw [if_pos c2] at h2
  split at h1
  · rename_i c; rw [if_pos c] at h2; rw [h1, h2]
  rename_i c3
  rw [if_neg c3] at h2
  have hw := wrongN (by simpa using c3)
  split at h1
  · rename_i c; rw [if_pos c] at h2; rw [h1, h2, asofA_ext q.id h]
  rename_i c4
  rw [if_neg c4] at h2
  split at h1
  · rename_i c
    rw [if_pos c] at h2
    obtain ⟨n, wu, rfl⟩ := h1
    obtain ⟨n', wu', rfl⟩ := h2
    rw [List.take_append_of_le_length (by omega)] at wu'
    obtain rfl := wu'.uniq wu
    by_cases hn : n' = 0
    · rw [if_pos hn, if_pos hn]
    · rw [if_neg hn, if_neg hn]
      have := wu.1
      rw [List.length_take] at this
      rw [asofA_ext q.id (by omega)]
  rename_i c5
  rw [if_neg c5] at h2
  split at h1
  · rename_i c; rw [if_pos c] at h2; rw [h1, h2, asofA_ext q.id h]
  rename_i c6
  rw [if_neg c6] at h2
  split at h1
  · rename_i c
    rw [if_pos c] at h2
    obtain ⟨L, D, rfl⟩ := h1
    obtain ⟨L', D', rfl⟩ := h2
    rw [D'.uniq D fun id => dsel_ext q id h]
  rename_i c7
  rw [if_neg c7] at h2
  split at h1
  · rename_i c
    rw [if_pos c] at h2
    have hr : rngK q.kd = true := by rw [c]; rfl
    rw [h1, h2, feedA_ext q h0 (hw.2.2.2.1 hr).1 h]
  · rename_i c
    rw [if_neg c] at h2
    rw [h1, h2, versL_ext q h]
theorem AnsR.lens {h0 h : GH} {k j : Nat} {p : Pm} {ew : Value} {cs l : List Value} {ck : Int} {n : Nat} (x : IM h0 h k j p ew cs l M ck n) {q : Ak} {A : An} (r : AnsR p M q A) : A.its.length ≤ 1000000 ∧ A.evs.length ≤ 1000000 := by
  have hn4 := x.n4
  have htt := x.tt
  have has : ∀ id t, (asofA M id t).its = [] ∧ (asofA M id t).evs = [] := fun id t => by unfold asofA; split <;> exact ⟨rfl, rfl⟩
  unfold AnsR at r
  split at r
  · rw [r]; simp
  split at r
  case isFalse => rw [r]; simp
  split at r
  · rw [r]; simp
  rename_i c3
  have hw := wrongN (by simpa using c3)
  split at r
  · rw [r, (has _ _).1, (has _ _).2]; simp
  split at r
  · obtain ⟨n, _, rfl⟩ := r
    split
    · simp
    · simp only [(has _ _).1, (has _ _).2]; simp
  split at r
  · rw [r]; simp only [(has _ _).1, (has _ _).2]; simp
  split at r
  · obtain ⟨L, D, rfl⟩ := r
    have := D.lens
    unfold diffA
    simp only [List.length_take, List.length_nil]
    omega
  split at r
  · rename_i c7
    have hr : rngK q.kd = true := by rw [c7]; rfl
    have hf := (hw.2.2.2.1 hr)
    rw [r]
    unfold feedA
    split
    · rename_i hc
      have hl : (evA M q.ep.toNat (q.to + 1 - q.ep).toNat).length ≤ 4096 := by
        by_cases he : q.ep ≤ q.to
        · have hep : 0 ≤ q.ep := by
            unfold curOk at hc
            split at hc
            · simp only [Bool.and_eq_true, beq_iff_eq] at hc
              omega
            · simp only [Bool.and_eq_true, decide_eq_true_eq] at hc
              omega
          have h1 := evA_tot M (q.to + 1 - q.ep).toNat q.ep.toNat (by omega)
          have h2 := tot_drop (M.map (·.2)) q.ep.toNat
          omega
        · have : (q.to + 1 - q.ep).toNat = 0 := by omega
          rw [this]
          simp [evA]
      split
      · simp only [List.length_drop, List.length_nil]
        omega
      · simp only [List.length_take, List.length_drop, List.length_nil]
        omega
    · simp
  · rw [r]
    have h1 := vacc_len M q (sps 0 (M.map (·.2)) q.id) 0
    have h2 := sps_len q.id (M.map (·.2)) 0
    unfold diffA
    have e : (versL M q).length = (vacc M q (sps 0 (M.map (·.2)) q.id) 0).length := rfl
    simp only [List.length_take, List.length_nil]
    omega
end
end Go.Gh

/- Ideal: what is answered stays so, as more is published. -/

namespace Go.Gh
open Go Go.Proofs Go.RowKit
set_option linter.unusedVariables false
set_option linter.unusedSimpArgs false
set_option maxRecDepth 100000
set_option maxHeartbeats 4000000

theorem c_IdealStays (N : Nat) (h : GH) {a : Option Addr} {c : Nat} {l : List (List Bnd)} (rl : RL 1 Bl h (.slice a l.length c) l) (hl : l.length ≤ 140737488355328) (hll : ∀ b ∈ l, small b ∧ b.length ≤ 140737488355328)
    (q : Ak) {ai ab : Option Addr} {ci cb : Nat} (ri : RB h (.slice ai q.id.length ci) q.id) (hid : q.id.length ≤ 140737488355328)
    {d : Option Addr} {g : Nat} {b : List Bnd} (rb : RL 2 Bd h (.slice d b.length g) b) (hbt : small b ∧ b.length ≤ 140737488355328) :
    GTri Try.prog N 7 [.slice a l.length c, .agg (q.cs (.slice ai q.id.length ci) (.slice ab q.b.length cb)).toArray, .slice d b.length g] h fun v h' => v = .bool true := by
  have hd : pmd.v = .agg #[.int .i64 4, .int .i64 5, .int .i64 2, .int .i64 4, .int .i64 60, .int .i64 4681, .int .i64 1, .int .i64 3] := rfl
  have hq : q.cs (.slice ai q.id.length ci) (.slice ab q.b.length cb) = [.int .i64 q.kd, .slice ai q.id.length ci, .int .i64 q.fr, .int .i64 q.to, .int .i64 q.tm, .bool q.sm, .int .i64 q.ep, .int .i64 q.ix, .int .i64 q.lm, .slice ab q.b.length cb] := rfl
  rw [hq]
  refine gtri Try.func7 rfl gf7 ok7 (by simp [Try.ntmps7]) ?_
  repeat' (first | (with_reducible first | refine gw_seq ?_ | refine gw_block ?_) | ((first | (with_reducible first | refine gw_region ?_ | refine gw_if ?_ | refine gw_skip ?_ | refine gw_exit ?_ | refine gw_ret ?_) | ((with_reducible first | refine gif_b (fun hb => ?_) (fun hb => ?_) | refine want_t (fun hb => ?_) (fun hb => ?_) | refine want_f (fun hb => ?_) (fun hb => ?_) | refine dr_t (fun hb => ?_) (fun hb => ?_) | refine dr_f (fun hb => ?_) (fun hb => ?_)) <;> (try simp only [hb]) <;> (try simp only [hpr] at hb)) | with_reducible refine gw_draw (id := 4) [(0, []), (1, []), (2, []), (3, []), (4, [1, 2]), (5, []), (6, []), (7, []), (8, []), (9, []), (10, [])] [0, 1, 3, 0, 8, 24, 56, 127, 255, 511, 1023] mixed (by kernel_rfl) ?_ | with_reducible refine gw_draw (id := 13) [(0, []), (1, []), (3, []), (2, [3]), (4, []), (5, []), (6, []), (7, []), (8, [])] [0, 0, 3, 0, 15, 31, 63, 127, 255] mixed (by kernel_rfl) ?_) <;> try simp only [gop, gyield, gLenX, gNilM, gField, gIndexV, gPart, reduceIte, seval, Int.cast_ofNat_Int, stz, stp, isEff, sgl, sty, stq, cv3_56, cv56_3, ty22, ty23, ty24, ty36, ty68, ty62, ty65, ty70, ty91, ty99, ty29, ty3, ty4, ty56, ty63, rs7]))
  refine box_g rfl fun k1 h1 m1 s1 f1 n1 => ?_
  refine mk_of ?_; repeat' (first | (with_reducible first | refine gw_seq ?_ | refine gw_block ?_) | ((first | (with_reducible refine mk_to ?_) | (with_reducible first | refine gw_region ?_ | refine gw_if ?_ | refine gw_skip ?_ | refine gw_exit ?_ | refine gw_ret ?_) | ((with_reducible first | refine gif_b (fun hb => ?_) (fun hb => ?_) | refine want_t (fun hb => ?_) (fun hb => ?_) | refine want_f (fun hb => ?_) (fun hb => ?_) | refine dr_t (fun hb => ?_) (fun hb => ?_) | refine dr_f (fun hb => ?_) (fun hb => ?_)) <;> (try simp only [hb]) <;> (try simp only [hpr] at hb)) | with_reducible refine gw_draw (id := 4) [(0, []), (1, []), (2, []), (3, []), (4, [1, 2]), (5, []), (6, []), (7, []), (8, []), (9, []), (10, [])] [0, 1, 3, 0, 8, 24, 56, 127, 255, 511, 1023] mixed (by kernel_rfl) ?_ | with_reducible refine gw_draw (id := 13) [(0, []), (1, []), (3, []), (2, [3]), (4, []), (5, []), (6, []), (7, []), (8, [])] [0, 0, 3, 0, 15, 31, 63, 127, 255] mixed (by kernel_rfl) ?_) <;> try simp only [gop, gyield, gLenX, gNilM, gField, gIndexV, gPart, reduceIte, seval, Int.cast_ofNat_Int, stz, stp, isEff, sgl, sty, stq, cv3_56, cv56_3, ty22, ty23, ty24, ty36, ty68, ty62, ty65, ty70, ty91, ty99, ty29, ty3, ty4, ty56, ty63, rs7]))
  refine (c_made N h1 (rl.hcR s1.hc fun _ _ q => q.hs s1) hl hll).mono ?_
  rintro _ h2 ⟨⟨k, j, ew, cs, l', ck, B, rfl, hk, gB, x2⟩, s2⟩
  rw [hd]
  have k1k : k1 ≠ k := fun q => by subst q; rw [m1] at hk; cases hk
  have k1j : k1 ≠ j + 1 := fun q => by have := x2.nj; rw [← q, m1] at this; cases this
  replace m1 := s2 _ _ m1
  refine mk_of ?_; repeat' (first | (with_reducible first | refine gw_seq ?_ | refine gw_block ?_) | ((first | (with_reducible refine mk_to ?_) | (with_reducible first | refine gw_region ?_ | refine gw_if ?_ | refine gw_skip ?_ | refine gw_exit ?_ | refine gw_ret ?_) | ((with_reducible first | refine gif_b (fun hb => ?_) (fun hb => ?_) | refine want_t (fun hb => ?_) (fun hb => ?_) | refine want_f (fun hb => ?_) (fun hb => ?_) | refine dr_t (fun hb => ?_) (fun hb => ?_) | refine dr_f (fun hb => ?_) (fun hb => ?_)) <;> (try simp only [hb]) <;> (try simp only [hpr] at hb)) | with_reducible refine gw_draw (id := 4) [(0, []), (1, []), (2, []), (3, []), (4, [1, 2]), (5, []), (6, []), (7, []), (8, []), (9, []), (10, [])] [0, 1, 3, 0, 8, 24, 56, 127, 255, 511, 1023] mixed (by kernel_rfl) ?_ | with_reducible refine gw_draw (id := 13) [(0, []), (1, []), (3, []), (2, [3]), (4, []), (5, []), (6, []), (7, []), (8, [])] [0, 0, 3, 0, 15, 31, 63, 127, 255] mixed (by kernel_rfl) ?_) <;> try simp only [gop, gyield, gLenX, gNilM, gField, gIndexV, gPart, reduceIte, seval, Int.cast_ofNat_Int, stz, stp, isEff, sgl, sty, stq, cv3_56, cv56_3, ty22, ty23, ty24, ty36, ty68, ty62, ty65, ty70, ty91, ty99, ty29, ty3, ty4, ty56, ty63, rs7]))
  refine new_g fun k2 h3 m3 s3 f3 n3 => ?_
  have k2k1 : k2 ≠ k1 := fun e => by rw [e, m1] at n3; cases n3
  refine mk_of ?_; repeat' (first | (with_reducible first | refine gw_seq ?_ | refine gw_block ?_) | ((first | (with_reducible refine mk_to ?_) | (with_reducible first | refine gw_region ?_ | refine gw_if ?_ | refine gw_skip ?_ | refine gw_exit ?_ | refine gw_ret ?_) | ((with_reducible first | refine gif_b (fun hb => ?_) (fun hb => ?_) | refine want_t (fun hb => ?_) (fun hb => ?_) | refine want_f (fun hb => ?_) (fun hb => ?_) | refine dr_t (fun hb => ?_) (fun hb => ?_) | refine dr_f (fun hb => ?_) (fun hb => ?_)) <;> (try simp only [hb]) <;> (try simp only [hpr] at hb)) | with_reducible refine gw_draw (id := 4) [(0, []), (1, []), (2, []), (3, []), (4, [1, 2]), (5, []), (6, []), (7, []), (8, []), (9, []), (10, [])] [0, 1, 3, 0, 8, 24, 56, 127, 255, 511, 1023] mixed (by kernel_rfl) ?_ | with_reducible refine gw_draw (id := 13) [(0, []), (1, []), (3, []), (2, [3]), (4, []), (5, []), (6, []), (7, []), (8, [])] [0, 0, 3, 0, 15, 31, 63, 127, 255] mixed (by kernel_rfl) ?_) <;> try simp only [gop, gyield, gLenX, gNilM, gField, gIndexV, gPart, reduceIte, seval, Int.cast_ofNat_Int, stz, stp, isEff, sgl, sty, stq, cv3_56, cv56_3, ty22, ty23, ty24, ty36, ty68, ty62, ty65, ty70, ty91, ty99, ty29, ty3, ty4, ty56, ty63, rs7]))
  refine st_all m3 sz65 rfl (by decide) rfl rfl rfl fun h4 m4 f4 => ?_
  have s4 : HS h2 h4 := (HS.refl h2).upd n3 (fun j hj => (f4 j hj).trans (f3 j hj))
  have x4 := x2.hs s4
  replace m1 := s4 _ _ m1
  have hBl := gB.len
  have wE : IntKind.i64.wrap ((B.length : Int) + 1) = (B.length : Int) + 1 := by rw [wrap64 (by omega) (by omega)]
  have uE : IntKind.u64.wrap ((B.length : Int) + 1) = (B.length : Int) + 1 := wrapu64 (by omega) (by omega)
  obtain ⟨to, hto, eto⟩ := umod q.to ((B.length : Int) + 1) (by omega) (by omega)
  have nz : ((B.length : Int) + 1 ≠ 0) := by omega
  refine mk_of ?_; repeat' (first | (with_reducible first | refine gw_seq ?_ | refine gw_block ?_) | ((first | (with_reducible refine mk_to ?_) | (with_reducible first | refine gw_region ?_ | refine gw_if ?_ | refine gw_skip ?_ | refine gw_exit ?_ | refine gw_ret ?_) | ((with_reducible first | refine gif_b (fun hb => ?_) (fun hb => ?_) | refine want_t (fun hb => ?_) (fun hb => ?_) | refine want_f (fun hb => ?_) (fun hb => ?_) | refine dr_t (fun hb => ?_) (fun hb => ?_) | refine dr_f (fun hb => ?_) (fun hb => ?_)) <;> (try simp only [hb]) <;> (try simp only [hpr] at hb)) | with_reducible refine gw_draw (id := 4) [(0, []), (1, []), (2, []), (3, []), (4, [1, 2]), (5, []), (6, []), (7, []), (8, []), (9, []), (10, [])] [0, 1, 3, 0, 8, 24, 56, 127, 255, 511, 1023] mixed (by kernel_rfl) ?_ | with_reducible refine gw_draw (id := 13) [(0, []), (1, []), (3, []), (2, [3]), (4, []), (5, []), (6, []), (7, []), (8, [])] [0, 0, 3, 0, 15, 31, 63, 127, 255] mixed (by kernel_rfl) ?_ | ((refine GTri.mono (c_iEpoch _ x4) ?_); rintro _ _ ⟨rfl, hh9⟩; replace hh9 := hh9.symm; subst hh9)) <;> try simp only [gop, gyield, gLenX, gNilM, gField, gIndexV, gPart, reduceIte, seval, Int.cast_ofNat_Int, stz, stp, isEff, sgl, sty, stq, cv3_56, cv56_3, ty22, ty23, ty24, ty36, ty68, ty62, ty65, ty70, ty91, ty99, ty29, ty3, ty4, ty56, ty63, rs7, gEq, ent_len, List.length_cons, Nat.add_sub_cancel, wE, uE, eto, gload1 m1 sz3, List.getElem?_cons_zero, List.getElem?_cons_succ]))
  refine ⟨nz, ?_⟩
  refine st_one m1 sz3 rfl (by simp) rfl rfl fun h5 m5 f5 => ?_
  simp only [List.set_cons_succ, List.set_cons_zero] at m5
  have s04 := (s1.trans s2).trans s4
  have x5 := (x4.weak s1).oth m1 rfl rfl f5 k1k k1j
  have s5 : HS h h5 := s04.upd n1 f5
  have m35 := (f5 k2 k2k1).trans m4
  have k31 : (3 : Int) ≠ 1 := by decide
  have k32 : (3 : Int) ≠ 2 := by decide
  refine mk_of ?_; repeat' (first | (with_reducible first | refine gw_seq ?_ | refine gw_block ?_) | ((first | (with_reducible refine mk_to ?_) | (with_reducible first | refine gw_region ?_ | refine gw_if ?_ | refine gw_skip ?_ | refine gw_exit ?_ | refine gw_ret ?_) | ((with_reducible first | refine gif_b (fun hb => ?_) (fun hb => ?_) | refine want_t (fun hb => ?_) (fun hb => ?_) | refine want_f (fun hb => ?_) (fun hb => ?_) | refine dr_t (fun hb => ?_) (fun hb => ?_) | refine dr_f (fun hb => ?_) (fun hb => ?_)) <;> (try simp only [hb]) <;> (try simp only [hpr] at hb)) | with_reducible refine gw_draw (id := 4) [(0, []), (1, []), (2, []), (3, []), (4, [1, 2]), (5, []), (6, []), (7, []), (8, []), (9, []), (10, [])] [0, 1, 3, 0, 8, 24, 56, 127, 255, 511, 1023] mixed (by kernel_rfl) ?_ | with_reducible refine gw_draw (id := 13) [(0, []), (1, []), (3, []), (2, [3]), (4, []), (5, []), (6, []), (7, []), (8, [])] [0, 0, 3, 0, 15, 31, 63, 127, 255] mixed (by kernel_rfl) ?_) <;> try simp only [gop, gyield, gLenX, gNilM, gField, gIndexV, gPart, reduceIte, seval, Int.cast_ofNat_Int, stz, stp, isEff, sgl, sty, stq, cv3_56, cv56_3, ty22, ty23, ty24, ty36, ty68, ty62, ty65, ty70, ty91, ty99, ty29, ty3, ty4, ty56, ty63, rs7, gload1 m5 sz3, List.getElem?_cons_zero, List.getElem?_cons_succ]))
  all_goals first
    | (refine st_one m5 sz3 rfl (by simp) rfl rfl fun h6 m6 f6 => ?_
       simp only [List.set_cons_succ, List.set_cons_zero] at m6
       have x6 := x5.oth m5 rfl rfl f6 k1k k1j
       have s6 : HS h h6 := s5.upd n1 f6
       have m36 := (f6 k2 k2k1).trans m35
       clear m5 x5 s5 m35 f6 f5
       revert h6
       intro h5 m5 x5 s5 m35
       have kk : (3 : Int) ≠ 1 ∧ (3 : Int) ≠ 2 := by decide)
    | (rename_i kk1
       have kk : q.kd ≠ 1 ∧ q.kd ≠ 2 := ⟨kk1, hb⟩)
  all_goals
    have hMl : ((0, []) :: ent B B.length : List (Int × List Bnd)).length = B.length + 1 := by rw [List.length_cons, ent_len]
    generalize hM : ((0, []) :: ent B B.length : List (Int × List Bnd)) = M at *
    refine mk_of ?_; repeat' (first | (with_reducible first | refine gw_seq ?_ | refine gw_block ?_) | ((first | (with_reducible refine mk_to ?_) | (with_reducible first | refine gw_region ?_ | refine gw_if ?_ | refine gw_skip ?_ | refine gw_exit ?_ | refine gw_ret ?_) | ((with_reducible first | refine gif_b (fun hb => ?_) (fun hb => ?_) | refine want_t (fun hb => ?_) (fun hb => ?_) | refine want_f (fun hb => ?_) (fun hb => ?_) | refine dr_t (fun hb => ?_) (fun hb => ?_) | refine dr_f (fun hb => ?_) (fun hb => ?_)) <;> (try simp only [hb]) <;> (try simp only [hpr] at hb)) | with_reducible refine gw_draw (id := 4) [(0, []), (1, []), (2, []), (3, []), (4, [1, 2]), (5, []), (6, []), (7, []), (8, []), (9, []), (10, [])] [0, 1, 3, 0, 8, 24, 56, 127, 255, 511, 1023] mixed (by kernel_rfl) ?_ | with_reducible refine gw_draw (id := 13) [(0, []), (1, []), (3, []), (2, [3]), (4, []), (5, []), (6, []), (7, []), (8, [])] [0, 0, 3, 0, 15, 31, 63, 127, 255] mixed (by kernel_rfl) ?_) <;> try simp only [gop, gyield, gLenX, gNilM, gField, gIndexV, gPart, reduceIte, seval, Int.cast_ofNat_Int, stz, stp, isEff, sgl, sty, stq, cv3_56, cv56_3, ty22, ty23, ty24, ty36, ty68, ty62, ty65, ty70, ty91, ty99, ty29, ty3, ty4, ty56, ty63, rs7, gloadA m5 sz62 rfl]))
    refine (c_DoQ N x5 (q := ⟨_, q.id, q.fr, (to : Int), q.tm, q.sm, q.ep, q.ix, q.lm, q.b⟩) kk.1 kk.2 (ri.hs s5) hid rfl).mono ?_
    rintro v6 h6 ⟨⟨A, hA, r6⟩, s6⟩
    have hlens := AnsR.lens x5 hA
    have m6 := s6 _ _ m5
    have m36 := s6 _ _ m35
    obtain ⟨w1, w2, w3, w4, w5, w6, rfl, t1, t2, t3⟩ := r6
    refine mk_of ?_; repeat' (first | (with_reducible first | refine gw_seq ?_ | refine gw_block ?_) | ((first | (with_reducible refine mk_to ?_) | (with_reducible first | refine gw_region ?_ | refine gw_if ?_ | refine gw_skip ?_ | refine gw_exit ?_ | refine gw_ret ?_) | ((with_reducible first | refine gif_b (fun hb => ?_) (fun hb => ?_) | refine want_t (fun hb => ?_) (fun hb => ?_) | refine want_f (fun hb => ?_) (fun hb => ?_) | refine dr_t (fun hb => ?_) (fun hb => ?_) | refine dr_f (fun hb => ?_) (fun hb => ?_)) <;> (try simp only [hb]) <;> (try simp only [hpr] at hb)) | with_reducible refine gw_draw (id := 4) [(0, []), (1, []), (2, []), (3, []), (4, [1, 2]), (5, []), (6, []), (7, []), (8, []), (9, []), (10, [])] [0, 1, 3, 0, 8, 24, 56, 127, 255, 511, 1023] mixed (by kernel_rfl) ?_ | with_reducible refine gw_draw (id := 13) [(0, []), (1, []), (3, []), (2, [3]), (4, []), (5, []), (6, []), (7, []), (8, [])] [0, 0, 3, 0, 15, 31, 63, 127, 255] mixed (by kernel_rfl) ?_) <;> try simp only [gop, gyield, gLenX, gNilM, gField, gIndexV, gPart, reduceIte, seval, Int.cast_ofNat_Int, stz, stp, isEff, sgl, sty, stq, cv3_56, cv56_3, ty22, ty23, ty24, ty36, ty68, ty62, ty65, ty70, ty91, ty99, ty29, ty3, ty4, ty56, ty63, rs7]))
    refine new_g fun k9 h7 m7 s7 f7 n7 => ?_
    refine mk_of ?_; repeat' (first | (with_reducible first | refine gw_seq ?_ | refine gw_block ?_) | ((first | (with_reducible refine mk_to ?_) | (with_reducible first | refine gw_region ?_ | refine gw_if ?_ | refine gw_skip ?_ | refine gw_exit ?_ | refine gw_ret ?_) | ((with_reducible first | refine gif_b (fun hb => ?_) (fun hb => ?_) | refine want_t (fun hb => ?_) (fun hb => ?_) | refine want_f (fun hb => ?_) (fun hb => ?_) | refine dr_t (fun hb => ?_) (fun hb => ?_) | refine dr_f (fun hb => ?_) (fun hb => ?_)) <;> (try simp only [hb]) <;> (try simp only [hpr] at hb)) | with_reducible refine gw_draw (id := 4) [(0, []), (1, []), (2, []), (3, []), (4, [1, 2]), (5, []), (6, []), (7, []), (8, []), (9, []), (10, [])] [0, 1, 3, 0, 8, 24, 56, 127, 255, 511, 1023] mixed (by kernel_rfl) ?_ | with_reducible refine gw_draw (id := 13) [(0, []), (1, []), (3, []), (2, [3]), (4, []), (5, []), (6, []), (7, []), (8, [])] [0, 0, 3, 0, 15, 31, 63, 127, 255] mixed (by kernel_rfl) ?_) <;> try simp only [gop, gyield, gLenX, gNilM, gField, gIndexV, gPart, reduceIte, seval, Int.cast_ofNat_Int, stz, stp, isEff, sgl, sty, stq, cv3_56, cv56_3, ty22, ty23, ty24, ty36, ty68, ty62, ty65, ty70, ty91, ty99, ty29, ty3, ty4, ty56, ty63, rs7]))
    refine st_all m7 sz70 rfl (by decide) rfl rfl rfl fun h8 m8 f8 => ?_
    have s8 : HS h6 h8 := (HS.refl h6).upd n7 (fun i hi => (f8 i hi).trans (f7 i hi))
    have s58 := s6.trans s8
    refine mk_of ?_; repeat' (first | (with_reducible first | refine gw_seq ?_ | refine gw_block ?_) | ((first | (with_reducible refine mk_to ?_) | (with_reducible first | refine gw_region ?_ | refine gw_if ?_ | refine gw_skip ?_ | refine gw_exit ?_ | refine gw_ret ?_) | ((with_reducible first | refine gif_b (fun hb => ?_) (fun hb => ?_) | refine want_t (fun hb => ?_) (fun hb => ?_) | refine want_f (fun hb => ?_) (fun hb => ?_) | refine dr_t (fun hb => ?_) (fun hb => ?_) | refine dr_f (fun hb => ?_) (fun hb => ?_)) <;> (try simp only [hb]) <;> (try simp only [hpr] at hb)) | with_reducible refine gw_draw (id := 4) [(0, []), (1, []), (2, []), (3, []), (4, [1, 2]), (5, []), (6, []), (7, []), (8, []), (9, []), (10, [])] [0, 1, 3, 0, 8, 24, 56, 127, 255, 511, 1023] mixed (by kernel_rfl) ?_ | with_reducible refine gw_draw (id := 13) [(0, []), (1, []), (3, []), (2, [3]), (4, []), (5, []), (6, []), (7, []), (8, [])] [0, 0, 3, 0, 15, 31, 63, 127, 255] mixed (by kernel_rfl) ?_) <;> try simp only [gop, gyield, gLenX, gNilM, gField, gIndexV, gPart, reduceIte, seval, Int.cast_ofNat_Int, stz, stp, isEff, sgl, sty, stq, cv3_56, cv56_3, ty22, ty23, ty24, ty36, ty68, ty62, ty65, ty70, ty91, ty99, ty29, ty3, ty4, ty56, ty63, rs7, gloadA (s8 _ _ m36) sz65 rfl]))
    refine bsn2_g el22 rfl rfl (by decide) (by decide) rfl fun kl h9 m9 s9 f9 n9 => ?_
    have s89 := s8.trans s9
    have s09 := (s5.trans s6).trans s89
    have rl9 : RL 1 Bl h9 (.slice (some ⟨kl, 0, none⟩) 1 3) [b] := one_rl m9 rfl (by decide) ⟨d, g, rfl, rb.bs s09⟩
    refine mk_of ?_; repeat' (first | (with_reducible first | refine gw_seq ?_ | refine gw_block ?_) | ((first | (with_reducible refine mk_to ?_) | (with_reducible first | refine gw_region ?_ | refine gw_if ?_ | refine gw_skip ?_ | refine gw_exit ?_ | refine gw_ret ?_) | ((with_reducible first | refine gif_b (fun hb => ?_) (fun hb => ?_) | refine want_t (fun hb => ?_) (fun hb => ?_) | refine want_f (fun hb => ?_) (fun hb => ?_) | refine dr_t (fun hb => ?_) (fun hb => ?_) | refine dr_f (fun hb => ?_) (fun hb => ?_)) <;> (try simp only [hb]) <;> (try simp only [hpr] at hb)) | with_reducible refine gw_draw (id := 4) [(0, []), (1, []), (2, []), (3, []), (4, [1, 2]), (5, []), (6, []), (7, []), (8, []), (9, []), (10, [])] [0, 1, 3, 0, 8, 24, 56, 127, 255, 511, 1023] mixed (by kernel_rfl) ?_ | with_reducible refine gw_draw (id := 13) [(0, []), (1, []), (3, []), (2, [3]), (4, []), (5, []), (6, []), (7, []), (8, [])] [0, 0, 3, 0, 15, 31, 63, 127, 255] mixed (by kernel_rfl) ?_) <;> try simp only [gop, gyield, gLenX, gNilM, gField, gIndexV, gPart, reduceIte, seval, Int.cast_ofNat_Int, stz, stp, isEff, sgl, sty, stq, cv3_56, cv56_3, ty22, ty23, ty24, ty36, ty68, ty62, ty65, ty70, ty91, ty99, ty29, ty3, ty4, ty56, ty63, rs7, gloadA (s89 _ _ m36) sz65 rfl]))
    refine (c_Batches N h9 pmd (by decide) (l := [b]) rl9 (by simp) (fun y hy => by obtain rfl := List.mem_singleton.1 hy; exact hbt) 1 (by decide)).mono ?_
    rintro v10 h10 ⟨⟨C, gC, rC⟩, s10⟩
    have hCl := gC.len
    obtain ⟨a10, c10, rfl, _⟩ := rC.form
    refine mk_of ?_; repeat' (first | (with_reducible first | refine gw_seq ?_ | refine gw_block ?_) | ((first | (with_reducible refine mk_to ?_) | (with_reducible first | refine gw_region ?_ | refine gw_if ?_ | refine gw_skip ?_ | refine gw_exit ?_ | refine gw_ret ?_) | ((with_reducible first | refine gif_b (fun hb => ?_) (fun hb => ?_) | refine want_t (fun hb => ?_) (fun hb => ?_) | refine want_f (fun hb => ?_) (fun hb => ?_) | refine dr_t (fun hb => ?_) (fun hb => ?_) | refine dr_f (fun hb => ?_) (fun hb => ?_)) <;> (try simp only [hb]) <;> (try simp only [hpr] at hb)) | with_reducible refine gw_draw (id := 4) [(0, []), (1, []), (2, []), (3, []), (4, [1, 2]), (5, []), (6, []), (7, []), (8, []), (9, []), (10, [])] [0, 1, 3, 0, 8, 24, 56, 127, 255, 511, 1023] mixed (by kernel_rfl) ?_ | with_reducible refine gw_draw (id := 13) [(0, []), (1, []), (3, []), (2, [3]), (4, []), (5, []), (6, []), (7, []), (8, [])] [0, 0, 3, 0, 15, 31, 63, 127, 255] mixed (by kernel_rfl) ?_) <;> try simp only [gop, gyield, gLenX, gNilM, gField, gIndexV, gPart, reduceIte, seval, Int.cast_ofNat_Int, stz, stp, isEff, sgl, sty, stq, cv3_56, cv56_3, ty22, ty23, ty24, ty36, ty68, ty62, ty65, ty70, ty91, ty99, ty29, ty3, ty4, ty56, ty63, rs7]))
    have s510 := (s6.trans s89).trans s10
    obtain ⟨kb, tl, hkb, hkb0, xo⟩ := (x5.hs s510).only
    have xx := x5.hs s510
    have m110 := (s89.trans s10) _ _ m6
    have m810 := s10 _ _ (s9 _ _ m8)
    have nk (i : Nat) (B : GB) (he : h10 i = some B) (h1 : h10 i ≠ h10 kb) (h2 : i ≠ k) (h3 : i ≠ j + 1) : i ∉ [k, j + 1, kb] := fun hm => by
      simp only [List.mem_cons, List.not_mem_nil, or_false] at hm
      rcases hm with hm | hm | hm
      · exact h2 hm
      · exact h3 hm
      · exact h1 (by rw [hm])
    have mb1 := offB_of m110 (nk k1 _ m110 (by rw [m110, hkb]; simp) k1k k1j)
    have n7' := s6.none_of n7
    have mb9 := offB_of m810 (nk k9 _ m810 (by rw [m810, hkb]; simp) (fun e => by rw [e, x5.obj] at n7'; cases n7') (fun e => by rw [e, x5.mp] at n7'; cases n7'))
    generalize hbd : offB [k, j + 1, kb] h10 = hb at *
    refine gw_loop2 [4, 6, 7, 9, 44, 45] (fun (i : Nat) => [(46, .int .i64 (i : Int))])
      (fun q i h' => C.length - i = q ∧ i ≤ C.length ∧ (i = 0 → h' = h10) ∧ HS hb h' ∧ ∃ ew cs l E n', IM hb h' k j pmd ew cs l (M ++ E) ck n') C.length 0 (by simp [lk])
      ⟨rfl, by omega, fun _ => rfl, by rw [← hbd]; exact offB_hs _ _, ew, cs, l', [], _, by rw [List.append_nil]; exact xo⟩ ?_
    rintro _ i h11 ⟨rfl, hi, h00, s11, ew', cs', lq, E, n', x11⟩
    by_cases hil : i < C.length
    · have d3 : decide ((i : Int) < (C.length : Int)) = true := decide_eq_true (by omega)
      have wi : IntKind.i64.wrap ((i : Int) + 1) = ((i + 1 : Nat) : Int) := by rw [wrap64 (by omega) (by omega)]; omega
      obtain rfl := h00 (by omega)
      obtain ⟨y, hy⟩ := get_lt hil
      obtain ⟨hys, hyl⟩ := chk_small (p := pmd) (by decide) (gC.each y (List.mem_of_getElem? hy))
      obtain ⟨ad, cy, g1, g2, ay, cy', rfl, ry⟩ := rC.at (P := Try.prog) Try.underlying22 sz23 hy
      have l1 : gLoad Try.prog 23 h11 (.pointer (some ad)) = some (.slice ay y.length cy') := by simp only [gLoad, sz23, g2]; rfl
      have ry' : RL 2 Bd hb (.slice ay y.length cy') y := xx.rls hkb ry (by decide) (fun cs y q => by
        obtain ⟨_, _, _, _, _, _, rfl, _⟩ := q
        exact ⟨_, _, rfl, rfl, rfl⟩) (by rw [hbd]; exact HS.refl _) (fun cs y q => by
        obtain ⟨a, n, c, b, m, d, e, r1, r2⟩ := q
        exact ⟨a, n, c, b, m, d, e, RB.offB xx hkb (by rw [hbd]; exact HS.refl _) r1, RB.offB xx hkb (by rw [hbd]; exact HS.refl _) r2⟩)
      refine mk_of ?_; repeat' (first | (with_reducible first | refine gw_seq ?_ | refine gw_block ?_) | ((first | (with_reducible refine mk_to ?_) | (with_reducible first | refine gw_region ?_ | refine gw_if ?_ | refine gw_skip ?_ | refine gw_exit ?_ | refine gw_ret ?_) | ((with_reducible first | refine gif_b (fun hb => ?_) (fun hb => ?_) | refine want_t (fun hb => ?_) (fun hb => ?_) | refine want_f (fun hb => ?_) (fun hb => ?_) | refine dr_t (fun hb => ?_) (fun hb => ?_) | refine dr_f (fun hb => ?_) (fun hb => ?_)) <;> (try simp only [hb]) <;> (try simp only [hpr] at hb)) | with_reducible refine gw_draw (id := 4) [(0, []), (1, []), (2, []), (3, []), (4, [1, 2]), (5, []), (6, []), (7, []), (8, []), (9, []), (10, [])] [0, 1, 3, 0, 8, 24, 56, 127, 255, 511, 1023] mixed (by kernel_rfl) ?_ | with_reducible refine gw_draw (id := 13) [(0, []), (1, []), (3, []), (2, [3]), (4, []), (5, []), (6, []), (7, []), (8, [])] [0, 0, 3, 0, 15, 31, 63, 127, 255] mixed (by kernel_rfl) ?_) <;> try simp only [gop, gyield, gLenX, gNilM, gField, gIndexV, gPart, reduceIte, seval, Int.cast_ofNat_Int, stz, stp, isEff, sgl, sty, stq, cv3_56, cv56_3, ty22, ty23, ty24, ty36, ty68, ty62, ty65, ty70, ty91, ty99, ty29, ty3, ty4, ty56, ty63, rs7, d3, g1, l1, gBuild, lfill, lput, Shape.pl, List.all_cons, List.all_nil, isCell]))
      refine (c_DoPub N s11 x11 ry' (by omega) rfl).mono ?_
      rintro _ h12 ⟨rfl, s12, r12⟩
      refine mk_of ?_; repeat' (first | (with_reducible first | refine gw_seq ?_ | refine gw_block ?_) | ((first | (with_reducible refine mk_to ?_) | (with_reducible first | refine gw_region ?_ | refine gw_if ?_ | refine gw_skip ?_ | refine gw_exit ?_ | refine gw_ret ?_) | ((with_reducible first | refine gif_b (fun hb => ?_) (fun hb => ?_) | refine want_t (fun hb => ?_) (fun hb => ?_) | refine want_f (fun hb => ?_) (fun hb => ?_) | refine dr_t (fun hb => ?_) (fun hb => ?_) | refine dr_f (fun hb => ?_) (fun hb => ?_)) <;> (try simp only [hb]) <;> (try simp only [hpr] at hb)) | with_reducible refine gw_draw (id := 4) [(0, []), (1, []), (2, []), (3, []), (4, [1, 2]), (5, []), (6, []), (7, []), (8, []), (9, []), (10, [])] [0, 1, 3, 0, 8, 24, 56, 127, 255, 511, 1023] mixed (by kernel_rfl) ?_ | with_reducible refine gw_draw (id := 13) [(0, []), (1, []), (3, []), (2, [3]), (4, []), (5, []), (6, []), (7, []), (8, [])] [0, 0, 3, 0, 15, 31, 63, 127, 255] mixed (by kernel_rfl) ?_) <;> try simp only [gop, gyield, gLenX, gNilM, gField, gIndexV, gPart, reduceIte, seval, Int.cast_ofNat_Int, stz, stp, isEff, sgl, sty, stq, cv3_56, cv56_3, ty22, ty23, ty24, ty36, ty68, ty62, ty65, ty70, ty91, ty99, ty29, ty3, ty4, ty56, ty63, rs7, wi]))
      rcases r12 with ⟨_, x12⟩ | ⟨_, ew2, cs2, l2, x12⟩
      · exact ⟨_, i + 1, by omega, (by simp only [List.forall_mem_cons, List.not_mem_nil, false_implies, implies_true, List.map, List.cons_append, List.nil_append, lk, Nat.reduceEqDiff, reduceIte, and_true, true_and]), rfl, by omega, fun e => by omega, s12, ew', cs', lq, E, n', x12⟩
      · exact ⟨_, i + 1, by omega, (by simp only [List.forall_mem_cons, List.not_mem_nil, false_implies, implies_true, List.map, List.cons_append, List.nil_append, lk, Nat.reduceEqDiff, reduceIte, and_true, true_and]), rfl, by omega, fun e => by omega, s12, ew2, cs2, l2, E ++ [(ck, y)], _, by rw [← List.append_assoc]; exact x12⟩
    have d3 : decide ((i : Int) < (C.length : Int)) = false := decide_eq_false (by omega)
    subst hbd
    have m111 := s11 _ _ mb1
    have m811 := s11 _ _ mb9
    refine mk_of ?_; repeat' (first | (with_reducible first | refine gw_seq ?_ | refine gw_block ?_) | ((first | (with_reducible refine mk_to ?_) | (with_reducible first | refine gw_region ?_ | refine gw_if ?_ | refine gw_skip ?_ | refine gw_exit ?_ | refine gw_ret ?_) | ((with_reducible first | refine gif_b (fun hb => ?_) (fun hb => ?_) | refine want_t (fun hb => ?_) (fun hb => ?_) | refine want_f (fun hb => ?_) (fun hb => ?_) | refine dr_t (fun hb => ?_) (fun hb => ?_) | refine dr_f (fun hb => ?_) (fun hb => ?_)) <;> (try simp only [hb]) <;> (try simp only [hpr] at hb)) | with_reducible refine gw_draw (id := 4) [(0, []), (1, []), (2, []), (3, []), (4, [1, 2]), (5, []), (6, []), (7, []), (8, []), (9, []), (10, [])] [0, 1, 3, 0, 8, 24, 56, 127, 255, 511, 1023] mixed (by kernel_rfl) ?_ | with_reducible refine gw_draw (id := 13) [(0, []), (1, []), (3, []), (2, [3]), (4, []), (5, []), (6, []), (7, []), (8, [])] [0, 0, 3, 0, 15, 31, 63, 127, 255] mixed (by kernel_rfl) ?_) <;> try simp only [gop, gyield, gLenX, gNilM, gField, gIndexV, gPart, reduceIte, seval, Int.cast_ofNat_Int, stz, stp, isEff, sgl, sty, stq, cv3_56, cv56_3, ty22, ty23, ty24, ty36, ty68, ty62, ty65, ty70, ty91, ty99, ty29, ty3, ty4, ty56, ty63, rs7, d3, gloadA m111 sz62 rfl, gloadA m811 sz70 rfl]))
    refine (c_DoQ N x11 (q := ⟨_, q.id, q.fr, (to : Int), q.tm, q.sm, q.ep, q.ix, q.lm, q.b⟩) kk.1 kk.2 (RB.offB xx hkb s11 ((ri.hs s5).hs s510)) hid rfl).mono ?_
    rintro v12 h12 ⟨⟨A', hA', r12⟩, s12⟩
    obtain rfl := AnsR.ext (by simp only; omega) (by simp only; omega) hA hA'
    have r9 : RAn h10 (.agg #[.int .i64 A'.code, .int .i64 A'.ep, .bool A'.pr, .bool A'.sm, .slice w1 A'.key.length w2, .int .i64 A'.si, .slice w3 A'.its.length w4, .slice w5 A'.evs.length w6, .bool A'.more]) A' := ((RAn.hs s89 ⟨_, _, _, _, _, _, rfl, t1, t2, t3⟩).hs s10)
    have r11 := RAn.offB xx hkb (s11.trans s12) r9
    have m812 := s12 _ _ m811
    refine mk_of ?_; repeat' (first | (with_reducible first | refine gw_seq ?_ | refine gw_block ?_) | ((first | (with_reducible refine mk_to ?_) | (with_reducible first | refine gw_region ?_ | refine gw_if ?_ | refine gw_skip ?_ | refine gw_exit ?_ | refine gw_ret ?_) | ((with_reducible first | refine gif_b (fun hb => ?_) (fun hb => ?_) | refine want_t (fun hb => ?_) (fun hb => ?_) | refine want_f (fun hb => ?_) (fun hb => ?_) | refine dr_t (fun hb => ?_) (fun hb => ?_) | refine dr_f (fun hb => ?_) (fun hb => ?_)) <;> (try simp only [hb]) <;> (try simp only [hpr] at hb)) | with_reducible refine gw_draw (id := 4) [(0, []), (1, []), (2, []), (3, []), (4, [1, 2]), (5, []), (6, []), (7, []), (8, []), (9, []), (10, [])] [0, 1, 3, 0, 8, 24, 56, 127, 255, 511, 1023] mixed (by kernel_rfl) ?_ | with_reducible refine gw_draw (id := 13) [(0, []), (1, []), (3, []), (2, [3]), (4, []), (5, []), (6, []), (7, []), (8, [])] [0, 0, 3, 0, 15, 31, 63, 127, 255] mixed (by kernel_rfl) ?_) <;> try simp only [gop, gyield, gLenX, gNilM, gField, gIndexV, gPart, reduceIte, seval, Int.cast_ofNat_Int, stz, stp, isEff, sgl, sty, stq, cv3_56, cv56_3, ty22, ty23, ty24, ty36, ty68, ty62, ty65, ty70, ty91, ty99, ty29, ty3, ty4, ty56, ty63, rs7, gloadA m811 sz70 rfl, gloadA m812 sz70 rfl]))
    refine (c_SameA N h12 r12 r11 hlens.1 hlens.2).mono ?_
    rintro _ h13 ⟨rfl, s13⟩
    refine mk_of ?_; repeat' (first | (with_reducible first | refine gw_seq ?_ | refine gw_block ?_) | ((first | (with_reducible refine mk_to ?_) | (with_reducible first | refine gw_region ?_ | refine gw_if ?_ | refine gw_skip ?_ | refine gw_exit ?_ | refine gw_ret ?_) | ((with_reducible first | refine gif_b (fun hb => ?_) (fun hb => ?_) | refine want_t (fun hb => ?_) (fun hb => ?_) | refine want_f (fun hb => ?_) (fun hb => ?_) | refine dr_t (fun hb => ?_) (fun hb => ?_) | refine dr_f (fun hb => ?_) (fun hb => ?_)) <;> (try simp only [hb]) <;> (try simp only [hpr] at hb)) | with_reducible refine gw_draw (id := 4) [(0, []), (1, []), (2, []), (3, []), (4, [1, 2]), (5, []), (6, []), (7, []), (8, []), (9, []), (10, [])] [0, 1, 3, 0, 8, 24, 56, 127, 255, 511, 1023] mixed (by kernel_rfl) ?_ | with_reducible refine gw_draw (id := 13) [(0, []), (1, []), (3, []), (2, [3]), (4, []), (5, []), (6, []), (7, []), (8, [])] [0, 0, 3, 0, 15, 31, 63, 127, 255] mixed (by kernel_rfl) ?_) <;> try simp only [gop, gyield, gLenX, gNilM, gField, gIndexV, gPart, reduceIte, seval, Int.cast_ofNat_Int, stz, stp, isEff, sgl, sty, stq, cv3_56, cv56_3, ty22, ty23, ty24, ty36, ty68, ty62, ty65, ty70, ty91, ty99, ty29, ty3, ty4, ty56, ty63, rs7]))
    refine (c_awake16 N h13).mono ?_
    rintro _ h14 ⟨rfl, s14⟩
    refine mk_of ?_; repeat' (first | (with_reducible first | refine gw_seq ?_ | refine gw_block ?_) | ((first | (with_reducible refine mk_to ?_) | (with_reducible first | refine gw_region ?_ | refine gw_if ?_ | refine gw_skip ?_ | refine gw_exit ?_ | refine gw_ret ?_) | ((with_reducible first | refine gif_b (fun hb => ?_) (fun hb => ?_) | refine want_t (fun hb => ?_) (fun hb => ?_) | refine want_f (fun hb => ?_) (fun hb => ?_) | refine dr_t (fun hb => ?_) (fun hb => ?_) | refine dr_f (fun hb => ?_) (fun hb => ?_)) <;> (try simp only [hb]) <;> (try simp only [hpr] at hb)) | with_reducible refine gw_draw (id := 4) [(0, []), (1, []), (2, []), (3, []), (4, [1, 2]), (5, []), (6, []), (7, []), (8, []), (9, []), (10, [])] [0, 1, 3, 0, 8, 24, 56, 127, 255, 511, 1023] mixed (by kernel_rfl) ?_ | with_reducible refine gw_draw (id := 13) [(0, []), (1, []), (3, []), (2, [3]), (4, []), (5, []), (6, []), (7, []), (8, [])] [0, 0, 3, 0, 15, 31, 63, 127, 255] mixed (by kernel_rfl) ?_) <;> try simp only [gop, gyield, gLenX, gNilM, gField, gIndexV, gPart, reduceIte, seval, Int.cast_ofNat_Int, stz, stp, isEff, sgl, sty, stq, cv3_56, cv56_3, ty22, ty23, ty24, ty36, ty68, ty62, ty65, ty70, ty91, ty99, ty29, ty3, ty4, ty56, ty63, rs7, gPick]))
end Go.Gh

