/- Parts of this claim's proof, 11. No statement of the claim stands here. -/
import Derived.Test.YtbaikgnddebkjaaP10
/- Ideal: a batch published. -/

namespace Go.Gh
open Go Go.Proofs Go.RowKit
set_option linter.unusedVariables false
set_option linter.unusedSimpArgs false
set_option maxRecDepth 100000
set_option maxHeartbeats 4000000

theorem epc_cell (s : List (Nat × Nat)) : (epc s).all isCell = true := by
  rw [List.all_eq_true]
  intro q hq
  unfold epc at hq
  obtain ⟨p, _, rfl⟩ := List.mem_map.1 hq
  rfl
theorem epc_app (s t : List (Nat × Nat)) : epc (s ++ t) = epc s ++ epc t := by simp [epc]
theorem c_IClone (N : Nat) {h0 h : GH} {v : Value} {n : Nat} {cs : List Value} (o : OWNC 1 h0 h v n cs) (hl : n ≤ 1000000) (hc : cs.all isCell = true) : GTri Try.prog N 91 [v] h fun v h' => OWNC 1 h h' v n cs ∧ HS h h' := by
  obtain ⟨a, c, rfl⟩ := o.form
  have hln := o.len
  refine gtri Try.func91 rfl gf91 ok91 (by simp [Try.ntmps91]) ?_
  repeat' (first | (with_reducible first | refine gw_seq ?_ | refine gw_block ?_) | ((first | (with_reducible first | refine gw_region ?_ | refine gw_if ?_ | refine gw_skip ?_ | refine gw_exit ?_ | refine gw_ret ?_) | ((with_reducible first | refine gif_b (fun hb => ?_) (fun hb => ?_) | refine want_t (fun hb => ?_) (fun hb => ?_) | refine want_f (fun hb => ?_) (fun hb => ?_)) <;> (try simp only [hb]) <;> (try simp only [hpr] at hb))) <;> try simp only [gop, gyield, gLenX, gNilM, gField, gIndexV, gPart, reduceIte, seval, Int.cast_ofNat_Int, stz, stp, ty83, ty3, rs91]))
  · obtain ⟨_, q⟩ := o.read
    have hz : n = 0 ∧ cs = [] := by
      rcases q with ⟨_, q1, q2⟩ | ⟨ad, q, _⟩
      · exact ⟨q1, q2⟩
      · subst q; cases hb
    rw [hz.1, hz.2]
    exact ⟨OWNC.nil _ _ _, HS.refl h⟩
  · obtain ⟨_, q⟩ := o.read
    have hsrc : gSrc h 1 (.slice a n c) = some (n, cs) := by
      rcases q with ⟨q, _, _⟩ | ⟨ad, q, q1, q2, _⟩
      · subst q; cases hb
      · subst q
        simp [gSrc]
        simpa using q1
    refine bs0_g el83 rfl ?_
    refine mk_of ?_; repeat' (first | (with_reducible first | refine gw_seq ?_ | refine gw_block ?_) | ((first | (with_reducible refine mk_to ?_) | (with_reducible first | refine gw_region ?_ | refine gw_if ?_ | refine gw_skip ?_ | refine gw_exit ?_ | refine gw_ret ?_) | ((with_reducible first | refine gif_b (fun hb => ?_) (fun hb => ?_) | refine want_t (fun hb => ?_) (fun hb => ?_) | refine want_f (fun hb => ?_) (fun hb => ?_)) <;> (try simp only [hb]) <;> (try simp only [hpr] at hb))) <;> try simp only [gop, gyield, gLenX, gNilM, gField, gIndexV, gPart, reduceIte, seval, Int.cast_ofNat_Int, stz, stp, ty83, ty3, rs91]))
    refine append_ownc el83 Try.underlying83 rfl (HS.refl h) (OWNC.zero _ _ _ _) hsrc (by omega) hc (by omega) (by simp only [maxLen]; omega) fun v3 h3 s3 fr3 o3 => ?_
    rw [List.nil_append, Nat.zero_add] at o3
    refine mk_of ?_; repeat' (first | (with_reducible first | refine gw_seq ?_ | refine gw_block ?_) | ((first | (with_reducible refine mk_to ?_) | (with_reducible first | refine gw_region ?_ | refine gw_if ?_ | refine gw_skip ?_ | refine gw_exit ?_ | refine gw_ret ?_) | ((with_reducible first | refine gif_b (fun hb => ?_) (fun hb => ?_) | refine want_t (fun hb => ?_) (fun hb => ?_) | refine want_f (fun hb => ?_) (fun hb => ?_)) <;> (try simp only [hb]) <;> (try simp only [hpr] at hb))) <;> try simp only [gop, gyield, gLenX, gNilM, gField, gIndexV, gPart, reduceIte, seval, Int.cast_ofNat_Int, stz, stp, ty83, ty3, rs91]))
    exact ⟨o3, s3⟩

/-- What publishing a batch answers. -/
def pubE (p : Pm) (m n : Nat) (b : List Bnd) : Int := if chkB p b = 0 then (if (m : Int) ≥ p.eps ∨ (b.length : Int) > p.ch - n then 81 else 0) else chkB p b
def zans (e : Int) (ep : Int) : Value := .agg #[.int .i64 e, .int .i64 ep, .bool false, .bool false, .slice none 0 0, .int .i64 0, .slice none 0 0, .slice none 0 0, .bool false]
theorem chk_small {p : Pm} {b : List Bnd} (hm : p.may = true) (h : chkB p b = 0) : small b ∧ b.length ≤ 32 := by
  have hp := p.may_iff.1 hm
  unfold chkB at h
  split at h
  · simp at h
  split at h
  · simp at h
  split at h
  · simp at h
  rename_i h1 h2 h3
  refine ⟨fun x hx => ?_, by omega⟩
  have : ¬ tooLong p x := fun hq => h3 ⟨x, hx, hq⟩
  unfold tooLong at this
  omega
theorem sps1 (M : List (Int × List Bnd)) (t : Int) (b : List Bnd) (id : List UInt8) : sps 0 ((M ++ [(t, b)]).map (·.2)) id = sps 0 (M.map (·.2)) id ++ newsp M.length b b.length id := by
  rw [List.map_append, List.map_singleton, sps_app, Nat.zero_add, List.length_map]

/-- A variable of no map's is written. -/
theorem IS.oth {h0 h h' : GH} {k j k2 : Nat} {p : Pm} {ew : Value} {cs l : List Value} {M : List (Int × List Bnd)} {ck : Int} {n : Nat} {S : List UInt8 → List (Nat × Nat)} {B : GB} (x : IS h0 h k j p ew cs l M ck n S) (m : h k2 = some B) (he : B.es = 0) (hu : B.cells.all notU8 = true) (f : ∀ i, i ≠ k2 → h' i = h i) (n1 : k2 ≠ k) (n2 : k2 ≠ j + 1) : IS h0 h' k j p ew cs l M ck n S := by
  have mf : MF h h' := MF.upd m he hu f
  exact ⟨(f k (Ne.symm n1)).trans x.obj, x.nk, (f _ (Ne.symm n2)).trans x.mp, x.nj, x.ok, x.u8, x.ep.hx m (by omega) (fun i B q e => (f i q).trans e), fun e b hb => by obtain ⟨v, h1, h2⟩ := x.eps e b hb; exact ⟨v, h1, h2.mf mf⟩, fun id => (x.sp id).mf1 mf, x.cu8, x.bl, x.len, x.tt, x.nch, x.may, x.ks⟩
theorem c_publish (N : Nat) {h0 h : GH} {k j : Nat} {p : Pm} {ew : Value} {cs l : List Value} {M : List (Int × List Bnd)} {ck : Int} {n : Nat} (s0 : HS h0 h) (x : IM h0 h k j p ew cs l M ck n) {d : Option Addr} {g : Nat} {b : List Bnd} (rl : RL 2 Bd h0 (.slice d b.length g) b) (hb : b.length ≤ 140737488355328)
    {c0 c1 c2 c3 c4 c5 c6 c7 c8 : Value} (hc : [c0, c1, c2, c3, c4, c5, c6, c7, c8].all isCell = true) :
    GTri Try.prog N 70 [.pointer (some ⟨k, 0, none⟩), .agg #[c0, c1, c2, c3, c4, c5, c6, c7, c8, .slice d b.length g]] h fun v h' =>
      v = zans (pubE p M.length n b) (if pubE p M.length n b = 0 then (M.length : Int) else 0) ∧ HS h0 h' ∧
      (pubE p M.length n b ≠ 0 ∧ IM h0 h' k j p ew cs l M ck n ∨ pubE p M.length n b = 0 ∧ ∃ ew' cs' l', IM h0 h' k j p ew' cs' l' (M ++ [(ck, b)]) ck (n + b.length)) := by
  have hv : p.v = .agg #[.int .i64 p.s, .int .i64 p.ht, .int .i64 p.mi, .int .i64 p.my, .int .i64 p.ch, .int .i64 p.ar, .int .i64 p.ca, .int .i64 p.pg] := rfl
  have hmay := p.may_iff.1 x.may
  have hn4 := x.n4
  have hML := x.len
  obtain ⟨ae, ce, ee⟩ := x.ep.form
  have hk0 : ∀ {h' : GH}, HS h0 h' → HS h0 h' := fun s => s
  refine gtri Try.func70 rfl gf70 ok70 (by simp [Try.ntmps70]) ?_
  repeat' (first | (with_reducible first | refine gw_seq ?_ | refine gw_block ?_) | ((first | (with_reducible first | refine gw_region ?_ | refine gw_if ?_ | refine gw_skip ?_ | refine gw_exit ?_ | refine gw_ret ?_) | ((with_reducible first | refine gif_b (fun hb => ?_) (fun hb => ?_) | refine want_t (fun hb => ?_) (fun hb => ?_) | refine want_f (fun hb => ?_) (fun hb => ?_) | refine dr_t (fun hb => ?_) (fun hb => ?_) | refine dr_f (fun hb => ?_) (fun hb => ?_)) <;> (try simp only [hb]) <;> (try simp only [hpr] at hb)) | with_reducible refine gw_draw (id := 1) [(0, []), (1, []), (2, []), (3, []), (4, []), (5, []), (6, []), (7, [])] [0, 1, 3, 7, 0, 16, 63, 127] mixed (by kernel_rfl) ?_ | with_reducible refine gw_draw (id := 3) [(0, []), (1, []), (2, []), (3, []), (4, []), (5, []), (6, []), (7, []), (8, []), (9, []), (10, []), (11, []), (12, []), (13, []), (14, []), (15, []), (16, []), (17, []), (18, []), (19, []), (20, []), (21, []), (22, []), (23, []), (24, []), (25, []), (26, [])] [0, 1, 3, 7, 7, 23, 55, 119, 247, 511, 1023, 2047, 4095, 8191, 2047, 18431, 51199, 116735, 247807, 2047, 526335, 1574911, 3672063, 8374271, 16777215, 33554431, 67108863] mixed (by kernel_rfl) ?_ | with_reducible refine gw_draw (id := 7) [(0, []), (1, []), (2, []), (3, []), (4, []), (5, []), (6, []), (7, []), (8, []), (9, []), (10, []), (11, [4, 8]), (12, []), (13, [4]), (14, []), (15, []), (16, []), (17, [])] [0, 0, 2, 6, 14, 0, 32, 96, 224, 0, 512, 1536, 4064, 8160, 16382, 32767, 65535, 131071] mixed (by kernel_rfl) ?_ | with_reducible refine gw_draw (id := 8) [(0, []), (1, []), (2, []), (3, []), (4, []), (5, []), (6, []), (7, []), (8, []), (9, []), (10, [])] [0, 1, 3, 7, 0, 16, 48, 127, 255, 511, 1023] mixed (by kernel_rfl) ?_ | with_reducible refine gw_draw2 (id := 12) 15 17 [(0, []), (1, []), (2, []), (3, []), (4, []), (5, []), (6, []), (7, []), (8, []), (9, []), (10, []), (11, []), (12, []), (13, []), (14, []), (16, []), (15, [3, 5, 6]), (17, [3, 5, 6]), (18, [3, 5, 6]), (19, [])] [0, 1, 3, 7, 0, 16, 48, 0, 128, 384, 896, 0, 2048, 6144, 16256, 32640, 0, 130944, 262016, 524287] [(0, []), (1, []), (2, []), (3, []), (4, []), (5, []), (6, []), (7, []), (8, []), (9, []), (10, []), (11, []), (12, []), (13, []), (14, []), (16, []), (17, [3, 5, 6, 10, 12, 13, 14]), (15, [3, 5, 6]), (18, [3, 5, 6]), (19, [])] [0, 1, 3, 7, 0, 16, 48, 0, 128, 384, 896, 0, 2048, 6144, 16256, 229248, 0, 65536, 262016, 524287] mixed (by kernel_rfl) (by kernel_rfl) (by kernel_rfl) ?_ ?_) <;> try simp only [gop, gyield, gLenX, gNilM, gField, gIndexV, gPart, reduceIte, seval, Int.cast_ofNat_Int, stz, stp, isEff, sgl, sty, stq, Try.underlying89, ty23, ty24, ty36, ty68, ty83, ty88, ty136, ty62, ty65, ty70, ty91, ty99, ty29, ty3, ty4, ty5, ty89, ty9, rs70]))
  refine box_g (by simpa [isCell] using hc) fun k1 h1 m1 s1 f1 n1 => ?_
  refine mk_of ?_; repeat' (first | (with_reducible first | refine gw_seq ?_ | refine gw_block ?_) | ((first | (with_reducible refine mk_to ?_) | (with_reducible first | refine gw_region ?_ | refine gw_if ?_ | refine gw_skip ?_ | refine gw_exit ?_ | refine gw_ret ?_) | ((with_reducible first | refine gif_b (fun hb => ?_) (fun hb => ?_) | refine want_t (fun hb => ?_) (fun hb => ?_) | refine want_f (fun hb => ?_) (fun hb => ?_) | refine dr_t (fun hb => ?_) (fun hb => ?_) | refine dr_f (fun hb => ?_) (fun hb => ?_)) <;> (try simp only [hb]) <;> (try simp only [hpr] at hb)) | with_reducible refine gw_draw (id := 1) [(0, []), (1, []), (2, []), (3, []), (4, []), (5, []), (6, []), (7, [])] [0, 1, 3, 7, 0, 16, 63, 127] mixed (by kernel_rfl) ?_ | with_reducible refine gw_draw (id := 3) [(0, []), (1, []), (2, []), (3, []), (4, []), (5, []), (6, []), (7, []), (8, []), (9, []), (10, []), (11, []), (12, []), (13, []), (14, []), (15, []), (16, []), (17, []), (18, []), (19, []), (20, []), (21, []), (22, []), (23, []), (24, []), (25, []), (26, [])] [0, 1, 3, 7, 7, 23, 55, 119, 247, 511, 1023, 2047, 4095, 8191, 2047, 18431, 51199, 116735, 247807, 2047, 526335, 1574911, 3672063, 8374271, 16777215, 33554431, 67108863] mixed (by kernel_rfl) ?_ | with_reducible refine gw_draw (id := 7) [(0, []), (1, []), (2, []), (3, []), (4, []), (5, []), (6, []), (7, []), (8, []), (9, []), (10, []), (11, [4, 8]), (12, []), (13, [4]), (14, []), (15, []), (16, []), (17, [])] [0, 0, 2, 6, 14, 0, 32, 96, 224, 0, 512, 1536, 4064, 8160, 16382, 32767, 65535, 131071] mixed (by kernel_rfl) ?_ | with_reducible refine gw_draw (id := 8) [(0, []), (1, []), (2, []), (3, []), (4, []), (5, []), (6, []), (7, []), (8, []), (9, []), (10, [])] [0, 1, 3, 7, 0, 16, 48, 127, 255, 511, 1023] mixed (by kernel_rfl) ?_ | with_reducible refine gw_draw2 (id := 12) 15 17 [(0, []), (1, []), (2, []), (3, []), (4, []), (5, []), (6, []), (7, []), (8, []), (9, []), (10, []), (11, []), (12, []), (13, []), (14, []), (16, []), (15, [3, 5, 6]), (17, [3, 5, 6]), (18, [3, 5, 6]), (19, [])] [0, 1, 3, 7, 0, 16, 48, 0, 128, 384, 896, 0, 2048, 6144, 16256, 32640, 0, 130944, 262016, 524287] [(0, []), (1, []), (2, []), (3, []), (4, []), (5, []), (6, []), (7, []), (8, []), (9, []), (10, []), (11, []), (12, []), (13, []), (14, []), (16, []), (17, [3, 5, 6, 10, 12, 13, 14]), (15, [3, 5, 6]), (18, [3, 5, 6]), (19, [])] [0, 1, 3, 7, 0, 16, 48, 0, 128, 384, 896, 0, 2048, 6144, 16256, 229248, 0, 65536, 262016, 524287] mixed (by kernel_rfl) (by kernel_rfl) (by kernel_rfl) ?_ ?_) <;> try simp only [gop, gyield, gLenX, gNilM, gField, gIndexV, gPart, reduceIte, seval, Int.cast_ofNat_Int, stz, stp, isEff, sgl, sty, stq, Try.underlying89, ty23, ty24, ty36, ty68, ty83, ty88, ty136, ty62, ty65, ty70, ty91, ty99, ty29, ty3, ty4, ty5, ty89, ty9, rs70]))
  refine new_g fun k2 h2 m2 s2 f2 n2 => ?_
  replace m1 := s2 _ _ m1
  have s12 := s1.trans s2
  have x2 := x.hs s12
  have ho := x2.obj
  rw [ee] at ho
  have gl : ∀ {h' : GH}, HS h2 h' → gLoad Try.prog 65 h' (.pointer (some ⟨k, 0, none⟩)) = some p.v := fun {h'} s => by
    have e := gread_lit (s _ _ ho) (o := 0) (n := 8) rfl rfl
    rw [hv]
    simp only [gLoad, sz65, e]
    rfl
  refine mk_of ?_; repeat' (first | (with_reducible first | refine gw_seq ?_ | refine gw_block ?_) | ((first | (with_reducible refine mk_to ?_) | (with_reducible first | refine gw_region ?_ | refine gw_if ?_ | refine gw_skip ?_ | refine gw_exit ?_ | refine gw_ret ?_) | ((with_reducible first | refine gif_b (fun hb => ?_) (fun hb => ?_) | refine want_t (fun hb => ?_) (fun hb => ?_) | refine want_f (fun hb => ?_) (fun hb => ?_) | refine dr_t (fun hb => ?_) (fun hb => ?_) | refine dr_f (fun hb => ?_) (fun hb => ?_)) <;> (try simp only [hb]) <;> (try simp only [hpr] at hb)) | with_reducible refine gw_draw (id := 1) [(0, []), (1, []), (2, []), (3, []), (4, []), (5, []), (6, []), (7, [])] [0, 1, 3, 7, 0, 16, 63, 127] mixed (by kernel_rfl) ?_ | with_reducible refine gw_draw (id := 3) [(0, []), (1, []), (2, []), (3, []), (4, []), (5, []), (6, []), (7, []), (8, []), (9, []), (10, []), (11, []), (12, []), (13, []), (14, []), (15, []), (16, []), (17, []), (18, []), (19, []), (20, []), (21, []), (22, []), (23, []), (24, []), (25, []), (26, [])] [0, 1, 3, 7, 7, 23, 55, 119, 247, 511, 1023, 2047, 4095, 8191, 2047, 18431, 51199, 116735, 247807, 2047, 526335, 1574911, 3672063, 8374271, 16777215, 33554431, 67108863] mixed (by kernel_rfl) ?_ | with_reducible refine gw_draw (id := 7) [(0, []), (1, []), (2, []), (3, []), (4, []), (5, []), (6, []), (7, []), (8, []), (9, []), (10, []), (11, [4, 8]), (12, []), (13, [4]), (14, []), (15, []), (16, []), (17, [])] [0, 0, 2, 6, 14, 0, 32, 96, 224, 0, 512, 1536, 4064, 8160, 16382, 32767, 65535, 131071] mixed (by kernel_rfl) ?_ | with_reducible refine gw_draw (id := 8) [(0, []), (1, []), (2, []), (3, []), (4, []), (5, []), (6, []), (7, []), (8, []), (9, []), (10, [])] [0, 1, 3, 7, 0, 16, 48, 127, 255, 511, 1023] mixed (by kernel_rfl) ?_ | with_reducible refine gw_draw2 (id := 12) 15 17 [(0, []), (1, []), (2, []), (3, []), (4, []), (5, []), (6, []), (7, []), (8, []), (9, []), (10, []), (11, []), (12, []), (13, []), (14, []), (16, []), (15, [3, 5, 6]), (17, [3, 5, 6]), (18, [3, 5, 6]), (19, [])] [0, 1, 3, 7, 0, 16, 48, 0, 128, 384, 896, 0, 2048, 6144, 16256, 32640, 0, 130944, 262016, 524287] [(0, []), (1, []), (2, []), (3, []), (4, []), (5, []), (6, []), (7, []), (8, []), (9, []), (10, []), (11, []), (12, []), (13, []), (14, []), (16, []), (17, [3, 5, 6, 10, 12, 13, 14]), (15, [3, 5, 6]), (18, [3, 5, 6]), (19, [])] [0, 1, 3, 7, 0, 16, 48, 0, 128, 384, 896, 0, 2048, 6144, 16256, 229248, 0, 65536, 262016, 524287] mixed (by kernel_rfl) (by kernel_rfl) (by kernel_rfl) ?_ ?_) <;> try simp only [gop, gyield, gLenX, gNilM, gField, gIndexV, gPart, reduceIte, seval, Int.cast_ofNat_Int, stz, stp, isEff, sgl, sty, stq, Try.underlying89, ty23, ty24, ty36, ty68, ty83, ty88, ty136, ty62, ty65, ty70, ty91, ty99, ty29, ty3, ty4, ty5, ty89, ty9, rs70, gNil, gl (HS.refl _), gload1 m1 sz23, List.getElem?_cons_zero, List.getElem?_cons_succ]))
  have rl2 := rl.bs (s0.trans s12)
  refine (c_chk N h2 p rl2 hb).mono ?_
  rintro _ h3 ⟨rfl, s3⟩
  have s23 := s12.trans s3
  replace m1 := s3 _ _ m1
  replace m2 := s3 _ _ m2
  have ho3 := s3 _ _ ho
  have k21 : k2 ≠ k1 := fun q => by subst q; rw [m2] at m1; simp at m1
  have fin2 : ∀ {h' h'' : GH} {V : Value} (s : HS h3 h') (f : ∀ j, j ≠ k2 → h'' j = h' j), HS h h'' := fun {h' h'' V} s f i B hi => by
    rw [f i (fun q => by subst q; have := s1 _ _ hi; rw [n2] at this; cases this)]
    exact s _ _ (s23 _ _ hi)
  by_cases hE : chkB p b = 0
  case neg =>
    have hp : pubE p M.length n b = chkB p b := by unfold pubE; rw [if_neg hE]
    have d0 : (chkB p b == 0) = false := by simpa using hE
    have d1 : (chkB p b != 0) = true := by simpa using hE
    refine mk_of ?_; repeat' (first | (with_reducible first | refine gw_seq ?_ | refine gw_block ?_) | ((first | (with_reducible refine mk_to ?_) | (with_reducible first | refine gw_region ?_ | refine gw_if ?_ | refine gw_skip ?_ | refine gw_exit ?_ | refine gw_ret ?_) | ((with_reducible first | refine gif_b (fun hb => ?_) (fun hb => ?_) | refine want_t (fun hb => ?_) (fun hb => ?_) | refine want_f (fun hb => ?_) (fun hb => ?_) | refine dr_t (fun hb => ?_) (fun hb => ?_) | refine dr_f (fun hb => ?_) (fun hb => ?_)) <;> (try simp only [hb]) <;> (try simp only [hpr] at hb)) | with_reducible refine gw_draw (id := 1) [(0, []), (1, []), (2, []), (3, []), (4, []), (5, []), (6, []), (7, [])] [0, 1, 3, 7, 0, 16, 63, 127] mixed (by kernel_rfl) ?_ | with_reducible refine gw_draw (id := 3) [(0, []), (1, []), (2, []), (3, []), (4, []), (5, []), (6, []), (7, []), (8, []), (9, []), (10, []), (11, []), (12, []), (13, []), (14, []), (15, []), (16, []), (17, []), (18, []), (19, []), (20, []), (21, []), (22, []), (23, []), (24, []), (25, []), (26, [])] [0, 1, 3, 7, 7, 23, 55, 119, 247, 511, 1023, 2047, 4095, 8191, 2047, 18431, 51199, 116735, 247807, 2047, 526335, 1574911, 3672063, 8374271, 16777215, 33554431, 67108863] mixed (by kernel_rfl) ?_ | with_reducible refine gw_draw (id := 7) [(0, []), (1, []), (2, []), (3, []), (4, []), (5, []), (6, []), (7, []), (8, []), (9, []), (10, []), (11, [4, 8]), (12, []), (13, [4]), (14, []), (15, []), (16, []), (17, [])] [0, 0, 2, 6, 14, 0, 32, 96, 224, 0, 512, 1536, 4064, 8160, 16382, 32767, 65535, 131071] mixed (by kernel_rfl) ?_ | with_reducible refine gw_draw (id := 8) [(0, []), (1, []), (2, []), (3, []), (4, []), (5, []), (6, []), (7, []), (8, []), (9, []), (10, [])] [0, 1, 3, 7, 0, 16, 48, 127, 255, 511, 1023] mixed (by kernel_rfl) ?_ | with_reducible refine gw_draw2 (id := 12) 15 17 [(0, []), (1, []), (2, []), (3, []), (4, []), (5, []), (6, []), (7, []), (8, []), (9, []), (10, []), (11, []), (12, []), (13, []), (14, []), (16, []), (15, [3, 5, 6]), (17, [3, 5, 6]), (18, [3, 5, 6]), (19, [])] [0, 1, 3, 7, 0, 16, 48, 0, 128, 384, 896, 0, 2048, 6144, 16256, 32640, 0, 130944, 262016, 524287] [(0, []), (1, []), (2, []), (3, []), (4, []), (5, []), (6, []), (7, []), (8, []), (9, []), (10, []), (11, []), (12, []), (13, []), (14, []), (16, []), (17, [3, 5, 6, 10, 12, 13, 14]), (15, [3, 5, 6]), (18, [3, 5, 6]), (19, [])] [0, 1, 3, 7, 0, 16, 48, 0, 128, 384, 896, 0, 2048, 6144, 16256, 229248, 0, 65536, 262016, 524287] mixed (by kernel_rfl) (by kernel_rfl) (by kernel_rfl) ?_ ?_) <;> try simp only [gop, gyield, gLenX, gNilM, gField, gIndexV, gPart, reduceIte, seval, Int.cast_ofNat_Int, stz, stp, isEff, sgl, sty, stq, Try.underlying89, ty23, ty24, ty36, ty68, ty83, ty88, ty136, ty62, ty65, ty70, ty91, ty99, ty29, ty3, ty4, ty5, ty89, ty9, rs70, gNil, gl s3, gload1 m1 sz23, gload1 ho3 sz88, d0, d1, gPick, List.getElem?_cons_zero, List.getElem?_cons_succ, gBuild, lfill, lput, Shape.pl, List.all_cons, List.all_nil, isCell]))
    refine st_all m2 sz70 rfl (by decide) rfl rfl rfl fun h4 m4 f4 => ?_
    refine mk_of ?_; repeat' (first | (with_reducible first | refine gw_seq ?_ | refine gw_block ?_) | ((first | (with_reducible refine mk_to ?_) | (with_reducible first | refine gw_region ?_ | refine gw_if ?_ | refine gw_skip ?_ | refine gw_exit ?_ | refine gw_ret ?_) | ((with_reducible first | refine gif_b (fun hb => ?_) (fun hb => ?_) | refine want_t (fun hb => ?_) (fun hb => ?_) | refine want_f (fun hb => ?_) (fun hb => ?_) | refine dr_t (fun hb => ?_) (fun hb => ?_) | refine dr_f (fun hb => ?_) (fun hb => ?_)) <;> (try simp only [hb]) <;> (try simp only [hpr] at hb)) | with_reducible refine gw_draw (id := 1) [(0, []), (1, []), (2, []), (3, []), (4, []), (5, []), (6, []), (7, [])] [0, 1, 3, 7, 0, 16, 63, 127] mixed (by kernel_rfl) ?_ | with_reducible refine gw_draw (id := 3) [(0, []), (1, []), (2, []), (3, []), (4, []), (5, []), (6, []), (7, []), (8, []), (9, []), (10, []), (11, []), (12, []), (13, []), (14, []), (15, []), (16, []), (17, []), (18, []), (19, []), (20, []), (21, []), (22, []), (23, []), (24, []), (25, []), (26, [])] [0, 1, 3, 7, 7, 23, 55, 119, 247, 511, 1023, 2047, 4095, 8191, 2047, 18431, 51199, 116735, 247807, 2047, 526335, 1574911, 3672063, 8374271, 16777215, 33554431, 67108863] mixed (by kernel_rfl) ?_ | with_reducible refine gw_draw (id := 7) [(0, []), (1, []), (2, []), (3, []), (4, []), (5, []), (6, []), (7, []), (8, []), (9, []), (10, []), (11, [4, 8]), (12, []), (13, [4]), (14, []), (15, []), (16, []), (17, [])] [0, 0, 2, 6, 14, 0, 32, 96, 224, 0, 512, 1536, 4064, 8160, 16382, 32767, 65535, 131071] mixed (by kernel_rfl) ?_ | with_reducible refine gw_draw (id := 8) [(0, []), (1, []), (2, []), (3, []), (4, []), (5, []), (6, []), (7, []), (8, []), (9, []), (10, [])] [0, 1, 3, 7, 0, 16, 48, 127, 255, 511, 1023] mixed (by kernel_rfl) ?_ | with_reducible refine gw_draw2 (id := 12) 15 17 [(0, []), (1, []), (2, []), (3, []), (4, []), (5, []), (6, []), (7, []), (8, []), (9, []), (10, []), (11, []), (12, []), (13, []), (14, []), (16, []), (15, [3, 5, 6]), (17, [3, 5, 6]), (18, [3, 5, 6]), (19, [])] [0, 1, 3, 7, 0, 16, 48, 0, 128, 384, 896, 0, 2048, 6144, 16256, 32640, 0, 130944, 262016, 524287] [(0, []), (1, []), (2, []), (3, []), (4, []), (5, []), (6, []), (7, []), (8, []), (9, []), (10, []), (11, []), (12, []), (13, []), (14, []), (16, []), (17, [3, 5, 6, 10, 12, 13, 14]), (15, [3, 5, 6]), (18, [3, 5, 6]), (19, [])] [0, 1, 3, 7, 0, 16, 48, 0, 128, 384, 896, 0, 2048, 6144, 16256, 229248, 0, 65536, 262016, 524287] mixed (by kernel_rfl) (by kernel_rfl) (by kernel_rfl) ?_ ?_) <;> try simp only [gop, gyield, gLenX, gNilM, gField, gIndexV, gPart, reduceIte, seval, Int.cast_ofNat_Int, stz, stp, isEff, sgl, sty, stq, Try.underlying89, ty23, ty24, ty36, ty68, ty83, ty88, ty136, ty62, ty65, ty70, ty91, ty99, ty29, ty3, ty4, ty5, ty89, ty9, rs70, gloadA m4 sz70 rfl]))
    have s4 : HS h h4 := fin2 (V := U) (HS.refl _) f4
    rw [hp, if_neg hE]
    exact ⟨rfl, s0.trans s4, .inl ⟨hE, x.hs s4⟩⟩
  have d0 : (chkB p b == 0) = true := by simpa using hE
  rw [hE]
  have z0 : ((0 : Int) == 0) = true := rfl
  obtain ⟨hsm, hb32⟩ := chk_small x.may hE
  have w1 : IntKind.i64.wrap (p.ch - (n : Int)) = p.ch - n := by have := x.nch; rw [wrap64 (by omega) (by omega)]
  refine mk_of ?_; repeat' (first | (with_reducible first | refine gw_seq ?_ | refine gw_block ?_) | ((first | (with_reducible refine mk_to ?_) | (with_reducible first | refine gw_region ?_ | refine gw_if ?_ | refine gw_skip ?_ | refine gw_exit ?_ | refine gw_ret ?_) | ((with_reducible first | refine gif_b (fun hb => ?_) (fun hb => ?_) | refine want_t (fun hb => ?_) (fun hb => ?_) | refine want_f (fun hb => ?_) (fun hb => ?_) | refine dr_t (fun hb => ?_) (fun hb => ?_) | refine dr_f (fun hb => ?_) (fun hb => ?_)) <;> (try simp only [hb]) <;> (try simp only [hpr] at hb)) | with_reducible refine gw_draw (id := 1) [(0, []), (1, []), (2, []), (3, []), (4, []), (5, []), (6, []), (7, [])] [0, 1, 3, 7, 0, 16, 63, 127] mixed (by kernel_rfl) ?_ | with_reducible refine gw_draw (id := 3) [(0, []), (1, []), (2, []), (3, []), (4, []), (5, []), (6, []), (7, []), (8, []), (9, []), (10, []), (11, []), (12, []), (13, []), (14, []), (15, []), (16, []), (17, []), (18, []), (19, []), (20, []), (21, []), (22, []), (23, []), (24, []), (25, []), (26, [])] [0, 1, 3, 7, 7, 23, 55, 119, 247, 511, 1023, 2047, 4095, 8191, 2047, 18431, 51199, 116735, 247807, 2047, 526335, 1574911, 3672063, 8374271, 16777215, 33554431, 67108863] mixed (by kernel_rfl) ?_ | with_reducible refine gw_draw (id := 7) [(0, []), (1, []), (2, []), (3, []), (4, []), (5, []), (6, []), (7, []), (8, []), (9, []), (10, []), (11, [4, 8]), (12, []), (13, [4]), (14, []), (15, []), (16, []), (17, [])] [0, 0, 2, 6, 14, 0, 32, 96, 224, 0, 512, 1536, 4064, 8160, 16382, 32767, 65535, 131071] mixed (by kernel_rfl) ?_ | with_reducible refine gw_draw (id := 8) [(0, []), (1, []), (2, []), (3, []), (4, []), (5, []), (6, []), (7, []), (8, []), (9, []), (10, [])] [0, 1, 3, 7, 0, 16, 48, 127, 255, 511, 1023] mixed (by kernel_rfl) ?_ | with_reducible refine gw_draw2 (id := 12) 15 17 [(0, []), (1, []), (2, []), (3, []), (4, []), (5, []), (6, []), (7, []), (8, []), (9, []), (10, []), (11, []), (12, []), (13, []), (14, []), (16, []), (15, [3, 5, 6]), (17, [3, 5, 6]), (18, [3, 5, 6]), (19, [])] [0, 1, 3, 7, 0, 16, 48, 0, 128, 384, 896, 0, 2048, 6144, 16256, 32640, 0, 130944, 262016, 524287] [(0, []), (1, []), (2, []), (3, []), (4, []), (5, []), (6, []), (7, []), (8, []), (9, []), (10, []), (11, []), (12, []), (13, []), (14, []), (16, []), (17, [3, 5, 6, 10, 12, 13, 14]), (15, [3, 5, 6]), (18, [3, 5, 6]), (19, [])] [0, 1, 3, 7, 0, 16, 48, 0, 128, 384, 896, 0, 2048, 6144, 16256, 229248, 0, 65536, 262016, 524287] mixed (by kernel_rfl) (by kernel_rfl) (by kernel_rfl) ?_ ?_) <;> try simp only [gop, gyield, gLenX, gNilM, gField, gIndexV, gPart, reduceIte, seval, Int.cast_ofNat_Int, stz, stp, isEff, sgl, sty, stq, Try.underlying89, ty23, ty24, ty36, ty68, ty83, ty88, ty136, ty62, ty65, ty70, ty91, ty99, ty29, ty3, ty4, ty5, ty89, ty9, rs70, gNil, gl s3, gload1 m1 sz23, gload1 ho3 sz88, gload1 ho3 sz3, z0, gPick, List.getElem?_cons_zero, List.getElem?_cons_succ]))
  refine (c_eps N h3 p).mono ?_
  rintro _ h4 ⟨rfl, s4⟩
  have s34 := s23.trans s4
  replace m1 := s4 _ _ m1
  replace m2 := s4 _ _ m2
  have ho4 := s4 _ _ ho3
  have n81 : ((81 : Int) != 0) = true := rfl
  by_cases hA : (M.length : Int) ≥ p.eps
  · have hp : pubE p M.length n b = 81 := by unfold pubE; rw [if_pos hE, if_pos (.inl hA)]
    have dA : decide ((M.length : Int) ≥ p.eps) = true := decide_eq_true hA
    refine mk_of ?_; repeat' (first | (with_reducible first | refine gw_seq ?_ | refine gw_block ?_) | ((first | (with_reducible refine mk_to ?_) | (with_reducible first | refine gw_region ?_ | refine gw_if ?_ | refine gw_skip ?_ | refine gw_exit ?_ | refine gw_ret ?_) | ((with_reducible first | refine gif_b (fun hb => ?_) (fun hb => ?_) | refine want_t (fun hb => ?_) (fun hb => ?_) | refine want_f (fun hb => ?_) (fun hb => ?_) | refine dr_t (fun hb => ?_) (fun hb => ?_) | refine dr_f (fun hb => ?_) (fun hb => ?_)) <;> (try simp only [hb]) <;> (try simp only [hpr] at hb)) | with_reducible refine gw_draw (id := 1) [(0, []), (1, []), (2, []), (3, []), (4, []), (5, []), (6, []), (7, [])] [0, 1, 3, 7, 0, 16, 63, 127] mixed (by kernel_rfl) ?_ | with_reducible refine gw_draw (id := 3) [(0, []), (1, []), (2, []), (3, []), (4, []), (5, []), (6, []), (7, []), (8, []), (9, []), (10, []), (11, []), (12, []), (13, []), (14, []), (15, []), (16, []), (17, []), (18, []), (19, []), (20, []), (21, []), (22, []), (23, []), (24, []), (25, []), (26, [])] [0, 1, 3, 7, 7, 23, 55, 119, 247, 511, 1023, 2047, 4095, 8191, 2047, 18431, 51199, 116735, 247807, 2047, 526335, 1574911, 3672063, 8374271, 16777215, 33554431, 67108863] mixed (by kernel_rfl) ?_ | with_reducible refine gw_draw (id := 7) [(0, []), (1, []), (2, []), (3, []), (4, []), (5, []), (6, []), (7, []), (8, []), (9, []), (10, []), (11, [4, 8]), (12, []), (13, [4]), (14, []), (15, []), (16, []), (17, [])] [0, 0, 2, 6, 14, 0, 32, 96, 224, 0, 512, 1536, 4064, 8160, 16382, 32767, 65535, 131071] mixed (by kernel_rfl) ?_ | with_reducible refine gw_draw (id := 8) [(0, []), (1, []), (2, []), (3, []), (4, []), (5, []), (6, []), (7, []), (8, []), (9, []), (10, [])] [0, 1, 3, 7, 0, 16, 48, 127, 255, 511, 1023] mixed (by kernel_rfl) ?_ | with_reducible refine gw_draw2 (id := 12) 15 17 [(0, []), (1, []), (2, []), (3, []), (4, []), (5, []), (6, []), (7, []), (8, []), (9, []), (10, []), (11, []), (12, []), (13, []), (14, []), (16, []), (15, [3, 5, 6]), (17, [3, 5, 6]), (18, [3, 5, 6]), (19, [])] [0, 1, 3, 7, 0, 16, 48, 0, 128, 384, 896, 0, 2048, 6144, 16256, 32640, 0, 130944, 262016, 524287] [(0, []), (1, []), (2, []), (3, []), (4, []), (5, []), (6, []), (7, []), (8, []), (9, []), (10, []), (11, []), (12, []), (13, []), (14, []), (16, []), (17, [3, 5, 6, 10, 12, 13, 14]), (15, [3, 5, 6]), (18, [3, 5, 6]), (19, [])] [0, 1, 3, 7, 0, 16, 48, 0, 128, 384, 896, 0, 2048, 6144, 16256, 229248, 0, 65536, 262016, 524287] mixed (by kernel_rfl) (by kernel_rfl) (by kernel_rfl) ?_ ?_) <;> try simp only [gop, gyield, gLenX, gNilM, gField, gIndexV, gPart, reduceIte, seval, Int.cast_ofNat_Int, stz, stp, isEff, sgl, sty, stq, Try.underlying89, ty23, ty24, ty36, ty68, ty83, ty88, ty136, ty62, ty65, ty70, ty91, ty99, ty29, ty3, ty4, ty5, ty89, ty9, rs70, gNil, gload1 m1 sz23, gload1 ho4 sz88, gload1 ho4 sz3, z0, gPick, dA, w1, n81, List.getElem?_cons_zero, List.getElem?_cons_succ, gBuild, lfill, lput, Shape.pl, List.all_cons, List.all_nil, isCell]))
    refine st_all m2 sz70 rfl (by decide) rfl rfl rfl fun h5 m5 f5 => ?_
    refine mk_of ?_; repeat' (first | (with_reducible first | refine gw_seq ?_ | refine gw_block ?_) | ((first | (with_reducible refine mk_to ?_) | (with_reducible first | refine gw_region ?_ | refine gw_if ?_ | refine gw_skip ?_ | refine gw_exit ?_ | refine gw_ret ?_) | ((with_reducible first | refine gif_b (fun hb => ?_) (fun hb => ?_) | refine want_t (fun hb => ?_) (fun hb => ?_) | refine want_f (fun hb => ?_) (fun hb => ?_) | refine dr_t (fun hb => ?_) (fun hb => ?_) | refine dr_f (fun hb => ?_) (fun hb => ?_)) <;> (try simp only [hb]) <;> (try simp only [hpr] at hb)) | with_reducible refine gw_draw (id := 1) [(0, []), (1, []), (2, []), (3, []), (4, []), (5, []), (6, []), (7, [])] [0, 1, 3, 7, 0, 16, 63, 127] mixed (by kernel_rfl) ?_ | with_reducible refine gw_draw (id := 3) [(0, []), (1, []), (2, []), (3, []), (4, []), (5, []), (6, []), (7, []), (8, []), (9, []), (10, []), (11, []), (12, []), (13, []), (14, []), (15, []), (16, []), (17, []), (18, []), (19, []), (20, []), (21, []), (22, []), (23, []), (24, []), (25, []), (26, [])] [0, 1, 3, 7, 7, 23, 55, 119, 247, 511, 1023, 2047, 4095, 8191, 2047, 18431, 51199, 116735, 247807, 2047, 526335, 1574911, 3672063, 8374271, 16777215, 33554431, 67108863] mixed (by kernel_rfl) ?_ | with_reducible refine gw_draw (id := 7) [(0, []), (1, []), (2, []), (3, []), (4, []), (5, []), (6, []), (7, []), (8, []), (9, []), (10, []), (11, [4, 8]), (12, []), (13, [4]), (14, []), (15, []), (16, []), (17, [])] [0, 0, 2, 6, 14, 0, 32, 96, 224, 0, 512, 1536, 4064, 8160, 16382, 32767, 65535, 131071] mixed (by kernel_rfl) ?_ | with_reducible refine gw_draw (id := 8) [(0, []), (1, []), (2, []), (3, []), (4, []), (5, []), (6, []), (7, []), (8, []), (9, []), (10, [])] [0, 1, 3, 7, 0, 16, 48, 127, 255, 511, 1023] mixed (by kernel_rfl) ?_ | with_reducible refine gw_draw2 (id := 12) 15 17 [(0, []), (1, []), (2, []), (3, []), (4, []), (5, []), (6, []), (7, []), (8, []), (9, []), (10, []), (11, []), (12, []), (13, []), (14, []), (16, []), (15, [3, 5, 6]), (17, [3, 5, 6]), (18, [3, 5, 6]), (19, [])] [0, 1, 3, 7, 0, 16, 48, 0, 128, 384, 896, 0, 2048, 6144, 16256, 32640, 0, 130944, 262016, 524287] [(0, []), (1, []), (2, []), (3, []), (4, []), (5, []), (6, []), (7, []), (8, []), (9, []), (10, []), (11, []), (12, []), (13, []), (14, []), (16, []), (17, [3, 5, 6, 10, 12, 13, 14]), (15, [3, 5, 6]), (18, [3, 5, 6]), (19, [])] [0, 1, 3, 7, 0, 16, 48, 0, 128, 384, 896, 0, 2048, 6144, 16256, 229248, 0, 65536, 262016, 524287] mixed (by kernel_rfl) (by kernel_rfl) (by kernel_rfl) ?_ ?_) <;> try simp only [gop, gyield, gLenX, gNilM, gField, gIndexV, gPart, reduceIte, seval, Int.cast_ofNat_Int, stz, stp, isEff, sgl, sty, stq, Try.underlying89, ty23, ty24, ty36, ty68, ty83, ty88, ty136, ty62, ty65, ty70, ty91, ty99, ty29, ty3, ty4, ty5, ty89, ty9, rs70, gloadA m5 sz70 rfl]))
    have s5 : HS h h5 := fin2 (V := U) s4 f5
    rw [hp]
    exact ⟨rfl, s0.trans s5, .inl ⟨by decide, x.hs s5⟩⟩
  have dA : decide ((M.length : Int) ≥ p.eps) = false := decide_eq_false hA
  by_cases hB : (b.length : Int) > p.ch - n
  · have hp : pubE p M.length n b = 81 := by unfold pubE; rw [if_pos hE, if_pos (.inr hB)]
    have dB : decide ((b.length : Int) > p.ch - n) = true := decide_eq_true hB
    refine mk_of ?_; repeat' (first | (with_reducible first | refine gw_seq ?_ | refine gw_block ?_) | ((first | (with_reducible refine mk_to ?_) | (with_reducible first | refine gw_region ?_ | refine gw_if ?_ | refine gw_skip ?_ | refine gw_exit ?_ | refine gw_ret ?_) | ((with_reducible first | refine gif_b (fun hb => ?_) (fun hb => ?_) | refine want_t (fun hb => ?_) (fun hb => ?_) | refine want_f (fun hb => ?_) (fun hb => ?_) | refine dr_t (fun hb => ?_) (fun hb => ?_) | refine dr_f (fun hb => ?_) (fun hb => ?_)) <;> (try simp only [hb]) <;> (try simp only [hpr] at hb)) | with_reducible refine gw_draw (id := 1) [(0, []), (1, []), (2, []), (3, []), (4, []), (5, []), (6, []), (7, [])] [0, 1, 3, 7, 0, 16, 63, 127] mixed (by kernel_rfl) ?_ | with_reducible refine gw_draw (id := 3) [(0, []), (1, []), (2, []), (3, []), (4, []), (5, []), (6, []), (7, []), (8, []), (9, []), (10, []), (11, []), (12, []), (13, []), (14, []), (15, []), (16, []), (17, []), (18, []), (19, []), (20, []), (21, []), (22, []), (23, []), (24, []), (25, []), (26, [])] [0, 1, 3, 7, 7, 23, 55, 119, 247, 511, 1023, 2047, 4095, 8191, 2047, 18431, 51199, 116735, 247807, 2047, 526335, 1574911, 3672063, 8374271, 16777215, 33554431, 67108863] mixed (by kernel_rfl) ?_ | with_reducible refine gw_draw (id := 7) [(0, []), (1, []), (2, []), (3, []), (4, []), (5, []), (6, []), (7, []), (8, []), (9, []), (10, []), (11, [4, 8]), (12, []), (13, [4]), (14, []), (15, []), (16, []), (17, [])] [0, 0, 2, 6, 14, 0, 32, 96, 224, 0, 512, 1536, 4064, 8160, 16382, 32767, 65535, 131071] mixed (by kernel_rfl) ?_ | with_reducible refine gw_draw (id := 8) [(0, []), (1, []), (2, []), (3, []), (4, []), (5, []), (6, []), (7, []), (8, []), (9, []), (10, [])] [0, 1, 3, 7, 0, 16, 48, 127, 255, 511, 1023] mixed (by kernel_rfl) ?_ | with_reducible refine gw_draw2 (id := 12) 15 17 [(0, []), (1, []), (2, []), (3, []), (4, []), (5, []), (6, []), (7, []), (8, []), (9, []), (10, []), (11, []), (12, []), (13, []), (14, []), (16, []), (15, [3, 5, 6]), (17, [3, 5, 6]), (18, [3, 5, 6]), (19, [])] [0, 1, 3, 7, 0, 16, 48, 0, 128, 384, 896, 0, 2048, 6144, 16256, 32640, 0, 130944, 262016, 524287] [(0, []), (1, []), (2, []), (3, []), (4, []), (5, []), (6, []), (7, []), (8, []), (9, []), (10, []), (11, []), (12, []), (13, []), (14, []), (16, []), (17, [3, 5, 6, 10, 12, 13, 14]), (15, [3, 5, 6]), (18, [3, 5, 6]), (19, [])] [0, 1, 3, 7, 0, 16, 48, 0, 128, 384, 896, 0, 2048, 6144, 16256, 229248, 0, 65536, 262016, 524287] mixed (by kernel_rfl) (by kernel_rfl) (by kernel_rfl) ?_ ?_) <;> try simp only [gop, gyield, gLenX, gNilM, gField, gIndexV, gPart, reduceIte, seval, Int.cast_ofNat_Int, stz, stp, isEff, sgl, sty, stq, Try.underlying89, ty23, ty24, ty36, ty68, ty83, ty88, ty136, ty62, ty65, ty70, ty91, ty99, ty29, ty3, ty4, ty5, ty89, ty9, rs70, gNil, gload1 m1 sz23, gload1 ho4 sz88, gload1 ho4 sz3, z0, gPick, dA, dB, w1, n81, List.getElem?_cons_zero, List.getElem?_cons_succ, gBuild, lfill, lput, Shape.pl, List.all_cons, List.all_nil, isCell]))
    refine st_all m2 sz70 rfl (by decide) rfl rfl rfl fun h5 m5 f5 => ?_
    refine mk_of ?_; repeat' (first | (with_reducible first | refine gw_seq ?_ | refine gw_block ?_) | ((first | (with_reducible refine mk_to ?_) | (with_reducible first | refine gw_region ?_ | refine gw_if ?_ | refine gw_skip ?_ | refine gw_exit ?_ | refine gw_ret ?_) | ((with_reducible first | refine gif_b (fun hb => ?_) (fun hb => ?_) | refine want_t (fun hb => ?_) (fun hb => ?_) | refine want_f (fun hb => ?_) (fun hb => ?_) | refine dr_t (fun hb => ?_) (fun hb => ?_) | refine dr_f (fun hb => ?_) (fun hb => ?_)) <;> (try simp only [hb]) <;> (try simp only [hpr] at hb)) | with_reducible refine gw_draw (id := 1) [(0, []), (1, []), (2, []), (3, []), (4, []), (5, []), (6, []), (7, [])] [0, 1, 3, 7, 0, 16, 63, 127] mixed (by kernel_rfl) ?_ | with_reducible refine gw_draw (id := 3) [(0, []), (1, []), (2, []), (3, []), (4, []), (5, []), (6, []), (7, []), (8, []), (9, []), (10, []), (11, []), (12, []), (13, []), (14, []), (15, []), (16, []), (17, []), (18, []), (19, []), (20, []), (21, []), (22, []), (23, []), (24, []), (25, []), (26, [])] [0, 1, 3, 7, 7, 23, 55, 119, 247, 511, 1023, 2047, 4095, 8191, 2047, 18431, 51199, 116735, 247807, 2047, 526335, 1574911, 3672063, 8374271, 16777215, 33554431, 67108863] mixed (by kernel_rfl) ?_ | with_reducible refine gw_draw (id := 7) [(0, []), (1, []), (2, []), (3, []), (4, []), (5, []), (6, []), (7, []), (8, []), (9, []), (10, []), (11, [4, 8]), (12, []), (13, [4]), (14, []), (15, []), (16, []), (17, [])] [0, 0, 2, 6, 14, 0, 32, 96, 224, 0, 512, 1536, 4064, 8160, 16382, 32767, 65535, 131071] mixed (by kernel_rfl) ?_ | with_reducible refine gw_draw (id := 8) [(0, []), (1, []), (2, []), (3, []), (4, []), (5, []), (6, []), (7, []), (8, []), (9, []), (10, [])] [0, 1, 3, 7, 0, 16, 48, 127, 255, 511, 1023] mixed (by kernel_rfl) ?_ | with_reducible refine gw_draw2 (id := 12) 15 17 [(0, []), (1, []), (2, []), (3, []), (4, []), (5, []), (6, []), (7, []), (8, []), (9, []), (10, []), (11, []), (12, []), (13, []), (14, []), (16, []), (15, [3, 5, 6]), (17, [3, 5, 6]), (18, [3, 5, 6]), (19, [])] [0, 1, 3, 7, 0, 16, 48, 0, 128, 384, 896, 0, 2048, 6144, 16256, 32640, 0, 130944, 262016, 524287] [(0, []), (1, []), (2, []), (3, []), (4, []), (5, []), (6, []), (7, []), (8, []), (9, []), (10, []), (11, []), (12, []), (13, []), (14, []), (16, []), (17, [3, 5, 6, 10, 12, 13, 14]), (15, [3, 5, 6]), (18, [3, 5, 6]), (19, [])] [0, 1, 3, 7, 0, 16, 48, 0, 128, 384, 896, 0, 2048, 6144, 16256, 229248, 0, 65536, 262016, 524287] mixed (by kernel_rfl) (by kernel_rfl) (by kernel_rfl) ?_ ?_) <;> try simp only [gop, gyield, gLenX, gNilM, gField, gIndexV, gPart, reduceIte, seval, Int.cast_ofNat_Int, stz, stp, isEff, sgl, sty, stq, Try.underlying89, ty23, ty24, ty36, ty68, ty83, ty88, ty136, ty62, ty65, ty70, ty91, ty99, ty29, ty3, ty4, ty5, ty89, ty9, rs70, gloadA m5 sz70 rfl]))
    have s5 : HS h h5 := fin2 (V := U) s4 f5
    rw [hp]
    exact ⟨rfl, s0.trans s5, .inl ⟨by decide, x.hs s5⟩⟩
  have dB : decide ((b.length : Int) > p.ch - n) = false := decide_eq_false hB
  have hp : pubE p M.length n b = 0 := by unfold pubE; rw [if_pos hE, if_neg (not_or.2 ⟨hA, hB⟩)]
  rw [hp]
  have n0 : ((0 : Int) != 0) = false := rfl
  refine mk_of ?_; repeat' (first | (with_reducible first | refine gw_seq ?_ | refine gw_block ?_) | ((first | (with_reducible refine mk_to ?_) | (with_reducible first | refine gw_region ?_ | refine gw_if ?_ | refine gw_skip ?_ | refine gw_exit ?_ | refine gw_ret ?_) | ((with_reducible first | refine gif_b (fun hb => ?_) (fun hb => ?_) | refine want_t (fun hb => ?_) (fun hb => ?_) | refine want_f (fun hb => ?_) (fun hb => ?_) | refine dr_t (fun hb => ?_) (fun hb => ?_) | refine dr_f (fun hb => ?_) (fun hb => ?_)) <;> (try simp only [hb]) <;> (try simp only [hpr] at hb)) | with_reducible refine gw_draw (id := 1) [(0, []), (1, []), (2, []), (3, []), (4, []), (5, []), (6, []), (7, [])] [0, 1, 3, 7, 0, 16, 63, 127] mixed (by kernel_rfl) ?_ | with_reducible refine gw_draw (id := 3) [(0, []), (1, []), (2, []), (3, []), (4, []), (5, []), (6, []), (7, []), (8, []), (9, []), (10, []), (11, []), (12, []), (13, []), (14, []), (15, []), (16, []), (17, []), (18, []), (19, []), (20, []), (21, []), (22, []), (23, []), (24, []), (25, []), (26, [])] [0, 1, 3, 7, 7, 23, 55, 119, 247, 511, 1023, 2047, 4095, 8191, 2047, 18431, 51199, 116735, 247807, 2047, 526335, 1574911, 3672063, 8374271, 16777215, 33554431, 67108863] mixed (by kernel_rfl) ?_ | with_reducible refine gw_draw (id := 7) [(0, []), (1, []), (2, []), (3, []), (4, []), (5, []), (6, []), (7, []), (8, []), (9, []), (10, []), (11, [4, 8]), (12, []), (13, [4]), (14, []), (15, []), (16, []), (17, [])] [0, 0, 2, 6, 14, 0, 32, 96, 224, 0, 512, 1536, 4064, 8160, 16382, 32767, 65535, 131071] mixed (by kernel_rfl) ?_ | with_reducible refine gw_draw (id := 8) [(0, []), (1, []), (2, []), (3, []), (4, []), (5, []), (6, []), (7, []), (8, []), (9, []), (10, [])] [0, 1, 3, 7, 0, 16, 48, 127, 255, 511, 1023] mixed (by kernel_rfl) ?_ | with_reducible refine gw_draw2 (id := 12) 15 17 [(0, []), (1, []), (2, []), (3, []), (4, []), (5, []), (6, []), (7, []), (8, []), (9, []), (10, []), (11, []), (12, []), (13, []), (14, []), (16, []), (15, [3, 5, 6]), (17, [3, 5, 6]), (18, [3, 5, 6]), (19, [])] [0, 1, 3, 7, 0, 16, 48, 0, 128, 384, 896, 0, 2048, 6144, 16256, 32640, 0, 130944, 262016, 524287] [(0, []), (1, []), (2, []), (3, []), (4, []), (5, []), (6, []), (7, []), (8, []), (9, []), (10, []), (11, []), (12, []), (13, []), (14, []), (16, []), (17, [3, 5, 6, 10, 12, 13, 14]), (15, [3, 5, 6]), (18, [3, 5, 6]), (19, [])] [0, 1, 3, 7, 0, 16, 48, 0, 128, 384, 896, 0, 2048, 6144, 16256, 229248, 0, 65536, 262016, 524287] mixed (by kernel_rfl) (by kernel_rfl) (by kernel_rfl) ?_ ?_) <;> try simp only [gop, gyield, gLenX, gNilM, gField, gIndexV, gPart, reduceIte, seval, Int.cast_ofNat_Int, stz, stp, isEff, sgl, sty, stq, Try.underlying89, ty23, ty24, ty36, ty68, ty83, ty88, ty136, ty62, ty65, ty70, ty91, ty99, ty29, ty3, ty4, ty5, ty89, ty9, rs70, gNil, gload1 m1 sz23, gload1 ho4 sz88, gload1 ho4 sz3, z0, gPick, dA, dB, w1, n0, List.getElem?_cons_zero, List.getElem?_cons_succ]))
  refine (c_own N h4 (rl.bs (s0.trans s34)) (by omega) hsm).mono ?_
  rintro v5 h5 ⟨bt5, s5⟩
  obtain ⟨ao, co, eo⟩ : ∃ a c, v5 = .slice a b.length c := by
    obtain ⟨ds, o, _⟩ := bt5
    exact o.form
  subst eo
  have ho5 := s5 _ _ ho4
  replace m1 := s5 _ _ m1
  replace m2 := s5 _ _ m2
  refine mk_of ?_; repeat' (first | (with_reducible first | refine gw_seq ?_ | refine gw_block ?_) | ((first | (with_reducible refine mk_to ?_) | (with_reducible first | refine gw_region ?_ | refine gw_if ?_ | refine gw_skip ?_ | refine gw_exit ?_ | refine gw_ret ?_) | ((with_reducible first | refine gif_b (fun hb => ?_) (fun hb => ?_) | refine want_t (fun hb => ?_) (fun hb => ?_) | refine want_f (fun hb => ?_) (fun hb => ?_) | refine dr_t (fun hb => ?_) (fun hb => ?_) | refine dr_f (fun hb => ?_) (fun hb => ?_)) <;> (try simp only [hb]) <;> (try simp only [hpr] at hb)) | with_reducible refine gw_draw (id := 1) [(0, []), (1, []), (2, []), (3, []), (4, []), (5, []), (6, []), (7, [])] [0, 1, 3, 7, 0, 16, 63, 127] mixed (by kernel_rfl) ?_ | with_reducible refine gw_draw (id := 3) [(0, []), (1, []), (2, []), (3, []), (4, []), (5, []), (6, []), (7, []), (8, []), (9, []), (10, []), (11, []), (12, []), (13, []), (14, []), (15, []), (16, []), (17, []), (18, []), (19, []), (20, []), (21, []), (22, []), (23, []), (24, []), (25, []), (26, [])] [0, 1, 3, 7, 7, 23, 55, 119, 247, 511, 1023, 2047, 4095, 8191, 2047, 18431, 51199, 116735, 247807, 2047, 526335, 1574911, 3672063, 8374271, 16777215, 33554431, 67108863] mixed (by kernel_rfl) ?_ | with_reducible refine gw_draw (id := 7) [(0, []), (1, []), (2, []), (3, []), (4, []), (5, []), (6, []), (7, []), (8, []), (9, []), (10, []), (11, [4, 8]), (12, []), (13, [4]), (14, []), (15, []), (16, []), (17, [])] [0, 0, 2, 6, 14, 0, 32, 96, 224, 0, 512, 1536, 4064, 8160, 16382, 32767, 65535, 131071] mixed (by kernel_rfl) ?_ | with_reducible refine gw_draw (id := 8) [(0, []), (1, []), (2, []), (3, []), (4, []), (5, []), (6, []), (7, []), (8, []), (9, []), (10, [])] [0, 1, 3, 7, 0, 16, 48, 127, 255, 511, 1023] mixed (by kernel_rfl) ?_ | with_reducible refine gw_draw2 (id := 12) 15 17 [(0, []), (1, []), (2, []), (3, []), (4, []), (5, []), (6, []), (7, []), (8, []), (9, []), (10, []), (11, []), (12, []), (13, []), (14, []), (16, []), (15, [3, 5, 6]), (17, [3, 5, 6]), (18, [3, 5, 6]), (19, [])] [0, 1, 3, 7, 0, 16, 48, 0, 128, 384, 896, 0, 2048, 6144, 16256, 32640, 0, 130944, 262016, 524287] [(0, []), (1, []), (2, []), (3, []), (4, []), (5, []), (6, []), (7, []), (8, []), (9, []), (10, []), (11, []), (12, []), (13, []), (14, []), (16, []), (17, [3, 5, 6, 10, 12, 13, 14]), (15, [3, 5, 6]), (18, [3, 5, 6]), (19, [])] [0, 1, 3, 7, 0, 16, 48, 0, 128, 384, 896, 0, 2048, 6144, 16256, 229248, 0, 65536, 262016, 524287] mixed (by kernel_rfl) (by kernel_rfl) (by kernel_rfl) ?_ ?_) <;> try simp only [gop, gyield, gLenX, gNilM, gField, gIndexV, gPart, reduceIte, seval, Int.cast_ofNat_Int, stz, stp, isEff, sgl, sty, stq, Try.underlying89, ty23, ty24, ty36, ty68, ty83, ty88, ty136, ty62, ty65, ty70, ty91, ty99, ty29, ty3, ty4, ty5, ty89, ty9, rs70, Bool.false_and, Bool.not_false, gNil, gload1 m1 sz23, gload1 ho5 sz88, gload1 ho5 sz3, gPick, List.getElem?_cons_zero, List.getElem?_cons_succ, gBuild, lfill, lput, Shape.pl, List.all_cons, List.all_nil, isCell]))
  refine bsn1_g el88 rfl rfl (by decide) (by decide) rfl fun k6 h6 b6 s6 f6 n6 => ?_
  have s45 := s5.trans s6
  have ho6 := s6 _ _ ho5
  refine mk_of ?_; repeat' (first | (with_reducible first | refine gw_seq ?_ | refine gw_block ?_) | ((first | (with_reducible refine mk_to ?_) | (with_reducible first | refine gw_region ?_ | refine gw_if ?_ | refine gw_skip ?_ | refine gw_exit ?_ | refine gw_ret ?_) | ((with_reducible first | refine gif_b (fun hb => ?_) (fun hb => ?_) | refine want_t (fun hb => ?_) (fun hb => ?_) | refine want_f (fun hb => ?_) (fun hb => ?_) | refine dr_t (fun hb => ?_) (fun hb => ?_) | refine dr_f (fun hb => ?_) (fun hb => ?_)) <;> (try simp only [hb]) <;> (try simp only [hpr] at hb)) | with_reducible refine gw_draw (id := 1) [(0, []), (1, []), (2, []), (3, []), (4, []), (5, []), (6, []), (7, [])] [0, 1, 3, 7, 0, 16, 63, 127] mixed (by kernel_rfl) ?_ | with_reducible refine gw_draw (id := 3) [(0, []), (1, []), (2, []), (3, []), (4, []), (5, []), (6, []), (7, []), (8, []), (9, []), (10, []), (11, []), (12, []), (13, []), (14, []), (15, []), (16, []), (17, []), (18, []), (19, []), (20, []), (21, []), (22, []), (23, []), (24, []), (25, []), (26, [])] [0, 1, 3, 7, 7, 23, 55, 119, 247, 511, 1023, 2047, 4095, 8191, 2047, 18431, 51199, 116735, 247807, 2047, 526335, 1574911, 3672063, 8374271, 16777215, 33554431, 67108863] mixed (by kernel_rfl) ?_ | with_reducible refine gw_draw (id := 7) [(0, []), (1, []), (2, []), (3, []), (4, []), (5, []), (6, []), (7, []), (8, []), (9, []), (10, []), (11, [4, 8]), (12, []), (13, [4]), (14, []), (15, []), (16, []), (17, [])] [0, 0, 2, 6, 14, 0, 32, 96, 224, 0, 512, 1536, 4064, 8160, 16382, 32767, 65535, 131071] mixed (by kernel_rfl) ?_ | with_reducible refine gw_draw (id := 8) [(0, []), (1, []), (2, []), (3, []), (4, []), (5, []), (6, []), (7, []), (8, []), (9, []), (10, [])] [0, 1, 3, 7, 0, 16, 48, 127, 255, 511, 1023] mixed (by kernel_rfl) ?_ | with_reducible refine gw_draw2 (id := 12) 15 17 [(0, []), (1, []), (2, []), (3, []), (4, []), (5, []), (6, []), (7, []), (8, []), (9, []), (10, []), (11, []), (12, []), (13, []), (14, []), (16, []), (15, [3, 5, 6]), (17, [3, 5, 6]), (18, [3, 5, 6]), (19, [])] [0, 1, 3, 7, 0, 16, 48, 0, 128, 384, 896, 0, 2048, 6144, 16256, 32640, 0, 130944, 262016, 524287] [(0, []), (1, []), (2, []), (3, []), (4, []), (5, []), (6, []), (7, []), (8, []), (9, []), (10, []), (11, []), (12, []), (13, []), (14, []), (16, []), (17, [3, 5, 6, 10, 12, 13, 14]), (15, [3, 5, 6]), (18, [3, 5, 6]), (19, [])] [0, 1, 3, 7, 0, 16, 48, 0, 128, 384, 896, 0, 2048, 6144, 16256, 229248, 0, 65536, 262016, 524287] mixed (by kernel_rfl) (by kernel_rfl) (by kernel_rfl) ?_ ?_) <;> try simp only [gop, gyield, gLenX, gNilM, gField, gIndexV, gPart, reduceIte, seval, Int.cast_ofNat_Int, stz, stp, isEff, sgl, sty, stq, Try.underlying89, ty23, ty24, ty36, ty68, ty83, ty88, ty136, ty62, ty65, ty70, ty91, ty99, ty29, ty3, ty4, ty5, ty89, ty9, rs70, Bool.false_and, Bool.not_false, gNil, gload1 (s6 _ _ m1) sz23, gload1 ho6 sz88, gload1 ho6 sz3, gPick, List.getElem?_cons_zero, List.getElem?_cons_succ]))
  have x6 := x.hs (s34.trans s45)
  have ep6 := x6.ep
  rw [ee] at ep6
  refine append_eps el88 Try.underlying88 rfl (s0.trans (s34.trans s45)) ep6 b6 rfl rfl (by omega) (by simp only [maxLen]; omega) fun v7 h7 s7 fr7 ep7 => ?_
  have mf7 : MF h6 h7 := MF.eps x6.cu8 x6.first fr7
  have e0 : ∀ {i B}, h6 i = some B → B.es = 0 → h7 i = some B := fun {i B} hi he => fr7 i B hi fun tl q => by rw [q] at he; cases he
  have ho7 := e0 ho6 rfl
  have m17 := e0 (s6 _ _ m1) rfl
  have m27 := e0 (s6 _ _ m2) rfl
  have mp7 := e0 x6.mp rfl
  have bt7 : Bat H0 h7 (.slice ao b.length co) b := by
    obtain ⟨ds, o, r⟩ := bt5
    exact Bat.mf ⟨ds, (o.weak (H0.hs _)).hs s6, fun i p hp => (r i p hp).hs s6⟩ mf7
  obtain ⟨ax, cx, e7⟩ := ep7.form
  subst e7
  refine mk_of ?_; repeat' (first | (with_reducible first | refine gw_seq ?_ | refine gw_block ?_) | ((first | (with_reducible refine mk_to ?_) | (with_reducible first | refine gw_region ?_ | refine gw_if ?_ | refine gw_skip ?_ | refine gw_exit ?_ | refine gw_ret ?_) | ((with_reducible first | refine gif_b (fun hb => ?_) (fun hb => ?_) | refine want_t (fun hb => ?_) (fun hb => ?_) | refine want_f (fun hb => ?_) (fun hb => ?_) | refine dr_t (fun hb => ?_) (fun hb => ?_) | refine dr_f (fun hb => ?_) (fun hb => ?_)) <;> (try simp only [hb]) <;> (try simp only [hpr] at hb)) | with_reducible refine gw_draw (id := 1) [(0, []), (1, []), (2, []), (3, []), (4, []), (5, []), (6, []), (7, [])] [0, 1, 3, 7, 0, 16, 63, 127] mixed (by kernel_rfl) ?_ | with_reducible refine gw_draw (id := 3) [(0, []), (1, []), (2, []), (3, []), (4, []), (5, []), (6, []), (7, []), (8, []), (9, []), (10, []), (11, []), (12, []), (13, []), (14, []), (15, []), (16, []), (17, []), (18, []), (19, []), (20, []), (21, []), (22, []), (23, []), (24, []), (25, []), (26, [])] [0, 1, 3, 7, 7, 23, 55, 119, 247, 511, 1023, 2047, 4095, 8191, 2047, 18431, 51199, 116735, 247807, 2047, 526335, 1574911, 3672063, 8374271, 16777215, 33554431, 67108863] mixed (by kernel_rfl) ?_ | with_reducible refine gw_draw (id := 7) [(0, []), (1, []), (2, []), (3, []), (4, []), (5, []), (6, []), (7, []), (8, []), (9, []), (10, []), (11, [4, 8]), (12, []), (13, [4]), (14, []), (15, []), (16, []), (17, [])] [0, 0, 2, 6, 14, 0, 32, 96, 224, 0, 512, 1536, 4064, 8160, 16382, 32767, 65535, 131071] mixed (by kernel_rfl) ?_ | with_reducible refine gw_draw (id := 8) [(0, []), (1, []), (2, []), (3, []), (4, []), (5, []), (6, []), (7, []), (8, []), (9, []), (10, [])] [0, 1, 3, 7, 0, 16, 48, 127, 255, 511, 1023] mixed (by kernel_rfl) ?_ | with_reducible refine gw_draw2 (id := 12) 15 17 [(0, []), (1, []), (2, []), (3, []), (4, []), (5, []), (6, []), (7, []), (8, []), (9, []), (10, []), (11, []), (12, []), (13, []), (14, []), (16, []), (15, [3, 5, 6]), (17, [3, 5, 6]), (18, [3, 5, 6]), (19, [])] [0, 1, 3, 7, 0, 16, 48, 0, 128, 384, 896, 0, 2048, 6144, 16256, 32640, 0, 130944, 262016, 524287] [(0, []), (1, []), (2, []), (3, []), (4, []), (5, []), (6, []), (7, []), (8, []), (9, []), (10, []), (11, []), (12, []), (13, []), (14, []), (16, []), (17, [3, 5, 6, 10, 12, 13, 14]), (15, [3, 5, 6]), (18, [3, 5, 6]), (19, [])] [0, 1, 3, 7, 0, 16, 48, 0, 128, 384, 896, 0, 2048, 6144, 16256, 229248, 0, 65536, 262016, 524287] mixed (by kernel_rfl) (by kernel_rfl) (by kernel_rfl) ?_ ?_) <;> try simp only [gop, gyield, gLenX, gNilM, gField, gIndexV, gPart, reduceIte, seval, Int.cast_ofNat_Int, stz, stp, isEff, sgl, sty, stq, Try.underlying89, ty23, ty24, ty36, ty68, ty83, ty88, ty136, ty62, ty65, ty70, ty91, ty99, ty29, ty3, ty4, ty5, ty89, ty9, rs70, gNil, gload1 m17 sz23, gload1 ho7 sz3, List.getElem?_cons_zero, List.getElem?_cons_succ]))
  refine st_one ho7 sz88 rfl (by simp) rfl rfl fun h8 m8 f8 => ?_
  simp only [List.set_cons_succ, List.set_cons_zero] at m8
  have k1k : k1 ≠ k := fun q => by subst q; rw [x.obj] at n1; cases n1
  have k2k : k2 ≠ k := fun q => by subst q; have := s1 _ _ x.obj; rw [n2] at this; cases this
  have m18 := (f8 k1 k1k).trans m17
  have w2 : IntKind.i64.wrap ((n : Int) + (b.length : Int)) = ((n + b.length : Nat) : Int) := by rw [wrap64 (by omega) (by omega)]; omega
  refine mk_of ?_; repeat' (first | (with_reducible first | refine gw_seq ?_ | refine gw_block ?_) | ((first | (with_reducible refine mk_to ?_) | (with_reducible first | refine gw_region ?_ | refine gw_if ?_ | refine gw_skip ?_ | refine gw_exit ?_ | refine gw_ret ?_) | ((with_reducible first | refine gif_b (fun hb => ?_) (fun hb => ?_) | refine want_t (fun hb => ?_) (fun hb => ?_) | refine want_f (fun hb => ?_) (fun hb => ?_) | refine dr_t (fun hb => ?_) (fun hb => ?_) | refine dr_f (fun hb => ?_) (fun hb => ?_)) <;> (try simp only [hb]) <;> (try simp only [hpr] at hb)) | with_reducible refine gw_draw (id := 1) [(0, []), (1, []), (2, []), (3, []), (4, []), (5, []), (6, []), (7, [])] [0, 1, 3, 7, 0, 16, 63, 127] mixed (by kernel_rfl) ?_ | with_reducible refine gw_draw (id := 3) [(0, []), (1, []), (2, []), (3, []), (4, []), (5, []), (6, []), (7, []), (8, []), (9, []), (10, []), (11, []), (12, []), (13, []), (14, []), (15, []), (16, []), (17, []), (18, []), (19, []), (20, []), (21, []), (22, []), (23, []), (24, []), (25, []), (26, [])] [0, 1, 3, 7, 7, 23, 55, 119, 247, 511, 1023, 2047, 4095, 8191, 2047, 18431, 51199, 116735, 247807, 2047, 526335, 1574911, 3672063, 8374271, 16777215, 33554431, 67108863] mixed (by kernel_rfl) ?_ | with_reducible refine gw_draw (id := 7) [(0, []), (1, []), (2, []), (3, []), (4, []), (5, []), (6, []), (7, []), (8, []), (9, []), (10, []), (11, [4, 8]), (12, []), (13, [4]), (14, []), (15, []), (16, []), (17, [])] [0, 0, 2, 6, 14, 0, 32, 96, 224, 0, 512, 1536, 4064, 8160, 16382, 32767, 65535, 131071] mixed (by kernel_rfl) ?_ | with_reducible refine gw_draw (id := 8) [(0, []), (1, []), (2, []), (3, []), (4, []), (5, []), (6, []), (7, []), (8, []), (9, []), (10, [])] [0, 1, 3, 7, 0, 16, 48, 127, 255, 511, 1023] mixed (by kernel_rfl) ?_ | with_reducible refine gw_draw2 (id := 12) 15 17 [(0, []), (1, []), (2, []), (3, []), (4, []), (5, []), (6, []), (7, []), (8, []), (9, []), (10, []), (11, []), (12, []), (13, []), (14, []), (16, []), (15, [3, 5, 6]), (17, [3, 5, 6]), (18, [3, 5, 6]), (19, [])] [0, 1, 3, 7, 0, 16, 48, 0, 128, 384, 896, 0, 2048, 6144, 16256, 32640, 0, 130944, 262016, 524287] [(0, []), (1, []), (2, []), (3, []), (4, []), (5, []), (6, []), (7, []), (8, []), (9, []), (10, []), (11, []), (12, []), (13, []), (14, []), (16, []), (17, [3, 5, 6, 10, 12, 13, 14]), (15, [3, 5, 6]), (18, [3, 5, 6]), (19, [])] [0, 1, 3, 7, 0, 16, 48, 0, 128, 384, 896, 0, 2048, 6144, 16256, 229248, 0, 65536, 262016, 524287] mixed (by kernel_rfl) (by kernel_rfl) (by kernel_rfl) ?_ ?_) <;> try simp only [gop, gyield, gLenX, gNilM, gField, gIndexV, gPart, reduceIte, seval, Int.cast_ofNat_Int, stz, stp, isEff, sgl, sty, stq, Try.underlying89, ty23, ty24, ty36, ty68, ty83, ty88, ty136, ty62, ty65, ty70, ty91, ty99, ty29, ty3, ty4, ty5, ty89, ty9, rs70, gNil, gload1 m18 sz23, gload1 m8 sz3, gload1 m8 sz88, w2, List.getElem?_cons_zero, List.getElem?_cons_succ]))
  refine st_one m8 sz3 rfl (by simp) rfl rfl fun h9 m9 f9 => ?_
  simp only [List.set_cons_succ, List.set_cons_zero] at m9
  have m19 := (f9 k1 k1k).trans m18
  refine mk_of ?_; repeat' (first | (with_reducible first | refine gw_seq ?_ | refine gw_block ?_) | ((first | (with_reducible refine mk_to ?_) | (with_reducible first | refine gw_region ?_ | refine gw_if ?_ | refine gw_skip ?_ | refine gw_exit ?_ | refine gw_ret ?_) | ((with_reducible first | refine gif_b (fun hb => ?_) (fun hb => ?_) | refine want_t (fun hb => ?_) (fun hb => ?_) | refine want_f (fun hb => ?_) (fun hb => ?_) | refine dr_t (fun hb => ?_) (fun hb => ?_) | refine dr_f (fun hb => ?_) (fun hb => ?_)) <;> (try simp only [hb]) <;> (try simp only [hpr] at hb)) | with_reducible refine gw_draw (id := 1) [(0, []), (1, []), (2, []), (3, []), (4, []), (5, []), (6, []), (7, [])] [0, 1, 3, 7, 0, 16, 63, 127] mixed (by kernel_rfl) ?_ | with_reducible refine gw_draw (id := 3) [(0, []), (1, []), (2, []), (3, []), (4, []), (5, []), (6, []), (7, []), (8, []), (9, []), (10, []), (11, []), (12, []), (13, []), (14, []), (15, []), (16, []), (17, []), (18, []), (19, []), (20, []), (21, []), (22, []), (23, []), (24, []), (25, []), (26, [])] [0, 1, 3, 7, 7, 23, 55, 119, 247, 511, 1023, 2047, 4095, 8191, 2047, 18431, 51199, 116735, 247807, 2047, 526335, 1574911, 3672063, 8374271, 16777215, 33554431, 67108863] mixed (by kernel_rfl) ?_ | with_reducible refine gw_draw (id := 7) [(0, []), (1, []), (2, []), (3, []), (4, []), (5, []), (6, []), (7, []), (8, []), (9, []), (10, []), (11, [4, 8]), (12, []), (13, [4]), (14, []), (15, []), (16, []), (17, [])] [0, 0, 2, 6, 14, 0, 32, 96, 224, 0, 512, 1536, 4064, 8160, 16382, 32767, 65535, 131071] mixed (by kernel_rfl) ?_ | with_reducible refine gw_draw (id := 8) [(0, []), (1, []), (2, []), (3, []), (4, []), (5, []), (6, []), (7, []), (8, []), (9, []), (10, [])] [0, 1, 3, 7, 0, 16, 48, 127, 255, 511, 1023] mixed (by kernel_rfl) ?_ | with_reducible refine gw_draw2 (id := 12) 15 17 [(0, []), (1, []), (2, []), (3, []), (4, []), (5, []), (6, []), (7, []), (8, []), (9, []), (10, []), (11, []), (12, []), (13, []), (14, []), (16, []), (15, [3, 5, 6]), (17, [3, 5, 6]), (18, [3, 5, 6]), (19, [])] [0, 1, 3, 7, 0, 16, 48, 0, 128, 384, 896, 0, 2048, 6144, 16256, 32640, 0, 130944, 262016, 524287] [(0, []), (1, []), (2, []), (3, []), (4, []), (5, []), (6, []), (7, []), (8, []), (9, []), (10, []), (11, []), (12, []), (13, []), (14, []), (16, []), (17, [3, 5, 6, 10, 12, 13, 14]), (15, [3, 5, 6]), (18, [3, 5, 6]), (19, [])] [0, 1, 3, 7, 0, 16, 48, 0, 128, 384, 896, 0, 2048, 6144, 16256, 229248, 0, 65536, 262016, 524287] mixed (by kernel_rfl) (by kernel_rfl) (by kernel_rfl) ?_ ?_) <;> try simp only [gop, gyield, gLenX, gNilM, gField, gIndexV, gPart, reduceIte, seval, Int.cast_ofNat_Int, stz, stp, isEff, sgl, sty, stq, Try.underlying89, ty23, ty24, ty36, ty68, ty83, ty88, ty136, ty62, ty65, ty70, ty91, ty99, ty29, ty3, ty4, ty5, ty89, ty9, rs70, gNil, gload1 m19 sz23, gload1 m9 sz3, List.getElem?_cons_zero, List.getElem?_cons_succ]))
  have mf89 : MF h7 h9 := (MF.upd ho7 rfl (by simp [notU8]) f8).trans (MF.upd m8 rfl (by simp [notU8]) f9)
  have mf69 : MF h6 h9 := mf7.trans mf89
  have s9 : HS h0 h9 := (s7.upd x.nk f8).upd x.nk f9
  have kj : k ≠ j + 1 := fun e => by have h1 := x.obj; rw [e, x.mp] at h1; cases h1
  have mp9 : h9 (j + 1) = some ⟨MM :: l, 0, true, false⟩ := by rw [f9 _ (Ne.symm kj), f8 _ (Ne.symm kj)]; exact mp7
  have m29 := ((f9 _ k2k).trans (f8 _ k2k)).trans m27
  have k1j : k1 ≠ j + 1 := fun q => by subst q; rw [x.mp] at n1; cases n1
  have k2j : k2 ≠ j + 1 := fun q => by subst q; have := s1 _ _ x.mp; rw [n2] at this; cases this
  have hLl : (M ++ [(ck, b)]).length = M.length + 1 := by simp
  have epl : p.eps ≤ 256 := by
    have hq : p.ht.toNat ≤ 8 := by omega
    unfold Pm.eps
    rw [if_pos x.may]
    have : ∀ m, m ≤ 8 → IntKind.i64.wrap (1 * 2 ^ min m IntKind.i64.bits) ≤ 256 := by decide
    exact this _ hq
  have y9 : IS h0 h9 k j p (.slice (some ax) (M.length + 1) cx) (cs ++ [.int .i64 ck, .slice ao b.length co]) l (M ++ [(ck, b)]) ck (n + b.length) (fun id => sps 0 (M.map (·.2)) id ++ newsp M.length b 0 id) := by
    refine ⟨m9, x.nk, mp9, x.nj, x.ok, x.u8, ?_, fun e y hy => ?_, fun id => ?_, ?_, fun y hy => ?_, by rw [hLl]; omega, ?_, by omega, x.may, x.ks.1, fun k hk => by simp only [newsp, List.append_nil]; exact x.ks.2.1 k hk, fun y hy => ?_, List.pairwise_append.2 ⟨x.ks.2.2.2.1, List.pairwise_singleton _ _, fun a ha b hb => by obtain rfl := List.mem_singleton.1 hb; exact x.ks.2.2.2.2 a ha⟩, fun y hy => ?_⟩
    · rw [hLl]; exact (ep7.hx ho7 (by simp) (fun i B q e => (f8 i q).trans e)).hx m8 (by simp) (fun i B q e => (f9 i q).trans e)
    · rw [List.getElem?_append] at hy
      have hcl : cs.length = M.length * 2 := by obtain ⟨_, _, _, _, _, q, _⟩ := x.ep; exact q
      by_cases he : e < M.length
      · rw [if_pos he] at hy
        obtain ⟨v, h1, h2⟩ := x6.eps e y hy
        refine ⟨v, ?_, h2.mf mf69⟩
        rw [List.drop_append_of_le_length (by omega), List.take_append_of_le_length (by rw [List.length_drop]; omega)]
        exact h1
      · rw [if_neg he] at hy
        have he0 : e - M.length = 0 := by have := (List.getElem?_eq_some_iff.1 hy).1; simp at this; omega
        rw [he0] at hy
        simp at hy
        subst hy
        have : e = M.length := by omega
        subst this
        refine ⟨_, ?_, bt7.mf mf89⟩
        rw [← hcl, List.drop_left]
        rfl
    · simp only [newsp, List.append_nil]
      exact (x6.sp id).mf1 mf69
    · rw [List.all_append, x.cu8]; rfl
    · rcases List.mem_append.1 hy with hy | hy
      · exact x.bl y hy
      · obtain rfl := List.mem_singleton.1 hy
        exact ⟨hsm, hb32⟩
    · rw [x.tt]
      simp [tot]
    · rcases List.mem_append.1 hy with hy | hy
      · exact x.ks.2.2.1 y hy
      · obtain rfl := List.mem_singleton.1 hy
        exact .inr hE
    · rcases List.mem_append.1 hy with hy | hy
      · exact x.ks.2.2.2.2 y hy
      · obtain rfl := List.mem_singleton.1 hy
        exact Int.le_refl _
  refine gw_loop2 [0, 4, 6, 80, 81] (fun (i : Nat) => [(82, .int .i64 (i : Int))]) (fun q i h' => b.length - i = q ∧ i ≤ b.length ∧ HS h0 h' ∧ h' k1 = some ⟨[c0, c1, c2, c3, c4, c5, c6, c7, c8, .slice d b.length g], 0, true, false⟩ ∧ h' k2 = h9 k2 ∧ ∃ l', IS h0 h' k j p (.slice (some ax) (M.length + 1) cx) (cs ++ [.int .i64 ck, .slice ao b.length co]) l' (M ++ [(ck, b)]) ck (n + b.length) (fun id => sps 0 (M.map (·.2)) id ++ newsp M.length b i id)) b.length 0 (by simp [lk]) ⟨rfl, by omega, s9, m19, rfl, l, y9⟩ ?_
  rintro _ i h3 ⟨rfl, hi, s3, m13, m23, l3, y3⟩
  by_cases hib : i < b.length
  case neg =>
    obtain rfl : i = b.length := by omega
    have d3 : decide ((b.length : Int) < (b.length : Int)) = false := decide_eq_false (by omega)
    rw [m29] at m23
    refine mk_of ?_; repeat' (first | (with_reducible first | refine gw_seq ?_ | refine gw_block ?_) | ((first | (with_reducible refine mk_to ?_) | (with_reducible first | refine gw_region ?_ | refine gw_if ?_ | refine gw_skip ?_ | refine gw_exit ?_ | refine gw_ret ?_) | ((with_reducible first | refine gif_b (fun hb => ?_) (fun hb => ?_) | refine want_t (fun hb => ?_) (fun hb => ?_) | refine want_f (fun hb => ?_) (fun hb => ?_) | refine dr_t (fun hb => ?_) (fun hb => ?_) | refine dr_f (fun hb => ?_) (fun hb => ?_)) <;> (try simp only [hb]) <;> (try simp only [hpr] at hb)) | with_reducible refine gw_draw (id := 1) [(0, []), (1, []), (2, []), (3, []), (4, []), (5, []), (6, []), (7, [])] [0, 1, 3, 7, 0, 16, 63, 127] mixed (by kernel_rfl) ?_ | with_reducible refine gw_draw (id := 3) [(0, []), (1, []), (2, []), (3, []), (4, []), (5, []), (6, []), (7, []), (8, []), (9, []), (10, []), (11, []), (12, []), (13, []), (14, []), (15, []), (16, []), (17, []), (18, []), (19, []), (20, []), (21, []), (22, []), (23, []), (24, []), (25, []), (26, [])] [0, 1, 3, 7, 7, 23, 55, 119, 247, 511, 1023, 2047, 4095, 8191, 2047, 18431, 51199, 116735, 247807, 2047, 526335, 1574911, 3672063, 8374271, 16777215, 33554431, 67108863] mixed (by kernel_rfl) ?_ | with_reducible refine gw_draw (id := 7) [(0, []), (1, []), (2, []), (3, []), (4, []), (5, []), (6, []), (7, []), (8, []), (9, []), (10, []), (11, [4, 8]), (12, []), (13, [4]), (14, []), (15, []), (16, []), (17, [])] [0, 0, 2, 6, 14, 0, 32, 96, 224, 0, 512, 1536, 4064, 8160, 16382, 32767, 65535, 131071] mixed (by kernel_rfl) ?_ | with_reducible refine gw_draw (id := 8) [(0, []), (1, []), (2, []), (3, []), (4, []), (5, []), (6, []), (7, []), (8, []), (9, []), (10, [])] [0, 1, 3, 7, 0, 16, 48, 127, 255, 511, 1023] mixed (by kernel_rfl) ?_ | with_reducible refine gw_draw2 (id := 12) 15 17 [(0, []), (1, []), (2, []), (3, []), (4, []), (5, []), (6, []), (7, []), (8, []), (9, []), (10, []), (11, []), (12, []), (13, []), (14, []), (16, []), (15, [3, 5, 6]), (17, [3, 5, 6]), (18, [3, 5, 6]), (19, [])] [0, 1, 3, 7, 0, 16, 48, 0, 128, 384, 896, 0, 2048, 6144, 16256, 32640, 0, 130944, 262016, 524287] [(0, []), (1, []), (2, []), (3, []), (4, []), (5, []), (6, []), (7, []), (8, []), (9, []), (10, []), (11, []), (12, []), (13, []), (14, []), (16, []), (17, [3, 5, 6, 10, 12, 13, 14]), (15, [3, 5, 6]), (18, [3, 5, 6]), (19, [])] [0, 1, 3, 7, 0, 16, 48, 0, 128, 384, 896, 0, 2048, 6144, 16256, 229248, 0, 65536, 262016, 524287] mixed (by kernel_rfl) (by kernel_rfl) (by kernel_rfl) ?_ ?_) <;> try simp only [gop, gyield, gLenX, gNilM, gField, gIndexV, gPart, reduceIte, seval, Int.cast_ofNat_Int, stz, stp, isEff, sgl, sty, stq, Try.underlying89, ty23, ty24, ty36, ty68, ty83, ty88, ty136, ty62, ty65, ty70, ty91, ty99, ty29, ty3, ty4, ty5, ty89, ty9, rs70, d3, gBuild, lfill, lput, Shape.pl, List.all_cons, List.all_nil, isCell]))
    refine st_all m23 sz70 rfl (by decide) rfl rfl rfl fun h4 m4 f4 => ?_
    refine mk_of ?_; repeat' (first | (with_reducible first | refine gw_seq ?_ | refine gw_block ?_) | ((first | (with_reducible refine mk_to ?_) | (with_reducible first | refine gw_region ?_ | refine gw_if ?_ | refine gw_skip ?_ | refine gw_exit ?_ | refine gw_ret ?_) | ((with_reducible first | refine gif_b (fun hb => ?_) (fun hb => ?_) | refine want_t (fun hb => ?_) (fun hb => ?_) | refine want_f (fun hb => ?_) (fun hb => ?_) | refine dr_t (fun hb => ?_) (fun hb => ?_) | refine dr_f (fun hb => ?_) (fun hb => ?_)) <;> (try simp only [hb]) <;> (try simp only [hpr] at hb)) | with_reducible refine gw_draw (id := 1) [(0, []), (1, []), (2, []), (3, []), (4, []), (5, []), (6, []), (7, [])] [0, 1, 3, 7, 0, 16, 63, 127] mixed (by kernel_rfl) ?_ | with_reducible refine gw_draw (id := 3) [(0, []), (1, []), (2, []), (3, []), (4, []), (5, []), (6, []), (7, []), (8, []), (9, []), (10, []), (11, []), (12, []), (13, []), (14, []), (15, []), (16, []), (17, []), (18, []), (19, []), (20, []), (21, []), (22, []), (23, []), (24, []), (25, []), (26, [])] [0, 1, 3, 7, 7, 23, 55, 119, 247, 511, 1023, 2047, 4095, 8191, 2047, 18431, 51199, 116735, 247807, 2047, 526335, 1574911, 3672063, 8374271, 16777215, 33554431, 67108863] mixed (by kernel_rfl) ?_ | with_reducible refine gw_draw (id := 7) [(0, []), (1, []), (2, []), (3, []), (4, []), (5, []), (6, []), (7, []), (8, []), (9, []), (10, []), (11, [4, 8]), (12, []), (13, [4]), (14, []), (15, []), (16, []), (17, [])] [0, 0, 2, 6, 14, 0, 32, 96, 224, 0, 512, 1536, 4064, 8160, 16382, 32767, 65535, 131071] mixed (by kernel_rfl) ?_ | with_reducible refine gw_draw (id := 8) [(0, []), (1, []), (2, []), (3, []), (4, []), (5, []), (6, []), (7, []), (8, []), (9, []), (10, [])] [0, 1, 3, 7, 0, 16, 48, 127, 255, 511, 1023] mixed (by kernel_rfl) ?_ | with_reducible refine gw_draw2 (id := 12) 15 17 [(0, []), (1, []), (2, []), (3, []), (4, []), (5, []), (6, []), (7, []), (8, []), (9, []), (10, []), (11, []), (12, []), (13, []), (14, []), (16, []), (15, [3, 5, 6]), (17, [3, 5, 6]), (18, [3, 5, 6]), (19, [])] [0, 1, 3, 7, 0, 16, 48, 0, 128, 384, 896, 0, 2048, 6144, 16256, 32640, 0, 130944, 262016, 524287] [(0, []), (1, []), (2, []), (3, []), (4, []), (5, []), (6, []), (7, []), (8, []), (9, []), (10, []), (11, []), (12, []), (13, []), (14, []), (16, []), (17, [3, 5, 6, 10, 12, 13, 14]), (15, [3, 5, 6]), (18, [3, 5, 6]), (19, [])] [0, 1, 3, 7, 0, 16, 48, 0, 128, 384, 896, 0, 2048, 6144, 16256, 229248, 0, 65536, 262016, 524287] mixed (by kernel_rfl) (by kernel_rfl) (by kernel_rfl) ?_ ?_) <;> try simp only [gop, gyield, gLenX, gNilM, gField, gIndexV, gPart, reduceIte, seval, Int.cast_ofNat_Int, stz, stp, isEff, sgl, sty, stq, Try.underlying89, ty23, ty24, ty36, ty68, ty83, ty88, ty136, ty62, ty65, ty70, ty91, ty99, ty29, ty3, ty4, ty5, ty89, ty9, rs70, gloadA m4 sz70 rfl]))
    exact ⟨rfl, s3.upd ((s0.trans s1).none_of n2) f4, .inr ⟨_, _, _, (y3.oth m23 rfl rfl f4 k2k k2j).upS fun id => sps1 M ck b id⟩⟩
  have d3 : decide ((i : Int) < (b.length : Int)) = true := decide_eq_true (by omega)
  have wi : IntKind.i64.wrap ((i : Int) + 1) = ((i + 1 : Nat) : Int) := by rw [wrap64 (by omega) (by omega)]; omega
  obtain ⟨y, hy⟩ : ∃ y, b[i]? = some y := ⟨_, List.getElem?_eq_getElem hib⟩
  obtain ⟨ad, cs2, g1, g2, a', n', c', b', m', d', rfl, q1, q2⟩ := (rl.bs s3).at (P := Try.prog) Try.underlying23 sz99 hy
  have l1 : gLoad Try.prog 99 h3 (.pointer (some ad)) = some (.agg #[.slice a' n' c', .slice b' m' d']) := by simp only [gLoad, sz99, g2]; rfl
  refine mk_of ?_; repeat' (first | (with_reducible first | refine gw_seq ?_ | refine gw_block ?_) | ((first | (with_reducible refine mk_to ?_) | (with_reducible first | refine gw_region ?_ | refine gw_if ?_ | refine gw_skip ?_ | refine gw_exit ?_ | refine gw_ret ?_) | ((with_reducible first | refine gif_b (fun hb => ?_) (fun hb => ?_) | refine want_t (fun hb => ?_) (fun hb => ?_) | refine want_f (fun hb => ?_) (fun hb => ?_) | refine dr_t (fun hb => ?_) (fun hb => ?_) | refine dr_f (fun hb => ?_) (fun hb => ?_)) <;> (try simp only [hb]) <;> (try simp only [hpr] at hb)) | with_reducible refine gw_draw (id := 1) [(0, []), (1, []), (2, []), (3, []), (4, []), (5, []), (6, []), (7, [])] [0, 1, 3, 7, 0, 16, 63, 127] mixed (by kernel_rfl) ?_ | with_reducible refine gw_draw (id := 3) [(0, []), (1, []), (2, []), (3, []), (4, []), (5, []), (6, []), (7, []), (8, []), (9, []), (10, []), (11, []), (12, []), (13, []), (14, []), (15, []), (16, []), (17, []), (18, []), (19, []), (20, []), (21, []), (22, []), (23, []), (24, []), (25, []), (26, [])] [0, 1, 3, 7, 7, 23, 55, 119, 247, 511, 1023, 2047, 4095, 8191, 2047, 18431, 51199, 116735, 247807, 2047, 526335, 1574911, 3672063, 8374271, 16777215, 33554431, 67108863] mixed (by kernel_rfl) ?_ | with_reducible refine gw_draw (id := 7) [(0, []), (1, []), (2, []), (3, []), (4, []), (5, []), (6, []), (7, []), (8, []), (9, []), (10, []), (11, [4, 8]), (12, []), (13, [4]), (14, []), (15, []), (16, []), (17, [])] [0, 0, 2, 6, 14, 0, 32, 96, 224, 0, 512, 1536, 4064, 8160, 16382, 32767, 65535, 131071] mixed (by kernel_rfl) ?_ | with_reducible refine gw_draw (id := 8) [(0, []), (1, []), (2, []), (3, []), (4, []), (5, []), (6, []), (7, []), (8, []), (9, []), (10, [])] [0, 1, 3, 7, 0, 16, 48, 127, 255, 511, 1023] mixed (by kernel_rfl) ?_ | with_reducible refine gw_draw2 (id := 12) 15 17 [(0, []), (1, []), (2, []), (3, []), (4, []), (5, []), (6, []), (7, []), (8, []), (9, []), (10, []), (11, []), (12, []), (13, []), (14, []), (16, []), (15, [3, 5, 6]), (17, [3, 5, 6]), (18, [3, 5, 6]), (19, [])] [0, 1, 3, 7, 0, 16, 48, 0, 128, 384, 896, 0, 2048, 6144, 16256, 32640, 0, 130944, 262016, 524287] [(0, []), (1, []), (2, []), (3, []), (4, []), (5, []), (6, []), (7, []), (8, []), (9, []), (10, []), (11, []), (12, []), (13, []), (14, []), (16, []), (17, [3, 5, 6, 10, 12, 13, 14]), (15, [3, 5, 6]), (18, [3, 5, 6]), (19, [])] [0, 1, 3, 7, 0, 16, 48, 0, 128, 384, 896, 0, 2048, 6144, 16256, 229248, 0, 65536, 262016, 524287] mixed (by kernel_rfl) (by kernel_rfl) (by kernel_rfl) ?_ ?_) <;> try simp only [gop, gyield, gLenX, gNilM, gField, gIndexV, gPart, reduceIte, seval, Int.cast_ofNat_Int, stz, stp, isEff, sgl, sty, stq, Try.underlying89, ty23, ty24, ty36, ty68, ty83, ty88, ty136, ty62, ty65, ty70, ty91, ty99, ty29, ty3, ty4, ty5, ty89, ty9, rs70, d3, g1, l1]))
  refine new_g fun k10 h10 m10 s10 f10 n10 => ?_
  refine mk_of ?_; repeat' (first | (with_reducible first | refine gw_seq ?_ | refine gw_block ?_) | ((first | (with_reducible refine mk_to ?_) | (with_reducible first | refine gw_region ?_ | refine gw_if ?_ | refine gw_skip ?_ | refine gw_exit ?_ | refine gw_ret ?_) | ((with_reducible first | refine gif_b (fun hb => ?_) (fun hb => ?_) | refine want_t (fun hb => ?_) (fun hb => ?_) | refine want_f (fun hb => ?_) (fun hb => ?_) | refine dr_t (fun hb => ?_) (fun hb => ?_) | refine dr_f (fun hb => ?_) (fun hb => ?_)) <;> (try simp only [hb]) <;> (try simp only [hpr] at hb)) | with_reducible refine gw_draw (id := 1) [(0, []), (1, []), (2, []), (3, []), (4, []), (5, []), (6, []), (7, [])] [0, 1, 3, 7, 0, 16, 63, 127] mixed (by kernel_rfl) ?_ | with_reducible refine gw_draw (id := 3) [(0, []), (1, []), (2, []), (3, []), (4, []), (5, []), (6, []), (7, []), (8, []), (9, []), (10, []), (11, []), (12, []), (13, []), (14, []), (15, []), (16, []), (17, []), (18, []), (19, []), (20, []), (21, []), (22, []), (23, []), (24, []), (25, []), (26, [])] [0, 1, 3, 7, 7, 23, 55, 119, 247, 511, 1023, 2047, 4095, 8191, 2047, 18431, 51199, 116735, 247807, 2047, 526335, 1574911, 3672063, 8374271, 16777215, 33554431, 67108863] mixed (by kernel_rfl) ?_ | with_reducible refine gw_draw (id := 7) [(0, []), (1, []), (2, []), (3, []), (4, []), (5, []), (6, []), (7, []), (8, []), (9, []), (10, []), (11, [4, 8]), (12, []), (13, [4]), (14, []), (15, []), (16, []), (17, [])] [0, 0, 2, 6, 14, 0, 32, 96, 224, 0, 512, 1536, 4064, 8160, 16382, 32767, 65535, 131071] mixed (by kernel_rfl) ?_ | with_reducible refine gw_draw (id := 8) [(0, []), (1, []), (2, []), (3, []), (4, []), (5, []), (6, []), (7, []), (8, []), (9, []), (10, [])] [0, 1, 3, 7, 0, 16, 48, 127, 255, 511, 1023] mixed (by kernel_rfl) ?_ | with_reducible refine gw_draw2 (id := 12) 15 17 [(0, []), (1, []), (2, []), (3, []), (4, []), (5, []), (6, []), (7, []), (8, []), (9, []), (10, []), (11, []), (12, []), (13, []), (14, []), (16, []), (15, [3, 5, 6]), (17, [3, 5, 6]), (18, [3, 5, 6]), (19, [])] [0, 1, 3, 7, 0, 16, 48, 0, 128, 384, 896, 0, 2048, 6144, 16256, 32640, 0, 130944, 262016, 524287] [(0, []), (1, []), (2, []), (3, []), (4, []), (5, []), (6, []), (7, []), (8, []), (9, []), (10, []), (11, []), (12, []), (13, []), (14, []), (16, []), (17, [3, 5, 6, 10, 12, 13, 14]), (15, [3, 5, 6]), (18, [3, 5, 6]), (19, [])] [0, 1, 3, 7, 0, 16, 48, 0, 128, 384, 896, 0, 2048, 6144, 16256, 229248, 0, 65536, 262016, 524287] mixed (by kernel_rfl) (by kernel_rfl) (by kernel_rfl) ?_ ?_) <;> try simp only [gop, gyield, gLenX, gNilM, gField, gIndexV, gPart, reduceIte, seval, Int.cast_ofNat_Int, stz, stp, isEff, sgl, sty, stq, Try.underlying89, ty23, ty24, ty36, ty68, ty83, ty88, ty136, ty62, ty65, ty70, ty91, ty99, ty29, ty3, ty4, ty5, ty89, ty9, rs70]))
  refine st_all m10 sz99 rfl (by decide) rfl rfl rfl fun h11 m11 f11 => ?_
  have s11 : HS h3 h11 := (HS.refl h3).upd n10 (fun j hj => (f11 j hj).trans (f10 j hj))
  have y11 := y3.hs s11
  have cv := (q1.hs s11).conv Try.underlying24 Try.underlying5 Try.underlying9
  have lk11 := y11.look y.1
  have hsl := sps_len y.1 (M.map (·.2)) 0
  rw [← x.tt] at hsl
  have hnl := newsp_len M.length b y.1 i
  have hsn : (sps 0 (M.map (·.2)) y.1 ++ newsp M.length b i y.1).length ≤ 10000 := by rw [List.length_append]; omega
  have bi : bat1 b i = y := by simp [bat1, hy]
  have hS1 : epc (sps 0 (M.map (·.2)) y.1 ++ newsp M.length b (i + 1) y.1) = epc (sps 0 (M.map (·.2)) y.1 ++ newsp M.length b i y.1) ++ [.int .i64 (M.length : Int)] ∧ (sps 0 (M.map (·.2)) y.1 ++ newsp M.length b (i + 1) y.1).length = (sps 0 (M.map (·.2)) y.1 ++ newsp M.length b i y.1).length + 1 := by
    simp only [newsp, bi, if_true, ← List.append_assoc, epc_app, List.length_append]
    exact ⟨rfl, rfl⟩
  have hS2 : ∀ id, id ≠ y.1 → sps 0 (M.map (·.2)) id ++ newsp M.length b (i + 1) id = sps 0 (M.map (·.2)) id ++ newsp M.length b i id := fun id hid => by
    simp only [newsp, bi, if_neg hid, List.append_nil]
  have fin3 : ∀ {h' h'' : GH} {v : Value} {l4 : List Value}, HS h11 h' → h'' (j + 1) = some ⟨MM :: mset (bstr y.1) v l3, 0, true, false⟩ → (∀ i, i ≠ j + 1 → h'' i = h' i) → notU8 v = true → OWNC 1 H0 h' v ((sps 0 (M.map (·.2)) y.1 ++ newsp M.length b i y.1).length + 1) (epc (sps 0 (M.map (·.2)) y.1 ++ newsp M.length b i y.1) ++ [.int .i64 (M.length : Int)]) →
      HS h0 h'' ∧ h'' k1 = some ⟨[c0, c1, c2, c3, c4, c5, c6, c7, c8, .slice d b.length g], 0, true, false⟩ ∧ h'' k2 = h9 k2 ∧ ∃ l', IS h0 h'' k j p (.slice (some ax) (M.length + 1) cx) (cs ++ [.int .i64 ck, .slice ao b.length co]) l' (M ++ [(ck, b)]) ck (n + b.length) (fun id => sps 0 (M.map (·.2)) id ++ newsp M.length b (i + 1) id) := by
    intro h' h'' v l4 s m f hv o
    have t := s11.trans s
    refine ⟨(s3.trans t).upd x.nj f, (f _ k1j).trans (t _ _ m13), ?_, _, (y11.hs s).put y.1 m f hv (by rw [hS1.1, hS1.2]; exact o) hS2 (fun q => by have := hS1.2; rw [q] at this; simp at this)⟩
    rw [f _ k2j, m29]
    rw [m29] at m23
    exact t _ _ m23
  have ho11 := y11.obj
  refine mk_of ?_; repeat' (first | (with_reducible first | refine gw_seq ?_ | refine gw_block ?_) | ((first | (with_reducible refine mk_to ?_) | (with_reducible first | refine gw_region ?_ | refine gw_if ?_ | refine gw_skip ?_ | refine gw_exit ?_ | refine gw_ret ?_) | ((with_reducible first | refine gif_b (fun hb => ?_) (fun hb => ?_) | refine want_t (fun hb => ?_) (fun hb => ?_) | refine want_f (fun hb => ?_) (fun hb => ?_) | refine dr_t (fun hb => ?_) (fun hb => ?_) | refine dr_f (fun hb => ?_) (fun hb => ?_)) <;> (try simp only [hb]) <;> (try simp only [hpr] at hb)) | with_reducible refine gw_draw (id := 1) [(0, []), (1, []), (2, []), (3, []), (4, []), (5, []), (6, []), (7, [])] [0, 1, 3, 7, 0, 16, 63, 127] mixed (by kernel_rfl) ?_ | with_reducible refine gw_draw (id := 3) [(0, []), (1, []), (2, []), (3, []), (4, []), (5, []), (6, []), (7, []), (8, []), (9, []), (10, []), (11, []), (12, []), (13, []), (14, []), (15, []), (16, []), (17, []), (18, []), (19, []), (20, []), (21, []), (22, []), (23, []), (24, []), (25, []), (26, [])] [0, 1, 3, 7, 7, 23, 55, 119, 247, 511, 1023, 2047, 4095, 8191, 2047, 18431, 51199, 116735, 247807, 2047, 526335, 1574911, 3672063, 8374271, 16777215, 33554431, 67108863] mixed (by kernel_rfl) ?_ | with_reducible refine gw_draw (id := 7) [(0, []), (1, []), (2, []), (3, []), (4, []), (5, []), (6, []), (7, []), (8, []), (9, []), (10, []), (11, [4, 8]), (12, []), (13, [4]), (14, []), (15, []), (16, []), (17, [])] [0, 0, 2, 6, 14, 0, 32, 96, 224, 0, 512, 1536, 4064, 8160, 16382, 32767, 65535, 131071] mixed (by kernel_rfl) ?_ | with_reducible refine gw_draw (id := 8) [(0, []), (1, []), (2, []), (3, []), (4, []), (5, []), (6, []), (7, []), (8, []), (9, []), (10, [])] [0, 1, 3, 7, 0, 16, 48, 127, 255, 511, 1023] mixed (by kernel_rfl) ?_ | with_reducible refine gw_draw2 (id := 12) 15 17 [(0, []), (1, []), (2, []), (3, []), (4, []), (5, []), (6, []), (7, []), (8, []), (9, []), (10, []), (11, []), (12, []), (13, []), (14, []), (16, []), (15, [3, 5, 6]), (17, [3, 5, 6]), (18, [3, 5, 6]), (19, [])] [0, 1, 3, 7, 0, 16, 48, 0, 128, 384, 896, 0, 2048, 6144, 16256, 32640, 0, 130944, 262016, 524287] [(0, []), (1, []), (2, []), (3, []), (4, []), (5, []), (6, []), (7, []), (8, []), (9, []), (10, []), (11, []), (12, []), (13, []), (14, []), (16, []), (17, [3, 5, 6, 10, 12, 13, 14]), (15, [3, 5, 6]), (18, [3, 5, 6]), (19, [])] [0, 1, 3, 7, 0, 16, 48, 0, 128, 384, 896, 0, 2048, 6144, 16256, 229248, 0, 65536, 262016, 524287] mixed (by kernel_rfl) (by kernel_rfl) (by kernel_rfl) ?_ ?_) <;> try simp only [gop, gyield, gLenX, gNilM, gField, gIndexV, gPart, reduceIte, seval, Int.cast_ofNat_Int, stz, stp, isEff, sgl, sty, stq, Try.underlying89, ty23, ty24, ty36, ty68, ty83, ty88, ty136, ty62, ty65, ty70, ty91, ty99, ty29, ty3, ty4, ty5, ty89, ty9, rs70, Bool.false_and, Bool.not_false, gNil, gload1 m11 sz24, cv, gload1 ho11 sz89, lk11, gBuild, lfill, lput, Shape.pl, List.all_cons, List.all_nil, isCell, List.getElem?_cons_zero, List.getElem?_cons_succ]))
  · refine (c_IClone N (y11.sp y.1) (by omega) (epc_cell _)).mono ?_
    rintro v12 h12 ⟨o12, s12'⟩
    have lk12 := (y11.hs s12').look y.1
    have cv12 := (q1.hs (s11.trans s12')).conv Try.underlying24 Try.underlying5 Try.underlying9
    refine mk_of ?_; repeat' (first | (with_reducible first | refine gw_seq ?_ | refine gw_block ?_) | ((first | (with_reducible refine mk_to ?_) | (with_reducible first | refine gw_region ?_ | refine gw_if ?_ | refine gw_skip ?_ | refine gw_exit ?_ | refine gw_ret ?_) | ((with_reducible first | refine gif_b (fun hb => ?_) (fun hb => ?_) | refine want_t (fun hb => ?_) (fun hb => ?_) | refine want_f (fun hb => ?_) (fun hb => ?_) | refine dr_t (fun hb => ?_) (fun hb => ?_) | refine dr_f (fun hb => ?_) (fun hb => ?_)) <;> (try simp only [hb]) <;> (try simp only [hpr] at hb)) | with_reducible refine gw_draw (id := 1) [(0, []), (1, []), (2, []), (3, []), (4, []), (5, []), (6, []), (7, [])] [0, 1, 3, 7, 0, 16, 63, 127] mixed (by kernel_rfl) ?_ | with_reducible refine gw_draw (id := 3) [(0, []), (1, []), (2, []), (3, []), (4, []), (5, []), (6, []), (7, []), (8, []), (9, []), (10, []), (11, []), (12, []), (13, []), (14, []), (15, []), (16, []), (17, []), (18, []), (19, []), (20, []), (21, []), (22, []), (23, []), (24, []), (25, []), (26, [])] [0, 1, 3, 7, 7, 23, 55, 119, 247, 511, 1023, 2047, 4095, 8191, 2047, 18431, 51199, 116735, 247807, 2047, 526335, 1574911, 3672063, 8374271, 16777215, 33554431, 67108863] mixed (by kernel_rfl) ?_ | with_reducible refine gw_draw (id := 7) [(0, []), (1, []), (2, []), (3, []), (4, []), (5, []), (6, []), (7, []), (8, []), (9, []), (10, []), (11, [4, 8]), (12, []), (13, [4]), (14, []), (15, []), (16, []), (17, [])] [0, 0, 2, 6, 14, 0, 32, 96, 224, 0, 512, 1536, 4064, 8160, 16382, 32767, 65535, 131071] mixed (by kernel_rfl) ?_ | with_reducible refine gw_draw (id := 8) [(0, []), (1, []), (2, []), (3, []), (4, []), (5, []), (6, []), (7, []), (8, []), (9, []), (10, [])] [0, 1, 3, 7, 0, 16, 48, 127, 255, 511, 1023] mixed (by kernel_rfl) ?_ | with_reducible refine gw_draw2 (id := 12) 15 17 [(0, []), (1, []), (2, []), (3, []), (4, []), (5, []), (6, []), (7, []), (8, []), (9, []), (10, []), (11, []), (12, []), (13, []), (14, []), (16, []), (15, [3, 5, 6]), (17, [3, 5, 6]), (18, [3, 5, 6]), (19, [])] [0, 1, 3, 7, 0, 16, 48, 0, 128, 384, 896, 0, 2048, 6144, 16256, 32640, 0, 130944, 262016, 524287] [(0, []), (1, []), (2, []), (3, []), (4, []), (5, []), (6, []), (7, []), (8, []), (9, []), (10, []), (11, []), (12, []), (13, []), (14, []), (16, []), (17, [3, 5, 6, 10, 12, 13, 14]), (15, [3, 5, 6]), (18, [3, 5, 6]), (19, [])] [0, 1, 3, 7, 0, 16, 48, 0, 128, 384, 896, 0, 2048, 6144, 16256, 229248, 0, 65536, 262016, 524287] mixed (by kernel_rfl) (by kernel_rfl) (by kernel_rfl) ?_ ?_) <;> try simp only [gop, gyield, gLenX, gNilM, gField, gIndexV, gPart, reduceIte, seval, Int.cast_ofNat_Int, stz, stp, isEff, sgl, sty, stq, Try.underlying89, ty23, ty24, ty36, ty68, ty83, ty88, ty136, ty62, ty65, ty70, ty91, ty99, ty29, ty3, ty4, ty5, ty89, ty9, rs70, Bool.false_and, Bool.not_false, gNil, gload1 (s12' _ _ m11) sz24, cv12, gload1 (s12' _ _ ho11) sz89, lk12, List.getElem?_cons_zero, List.getElem?_cons_succ]))
    refine bsn1_g el83 rfl rfl (by decide) (by decide) rfl fun k13 h13 b13 s13 f13 n13 => ?_
    have s1213 := s12'.trans s13
    have lk13 := (y11.hs s1213).look y.1
    have cv13 := (q1.hs (s11.trans s1213)).conv Try.underlying24 Try.underlying5 Try.underlying9
    refine mk_of ?_; repeat' (first | (with_reducible first | refine gw_seq ?_ | refine gw_block ?_) | ((first | (with_reducible refine mk_to ?_) | (with_reducible first | refine gw_region ?_ | refine gw_if ?_ | refine gw_skip ?_ | refine gw_exit ?_ | refine gw_ret ?_) | ((with_reducible first | refine gif_b (fun hb => ?_) (fun hb => ?_) | refine want_t (fun hb => ?_) (fun hb => ?_) | refine want_f (fun hb => ?_) (fun hb => ?_) | refine dr_t (fun hb => ?_) (fun hb => ?_) | refine dr_f (fun hb => ?_) (fun hb => ?_)) <;> (try simp only [hb]) <;> (try simp only [hpr] at hb)) | with_reducible refine gw_draw (id := 1) [(0, []), (1, []), (2, []), (3, []), (4, []), (5, []), (6, []), (7, [])] [0, 1, 3, 7, 0, 16, 63, 127] mixed (by kernel_rfl) ?_ | with_reducible refine gw_draw (id := 3) [(0, []), (1, []), (2, []), (3, []), (4, []), (5, []), (6, []), (7, []), (8, []), (9, []), (10, []), (11, []), (12, []), (13, []), (14, []), (15, []), (16, []), (17, []), (18, []), (19, []), (20, []), (21, []), (22, []), (23, []), (24, []), (25, []), (26, [])] [0, 1, 3, 7, 7, 23, 55, 119, 247, 511, 1023, 2047, 4095, 8191, 2047, 18431, 51199, 116735, 247807, 2047, 526335, 1574911, 3672063, 8374271, 16777215, 33554431, 67108863] mixed (by kernel_rfl) ?_ | with_reducible refine gw_draw (id := 7) [(0, []), (1, []), (2, []), (3, []), (4, []), (5, []), (6, []), (7, []), (8, []), (9, []), (10, []), (11, [4, 8]), (12, []), (13, [4]), (14, []), (15, []), (16, []), (17, [])] [0, 0, 2, 6, 14, 0, 32, 96, 224, 0, 512, 1536, 4064, 8160, 16382, 32767, 65535, 131071] mixed (by kernel_rfl) ?_ | with_reducible refine gw_draw (id := 8) [(0, []), (1, []), (2, []), (3, []), (4, []), (5, []), (6, []), (7, []), (8, []), (9, []), (10, [])] [0, 1, 3, 7, 0, 16, 48, 127, 255, 511, 1023] mixed (by kernel_rfl) ?_ | with_reducible refine gw_draw2 (id := 12) 15 17 [(0, []), (1, []), (2, []), (3, []), (4, []), (5, []), (6, []), (7, []), (8, []), (9, []), (10, []), (11, []), (12, []), (13, []), (14, []), (16, []), (15, [3, 5, 6]), (17, [3, 5, 6]), (18, [3, 5, 6]), (19, [])] [0, 1, 3, 7, 0, 16, 48, 0, 128, 384, 896, 0, 2048, 6144, 16256, 32640, 0, 130944, 262016, 524287] [(0, []), (1, []), (2, []), (3, []), (4, []), (5, []), (6, []), (7, []), (8, []), (9, []), (10, []), (11, []), (12, []), (13, []), (14, []), (16, []), (17, [3, 5, 6, 10, 12, 13, 14]), (15, [3, 5, 6]), (18, [3, 5, 6]), (19, [])] [0, 1, 3, 7, 0, 16, 48, 0, 128, 384, 896, 0, 2048, 6144, 16256, 229248, 0, 65536, 262016, 524287] mixed (by kernel_rfl) (by kernel_rfl) (by kernel_rfl) ?_ ?_) <;> try simp only [gop, gyield, gLenX, gNilM, gField, gIndexV, gPart, reduceIte, seval, Int.cast_ofNat_Int, stz, stp, isEff, sgl, sty, stq, Try.underlying89, ty23, ty24, ty36, ty68, ty83, ty88, ty136, ty62, ty65, ty70, ty91, ty99, ty29, ty3, ty4, ty5, ty89, ty9, rs70, Bool.false_and, Bool.not_false, gNil, gload1 (s1213 _ _ m11) sz24, cv13, gload1 (s1213 _ _ ho11) sz89, lk13, List.getElem?_cons_zero, List.getElem?_cons_succ]))
    refine append_ownc el83 Try.underlying83 rfl s1213 (o12.hs s13) b13 rfl rfl (by omega) (by simp only [maxLen]; omega) fun v14 h14 s14 fr14 o14 => ?_
    obtain ⟨a14, c14, rfl⟩ := o14.form
    have lk14 := (y11.hs s14).look y.1
    have cv14 := (q1.hs (s11.trans s14)).conv Try.underlying24 Try.underlying5 Try.underlying9
    refine mk_of ?_; repeat' (first | (with_reducible first | refine gw_seq ?_ | refine gw_block ?_) | ((first | (with_reducible refine mk_to ?_) | (with_reducible first | refine gw_region ?_ | refine gw_if ?_ | refine gw_skip ?_ | refine gw_exit ?_ | refine gw_ret ?_) | ((with_reducible first | refine gif_b (fun hb => ?_) (fun hb => ?_) | refine want_t (fun hb => ?_) (fun hb => ?_) | refine want_f (fun hb => ?_) (fun hb => ?_) | refine dr_t (fun hb => ?_) (fun hb => ?_) | refine dr_f (fun hb => ?_) (fun hb => ?_)) <;> (try simp only [hb]) <;> (try simp only [hpr] at hb)) | with_reducible refine gw_draw (id := 1) [(0, []), (1, []), (2, []), (3, []), (4, []), (5, []), (6, []), (7, [])] [0, 1, 3, 7, 0, 16, 63, 127] mixed (by kernel_rfl) ?_ | with_reducible refine gw_draw (id := 3) [(0, []), (1, []), (2, []), (3, []), (4, []), (5, []), (6, []), (7, []), (8, []), (9, []), (10, []), (11, []), (12, []), (13, []), (14, []), (15, []), (16, []), (17, []), (18, []), (19, []), (20, []), (21, []), (22, []), (23, []), (24, []), (25, []), (26, [])] [0, 1, 3, 7, 7, 23, 55, 119, 247, 511, 1023, 2047, 4095, 8191, 2047, 18431, 51199, 116735, 247807, 2047, 526335, 1574911, 3672063, 8374271, 16777215, 33554431, 67108863] mixed (by kernel_rfl) ?_ | with_reducible refine gw_draw (id := 7) [(0, []), (1, []), (2, []), (3, []), (4, []), (5, []), (6, []), (7, []), (8, []), (9, []), (10, []), (11, [4, 8]), (12, []), (13, [4]), (14, []), (15, []), (16, []), (17, [])] [0, 0, 2, 6, 14, 0, 32, 96, 224, 0, 512, 1536, 4064, 8160, 16382, 32767, 65535, 131071] mixed (by kernel_rfl) ?_ | with_reducible refine gw_draw (id := 8) [(0, []), (1, []), (2, []), (3, []), (4, []), (5, []), (6, []), (7, []), (8, []), (9, []), (10, [])] [0, 1, 3, 7, 0, 16, 48, 127, 255, 511, 1023] mixed (by kernel_rfl) ?_ | with_reducible refine gw_draw2 (id := 12) 15 17 [(0, []), (1, []), (2, []), (3, []), (4, []), (5, []), (6, []), (7, []), (8, []), (9, []), (10, []), (11, []), (12, []), (13, []), (14, []), (16, []), (15, [3, 5, 6]), (17, [3, 5, 6]), (18, [3, 5, 6]), (19, [])] [0, 1, 3, 7, 0, 16, 48, 0, 128, 384, 896, 0, 2048, 6144, 16256, 32640, 0, 130944, 262016, 524287] [(0, []), (1, []), (2, []), (3, []), (4, []), (5, []), (6, []), (7, []), (8, []), (9, []), (10, []), (11, []), (12, []), (13, []), (14, []), (16, []), (17, [3, 5, 6, 10, 12, 13, 14]), (15, [3, 5, 6]), (18, [3, 5, 6]), (19, [])] [0, 1, 3, 7, 0, 16, 48, 0, 128, 384, 896, 0, 2048, 6144, 16256, 229248, 0, 65536, 262016, 524287] mixed (by kernel_rfl) (by kernel_rfl) (by kernel_rfl) ?_ ?_) <;> try simp only [gop, gyield, gLenX, gNilM, gField, gIndexV, gPart, reduceIte, seval, Int.cast_ofNat_Int, stz, stp, isEff, sgl, sty, stq, Try.underlying89, ty23, ty24, ty36, ty68, ty83, ty88, ty136, ty62, ty65, ty70, ty91, ty99, ty29, ty3, ty4, ty5, ty89, ty9, rs70, Bool.false_and, Bool.not_false, gNil, gload1 (s14 _ _ m11) sz24, cv14, gload1 (s14 _ _ ho11) sz89, lk14, List.getElem?_cons_zero, List.getElem?_cons_succ]))
    refine put_g (y11.hs s14).mp y11.ok sm89 fun h15 m15 f15 => ?_
    refine mk_of ?_; repeat' (first | (with_reducible first | refine gw_seq ?_ | refine gw_block ?_) | ((first | (with_reducible refine mk_to ?_) | (with_reducible first | refine gw_region ?_ | refine gw_if ?_ | refine gw_skip ?_ | refine gw_exit ?_ | refine gw_ret ?_) | ((with_reducible first | refine gif_b (fun hb => ?_) (fun hb => ?_) | refine want_t (fun hb => ?_) (fun hb => ?_) | refine want_f (fun hb => ?_) (fun hb => ?_) | refine dr_t (fun hb => ?_) (fun hb => ?_) | refine dr_f (fun hb => ?_) (fun hb => ?_)) <;> (try simp only [hb]) <;> (try simp only [hpr] at hb)) | with_reducible refine gw_draw (id := 1) [(0, []), (1, []), (2, []), (3, []), (4, []), (5, []), (6, []), (7, [])] [0, 1, 3, 7, 0, 16, 63, 127] mixed (by kernel_rfl) ?_ | with_reducible refine gw_draw (id := 3) [(0, []), (1, []), (2, []), (3, []), (4, []), (5, []), (6, []), (7, []), (8, []), (9, []), (10, []), (11, []), (12, []), (13, []), (14, []), (15, []), (16, []), (17, []), (18, []), (19, []), (20, []), (21, []), (22, []), (23, []), (24, []), (25, []), (26, [])] [0, 1, 3, 7, 7, 23, 55, 119, 247, 511, 1023, 2047, 4095, 8191, 2047, 18431, 51199, 116735, 247807, 2047, 526335, 1574911, 3672063, 8374271, 16777215, 33554431, 67108863] mixed (by kernel_rfl) ?_ | with_reducible refine gw_draw (id := 7) [(0, []), (1, []), (2, []), (3, []), (4, []), (5, []), (6, []), (7, []), (8, []), (9, []), (10, []), (11, [4, 8]), (12, []), (13, [4]), (14, []), (15, []), (16, []), (17, [])] [0, 0, 2, 6, 14, 0, 32, 96, 224, 0, 512, 1536, 4064, 8160, 16382, 32767, 65535, 131071] mixed (by kernel_rfl) ?_ | with_reducible refine gw_draw (id := 8) [(0, []), (1, []), (2, []), (3, []), (4, []), (5, []), (6, []), (7, []), (8, []), (9, []), (10, [])] [0, 1, 3, 7, 0, 16, 48, 127, 255, 511, 1023] mixed (by kernel_rfl) ?_ | with_reducible refine gw_draw2 (id := 12) 15 17 [(0, []), (1, []), (2, []), (3, []), (4, []), (5, []), (6, []), (7, []), (8, []), (9, []), (10, []), (11, []), (12, []), (13, []), (14, []), (16, []), (15, [3, 5, 6]), (17, [3, 5, 6]), (18, [3, 5, 6]), (19, [])] [0, 1, 3, 7, 0, 16, 48, 0, 128, 384, 896, 0, 2048, 6144, 16256, 32640, 0, 130944, 262016, 524287] [(0, []), (1, []), (2, []), (3, []), (4, []), (5, []), (6, []), (7, []), (8, []), (9, []), (10, []), (11, []), (12, []), (13, []), (14, []), (16, []), (17, [3, 5, 6, 10, 12, 13, 14]), (15, [3, 5, 6]), (18, [3, 5, 6]), (19, [])] [0, 1, 3, 7, 0, 16, 48, 0, 128, 384, 896, 0, 2048, 6144, 16256, 229248, 0, 65536, 262016, 524287] mixed (by kernel_rfl) (by kernel_rfl) (by kernel_rfl) ?_ ?_) <;> try simp only [gop, gyield, gLenX, gNilM, gField, gIndexV, gPart, reduceIte, seval, Int.cast_ofNat_Int, stz, stp, isEff, sgl, sty, stq, Try.underlying89, ty23, ty24, ty36, ty68, ty83, ty88, ty136, ty62, ty65, ty70, ty91, ty99, ty29, ty3, ty4, ty5, ty89, ty9, rs70, wi]))
    refine ⟨_, i + 1, ?_, (by simp only [List.forall_mem_cons, List.not_mem_nil, false_implies, implies_true, List.map, List.cons_append, List.nil_append, lk, Nat.reduceEqDiff, reduceIte, and_true, true_and]), rfl, by omega, fin3 (l4 := []) s14 m15 f15 rfl (o14.weak (H0.hs _))⟩
    omega
  · refine bsn1_g el83 rfl rfl (by decide) (by decide) rfl fun k12 h12 b12 s12' f12 n12 => ?_
    have lk12 := (y11.hs s12').look y.1
    have cv12 := (q1.hs (s11.trans s12')).conv Try.underlying24 Try.underlying5 Try.underlying9
    refine mk_of ?_; repeat' (first | (with_reducible first | refine gw_seq ?_ | refine gw_block ?_) | ((first | (with_reducible refine mk_to ?_) | (with_reducible first | refine gw_region ?_ | refine gw_if ?_ | refine gw_skip ?_ | refine gw_exit ?_ | refine gw_ret ?_) | ((with_reducible first | refine gif_b (fun hb => ?_) (fun hb => ?_) | refine want_t (fun hb => ?_) (fun hb => ?_) | refine want_f (fun hb => ?_) (fun hb => ?_) | refine dr_t (fun hb => ?_) (fun hb => ?_) | refine dr_f (fun hb => ?_) (fun hb => ?_)) <;> (try simp only [hb]) <;> (try simp only [hpr] at hb)) | with_reducible refine gw_draw (id := 1) [(0, []), (1, []), (2, []), (3, []), (4, []), (5, []), (6, []), (7, [])] [0, 1, 3, 7, 0, 16, 63, 127] mixed (by kernel_rfl) ?_ | with_reducible refine gw_draw (id := 3) [(0, []), (1, []), (2, []), (3, []), (4, []), (5, []), (6, []), (7, []), (8, []), (9, []), (10, []), (11, []), (12, []), (13, []), (14, []), (15, []), (16, []), (17, []), (18, []), (19, []), (20, []), (21, []), (22, []), (23, []), (24, []), (25, []), (26, [])] [0, 1, 3, 7, 7, 23, 55, 119, 247, 511, 1023, 2047, 4095, 8191, 2047, 18431, 51199, 116735, 247807, 2047, 526335, 1574911, 3672063, 8374271, 16777215, 33554431, 67108863] mixed (by kernel_rfl) ?_ | with_reducible refine gw_draw (id := 7) [(0, []), (1, []), (2, []), (3, []), (4, []), (5, []), (6, []), (7, []), (8, []), (9, []), (10, []), (11, [4, 8]), (12, []), (13, [4]), (14, []), (15, []), (16, []), (17, [])] [0, 0, 2, 6, 14, 0, 32, 96, 224, 0, 512, 1536, 4064, 8160, 16382, 32767, 65535, 131071] mixed (by kernel_rfl) ?_ | with_reducible refine gw_draw (id := 8) [(0, []), (1, []), (2, []), (3, []), (4, []), (5, []), (6, []), (7, []), (8, []), (9, []), (10, [])] [0, 1, 3, 7, 0, 16, 48, 127, 255, 511, 1023] mixed (by kernel_rfl) ?_ | with_reducible refine gw_draw2 (id := 12) 15 17 [(0, []), (1, []), (2, []), (3, []), (4, []), (5, []), (6, []), (7, []), (8, []), (9, []), (10, []), (11, []), (12, []), (13, []), (14, []), (16, []), (15, [3, 5, 6]), (17, [3, 5, 6]), (18, [3, 5, 6]), (19, [])] [0, 1, 3, 7, 0, 16, 48, 0, 128, 384, 896, 0, 2048, 6144, 16256, 32640, 0, 130944, 262016, 524287] [(0, []), (1, []), (2, []), (3, []), (4, []), (5, []), (6, []), (7, []), (8, []), (9, []), (10, []), (11, []), (12, []), (13, []), (14, []), (16, []), (17, [3, 5, 6, 10, 12, 13, 14]), (15, [3, 5, 6]), (18, [3, 5, 6]), (19, [])] [0, 1, 3, 7, 0, 16, 48, 0, 128, 384, 896, 0, 2048, 6144, 16256, 229248, 0, 65536, 262016, 524287] mixed (by kernel_rfl) (by kernel_rfl) (by kernel_rfl) ?_ ?_) <;> try simp only [gop, gyield, gLenX, gNilM, gField, gIndexV, gPart, reduceIte, seval, Int.cast_ofNat_Int, stz, stp, isEff, sgl, sty, stq, Try.underlying89, ty23, ty24, ty36, ty68, ty83, ty88, ty136, ty62, ty65, ty70, ty91, ty99, ty29, ty3, ty4, ty5, ty89, ty9, rs70, Bool.false_and, Bool.not_false, gNil, gload1 (s12' _ _ m11) sz24, cv12, gload1 (s12' _ _ ho11) sz89, lk12, List.getElem?_cons_zero, List.getElem?_cons_succ]))
    refine (c_IClone N ((y11.hs s12').sp y.1) (by omega) (epc_cell _)).mono ?_
    rintro v13 h13 ⟨o13, s13⟩
    have s1213 := s12'.trans s13
    have lk13 := (y11.hs s1213).look y.1
    have cv13 := (q1.hs (s11.trans s1213)).conv Try.underlying24 Try.underlying5 Try.underlying9
    refine mk_of ?_; repeat' (first | (with_reducible first | refine gw_seq ?_ | refine gw_block ?_) | ((first | (with_reducible refine mk_to ?_) | (with_reducible first | refine gw_region ?_ | refine gw_if ?_ | refine gw_skip ?_ | refine gw_exit ?_ | refine gw_ret ?_) | ((with_reducible first | refine gif_b (fun hb => ?_) (fun hb => ?_) | refine want_t (fun hb => ?_) (fun hb => ?_) | refine want_f (fun hb => ?_) (fun hb => ?_) | refine dr_t (fun hb => ?_) (fun hb => ?_) | refine dr_f (fun hb => ?_) (fun hb => ?_)) <;> (try simp only [hb]) <;> (try simp only [hpr] at hb)) | with_reducible refine gw_draw (id := 1) [(0, []), (1, []), (2, []), (3, []), (4, []), (5, []), (6, []), (7, [])] [0, 1, 3, 7, 0, 16, 63, 127] mixed (by kernel_rfl) ?_ | with_reducible refine gw_draw (id := 3) [(0, []), (1, []), (2, []), (3, []), (4, []), (5, []), (6, []), (7, []), (8, []), (9, []), (10, []), (11, []), (12, []), (13, []), (14, []), (15, []), (16, []), (17, []), (18, []), (19, []), (20, []), (21, []), (22, []), (23, []), (24, []), (25, []), (26, [])] [0, 1, 3, 7, 7, 23, 55, 119, 247, 511, 1023, 2047, 4095, 8191, 2047, 18431, 51199, 116735, 247807, 2047, 526335, 1574911, 3672063, 8374271, 16777215, 33554431, 67108863] mixed (by kernel_rfl) ?_ | with_reducible refine gw_draw (id := 7) [(0, []), (1, []), (2, []), (3, []), (4, []), (5, []), (6, []), (7, []), (8, []), (9, []), (10, []), (11, [4, 8]), (12, []), (13, [4]), (14, []), (15, []), (16, []), (17, [])] [0, 0, 2, 6, 14, 0, 32, 96, 224, 0, 512, 1536, 4064, 8160, 16382, 32767, 65535, 131071] mixed (by kernel_rfl) ?_ | with_reducible refine gw_draw (id := 8) [(0, []), (1, []), (2, []), (3, []), (4, []), (5, []), (6, []), (7, []), (8, []), (9, []), (10, [])] [0, 1, 3, 7, 0, 16, 48, 127, 255, 511, 1023] mixed (by kernel_rfl) ?_ | with_reducible refine gw_draw2 (id := 12) 15 17 [(0, []), (1, []), (2, []), (3, []), (4, []), (5, []), (6, []), (7, []), (8, []), (9, []), (10, []), (11, []), (12, []), (13, []), (14, []), (16, []), (15, [3, 5, 6]), (17, [3, 5, 6]), (18, [3, 5, 6]), (19, [])] [0, 1, 3, 7, 0, 16, 48, 0, 128, 384, 896, 0, 2048, 6144, 16256, 32640, 0, 130944, 262016, 524287] [(0, []), (1, []), (2, []), (3, []), (4, []), (5, []), (6, []), (7, []), (8, []), (9, []), (10, []), (11, []), (12, []), (13, []), (14, []), (16, []), (17, [3, 5, 6, 10, 12, 13, 14]), (15, [3, 5, 6]), (18, [3, 5, 6]), (19, [])] [0, 1, 3, 7, 0, 16, 48, 0, 128, 384, 896, 0, 2048, 6144, 16256, 229248, 0, 65536, 262016, 524287] mixed (by kernel_rfl) (by kernel_rfl) (by kernel_rfl) ?_ ?_) <;> try simp only [gop, gyield, gLenX, gNilM, gField, gIndexV, gPart, reduceIte, seval, Int.cast_ofNat_Int, stz, stp, isEff, sgl, sty, stq, Try.underlying89, ty23, ty24, ty36, ty68, ty83, ty88, ty136, ty62, ty65, ty70, ty91, ty99, ty29, ty3, ty4, ty5, ty89, ty9, rs70, Bool.false_and, Bool.not_false, gNil, gload1 (s1213 _ _ m11) sz24, cv13, gload1 (s1213 _ _ ho11) sz89, lk13, List.getElem?_cons_zero, List.getElem?_cons_succ]))
    refine append_ownc el83 Try.underlying83 rfl s1213 (o13.weak s12') (gSrc_hs s13 b12) rfl rfl (by omega) (by simp only [maxLen]; omega) fun v14 h14 s14 fr14 o14 => ?_
    obtain ⟨a14, c14, rfl⟩ := o14.form
    have lk14 := (y11.hs s14).look y.1
    have cv14 := (q1.hs (s11.trans s14)).conv Try.underlying24 Try.underlying5 Try.underlying9
    refine mk_of ?_; repeat' (first | (with_reducible first | refine gw_seq ?_ | refine gw_block ?_) | ((first | (with_reducible refine mk_to ?_) | (with_reducible first | refine gw_region ?_ | refine gw_if ?_ | refine gw_skip ?_ | refine gw_exit ?_ | refine gw_ret ?_) | ((with_reducible first | refine gif_b (fun hb => ?_) (fun hb => ?_) | refine want_t (fun hb => ?_) (fun hb => ?_) | refine want_f (fun hb => ?_) (fun hb => ?_) | refine dr_t (fun hb => ?_) (fun hb => ?_) | refine dr_f (fun hb => ?_) (fun hb => ?_)) <;> (try simp only [hb]) <;> (try simp only [hpr] at hb)) | with_reducible refine gw_draw (id := 1) [(0, []), (1, []), (2, []), (3, []), (4, []), (5, []), (6, []), (7, [])] [0, 1, 3, 7, 0, 16, 63, 127] mixed (by kernel_rfl) ?_ | with_reducible refine gw_draw (id := 3) [(0, []), (1, []), (2, []), (3, []), (4, []), (5, []), (6, []), (7, []), (8, []), (9, []), (10, []), (11, []), (12, []), (13, []), (14, []), (15, []), (16, []), (17, []), (18, []), (19, []), (20, []), (21, []), (22, []), (23, []), (24, []), (25, []), (26, [])] [0, 1, 3, 7, 7, 23, 55, 119, 247, 511, 1023, 2047, 4095, 8191, 2047, 18431, 51199, 116735, 247807, 2047, 526335, 1574911, 3672063, 8374271, 16777215, 33554431, 67108863] mixed (by kernel_rfl) ?_ | with_reducible refine gw_draw (id := 7) [(0, []), (1, []), (2, []), (3, []), (4, []), (5, []), (6, []), (7, []), (8, []), (9, []), (10, []), (11, [4, 8]), (12, []), (13, [4]), (14, []), (15, []), (16, []), (17, [])] [0, 0, 2, 6, 14, 0, 32, 96, 224, 0, 512, 1536, 4064, 8160, 16382, 32767, 65535, 131071] mixed (by kernel_rfl) ?_ | with_reducible refine gw_draw (id := 8) [(0, []), (1, []), (2, []), (3, []), (4, []), (5, []), (6, []), (7, []), (8, []), (9, []), (10, [])] [0, 1, 3, 7, 0, 16, 48, 127, 255, 511, 1023] mixed (by kernel_rfl) ?_ | with_reducible refine gw_draw2 (id := 12) 15 17 [(0, []), (1, []), (2, []), (3, []), (4, []), (5, []), (6, []), (7, []), (8, []), (9, []), (10, []), (11, []), (12, []), (13, []), (14, []), (16, []), (15, [3, 5, 6]), (17, [3, 5, 6]), (18, [3, 5, 6]), (19, [])] [0, 1, 3, 7, 0, 16, 48, 0, 128, 384, 896, 0, 2048, 6144, 16256, 32640, 0, 130944, 262016, 524287] [(0, []), (1, []), (2, []), (3, []), (4, []), (5, []), (6, []), (7, []), (8, []), (9, []), (10, []), (11, []), (12, []), (13, []), (14, []), (16, []), (17, [3, 5, 6, 10, 12, 13, 14]), (15, [3, 5, 6]), (18, [3, 5, 6]), (19, [])] [0, 1, 3, 7, 0, 16, 48, 0, 128, 384, 896, 0, 2048, 6144, 16256, 229248, 0, 65536, 262016, 524287] mixed (by kernel_rfl) (by kernel_rfl) (by kernel_rfl) ?_ ?_) <;> try simp only [gop, gyield, gLenX, gNilM, gField, gIndexV, gPart, reduceIte, seval, Int.cast_ofNat_Int, stz, stp, isEff, sgl, sty, stq, Try.underlying89, ty23, ty24, ty36, ty68, ty83, ty88, ty136, ty62, ty65, ty70, ty91, ty99, ty29, ty3, ty4, ty5, ty89, ty9, rs70, Bool.false_and, Bool.not_false, gNil, gload1 (s14 _ _ m11) sz24, cv14, gload1 (s14 _ _ ho11) sz89, lk14, List.getElem?_cons_zero, List.getElem?_cons_succ]))
    refine put_g (y11.hs s14).mp y11.ok sm89 fun h15 m15 f15 => ?_
    refine mk_of ?_; repeat' (first | (with_reducible first | refine gw_seq ?_ | refine gw_block ?_) | ((first | (with_reducible refine mk_to ?_) | (with_reducible first | refine gw_region ?_ | refine gw_if ?_ | refine gw_skip ?_ | refine gw_exit ?_ | refine gw_ret ?_) | ((with_reducible first | refine gif_b (fun hb => ?_) (fun hb => ?_) | refine want_t (fun hb => ?_) (fun hb => ?_) | refine want_f (fun hb => ?_) (fun hb => ?_) | refine dr_t (fun hb => ?_) (fun hb => ?_) | refine dr_f (fun hb => ?_) (fun hb => ?_)) <;> (try simp only [hb]) <;> (try simp only [hpr] at hb)) | with_reducible refine gw_draw (id := 1) [(0, []), (1, []), (2, []), (3, []), (4, []), (5, []), (6, []), (7, [])] [0, 1, 3, 7, 0, 16, 63, 127] mixed (by kernel_rfl) ?_ | with_reducible refine gw_draw (id := 3) [(0, []), (1, []), (2, []), (3, []), (4, []), (5, []), (6, []), (7, []), (8, []), (9, []), (10, []), (11, []), (12, []), (13, []), (14, []), (15, []), (16, []), (17, []), (18, []), (19, []), (20, []), (21, []), (22, []), (23, []), (24, []), (25, []), (26, [])] [0, 1, 3, 7, 7, 23, 55, 119, 247, 511, 1023, 2047, 4095, 8191, 2047, 18431, 51199, 116735, 247807, 2047, 526335, 1574911, 3672063, 8374271, 16777215, 33554431, 67108863] mixed (by kernel_rfl) ?_ | with_reducible refine gw_draw (id := 7) [(0, []), (1, []), (2, []), (3, []), (4, []), (5, []), (6, []), (7, []), (8, []), (9, []), (10, []), (11, [4, 8]), (12, []), (13, [4]), (14, []), (15, []), (16, []), (17, [])] [0, 0, 2, 6, 14, 0, 32, 96, 224, 0, 512, 1536, 4064, 8160, 16382, 32767, 65535, 131071] mixed (by kernel_rfl) ?_ | with_reducible refine gw_draw (id := 8) [(0, []), (1, []), (2, []), (3, []), (4, []), (5, []), (6, []), (7, []), (8, []), (9, []), (10, [])] [0, 1, 3, 7, 0, 16, 48, 127, 255, 511, 1023] mixed (by kernel_rfl) ?_ | with_reducible refine gw_draw2 (id := 12) 15 17 [(0, []), (1, []), (2, []), (3, []), (4, []), (5, []), (6, []), (7, []), (8, []), (9, []), (10, []), (11, []), (12, []), (13, []), (14, []), (16, []), (15, [3, 5, 6]), (17, [3, 5, 6]), (18, [3, 5, 6]), (19, [])] [0, 1, 3, 7, 0, 16, 48, 0, 128, 384, 896, 0, 2048, 6144, 16256, 32640, 0, 130944, 262016, 524287] [(0, []), (1, []), (2, []), (3, []), (4, []), (5, []), (6, []), (7, []), (8, []), (9, []), (10, []), (11, []), (12, []), (13, []), (14, []), (16, []), (17, [3, 5, 6, 10, 12, 13, 14]), (15, [3, 5, 6]), (18, [3, 5, 6]), (19, [])] [0, 1, 3, 7, 0, 16, 48, 0, 128, 384, 896, 0, 2048, 6144, 16256, 229248, 0, 65536, 262016, 524287] mixed (by kernel_rfl) (by kernel_rfl) (by kernel_rfl) ?_ ?_) <;> try simp only [gop, gyield, gLenX, gNilM, gField, gIndexV, gPart, reduceIte, seval, Int.cast_ofNat_Int, stz, stp, isEff, sgl, sty, stq, Try.underlying89, ty23, ty24, ty36, ty68, ty83, ty88, ty136, ty62, ty65, ty70, ty91, ty99, ty29, ty3, ty4, ty5, ty89, ty9, rs70, wi]))
    refine ⟨_, i + 1, ?_, (by simp only [List.forall_mem_cons, List.not_mem_nil, false_implies, implies_true, List.map, List.cons_append, List.nil_append, lk, Nat.reduceEqDiff, reduceIte, and_true, true_and]), rfl, by omega, fin3 (l4 := []) s14 m15 f15 rfl (o14.weak (H0.hs _))⟩
    omega
end Go.Gh

/- Versions: an index that no call made. -/

namespace Go.Gh
open Go Go.Proofs Go.RowKit
set_option linter.unusedVariables false
set_option linter.unusedSimpArgs false
set_option maxRecDepth 100000
set_option maxHeartbeats 2000000

/-- An index that no call made. -/
def Nob (h : GH) (x : Value) : Prop := x = .pointer none ∨ ∃ k r es w t, x = .pointer (some ⟨k, 0, none⟩) ∧ h k = some ⟨.bool false :: r, es, w, t⟩
theorem Nob.hs {h h' : GH} {x : Value} (n : Nob h x) (s : HS h h') : Nob h' x := by
  rcases n with n | ⟨k, r, es, w, t, e, m⟩
  · exact .inl n
  · exact .inr ⟨k, r, es, w, t, e, s _ _ m⟩
end Go.Gh

/- The library's sort, laid at two of the program's functions. -/

namespace Go.Gh
open Go Go.Proofs Go.RowKit Go.Shelf Go.Sort
set_option linter.unusedVariables false
set_option linter.unusedSimpArgs false
set_option maxRecDepth 100000
def sortI_ren : Ren where
  f := fun x => match x with
    | 6 => 111
    | 15 => 99
    | 14 => 136
    | 28 => 129
    | 29 => 130
    | 20 => 148
    | 21 => 149
    | 22 => 150
    | 23 => 151
    | 24 => 152
    | 25 => 153
    | 26 => 154
    | 27 => 155
    | 46 => 158
    | 47 => 140
    | 48 => 141
    | 49 => 159
    | 50 => 160
    | 57 => 161
    | n => n
  t := fun x => match x with
    | 22 => 68
    | 24 => 97
    | 25 => 157
    | 3 => 3
    | 39 => 56
    | 0 => 0
    | 53 => 171
    | 55 => 173
    | 4 => 4
    | 46 => 165
    | 45 => 164
    | 50 => 141
    | 5 => 5
    | 9 => 9
    | 66 => 181
    | 70 => 185
    | 76 => 193
    | 77 => 194
    | n => n
  g := fun n => n
theorem sortI_lays : SlLaysF0.n6 Try.prog sortI_ren where
  mixed := by kernel_rfl
  f6 := ⟨"slices.SortFunc[[]annals/api.Item,annals/api.Item]", by decide, Eq.trans Try.func111 (by kernel_rfl)⟩
  f14 := ⟨"slices.pdqsortCmpFunc[annals/api.Item]", by decide, Eq.trans Try.func136 (by kernel_rfl)⟩
  f15 := Eq.trans Try.func99 (by kernel_rfl)
  f20 := ⟨"slices.insertionSortCmpFunc[annals/api.Item]", by decide, Eq.trans Try.func148 (by kernel_rfl)⟩
  f21 := ⟨"slices.heapSortCmpFunc[annals/api.Item]", by decide, Eq.trans Try.func149 (by kernel_rfl)⟩
  f22 := ⟨"slices.breakPatternsCmpFunc[annals/api.Item]", by decide, Eq.trans Try.func150 (by kernel_rfl)⟩
  f23 := ⟨"slices.choosePivotCmpFunc[annals/api.Item]", by decide, Eq.trans Try.func151 (by kernel_rfl)⟩
  f24 := ⟨"slices.reverseRangeCmpFunc[annals/api.Item]", by decide, Eq.trans Try.func152 (by kernel_rfl)⟩
  f25 := ⟨"slices.partialInsertionSortCmpFunc[annals/api.Item]", by decide, Eq.trans Try.func153 (by kernel_rfl)⟩
  f26 := ⟨"slices.partitionEqualCmpFunc[annals/api.Item]", by decide, Eq.trans Try.func154 (by kernel_rfl)⟩
  f27 := ⟨"slices.partitionCmpFunc[annals/api.Item]", by decide, Eq.trans Try.func155 (by kernel_rfl)⟩
  f28 := Eq.trans Try.func129 (by kernel_rfl)
  f29 := Eq.trans Try.func130 (by kernel_rfl)
  f46 := ⟨"slices.siftDownCmpFunc[annals/api.Item]", by decide, Eq.trans Try.func158 (by kernel_rfl)⟩
  f47 := Eq.trans Try.func140 (by kernel_rfl)
  f48 := Eq.trans Try.func141 (by kernel_rfl)
  f49 := ⟨"slices.medianAdjacentCmpFunc[annals/api.Item]", by decide, Eq.trans Try.func159 (by kernel_rfl)⟩
  f50 := ⟨"slices.medianCmpFunc[annals/api.Item]", by decide, Eq.trans Try.func160 (by kernel_rfl)⟩
  f57 := ⟨"slices.order2CmpFunc[annals/api.Item]", by decide, Eq.trans Try.func161 (by kernel_rfl)⟩
  t0 := Try.underlying0
  a0 := Try.isAgg0
  z0 := Try.sizeOf0
  v0 := Try.zeroValue0
  t3 := Try.underlying3
  a3 := Try.isAgg3
  z3 := Try.sizeOf3
  v3 := Try.zeroValue3
  t4 := Try.underlying4
  a4 := Try.isAgg4
  z4 := Try.sizeOf4
  v4 := Try.zeroValue4
  t5 := Try.underlying5
  a5 := Try.isAgg5
  z5 := Try.sizeOf5
  v5 := Try.zeroValue5
  t9 := Try.underlying9
  a9 := Try.isAgg9
  z9 := Try.sizeOf9
  v9 := Try.zeroValue9
  t22 := Try.underlying68
  a22 := Try.isAgg68
  z22 := Try.sizeOf68
  v22 := Try.zeroValue68
  t25 := Try.underlying157
  a25 := Try.isAgg157
  z25 := Try.sizeOf157
  v25 := Try.zeroValue157
  t39 := Try.underlying56
  a39 := Try.isAgg56
  z39 := Try.sizeOf56
  v39 := Try.zeroValue56
  t45 := Try.underlying164
  a45 := Try.isAgg164
  z45 := Try.sizeOf164
  v45 := Try.zeroValue164
  t46 := Try.underlying165
  a46 := Try.isAgg165
  z46 := Try.sizeOf165
  v46 := Try.zeroValue165
  t50 := Try.underlying141
  a50 := Try.isAgg141
  z50 := Try.sizeOf141
  v50 := Try.zeroValue141
  t53 := Try.underlying171
  a53 := Try.isAgg171
  z53 := Try.sizeOf171
  v53 := Try.zeroValue171
  t55 := Try.underlying173
  a55 := Try.isAgg173
  z55 := Try.sizeOf173
  v55 := Try.zeroValue173
  t66 := Try.underlying181
  a66 := Try.isAgg181
  z66 := Try.sizeOf181
  v66 := Try.zeroValue181
  t70 := Try.underlying185
  a70 := Try.isAgg185
  z70 := Try.sizeOf185
  v70 := Try.zeroValue185
  t76 := Try.underlying193
  a76 := Try.isAgg193
  z76 := Try.sizeOf193
  v76 := Try.zeroValue193
  t77 := Try.underlying194
  a77 := Try.isAgg194
  z77 := Try.sizeOf194
  v77 := Try.zeroValue194
end Go.Gh

/- Contracts of slices.Grow, slices.Concat, and of the keys' bits. -/
namespace Go.Gh
open Go Go.Proofs Go.RowKit
set_option linter.unusedVariables false
set_option linter.unusedSimpArgs false
set_option maxRecDepth 100000

theorem c_Grow (N : Nat) (h : GH) (s : Nat) (hs : s ≤ 140737488355328) : GTri Try.prog N 144 [.slice none 0 0, .int .i64 s] h fun v h' => HS h h' ∧ ((s = 0 ∧ v = .slice none 0 0) ∨ (0 < s ∧ ∃ k, v = .slice (some ⟨k, 0, none⟩) 0 (2 * s) ∧ h k = none ∧ BUF h' k s [])) := by
  have w1 : IntKind.i64.wrap ((s : Int) - 0) = s := by rw [Int.sub_zero]; exact wrap_nat (by omega)
  refine gtri Try.func144 rfl gf144 ok144 (by simp [Try.ntmps144]) ?_
  by_cases h0 : s = 0
  · subst h0
    repeat' (first | (with_reducible first | refine gw_seq ?_ | refine gw_block ?_) | ((first | (with_reducible first | refine gw_region ?_ | refine gw_if ?_ | refine gw_skip ?_ | refine gw_exit ?_ | refine gw_ret ?_) | ((with_reducible first | refine gif_b (fun hb => ?_) (fun hb => ?_) | refine want_t (fun hb => ?_) (fun hb => ?_) | refine want_f (fun hb => ?_) (fun hb => ?_)) <;> (try simp only [hb]))) <;> try simp only [gop, gyield, gLenX, gNilM, gField, gIndexV, gPart, reduceIte, seval, Int.cast_ofNat_Int, stz, stp, ty24, ty3, ty5, ty9, rs144, gCap_nil]))
    exact ⟨HS.refl h, .inl trivial⟩
  · have d0 : decide ((s : Int) > 0) = true := decide_eq_true (by omega)
    repeat' (first | (with_reducible first | refine gw_seq ?_ | refine gw_block ?_) | ((first | (with_reducible first | refine gw_region ?_ | refine gw_if ?_ | refine gw_skip ?_ | refine gw_exit ?_ | refine gw_ret ?_) | ((with_reducible first | refine gif_b (fun hb => ?_) (fun hb => ?_) | refine want_t (fun hb => ?_) (fun hb => ?_) | refine want_f (fun hb => ?_) (fun hb => ?_)) <;> (try simp only [hb]))) <;> try simp only [gop, gyield, gLenX, gNilM, gField, gIndexV, gPart, reduceIte, seval, Int.cast_ofNat_Int, stz, stp, ty24, ty3, ty5, ty9, rs144, gCap_nil, dec_neg, d0, w1, gSlice_nil Try.underlying24 sz5]))
    refine append_noughts el24 Try.underlying3 (by omega) hs fun k h' hb hS hk => ?_
    simp only [gop, gyield, gLenX, gNilM, gField, gIndexV, gPart, reduceIte, seval, Int.cast_ofNat_Int, stz, stp, ty24, ty3, ty5, ty9, rs144, gSlice_zero Try.underlying24 sz5]
    repeat' (first | (with_reducible first | refine gw_seq ?_ | refine gw_block ?_) | ((first | (with_reducible first | refine gw_region ?_ | refine gw_if ?_ | refine gw_skip ?_ | refine gw_exit ?_ | refine gw_ret ?_) | ((with_reducible first | refine gif_b (fun hb => ?_) (fun hb => ?_) | refine want_t (fun hb => ?_) (fun hb => ?_) | refine want_f (fun hb => ?_) (fun hb => ?_)) <;> (try simp only [hb]))) <;> try simp only [gop, gyield, gLenX, gNilM, gField, gIndexV, gPart, reduceIte, seval, Int.cast_ofNat_Int, stz, stp, ty24, ty3, ty5, ty9, rs144]))
    exact ⟨hS, .inr ⟨by omega, k, rfl, hk, hb⟩⟩

theorem c_Concat2 (N : Nat) (h : GH) {k es : Nat} {wr tl : Bool} {a b : Option Addr} {n m c d : Nat} {l1 l2 : List UInt8} (hk : h k = some ⟨[.slice a n c, .slice b m d], es, wr, tl⟩) (r1 : RB h (.slice a n c) l1) (r2 : RB h (.slice b m d) l2) (hn : n = l1.length) (hm : m = l2.length)
    (hs : l1.length + l2.length ≤ 140737488355328) : GTri Try.prog N 132 [.slice (some ⟨k, 0, none⟩) 2 5] h fun v h' => HS h h' ∧ ∃ a' c', v = .slice a' (l1.length + l2.length) c' ∧ RB h' v (l1 ++ l2) ∧ AP h h' v 1 := by
  subst hn; subst hm
  have w1 : IntKind.i64.wrap (0 + (l1.length : Int)) = l1.length := by rw [Int.zero_add]; exact wrap_nat (by omega)
  have w2 : IntKind.i64.wrap ((l1.length : Int) + (l2.length : Int)) = ((l1.length + l2.length : Nat) : Int) := wrap_add (by omega)
  have i0 : gIndex Try.prog 47 (.slice (some ⟨k, 0, none⟩) 2 5) 0 = some (.pointer (some ⟨k, 0, none⟩)) := by simp [gIndex, Try.underlying47, sz24]
  have i1 : gIndex Try.prog 47 (.slice (some ⟨k, 0, none⟩) 2 5) 1 = some (.pointer (some ⟨k, 1, none⟩)) := by simp [gIndex, Try.underlying47, sz24]
  refine gtri Try.func132 rfl gf132 ok132 (by simp [Try.ntmps132]) ?_
  repeat' (first | (with_reducible first | refine gw_seq ?_ | refine gw_block ?_) | ((first | (with_reducible first | refine gw_region ?_ | refine gw_if ?_ | refine gw_skip ?_ | refine gw_exit ?_ | refine gw_ret ?_) | ((with_reducible first | refine gif_b (fun hb => ?_) (fun hb => ?_) | refine want_t (fun hb => ?_) (fun hb => ?_) | refine want_f (fun hb => ?_) (fun hb => ?_)) <;> (try simp only [hb]))) <;> try simp only [gop, gyield, gLenX, gNilM, gField, gIndexV, gPart, reduceIte, seval, Int.cast_ofNat_Int, stz, stp, ty24, ty47, ty3, ty5, ty9, rs132]))
  refine gw_unroll (gl_round ?_)
  repeat' (first | (with_reducible first | refine gw_seq ?_ | refine gw_block ?_) | ((first | (with_reducible first | refine gw_region ?_ | refine gw_if ?_ | refine gw_skip ?_ | refine gw_exit ?_ | refine gw_ret ?_) | ((with_reducible first | refine gif_b (fun hb => ?_) (fun hb => ?_) | refine want_t (fun hb => ?_) (fun hb => ?_) | refine want_f (fun hb => ?_) (fun hb => ?_)) <;> (try simp only [hb]))) <;> try simp only [gop, gyield, gLenX, gNilM, gField, gIndexV, gPart, reduceIte, seval, Int.cast_ofNat_Int, stz, stp, ty24, ty47, ty3, ty5, ty9, rs132, i0, gload1 hk sz24, w1, dec_neg]))
  refine gl_round ?_
  repeat' (first | (with_reducible first | refine gw_seq ?_ | refine gw_block ?_) | ((first | (with_reducible first | refine gw_region ?_ | refine gw_if ?_ | refine gw_skip ?_ | refine gw_exit ?_ | refine gw_ret ?_) | ((with_reducible first | refine gif_b (fun hb => ?_) (fun hb => ?_) | refine want_t (fun hb => ?_) (fun hb => ?_) | refine want_f (fun hb => ?_) (fun hb => ?_)) <;> (try simp only [hb]))) <;> try simp only [gop, gyield, gLenX, gNilM, gField, gIndexV, gPart, reduceIte, seval, Int.cast_ofNat_Int, stz, stp, ty24, ty47, ty3, ty5, ty9, rs132, i1, gload1 hk sz24, w2, dec_neg]))
  refine gl_round ?_
  repeat' (first | (with_reducible first | refine gw_seq ?_ | refine gw_block ?_) | ((first | (with_reducible first | refine gw_region ?_ | refine gw_if ?_ | refine gw_skip ?_ | refine gw_exit ?_ | refine gw_ret ?_) | ((with_reducible first | refine gif_b (fun hb => ?_) (fun hb => ?_) | refine want_t (fun hb => ?_) (fun hb => ?_) | refine want_f (fun hb => ?_) (fun hb => ?_)) <;> (try simp only [hb]))) <;> try simp only [gop, gyield, gLenX, gNilM, gField, gIndexV, gPart, reduceIte, seval, Int.cast_ofNat_Int, stz, stp, ty24, ty47, ty3, ty5, ty9, rs132]))
  refine (c_Grow N h (l1.length + l2.length) hs).mono ?_
  rintro v h1 ⟨s1, hv⟩
  have r1' := r1.hs s1
  have r2' := r2.hs s1
  have hk1 := s1 _ _ hk
  rcases hv with ⟨h0, rfl⟩ | ⟨h0, kb, rfl, hkb, hb⟩
  · have e1 : l1 = [] := List.eq_nil_of_length_eq_zero (by omega)
    have e2 : l2 = [] := List.eq_nil_of_length_eq_zero (by omega)
    subst e1; subst e2
    simp only [gop, gyield, gLenX, gNilM, gField, gIndexV, gPart, reduceIte, seval, Int.cast_ofNat_Int, stz, stp, ty24, ty47, ty3, ty5, ty9, rs132]
    repeat' (first | (with_reducible first | refine gw_seq ?_ | refine gw_block ?_) | ((first | (with_reducible first | refine gw_region ?_ | refine gw_if ?_ | refine gw_skip ?_ | refine gw_exit ?_ | refine gw_ret ?_) | ((with_reducible first | refine gif_b (fun hb => ?_) (fun hb => ?_) | refine want_t (fun hb => ?_) (fun hb => ?_) | refine want_f (fun hb => ?_) (fun hb => ?_)) <;> (try simp only [hb]))) <;> try simp only [gop, gyield, gLenX, gNilM, gField, gIndexV, gPart, reduceIte, seval, Int.cast_ofNat_Int, stz, stp, ty24, ty47, ty3, ty5, ty9, rs132]))
    refine gw_unroll (gl_round ?_)
    repeat' (first | (with_reducible first | refine gw_seq ?_ | refine gw_block ?_) | ((first | (with_reducible first | refine gw_region ?_ | refine gw_if ?_ | refine gw_skip ?_ | refine gw_exit ?_ | refine gw_ret ?_) | ((with_reducible first | refine gif_b (fun hb => ?_) (fun hb => ?_) | refine want_t (fun hb => ?_) (fun hb => ?_) | refine want_f (fun hb => ?_) (fun hb => ?_)) <;> (try simp only [hb]))) <;> try simp only [gop, gyield, gLenX, gNilM, gField, gIndexV, gPart, reduceIte, seval, Int.cast_ofNat_Int, stz, stp, ty24, ty47, ty3, ty5, ty9, rs132, i0, gload1 hk1 sz24]))
    refine append_none el24 Try.underlying24 rfl r1'.src ?_
    simp only [gop, gyield, gLenX, gNilM, gField, gIndexV, gPart, reduceIte, seval, Int.cast_ofNat_Int, stz, stp, ty24, ty47, ty3, ty5, ty9, rs132]
    repeat' (first | (with_reducible first | refine gw_seq ?_ | refine gw_block ?_) | ((first | (with_reducible first | refine gw_region ?_ | refine gw_if ?_ | refine gw_skip ?_ | refine gw_exit ?_ | refine gw_ret ?_) | ((with_reducible first | refine gif_b (fun hb => ?_) (fun hb => ?_) | refine want_t (fun hb => ?_) (fun hb => ?_) | refine want_f (fun hb => ?_) (fun hb => ?_)) <;> (try simp only [hb]))) <;> try simp only [gop, gyield, gLenX, gNilM, gField, gIndexV, gPart, reduceIte, seval, Int.cast_ofNat_Int, stz, stp, ty24, ty47, ty3, ty5, ty9, rs132]))
    refine gl_round ?_
    repeat' (first | (with_reducible first | refine gw_seq ?_ | refine gw_block ?_) | ((first | (with_reducible first | refine gw_region ?_ | refine gw_if ?_ | refine gw_skip ?_ | refine gw_exit ?_ | refine gw_ret ?_) | ((with_reducible first | refine gif_b (fun hb => ?_) (fun hb => ?_) | refine want_t (fun hb => ?_) (fun hb => ?_) | refine want_f (fun hb => ?_) (fun hb => ?_)) <;> (try simp only [hb]))) <;> try simp only [gop, gyield, gLenX, gNilM, gField, gIndexV, gPart, reduceIte, seval, Int.cast_ofNat_Int, stz, stp, ty24, ty47, ty3, ty5, ty9, rs132, i1, gload1 hk1 sz24]))
    refine append_none el24 Try.underlying24 rfl r2'.src ?_
    simp only [gop, gyield, gLenX, gNilM, gField, gIndexV, gPart, reduceIte, seval, Int.cast_ofNat_Int, stz, stp, ty24, ty47, ty3, ty5, ty9, rs132]
    repeat' (first | (with_reducible first | refine gw_seq ?_ | refine gw_block ?_) | ((first | (with_reducible first | refine gw_region ?_ | refine gw_if ?_ | refine gw_skip ?_ | refine gw_exit ?_ | refine gw_ret ?_) | ((with_reducible first | refine gif_b (fun hb => ?_) (fun hb => ?_) | refine want_t (fun hb => ?_) (fun hb => ?_) | refine want_f (fun hb => ?_) (fun hb => ?_)) <;> (try simp only [hb]))) <;> try simp only [gop, gyield, gLenX, gNilM, gField, gIndexV, gPart, reduceIte, seval, Int.cast_ofNat_Int, stz, stp, ty24, ty47, ty3, ty5, ty9, rs132]))
    refine gl_round ?_
    repeat' (first | (with_reducible first | refine gw_seq ?_ | refine gw_block ?_) | ((first | (with_reducible first | refine gw_region ?_ | refine gw_if ?_ | refine gw_skip ?_ | refine gw_exit ?_ | refine gw_ret ?_) | ((with_reducible first | refine gif_b (fun hb => ?_) (fun hb => ?_) | refine want_t (fun hb => ?_) (fun hb => ?_) | refine want_f (fun hb => ?_) (fun hb => ?_)) <;> (try simp only [hb]))) <;> try simp only [gop, gyield, gLenX, gNilM, gField, gIndexV, gPart, reduceIte, seval, Int.cast_ofNat_Int, stz, stp, ty24, ty47, ty3, ty5, ty9, rs132]))
    exact ⟨s1, none, 0, rfl, .inl ⟨0, rfl, rfl⟩, .inl ⟨0, rfl⟩⟩
  · simp only [gop, gyield, gLenX, gNilM, gField, gIndexV, gPart, reduceIte, seval, Int.cast_ofNat_Int, stz, stp, ty24, ty47, ty3, ty5, ty9, rs132]
    repeat' (first | (with_reducible first | refine gw_seq ?_ | refine gw_block ?_) | ((first | (with_reducible first | refine gw_region ?_ | refine gw_if ?_ | refine gw_skip ?_ | refine gw_exit ?_ | refine gw_ret ?_) | ((with_reducible first | refine gif_b (fun hb => ?_) (fun hb => ?_) | refine want_t (fun hb => ?_) (fun hb => ?_) | refine want_f (fun hb => ?_) (fun hb => ?_)) <;> (try simp only [hb]))) <;> try simp only [gop, gyield, gLenX, gNilM, gField, gIndexV, gPart, reduceIte, seval, Int.cast_ofNat_Int, stz, stp, ty24, ty47, ty3, ty5, ty9, rs132]))
    refine gw_unroll (gl_round ?_)
    repeat' (first | (with_reducible first | refine gw_seq ?_ | refine gw_block ?_) | ((first | (with_reducible first | refine gw_region ?_ | refine gw_if ?_ | refine gw_skip ?_ | refine gw_exit ?_ | refine gw_ret ?_) | ((with_reducible first | refine gif_b (fun hb => ?_) (fun hb => ?_) | refine want_t (fun hb => ?_) (fun hb => ?_) | refine want_f (fun hb => ?_) (fun hb => ?_)) <;> (try simp only [hb]))) <;> try simp only [gop, gyield, gLenX, gNilM, gField, gIndexV, gPart, reduceIte, seval, Int.cast_ofNat_Int, stz, stp, ty24, ty47, ty3, ty5, ty9, rs132, i0, gload1 hk1 sz24]))
    refine append_buf el24 Try.underlying24 rfl hb rfl r1'.src (by simp) (by omega) fun h2 hb2 f2 => ?_
    have s2 := s1.upd hkb f2
    have r2'' := r2.hs s2
    have hk2 := s2 _ _ hk
    simp only [gop, gyield, gLenX, gNilM, gField, gIndexV, gPart, reduceIte, seval, Int.cast_ofNat_Int, stz, stp, ty24, ty47, ty3, ty5, ty9, rs132, List.nil_append]
    repeat' (first | (with_reducible first | refine gw_seq ?_ | refine gw_block ?_) | ((first | (with_reducible first | refine gw_region ?_ | refine gw_if ?_ | refine gw_skip ?_ | refine gw_exit ?_ | refine gw_ret ?_) | ((with_reducible first | refine gif_b (fun hb => ?_) (fun hb => ?_) | refine want_t (fun hb => ?_) (fun hb => ?_) | refine want_f (fun hb => ?_) (fun hb => ?_)) <;> (try simp only [hb]))) <;> try simp only [gop, gyield, gLenX, gNilM, gField, gIndexV, gPart, reduceIte, seval, Int.cast_ofNat_Int, stz, stp, ty24, ty47, ty3, ty5, ty9, rs132]))
    refine gl_round ?_
    repeat' (first | (with_reducible first | refine gw_seq ?_ | refine gw_block ?_) | ((first | (with_reducible first | refine gw_region ?_ | refine gw_if ?_ | refine gw_skip ?_ | refine gw_exit ?_ | refine gw_ret ?_) | ((with_reducible first | refine gif_b (fun hb => ?_) (fun hb => ?_) | refine want_t (fun hb => ?_) (fun hb => ?_) | refine want_f (fun hb => ?_) (fun hb => ?_)) <;> (try simp only [hb]))) <;> try simp only [gop, gyield, gLenX, gNilM, gField, gIndexV, gPart, reduceIte, seval, Int.cast_ofNat_Int, stz, stp, ty24, ty47, ty3, ty5, ty9, rs132, i1, gload1 hk2 sz24]))
    refine append_buf el24 Try.underlying24 rfl hb2 (by simp) r2''.src (by simp) (by omega) fun h3 hb3 f3 => ?_
    have s3 := s2.upd hkb f3
    simp only [gop, gyield, gLenX, gNilM, gField, gIndexV, gPart, reduceIte, seval, Int.cast_ofNat_Int, stz, stp, ty24, ty47, ty3, ty5, ty9, rs132, List.nil_append]
    repeat' (first | (with_reducible first | refine gw_seq ?_ | refine gw_block ?_) | ((first | (with_reducible first | refine gw_region ?_ | refine gw_if ?_ | refine gw_skip ?_ | refine gw_exit ?_ | refine gw_ret ?_) | ((with_reducible first | refine gif_b (fun hb => ?_) (fun hb => ?_) | refine want_t (fun hb => ?_) (fun hb => ?_) | refine want_f (fun hb => ?_) (fun hb => ?_)) <;> (try simp only [hb]))) <;> try simp only [gop, gyield, gLenX, gNilM, gField, gIndexV, gPart, reduceIte, seval, Int.cast_ofNat_Int, stz, stp, ty24, ty47, ty3, ty5, ty9, rs132]))
    refine gl_round ?_
    repeat' (first | (with_reducible first | refine gw_seq ?_ | refine gw_block ?_) | ((first | (with_reducible first | refine gw_region ?_ | refine gw_if ?_ | refine gw_skip ?_ | refine gw_exit ?_ | refine gw_ret ?_) | ((with_reducible first | refine gif_b (fun hb => ?_) (fun hb => ?_) | refine want_t (fun hb => ?_) (fun hb => ?_) | refine want_f (fun hb => ?_) (fun hb => ?_)) <;> (try simp only [hb]))) <;> try simp only [gop, gyield, gLenX, gNilM, gField, gIndexV, gPart, reduceIte, seval, Int.cast_ofNat_Int, stz, stp, ty24, ty47, ty3, ty5, ty9, rs132]))
    rw [List.nil_append] at hb3
    have hr := hb3.rb
    have ha := hb3.ap (h0 := h) (by simp) hkb
    rw [List.length_append] at hr ha
    rw [Nat.zero_add]
    exact ⟨s3, _, _, rfl, hr, ha⟩
end Go.Gh

/- Contracts of the keys' bits and their order. -/
namespace Go.Gh
open Go Go.Proofs Go.RowKit
set_option linter.unusedVariables false
set_option linter.unusedSimpArgs false
set_option maxRecDepth 100000

def gkey (l : List UInt8) : List UInt8 := UInt8.ofNat (min l.length 255) :: l.take 255

theorem gkey_eq (l : List UInt8) : [UInt8.ofNat (min l.length 255)] ++ l.take (min l.length 255) = gkey l := by
  have : l.take (min l.length 255) = l.take 255 := by
    rw [List.take_eq_take_iff]; omega
  rw [this]; rfl
theorem c_Key (N : Nat) (h : GH) {a : Option Addr} {n c : Nat} {l : List UInt8} (r : RB h (.slice a n c) l) (hn : n = l.length) : GTri Try.prog N 101 [.slice a n c] h fun v h' => HS h h' ∧ ∃ a' c', v = .slice a' (gkey l).length c' ∧ RB h' v (gkey l) ∧ AP h h' v 1 := by
  subst hn
  refine gtri Try.func101 rfl gf101 ok101 (by simp [Try.ntmps101]) ?_
  have mn : (if (255 : Int) < (l.length : Int) then (255 : Int) else (l.length : Int)) = ((min l.length 255 : Nat) : Int) := min_if _ 255
  obtain ⟨a1, c1, q1, r1, _⟩ := r.cut Try.underlying24 sz5 (hi := ((min l.length 255 : Nat) : Int)) (by omega) (by omega) .i64
  rw [Int.toNat_natCast] at q1 r1
  have w1 : IntKind.u8.wrap ((min l.length 255 : Nat) : Int) = ((min l.length 255 : Nat) : Int) := wrapu8 (by omega) (by omega)
  repeat' (first | (with_reducible first | refine gw_seq ?_ | refine gw_block ?_) | ((first | (with_reducible first | refine gw_region ?_ | refine gw_if ?_ | refine gw_skip ?_ | refine gw_exit ?_ | refine gw_ret ?_) | ((with_reducible first | refine gif_b (fun hb => ?_) (fun hb => ?_) | refine want_t (fun hb => ?_) (fun hb => ?_) | refine want_f (fun hb => ?_) (fun hb => ?_)) <;> (try simp only [hb]))) <;> try simp only [gop, gyield, gLenX, gNilM, gField, gIndexV, gPart, reduceIte, seval, Int.cast_ofNat_Int, stz, stp, cv3_5, ty24, ty47, ty3, ty5, rs101, mn, q1, w1]))
  refine bs_g (cs := [.int .u8 ((min l.length 255 : Nat) : Int)]) el24 rfl (by decide) (by decide) (by rw [zeros_one _ rfl]; rfl) rfl fun k1 h1 m1 s1 f1 n1 => ?_
  simp only [gop, gyield, gLenX, gNilM, gField, gIndexV, gPart, reduceIte, seval, Int.cast_ofNat_Int, stz, stp, cv3_5, ty24, ty47, ty3, ty5, rs101]
  refine bs_g (cs := [.slice (some ⟨k1, 0, none⟩) 1 3, .slice a1 (min l.length 255) c1]) el47 rfl (by decide) (by decide) (by rw [zeros_one _ rfl]; rfl) rfl fun k2 h2 m2 s2 f2 n2 => ?_
  simp only [gop, gyield, gLenX, gNilM, gField, gIndexV, gPart, reduceIte, seval, Int.cast_ofNat_Int, stz, stp, cv3_5, ty24, ty47, ty3, ty5, rs101]
  have b1 : RB h1 (.slice (some ⟨k1, 0, none⟩) 1 3) [UInt8.ofNat (min l.length 255)] := by
    rw [bv_nat _ (by omega)] at m1
    exact rb_block (l := [UInt8.ofNat (min l.length 255)]) m1 rfl
  refine (c_Concat2 N h2 m2 (b1.hs s2) (r1.hs (s1.trans s2)) rfl (by simp) (by simp; omega)).mono ?_
  rintro v h3 ⟨s3, a', c', rfl, hr, ha⟩
  simp only [gop, gyield, gLenX, gNilM, gField, gIndexV, gPart, reduceIte, seval, Int.cast_ofNat_Int, stz, stp, cv3_5, ty24, ty47, ty3, ty5, rs101]
  repeat' (first | (with_reducible first | refine gw_seq ?_ | refine gw_block ?_) | ((first | (with_reducible first | refine gw_region ?_ | refine gw_if ?_ | refine gw_skip ?_ | refine gw_exit ?_ | refine gw_ret ?_) | ((with_reducible first | refine gif_b (fun hb => ?_) (fun hb => ?_) | refine want_t (fun hb => ?_) (fun hb => ?_) | refine want_f (fun hb => ?_) (fun hb => ?_)) <;> (try simp only [hb]))) <;> try simp only [gop, gyield, gLenX, gNilM, gField, gIndexV, gPart, reduceIte, seval, Int.cast_ofNat_Int, stz, stp, cv3_5, ty24, ty47, ty3, ty5, rs101]))
  rw [gkey_eq] at hr
  have e : [UInt8.ofNat (min l.length 255)].length + (l.take (min l.length 255)).length = (gkey l).length := by rw [← gkey_eq, List.length_append]
  rw [e] at hr ha
  refine ⟨(s1.trans s2).trans s3, a', c', ?_, ?_, ?_⟩
  · rw [← e]; rfl
  · show RB _ (.slice a' ([UInt8.ofNat (min l.length 255)].length + (l.take (min l.length 255)).length) c') _
    rw [e]; exact hr
  · show AP _ _ (.slice a' ([UInt8.ofNat (min l.length 255)].length + (l.take (min l.length 255)).length) c') _
    rw [e]; exact ha.weak (s1.trans s2)

end Go.Gh

/- Contracts of the order of keys, and of awake. -/
namespace Go.Gh
open Go Go.Proofs Go.RowKit
set_option linter.unusedVariables false
set_option linter.unusedSimpArgs false
set_option maxRecDepth 100000

theorem c_bcmp (N : Nat) (h : GH) {v u : Value} {l m : List UInt8} (r1 : RB h v l) (r2 : RB h u m) : GTri Try.prog N 131 [v, u] h fun x h' => x = .int .i64 (Lib.compareBytes l m) ∧ h' = h :=
  gtri_cmp Try.func131 (by kernel_rfl) (by kernel_rfl) (by kernel_rfl) (by kernel_rfl) r1 r2
theorem c_Compare (N : Nat) (h : GH) {v u : Value} {l m : List UInt8} (r1 : RB h v l) (r2 : RB h u m) : GTri Try.prog N 100 [v, u] h fun x h' => x = .int .i64 (Lib.compareBytes l m) ∧ h' = h := by
  refine gtri Try.func100 rfl gf100 ok100 (by simp [Try.ntmps100]) ?_
  repeat' (first | (with_reducible first | refine gw_seq ?_ | refine gw_block ?_) | ((first | (with_reducible first | refine gw_region ?_ | refine gw_if ?_ | refine gw_skip ?_ | refine gw_exit ?_ | refine gw_ret ?_) | ((with_reducible first | refine gif_b (fun hb => ?_) (fun hb => ?_) | refine want_t (fun hb => ?_) (fun hb => ?_) | refine want_f (fun hb => ?_) (fun hb => ?_)) <;> (try simp only [hb])) | ((refine GTri.mono (c_bcmp _ _ r1 r2) ?_); rintro _ _ ⟨rfl, rfl⟩)) <;> try simp only [gop, gyield, gLenX, gNilM, gField, gIndexV, gPart, reduceIte, seval, Int.cast_ofNat_Int, stz, stp, ty24, ty5, rs100]))
theorem c_Order (N : Nat) (h : GH) {a b : Option Addr} {n m c d : Nat} {l k : List UInt8} (r1 : RB h (.slice a n c) l) (r2 : RB h (.slice b m d) k) (hn : n = l.length) (hm : m = k.length) : GTri Try.prog N 60 [.slice a n c, .slice b m d] h fun v h' => v = .int .i64 (Lib.compareBytes (gkey l) (gkey k)) ∧ HS h h' := by
  refine gtri Try.func60 rfl gf60 ok60 (by simp [Try.ntmps60]) ?_
  repeat' (first | (with_reducible first | refine gw_seq ?_ | refine gw_block ?_) | ((first | (with_reducible first | refine gw_region ?_ | refine gw_if ?_ | refine gw_skip ?_ | refine gw_exit ?_ | refine gw_ret ?_) | ((with_reducible first | refine gif_b (fun hb => ?_) (fun hb => ?_) | refine want_t (fun hb => ?_) (fun hb => ?_) | refine want_f (fun hb => ?_) (fun hb => ?_)) <;> (try simp only [hb])) | ((refine GTri.mono (c_Key _ _ r1 hn) ?_); rintro _ h1 ⟨s1, a1, c1, rfl, q1, _⟩) | ((refine GTri.mono (c_Key _ _ (r2.hs s1) hm) ?_); rintro _ h2 ⟨s2, a2, c2, rfl, q2, _⟩) | ((refine GTri.mono (c_Compare _ _ (q1.hs s2) q2) ?_); rintro _ _ ⟨rfl, rfl⟩)) <;> try simp only [gop, gyield, gLenX, gNilM, gField, gIndexV, gPart, reduceIte, seval, Int.cast_ofNat_Int, stz, stp, ty24, ty5, rs60]))
  exact s1.trans s2
end Go.Gh

/- The orders that the sorts go by. -/

namespace Go.Gh
open Go Go.Proofs Go.RowKit Go.Sort
set_option linter.unusedVariables false
set_option linter.unusedSimpArgs false
set_option maxRecDepth 100000
set_option maxHeartbeats 2000000

/-- A comparison. -/
structure TC {α : Type} (f : α → α → Int) : Prop where
  anti : ∀ x y, f x y = - f y x
  tr : ∀ x y z, f x y ≤ 0 → f y z ≤ 0 → f x z ≤ 0
theorem TC.swo {α : Type} {f : α → α → Int} (t : TC f) : SWO (ltOf f) := by
  refine ⟨fun x => ?_, fun x y z h1 h2 => ?_, fun x y z h1 h2 => ?_⟩
  · have := t.anti x x
    simp only [ltOf, decide_eq_false_iff_not]
    omega
  · simp only [ltOf, decide_eq_true_eq] at *
    have h3 := t.tr x y z (by omega) (by omega)
    rcases Int.lt_or_eq_of_le h3 with h | h
    · exact h
    · have a1 := t.anti x z
      have a2 := t.anti y z
      have := t.tr z x y (by omega) (by omega)
      omega
  · simp only [ltOf, decide_eq_false_iff_not] at *
    have a1 := t.anti x y
    have a2 := t.anti y z
    have a3 := t.anti x z
    have := t.tr z y x (by omega) (by omega)
    omega
theorem TC.or {α : Type} {f g : α → α → Int} (t : TC f) (u : TC g) : TC fun x y => if f x y = 0 then g x y else f x y := by
  refine ⟨fun x y => ?_, fun x y z h1 h2 => ?_⟩
  · have := t.anti x y
    have := u.anti x y
    split <;> split <;> omega
  · have a1 := t.anti x y
    have a2 := t.anti y z
    have a3 := t.anti x z
    have p1 : f x y ≤ 0 := by split at h1 <;> omega
    have p2 : f y z ≤ 0 := by split at h2 <;> omega
    have p3 := t.tr x y z p1 p2
    split
    · rename_i e
      have q1 := t.tr z x y (by omega) p1
      have q2 := t.tr y z x p2 (by omega)
      have e1 : f x y = 0 := by omega
      have e2 : f y z = 0 := by omega
      rw [if_pos e1] at h1
      rw [if_pos e2] at h2
      exact u.tr x y z h1 h2
    · exact p3
theorem TC.on {α β : Type} {f : α → α → Int} (t : TC f) (k : β → α) : TC fun x y => f (k x) (k y) := ⟨fun x y => t.anti _ _, fun x y z => t.tr _ _ _⟩
theorem u8lt (a b : UInt8) : (a < b) ↔ a.toNat < b.toNat := UInt8.lt_iff_toNat_lt
theorem cb_anti : ∀ a b : List UInt8, Lib.compareBytes a b = - Lib.compareBytes b a
  | [], [] => rfl
  | [], _ :: _ => rfl
  | _ :: _, [] => rfl
  | x :: a, y :: b => by
    have ih := cb_anti a b
    simp only [Lib.compareBytes, u8lt]
    split <;> split <;> (try split) <;> (try split) <;> omega
theorem cb_tr : ∀ a b c : List UInt8, Lib.compareBytes a b ≤ 0 → Lib.compareBytes b c ≤ 0 → Lib.compareBytes a c ≤ 0
  | [], _, [], _, _ => by simp [Lib.compareBytes]
  | [], _, _ :: _, _, _ => by simp [Lib.compareBytes]
  | _ :: _, [], _, h, _ => by simp [Lib.compareBytes] at h
  | _ :: _, _ :: _, [], _, h => by simp [Lib.compareBytes] at h
  | x :: a, y :: b, z :: c, h1, h2 => by
    have ih := cb_tr a b c
    simp only [Lib.compareBytes, u8lt] at h1 h2 ⊢
    split at h1 <;> split at h2 <;> (try split at h1) <;> (try split at h2) <;> split <;> (try split) <;> first | omega | (exact ih h1 h2)
theorem tc_cb : TC Lib.compareBytes := ⟨cb_anti, cb_tr⟩
/-- The order of two identities. -/
def idO (x y : List UInt8) : Int := Lib.compareBytes (gkey x) (gkey y)
theorem tc_id : TC idO := tc_cb.on gkey

theorem c_nan1 (N : Nat) (h : GH) (x : Int) : GTri Try.prog N 102 [.int .i64 x] h fun v h' => v = .bool false ∧ h' = h := by
  have d : (x != x) = false := by simp
  refine gtri Try.func102 rfl gf102 ok102 (by simp [Try.ntmps102]) ?_
  refine mk_of ?_; repeat' (first | (with_reducible first | refine gw_seq ?_ | refine gw_block ?_) | ((first | (with_reducible refine mk_to ?_) | (with_reducible first | refine gw_region ?_ | refine gw_if ?_ | refine gw_skip ?_ | refine gw_exit ?_ | refine gw_ret ?_) | ((with_reducible first | refine gif_b (fun hb => ?_) (fun hb => ?_) | refine want_t (fun hb => ?_) (fun hb => ?_) | refine want_f (fun hb => ?_) (fun hb => ?_)) <;> (try simp only [hb]) <;> (try simp only [hpr] at hb))) <;> try simp only [gop, gyield, gLenX, gNilM, gField, gIndexV, gPart, reduceIte, seval, Int.cast_ofNat_Int, stz, stp, ty3, rs102, d]))
end Go.Gh

/- The sorts, as triples. -/

namespace Go.Gh
open Go Go.Proofs Go.RowKit Go.Sort Go.Shelf
set_option linter.unusedVariables false
set_option linter.unusedSimpArgs false
set_option maxRecDepth 100000
set_option maxHeartbeats 2000000

theorem c_blen (N : Nat) (h : GH) : GTri Try.prog N 99 [.int .u64 0] h fun v h' => v = .int .i64 (Lib.bitLen 0) ∧ h' = h := by
  intro hG φ w args' s ha
  obtain ⟨argl⟩ := args'
  simp only at ha
  cases ha with
  | cons h1 ha =>
  cases ha
  cases h1
  have hb := Any.bits_Len (SlLaysF0.n15.bits (P := Try.prog) (ρ := sortI_ren) { sortI_lays with }) 0 w (by omega) (by omega)
  refine .inl ⟨gf99, hb.mono ?_⟩
  rintro e w' ⟨rfl, rfl⟩
  exact ⟨_, _, φ, h, rfl, Ext.refl _, s, .int _ _, Below.refl _ _, rfl, rfl⟩

/-- All stays but arrays of three cells an element. -/
def K3 (h h' : GH) : Prop := (∀ i B, h i = some B → B.es ≠ 3 → h' i = some B) ∧ ∀ v l, RB h v l → RB h' v l
theorem K3.refl (h : GH) : K3 h h := ⟨fun _ _ e _ => e, fun _ _ r => r⟩
theorem K3.set {h : GH} {kb : Nat} {B : GB} {cs : List Value} (hB : h kb = some B) (he : B.es = 3) (hu : B.cells.all notU8 = true) : K3 h (hset h kb { B with cells := cs }) := by
  have hx : HX kb h (hset h kb { B with cells := cs }) := fun j C n e => (hset_ne _ _ n).trans e
  exact ⟨fun i C e n => by
    rw [hset_ne _ _ (fun q => by rw [q, hB] at e; cases e; exact n he)]; exact e, fun v l r => r.hx hB hu hx⟩
/-- What a sort leaves. -/
def SortR {α : Type} (R : GH → List Value → α → Prop) (cf : α → α → Int) (h0 h : GH) (v : Value) (l : List α) (h' : GH) : Prop :=
  ∃ (l2 : List α) (cs2 : List Value), l2.Perm l ∧ (∀ (i j : Nat) x y, i < j → l2[i]? = some x → l2[j]? = some y → ¬ cf y x < 0) ∧ OWNC 3 h0 h' v l2.length cs2 ∧ cs2.all notU8 = true ∧ (∀ (i : Nat) x, l2[i]? = some x → R h' ((cs2.drop (i * 3)).take 3) x) ∧ K3 h h' ∧ (HS h0 h → HS h0 h')
theorem sortR0 {α : Type} {R : GH → List Value → α → Prop} {cf : α → α → Int} {h0 h : GH} {v : Value} {cs : List Value} (o : OWNC 3 h0 h v 0 cs) : SortR R cf h0 h v [] h := by
  have hc : cs = [] := List.eq_nil_of_length_eq_zero (by have := o.len; simpa using this)
  subst hc
  exact ⟨[], [], .refl _, fun i j x y _ hx => by simp at hx, o, rfl, fun i x hx => by simp at hx, K3.refl h, id⟩
theorem sortR1 {α : Type} {R : GH → List Value → α → Prop} {cf : α → α → Int} {h0 h h' : GH} {kb c : Nat} {cs cs2 : List Value} {l l2 : List α} (hm : c % 2 = 0) (hc2 : 2 * l.length ≤ c) (hn : l ≠ []) (hB : h kb = some ⟨cs, 3, true, true⟩) (hk0 : h0 kb = none) (hcl : cs.length = l.length * 3) (hu : cs.all notU8 = true)
    (hp : l2.Perm l) (hs : ∀ (i j : Nat) x y, i < j → l2[i]? = some x → l2[j]? = some y → ¬ cf y x < 0) (e : h' = hset h kb ⟨cs2, 3, true, true⟩) (hl2 : cs2.length = cs.length) (hu2 : cs2.all notU8 = true) (hR : ∀ (i : Nat) x, l2[i]? = some x → R h ((cs2.drop (i * 3)).take 3) x)
    (hRk : ∀ cs x, R h cs x → (∀ v l, RB h v l → RB h' v l) → R h' cs x) : SortR R cf h0 h (.slice (some ⟨kb, 0, none⟩) l.length c) l h' := by
  subst e
  have k3 : K3 h (hset h kb ⟨cs2, 3, true, true⟩) := K3.set (B := ⟨cs, 3, true, true⟩) hB rfl hu
  have hll := hp.length_eq
  refine ⟨l2, cs2, hp, hs, .inr (.inr ⟨kb, c, by rw [hll], hm, by omega, ?_, by omega, hset_same _ _ _, hk0⟩), hu2, fun i x hx => hRk _ _ (hR i x hx) k3.2, k3, fun s i B e => ?_⟩
  · rw [hll]; exact fun q => hn (List.eq_nil_of_length_eq_zero q)
  · rw [hset_ne _ _ (fun q => by rw [q, hk0] at e; cases e)]
    exact s _ _ e
theorem shV_sl (M : Nat) (a : Option Addr) (n c : Nat) : ∃ a', shV M (.slice a n c) = .slice a' n c := by cases a <;> exact ⟨_, rfl⟩
end Go.Gh

/- Ideal: an identity's key at an epoch. -/

namespace Go.Gh
open Go Go.Proofs Go.RowKit
set_option linter.unusedVariables false
set_option linter.unusedSimpArgs false
set_option maxRecDepth 100000
set_option maxHeartbeats 2000000

/-- An epoch of a list. -/
def Ep1 (_ : GH) (cs : List Value) (s : Nat × Nat) : Prop := cs = [.int .i64 (s.1 : Int)]
theorem epc_rl {h0 h : GH} {v : Value} {s : List (Nat × Nat)} (o : OWNC 1 h0 h v s.length (epc s)) : RL 1 Ep1 h v s := o.rl fun i x hx => by
  unfold Ep1
  have : (epc s)[i]? = some (.int .i64 (x.1 : Int)) := by simp [epc, hx]
  rw [Nat.mul_one, List.take_one, List.head?_drop, this]; rfl
theorem c_nan2 (N : Nat) (h : GH) (x : Int) : GTri Try.prog N 147 [.int .i64 x] h fun v h' => v = .bool false ∧ h' = h := by
  have d : (x != x) = false := by simp
  refine gtri Try.func147 rfl gf147 ok147 (by simp [Try.ntmps147]) ?_
  refine mk_of ?_; repeat' (first | (with_reducible first | refine gw_seq ?_ | refine gw_block ?_) | ((first | (with_reducible refine mk_to ?_) | (with_reducible first | refine gw_region ?_ | refine gw_if ?_ | refine gw_skip ?_ | refine gw_exit ?_ | refine gw_ret ?_) | ((with_reducible first | refine gif_b (fun hb => ?_) (fun hb => ?_) | refine want_t (fun hb => ?_) (fun hb => ?_) | refine want_f (fun hb => ?_) (fun hb => ?_)) <;> (try simp only [hb]) <;> (try simp only [hpr] at hb))) <;> try simp only [gop, gyield, gLenX, gNilM, gField, gIndexV, gPart, reduceIte, seval, Int.cast_ofNat_Int, stz, stp, ty3, rs147, d]))
theorem c_Less (N : Nat) (h : GH) (x y : Int) : GTri Try.prog N 146 [.int .i64 x, .int .i64 y] h fun v h' => v = .bool (decide (x < y)) ∧ h' = h := by
  refine gtri Try.func146 rfl gf146 ok146 (by simp [Try.ntmps146]) ?_
  refine mk_of ?_; repeat' (first | (with_reducible first | refine gw_seq ?_ | refine gw_block ?_) | ((first | (with_reducible refine mk_to ?_) | (with_reducible first | refine gw_region ?_ | refine gw_if ?_ | refine gw_skip ?_ | refine gw_exit ?_ | refine gw_ret ?_) | ((with_reducible first | refine gif_b (fun hb => ?_) (fun hb => ?_) | refine want_t (fun hb => ?_) (fun hb => ?_) | refine want_f (fun hb => ?_) (fun hb => ?_)) <;> (try simp only [hb]) <;> (try simp only [hpr] at hb)) | ((refine GTri.mono (c_nan1 _ _ _) ?_); rintro _ _ ⟨rfl, hh9⟩; replace hh9 := hh9.symm; subst hh9)) <;> try simp only [gop, gyield, gLenX, gNilM, gField, gIndexV, gPart, reduceIte, seval, Int.cast_ofNat_Int, stz, stp, ty3, ty4, rs146, gPick]))
/-- So many are of epochs ahead of one. -/
def Lo (s : List (Nat × Nat)) (e : Int) (n : Nat) : Prop := n ≤ s.length ∧ ∀ (i : Nat) (p : Nat × Nat), s[i]? = some p → (i < n ↔ (p.1 : Int) < e)
theorem c_bsi (N : Nat) (h : GH) {v : Value} {s : List (Nat × Nat)} (r : RL 1 Ep1 h v s) (hl : s.length ≤ 1000000) (hs : Rising s) (e : Int) : GTri Try.prog N 134 [v, .int .i64 e] h fun v h' =>
    (∃ (n : Nat) (b : Bool), v = .tuple #[.int .i64 (n : Int), .bool b] ∧ Lo s e n ∧ (b = true ↔ ∃ p, s[n]? = some p ∧ (p.1 : Int) = e)) ∧ h' = h := by
  obtain ⟨a, c, rfl, _⟩ := r.form
  refine gtri Try.func134 rfl gf134 ok134 (by simp [Try.ntmps134]) ?_
  repeat' (first | (with_reducible first | refine gw_seq ?_ | refine gw_block ?_) | ((first | (with_reducible first | refine gw_region ?_ | refine gw_if ?_ | refine gw_skip ?_ | refine gw_exit ?_ | refine gw_ret ?_) | ((with_reducible first | refine gif_b (fun hb => ?_) (fun hb => ?_) | refine want_t (fun hb => ?_) (fun hb => ?_) | refine want_f (fun hb => ?_) (fun hb => ?_)) <;> (try simp only [hb]) <;> (try simp only [hpr] at hb))) <;> try simp only [gop, gyield, gLenX, gNilM, gField, gIndexV, gPart, reduceIte, seval, Int.cast_ofNat_Int, stz, stp, cv3_56, cv56_3, ty83, ty3, ty56, rs134]))
  refine gw_loop2 [0, 1, 4, 5, 6] (fun (x : Nat × Nat) => [(7, .int .i64 (x.1 : Int)), (8, .int .i64 (x.2 : Int))])
    (fun q x h' => x.2 - x.1 = q ∧ x.1 ≤ x.2 ∧ x.2 ≤ s.length ∧ h' = h ∧ (∀ (i : Nat) (p : Nat × Nat), s[i]? = some p → i < x.1 → (p.1 : Int) < e) ∧ (∀ (i : Nat) (p : Nat × Nat), s[i]? = some p → x.2 ≤ i → ¬ (p.1 : Int) < e)) s.length (0, s.length) (by simp [lk])
    ⟨by simp, by simp, by simp, rfl, (fun i p _ hi => by simp at hi), fun i p hi hl => by have := (List.getElem?_eq_some_iff.1 hi).1; simp only at hl; omega⟩ ?_
  rintro _ ⟨i, j⟩ h1 ⟨rfl, hij, hj, rfl, lo, hi⟩
  simp only at hij hj lo hi
  by_cases hlt : i < j
  case neg =>
    obtain rfl : i = j := by omega
    have d : decide ((i : Int) < (i : Int)) = false := decide_eq_false (by omega)
    have up : Lo s e i := ⟨hj, fun q p hq => ⟨fun h => lo q p hq h, fun h => by
      rcases Nat.lt_or_ge q i with h' | h'
      · exact h'
      · exact absurd h (hi q p hq h')⟩⟩
    by_cases hil : i < s.length
    · have d2 : decide ((i : Int) < (s.length : Int)) = true := decide_eq_true (by omega)
      obtain ⟨p, hp⟩ : ∃ p, s[i]? = some p := ⟨_, List.getElem?_eq_getElem hil⟩
      obtain ⟨ad, cs2, g1, g2, g3⟩ := r.at (P := Try.prog) Try.underlying83 sz3 hp
      unfold Ep1 at g3
      subst g3
      have l4 : gLoad Try.prog 3 h1 (.pointer (some ad)) = some (.int .i64 p.1) := by simp only [gLoad, sz3, g2]; rfl
      have hb : ∀ r : Bool, r = ((p.1 : Int) == e) → (r = true ↔ ∃ p, s[i]? = some p ∧ (p.1 : Int) = e) := by
        rintro _ rfl
        simp [hp]
      cases hpe : ((p.1 : Int) == e)
      all_goals
        refine mk_of ?_; repeat' (first | (with_reducible first | refine gw_seq ?_ | refine gw_block ?_) | ((first | (with_reducible refine mk_to ?_) | (with_reducible first | refine gw_region ?_ | refine gw_if ?_ | refine gw_skip ?_ | refine gw_exit ?_ | refine gw_ret ?_) | ((with_reducible first | refine gif_b (fun hb => ?_) (fun hb => ?_) | refine want_t (fun hb => ?_) (fun hb => ?_) | refine want_f (fun hb => ?_) (fun hb => ?_)) <;> (try simp only [hb]) <;> (try simp only [hpr] at hb)) | ((refine GTri.mono (c_nan2 _ _ _) ?_); rintro _ _ ⟨rfl, hh9⟩; replace hh9 := hh9.symm; subst hh9)) <;> try simp only [gop, gyield, gLenX, gNilM, gField, gIndexV, gPart, reduceIte, seval, Int.cast_ofNat_Int, stz, stp, cv3_56, cv56_3, ty83, ty3, ty56, rs134, d, d2, g1, l4, hpe, gPick]))
        exact ⟨i, _, rfl, up, hb _ hpe.symm⟩
    · have d2 : decide ((i : Int) < (s.length : Int)) = false := decide_eq_false (by omega)
      refine mk_of ?_; repeat' (first | (with_reducible first | refine gw_seq ?_ | refine gw_block ?_) | ((first | (with_reducible refine mk_to ?_) | (with_reducible first | refine gw_region ?_ | refine gw_if ?_ | refine gw_skip ?_ | refine gw_exit ?_ | refine gw_ret ?_) | ((with_reducible first | refine gif_b (fun hb => ?_) (fun hb => ?_) | refine want_t (fun hb => ?_) (fun hb => ?_) | refine want_f (fun hb => ?_) (fun hb => ?_)) <;> (try simp only [hb]) <;> (try simp only [hpr] at hb))) <;> try simp only [gop, gyield, gLenX, gNilM, gField, gIndexV, gPart, reduceIte, seval, Int.cast_ofNat_Int, stz, stp, cv3_56, cv56_3, ty83, ty3, ty56, rs134, d, d2, gPick]))
      refine ⟨i, _, rfl, up, ⟨fun h => (by cases h), fun ⟨p, hp, _⟩ => ?_⟩⟩
      have := (List.getElem?_eq_some_iff.1 hp).1
      omega
  have d : decide ((i : Int) < (j : Int)) = true := decide_eq_true (by omega)
  have w1 : IntKind.i64.wrap ((i : Int) + (j : Int)) = ((i + j : Nat) : Int) := by rw [wrap64 (by omega) (by omega)]; omega
  have w2 : IntKind.u64.wrap ((i + j : Nat) : Int) = ((i + j : Nat) : Int) := wrapu64 (by omega) (by omega)
  have w3 : IntKind.i64.wrap (((i + j) / 2 : Nat) : Int) = (((i + j) / 2 : Nat) : Int) := wrap64 (by omega) (by omega)
  have w4 : IntKind.i64.wrap ((((i + j) / 2 : Nat) : Int) + 1) = (((i + j) / 2 + 1 : Nat) : Int) := by rw [wrap64 (by omega) (by omega)]; omega
  have sh := shr1 (i + j) IntKind.u64.bits rfl
  have hm : (i + j) / 2 < s.length := by omega
  obtain ⟨p, hp⟩ : ∃ p, s[(i + j) / 2]? = some p := ⟨_, List.getElem?_eq_getElem hm⟩
  obtain ⟨ad, cs2, g1, g2, g3⟩ := r.at (P := Try.prog) Try.underlying83 sz3 hp
  unfold Ep1 at g3
  subst g3
  have l4 : gLoad Try.prog 3 h1 (.pointer (some ad)) = some (.int .i64 p.1) := by simp only [gLoad, sz3, g2]; rfl
  by_cases hpe : (p.1 : Int) < e
  · have d3 : decide ((p.1 : Int) < e) = true := decide_eq_true hpe
    refine mk_of ?_; repeat' (first | (with_reducible first | refine gw_seq ?_ | refine gw_block ?_) | ((first | (with_reducible refine mk_to ?_) | (with_reducible first | refine gw_region ?_ | refine gw_if ?_ | refine gw_skip ?_ | refine gw_exit ?_ | refine gw_ret ?_) | ((with_reducible first | refine gif_b (fun hb => ?_) (fun hb => ?_) | refine want_t (fun hb => ?_) (fun hb => ?_) | refine want_f (fun hb => ?_) (fun hb => ?_)) <;> (try simp only [hb]) <;> (try simp only [hpr] at hb)) | ((refine GTri.mono (c_Less _ _ _ _) ?_); rintro _ _ ⟨rfl, hh9⟩; replace hh9 := hh9.symm; subst hh9)) <;> try simp only [gop, gyield, gLenX, gNilM, gField, gIndexV, gPart, reduceIte, seval, Int.cast_ofNat_Int, stz, stp, cv3_56, cv56_3, ty83, ty3, ty56, rs134, d, w1, w2, w3, sh, g1, l4, d3, w4]))
    refine ⟨_, ((i + j) / 2 + 1, j), ?_, (by simp only [List.forall_mem_cons, List.not_mem_nil, false_implies, implies_true, List.map, List.cons_append, List.nil_append, lk, Nat.reduceEqDiff, reduceIte, and_true, true_and]), rfl, by omega, hj, fun q p' hq hlt' => ?_, hi⟩
    · simp only; omega
    · have := hs q ((i + j) / 2) p' p (by simp only at hlt'; omega) hq hp
      omega
  · have d3 : decide ((p.1 : Int) < e) = false := decide_eq_false hpe
    refine mk_of ?_; repeat' (first | (with_reducible first | refine gw_seq ?_ | refine gw_block ?_) | ((first | (with_reducible refine mk_to ?_) | (with_reducible first | refine gw_region ?_ | refine gw_if ?_ | refine gw_skip ?_ | refine gw_exit ?_ | refine gw_ret ?_) | ((with_reducible first | refine gif_b (fun hb => ?_) (fun hb => ?_) | refine want_t (fun hb => ?_) (fun hb => ?_) | refine want_f (fun hb => ?_) (fun hb => ?_)) <;> (try simp only [hb]) <;> (try simp only [hpr] at hb)) | ((refine GTri.mono (c_Less _ _ _ _) ?_); rintro _ _ ⟨rfl, hh9⟩; replace hh9 := hh9.symm; subst hh9)) <;> try simp only [gop, gyield, gLenX, gNilM, gField, gIndexV, gPart, reduceIte, seval, Int.cast_ofNat_Int, stz, stp, cv3_56, cv56_3, ty83, ty3, ty56, rs134, d, w1, w2, w3, sh, g1, l4, d3, w4]))
    refine ⟨_, (i, (i + j) / 2), ?_, (by simp only [List.forall_mem_cons, List.not_mem_nil, false_implies, implies_true, List.map, List.cons_append, List.nil_append, lk, Nat.reduceEqDiff, reduceIte, and_true, true_and]), rfl, by omega, by omega, lo, fun q p' hq hle => ?_⟩
    · simp only; omega
    · have := hs ((i + j) / 2) q p p' hle hp hq
      omega

theorem c_at1 (N : Nat) (h : GH) {cs : List Value} {y : Bnd} (r : Bd h cs y) {kc : Nat} {a : Option Addr} {n c : Nat} {id : List UInt8} (m : h kc = some ⟨[.slice a n c], 0, true, false⟩) (ri : RB h (.slice a n c) id) : GTri Try.prog N 135 [.agg cs.toArray, .pointer (some ⟨kc, 0, none⟩)] h fun v h' => v = .bool (y.1 == id) ∧ HS h h' := by
  obtain ⟨a1, n1, c1, b1, m1, d1, rfl, r1, r2⟩ := r
  refine gtri Try.func135 rfl gf135 ok135 (by simp [Try.ntmps135]) ?_
  repeat' (first | (with_reducible first | refine gw_seq ?_ | refine gw_block ?_) | ((first | (with_reducible first | refine gw_region ?_ | refine gw_if ?_ | refine gw_skip ?_ | refine gw_exit ?_ | refine gw_ret ?_) | ((with_reducible first | refine gif_b (fun hb => ?_) (fun hb => ?_) | refine want_t (fun hb => ?_) (fun hb => ?_) | refine want_f (fun hb => ?_) (fun hb => ?_)) <;> (try simp only [hb]) <;> (try simp only [hpr] at hb))) <;> try simp only [gop, gyield, gLenX, gNilM, gField, gIndexV, gPart, reduceIte, seval, Int.cast_ofNat_Int, stz, stp, ty24, ty99, ty5, rs135]))
  refine box_g rfl fun k2 h2 m2 s2 f2 n2 => ?_
  refine mk_of ?_; repeat' (first | (with_reducible first | refine gw_seq ?_ | refine gw_block ?_) | ((first | (with_reducible refine mk_to ?_) | (with_reducible first | refine gw_region ?_ | refine gw_if ?_ | refine gw_skip ?_ | refine gw_exit ?_ | refine gw_ret ?_) | ((with_reducible first | refine gif_b (fun hb => ?_) (fun hb => ?_) | refine want_t (fun hb => ?_) (fun hb => ?_) | refine want_f (fun hb => ?_) (fun hb => ?_)) <;> (try simp only [hb]) <;> (try simp only [hpr] at hb)) | ((refine GTri.mono (c_Equal N h2 (r1.hs s2) (ri.hs s2)) ?_); rintro _ _ ⟨rfl, hh9⟩; replace hh9 := hh9.symm; subst hh9)) <;> try simp only [gop, gyield, gLenX, gNilM, gField, gIndexV, gPart, reduceIte, seval, Int.cast_ofNat_Int, stz, stp, ty24, ty99, ty5, rs135, gload1 m2 sz24, gload1 (s2 _ _ m) sz24, List.getElem?_cons_zero, List.getElem?_cons_succ]))
  exact s2
theorem c_ixf (N : Nat) (h : GH) {v : Value} {b : List Bnd} (r : RL 2 Bd h v b) (hl : b.length ≤ 1000000) {kc : Nat} {a : Option Addr} {n c : Nat} {id : List UInt8} (m : h kc = some ⟨[.slice a n c], 0, true, false⟩) (ri : RB h (.slice a n c) id) {i0 : Nat} (hi0 : i0 < b.length ∧ (bat1 b i0).1 = id) :
    GTri Try.prog N 115 [v, .func (.func 135) #[] #[.pointer (some ⟨kc, 0, none⟩)]] h fun v h' => (∃ (i : Nat) (y : Bnd), v = .int .i64 (i : Int) ∧ b[i]? = some y ∧ b.find? (fun z => z.1 == id) = some y) ∧ HS h h' := by
  obtain ⟨av, cv, rfl, _⟩ := r.form
  refine gtri Try.func115 rfl gf115 ok115 (by simp [Try.ntmps115]) ?_
  repeat' (first | (with_reducible first | refine gw_seq ?_ | refine gw_block ?_) | ((first | (with_reducible first | refine gw_region ?_ | refine gw_if ?_ | refine gw_skip ?_ | refine gw_exit ?_ | refine gw_ret ?_) | ((with_reducible first | refine gif_b (fun hb => ?_) (fun hb => ?_) | refine want_t (fun hb => ?_) (fun hb => ?_) | refine want_f (fun hb => ?_) (fun hb => ?_)) <;> (try simp only [hb]) <;> (try simp only [hpr] at hb))) <;> try simp only [gop, gyield, gLenX, gNilM, gField, gIndexV, gPart, reduceIte, seval, Int.cast_ofNat_Int, stz, stp, ty23, ty24, ty99, ty3, rs115]))
  refine gw_loop2 [0, 1, 7] (fun (i : Nat) => [(8, .int .i64 (i : Int))]) (fun q i h' => b.length - i = q ∧ i ≤ b.length ∧ HS h h' ∧ ∀ z ∈ b.take i, (z.1 == id) = false) b.length 0 (by simp [lk]) ⟨rfl, by omega, HS.refl h, by simp⟩ ?_
  rintro _ i h3 ⟨rfl, hi, s3, nf⟩
  by_cases hib : i < b.length
  case neg =>
    obtain rfl : i = b.length := by omega
    rw [List.take_length] at nf
    have hg : b[i0]? = some b[i0] := List.getElem?_eq_getElem hi0.1
    have h1 := nf _ (List.getElem_mem hi0.1)
    have h2 := hi0.2
    simp [bat1, hg] at h2
    rw [h2] at h1
    simp at h1
  have d3 : decide ((i : Int) < (b.length : Int)) = true := decide_eq_true (by omega)
  have wi : IntKind.i64.wrap ((i : Int) + 1) = ((i + 1 : Nat) : Int) := by rw [wrap64 (by omega) (by omega)]; omega
  obtain ⟨y, hy⟩ : ∃ y, b[i]? = some y := ⟨_, List.getElem?_eq_getElem hib⟩
  obtain ⟨ad, cs2, g1, g2, g3⟩ := (r.bs s3).at (P := Try.prog) Try.underlying23 sz99 hy
  have l1 : gLoad Try.prog 99 h3 (.pointer (some ad)) = some (.agg cs2.toArray) := by simp only [gLoad, sz99, g2]; rfl
  refine mk_of ?_; repeat' (first | (with_reducible first | refine gw_seq ?_ | refine gw_block ?_) | ((first | (with_reducible refine mk_to ?_) | (with_reducible first | refine gw_region ?_ | refine gw_if ?_ | refine gw_skip ?_ | refine gw_exit ?_ | refine gw_ret ?_) | ((with_reducible first | refine gif_b (fun hb => ?_) (fun hb => ?_) | refine want_t (fun hb => ?_) (fun hb => ?_) | refine want_f (fun hb => ?_) (fun hb => ?_)) <;> (try simp only [hb]) <;> (try simp only [hpr] at hb))) <;> try simp only [gop, gyield, gLenX, gNilM, gField, gIndexV, gPart, reduceIte, seval, Int.cast_ofNat_Int, stz, stp, ty23, ty24, ty99, ty3, rs115, d3, g1, l1]))
  refine (c_at1 N h3 g3 (s3 _ _ m) (ri.hs s3)).mono ?_
  rintro _ h4 ⟨rfl, s4⟩
  have ht : b.take (i + 1) = b.take i ++ [y] := by rw [List.take_add_one, hy]; rfl
  cases hyi : (y.1 == id)
  · refine mk_of ?_; repeat' (first | (with_reducible first | refine gw_seq ?_ | refine gw_block ?_) | ((first | (with_reducible refine mk_to ?_) | (with_reducible first | refine gw_region ?_ | refine gw_if ?_ | refine gw_skip ?_ | refine gw_exit ?_ | refine gw_ret ?_) | ((with_reducible first | refine gif_b (fun hb => ?_) (fun hb => ?_) | refine want_t (fun hb => ?_) (fun hb => ?_) | refine want_f (fun hb => ?_) (fun hb => ?_)) <;> (try simp only [hb]) <;> (try simp only [hpr] at hb))) <;> try simp only [gop, gyield, gLenX, gNilM, gField, gIndexV, gPart, reduceIte, seval, Int.cast_ofNat_Int, stz, stp, ty23, ty24, ty99, ty3, rs115, wi]))
    refine ⟨_, i + 1, ?_, (by simp only [List.forall_mem_cons, List.not_mem_nil, false_implies, implies_true, List.map, List.cons_append, List.nil_append, lk, Nat.reduceEqDiff, reduceIte, and_true, true_and]), rfl, by omega, s3.trans s4, fun z hz => ?_⟩
    · omega
    · rw [ht] at hz
      rcases List.mem_append.1 hz with hz | hz
      · exact nf z hz
      · obtain rfl := List.mem_singleton.1 hz; exact hyi
  · refine mk_of ?_; repeat' (first | (with_reducible first | refine gw_seq ?_ | refine gw_block ?_) | ((first | (with_reducible refine mk_to ?_) | (with_reducible first | refine gw_region ?_ | refine gw_if ?_ | refine gw_skip ?_ | refine gw_exit ?_ | refine gw_ret ?_) | ((with_reducible first | refine gif_b (fun hb => ?_) (fun hb => ?_) | refine want_t (fun hb => ?_) (fun hb => ?_) | refine want_f (fun hb => ?_) (fun hb => ?_)) <;> (try simp only [hb]) <;> (try simp only [hpr] at hb))) <;> try simp only [gop, gyield, gLenX, gNilM, gField, gIndexV, gPart, reduceIte, seval, Int.cast_ofNat_Int, stz, stp, ty23, ty24, ty99, ty3, rs115]))
    refine ⟨⟨i, y, rfl, hy, ?_⟩, s3.trans s4⟩
    have hb : b = b.take i ++ y :: b.drop (i + 1) := by
      have h1 := (List.take_append_drop i b).symm
      have h2 : b.drop i = y :: b.drop (i + 1) := by
        rw [List.drop_eq_getElem_cons hib]
        have := (List.getElem?_eq_some_iff.1 hy).2
        rw [this]
      rw [h2] at h1; exact h1
    rw [hb, List.find?_append, List.find?_eq_none.2 (fun z hz => by rw [nf z hz]; simp), Option.none_or, List.find?_cons, hyi]
end Go.Gh

/- Ideal: an identity's key at an epoch, asked. -/

namespace Go.Gh
open Go Go.Proofs Go.RowKit
set_option linter.unusedVariables false
set_option linter.unusedSimpArgs false
set_option maxRecDepth 100000
set_option maxHeartbeats 2000000

/-- The last epoch up to one. -/
def atS (s : List (Nat × Nat)) (e : Int) : Option Nat := ((s.filter fun p => decide ((p.1 : Int) ≤ e)).getLast?).map (·.1)
def keyOf (b : List Bnd) (id : List UInt8) : List UInt8 := ((b.find? (fun z => z.1 == id)).map (·.2)).getD []
/-- An identity's key at an epoch, and since when. -/
def atI (M : List (Int × List Bnd)) (id : List UInt8) (e : Int) : Option (List UInt8 × Nat) := (atS (sps 0 (M.map (·.2)) id) e).map fun ep => (keyOf ((M[ep]?.map (·.2)).getD []) id, ep)
theorem ris_pw {s : List (Nat × Nat)} (r : Rising s) : s.Pairwise fun a b => a.1 ≤ b.1 := by
  rw [List.pairwise_iff_getElem]
  intro i j hi hj hij
  exact r i j _ _ (by omega) (List.getElem?_eq_getElem hi) (List.getElem?_eq_getElem hj)
theorem atS_of {s : List (Nat × Nat)} (r : Rising s) {e : Int} {p : Nat × Nat} (hp : p ∈ s) (hpe : (p.1 : Int) ≤ e) (mx : ∀ q ∈ s, (q.1 : Int) ≤ e → q.1 ≤ p.1) : atS s e = some p.1 := by
  have hm : p ∈ s.filter fun p => decide ((p.1 : Int) ≤ e) := List.mem_filter.2 ⟨hp, decide_eq_true hpe⟩
  have pw := (ris_pw r).filter fun p => decide ((p.1 : Int) ≤ e)
  unfold atS
  cases hl : (s.filter fun p => decide ((p.1 : Int) ≤ e)).getLast? with
  | none => rw [List.getLast?_eq_none_iff] at hl; rw [hl] at hm; simp at hm
  | some z =>
    obtain ⟨ys, hy⟩ := List.getLast?_eq_some_iff.1 hl
    have hz : z ∈ s.filter fun p => decide ((p.1 : Int) ≤ e) := by rw [hy]; simp
    obtain ⟨hz1, hz2⟩ := List.mem_filter.1 hz
    have h1 := mx z hz1 (of_decide_eq_true hz2)
    have h2 : p.1 ≤ z.1 := by
      rw [hy] at hm pw
      rcases List.mem_append.1 hm with h | h
      · exact (List.pairwise_append.1 pw).2.2 p h z (by simp)
      · obtain rfl := List.mem_singleton.1 h; exact Nat.le_refl _
    simp only [Option.map_some]
    congr 1
    omega
theorem atS_none {s : List (Nat × Nat)} {e : Int} (h : ∀ q ∈ s, ¬ (q.1 : Int) ≤ e) : atS s e = none := by
  unfold atS
  have : (s.filter fun p => decide ((p.1 : Int) ≤ e)) = [] := by
    rw [List.filter_eq_nil_iff]
    intro a ha
    simpa using h a ha
  rw [this]; rfl
/-- What the search tells. -/
theorem atS_lo {s : List (Nat × Nat)} (r : Rising s) {e : Int} {n : Nat} {b : Bool} (lo : Lo s e n) (hb : b = true ↔ ∃ p, s[n]? = some p ∧ (p.1 : Int) = e) :
    (b = false ∧ n = 0 ∧ atS s e = none) ∨ ∃ i p, s[i]? = some p ∧ (if b = true then n else n - 1) = i ∧ (b = false → n ≠ 0) ∧ atS s e = some p.1 := by
  have idx : ∀ q ∈ s, ∃ i, s[i]? = some q := fun q hq => List.mem_iff_getElem?.1 hq
  cases b with
  | true =>
    obtain ⟨p, hp, he⟩ := hb.1 rfl
    refine .inr ⟨n, p, hp, rfl, by simp, atS_of r (List.mem_of_getElem? hp) (by omega) fun q _ h => by omega⟩
  | false =>
    have hn : ∀ i q, s[i]? = some q → n ≤ i → ¬ (q.1 : Int) ≤ e := fun i q hq hi h => by
      have h1 := (lo.2 i q hq)
      have hne : ¬ (q.1 : Int) < e := fun h2 => by have := h1.2 h2; omega
      have hil := (List.getElem?_eq_some_iff.1 hq).1
      have hg : s[n]? = some s[n] := List.getElem?_eq_getElem (by omega)
      have h3 := lo.2 n _ hg
      have h4 := r n i _ _ hi hg hq
      have : ∃ p, s[n]? = some p ∧ (p.1 : Int) = e := ⟨_, hg, by
        have : ¬ ((s[n]'(by omega)).1 : Int) < e := fun h5 => by have := h3.2 h5; omega
        omega⟩
      have := hb.2 this
      cases this
    by_cases h0 : n = 0
    · subst h0
      exact .inl ⟨rfl, rfl, atS_none fun q hq => by obtain ⟨i, hi⟩ := idx q hq; exact hn i q hi (Nat.zero_le _)⟩
    · have hl := lo.1
      have hg : s[n - 1]? = some s[n - 1] := List.getElem?_eq_getElem (by omega)
      refine .inr ⟨n - 1, _, hg, rfl, fun _ => h0, atS_of r (List.mem_of_getElem? hg) (by have := (lo.2 _ _ hg).1 (by omega); omega) fun q hq hqe => ?_⟩
      obtain ⟨i, hi⟩ := idx q hq
      have hin : i < n := by
        rcases Nat.lt_or_ge i n with h | h
        · exact h
        · exact absurd hqe (hn i q hi h)
      exact r i (n - 1) _ _ (by omega) hi hg

/-- What at answers. -/
def AtV (h : GH) (id : List UInt8) (o : Option (List UInt8 × Nat)) (v : Value) : Prop := match o with
  | none => v = .tuple #[.agg #[.slice none 0 0, .slice none 0 0, .int .i64 0], .bool false]
  | some (key, ep) => ∃ a c b d, v = .tuple #[.agg #[.slice a id.length c, .slice b key.length d, .int .i64 (ep : Int)], .bool true] ∧ RB h (.slice a id.length c) id ∧ RB h (.slice b key.length d) key

theorem gread_spot {h : GH} {a : Addr} {n : Nat} {cs : List Value} (e : gread h a n = some cs) (hn : n ≠ 0) : a.spot = none := by
  unfold gread at e
  rw [if_neg hn] at e
  split at e
  · assumption
  · cases e
theorem c_iat (N : Nat) {h0 h : GH} {k j : Nat} {p : Pm} {ew : Value} {cs l : List Value} {M : List (Int × List Bnd)} {ck : Int} {n : Nat} (x : IM h0 h k j p ew cs l M ck n) {a : Option Addr} {c : Nat} {id : List UInt8} (r : RB h (.slice a id.length c) id) (hid : id.length ≤ 140737488355328) (e : Int) :
    GTri Try.prog N 108 [.pointer (some ⟨k, 0, none⟩), .slice a id.length c, .int .i64 e] h fun v h' => AtV h' id (atI M id e) v ∧ HS h h' := by
  have hn4 := x.n4
  have hsl := sps_len id (M.map (·.2)) 0
  rw [← x.tt] at hsl
  refine gtri Try.func108 rfl gf108 ok108 (by simp [Try.ntmps108]) ?_
  repeat' (first | (with_reducible first | refine gw_seq ?_ | refine gw_block ?_) | ((first | (with_reducible first | refine gw_region ?_ | refine gw_if ?_ | refine gw_skip ?_ | refine gw_exit ?_ | refine gw_ret ?_) | ((with_reducible first | refine gif_b (fun hb => ?_) (fun hb => ?_) | refine want_t (fun hb => ?_) (fun hb => ?_) | refine want_f (fun hb => ?_) (fun hb => ?_) | refine dr_t (fun hb => ?_) (fun hb => ?_) | refine dr_f (fun hb => ?_) (fun hb => ?_)) <;> (try simp only [hb]) <;> (try simp only [hpr] at hb)) | with_reducible refine gw_draw (id := 1) [(0, []), (1, []), (2, []), (3, []), (4, []), (5, []), (6, []), (7, [])] [0, 1, 3, 7, 0, 16, 63, 127] mixed (by kernel_rfl) ?_ | with_reducible refine gw_draw (id := 7) [(0, []), (1, []), (2, []), (3, []), (4, []), (5, []), (6, []), (7, []), (8, []), (9, []), (10, []), (11, [])] [0, 1, 3, 7, 0, 0, 48, 112, 255, 511, 1023, 2047] mixed (by kernel_rfl) ?_ | with_reducible refine gw_draw (id := 9) [(0, []), (2, []), (3, []), (4, []), (5, []), (6, []), (8, []), (9, []), (10, []), (11, []), (1, [6, 11]), (7, [11]), (12, []), (13, []), (14, [])] [0, 1, 0, 0, 12, 28, 60, 127, 0, 0, 768, 1792, 4095, 8191, 16383] mixed (by kernel_rfl) ?_) <;> try simp only [gop, gyield, gLenX, gNilM, gField, gIndexV, gPart, reduceIte, seval, Int.cast_ofNat_Int, stz, stp, isEff, sgl, sty, stq, Try.underlying130, Try.underlying89, ty23, ty24, ty83, ty88, ty136, ty65, ty91, ty97, ty99, ty130, ty3, ty4, ty5, ty89, ty9, rs108]))
  refine box_g rfl fun k1 h1 m1 s1 f1 n1 => ?_
  refine mk_of ?_; repeat' (first | (with_reducible first | refine gw_seq ?_ | refine gw_block ?_) | ((first | (with_reducible refine mk_to ?_) | (with_reducible first | refine gw_region ?_ | refine gw_if ?_ | refine gw_skip ?_ | refine gw_exit ?_ | refine gw_ret ?_) | ((with_reducible first | refine gif_b (fun hb => ?_) (fun hb => ?_) | refine want_t (fun hb => ?_) (fun hb => ?_) | refine want_f (fun hb => ?_) (fun hb => ?_) | refine dr_t (fun hb => ?_) (fun hb => ?_) | refine dr_f (fun hb => ?_) (fun hb => ?_)) <;> (try simp only [hb]) <;> (try simp only [hpr] at hb)) | with_reducible refine gw_draw (id := 1) [(0, []), (1, []), (2, []), (3, []), (4, []), (5, []), (6, []), (7, [])] [0, 1, 3, 7, 0, 16, 63, 127] mixed (by kernel_rfl) ?_ | with_reducible refine gw_draw (id := 7) [(0, []), (1, []), (2, []), (3, []), (4, []), (5, []), (6, []), (7, []), (8, []), (9, []), (10, []), (11, [])] [0, 1, 3, 7, 0, 0, 48, 112, 255, 511, 1023, 2047] mixed (by kernel_rfl) ?_ | with_reducible refine gw_draw (id := 9) [(0, []), (2, []), (3, []), (4, []), (5, []), (6, []), (8, []), (9, []), (10, []), (11, []), (1, [6, 11]), (7, [11]), (12, []), (13, []), (14, [])] [0, 1, 0, 0, 12, 28, 60, 127, 0, 0, 768, 1792, 4095, 8191, 16383] mixed (by kernel_rfl) ?_) <;> try simp only [gop, gyield, gLenX, gNilM, gField, gIndexV, gPart, reduceIte, seval, Int.cast_ofNat_Int, stz, stp, isEff, sgl, sty, stq, Try.underlying130, Try.underlying89, ty23, ty24, ty83, ty88, ty136, ty65, ty91, ty97, ty99, ty130, ty3, ty4, ty5, ty89, ty9, rs108]))
  refine new_g fun k2 h2 m2 s2 f2 n2 => ?_
  replace m1 := s2 _ _ m1
  have s12 := s1.trans s2
  have x2 := x.hs s12
  have cv := (r.hs s12).conv Try.underlying24 Try.underlying5 Try.underlying9
  have lk2 := x2.look id
  refine mk_of ?_; repeat' (first | (with_reducible first | refine gw_seq ?_ | refine gw_block ?_) | ((first | (with_reducible refine mk_to ?_) | (with_reducible first | refine gw_region ?_ | refine gw_if ?_ | refine gw_skip ?_ | refine gw_exit ?_ | refine gw_ret ?_) | ((with_reducible first | refine gif_b (fun hb => ?_) (fun hb => ?_) | refine want_t (fun hb => ?_) (fun hb => ?_) | refine want_f (fun hb => ?_) (fun hb => ?_) | refine dr_t (fun hb => ?_) (fun hb => ?_) | refine dr_f (fun hb => ?_) (fun hb => ?_)) <;> (try simp only [hb]) <;> (try simp only [hpr] at hb)) | with_reducible refine gw_draw (id := 1) [(0, []), (1, []), (2, []), (3, []), (4, []), (5, []), (6, []), (7, [])] [0, 1, 3, 7, 0, 16, 63, 127] mixed (by kernel_rfl) ?_ | with_reducible refine gw_draw (id := 7) [(0, []), (1, []), (2, []), (3, []), (4, []), (5, []), (6, []), (7, []), (8, []), (9, []), (10, []), (11, [])] [0, 1, 3, 7, 0, 0, 48, 112, 255, 511, 1023, 2047] mixed (by kernel_rfl) ?_ | with_reducible refine gw_draw (id := 9) [(0, []), (2, []), (3, []), (4, []), (5, []), (6, []), (8, []), (9, []), (10, []), (11, []), (1, [6, 11]), (7, [11]), (12, []), (13, []), (14, [])] [0, 1, 0, 0, 12, 28, 60, 127, 0, 0, 768, 1792, 4095, 8191, 16383] mixed (by kernel_rfl) ?_) <;> try simp only [gop, gyield, gLenX, gNilM, gField, gIndexV, gPart, reduceIte, seval, Int.cast_ofNat_Int, stz, stp, isEff, sgl, sty, stq, Try.underlying130, Try.underlying89, ty23, ty24, ty83, ty88, ty136, ty65, ty91, ty97, ty99, ty130, ty3, ty4, ty5, ty89, ty9, rs108, gNil, gload1 m1 sz24, cv, gload1 x2.obj sz89, lk2, List.getElem?_cons_zero, List.getElem?_cons_succ]))
  have rl2 := epc_rl (x2.sp id)
  refine (c_bsi N h2 rl2 (by omega) (sps_ris id _ 0) e).mono ?_
  rintro _ h3 ⟨⟨n3, b3, rfl, lo3, hb3⟩, rfl⟩
  rcases atS_lo (sps_ris id _ 0) lo3 hb3 with ⟨rfl, rfl, hat⟩ | ⟨i, q, hq, hi, hn0, hat⟩
  · have z : ((0 : Int) == 0) = true := rfl
    have w : IntKind.i64.wrap (0 - 1) = -1 := rfl
    have d : decide ((-1 : Int) < 0) = true := rfl
    have hA : atI M id e = none := by unfold atI; rw [hat]; rfl
    refine mk_of ?_; repeat' (first | (with_reducible first | refine gw_seq ?_ | refine gw_block ?_) | ((first | (with_reducible refine mk_to ?_) | (with_reducible first | refine gw_region ?_ | refine gw_if ?_ | refine gw_skip ?_ | refine gw_exit ?_ | refine gw_ret ?_) | ((with_reducible first | refine gif_b (fun hb => ?_) (fun hb => ?_) | refine want_t (fun hb => ?_) (fun hb => ?_) | refine want_f (fun hb => ?_) (fun hb => ?_) | refine dr_t (fun hb => ?_) (fun hb => ?_) | refine dr_f (fun hb => ?_) (fun hb => ?_)) <;> (try simp only [hb]) <;> (try simp only [hpr] at hb)) | with_reducible refine gw_draw (id := 1) [(0, []), (1, []), (2, []), (3, []), (4, []), (5, []), (6, []), (7, [])] [0, 1, 3, 7, 0, 16, 63, 127] mixed (by kernel_rfl) ?_ | with_reducible refine gw_draw (id := 7) [(0, []), (1, []), (2, []), (3, []), (4, []), (5, []), (6, []), (7, []), (8, []), (9, []), (10, []), (11, [])] [0, 1, 3, 7, 0, 0, 48, 112, 255, 511, 1023, 2047] mixed (by kernel_rfl) ?_ | with_reducible refine gw_draw (id := 9) [(0, []), (2, []), (3, []), (4, []), (5, []), (6, []), (8, []), (9, []), (10, []), (11, []), (1, [6, 11]), (7, [11]), (12, []), (13, []), (14, [])] [0, 1, 0, 0, 12, 28, 60, 127, 0, 0, 768, 1792, 4095, 8191, 16383] mixed (by kernel_rfl) ?_) <;> try simp only [gop, gyield, gLenX, gNilM, gField, gIndexV, gPart, reduceIte, seval, Int.cast_ofNat_Int, stz, stp, isEff, sgl, sty, stq, Try.underlying130, Try.underlying89, ty23, ty24, ty83, ty88, ty136, ty65, ty91, ty97, ty99, ty130, ty3, ty4, ty5, ty89, ty9, rs108, Bool.not_false, Int.natCast_zero, w, d, gBuild, lfill, lput, Shape.pl, List.all_cons, List.all_nil, isCell]))
    refine st_all m2 sz97 rfl (by decide) rfl rfl rfl fun h4 m4 f4 => ?_
    refine mk_of ?_; repeat' (first | (with_reducible first | refine gw_seq ?_ | refine gw_block ?_) | ((first | (with_reducible refine mk_to ?_) | (with_reducible first | refine gw_region ?_ | refine gw_if ?_ | refine gw_skip ?_ | refine gw_exit ?_ | refine gw_ret ?_) | ((with_reducible first | refine gif_b (fun hb => ?_) (fun hb => ?_) | refine want_t (fun hb => ?_) (fun hb => ?_) | refine want_f (fun hb => ?_) (fun hb => ?_) | refine dr_t (fun hb => ?_) (fun hb => ?_) | refine dr_f (fun hb => ?_) (fun hb => ?_)) <;> (try simp only [hb]) <;> (try simp only [hpr] at hb)) | with_reducible refine gw_draw (id := 1) [(0, []), (1, []), (2, []), (3, []), (4, []), (5, []), (6, []), (7, [])] [0, 1, 3, 7, 0, 16, 63, 127] mixed (by kernel_rfl) ?_ | with_reducible refine gw_draw (id := 7) [(0, []), (1, []), (2, []), (3, []), (4, []), (5, []), (6, []), (7, []), (8, []), (9, []), (10, []), (11, [])] [0, 1, 3, 7, 0, 0, 48, 112, 255, 511, 1023, 2047] mixed (by kernel_rfl) ?_ | with_reducible refine gw_draw (id := 9) [(0, []), (2, []), (3, []), (4, []), (5, []), (6, []), (8, []), (9, []), (10, []), (11, []), (1, [6, 11]), (7, [11]), (12, []), (13, []), (14, [])] [0, 1, 0, 0, 12, 28, 60, 127, 0, 0, 768, 1792, 4095, 8191, 16383] mixed (by kernel_rfl) ?_) <;> try simp only [gop, gyield, gLenX, gNilM, gField, gIndexV, gPart, reduceIte, seval, Int.cast_ofNat_Int, stz, stp, isEff, sgl, sty, stq, Try.underlying130, Try.underlying89, ty23, ty24, ty83, ty88, ty136, ty65, ty91, ty97, ty99, ty130, ty3, ty4, ty5, ty89, ty9, rs108, gloadA m4 sz97 rfl]))
    rw [hA]
    exact ⟨rfl, s12.upd (s1.none_of n2) f4⟩
  obtain ⟨_, hqM, b, hb, hqb, hqid⟩ := sps_mem (List.mem_of_getElem? hq)
  rw [Nat.zero_add, List.length_map] at hqM
  rw [Nat.sub_zero, List.getElem?_map] at hb
  obtain ⟨y, hy, rfl⟩ := Option.map_eq_some_iff.1 hb
  obtain ⟨vb, hvb, bt⟩ := x2.eps _ _ hy
  have hvb1 : cs[q.1 * 2 + 1]? = some vb := by
    have : ((cs.drop (q.1 * 2)).take 2)[1]? = some vb := by rw [hvb]; rfl
    rw [List.getElem?_take, if_pos (by decide), List.getElem?_drop] at this
    exact this
  obtain ⟨ab, cb, eb⟩ : ∃ a c, vb = .slice a y.2.length c := by
    obtain ⟨ds, o, _⟩ := bt
    exact o.form
  subst eb
  obtain ⟨ke, tle, ge, hke⟩ := x2.ep.at (P := Try.prog) Try.underlying88 sz136 hqM
  obtain ⟨ad, cs2, g1, g2, g3⟩ := rl2.at (P := Try.prog) Try.underlying83 sz3 hq
  unfold Ep1 at g3
  subst g3
  obtain ⟨asl, csl, esl, _⟩ := rl2.form
  rw [esl] at g1
  obtain ⟨ae, ce, ee⟩ := x2.ep.form
  rw [ee] at ge
  have ho2 := x2.obj
  rw [ee] at ho2
  have ld : ∀ {h' : GH}, HS h3 h' → gLoad Try.prog 3 h' (.pointer (some ad)) = some (.int .i64 q.1) := fun {h'} s => by simp only [gLoad, sz3, gread_hc s.hc g2]; rfl
  have hby := x.bl y (List.mem_of_getElem? hy)
  have hA : atI M id e = some (keyOf y.2 id, q.1) := by unfold atI; rw [hat]; simp [hy]
  rw [hA]
  have gi : gIndex Try.prog 83 (.slice asl (sps 0 (M.map (·.2)) id).length csl) ((i : Nat) : Int) = some (.pointer (some ad)) := g1
  rw [esl]
  have nn : decide (((i : Nat) : Int) < 0) = false := decide_eq_false (by omega)
  have hw : (b3 = false → IntKind.i64.wrap ((n3 : Int) - 1) = (i : Int)) := fun hb => by
    have := hn0 hb
    rw [hb] at hi
    simp at hi
    have := lo3.1
    rw [wrap64 (by omega) (by omega)]; omega
  cases b3
  · have w := hw rfl
    refine mk_of ?_; repeat' (first | (with_reducible first | refine gw_seq ?_ | refine gw_block ?_) | ((first | (with_reducible refine mk_to ?_) | (with_reducible first | refine gw_region ?_ | refine gw_if ?_ | refine gw_skip ?_ | refine gw_exit ?_ | refine gw_ret ?_) | ((with_reducible first | refine gif_b (fun hb => ?_) (fun hb => ?_) | refine want_t (fun hb => ?_) (fun hb => ?_) | refine want_f (fun hb => ?_) (fun hb => ?_) | refine dr_t (fun hb => ?_) (fun hb => ?_) | refine dr_f (fun hb => ?_) (fun hb => ?_)) <;> (try simp only [hb]) <;> (try simp only [hpr] at hb)) | with_reducible refine gw_draw (id := 1) [(0, []), (1, []), (2, []), (3, []), (4, []), (5, []), (6, []), (7, [])] [0, 1, 3, 7, 0, 16, 63, 127] mixed (by kernel_rfl) ?_ | with_reducible refine gw_draw (id := 7) [(0, []), (1, []), (2, []), (3, []), (4, []), (5, []), (6, []), (7, []), (8, []), (9, []), (10, []), (11, [])] [0, 1, 3, 7, 0, 0, 48, 112, 255, 511, 1023, 2047] mixed (by kernel_rfl) ?_ | with_reducible refine gw_draw (id := 9) [(0, []), (2, []), (3, []), (4, []), (5, []), (6, []), (8, []), (9, []), (10, []), (11, []), (1, [6, 11]), (7, [11]), (12, []), (13, []), (14, [])] [0, 1, 0, 0, 12, 28, 60, 127, 0, 0, 768, 1792, 4095, 8191, 16383] mixed (by kernel_rfl) ?_) <;> try simp only [gop, gyield, gLenX, gNilM, gField, gIndexV, gPart, reduceIte, seval, Int.cast_ofNat_Int, stz, stp, isEff, sgl, sty, stq, Try.underlying130, Try.underlying89, ty23, ty24, ty83, ty88, ty136, ty65, ty91, ty97, ty99, ty130, ty3, ty4, ty5, ty89, ty9, rs108, List.map_toArray, List.map_cons, List.map_nil, Bool.not_false, w, nn, gNil, gload1 ho2 sz88, gi, ld (HS.refl _), ge, gload1 hke sz23, hvb1, List.getElem?_cons_zero, List.getElem?_cons_succ]))
    refine (c_ixf N h3 bt.rl (by omega) m1 (r.hs s12) ⟨hqb, hqid⟩).mono ?_
    rintro _ h4 ⟨⟨i4, y4, rfl, hy4, hf4⟩, s4⟩
    have hkey : keyOf y.2 id = y4.2 := by unfold keyOf; rw [hf4]; rfl
    rw [hkey]
    have hid4 : y4.1 = id := by have := List.find?_some hf4; simpa using this
    obtain ⟨ad4, cs4, g4, g5, a5, n5, c5, b5, m5, d5, rfl, q1, q2⟩ := (bt.rl.bs s4).at (P := Try.prog) Try.underlying23 sz99 hy4
    have lk4 : ∀ {h' : GH}, HS h4 h' → gLoad Try.prog 24 h' (.pointer (some ⟨ad4.block, ad4.off + 1, none⟩)) = some (.slice b5 m5 d5) := fun {h'} s => by
      have := gread_get (gread_hc s.hc g5) (i := 1) (v := .slice b5 m5 d5) rfl
      simp only [gLoad, sz24, this]; rfl
    have hsp := gread_spot g5 (by decide)
    rw [addr_eta hsp] at g4
    have hsm := hby.1 _ (List.mem_of_getElem? hy4)
    have e5 := q2.len_eq
    subst e5
    have ho4 := s4 _ _ ho2
    refine mk_of ?_; repeat' (first | (with_reducible first | refine gw_seq ?_ | refine gw_block ?_) | ((first | (with_reducible refine mk_to ?_) | (with_reducible first | refine gw_region ?_ | refine gw_if ?_ | refine gw_skip ?_ | refine gw_exit ?_ | refine gw_ret ?_) | ((with_reducible first | refine gif_b (fun hb => ?_) (fun hb => ?_) | refine want_t (fun hb => ?_) (fun hb => ?_) | refine want_f (fun hb => ?_) (fun hb => ?_) | refine dr_t (fun hb => ?_) (fun hb => ?_) | refine dr_f (fun hb => ?_) (fun hb => ?_)) <;> (try simp only [hb]) <;> (try simp only [hpr] at hb)) | with_reducible refine gw_draw (id := 1) [(0, []), (1, []), (2, []), (3, []), (4, []), (5, []), (6, []), (7, [])] [0, 1, 3, 7, 0, 16, 63, 127] mixed (by kernel_rfl) ?_ | with_reducible refine gw_draw (id := 7) [(0, []), (1, []), (2, []), (3, []), (4, []), (5, []), (6, []), (7, []), (8, []), (9, []), (10, []), (11, [])] [0, 1, 3, 7, 0, 0, 48, 112, 255, 511, 1023, 2047] mixed (by kernel_rfl) ?_ | with_reducible refine gw_draw (id := 9) [(0, []), (2, []), (3, []), (4, []), (5, []), (6, []), (8, []), (9, []), (10, []), (11, []), (1, [6, 11]), (7, [11]), (12, []), (13, []), (14, [])] [0, 1, 0, 0, 12, 28, 60, 127, 0, 0, 768, 1792, 4095, 8191, 16383] mixed (by kernel_rfl) ?_) <;> try simp only [gop, gyield, gLenX, gNilM, gField, gIndexV, gPart, reduceIte, seval, Int.cast_ofNat_Int, stz, stp, isEff, sgl, sty, stq, Try.underlying130, Try.underlying89, ty23, ty24, ty83, ty88, ty136, ty65, ty91, ty97, ty99, ty130, ty3, ty4, ty5, ty89, ty9, rs108, Bool.false_and, Bool.not_false, gNil, gload1 (s4 _ _ m1) sz24, g4, lk4 (HS.refl _), gi, ld s4, List.getElem?_cons_zero, List.getElem?_cons_succ]))
    refine (c_BClone N h4 (r.hs (s12.trans s4)) hid).mono ?_
    rintro _ h5 ⟨s5, o5⟩
    obtain ⟨a6, c6, rfl⟩ := o5.form
    refine mk_of ?_; repeat' (first | (with_reducible first | refine gw_seq ?_ | refine gw_block ?_) | ((first | (with_reducible refine mk_to ?_) | (with_reducible first | refine gw_region ?_ | refine gw_if ?_ | refine gw_skip ?_ | refine gw_exit ?_ | refine gw_ret ?_) | ((with_reducible first | refine gif_b (fun hb => ?_) (fun hb => ?_) | refine want_t (fun hb => ?_) (fun hb => ?_) | refine want_f (fun hb => ?_) (fun hb => ?_) | refine dr_t (fun hb => ?_) (fun hb => ?_) | refine dr_f (fun hb => ?_) (fun hb => ?_)) <;> (try simp only [hb]) <;> (try simp only [hpr] at hb)) | with_reducible refine gw_draw (id := 1) [(0, []), (1, []), (2, []), (3, []), (4, []), (5, []), (6, []), (7, [])] [0, 1, 3, 7, 0, 16, 63, 127] mixed (by kernel_rfl) ?_ | with_reducible refine gw_draw (id := 7) [(0, []), (1, []), (2, []), (3, []), (4, []), (5, []), (6, []), (7, []), (8, []), (9, []), (10, []), (11, [])] [0, 1, 3, 7, 0, 0, 48, 112, 255, 511, 1023, 2047] mixed (by kernel_rfl) ?_ | with_reducible refine gw_draw (id := 9) [(0, []), (2, []), (3, []), (4, []), (5, []), (6, []), (8, []), (9, []), (10, []), (11, []), (1, [6, 11]), (7, [11]), (12, []), (13, []), (14, [])] [0, 1, 0, 0, 12, 28, 60, 127, 0, 0, 768, 1792, 4095, 8191, 16383] mixed (by kernel_rfl) ?_) <;> try simp only [gop, gyield, gLenX, gNilM, gField, gIndexV, gPart, reduceIte, seval, Int.cast_ofNat_Int, stz, stp, isEff, sgl, sty, stq, Try.underlying130, Try.underlying89, ty23, ty24, ty83, ty88, ty136, ty65, ty91, ty97, ty99, ty130, ty3, ty4, ty5, ty89, ty9, rs108, Bool.false_and, Bool.not_false, gNil, gload1 (s5 _ _ (s4 _ _ m1)) sz24, g4, lk4 s5, gi, ld (s4.trans s5), List.getElem?_cons_zero, List.getElem?_cons_succ]))
    refine (c_BClone N h5 ((q2.hs s5)) hsm.2).mono ?_
    rintro _ h6 ⟨s6, o6⟩
    obtain ⟨a7, c7, rfl⟩ := o6.form
    have m26 := s6 _ _ (s5 _ _ (s4 _ _ m2))
    refine mk_of ?_; repeat' (first | (with_reducible first | refine gw_seq ?_ | refine gw_block ?_) | ((first | (with_reducible refine mk_to ?_) | (with_reducible first | refine gw_region ?_ | refine gw_if ?_ | refine gw_skip ?_ | refine gw_exit ?_ | refine gw_ret ?_) | ((with_reducible first | refine gif_b (fun hb => ?_) (fun hb => ?_) | refine want_t (fun hb => ?_) (fun hb => ?_) | refine want_f (fun hb => ?_) (fun hb => ?_) | refine dr_t (fun hb => ?_) (fun hb => ?_) | refine dr_f (fun hb => ?_) (fun hb => ?_)) <;> (try simp only [hb]) <;> (try simp only [hpr] at hb)) | with_reducible refine gw_draw (id := 1) [(0, []), (1, []), (2, []), (3, []), (4, []), (5, []), (6, []), (7, [])] [0, 1, 3, 7, 0, 16, 63, 127] mixed (by kernel_rfl) ?_ | with_reducible refine gw_draw (id := 7) [(0, []), (1, []), (2, []), (3, []), (4, []), (5, []), (6, []), (7, []), (8, []), (9, []), (10, []), (11, [])] [0, 1, 3, 7, 0, 0, 48, 112, 255, 511, 1023, 2047] mixed (by kernel_rfl) ?_ | with_reducible refine gw_draw (id := 9) [(0, []), (2, []), (3, []), (4, []), (5, []), (6, []), (8, []), (9, []), (10, []), (11, []), (1, [6, 11]), (7, [11]), (12, []), (13, []), (14, [])] [0, 1, 0, 0, 12, 28, 60, 127, 0, 0, 768, 1792, 4095, 8191, 16383] mixed (by kernel_rfl) ?_) <;> try simp only [gop, gyield, gLenX, gNilM, gField, gIndexV, gPart, reduceIte, seval, Int.cast_ofNat_Int, stz, stp, isEff, sgl, sty, stq, Try.underlying130, Try.underlying89, ty23, ty24, ty83, ty88, ty136, ty65, ty91, ty97, ty99, ty130, ty3, ty4, ty5, ty89, ty9, rs108, Bool.false_and, Bool.not_false, gNil, gload1 (s6 _ _ (s5 _ _ (s4 _ _ m1))) sz24, g4, lk4 (s5.trans s6), gi, ld ((s4.trans s5).trans s6), List.getElem?_cons_zero, List.getElem?_cons_succ, gBuild, lfill, lput, Shape.pl, List.all_cons, List.all_nil, isCell]))
    refine st_all m26 sz97 rfl (by decide) rfl rfl rfl fun h7 m7 f7 => ?_
    refine mk_of ?_; repeat' (first | (with_reducible first | refine gw_seq ?_ | refine gw_block ?_) | ((first | (with_reducible refine mk_to ?_) | (with_reducible first | refine gw_region ?_ | refine gw_if ?_ | refine gw_skip ?_ | refine gw_exit ?_ | refine gw_ret ?_) | ((with_reducible first | refine gif_b (fun hb => ?_) (fun hb => ?_) | refine want_t (fun hb => ?_) (fun hb => ?_) | refine want_f (fun hb => ?_) (fun hb => ?_) | refine dr_t (fun hb => ?_) (fun hb => ?_) | refine dr_f (fun hb => ?_) (fun hb => ?_)) <;> (try simp only [hb]) <;> (try simp only [hpr] at hb)) | with_reducible refine gw_draw (id := 1) [(0, []), (1, []), (2, []), (3, []), (4, []), (5, []), (6, []), (7, [])] [0, 1, 3, 7, 0, 16, 63, 127] mixed (by kernel_rfl) ?_ | with_reducible refine gw_draw (id := 7) [(0, []), (1, []), (2, []), (3, []), (4, []), (5, []), (6, []), (7, []), (8, []), (9, []), (10, []), (11, [])] [0, 1, 3, 7, 0, 0, 48, 112, 255, 511, 1023, 2047] mixed (by kernel_rfl) ?_ | with_reducible refine gw_draw (id := 9) [(0, []), (2, []), (3, []), (4, []), (5, []), (6, []), (8, []), (9, []), (10, []), (11, []), (1, [6, 11]), (7, [11]), (12, []), (13, []), (14, [])] [0, 1, 0, 0, 12, 28, 60, 127, 0, 0, 768, 1792, 4095, 8191, 16383] mixed (by kernel_rfl) ?_) <;> try simp only [gop, gyield, gLenX, gNilM, gField, gIndexV, gPart, reduceIte, seval, Int.cast_ofNat_Int, stz, stp, isEff, sgl, sty, stq, Try.underlying130, Try.underlying89, ty23, ty24, ty83, ty88, ty136, ty65, ty91, ty97, ty99, ty130, ty3, ty4, ty5, ty89, ty9, rs108, gloadA m7 sz97 rfl]))
    have hx : HX k2 h6 h7 := fun j B n e => (f7 j n).trans e
    have nk2 : h k2 = none := s1.none_of n2
    refine ⟨⟨a6, c6, a7, c7, rfl, (o5.rb.hs s6).hx m26 rfl hx, o6.rb.hx m26 rfl hx⟩, ?_⟩
    exact (((s12.trans s4).trans s5).trans s6).upd nk2 f7
  · simp only [if_true] at hi
    subst hi
    refine mk_of ?_; repeat' (first | (with_reducible first | refine gw_seq ?_ | refine gw_block ?_) | ((first | (with_reducible refine mk_to ?_) | (with_reducible first | refine gw_region ?_ | refine gw_if ?_ | refine gw_skip ?_ | refine gw_exit ?_ | refine gw_ret ?_) | ((with_reducible first | refine gif_b (fun hb => ?_) (fun hb => ?_) | refine want_t (fun hb => ?_) (fun hb => ?_) | refine want_f (fun hb => ?_) (fun hb => ?_) | refine dr_t (fun hb => ?_) (fun hb => ?_) | refine dr_f (fun hb => ?_) (fun hb => ?_)) <;> (try simp only [hb]) <;> (try simp only [hpr] at hb)) | with_reducible refine gw_draw (id := 1) [(0, []), (1, []), (2, []), (3, []), (4, []), (5, []), (6, []), (7, [])] [0, 1, 3, 7, 0, 16, 63, 127] mixed (by kernel_rfl) ?_ | with_reducible refine gw_draw (id := 7) [(0, []), (1, []), (2, []), (3, []), (4, []), (5, []), (6, []), (7, []), (8, []), (9, []), (10, []), (11, [])] [0, 1, 3, 7, 0, 0, 48, 112, 255, 511, 1023, 2047] mixed (by kernel_rfl) ?_ | with_reducible refine gw_draw (id := 9) [(0, []), (2, []), (3, []), (4, []), (5, []), (6, []), (8, []), (9, []), (10, []), (11, []), (1, [6, 11]), (7, [11]), (12, []), (13, []), (14, [])] [0, 1, 0, 0, 12, 28, 60, 127, 0, 0, 768, 1792, 4095, 8191, 16383] mixed (by kernel_rfl) ?_) <;> try simp only [gop, gyield, gLenX, gNilM, gField, gIndexV, gPart, reduceIte, seval, Int.cast_ofNat_Int, stz, stp, isEff, sgl, sty, stq, Try.underlying130, Try.underlying89, ty23, ty24, ty83, ty88, ty136, ty65, ty91, ty97, ty99, ty130, ty3, ty4, ty5, ty89, ty9, rs108, List.map_toArray, List.map_cons, List.map_nil, Bool.not_true, nn, gNil, gload1 ho2 sz88, gi, ld (HS.refl _), ge, gload1 hke sz23, hvb1, List.getElem?_cons_zero, List.getElem?_cons_succ]))
    refine (c_ixf N h3 bt.rl (by omega) m1 (r.hs s12) ⟨hqb, hqid⟩).mono ?_
    rintro _ h4 ⟨⟨i4, y4, rfl, hy4, hf4⟩, s4⟩
    have hkey : keyOf y.2 id = y4.2 := by unfold keyOf; rw [hf4]; rfl
    rw [hkey]
    have hid4 : y4.1 = id := by have := List.find?_some hf4; simpa using this
    obtain ⟨ad4, cs4, g4, g5, a5, n5, c5, b5, m5, d5, rfl, q1, q2⟩ := (bt.rl.bs s4).at (P := Try.prog) Try.underlying23 sz99 hy4
    have lk4 : ∀ {h' : GH}, HS h4 h' → gLoad Try.prog 24 h' (.pointer (some ⟨ad4.block, ad4.off + 1, none⟩)) = some (.slice b5 m5 d5) := fun {h'} s => by
      have := gread_get (gread_hc s.hc g5) (i := 1) (v := .slice b5 m5 d5) rfl
      simp only [gLoad, sz24, this]; rfl
    have hsp := gread_spot g5 (by decide)
    rw [addr_eta hsp] at g4
    have hsm := hby.1 _ (List.mem_of_getElem? hy4)
    have e5 := q2.len_eq
    subst e5
    have ho4 := s4 _ _ ho2
    refine mk_of ?_; repeat' (first | (with_reducible first | refine gw_seq ?_ | refine gw_block ?_) | ((first | (with_reducible refine mk_to ?_) | (with_reducible first | refine gw_region ?_ | refine gw_if ?_ | refine gw_skip ?_ | refine gw_exit ?_ | refine gw_ret ?_) | ((with_reducible first | refine gif_b (fun hb => ?_) (fun hb => ?_) | refine want_t (fun hb => ?_) (fun hb => ?_) | refine want_f (fun hb => ?_) (fun hb => ?_) | refine dr_t (fun hb => ?_) (fun hb => ?_) | refine dr_f (fun hb => ?_) (fun hb => ?_)) <;> (try simp only [hb]) <;> (try simp only [hpr] at hb)) | with_reducible refine gw_draw (id := 1) [(0, []), (1, []), (2, []), (3, []), (4, []), (5, []), (6, []), (7, [])] [0, 1, 3, 7, 0, 16, 63, 127] mixed (by kernel_rfl) ?_ | with_reducible refine gw_draw (id := 7) [(0, []), (1, []), (2, []), (3, []), (4, []), (5, []), (6, []), (7, []), (8, []), (9, []), (10, []), (11, [])] [0, 1, 3, 7, 0, 0, 48, 112, 255, 511, 1023, 2047] mixed (by kernel_rfl) ?_ | with_reducible refine gw_draw (id := 9) [(0, []), (2, []), (3, []), (4, []), (5, []), (6, []), (8, []), (9, []), (10, []), (11, []), (1, [6, 11]), (7, [11]), (12, []), (13, []), (14, [])] [0, 1, 0, 0, 12, 28, 60, 127, 0, 0, 768, 1792, 4095, 8191, 16383] mixed (by kernel_rfl) ?_) <;> try simp only [gop, gyield, gLenX, gNilM, gField, gIndexV, gPart, reduceIte, seval, Int.cast_ofNat_Int, stz, stp, isEff, sgl, sty, stq, Try.underlying130, Try.underlying89, ty23, ty24, ty83, ty88, ty136, ty65, ty91, ty97, ty99, ty130, ty3, ty4, ty5, ty89, ty9, rs108, Bool.false_and, Bool.not_false, gNil, gload1 (s4 _ _ m1) sz24, g4, lk4 (HS.refl _), gi, ld s4, List.getElem?_cons_zero, List.getElem?_cons_succ]))
    refine (c_BClone N h4 (r.hs (s12.trans s4)) hid).mono ?_
    rintro _ h5 ⟨s5, o5⟩
    obtain ⟨a6, c6, rfl⟩ := o5.form
    refine mk_of ?_; repeat' (first | (with_reducible first | refine gw_seq ?_ | refine gw_block ?_) | ((first | (with_reducible refine mk_to ?_) | (with_reducible first | refine gw_region ?_ | refine gw_if ?_ | refine gw_skip ?_ | refine gw_exit ?_ | refine gw_ret ?_) | ((with_reducible first | refine gif_b (fun hb => ?_) (fun hb => ?_) | refine want_t (fun hb => ?_) (fun hb => ?_) | refine want_f (fun hb => ?_) (fun hb => ?_) | refine dr_t (fun hb => ?_) (fun hb => ?_) | refine dr_f (fun hb => ?_) (fun hb => ?_)) <;> (try simp only [hb]) <;> (try simp only [hpr] at hb)) | with_reducible refine gw_draw (id := 1) [(0, []), (1, []), (2, []), (3, []), (4, []), (5, []), (6, []), (7, [])] [0, 1, 3, 7, 0, 16, 63, 127] mixed (by kernel_rfl) ?_ | with_reducible refine gw_draw (id := 7) [(0, []), (1, []), (2, []), (3, []), (4, []), (5, []), (6, []), (7, []), (8, []), (9, []), (10, []), (11, [])] [0, 1, 3, 7, 0, 0, 48, 112, 255, 511, 1023, 2047] mixed (by kernel_rfl) ?_ | with_reducible refine gw_draw (id := 9) [(0, []), (2, []), (3, []), (4, []), (5, []), (6, []), (8, []), (9, []), (10, []), (11, []), (1, [6, 11]), (7, [11]), (12, []), (13, []), (14, [])] [0, 1, 0, 0, 12, 28, 60, 127, 0, 0, 768, 1792, 4095, 8191, 16383] mixed (by kernel_rfl) ?_) <;> try simp only [gop, gyield, gLenX, gNilM, gField, gIndexV, gPart, reduceIte, seval, Int.cast_ofNat_Int, stz, stp, isEff, sgl, sty, stq, Try.underlying130, Try.underlying89, ty23, ty24, ty83, ty88, ty136, ty65, ty91, ty97, ty99, ty130, ty3, ty4, ty5, ty89, ty9, rs108, Bool.false_and, Bool.not_false, gNil, gload1 (s5 _ _ (s4 _ _ m1)) sz24, g4, lk4 s5, gi, ld (s4.trans s5), List.getElem?_cons_zero, List.getElem?_cons_succ]))
    refine (c_BClone N h5 ((q2.hs s5)) hsm.2).mono ?_
    rintro _ h6 ⟨s6, o6⟩
    obtain ⟨a7, c7, rfl⟩ := o6.form
    have m26 := s6 _ _ (s5 _ _ (s4 _ _ m2))
    refine mk_of ?_; repeat' (first | (with_reducible first | refine gw_seq ?_ | refine gw_block ?_) | ((first | (with_reducible refine mk_to ?_) | (with_reducible first | refine gw_region ?_ | refine gw_if ?_ | refine gw_skip ?_ | refine gw_exit ?_ | refine gw_ret ?_) | ((with_reducible first | refine gif_b (fun hb => ?_) (fun hb => ?_) | refine want_t (fun hb => ?_) (fun hb => ?_) | refine want_f (fun hb => ?_) (fun hb => ?_) | refine dr_t (fun hb => ?_) (fun hb => ?_) | refine dr_f (fun hb => ?_) (fun hb => ?_)) <;> (try simp only [hb]) <;> (try simp only [hpr] at hb)) | with_reducible refine gw_draw (id := 1) [(0, []), (1, []), (2, []), (3, []), (4, []), (5, []), (6, []), (7, [])] [0, 1, 3, 7, 0, 16, 63, 127] mixed (by kernel_rfl) ?_ | with_reducible refine gw_draw (id := 7) [(0, []), (1, []), (2, []), (3, []), (4, []), (5, []), (6, []), (7, []), (8, []), (9, []), (10, []), (11, [])] [0, 1, 3, 7, 0, 0, 48, 112, 255, 511, 1023, 2047] mixed (by kernel_rfl) ?_ | with_reducible refine gw_draw (id := 9) [(0, []), (2, []), (3, []), (4, []), (5, []), (6, []), (8, []), (9, []), (10, []), (11, []), (1, [6, 11]), (7, [11]), (12, []), (13, []), (14, [])] [0, 1, 0, 0, 12, 28, 60, 127, 0, 0, 768, 1792, 4095, 8191, 16383] mixed (by kernel_rfl) ?_) <;> try simp only [gop, gyield, gLenX, gNilM, gField, gIndexV, gPart, reduceIte, seval, Int.cast_ofNat_Int, stz, stp, isEff, sgl, sty, stq, Try.underlying130, Try.underlying89, ty23, ty24, ty83, ty88, ty136, ty65, ty91, ty97, ty99, ty130, ty3, ty4, ty5, ty89, ty9, rs108, Bool.false_and, Bool.not_false, gNil, gload1 (s6 _ _ (s5 _ _ (s4 _ _ m1))) sz24, g4, lk4 (s5.trans s6), gi, ld ((s4.trans s5).trans s6), List.getElem?_cons_zero, List.getElem?_cons_succ, gBuild, lfill, lput, Shape.pl, List.all_cons, List.all_nil, isCell]))
    refine st_all m26 sz97 rfl (by decide) rfl rfl rfl fun h7 m7 f7 => ?_
    refine mk_of ?_; repeat' (first | (with_reducible first | refine gw_seq ?_ | refine gw_block ?_) | ((first | (with_reducible refine mk_to ?_) | (with_reducible first | refine gw_region ?_ | refine gw_if ?_ | refine gw_skip ?_ | refine gw_exit ?_ | refine gw_ret ?_) | ((with_reducible first | refine gif_b (fun hb => ?_) (fun hb => ?_) | refine want_t (fun hb => ?_) (fun hb => ?_) | refine want_f (fun hb => ?_) (fun hb => ?_) | refine dr_t (fun hb => ?_) (fun hb => ?_) | refine dr_f (fun hb => ?_) (fun hb => ?_)) <;> (try simp only [hb]) <;> (try simp only [hpr] at hb)) | with_reducible refine gw_draw (id := 1) [(0, []), (1, []), (2, []), (3, []), (4, []), (5, []), (6, []), (7, [])] [0, 1, 3, 7, 0, 16, 63, 127] mixed (by kernel_rfl) ?_ | with_reducible refine gw_draw (id := 7) [(0, []), (1, []), (2, []), (3, []), (4, []), (5, []), (6, []), (7, []), (8, []), (9, []), (10, []), (11, [])] [0, 1, 3, 7, 0, 0, 48, 112, 255, 511, 1023, 2047] mixed (by kernel_rfl) ?_ | with_reducible refine gw_draw (id := 9) [(0, []), (2, []), (3, []), (4, []), (5, []), (6, []), (8, []), (9, []), (10, []), (11, []), (1, [6, 11]), (7, [11]), (12, []), (13, []), (14, [])] [0, 1, 0, 0, 12, 28, 60, 127, 0, 0, 768, 1792, 4095, 8191, 16383] mixed (by kernel_rfl) ?_) <;> try simp only [gop, gyield, gLenX, gNilM, gField, gIndexV, gPart, reduceIte, seval, Int.cast_ofNat_Int, stz, stp, isEff, sgl, sty, stq, Try.underlying130, Try.underlying89, ty23, ty24, ty83, ty88, ty136, ty65, ty91, ty97, ty99, ty130, ty3, ty4, ty5, ty89, ty9, rs108, gloadA m7 sz97 rfl]))
    have hx : HX k2 h6 h7 := fun j B n e => (f7 j n).trans e
    have nk2 : h k2 = none := s1.none_of n2
    refine ⟨⟨a6, c6, a7, c7, rfl, (o5.rb.hs s6).hx m26 rfl hx, o6.rb.hx m26 rfl hx⟩, ?_⟩
    exact (((s12.trans s4).trans s5).trans s6).upd nk2 f7
end Go.Gh

/- Ideal: answers; what is wrong with what is asked. -/

namespace Go.Gh
open Go Go.Proofs Go.RowKit
set_option linter.unusedVariables false
set_option linter.unusedSimpArgs false
set_option maxRecDepth 100000
set_option maxHeartbeats 4000000

/-- What is asked. -/
structure Ak where
  kd : Int
  id : List UInt8
  fr : Int
  to : Int
  tm : Int
  sm : Bool
  ep : Int
  ix : Int
  lm : Int
  b : List Bnd
abbrev Itm := Bnd × Nat
def It (h : GH) (cs : List Value) (x : Itm) : Prop := ∃ a c b d, cs = [.slice a x.1.1.length c, .slice b x.1.2.length d, .int .i64 (x.2 : Int)] ∧ RB h (.slice a x.1.1.length c) x.1.1 ∧ RB h (.slice b x.1.2.length d) x.1.2
/-- An answer. -/
structure An where
  code : Int := 0
  ep : Int := 0
  pr : Bool := false
  sm : Bool := false
  key : List UInt8 := []
  si : Int := 0
  its : List Itm := []
  evs : List (Nat × Nat × Bnd) := []
  more : Bool := false
def RAn (h : GH) (v : Value) (x : An) : Prop := ∃ a b c d e f, v = .agg #[.int .i64 x.code, .int .i64 x.ep, .bool x.pr, .bool x.sm, .slice a x.key.length b, .int .i64 x.si, .slice c x.its.length d, .slice e x.evs.length f, .bool x.more] ∧
  RB h (.slice a x.key.length b) x.key ∧ RL 3 It h (.slice c x.its.length d) x.its ∧ RL 4 Ev h (.slice e x.evs.length f) x.evs
theorem It.hs {h h' : GH} (x : HS h h') {cs : List Value} {e : Itm} (r : It h cs e) : It h' cs e := by
  obtain ⟨a, c, b, d, e, r1, r2⟩ := r
  exact ⟨a, c, b, d, e, r1.hs x, r2.hs x⟩
theorem RAn.hs {h h' : GH} (s : HS h h') {v : Value} {x : An} (r : RAn h v x) : RAn h' v x := by
  obtain ⟨a, b, c, d, e, f, rfl, r1, r2, r3⟩ := r
  exact ⟨a, b, c, d, e, f, rfl, r1.hs s, r2.hcR s.hc fun _ _ q => q.hs s, r3.hcR s.hc fun _ _ q => q.hs s⟩
theorem RAn.zero (h : GH) (e t : Int) : RAn h (zans e t) { code := e, ep := t } := ⟨none, 0, none, 0, none, 0, rfl, RB.nil h, RL.nil h, RL.nil h⟩
def asofA (M : List (Int × List Bnd)) (id : List UInt8) (e : Int) : An := match atI M id e with
  | none => {}
  | some (key, ep) => { pr := true, key := key, si := (ep : Int) }

theorem c_asof (N : Nat) {h0 h : GH} {k j : Nat} {p : Pm} {ew : Value} {cs l : List Value} {M : List (Int × List Bnd)} {ck : Int} {n : Nat} (x : IM h0 h k j p ew cs l M ck n) {a : Option Addr} {c : Nat} {id : List UInt8} (r : RB h (.slice a id.length c) id) (hid : id.length ≤ 140737488355328) (e : Int)
    {c0 c2 c4 c5 c6 c7 c8 c9 : Value} (hc : [c0, c2, c4, c5, c6, c7, c8, c9].all isCell = true) :
    GTri Try.prog N 72 [.pointer (some ⟨k, 0, none⟩), .agg #[c0, .slice a id.length c, c2, .int .i64 e, c4, c5, c6, c7, c8, c9]] h fun v h' => RAn h' v (asofA M id e) ∧ HS h h' := by
  refine gtri Try.func72 rfl gf72 ok72 (by simp [Try.ntmps72]) ?_
  repeat' (first | (with_reducible first | refine gw_seq ?_ | refine gw_block ?_) | ((first | (with_reducible first | refine gw_region ?_ | refine gw_if ?_ | refine gw_skip ?_ | refine gw_exit ?_ | refine gw_ret ?_) | ((with_reducible first | refine gif_b (fun hb => ?_) (fun hb => ?_) | refine want_t (fun hb => ?_) (fun hb => ?_) | refine want_f (fun hb => ?_) (fun hb => ?_)) <;> (try simp only [hb]) <;> (try simp only [hpr] at hb))) <;> try simp only [gop, gyield, gLenX, gNilM, gField, gIndexV, gPart, reduceIte, seval, Int.cast_ofNat_Int, stz, stp, ty23, ty24, ty36, ty68, ty62, ty70, ty91, ty97, ty29, ty3, ty4, ty5, ty63, rs72]))
  refine box_g (by simpa [isCell] using hc) fun k1 h1 m1 s1 f1 n1 => ?_
  refine mk_of ?_; repeat' (first | (with_reducible first | refine gw_seq ?_ | refine gw_block ?_) | ((first | (with_reducible refine mk_to ?_) | (with_reducible first | refine gw_region ?_ | refine gw_if ?_ | refine gw_skip ?_ | refine gw_exit ?_ | refine gw_ret ?_) | ((with_reducible first | refine gif_b (fun hb => ?_) (fun hb => ?_) | refine want_t (fun hb => ?_) (fun hb => ?_) | refine want_f (fun hb => ?_) (fun hb => ?_)) <;> (try simp only [hb]) <;> (try simp only [hpr] at hb))) <;> try simp only [gop, gyield, gLenX, gNilM, gField, gIndexV, gPart, reduceIte, seval, Int.cast_ofNat_Int, stz, stp, ty23, ty24, ty36, ty68, ty62, ty70, ty91, ty97, ty29, ty3, ty4, ty5, ty63, rs72]))
  refine new_g fun k2 h2 m2 s2 f2 n2 => ?_
  replace m1 := s2 _ _ m1
  have s12 := s1.trans s2
  refine mk_of ?_; repeat' (first | (with_reducible first | refine gw_seq ?_ | refine gw_block ?_) | ((first | (with_reducible refine mk_to ?_) | (with_reducible first | refine gw_region ?_ | refine gw_if ?_ | refine gw_skip ?_ | refine gw_exit ?_ | refine gw_ret ?_) | ((with_reducible first | refine gif_b (fun hb => ?_) (fun hb => ?_) | refine want_t (fun hb => ?_) (fun hb => ?_) | refine want_f (fun hb => ?_) (fun hb => ?_)) <;> (try simp only [hb]) <;> (try simp only [hpr] at hb))) <;> try simp only [gop, gyield, gLenX, gNilM, gField, gIndexV, gPart, reduceIte, seval, Int.cast_ofNat_Int, stz, stp, ty23, ty24, ty36, ty68, ty62, ty70, ty91, ty97, ty29, ty3, ty4, ty5, ty63, rs72, gload1 m1 sz24, gload1 m1 sz3, List.getElem?_cons_zero, List.getElem?_cons_succ]))
  refine (c_iat N (x.hs s12) (r.hs s12) hid e).mono ?_
  rintro v3 h3 ⟨at3, s3⟩
  have hx : ∀ {h' : GH}, (∀ j, j ≠ k2 → h' j = h3 j) → HS h h' := fun {h'} f => (s12.trans s3).upd (s1.none_of n2) f
  unfold asofA
  cases hA : atI M id e with
  | none =>
    rw [hA] at at3
    simp only [AtV] at at3
    subst at3
    refine mk_of ?_; repeat' (first | (with_reducible first | refine gw_seq ?_ | refine gw_block ?_) | ((first | (with_reducible refine mk_to ?_) | (with_reducible first | refine gw_region ?_ | refine gw_if ?_ | refine gw_skip ?_ | refine gw_exit ?_ | refine gw_ret ?_) | ((with_reducible first | refine gif_b (fun hb => ?_) (fun hb => ?_) | refine want_t (fun hb => ?_) (fun hb => ?_) | refine want_f (fun hb => ?_) (fun hb => ?_)) <;> (try simp only [hb]) <;> (try simp only [hpr] at hb))) <;> try simp only [gop, gyield, gLenX, gNilM, gField, gIndexV, gPart, reduceIte, seval, Int.cast_ofNat_Int, stz, stp, ty23, ty24, ty36, ty68, ty62, ty70, ty91, ty97, ty29, ty3, ty4, ty5, ty63, rs72]))
    refine new_g fun k4 h4 m4 s4 f4 n4 => ?_
    refine mk_of ?_; repeat' (first | (with_reducible first | refine gw_seq ?_ | refine gw_block ?_) | ((first | (with_reducible refine mk_to ?_) | (with_reducible first | refine gw_region ?_ | refine gw_if ?_ | refine gw_skip ?_ | refine gw_exit ?_ | refine gw_ret ?_) | ((with_reducible first | refine gif_b (fun hb => ?_) (fun hb => ?_) | refine want_t (fun hb => ?_) (fun hb => ?_) | refine want_f (fun hb => ?_) (fun hb => ?_)) <;> (try simp only [hb]) <;> (try simp only [hpr] at hb))) <;> try simp only [gop, gyield, gLenX, gNilM, gField, gIndexV, gPart, reduceIte, seval, Int.cast_ofNat_Int, stz, stp, ty23, ty24, ty36, ty68, ty62, ty70, ty91, ty97, ty29, ty3, ty4, ty5, ty63, rs72]))
    refine st_all m4 sz97 rfl (by decide) rfl rfl rfl fun h5 m5 f5 => ?_
    have s5 : HS h3 h5 := (HS.refl h3).upd n4 (fun j hj => (f5 j hj).trans (f4 j hj))
    have m25 := s5 _ _ (s3 _ _ m2)
    refine mk_of ?_; repeat' (first | (with_reducible first | refine gw_seq ?_ | refine gw_block ?_) | ((first | (with_reducible refine mk_to ?_) | (with_reducible first | refine gw_region ?_ | refine gw_if ?_ | refine gw_skip ?_ | refine gw_exit ?_ | refine gw_ret ?_) | ((with_reducible first | refine gif_b (fun hb => ?_) (fun hb => ?_) | refine want_t (fun hb => ?_) (fun hb => ?_) | refine want_f (fun hb => ?_) (fun hb => ?_)) <;> (try simp only [hb]) <;> (try simp only [hpr] at hb))) <;> try simp only [gop, gyield, gLenX, gNilM, gField, gIndexV, gPart, reduceIte, seval, Int.cast_ofNat_Int, stz, stp, ty23, ty24, ty36, ty68, ty62, ty70, ty91, ty97, ty29, ty3, ty4, ty5, ty63, rs72, gload1 m5 sz24, gload1 m5 sz3, List.getElem?_cons_zero, List.getElem?_cons_succ, gBuild, lfill, lput, Shape.pl, List.all_cons, List.all_nil, isCell]))
    refine st_all m25 sz70 rfl (by decide) rfl rfl rfl fun h6 m6 f6 => ?_
    refine mk_of ?_; repeat' (first | (with_reducible first | refine gw_seq ?_ | refine gw_block ?_) | ((first | (with_reducible refine mk_to ?_) | (with_reducible first | refine gw_region ?_ | refine gw_if ?_ | refine gw_skip ?_ | refine gw_exit ?_ | refine gw_ret ?_) | ((with_reducible first | refine gif_b (fun hb => ?_) (fun hb => ?_) | refine want_t (fun hb => ?_) (fun hb => ?_) | refine want_f (fun hb => ?_) (fun hb => ?_)) <;> (try simp only [hb]) <;> (try simp only [hpr] at hb))) <;> try simp only [gop, gyield, gLenX, gNilM, gField, gIndexV, gPart, reduceIte, seval, Int.cast_ofNat_Int, stz, stp, ty23, ty24, ty36, ty68, ty62, ty70, ty91, ty97, ty29, ty3, ty4, ty5, ty63, rs72, gloadA m6 sz70 rfl]))
    exact ⟨RAn.zero h6 0 0, ((s12.trans s3).trans s5).upd (s1.none_of n2) f6⟩
  | some q =>
    obtain ⟨key, ep⟩ := q
    rw [hA] at at3
    simp only [AtV] at at3
    obtain ⟨a3, c3, b3, d3, rfl, r3, r4⟩ := at3
    refine mk_of ?_; repeat' (first | (with_reducible first | refine gw_seq ?_ | refine gw_block ?_) | ((first | (with_reducible refine mk_to ?_) | (with_reducible first | refine gw_region ?_ | refine gw_if ?_ | refine gw_skip ?_ | refine gw_exit ?_ | refine gw_ret ?_) | ((with_reducible first | refine gif_b (fun hb => ?_) (fun hb => ?_) | refine want_t (fun hb => ?_) (fun hb => ?_) | refine want_f (fun hb => ?_) (fun hb => ?_)) <;> (try simp only [hb]) <;> (try simp only [hpr] at hb))) <;> try simp only [gop, gyield, gLenX, gNilM, gField, gIndexV, gPart, reduceIte, seval, Int.cast_ofNat_Int, stz, stp, ty23, ty24, ty36, ty68, ty62, ty70, ty91, ty97, ty29, ty3, ty4, ty5, ty63, rs72]))
    refine new_g fun k4 h4 m4 s4 f4 n4 => ?_
    refine mk_of ?_; repeat' (first | (with_reducible first | refine gw_seq ?_ | refine gw_block ?_) | ((first | (with_reducible refine mk_to ?_) | (with_reducible first | refine gw_region ?_ | refine gw_if ?_ | refine gw_skip ?_ | refine gw_exit ?_ | refine gw_ret ?_) | ((with_reducible first | refine gif_b (fun hb => ?_) (fun hb => ?_) | refine want_t (fun hb => ?_) (fun hb => ?_) | refine want_f (fun hb => ?_) (fun hb => ?_)) <;> (try simp only [hb]) <;> (try simp only [hpr] at hb))) <;> try simp only [gop, gyield, gLenX, gNilM, gField, gIndexV, gPart, reduceIte, seval, Int.cast_ofNat_Int, stz, stp, ty23, ty24, ty36, ty68, ty62, ty70, ty91, ty97, ty29, ty3, ty4, ty5, ty63, rs72]))
    refine st_all m4 sz97 rfl (by decide) rfl rfl rfl fun h5 m5 f5 => ?_
    have s5 : HS h3 h5 := (HS.refl h3).upd n4 (fun j hj => (f5 j hj).trans (f4 j hj))
    have m25 := s5 _ _ (s3 _ _ m2)
    refine mk_of ?_; repeat' (first | (with_reducible first | refine gw_seq ?_ | refine gw_block ?_) | ((first | (with_reducible refine mk_to ?_) | (with_reducible first | refine gw_region ?_ | refine gw_if ?_ | refine gw_skip ?_ | refine gw_exit ?_ | refine gw_ret ?_) | ((with_reducible first | refine gif_b (fun hb => ?_) (fun hb => ?_) | refine want_t (fun hb => ?_) (fun hb => ?_) | refine want_f (fun hb => ?_) (fun hb => ?_)) <;> (try simp only [hb]) <;> (try simp only [hpr] at hb))) <;> try simp only [gop, gyield, gLenX, gNilM, gField, gIndexV, gPart, reduceIte, seval, Int.cast_ofNat_Int, stz, stp, ty23, ty24, ty36, ty68, ty62, ty70, ty91, ty97, ty29, ty3, ty4, ty5, ty63, rs72, gload1 m5 sz24, gload1 m5 sz3, List.getElem?_cons_zero, List.getElem?_cons_succ, gBuild, lfill, lput, Shape.pl, List.all_cons, List.all_nil, isCell]))
    refine st_all m25 sz70 rfl (by decide) rfl rfl rfl fun h6 m6 f6 => ?_
    refine mk_of ?_; repeat' (first | (with_reducible first | refine gw_seq ?_ | refine gw_block ?_) | ((first | (with_reducible refine mk_to ?_) | (with_reducible first | refine gw_region ?_ | refine gw_if ?_ | refine gw_skip ?_ | refine gw_exit ?_ | refine gw_ret ?_) | ((with_reducible first | refine gif_b (fun hb => ?_) (fun hb => ?_) | refine want_t (fun hb => ?_) (fun hb => ?_) | refine want_f (fun hb => ?_) (fun hb => ?_)) <;> (try simp only [hb]) <;> (try simp only [hpr] at hb))) <;> try simp only [gop, gyield, gLenX, gNilM, gField, gIndexV, gPart, reduceIte, seval, Int.cast_ofNat_Int, stz, stp, ty23, ty24, ty36, ty68, ty62, ty70, ty91, ty97, ty29, ty3, ty4, ty5, ty63, rs72, gloadA m6 sz70 rfl]))
    exact ⟨⟨b3, d3, none, 0, none, 0, rfl, (r4.hs s5).hx m25 rfl (fun j B n e => (f6 j n).trans e), RL.nil h6, RL.nil h6⟩, ((s12.trans s3).trans s5).upd (s1.none_of n2) f6⟩

/-- What is wrong. -/
def wrongF (r g : Bool) (p : Pm) (m : Nat) (q : Ak) : Int :=
  if (q.id.length : Int) > p.mi ∨ q.to < 0 ∨ (r = true ∧ q.fr < 0) then 1 else if q.to ≥ (m : Int) then 83 else if r = true ∧ q.fr > q.to then 84 else if g = true ∧ (q.lm < 1 ∨ q.lm > p.pg) then 1 else 0
def rngK (k : Int) : Bool := k == 6 || k == 7 || k == 10 || k == 5
def pagK (k : Int) : Bool := k == 6 || k == 7 || k == 10
theorem c_wrong (N : Nat) {h0 h : GH} {k j : Nat} {p : Pm} {ew : Value} {cs l : List Value} {M : List (Int × List Bnd)} {ck : Int} {n : Nat} (x : IM h0 h k j p ew cs l M ck n) {a : Option Addr} {c : Nat} (q : Ak) (hid : q.id.length ≤ 140737488355328)
    {c4 c5 c6 c7 c9 : Value} (hc : [c4, c5, c6, c7, c9].all isCell = true) :
    GTri Try.prog N 78 [.pointer (some ⟨k, 0, none⟩), .agg #[.int .i64 q.kd, .slice a q.id.length c, .int .i64 q.fr, .int .i64 q.to, c4, c5, c6, c7, .int .i64 q.lm, c9]] h fun v h' => v = .int .i64 (wrongF (rngK q.kd) (pagK q.kd) p M.length q) ∧ HS h h' := by
  have cases5 : ∃ b6 b7 b10 b5 : Bool, (q.kd == 6) = b6 ∧ (q.kd == 7) = b7 ∧ (q.kd == 10) = b10 ∧ (q.kd == 5) = b5 ∧ rngK q.kd = (b6 || b7 || b10 || b5) ∧ pagK q.kd = (b6 || b7 || b10) ∧
      ((b6 = true ∧ b7 = false ∧ b10 = false ∧ b5 = false) ∨ (b6 = false ∧ b7 = true ∧ b10 = false ∧ b5 = false) ∨ (b6 = false ∧ b7 = false ∧ b10 = true ∧ b5 = false) ∨ (b6 = false ∧ b7 = false ∧ b10 = false ∧ b5 = true) ∨ (b6 = false ∧ b7 = false ∧ b10 = false ∧ b5 = false)) := by
    refine ⟨_, _, _, _, rfl, rfl, rfl, rfl, rfl, rfl, ?_⟩
    by_cases h6 : q.kd = 6
    · left; simp [h6]
    by_cases h7 : q.kd = 7
    · right; left; simp [h7]
    by_cases h10 : q.kd = 10
    · right; right; left; simp [h10]
    by_cases h5 : q.kd = 5
    · right; right; right; left; simp [h5]
    · right; right; right; right; simp [h6, h7, h10, h5]
  obtain ⟨b6, b7, b10, b5, e6, e7, e10, e5, hR, hG, hb⟩ := cases5
  rw [hR, hG]
  obtain ⟨ae, ce, ee⟩ := x.ep.form
  refine gtri Try.func78 rfl gf78 ok78 (by simp [Try.ntmps78]) ?_
  repeat' (first | (with_reducible first | refine gw_seq ?_ | refine gw_block ?_) | ((first | (with_reducible first | refine gw_region ?_ | refine gw_if ?_ | refine gw_skip ?_ | refine gw_exit ?_ | refine gw_ret ?_) | ((with_reducible first | refine gif_b (fun hb => ?_) (fun hb => ?_) | refine want_t (fun hb => ?_) (fun hb => ?_) | refine want_f (fun hb => ?_) (fun hb => ?_) | refine dr_t (fun hb => ?_) (fun hb => ?_) | refine dr_f (fun hb => ?_) (fun hb => ?_)) <;> (try simp only [hb]) <;> (try simp only [hpr] at hb)) | with_reducible refine gw_draw (id := 9) [(0, []), (1, []), (2, []), (3, []), (4, []), (5, []), (6, []), (7, []), (8, []), (9, []), (10, []), (11, []), (12, []), (13, []), (14, []), (15, []), (16, []), (17, []), (18, []), (19, []), (20, []), (21, []), (22, [])] [0, 1, 3, 0, 8, 24, 56, 120, 255, 511, 1023, 2047, 4095, 8191, 16383, 32767, 65535, 131071, 262143, 524287, 1048575, 2097151, 4194303] mixed (by kernel_rfl) ?_ | with_reducible refine gw_draw (id := 11) [(0, []), (1, []), (2, []), (3, []), (4, []), (5, []), (6, []), (7, []), (8, [])] [0, 1, 0, 4, 12, 28, 60, 127, 255] mixed (by kernel_rfl) ?_ | with_reducible refine gw_draw (id := 15) [(0, []), (1, []), (2, []), (3, []), (4, []), (5, []), (6, []), (7, []), (8, []), (9, []), (10, []), (11, []), (12, []), (13, []), (14, []), (15, []), (16, [])] [0, 1, 3, 7, 15, 31, 63, 127, 63, 319, 831, 1855, 3903, 8191, 16383, 32767, 65535] mixed (by kernel_rfl) ?_) <;> try simp only [gop, gyield, gLenX, gNilM, gField, gIndexV, gPart, reduceIte, seval, Int.cast_ofNat_Int, stz, stp, isEff, sgl, sty, stq, Try.underlying89, ty23, ty24, ty88, ty136, ty62, ty65, ty91, ty3, ty4, ty5, ty89, rs78]))
  refine box_g (by simpa [isCell] using hc) fun k1 h1 m1 s1 f1 n1 => ?_
  have x1 := x.hs s1
  have ho := x1.obj
  rw [ee] at ho
  rcases hb with ⟨rfl, rfl, rfl, rfl⟩ | ⟨rfl, rfl, rfl, rfl⟩ | ⟨rfl, rfl, rfl, rfl⟩ | ⟨rfl, rfl, rfl, rfl⟩ | ⟨rfl, rfl, rfl, rfl⟩
  all_goals
    cases d1 : decide ((q.id.length : Int) > p.mi)
    case true =>
      have c1 := of_decide_eq_true d1
      refine mk_of ?_; repeat' (first | (with_reducible first | refine gw_seq ?_ | refine gw_block ?_) | ((first | (with_reducible refine mk_to ?_) | (with_reducible first | refine gw_region ?_ | refine gw_if ?_ | refine gw_skip ?_ | refine gw_exit ?_ | refine gw_ret ?_) | ((with_reducible first | refine gif_b (fun hb => ?_) (fun hb => ?_) | refine want_t (fun hb => ?_) (fun hb => ?_) | refine want_f (fun hb => ?_) (fun hb => ?_) | refine dr_t (fun hb => ?_) (fun hb => ?_) | refine dr_f (fun hb => ?_) (fun hb => ?_)) <;> (try simp only [hb]) <;> (try simp only [hpr] at hb)) | with_reducible refine gw_draw (id := 9) [(0, []), (1, []), (2, []), (3, []), (4, []), (5, []), (6, []), (7, []), (8, []), (9, []), (10, []), (11, []), (12, []), (13, []), (14, []), (15, []), (16, []), (17, []), (18, []), (19, []), (20, []), (21, []), (22, [])] [0, 1, 3, 0, 8, 24, 56, 120, 255, 511, 1023, 2047, 4095, 8191, 16383, 32767, 65535, 131071, 262143, 524287, 1048575, 2097151, 4194303] mixed (by kernel_rfl) ?_ | with_reducible refine gw_draw (id := 11) [(0, []), (1, []), (2, []), (3, []), (4, []), (5, []), (6, []), (7, []), (8, [])] [0, 1, 0, 4, 12, 28, 60, 127, 255] mixed (by kernel_rfl) ?_ | with_reducible refine gw_draw (id := 15) [(0, []), (1, []), (2, []), (3, []), (4, []), (5, []), (6, []), (7, []), (8, []), (9, []), (10, []), (11, []), (12, []), (13, []), (14, []), (15, []), (16, [])] [0, 1, 3, 7, 15, 31, 63, 127, 63, 319, 831, 1855, 3903, 8191, 16383, 32767, 65535] mixed (by kernel_rfl) ?_) <;> try simp only [gop, gyield, gLenX, gNilM, gField, gIndexV, gPart, reduceIte, seval, Int.cast_ofNat_Int, stz, stp, isEff, sgl, sty, stq, Try.underlying89, ty23, ty24, ty88, ty136, ty62, ty65, ty91, ty3, ty4, ty5, ty89, rs78, gNil, gload1 m1 sz3, gload1 m1 sz24, gload1 ho sz3, gload1 ho sz88, e6, e7, e10, e5, gPick, Bool.or_true, Bool.or_false, Bool.true_or, Bool.false_or, List.getElem?_cons_zero, List.getElem?_cons_succ, d1]))
      exact ⟨by simp only [wrongF, c1, true_or, if_true], s1⟩
    have c1 := of_decide_eq_false d1
    cases d2 : decide (q.to < 0)
    case true =>
      have c2 := of_decide_eq_true d2
      refine mk_of ?_; repeat' (first | (with_reducible first | refine gw_seq ?_ | refine gw_block ?_) | ((first | (with_reducible refine mk_to ?_) | (with_reducible first | refine gw_region ?_ | refine gw_if ?_ | refine gw_skip ?_ | refine gw_exit ?_ | refine gw_ret ?_) | ((with_reducible first | refine gif_b (fun hb => ?_) (fun hb => ?_) | refine want_t (fun hb => ?_) (fun hb => ?_) | refine want_f (fun hb => ?_) (fun hb => ?_) | refine dr_t (fun hb => ?_) (fun hb => ?_) | refine dr_f (fun hb => ?_) (fun hb => ?_)) <;> (try simp only [hb]) <;> (try simp only [hpr] at hb)) | with_reducible refine gw_draw (id := 9) [(0, []), (1, []), (2, []), (3, []), (4, []), (5, []), (6, []), (7, []), (8, []), (9, []), (10, []), (11, []), (12, []), (13, []), (14, []), (15, []), (16, []), (17, []), (18, []), (19, []), (20, []), (21, []), (22, [])] [0, 1, 3, 0, 8, 24, 56, 120, 255, 511, 1023, 2047, 4095, 8191, 16383, 32767, 65535, 131071, 262143, 524287, 1048575, 2097151, 4194303] mixed (by kernel_rfl) ?_ | with_reducible refine gw_draw (id := 11) [(0, []), (1, []), (2, []), (3, []), (4, []), (5, []), (6, []), (7, []), (8, [])] [0, 1, 0, 4, 12, 28, 60, 127, 255] mixed (by kernel_rfl) ?_ | with_reducible refine gw_draw (id := 15) [(0, []), (1, []), (2, []), (3, []), (4, []), (5, []), (6, []), (7, []), (8, []), (9, []), (10, []), (11, []), (12, []), (13, []), (14, []), (15, []), (16, [])] [0, 1, 3, 7, 15, 31, 63, 127, 63, 319, 831, 1855, 3903, 8191, 16383, 32767, 65535] mixed (by kernel_rfl) ?_) <;> try simp only [gop, gyield, gLenX, gNilM, gField, gIndexV, gPart, reduceIte, seval, Int.cast_ofNat_Int, stz, stp, isEff, sgl, sty, stq, Try.underlying89, ty23, ty24, ty88, ty136, ty62, ty65, ty91, ty3, ty4, ty5, ty89, rs78, gNil, gload1 m1 sz3, gload1 m1 sz24, gload1 ho sz3, gload1 ho sz88, e6, e7, e10, e5, gPick, Bool.or_true, Bool.or_false, Bool.true_or, Bool.false_or, List.getElem?_cons_zero, List.getElem?_cons_succ, d1, d2]))
      exact ⟨by simp only [wrongF, c2, true_or, or_true, if_true], s1⟩
    have c2 := of_decide_eq_false d2
    cases d3 : decide (q.fr < 0)
    case true =>
      have c3 := of_decide_eq_true d3
      cases d4 : decide (q.to ≥ (M.length : Int))
      case true =>
        have c4 := of_decide_eq_true d4
        refine mk_of ?_; repeat' (first | (with_reducible first | refine gw_seq ?_ | refine gw_block ?_) | ((first | (with_reducible refine mk_to ?_) | (with_reducible first | refine gw_region ?_ | refine gw_if ?_ | refine gw_skip ?_ | refine gw_exit ?_ | refine gw_ret ?_) | ((with_reducible first | refine gif_b (fun hb => ?_) (fun hb => ?_) | refine want_t (fun hb => ?_) (fun hb => ?_) | refine want_f (fun hb => ?_) (fun hb => ?_) | refine dr_t (fun hb => ?_) (fun hb => ?_) | refine dr_f (fun hb => ?_) (fun hb => ?_)) <;> (try simp only [hb]) <;> (try simp only [hpr] at hb)) | with_reducible refine gw_draw (id := 9) [(0, []), (1, []), (2, []), (3, []), (4, []), (5, []), (6, []), (7, []), (8, []), (9, []), (10, []), (11, []), (12, []), (13, []), (14, []), (15, []), (16, []), (17, []), (18, []), (19, []), (20, []), (21, []), (22, [])] [0, 1, 3, 0, 8, 24, 56, 120, 255, 511, 1023, 2047, 4095, 8191, 16383, 32767, 65535, 131071, 262143, 524287, 1048575, 2097151, 4194303] mixed (by kernel_rfl) ?_ | with_reducible refine gw_draw (id := 11) [(0, []), (1, []), (2, []), (3, []), (4, []), (5, []), (6, []), (7, []), (8, [])] [0, 1, 0, 4, 12, 28, 60, 127, 255] mixed (by kernel_rfl) ?_ | with_reducible refine gw_draw (id := 15) [(0, []), (1, []), (2, []), (3, []), (4, []), (5, []), (6, []), (7, []), (8, []), (9, []), (10, []), (11, []), (12, []), (13, []), (14, []), (15, []), (16, [])] [0, 1, 3, 7, 15, 31, 63, 127, 63, 319, 831, 1855, 3903, 8191, 16383, 32767, 65535] mixed (by kernel_rfl) ?_) <;> try simp only [gop, gyield, gLenX, gNilM, gField, gIndexV, gPart, reduceIte, seval, Int.cast_ofNat_Int, stz, stp, isEff, sgl, sty, stq, Try.underlying89, ty23, ty24, ty88, ty136, ty62, ty65, ty91, ty3, ty4, ty5, ty89, rs78, gNil, gload1 m1 sz3, gload1 m1 sz24, gload1 ho sz3, gload1 ho sz88, e6, e7, e10, e5, gPick, Bool.or_true, Bool.or_false, Bool.true_or, Bool.false_or, List.getElem?_cons_zero, List.getElem?_cons_succ, d1, d2, d3, d4]))
        exact ⟨by simp [wrongF, c1, c2, c3, c4] <;> omega, s1⟩
      have c4 := of_decide_eq_false d4
      refine mk_of ?_; repeat' (first | (with_reducible first | refine gw_seq ?_ | refine gw_block ?_) | ((first | (with_reducible refine mk_to ?_) | (with_reducible first | refine gw_region ?_ | refine gw_if ?_ | refine gw_skip ?_ | refine gw_exit ?_ | refine gw_ret ?_) | ((with_reducible first | refine gif_b (fun hb => ?_) (fun hb => ?_) | refine want_t (fun hb => ?_) (fun hb => ?_) | refine want_f (fun hb => ?_) (fun hb => ?_) | refine dr_t (fun hb => ?_) (fun hb => ?_) | refine dr_f (fun hb => ?_) (fun hb => ?_)) <;> (try simp only [hb]) <;> (try simp only [hpr] at hb)) | with_reducible refine gw_draw (id := 9) [(0, []), (1, []), (2, []), (3, []), (4, []), (5, []), (6, []), (7, []), (8, []), (9, []), (10, []), (11, []), (12, []), (13, []), (14, []), (15, []), (16, []), (17, []), (18, []), (19, []), (20, []), (21, []), (22, [])] [0, 1, 3, 0, 8, 24, 56, 120, 255, 511, 1023, 2047, 4095, 8191, 16383, 32767, 65535, 131071, 262143, 524287, 1048575, 2097151, 4194303] mixed (by kernel_rfl) ?_ | with_reducible refine gw_draw (id := 11) [(0, []), (1, []), (2, []), (3, []), (4, []), (5, []), (6, []), (7, []), (8, [])] [0, 1, 0, 4, 12, 28, 60, 127, 255] mixed (by kernel_rfl) ?_ | with_reducible refine gw_draw (id := 15) [(0, []), (1, []), (2, []), (3, []), (4, []), (5, []), (6, []), (7, []), (8, []), (9, []), (10, []), (11, []), (12, []), (13, []), (14, []), (15, []), (16, [])] [0, 1, 3, 7, 15, 31, 63, 127, 63, 319, 831, 1855, 3903, 8191, 16383, 32767, 65535] mixed (by kernel_rfl) ?_) <;> try simp only [gop, gyield, gLenX, gNilM, gField, gIndexV, gPart, reduceIte, seval, Int.cast_ofNat_Int, stz, stp, isEff, sgl, sty, stq, Try.underlying89, ty23, ty24, ty88, ty136, ty62, ty65, ty91, ty3, ty4, ty5, ty89, rs78, gNil, gload1 m1 sz3, gload1 m1 sz24, gload1 ho sz3, gload1 ho sz88, e6, e7, e10, e5, gPick, Bool.or_true, Bool.or_false, Bool.true_or, Bool.false_or, List.getElem?_cons_zero, List.getElem?_cons_succ, d1, d2, d3, d4]))
      exact ⟨by simp [wrongF, c1, c2, c3, c4] <;> omega, s1⟩
    have c3 := of_decide_eq_false d3
    cases d4 : decide (q.to ≥ (M.length : Int))
    case true =>
      have c4 := of_decide_eq_true d4
      refine mk_of ?_; repeat' (first | (with_reducible first | refine gw_seq ?_ | refine gw_block ?_) | ((first | (with_reducible refine mk_to ?_) | (with_reducible first | refine gw_region ?_ | refine gw_if ?_ | refine gw_skip ?_ | refine gw_exit ?_ | refine gw_ret ?_) | ((with_reducible first | refine gif_b (fun hb => ?_) (fun hb => ?_) | refine want_t (fun hb => ?_) (fun hb => ?_) | refine want_f (fun hb => ?_) (fun hb => ?_) | refine dr_t (fun hb => ?_) (fun hb => ?_) | refine dr_f (fun hb => ?_) (fun hb => ?_)) <;> (try simp only [hb]) <;> (try simp only [hpr] at hb)) | with_reducible refine gw_draw (id := 9) [(0, []), (1, []), (2, []), (3, []), (4, []), (5, []), (6, []), (7, []), (8, []), (9, []), (10, []), (11, []), (12, []), (13, []), (14, []), (15, []), (16, []), (17, []), (18, []), (19, []), (20, []), (21, []), (22, [])] [0, 1, 3, 0, 8, 24, 56, 120, 255, 511, 1023, 2047, 4095, 8191, 16383, 32767, 65535, 131071, 262143, 524287, 1048575, 2097151, 4194303] mixed (by kernel_rfl) ?_ | with_reducible refine gw_draw (id := 11) [(0, []), (1, []), (2, []), (3, []), (4, []), (5, []), (6, []), (7, []), (8, [])] [0, 1, 0, 4, 12, 28, 60, 127, 255] mixed (by kernel_rfl) ?_ | with_reducible refine gw_draw (id := 15) [(0, []), (1, []), (2, []), (3, []), (4, []), (5, []), (6, []), (7, []), (8, []), (9, []), (10, []), (11, []), (12, []), (13, []), (14, []), (15, []), (16, [])] [0, 1, 3, 7, 15, 31, 63, 127, 63, 319, 831, 1855, 3903, 8191, 16383, 32767, 65535] mixed (by kernel_rfl) ?_) <;> try simp only [gop, gyield, gLenX, gNilM, gField, gIndexV, gPart, reduceIte, seval, Int.cast_ofNat_Int, stz, stp, isEff, sgl, sty, stq, Try.underlying89, ty23, ty24, ty88, ty136, ty62, ty65, ty91, ty3, ty4, ty5, ty89, rs78, gNil, gload1 m1 sz3, gload1 m1 sz24, gload1 ho sz3, gload1 ho sz88, e6, e7, e10, e5, gPick, Bool.or_true, Bool.or_false, Bool.true_or, Bool.false_or, List.getElem?_cons_zero, List.getElem?_cons_succ, d1, d2, d3, d4]))
      exact ⟨by simp only [wrongF, c1, c2, c3, c4, and_false, false_or, or_false, if_true, if_false], s1⟩
    have c4 := of_decide_eq_false d4
    cases d5 : decide (q.fr > q.to)
    case true =>
      have c5 := of_decide_eq_true d5
      cases d6 : decide (q.lm < 1) <;> cases d7 : decide (q.lm > p.pg)
      all_goals
        first
        | have c6 := of_decide_eq_true d6
        | have c6 := of_decide_eq_false d6
        first
        | have c7 := of_decide_eq_true d7
        | have c7 := of_decide_eq_false d7
        refine mk_of ?_; repeat' (first | (with_reducible first | refine gw_seq ?_ | refine gw_block ?_) | ((first | (with_reducible refine mk_to ?_) | (with_reducible first | refine gw_region ?_ | refine gw_if ?_ | refine gw_skip ?_ | refine gw_exit ?_ | refine gw_ret ?_) | ((with_reducible first | refine gif_b (fun hb => ?_) (fun hb => ?_) | refine want_t (fun hb => ?_) (fun hb => ?_) | refine want_f (fun hb => ?_) (fun hb => ?_) | refine dr_t (fun hb => ?_) (fun hb => ?_) | refine dr_f (fun hb => ?_) (fun hb => ?_)) <;> (try simp only [hb]) <;> (try simp only [hpr] at hb)) | with_reducible refine gw_draw (id := 9) [(0, []), (1, []), (2, []), (3, []), (4, []), (5, []), (6, []), (7, []), (8, []), (9, []), (10, []), (11, []), (12, []), (13, []), (14, []), (15, []), (16, []), (17, []), (18, []), (19, []), (20, []), (21, []), (22, [])] [0, 1, 3, 0, 8, 24, 56, 120, 255, 511, 1023, 2047, 4095, 8191, 16383, 32767, 65535, 131071, 262143, 524287, 1048575, 2097151, 4194303] mixed (by kernel_rfl) ?_ | with_reducible refine gw_draw (id := 11) [(0, []), (1, []), (2, []), (3, []), (4, []), (5, []), (6, []), (7, []), (8, [])] [0, 1, 0, 4, 12, 28, 60, 127, 255] mixed (by kernel_rfl) ?_ | with_reducible refine gw_draw (id := 15) [(0, []), (1, []), (2, []), (3, []), (4, []), (5, []), (6, []), (7, []), (8, []), (9, []), (10, []), (11, []), (12, []), (13, []), (14, []), (15, []), (16, [])] [0, 1, 3, 7, 15, 31, 63, 127, 63, 319, 831, 1855, 3903, 8191, 16383, 32767, 65535] mixed (by kernel_rfl) ?_) <;> try simp only [gop, gyield, gLenX, gNilM, gField, gIndexV, gPart, reduceIte, seval, Int.cast_ofNat_Int, stz, stp, isEff, sgl, sty, stq, Try.underlying89, ty23, ty24, ty88, ty136, ty62, ty65, ty91, ty3, ty4, ty5, ty89, rs78, gNil, gload1 m1 sz3, gload1 m1 sz24, gload1 ho sz3, gload1 ho sz88, e6, e7, e10, e5, gPick, Bool.or_true, Bool.or_false, Bool.true_or, Bool.false_or, List.getElem?_cons_zero, List.getElem?_cons_succ, d1, d2, d3, d4, d5, d6, d7]))
        exact ⟨by simp [wrongF, c1, c2, c3, c4, c5, c6, c7] <;> omega, s1⟩
    have c5 := of_decide_eq_false d5
    cases d6 : decide (q.lm < 1) <;> cases d7 : decide (q.lm > p.pg)
    all_goals
      first
      | have c6 := of_decide_eq_true d6
      | have c6 := of_decide_eq_false d6
      first
      | have c7 := of_decide_eq_true d7
      | have c7 := of_decide_eq_false d7
      refine mk_of ?_; repeat' (first | (with_reducible first | refine gw_seq ?_ | refine gw_block ?_) | ((first | (with_reducible refine mk_to ?_) | (with_reducible first | refine gw_region ?_ | refine gw_if ?_ | refine gw_skip ?_ | refine gw_exit ?_ | refine gw_ret ?_) | ((with_reducible first | refine gif_b (fun hb => ?_) (fun hb => ?_) | refine want_t (fun hb => ?_) (fun hb => ?_) | refine want_f (fun hb => ?_) (fun hb => ?_) | refine dr_t (fun hb => ?_) (fun hb => ?_) | refine dr_f (fun hb => ?_) (fun hb => ?_)) <;> (try simp only [hb]) <;> (try simp only [hpr] at hb)) | with_reducible refine gw_draw (id := 9) [(0, []), (1, []), (2, []), (3, []), (4, []), (5, []), (6, []), (7, []), (8, []), (9, []), (10, []), (11, []), (12, []), (13, []), (14, []), (15, []), (16, []), (17, []), (18, []), (19, []), (20, []), (21, []), (22, [])] [0, 1, 3, 0, 8, 24, 56, 120, 255, 511, 1023, 2047, 4095, 8191, 16383, 32767, 65535, 131071, 262143, 524287, 1048575, 2097151, 4194303] mixed (by kernel_rfl) ?_ | with_reducible refine gw_draw (id := 11) [(0, []), (1, []), (2, []), (3, []), (4, []), (5, []), (6, []), (7, []), (8, [])] [0, 1, 0, 4, 12, 28, 60, 127, 255] mixed (by kernel_rfl) ?_ | with_reducible refine gw_draw (id := 15) [(0, []), (1, []), (2, []), (3, []), (4, []), (5, []), (6, []), (7, []), (8, []), (9, []), (10, []), (11, []), (12, []), (13, []), (14, []), (15, []), (16, [])] [0, 1, 3, 7, 15, 31, 63, 127, 63, 319, 831, 1855, 3903, 8191, 16383, 32767, 65535] mixed (by kernel_rfl) ?_) <;> try simp only [gop, gyield, gLenX, gNilM, gField, gIndexV, gPart, reduceIte, seval, Int.cast_ofNat_Int, stz, stp, isEff, sgl, sty, stq, Try.underlying89, ty23, ty24, ty88, ty136, ty62, ty65, ty91, ty3, ty4, ty5, ty89, rs78, gNil, gload1 m1 sz3, gload1 m1 sz24, gload1 ho sz3, gload1 ho sz88, e6, e7, e10, e5, gPick, Bool.or_true, Bool.or_false, Bool.true_or, Bool.false_or, List.getElem?_cons_zero, List.getElem?_cons_succ, d1, d2, d3, d4, d5, d6, d7]))
      exact ⟨by simp [wrongF, c1, c2, c3, c4, c5, c6, c7] <;> omega, s1⟩
end Go.Gh

/- Ideal: a map asked; it is awake. -/

namespace Go.Gh
open Go Go.Proofs Go.RowKit
set_option linter.unusedVariables false
set_option linter.unusedSimpArgs false
set_option maxRecDepth 100000
set_option maxHeartbeats 4000000

theorem IS.base {h0 hb h : GH} {k j : Nat} {p : Pm} {ew : Value} {cs l : List Value} {M : List (Int × List Bnd)} {ck : Int} {n : Nat} {S : List UInt8 → List (Nat × Nat)} (x : IS h0 h k j p ew cs l M ck n S) (f : ∀ i, h i ≠ none → h0 i = none → hb i = none) : IS hb h k j p ew cs l M ck n S := by
  refine ⟨x.obj, f k (by rw [x.obj]; simp) x.nk, x.mp, f _ (by rw [x.mp]; simp) x.nj, x.ok, x.u8, ?_, x.eps, x.sp, x.cu8, x.bl, x.len, x.tt, x.nch, x.may, x.ks⟩
  obtain ⟨kb, c, tl, h1, h2, h3, h4, h5, h6⟩ := x.ep
  exact ⟨kb, c, tl, h1, h2, h3, h4, f _ (by rw [h4]; simp) h5, h6⟩
theorem IS.weak {h0 hb h : GH} {k j : Nat} {p : Pm} {ew : Value} {cs l : List Value} {M : List (Int × List Bnd)} {ck : Int} {n : Nat} {S : List UInt8 → List (Nat × Nat)} (x : IS hb h k j p ew cs l M ck n S) (s : HS h0 hb) : IS h0 h k j p ew cs l M ck n S := by
  refine ⟨x.obj, s.none_of x.nk, x.mp, s.none_of x.nj, x.ok, x.u8, ?_, x.eps, x.sp, x.cu8, x.bl, x.len, x.tt, x.nch, x.may, x.ks⟩
  obtain ⟨kb, c, tl, h1, h2, h3, h4, h5, h6⟩ := x.ep
  exact ⟨kb, c, tl, h1, h2, h3, h4, s.none_of h5, h6⟩
/-- What there was, and what is new since. -/
def hN (h0 h h2 : GH) : GH := fun i => match h i with
  | some _ => h0 i
  | none => h2 i
theorem hN_new {h0 h h2 : GH} {k : Nat} (n : h k = none) : hN h0 h h2 k = h2 k := by unfold hN; rw [n]
theorem hN_of {h0 h h2 : GH} (s : HS h0 h) : HS h0 (hN h0 h h2) := fun i B e => by unfold hN; rw [s _ _ e]; exact e
theorem hN_hs {h0 h h2 : GH} (s : HS h0 h) (t : HS h h2) : HS (hN h0 h h2) h2 := fun i B e => by
  unfold hN at e
  split at e
  · exact t _ _ (s _ _ e)
  · exact e
theorem IS.new {h0 h h2 : GH} {k j : Nat} {p : Pm} {ew : Value} {cs l : List Value} {M : List (Int × List Bnd)} {ck : Int} {n : Nat} {S : List UInt8 → List (Nat × Nat)} (x : IS h0 h k j p ew cs l M ck n S) (t : HS h h2) : IS (hN h0 h h2) h2 k j p ew cs l M ck n S :=
  (x.base (hb := hN h0 h h2) fun i hi h0i => by
    unfold hN
    cases e : h i with
    | none => exact absurd e hi
    | some B => exact h0i).hs t

theorem c_DoPub (N : Nat) {h0 h : GH} {k j : Nat} {p : Pm} {ew : Value} {cs l : List Value} {M : List (Int × List Bnd)} {ck : Int} {n : Nat} (s0 : HS h0 h) (x : IM h0 h k j p ew cs l M ck n) {d : Option Addr} {g : Nat} {b : List Bnd} (rl : RL 2 Bd h0 (.slice d b.length g) b) (hb : b.length ≤ 140737488355328)
    {c1 c2 c3 c4 c5 c6 c7 c8 : Value} (hc : [c1, c2, c3, c4, c5, c6, c7, c8].all isCell = true) :
    GTri Try.prog N 32 [.pointer (some ⟨k, 0, none⟩), .agg #[.int .i64 1, c1, c2, c3, c4, c5, c6, c7, c8, .slice d b.length g]] h fun v h' =>
      v = zans (pubE p M.length n b) (if pubE p M.length n b = 0 then (M.length : Int) else 0) ∧ HS h0 h' ∧
      (pubE p M.length n b ≠ 0 ∧ IM h0 h' k j p ew cs l M ck n ∨ pubE p M.length n b = 0 ∧ ∃ ew' cs' l', IM h0 h' k j p ew' cs' l' (M ++ [(ck, b)]) ck (n + b.length)) := by
  have hc1 : [Value.int .i64 1, c1, c2, c3, c4, c5, c6, c7, c8].all isCell = true := by simpa [isCell] using hc
  refine gtri Try.func32 rfl gf32 ok32 (by simp [Try.ntmps32]) ?_
  repeat' (first | (with_reducible first | refine gw_seq ?_ | refine gw_block ?_) | ((first | (with_reducible first | refine gw_region ?_ | refine gw_if ?_ | refine gw_skip ?_ | refine gw_exit ?_ | refine gw_ret ?_) | ((with_reducible first | refine gif_b (fun hb => ?_) (fun hb => ?_) | refine want_t (fun hb => ?_) (fun hb => ?_) | refine want_f (fun hb => ?_) (fun hb => ?_)) <;> (try simp only [hb]) <;> (try simp only [hpr] at hb))) <;> try simp only [gop, gyield, gLenX, gNilM, gField, gIndexV, gPart, reduceIte, seval, Int.cast_ofNat_Int, stz, stp, ty23, ty24, ty36, ty68, ty62, ty70, ty91, ty29, ty3, ty4, ty63, rs32]))
  refine box_g (by simpa [isCell] using hc) fun k1 h1 m1 s1 f1 n1 => ?_
  refine mk_of ?_; repeat' (first | (with_reducible first | refine gw_seq ?_ | refine gw_block ?_) | ((first | (with_reducible refine mk_to ?_) | (with_reducible first | refine gw_region ?_ | refine gw_if ?_ | refine gw_skip ?_ | refine gw_exit ?_ | refine gw_ret ?_) | ((with_reducible first | refine gif_b (fun hb => ?_) (fun hb => ?_) | refine want_t (fun hb => ?_) (fun hb => ?_) | refine want_f (fun hb => ?_) (fun hb => ?_)) <;> (try simp only [hb]) <;> (try simp only [hpr] at hb))) <;> try simp only [gop, gyield, gLenX, gNilM, gField, gIndexV, gPart, reduceIte, seval, Int.cast_ofNat_Int, stz, stp, ty23, ty24, ty36, ty68, ty62, ty70, ty91, ty29, ty3, ty4, ty63, rs32]))
  refine new_g fun k2 h2 m2 s2 f2 n2 => ?_
  replace m1 := s2 _ _ m1
  have s12 := s1.trans s2
  have x2 := x.hs s12
  have n2' := s1.none_of n2
  have d0 : ((1 : Int) == 1) = true := rfl
  refine mk_of ?_; repeat' (first | (with_reducible first | refine gw_seq ?_ | refine gw_block ?_) | ((first | (with_reducible refine mk_to ?_) | (with_reducible first | refine gw_region ?_ | refine gw_if ?_ | refine gw_skip ?_ | refine gw_exit ?_ | refine gw_ret ?_) | ((with_reducible first | refine gif_b (fun hb => ?_) (fun hb => ?_) | refine want_t (fun hb => ?_) (fun hb => ?_) | refine want_f (fun hb => ?_) (fun hb => ?_)) <;> (try simp only [hb]) <;> (try simp only [hpr] at hb)) | ((refine GTri.mono (c_inone _ x2) ?_); rintro _ _ ⟨rfl, hh9⟩; replace hh9 := hh9.symm; subst hh9)) <;> try simp only [gop, gyield, gLenX, gNilM, gField, gIndexV, gPart, reduceIte, seval, Int.cast_ofNat_Int, stz, stp, ty23, ty24, ty36, ty68, ty62, ty70, ty91, ty29, ty3, ty4, ty63, rs32, gload1 m1 sz3, d0, gloadA m1 sz62 rfl, List.getElem?_cons_zero, List.getElem?_cons_succ]))
  refine (c_publish N (hN_hs s0 s12) (x.new s12) ((rl.bs (hN_of s0))) hb hc1).mono ?_
  rintro _ h3 ⟨rfl, s3, r3⟩
  have m23 : h3 k2 = _ := s3 _ _ ((hN_new n2').trans m2)
  have k2k : k2 ≠ k := fun q => by subst q; rw [x.obj] at n2'; cases n2'
  have k2j : k2 ≠ j + 1 := fun q => by subst q; rw [x.mp] at n2'; cases n2'
  refine mk_of ?_; repeat' (first | (with_reducible first | refine gw_seq ?_ | refine gw_block ?_) | ((first | (with_reducible refine mk_to ?_) | (with_reducible first | refine gw_region ?_ | refine gw_if ?_ | refine gw_skip ?_ | refine gw_exit ?_ | refine gw_ret ?_) | ((with_reducible first | refine gif_b (fun hb => ?_) (fun hb => ?_) | refine want_t (fun hb => ?_) (fun hb => ?_) | refine want_f (fun hb => ?_) (fun hb => ?_)) <;> (try simp only [hb]) <;> (try simp only [hpr] at hb))) <;> try simp only [gop, gyield, gLenX, gNilM, gField, gIndexV, gPart, reduceIte, seval, Int.cast_ofNat_Int, stz, stp, ty23, ty24, ty36, ty68, ty62, ty70, ty91, ty29, ty3, ty4, ty63, rs32]))
  refine st_all m23 sz70 rfl (by decide) rfl rfl rfl fun h4 m4 f4 => ?_
  refine mk_of ?_; repeat' (first | (with_reducible first | refine gw_seq ?_ | refine gw_block ?_) | ((first | (with_reducible refine mk_to ?_) | (with_reducible first | refine gw_region ?_ | refine gw_if ?_ | refine gw_skip ?_ | refine gw_exit ?_ | refine gw_ret ?_) | ((with_reducible first | refine gif_b (fun hb => ?_) (fun hb => ?_) | refine want_t (fun hb => ?_) (fun hb => ?_) | refine want_f (fun hb => ?_) (fun hb => ?_)) <;> (try simp only [hb]) <;> (try simp only [hpr] at hb))) <;> try simp only [gop, gyield, gLenX, gNilM, gField, gIndexV, gPart, reduceIte, seval, Int.cast_ofNat_Int, stz, stp, ty23, ty24, ty36, ty68, ty62, ty70, ty91, ty29, ty3, ty4, ty63, rs32, gloadA m4 sz70 rfl]))
  refine ⟨rfl, ((hN_of s0).trans s3).upd (s0.none_of n2') f4, ?_⟩
  rcases r3 with ⟨e, y⟩ | ⟨e, ew', cs', l', y⟩
  · exact .inl ⟨e, (y.weak (hN_of s0)).oth m23 rfl rfl f4 k2k k2j⟩
  · exact .inr ⟨e, ew', cs', l', (y.weak (hN_of s0)).oth m23 rfl rfl f4 k2k k2j⟩
theorem c_DoAsof (N : Nat) {h0 h : GH} {k j : Nat} {p : Pm} {ew : Value} {cs l : List Value} {M : List (Int × List Bnd)} {ck : Int} {n : Nat} (x : IM h0 h k j p ew cs l M ck n) {a : Option Addr} {c : Nat} (q : Ak) (hk : q.kd = 3) (r : RB h (.slice a q.id.length c) q.id) (hid : q.id.length ≤ 140737488355328)
    {c4 c5 c6 c7 c9 : Value} (hc : [c4, c5, c6, c7, c9].all isCell = true) :
    GTri Try.prog N 32 [.pointer (some ⟨k, 0, none⟩), .agg #[.int .i64 q.kd, .slice a q.id.length c, .int .i64 q.fr, .int .i64 q.to, c4, c5, c6, c7, .int .i64 q.lm, c9]] h fun v h' =>
      RAn h' v (if wrongF false false p M.length q = 0 then asofA M q.id q.to else { code := wrongF false false p M.length q }) ∧ HS h h' := by
  have hc3 : [Value.int .i64 q.kd, .int .i64 q.fr, c4, c5, c6, c7, .int .i64 q.lm, c9].all isCell = true := by simpa [isCell] using hc
  have hr : rngK q.kd = false := by rw [hk]; rfl
  have hg : pagK q.kd = false := by rw [hk]; rfl
  have e1 : (q.kd == 1) = false := by rw [hk]; rfl
  have e2 : (q.kd == 2) = false := by rw [hk]; rfl
  have e8 : (q.kd == 8) = false := by rw [hk]; rfl
  have e9 : (q.kd == 9) = false := by rw [hk]; rfl
  have e3 : (q.kd == 3) = true := by rw [hk]; rfl
  refine gtri Try.func32 rfl gf32 ok32 (by simp [Try.ntmps32]) ?_
  repeat' (first | (with_reducible first | refine gw_seq ?_ | refine gw_block ?_) | ((first | (with_reducible first | refine gw_region ?_ | refine gw_if ?_ | refine gw_skip ?_ | refine gw_exit ?_ | refine gw_ret ?_) | ((with_reducible first | refine gif_b (fun hb => ?_) (fun hb => ?_) | refine want_t (fun hb => ?_) (fun hb => ?_) | refine want_f (fun hb => ?_) (fun hb => ?_)) <;> (try simp only [hb]) <;> (try simp only [hpr] at hb))) <;> try simp only [gop, gyield, gLenX, gNilM, gField, gIndexV, gPart, reduceIte, seval, Int.cast_ofNat_Int, stz, stp, ty23, ty24, ty36, ty68, ty62, ty70, ty91, ty29, ty3, ty4, ty63, rs32]))
  refine box_g (by simpa [isCell] using hc) fun k1 h1 m1 s1 f1 n1 => ?_
  refine mk_of ?_; repeat' (first | (with_reducible first | refine gw_seq ?_ | refine gw_block ?_) | ((first | (with_reducible refine mk_to ?_) | (with_reducible first | refine gw_region ?_ | refine gw_if ?_ | refine gw_skip ?_ | refine gw_exit ?_ | refine gw_ret ?_) | ((with_reducible first | refine gif_b (fun hb => ?_) (fun hb => ?_) | refine want_t (fun hb => ?_) (fun hb => ?_) | refine want_f (fun hb => ?_) (fun hb => ?_)) <;> (try simp only [hb]) <;> (try simp only [hpr] at hb))) <;> try simp only [gop, gyield, gLenX, gNilM, gField, gIndexV, gPart, reduceIte, seval, Int.cast_ofNat_Int, stz, stp, ty23, ty24, ty36, ty68, ty62, ty70, ty91, ty29, ty3, ty4, ty63, rs32]))
  refine new_g fun k2 h2 m2 s2 f2 n2 => ?_
  replace m1 := s2 _ _ m1
  have s12 := s1.trans s2
  have x2 := x.hs s12
  have n2' := s1.none_of n2
  refine mk_of ?_; repeat' (first | (with_reducible first | refine gw_seq ?_ | refine gw_block ?_) | ((first | (with_reducible refine mk_to ?_) | (with_reducible first | refine gw_region ?_ | refine gw_if ?_ | refine gw_skip ?_ | refine gw_exit ?_ | refine gw_ret ?_) | ((with_reducible first | refine gif_b (fun hb => ?_) (fun hb => ?_) | refine want_t (fun hb => ?_) (fun hb => ?_) | refine want_f (fun hb => ?_) (fun hb => ?_)) <;> (try simp only [hb]) <;> (try simp only [hpr] at hb)) | ((refine GTri.mono (c_inone _ x2) ?_); rintro _ _ ⟨rfl, hh9⟩; replace hh9 := hh9.symm; subst hh9)) <;> try simp only [gop, gyield, gLenX, gNilM, gField, gIndexV, gPart, reduceIte, seval, Int.cast_ofNat_Int, stz, stp, ty23, ty24, ty36, ty68, ty62, ty70, ty91, ty29, ty3, ty4, ty63, rs32, List.map_toArray, List.map_cons, List.map_nil, gload1 m1 sz3, e1, e2, e8, e9, e3, gloadA m1 sz62 rfl, List.getElem?_cons_zero, List.getElem?_cons_succ]))
  refine (c_wrong N x2 q hid hc).mono ?_
  rintro _ h3 ⟨rfl, s3⟩
  rw [hr, hg]
  have m23 := s3 _ _ m2
  by_cases hw : wrongF false false p M.length q = 0
  case neg =>
    rw [if_neg hw]
    have dw : (wrongF false false p M.length q != 0) = true := by simpa using hw
    refine mk_of ?_; repeat' (first | (with_reducible first | refine gw_seq ?_ | refine gw_block ?_) | ((first | (with_reducible refine mk_to ?_) | (with_reducible first | refine gw_region ?_ | refine gw_if ?_ | refine gw_skip ?_ | refine gw_exit ?_ | refine gw_ret ?_) | ((with_reducible first | refine gif_b (fun hb => ?_) (fun hb => ?_) | refine want_t (fun hb => ?_) (fun hb => ?_) | refine want_f (fun hb => ?_) (fun hb => ?_)) <;> (try simp only [hb]) <;> (try simp only [hpr] at hb))) <;> try simp only [gop, gyield, gLenX, gNilM, gField, gIndexV, gPart, reduceIte, seval, Int.cast_ofNat_Int, stz, stp, ty23, ty24, ty36, ty68, ty62, ty70, ty91, ty29, ty3, ty4, ty63, rs32, dw, gBuild, lfill, lput, Shape.pl, List.all_cons, List.all_nil, isCell]))
    refine st_all m23 sz70 rfl (by decide) rfl rfl rfl fun h4 m4 f4 => ?_
    refine mk_of ?_; repeat' (first | (with_reducible first | refine gw_seq ?_ | refine gw_block ?_) | ((first | (with_reducible refine mk_to ?_) | (with_reducible first | refine gw_region ?_ | refine gw_if ?_ | refine gw_skip ?_ | refine gw_exit ?_ | refine gw_ret ?_) | ((with_reducible first | refine gif_b (fun hb => ?_) (fun hb => ?_) | refine want_t (fun hb => ?_) (fun hb => ?_) | refine want_f (fun hb => ?_) (fun hb => ?_)) <;> (try simp only [hb]) <;> (try simp only [hpr] at hb))) <;> try simp only [gop, gyield, gLenX, gNilM, gField, gIndexV, gPart, reduceIte, seval, Int.cast_ofNat_Int, stz, stp, ty23, ty24, ty36, ty68, ty62, ty70, ty91, ty29, ty3, ty4, ty63, rs32, gloadA m4 sz70 rfl]))
    exact ⟨RAn.zero h4 _ 0, (s12.trans s3).upd n2' f4⟩
  rw [if_pos hw]
  have dw : (wrongF false false p M.length q != 0) = false := by simpa using hw
  have s03 := s12.trans s3
  refine mk_of ?_; repeat' (first | (with_reducible first | refine gw_seq ?_ | refine gw_block ?_) | ((first | (with_reducible refine mk_to ?_) | (with_reducible first | refine gw_region ?_ | refine gw_if ?_ | refine gw_skip ?_ | refine gw_exit ?_ | refine gw_ret ?_) | ((with_reducible first | refine gif_b (fun hb => ?_) (fun hb => ?_) | refine want_t (fun hb => ?_) (fun hb => ?_) | refine want_f (fun hb => ?_) (fun hb => ?_)) <;> (try simp only [hb]) <;> (try simp only [hpr] at hb))) <;> try simp only [gop, gyield, gLenX, gNilM, gField, gIndexV, gPart, reduceIte, seval, Int.cast_ofNat_Int, stz, stp, ty23, ty24, ty36, ty68, ty62, ty70, ty91, ty29, ty3, ty4, ty63, rs32, dw, gloadA (s3 _ _ m1) sz62 rfl]))
  refine (c_asof N (x.hs s03) (r.hs s03) hid q.to hc3).mono ?_
  rintro v4 h4 ⟨r4, s4⟩
  obtain ⟨a4, b4, c4', d4, e4, f4', rfl, t1, t2, t3⟩ := r4
  refine mk_of ?_; repeat' (first | (with_reducible first | refine gw_seq ?_ | refine gw_block ?_) | ((first | (with_reducible refine mk_to ?_) | (with_reducible first | refine gw_region ?_ | refine gw_if ?_ | refine gw_skip ?_ | refine gw_exit ?_ | refine gw_ret ?_) | ((with_reducible first | refine gif_b (fun hb => ?_) (fun hb => ?_) | refine want_t (fun hb => ?_) (fun hb => ?_) | refine want_f (fun hb => ?_) (fun hb => ?_)) <;> (try simp only [hb]) <;> (try simp only [hpr] at hb))) <;> try simp only [gop, gyield, gLenX, gNilM, gField, gIndexV, gPart, reduceIte, seval, Int.cast_ofNat_Int, stz, stp, ty23, ty24, ty36, ty68, ty62, ty70, ty91, ty29, ty3, ty4, ty63, rs32]))
  refine st_all (s4 _ _ m23) sz70 rfl (by decide) rfl rfl rfl fun h5 m5 f5 => ?_
  refine mk_of ?_; repeat' (first | (with_reducible first | refine gw_seq ?_ | refine gw_block ?_) | ((first | (with_reducible refine mk_to ?_) | (with_reducible first | refine gw_region ?_ | refine gw_if ?_ | refine gw_skip ?_ | refine gw_exit ?_ | refine gw_ret ?_) | ((with_reducible first | refine gif_b (fun hb => ?_) (fun hb => ?_) | refine want_t (fun hb => ?_) (fun hb => ?_) | refine want_f (fun hb => ?_) (fun hb => ?_)) <;> (try simp only [hb]) <;> (try simp only [hpr] at hb))) <;> try simp only [gop, gyield, gLenX, gNilM, gField, gIndexV, gPart, reduceIte, seval, Int.cast_ofNat_Int, stz, stp, ty23, ty24, ty36, ty68, ty62, ty70, ty91, ty29, ty3, ty4, ty63, rs32, gloadA m5 sz70 rfl]))
  have hx : HX k2 h4 h5 := fun j B n e => (f5 j n).trans e
  have m24 := s4 _ _ m23
  have key := t1.hx m24 rfl hx
  have i1 : RL 3 It h5 _ _ := t2.hxR m24 ⟨rfl, rfl⟩ hx fun cs y r => by
    obtain ⟨a, c, b, d, e, r1, r2⟩ := r
    exact ⟨a, c, b, d, e, r1.hx m24 rfl hx, r2.hx m24 rfl hx⟩
  have i2 : RL 4 Ev h5 _ _ := t3.hxR m24 ⟨rfl, rfl⟩ hx fun cs y r => by
    obtain ⟨a, c, b, d, e, r1, r2⟩ := r
    exact ⟨a, c, b, d, e, r1.hx m24 rfl hx, r2.hx m24 rfl hx⟩
  exact ⟨⟨_, _, _, _, _, _, rfl, key, i1, i2⟩, (s03.trans s4).upd n2' f5⟩
end Go.Gh

/- Ideal: awake; a map that no call made. -/

namespace Go.Gh
open Go Go.Proofs Go.RowKit
set_option linter.unusedVariables false
set_option linter.unusedSimpArgs false
set_option maxRecDepth 100000
set_option maxHeartbeats 4000000

theorem c_awake16 (N : Nat) (h : GH) : GTri Try.prog N 35 [] h fun v h' => v = .bool true ∧ HS h h' := by
  refine gtri Try.func35 rfl gf35 ok35 (by simp [Try.ntmps35]) ?_
  repeat' (first | (with_reducible first | refine gw_seq ?_ | refine gw_block ?_) | ((first | (with_reducible first | refine gw_region ?_ | refine gw_if ?_ | refine gw_skip ?_ | refine gw_exit ?_ | refine gw_ret ?_) | ((with_reducible first | refine gif_b (fun hb => ?_) (fun hb => ?_) | refine want_t (fun hb => ?_) (fun hb => ?_) | refine want_f (fun hb => ?_) (fun hb => ?_)) <;> (try simp only [hb]) <;> (try simp only [hpr] at hb))) <;> try simp only [gop, gyield, gLenX, gNilM, gField, gIndexV, gPart, reduceIte, seval, Int.cast_ofNat_Int, stz, stp, Try.underlying70, ty23, ty24, ty36, ty68, ty62, ty65, ty70, ty91, ty99, ty29, ty3, ty4, ty5, ty63, rs35]))
  refine (c_small16 N h).mono ?_
  rintro _ h1 ⟨rfl, s1⟩
  refine mk_of ?_; repeat' (first | (with_reducible first | refine gw_seq ?_ | refine gw_block ?_) | ((first | (with_reducible refine mk_to ?_) | (with_reducible first | refine gw_region ?_ | refine gw_if ?_ | refine gw_skip ?_ | refine gw_exit ?_ | refine gw_ret ?_) | ((with_reducible first | refine gif_b (fun hb => ?_) (fun hb => ?_) | refine want_t (fun hb => ?_) (fun hb => ?_) | refine want_f (fun hb => ?_) (fun hb => ?_)) <;> (try simp only [hb]) <;> (try simp only [hpr] at hb))) <;> try simp only [gop, gyield, gLenX, gNilM, gField, gIndexV, gPart, reduceIte, seval, Int.cast_ofNat_Int, stz, stp, Try.underlying70, ty23, ty24, ty36, ty68, ty62, ty65, ty70, ty91, ty99, ty29, ty3, ty4, ty5, ty63, rs35]))
  refine (c_iNew N s1 pms).mono ?_
  rintro _ h2 ⟨r2, s2⟩
  have hck : pms.check = 0 := by decide
  rcases r2 with ⟨q, _⟩ | ⟨_, k, j, ew, cs, rfl, hk, x2⟩
  · exact absurd hck q
  have s02 := s1.trans s2
  have z : ((0 : Int) != 0) = false := rfl
  refine mk_of ?_; repeat' (first | (with_reducible first | refine gw_seq ?_ | refine gw_block ?_) | ((first | (with_reducible refine mk_to ?_) | (with_reducible first | refine gw_region ?_ | refine gw_if ?_ | refine gw_skip ?_ | refine gw_exit ?_ | refine gw_ret ?_) | ((with_reducible first | refine gif_b (fun hb => ?_) (fun hb => ?_) | refine want_t (fun hb => ?_) (fun hb => ?_) | refine want_f (fun hb => ?_) (fun hb => ?_)) <;> (try simp only [hb]) <;> (try simp only [hpr] at hb))) <;> try simp only [gop, gyield, gLenX, gNilM, gField, gIndexV, gPart, reduceIte, seval, Int.cast_ofNat_Int, stz, stp, Try.underlying70, ty23, ty24, ty36, ty68, ty62, ty65, ty70, ty91, ty99, ty29, ty3, ty4, ty5, ty63, rs35, gEq, z, gPick]))
  refine bsn2_g el24 rfl rfl (by decide) (by decide) rfl fun k3 h3 m3 s3 f3 n3 => ?_
  refine mk_of ?_; repeat' (first | (with_reducible first | refine gw_seq ?_ | refine gw_block ?_) | ((first | (with_reducible refine mk_to ?_) | (with_reducible first | refine gw_region ?_ | refine gw_if ?_ | refine gw_skip ?_ | refine gw_exit ?_ | refine gw_ret ?_) | ((with_reducible first | refine gif_b (fun hb => ?_) (fun hb => ?_) | refine want_t (fun hb => ?_) (fun hb => ?_) | refine want_f (fun hb => ?_) (fun hb => ?_)) <;> (try simp only [hb]) <;> (try simp only [hpr] at hb))) <;> try simp only [gop, gyield, gLenX, gNilM, gField, gIndexV, gPart, reduceIte, seval, Int.cast_ofNat_Int, stz, stp, Try.underlying70, ty23, ty24, ty36, ty68, ty62, ty65, ty70, ty91, ty99, ty29, ty3, ty4, ty5, ty63, rs35, if_true]))
  refine mark_g Try.underlying24 Try.underlying5 m3 rfl (by decide) fun h4 m4 f4 => ?_
  have s4 : HS h2 h4 := (HS.refl h2).upd n3 (fun i hi => (f4 i hi).trans (f3 i hi))
  refine mk_of ?_; repeat' (first | (with_reducible first | refine gw_seq ?_ | refine gw_block ?_) | ((first | (with_reducible refine mk_to ?_) | (with_reducible first | refine gw_region ?_ | refine gw_if ?_ | refine gw_skip ?_ | refine gw_exit ?_ | refine gw_ret ?_) | ((with_reducible first | refine gif_b (fun hb => ?_) (fun hb => ?_) | refine want_t (fun hb => ?_) (fun hb => ?_) | refine want_f (fun hb => ?_) (fun hb => ?_)) <;> (try simp only [hb]) <;> (try simp only [hpr] at hb))) <;> try simp only [gop, gyield, gLenX, gNilM, gField, gIndexV, gPart, reduceIte, seval, Int.cast_ofNat_Int, stz, stp, Try.underlying70, ty23, ty24, ty36, ty68, ty62, ty65, ty70, ty91, ty99, ty29, ty3, ty4, ty5, ty63, rs35, gBuild, lfill, lput, Shape.pl, List.all_cons, List.all_nil, isCell]))
  refine bsn2_g el23 rfl rfl (by decide) (by decide) rfl fun k5 h5 m5 s5 f5 n5 => ?_
  have s25 := s4.trans s5
  have xN := x2.new s25
  have n5' : h2 k5 = none := s4.none_of n5
  have rb : RB (hN h h2 h5) (.slice (some ⟨k3, 0, none⟩) 1 3) [97] := rb_block (l := [97]) ((hN_new n3).trans (s5 _ _ m4)) rfl
  have l5 : RL 2 Bd (hN h h2 h5) (.slice (some ⟨k5, 0, none⟩) 1 3) [([97], [])] := one_rl (R := Bd) (x := ([97], [])) ((hN_new n5').trans m5) rfl (by decide) ⟨_, _, _, _, _, _, rfl, rb, .inl ⟨0, rfl, rfl⟩⟩
  refine mk_of ?_; repeat' (first | (with_reducible first | refine gw_seq ?_ | refine gw_block ?_) | ((first | (with_reducible refine mk_to ?_) | (with_reducible first | refine gw_region ?_ | refine gw_if ?_ | refine gw_skip ?_ | refine gw_exit ?_ | refine gw_ret ?_) | ((with_reducible first | refine gif_b (fun hb => ?_) (fun hb => ?_) | refine want_t (fun hb => ?_) (fun hb => ?_) | refine want_f (fun hb => ?_) (fun hb => ?_)) <;> (try simp only [hb]) <;> (try simp only [hpr] at hb))) <;> try simp only [gop, gyield, gLenX, gNilM, gField, gIndexV, gPart, reduceIte, seval, Int.cast_ofNat_Int, stz, stp, Try.underlying70, ty23, ty24, ty36, ty68, ty62, ty65, ty70, ty91, ty99, ty29, ty3, ty4, ty5, ty63, rs35, gBuild, lfill, lput, Shape.pl, List.all_cons, List.all_nil, isCell]))
  refine (c_DoPub N (hN_hs s02 s25) xN (b := [([97], [])]) l5 (by simp) rfl).mono ?_
  rintro _ h6 ⟨rfl, s6, r6⟩
  have hp : pubE pms [((0 : Int), ([] : List Bnd))].length 0 [([97], [])] = 0 := by decide
  rcases r6 with ⟨q, _⟩ | ⟨_, ew', cs', l', x6⟩
  · exact absurd hp q
  rw [hp]
  have s06 := (hN_of s02).trans s6
  simp only [if_true, zans]
  refine mk_of ?_; repeat' (first | (with_reducible first | refine gw_seq ?_ | refine gw_block ?_) | ((first | (with_reducible refine mk_to ?_) | (with_reducible first | refine gw_region ?_ | refine gw_if ?_ | refine gw_skip ?_ | refine gw_exit ?_ | refine gw_ret ?_) | ((with_reducible first | refine gif_b (fun hb => ?_) (fun hb => ?_) | refine want_t (fun hb => ?_) (fun hb => ?_) | refine want_f (fun hb => ?_) (fun hb => ?_)) <;> (try simp only [hb]) <;> (try simp only [hpr] at hb))) <;> try simp only [gop, gyield, gLenX, gNilM, gField, gIndexV, gPart, reduceIte, seval, Int.cast_ofNat_Int, stz, stp, Try.underlying70, ty23, ty24, ty36, ty68, ty62, ty65, ty70, ty91, ty99, ty29, ty3, ty4, ty5, ty63, rs35]))
  refine new_g fun k7 h7 m7 s7 f7 n7 => ?_
  refine mk_of ?_; repeat' (first | (with_reducible first | refine gw_seq ?_ | refine gw_block ?_) | ((first | (with_reducible refine mk_to ?_) | (with_reducible first | refine gw_region ?_ | refine gw_if ?_ | refine gw_skip ?_ | refine gw_exit ?_ | refine gw_ret ?_) | ((with_reducible first | refine gif_b (fun hb => ?_) (fun hb => ?_) | refine want_t (fun hb => ?_) (fun hb => ?_) | refine want_f (fun hb => ?_) (fun hb => ?_)) <;> (try simp only [hb]) <;> (try simp only [hpr] at hb))) <;> try simp only [gop, gyield, gLenX, gNilM, gField, gIndexV, gPart, reduceIte, seval, Int.cast_ofNat_Int, stz, stp, Try.underlying70, ty23, ty24, ty36, ty68, ty62, ty65, ty70, ty91, ty99, ty29, ty3, ty4, ty5, ty63, rs35]))
  refine st_all m7 sz70 rfl (by decide) rfl rfl rfl fun h8 m8 f8 => ?_
  have s8 : HS h6 h8 := (HS.refl h6).upd n7 (fun i hi => (f8 i hi).trans (f7 i hi))
  have x8 := x6.hs s8
  have dl : (((([((0 : Int), ([] : List Bnd))] : List (Int × List Bnd)).length : Nat) : Int) == 1) = true := rfl
  have dn : (((0 + [(([97] : List UInt8), ([] : List UInt8))].length : Nat) : Int) == 1) = true := rfl
  have z0 : ((0 : Int) == 0) = true := rfl
  refine mk_of ?_; repeat' (first | (with_reducible first | refine gw_seq ?_ | refine gw_block ?_) | ((first | (with_reducible refine mk_to ?_) | (with_reducible first | refine gw_region ?_ | refine gw_if ?_ | refine gw_skip ?_ | refine gw_exit ?_ | refine gw_ret ?_) | ((with_reducible first | refine gif_b (fun hb => ?_) (fun hb => ?_) | refine want_t (fun hb => ?_) (fun hb => ?_) | refine want_f (fun hb => ?_) (fun hb => ?_)) <;> (try simp only [hb]) <;> (try simp only [hpr] at hb)) | ((refine GTri.mono (c_iChanges _ x8) ?_); rintro _ _ ⟨rfl, hh9⟩; replace hh9 := hh9.symm; subst hh9)) <;> try simp only [gop, gyield, gLenX, gNilM, gField, gIndexV, gPart, reduceIte, seval, Int.cast_ofNat_Int, stz, stp, Try.underlying70, ty23, ty24, ty36, ty68, ty62, ty65, ty70, ty91, ty99, ty29, ty3, ty4, ty5, ty63, rs35, gload1 m8 sz29, gload1 m8 sz3, dl, dn, z0, gPick, List.getElem?_cons_zero, List.getElem?_cons_succ]))
  refine bsn2_g el24 rfl rfl (by decide) (by decide) rfl fun k9 h9 m9 s9 f9 n9 => ?_
  refine mk_of ?_; repeat' (first | (with_reducible first | refine gw_seq ?_ | refine gw_block ?_) | ((first | (with_reducible refine mk_to ?_) | (with_reducible first | refine gw_region ?_ | refine gw_if ?_ | refine gw_skip ?_ | refine gw_exit ?_ | refine gw_ret ?_) | ((with_reducible first | refine gif_b (fun hb => ?_) (fun hb => ?_) | refine want_t (fun hb => ?_) (fun hb => ?_) | refine want_f (fun hb => ?_) (fun hb => ?_)) <;> (try simp only [hb]) <;> (try simp only [hpr] at hb))) <;> try simp only [gop, gyield, gLenX, gNilM, gField, gIndexV, gPart, reduceIte, seval, Int.cast_ofNat_Int, stz, stp, Try.underlying70, ty23, ty24, ty36, ty68, ty62, ty65, ty70, ty91, ty99, ty29, ty3, ty4, ty5, ty63, rs35, if_true]))
  refine mark_g Try.underlying24 Try.underlying5 m9 rfl (by decide) fun h10 m10 f10 => ?_
  have s10 : HS h8 h10 := (HS.refl h8).upd n9 (fun i hi => (f10 i hi).trans (f9 i hi))
  have x10 := x8.hs s10
  have rb10 : RB h10 (.slice (some ⟨k9, 0, none⟩) 1 3) [97] := rb_block (l := [97]) m10 rfl
  refine mk_of ?_; repeat' (first | (with_reducible first | refine gw_seq ?_ | refine gw_block ?_) | ((first | (with_reducible refine mk_to ?_) | (with_reducible first | refine gw_region ?_ | refine gw_if ?_ | refine gw_skip ?_ | refine gw_exit ?_ | refine gw_ret ?_) | ((with_reducible first | refine gif_b (fun hb => ?_) (fun hb => ?_) | refine want_t (fun hb => ?_) (fun hb => ?_) | refine want_f (fun hb => ?_) (fun hb => ?_)) <;> (try simp only [hb]) <;> (try simp only [hpr] at hb))) <;> try simp only [gop, gyield, gLenX, gNilM, gField, gIndexV, gPart, reduceIte, seval, Int.cast_ofNat_Int, stz, stp, Try.underlying70, ty23, ty24, ty36, ty68, ty62, ty65, ty70, ty91, ty99, ty29, ty3, ty4, ty5, ty63, rs35, gBuild, lfill, lput, Shape.pl, List.all_cons, List.all_nil, isCell]))
  refine (c_DoAsof N x10 (q := ⟨3, [97], 0, 1, 0, false, 0, 0, 0, []⟩) rfl rb10 (by simp) rfl).mono ?_
  rintro v11 h11 ⟨r11, s11⟩
  have hw : wrongF false false pms ([((0 : Int), ([] : List Bnd))] ++ [(0, [(([97] : List UInt8), ([] : List UInt8))])]).length ⟨3, [97], 0, 1, 0, false, 0, 0, 0, []⟩ = 0 := by decide
  have ha : (asofA ([((0 : Int), ([] : List Bnd))] ++ [(0, [(([97] : List UInt8), ([] : List UInt8))])]) [97] 1).pr = true := by decide
  rw [if_pos hw] at r11
  obtain ⟨a, b, c, d, e, f, rfl, _⟩ := r11
  rw [ha]
  refine mk_of ?_; repeat' (first | (with_reducible first | refine gw_seq ?_ | refine gw_block ?_) | ((first | (with_reducible refine mk_to ?_) | (with_reducible first | refine gw_region ?_ | refine gw_if ?_ | refine gw_skip ?_ | refine gw_exit ?_ | refine gw_ret ?_) | ((with_reducible first | refine gif_b (fun hb => ?_) (fun hb => ?_) | refine want_t (fun hb => ?_) (fun hb => ?_) | refine want_f (fun hb => ?_) (fun hb => ?_)) <;> (try simp only [hb]) <;> (try simp only [hpr] at hb))) <;> try simp only [gop, gyield, gLenX, gNilM, gField, gIndexV, gPart, reduceIte, seval, Int.cast_ofNat_Int, stz, stp, Try.underlying70, ty23, ty24, ty36, ty68, ty62, ty65, ty70, ty91, ty99, ty29, ty3, ty4, ty5, ty63, rs35, gFieldV, gPick]))
  exact ((s06.trans s8).trans s10).trans s11
end Go.Gh

/- Ideal: the law's argument; a map that no call made. -/

namespace Go.Gh
open Go Go.Proofs Go.RowKit
set_option linter.unusedVariables false
set_option linter.unusedSimpArgs false
set_option maxRecDepth 100000
set_option maxHeartbeats 4000000

abbrev askTy : Ty := .fcons (.i .i64) (.fcons .bs (.fcons (.i .i64) (.fcons (.i .i64) (.fcons (.i .i64) (.fcons .b (.fcons (.i .i64) (.fcons (.i .i64) (.fcons (.i .i64) (.fcons (.sl bdTy) .fnil)))))))))
theorem ask_ok : Ty.ok Try.prog askTy 62 = true := by kernel_rfl
theorem ask_un : ∃ fs, (Try.prog).underlying 62 = some (.struct fs) := ⟨_, Try.underlying62⟩
/-- What is asked, as cells. -/
def Ak.cs (q : Ak) (i b : Value) : List Value := [.int .i64 q.kd, i, .int .i64 q.fr, .int .i64 q.to, .int .i64 q.tm, .bool q.sm, .int .i64 q.ep, .int .i64 q.ix, .int .i64 q.lm, b]
def Ak.wf (q : Ak) : Prop := (Lit.int .i64 q.kd).wf = true ∧ (Lit.int .i64 q.fr).wf = true ∧ (Lit.int .i64 q.to).wf = true ∧ (Lit.int .i64 q.tm).wf = true ∧ (Lit.int .i64 q.ep).wf = true ∧ (Lit.int .i64 q.ix).wf = true ∧ (Lit.int .i64 q.lm).wf = true
theorem ask_R {h : GH} {cs : List Value} {y : askTy.den} (r : askTy.R h cs y) : ∃ (q : Ak) (a b : Option Addr) (c d : Nat), cs = q.cs (.slice a q.id.length c) (.slice b q.b.length d) ∧ RB h (.slice a q.id.length c) q.id ∧ RL 2 Bd h (.slice b q.b.length d) q.b ∧
    (askTy.fits y → q.id.length ≤ 140737488355328 ∧ small q.b ∧ q.b.length ≤ 140737488355328) ∧ q.wf := by
  obtain ⟨y0, y1, y2, y3, y4, y5, y6, y7, y8, y9, y10⟩ := y
  obtain ⟨_, _, rfl, _, ⟨rfl, w0⟩, _, _, rfl, _, ⟨v, rfl, r1, _⟩, _, _, rfl, _, ⟨rfl, w2⟩, _, _, rfl, _, ⟨rfl, w3⟩, _, _, rfl, _, ⟨rfl, w4⟩, _, _, rfl, _, rfl, _, _, rfl, _, ⟨rfl, w6⟩, _, _, rfl, _, ⟨rfl, w7⟩, _, _, rfl, _, ⟨rfl, w8⟩, _, _, rfl, _, ⟨w, rfl, r9, _⟩, rfl⟩ := r
  obtain ⟨a, c, rfl, _⟩ := r1.form
  have r9' : RL 2 Bd h w (List.map toB y9) := bat_R r9
  obtain ⟨b, d, rfl, _⟩ := r9'.form
  refine ⟨⟨y0, y1, y2, y3, y4, y5, y6, y7, y8, List.map toB y9⟩, a, b, c, d, rfl, r1, r9', ?_, w0, w2, w3, w4, w6, w7, w8⟩
  intro hf
  obtain ⟨_, f1, _, _, _, _, _, _, _, f9, _⟩ := hf
  have f1' : List.length y1 ≤ 140737488351232 := f1
  exact ⟨Nat.le_trans f1' (by decide), bat_fits f9⟩
theorem arg_ask {H : Type} {enc : TypeId × Value → H} {W : World} {base b0 : Nat} {v : Value} {d : DataW H} {ps : List MemPlace} {r : Reach} (h : DataW.Trod enc Try.prog W base (fun _ => true) true 62 v d ps) (hok : Value.okWide Try.prog W r b0 62 v) :
    ∃ (q : Ak) (a b : Option Addr) (c e : Nat), up W.heap.size v = .agg (q.cs (.slice a q.id.length c) (.slice b q.b.length e)).toArray ∧ RB (h0 W) (.slice a q.id.length c) q.id ∧ RL 2 Bd (h0 W) (.slice b q.b.length e) q.b ∧
    ((∀ n ∈ d.weights Try.prog 62, n ≤ reachBytes) → q.id.length ≤ 140737488355328 ∧ small q.b ∧ q.b.length ≤ 140737488355328) ∧ q.wf := by
  obtain ⟨fs, hu⟩ := ask_un
  obtain ⟨y, cs, e1, R1, _, hf⟩ := arg_st askTy hu ask_ok h hok
  obtain ⟨q, a, b, c, e, rfl, r1, r2, f1, w1⟩ := ask_R R1
  exact ⟨q, a, b, c, e, e1, r1, r2, fun x => f1 (hf x), w1⟩

end Go.Gh

/- Ideal: batches that may be. -/

namespace Go.Gh
open Go Go.Proofs Go.RowKit
set_option linter.unusedVariables false
set_option linter.unusedSimpArgs false
set_option maxRecDepth 100000
set_option maxHeartbeats 4000000

theorem c_ixfG (N : Nat) (h : GH) {v : Value} {b : List Bnd} (r : RL 2 Bd h v b) (hl : b.length ≤ 1000000) {g : Nat} {w : Value} (φ : Bnd → Bool) (hcl : ∀ h' cs y, HS h h' → Bd h' cs y → GTri Try.prog N g [.agg cs.toArray, w] h' fun v h'' => v = .bool (φ y) ∧ HS h' h'') :
    GTri Try.prog N 115 [v, .func (.func g) #[] #[w]] h fun v h' => (∃ z : Int, v = .int .i64 z ∧ (0 ≤ z ↔ ∃ y ∈ b, φ y = true)) ∧ HS h h' := by
  obtain ⟨av, cv, rfl, _⟩ := r.form
  refine gtri Try.func115 rfl gf115 ok115 (by simp [Try.ntmps115]) ?_
  repeat' (first | (with_reducible first | refine gw_seq ?_ | refine gw_block ?_) | ((first | (with_reducible first | refine gw_region ?_ | refine gw_if ?_ | refine gw_skip ?_ | refine gw_exit ?_ | refine gw_ret ?_) | ((with_reducible first | refine gif_b (fun hb => ?_) (fun hb => ?_) | refine want_t (fun hb => ?_) (fun hb => ?_) | refine want_f (fun hb => ?_) (fun hb => ?_)) <;> (try simp only [hb]) <;> (try simp only [hpr] at hb))) <;> try simp only [gop, gyield, gLenX, gNilM, gField, gIndexV, gPart, reduceIte, seval, Int.cast_ofNat_Int, stz, stp, ty23, ty24, ty99, ty3, rs115]))
  refine gw_loop2 [0, 1, 7] (fun (i : Nat) => [(8, .int .i64 (i : Int))]) (fun q i h' => b.length - i = q ∧ i ≤ b.length ∧ HS h h' ∧ ∀ z ∈ b.take i, φ z = false) b.length 0 (by simp [lk]) ⟨rfl, by omega, HS.refl h, by simp⟩ ?_
  rintro _ i h3 ⟨rfl, hi, s3, nf⟩
  by_cases hib : i < b.length
  case neg =>
    obtain rfl : i = b.length := by omega
    rw [List.take_length] at nf
    have d3 : decide ((b.length : Int) < (b.length : Int)) = false := decide_eq_false (by omega)
    refine mk_of ?_; repeat' (first | (with_reducible first | refine gw_seq ?_ | refine gw_block ?_) | ((first | (with_reducible refine mk_to ?_) | (with_reducible first | refine gw_region ?_ | refine gw_if ?_ | refine gw_skip ?_ | refine gw_exit ?_ | refine gw_ret ?_) | ((with_reducible first | refine gif_b (fun hb => ?_) (fun hb => ?_) | refine want_t (fun hb => ?_) (fun hb => ?_) | refine want_f (fun hb => ?_) (fun hb => ?_)) <;> (try simp only [hb]) <;> (try simp only [hpr] at hb))) <;> try simp only [gop, gyield, gLenX, gNilM, gField, gIndexV, gPart, reduceIte, seval, Int.cast_ofNat_Int, stz, stp, ty23, ty24, ty99, ty3, rs115, d3]))
    exact ⟨⟨-1, rfl, ⟨fun h => absurd h (by decide), fun ⟨y, hy, hf⟩ => by rw [nf y hy] at hf; cases hf⟩⟩, s3⟩
  have d3 : decide ((i : Int) < (b.length : Int)) = true := decide_eq_true (by omega)
  have wi : IntKind.i64.wrap ((i : Int) + 1) = ((i + 1 : Nat) : Int) := by rw [wrap64 (by omega) (by omega)]; omega
  obtain ⟨y, hy⟩ : ∃ y, b[i]? = some y := ⟨_, List.getElem?_eq_getElem hib⟩
  obtain ⟨ad, cs2, g1, g2, g3⟩ := (r.bs s3).at (P := Try.prog) Try.underlying23 sz99 hy
  have l1 : gLoad Try.prog 99 h3 (.pointer (some ad)) = some (.agg cs2.toArray) := by simp only [gLoad, sz99, g2]; rfl
  refine mk_of ?_; repeat' (first | (with_reducible first | refine gw_seq ?_ | refine gw_block ?_) | ((first | (with_reducible refine mk_to ?_) | (with_reducible first | refine gw_region ?_ | refine gw_if ?_ | refine gw_skip ?_ | refine gw_exit ?_ | refine gw_ret ?_) | ((with_reducible first | refine gif_b (fun hb => ?_) (fun hb => ?_) | refine want_t (fun hb => ?_) (fun hb => ?_) | refine want_f (fun hb => ?_) (fun hb => ?_)) <;> (try simp only [hb]) <;> (try simp only [hpr] at hb))) <;> try simp only [gop, gyield, gLenX, gNilM, gField, gIndexV, gPart, reduceIte, seval, Int.cast_ofNat_Int, stz, stp, ty23, ty24, ty99, ty3, rs115, d3, g1, l1]))
  refine (hcl h3 cs2 y s3 g3).mono ?_
  rintro _ h4 ⟨rfl, s4⟩
  have ht : b.take (i + 1) = b.take i ++ [y] := by rw [List.take_add_one, hy]; rfl
  cases hyi : φ y
  · refine mk_of ?_; repeat' (first | (with_reducible first | refine gw_seq ?_ | refine gw_block ?_) | ((first | (with_reducible refine mk_to ?_) | (with_reducible first | refine gw_region ?_ | refine gw_if ?_ | refine gw_skip ?_ | refine gw_exit ?_ | refine gw_ret ?_) | ((with_reducible first | refine gif_b (fun hb => ?_) (fun hb => ?_) | refine want_t (fun hb => ?_) (fun hb => ?_) | refine want_f (fun hb => ?_) (fun hb => ?_)) <;> (try simp only [hb]) <;> (try simp only [hpr] at hb))) <;> try simp only [gop, gyield, gLenX, gNilM, gField, gIndexV, gPart, reduceIte, seval, Int.cast_ofNat_Int, stz, stp, ty23, ty24, ty99, ty3, rs115, wi]))
    refine ⟨_, i + 1, ?_, (by simp only [List.forall_mem_cons, List.not_mem_nil, false_implies, implies_true, List.map, List.cons_append, List.nil_append, lk, Nat.reduceEqDiff, reduceIte, and_true, true_and]), rfl, by omega, s3.trans s4, fun z hz => ?_⟩
    · omega
    · rw [ht] at hz
      rcases List.mem_append.1 hz with hz | hz
      · exact nf z hz
      · obtain rfl := List.mem_singleton.1 hz; exact hyi
  · refine mk_of ?_; repeat' (first | (with_reducible first | refine gw_seq ?_ | refine gw_block ?_) | ((first | (with_reducible refine mk_to ?_) | (with_reducible first | refine gw_region ?_ | refine gw_if ?_ | refine gw_skip ?_ | refine gw_exit ?_ | refine gw_ret ?_) | ((with_reducible first | refine gif_b (fun hb => ?_) (fun hb => ?_) | refine want_t (fun hb => ?_) (fun hb => ?_) | refine want_f (fun hb => ?_) (fun hb => ?_)) <;> (try simp only [hb]) <;> (try simp only [hpr] at hb))) <;> try simp only [gop, gyield, gLenX, gNilM, gField, gIndexV, gPart, reduceIte, seval, Int.cast_ofNat_Int, stz, stp, ty23, ty24, ty99, ty3, rs115]))
    exact ⟨⟨i, rfl, ⟨fun _ => ⟨y, List.mem_of_getElem? hy, hyi⟩, fun _ => by omega⟩⟩, s3.trans s4⟩
theorem c_bat1 (N : Nat) (h : GH) {cs : List Value} {y : Bnd} (r : Bd h cs y) {kc : Nat} {a : Option Addr} {n c : Nat} {u : Value} {id : List UInt8} (m : h kc = some ⟨[.slice a n c, u], 0, true, false⟩) (ri : RB h (.slice a n c) id) : GTri Try.prog N 80 [.agg cs.toArray, .pointer (some ⟨kc, 0, none⟩)] h fun v h' => v = .bool (id == y.1) ∧ HS h h' := by
  obtain ⟨a1, n1, c1, b1, m1, d1, rfl, r1, r2⟩ := r
  refine gtri Try.func80 rfl gf80 ok80 (by simp [Try.ntmps80]) ?_
  repeat' (first | (with_reducible first | refine gw_seq ?_ | refine gw_block ?_) | ((first | (with_reducible first | refine gw_region ?_ | refine gw_if ?_ | refine gw_skip ?_ | refine gw_exit ?_ | refine gw_ret ?_) | ((with_reducible first | refine gif_b (fun hb => ?_) (fun hb => ?_) | refine want_t (fun hb => ?_) (fun hb => ?_) | refine want_f (fun hb => ?_) (fun hb => ?_)) <;> (try simp only [hb]) <;> (try simp only [hpr] at hb))) <;> try simp only [gop, gyield, gLenX, gNilM, gField, gIndexV, gPart, reduceIte, seval, Int.cast_ofNat_Int, stz, stp, ty24, ty99, ty5, rs80]))
  refine box_g rfl fun k2 h2 m2 s2 f2 n2 => ?_
  refine mk_of ?_; repeat' (first | (with_reducible first | refine gw_seq ?_ | refine gw_block ?_) | ((first | (with_reducible refine mk_to ?_) | (with_reducible first | refine gw_region ?_ | refine gw_if ?_ | refine gw_skip ?_ | refine gw_exit ?_ | refine gw_ret ?_) | ((with_reducible first | refine gif_b (fun hb => ?_) (fun hb => ?_) | refine want_t (fun hb => ?_) (fun hb => ?_) | refine want_f (fun hb => ?_) (fun hb => ?_)) <;> (try simp only [hb]) <;> (try simp only [hpr] at hb)) | ((refine GTri.mono (c_Equal N h2 (ri.hs s2) (r1.hs s2)) ?_); rintro _ _ ⟨rfl, hh9⟩; replace hh9 := hh9.symm; subst hh9)) <;> try simp only [gop, gyield, gLenX, gNilM, gField, gIndexV, gPart, reduceIte, seval, Int.cast_ofNat_Int, stz, stp, ty24, ty99, ty5, rs80, gload1 m2 sz24, gload1 (s2 _ _ m) sz24, List.getElem?_cons_zero, List.getElem?_cons_succ]))
  exact s2
theorem c_cont (N : Nat) (h : GH) {v : Value} {b : List Bnd} (r : RL 2 Bd h v b) (hl : b.length ≤ 1000000) {kc : Nat} {a : Option Addr} {n c : Nat} {u : Value} {id : List UInt8} (m : h kc = some ⟨[.slice a n c, u], 0, true, false⟩) (ri : RB h (.slice a n c) id) :
    GTri Try.prog N 79 [v, .func (.func 80) #[] #[.pointer (some ⟨kc, 0, none⟩)]] h fun v h' => v = .bool (b.any fun y => id == y.1) ∧ HS h h' := by
  refine gtri Try.func79 rfl gf79 ok79 (by simp [Try.ntmps79]) ?_
  repeat' (first | (with_reducible first | refine gw_seq ?_ | refine gw_block ?_) | ((first | (with_reducible first | refine gw_region ?_ | refine gw_if ?_ | refine gw_skip ?_ | refine gw_exit ?_ | refine gw_ret ?_) | ((with_reducible first | refine gif_b (fun hb => ?_) (fun hb => ?_) | refine want_t (fun hb => ?_) (fun hb => ?_) | refine want_f (fun hb => ?_) (fun hb => ?_)) <;> (try simp only [hb]) <;> (try simp only [hpr] at hb))) <;> try simp only [gop, gyield, gLenX, gNilM, gField, gIndexV, gPart, reduceIte, seval, Int.cast_ofNat_Int, stz, stp, Try.underlying130, ty23, ty99, ty130, ty3, rs79]))
  refine (c_ixfG N h r hl (fun y => id == y.1) fun h' cs y s q => c_bat1 N h' q (s _ _ m) (ri.hs s)).mono ?_
  rintro _ h2 ⟨⟨z, rfl, hz⟩, s2⟩
  have d : decide (z ≥ 0) = (b.any fun y => id == y.1) := by
    rw [Bool.eq_iff_iff, decide_eq_true_eq, List.any_eq_true]
    exact hz
  refine mk_of ?_; repeat' (first | (with_reducible first | refine gw_seq ?_ | refine gw_block ?_) | ((first | (with_reducible refine mk_to ?_) | (with_reducible first | refine gw_region ?_ | refine gw_if ?_ | refine gw_skip ?_ | refine gw_exit ?_ | refine gw_ret ?_) | ((with_reducible first | refine gif_b (fun hb => ?_) (fun hb => ?_) | refine want_t (fun hb => ?_) (fun hb => ?_) | refine want_f (fun hb => ?_) (fun hb => ?_)) <;> (try simp only [hb]) <;> (try simp only [hpr] at hb))) <;> try simp only [gop, gyield, gLenX, gNilM, gField, gIndexV, gPart, reduceIte, seval, Int.cast_ofNat_Int, stz, stp, Try.underlying130, ty23, ty99, ty130, ty3, rs79, d]))
  exact s2
end Go.Gh

