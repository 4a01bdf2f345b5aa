/- A framework of this claim's proof, part 5. Append, in ghost memory. No statement of the claim stands here. -/
import Derived.Test.YtlobmpkfdnifpaaGh4
namespace Go.Gh
open Go Go.RowKit
set_option linter.unusedVariables false
set_option linter.unusedSimpArgs false

theorem grown_room {N : Nat} {w : World} (hN : N ≤ w.heap.size) (o : Obj) : Below N w (w.drew.alloc o) := (Below.drew (Below.refl N w)).alloc hN o


/-- Less is told: of some blocks nothing, of others not that they are ours. -/
theorem Sim.less {N : Nat} {φ : Fm} {h h' : GH} {w : World} (s : Sim N φ h w) (hh : ∀ j C, h' j = some C → ∃ B, h j = some B ∧ C.cells = B.cells ∧ C.es = B.es ∧ (C.wr = true → B.wr = true) ∧ (C.tl = true → B.tl = true)) : Sim N φ h' w := by
  refine ⟨s.ini, s.big, s.fin, fun j C hj => ?_, ?_, s.rng⟩
  · obtain ⟨B, h1, h2, h3, h4, h5⟩ := hh j C hj
    obtain ⟨f, t1, t2⟩ := s.dom j B h1
    refine ⟨f, t1, ⟨t2.lt, ?_, by rw [h3]; exact t2.es, fun h0 => t2.nz (h0.imp h4 h5), fun hw => ?_, fun ht => ?_, fun ht => ?_⟩⟩
    · rw [h2]; exact t2.cell
    · rw [h2]; exact t2.wrf (h4 hw)
    · rw [h2]; exact t2.tlf (h5 ht)
    · rw [h2]; exact t2.tll (h5 ht)
  · intro j j' B1 B2 f1 f2 hne p1 p2 q1 q2 hbb
    obtain ⟨C1, r1, r2, _, r3, r4⟩ := hh j B1 p1
    obtain ⟨C2, t1, t2, _, t3, t4⟩ := hh j' B2 p2
    obtain ⟨z1, z2, z3⟩ := s.sep j j' C1 C2 f1 f2 hne r1 t1 q1 q2 hbb
    refine ⟨?_, ?_, fun ht => ?_⟩
    · cases hw : B1.wr with
      | false => rfl
      | true => rw [r3 hw] at z1; cases z1
    · cases hw : B2.wr with
      | false => rfl
      | true => rw [t3 hw] at z2; cases z2
    · obtain ⟨y1, y2⟩ := z3 (r4 ht)
      refine ⟨?_, by rw [r2, t2]; exact y2⟩
      cases hw : B2.tl with
      | false => rfl
      | true => rw [t4 hw] at y1; cases y1

/-- The new array of an append: a new ghost block with all that is told, its spare memory its own. -/
theorem gApp_new {P : Program} {N : Nat} {φ : Fm} {h : GH} {w : World} (s : Sim N φ h w) (hw : Nat → Prop) (hall : ∀ k, h k = none → hw k → True) {K : Value → GH → Prop} (t e : TypeId) (es n c m : Nat) {cs cs' : List Value} {z : Value} (hz : z.cells.size = es)
    (hv : VRs φ cs cs') (hl : cs.length = (n + m) * es) (hpos : 0 < n + m) (k : ∀ k, h k = none → φ k = none → K (.slice (some ⟨k, 0, none⟩) (n + m) (2 * (n + m))) (hset h k ⟨cs, es, true, true⟩)) :
    ∃ φ' v h', Ext φ φ' ∧ Sim N φ' h' (w.drew.alloc (.cells (cs' ++ (Builtin.zeroCells z.cells (grownCap w (n + m) c e - (n + m))).toList).toArray e)) ∧
      VR φ' v (.slice (some ⟨w.heap.size, 0, none⟩) (n + m) (grownCap w (n + m) c e)) ∧ Below N w (w.drew.alloc (.cells (cs' ++ (Builtin.zeroCells z.cells (grownCap w (n + m) c e - (n + m))).toList).toArray e)) ∧ K v h' := by
  obtain ⟨k0, h1, h2, h3⟩ := s.fresh
  have hge := grownCap_ge w (n + m) c e
  have := galloc s.drew h1 hv e es true (rest := (Builtin.zeroCells z.cells (grownCap w (n + m) c e - (n + m))).toList)
  refine ⟨_, _, _, fset_ext _ h1, this, ?_, grown_room s.big _, k k0 h2 h1⟩
  refine .slice (.inl ⟨rfl, rfl, _, fset_same _ _ _, rfl, rfl⟩) ⟨fun ho => by omega, fun _ => ⟨by omega, .inr ⟨_, fset_same _ _ _, ?_⟩⟩⟩ hge
  have hzl : (Builtin.zeroCells z.cells (grownCap w (n + m) c e - (n + m))).toList.length = (grownCap w (n + m) c e - (n + m)) * es := by
    rw [Array.length_toList, size_zeroCells, hz]
  simp only [Nat.zero_add]
  rw [hl, hzl, ← Nat.add_mul]
  exact Nat.mul_le_mul_right _ (by omega)

theorem gAppend_sound {P : Program} {N : Nat} {φ : Fm} {h : GH} {w : World} (hs : Sim N φ h w) {t u ty : TypeId} {du : TypeDesc} (hu : P.underlying u = some du) (hni : ∀ k, du ≠ .int k)
    {s s' x x' : Value} (hvs : VR φ s s') (hvx : VR φ x x') {m : Nat} {xs : List Value} {es0 : Nat} (hsrc : gSrc h es0 x = some (m, xs)) (hes : ∀ e es b z, gel P t = some (e, es, b, z) → es = es0) {K : Value → GH → Prop}
    (g : gAppend P t h s m xs K) : Yes P N φ w (Builtin.append_ #[t, u] ty #[s', x']) K := by
  obtain ⟨e, es, by_, z, hel, hxl, hxc, g⟩ := g
  obtain rfl := hes _ _ _ _ hel
  obtain ⟨ht, i, hi, hsize, hbytes, hz, hzs, hpos⟩ := gel_sound hel
  subst hsize
  obtain ⟨_, xs', hvxs, hlen, hfc, hfd⟩ := gSrc_sound (P := P) hs hvx hsrc
  split at g
  · -- nil
    rename_i c
    cases hvs with
    | snil =>
    rcases g with ⟨rfl, k⟩ | ⟨hm, hml, hb, k⟩
    · have hx0 : xs' = [] := by
        have : xs = [] := List.eq_nil_of_length_eq_zero (by simpa using hxl)
        subst this; exact List.eq_nil_of_length_eq_zero (by simpa using hvxs.length.symm)
      subst hx0
      exact .same hs (run_append_nothing w t u ty e du i ht hu hni hi none 0 0 x' (Nat.le_refl _) (hlen _) hfc) (.snil c) k
    · have hml' : m ≤ 9223372036854775807 := by simp only [maxLen] at hml; omega
      have hr := run_append_out (P := P) w t u ty e du i z ht hu hni hi hz none 0 0 m x' [] xs' (hlen _) hfd (by simp [Builtin.firstCells]) (by omega) (by omega) (by rw [hbytes]; simpa using hb)
      simp only [Nat.zero_add, List.nil_append] at hr
      obtain ⟨φ', v, h', r1, r2, r3, r4, r5⟩ := gApp_new (P := P) hs (fun _ => True) (fun _ _ _ => trivial) (K := K) t e i.size 0 0 m hzs hvxs (by simpa using hxl) (by omega)
        (fun k' hk _ => by simpa using k k' hk)
      simp only [Nat.zero_add] at r2 r3 r4
      exact ⟨_, _, φ', v, h', hr, r1, r2, r3, r4, r5⟩
  · rename_i a n c
    cases hvs with
    | slice ha hc hn =>
    rename_i a' c'
    rcases g with ⟨rfl, k⟩ | ⟨hm, hml, hb, g⟩
    · have hx0 : xs' = [] := by
        have : xs = [] := List.eq_nil_of_length_eq_zero (by simpa using hxl)
        subst this; exact List.eq_nil_of_length_eq_zero (by simpa using hvxs.length.symm)
      subst hx0
      exact .same hs (run_append_nothing w t u ty e du i ht hu hni hi (some a') n c' x' hn (hlen _) hfc) (.slice ha hc hn) k
    have hml' : n + m ≤ 9223372036854775807 := by simp only [maxLen] at hml; omega
    rcases g with ⟨pre, hpre, hodd, hful, k⟩ | ⟨hle, h2, hw, k⟩ | ⟨B, hB, hsp, hev, htl, hBes, hend, g⟩
    · -- a new array for certain
      have hc1 := hc.1 hodd
      obtain ⟨pre', p1, p2, p3⟩ : ∃ pre', VRs φ pre pre' ∧ pre'.length = n * i.size ∧ (Builtin.firstCells i.size n (.slice (some a') n c')).run P w.drew = .ok pre'.toArray w.drew := by
        rcases ha with ha | h0
        · obtain ⟨cs', p1, p2, p3⟩ := gread_sound hs ha hpre
          exact ⟨cs', p1, p2, run_firstCells_some (P := P) w.drew i.size n a' n c' cs' p2 (by simpa using p3)⟩
        · have : n = 0 := by omega
          subst this
          have hcs : pre = [] := List.eq_nil_of_length_eq_zero (by simpa using gread_length hpre)
          subst hcs
          exact ⟨[], .nil, by simp, run_firstCells_some (P := P) w.drew i.size 0 a' 0 c' [] (by simp) (by simp)⟩
      have hr := run_append_out (P := P) w t u ty e du i z ht hu hni hi hz (some a') n c' m x' pre' xs' (hlen _) hfd p3 (by omega) hml' (by rw [hbytes]; exact hb)
      obtain ⟨φ', v, h', r1, r2, r3, r4, r5⟩ := gApp_new (P := P) hs (fun _ => True) (fun _ _ _ => trivial) (K := K) t e i.size n c' m hzs (p1.append hvxs)
        (by rw [List.length_append, gread_length hpre, hxl, Nat.add_mul]) (by omega) (fun k' hk _ => k k' hk)
      exact ⟨_, _, φ', v, h', hr, r1, r2, r3, r4, r5⟩
    · -- in place for certain
      have hcle : c / 2 ≤ c' := by
        rcases Nat.mod_two_eq_zero_or_one c with h0 | h1
        · exact (hc.2 h0).1
        · exact Nat.le_of_eq (hc.1 h1).symm
      have ha' : AR φ a a' := by
        rcases ha with ha | h0
        · exact ha
        · omega
      obtain ⟨q1, q2, f, q3, q4, q5⟩ := ha'
      obtain ⟨w', r1, r2, r3⟩ := gwrite_sound (P := P) hs (a := ⟨a.block, a.off + n * i.size, a.spot⟩) (a' := a'.add (n * i.size))
        ⟨q1, by rw [addr_eta q2, add_none], f, q3, by rw [addr_eta q2, add_none]; exact q4, by rw [addr_eta q2, add_none]; show a'.off + n * i.size = _; rw [q5, Nat.add_assoc]⟩ hvxs hxc hw
      have hr := run_append_in (P := P) w t u ty e du i ht hu hni hi a' n c' m x' xs' (hlen _) hfc (by omega) w' r1
      exact ⟨_, _, φ, _, _, hr, Ext.refl _, r2, .slice (.inl ⟨q1, q2, f, q3, q4, q5⟩) hc (by omega), r3, k⟩
    · -- in place or not: a new ghost block
      obtain ⟨f, hf, hb0⟩ := hs.dom _ _ hB
      by_cases hroom : n + m ≤ c'
      · have ha' : AR φ a a' := by
          rcases ha with ha | h0
          · exact ha
          · omega
        obtain ⟨q1, q2, f', q3, q4, q5⟩ := ha'
        rw [hf] at q3; cases q3
        have hlim : f.o + B.cells.length + xs.length ≤ f.lim := by
          rcases (hc.2 hev).2 with h0 | ⟨f', z1, z2⟩
          · omega
          · rw [hf] at z1; cases z1
            have : (n + m) * f.es ≤ c' * f.es := Nat.mul_le_mul_right _ hroom
            rw [hb0.es, hBes] at this z2
            rw [Nat.add_mul] at this
            rw [hxl, ← hend]
            omega
        have hend' : (a'.add (n * i.size)) = ⟨f.b, f.o + B.cells.length, none⟩ := by
          rw [addr_eta q2, add_none, q4, q5, Nat.add_assoc, hend]
        obtain ⟨k0, y1, y2, y3⟩ := hs.fresh
        have hk0 : k0 ≠ a.block := fun ee => by rw [ee, hf] at y1; cases y1
        have hoff : a.off ≤ B.cells.length := by omega
        have vr : ∀ φ', Ext φ φ' → φ' k0 = some ⟨f.b, f.o + a.off, f.lim, B.es⟩ → VR φ' (.slice (some ⟨k0, 0, none⟩) (n + m) (2 * (n + m))) (.slice (some a') (n + m) c') := fun φ' hE hk =>
          .slice (.inl ⟨rfl, q2, _, hk, q4, by simpa using q5⟩) ⟨fun ho => by omega, fun _ => ⟨by omega, by
            rcases (hc.2 hev).2 with h0 | ⟨f', z1, z2⟩
            · exact .inl h0
            · rw [hf] at z1; cases z1
              exact .inr ⟨_, hk, by simpa [hb0.es] using z2⟩⟩⟩ hroom
        rcases g with k | k
        · obtain ⟨z1, z2, z3⟩ := hs.extend (P := P) hB hf htl a.off hoff hvxs hxc hlim y1 B.wr (hdel h a.block)
            (fun j C hj => by
              by_cases hja : j = a.block
              · subst hja; rw [hdel_same] at hj; cases hj
              · rw [hdel_ne _ hja] at hj; exact .inl ⟨hja, hj⟩) id
          have hr := run_append_in (P := P) w t u ty e du i ht hu hni hi a' n c' m x' xs' (hlen _) hfc hroom _ (by rw [hend']; exact z1)
          exact ⟨_, _, _, _, _, hr, fset_ext _ y1, z2, vr _ (fset_ext _ y1) (fset_same _ _ _), z3, by rw [hBes]; exact k k0 y2 hk0⟩
        · obtain ⟨z1, z2, z3⟩ := hs.extend (P := P) hB hf htl a.off hoff hvxs hxc hlim y1 false (hset h a.block { B with wr := false, tl := false })
            (fun j C hj => by
              by_cases hja : j = a.block
              · subst hja; rw [hset_same] at hj; cases hj; exact .inr ⟨rfl, rfl, rfl⟩
              · rw [hset_ne _ _ hja] at hj; exact .inl ⟨hja, hj⟩) (fun hh => by cases hh)
          have hr := run_append_in (P := P) w t u ty e du i ht hu hni hi a' n c' m x' xs' (hlen _) hfc hroom _ (by rw [hend']; exact z1)
          exact ⟨_, _, _, _, _, hr, fset_ext _ y1, z2, vr _ (fset_ext _ y1) (fset_same _ _ _), z3, by have hk := k k0 y2 hk0; rw [← hBes] at hk; exact hk⟩
      · -- a new array
        have hoff : a.off ≤ B.cells.length := by omega
        have hpre : gread h a (n * i.size) = some (B.cells.drop a.off) := by
          unfold gread
          split
          · rename_i h0
            rw [h0, Nat.add_zero] at hend
            rw [hend]; simp
          · rw [hsp, hB]
            simp only []
            rw [if_pos (by omega), List.take_of_length_le (by simp; omega)]
        obtain ⟨pre', p1, p2, p3⟩ : ∃ pre', VRs φ (B.cells.drop a.off) pre' ∧ pre'.length = n * i.size ∧ (Builtin.firstCells i.size n (.slice (some a') n c')).run P w.drew = .ok pre'.toArray w.drew := by
          rcases ha with ha | h0
          · obtain ⟨cs', p1, p2, p3⟩ := gread_sound hs ha hpre
            exact ⟨cs', p1, p2, run_firstCells_some (P := P) w.drew i.size n a' n c' cs' p2 (by simpa using p3)⟩
          · have h0' : n = 0 := by omega
            subst h0'
            have hcs : B.cells.drop a.off = [] := List.eq_nil_of_length_eq_zero (by simpa using gread_length hpre)
            rw [hcs]
            exact ⟨[], .nil, by simp, run_firstCells_some (P := P) w.drew i.size 0 a' 0 c' [] (by simp) (by simp)⟩
        have hr := run_append_out (P := P) w t u ty e du i z ht hu hni hi hz (some a') n c' m x' pre' xs' (hlen _) hfd p3 (by omega) hml' (by rw [hbytes]; exact hb)
        rcases g with k | k
        · obtain ⟨φ', v, h', r1, r2, r3, r4, r5⟩ := gApp_new (P := P) (hs.forget (h' := hdel h a.block) fun j C hj => by
              by_cases hja : j = a.block
              · subst hja; rw [hdel_same] at hj; cases hj
              · rw [hdel_ne _ hja] at hj; exact hj) (fun _ => True) (fun _ _ _ => trivial) (K := fun v h' => ∃ h'', K v h'' ∧ (∀ j C, h'' j = some C → (h' j = some C ∨ ∃ k0 cs, j = k0 ∧ h' k0 = some ⟨cs, i.size, true, true⟩ ∧ C = ⟨cs, i.size, B.wr, true⟩))) t e i.size n c' m hzs (p1.append hvxs)
            (by rw [List.length_append, gread_length hpre, hxl, Nat.add_mul]) (by omega) (fun k' hk hφ => by
              have hka : k' ≠ a.block := fun ee => by rw [ee, hf] at hφ; cases hφ
              rw [hdel_ne _ hka] at hk
              refine ⟨_, k k' hk hka, fun j C hj => ?_⟩
              by_cases hjk : j = k'
              · subst hjk; rw [hset_same] at hj; cases hj
                exact .inr ⟨_, _, rfl, by rw [hset_same], rfl⟩
              · rw [hset_ne _ _ hjk] at hj; exact .inl (by rw [hset_ne _ _ hjk]; exact hj))
          obtain ⟨h'', r6, r7⟩ := r5
          refine ⟨_, _, φ', v, h'', hr, r1, ?_, r3, r4, r6⟩
          refine r2.less fun j C hj => ?_
          rcases r7 j C hj with hj | ⟨k0, cs, rfl, hk, rfl⟩
          · exact ⟨C, hj, rfl, rfl, id, id⟩
          · exact ⟨_, hk, rfl, rfl, fun _ => rfl, fun _ => rfl⟩
        · obtain ⟨φ', v, h', r1, r2, r3, r4, r5⟩ := gApp_new (P := P) (hs.degrade hB) (fun _ => True) (fun _ _ _ => trivial) (K := fun v h' => ∃ h'', K v h'' ∧ (∀ j C, h'' j = some C → (h' j = some C ∨ ∃ k0 cs, j = k0 ∧ h' k0 = some ⟨cs, i.size, true, true⟩ ∧ C = ⟨cs, i.size, false, true⟩))) t e i.size n c' m hzs (p1.append hvxs)
            (by rw [List.length_append, gread_length hpre, hxl, Nat.add_mul]) (by omega) (fun k' hk hφ => by
              have hka : k' ≠ a.block := fun ee => by rw [ee, hf] at hφ; cases hφ
              rw [hset_ne _ _ hka] at hk
              refine ⟨_, k k' hk hka, fun j C hj => ?_⟩
              by_cases hjk : j = k'
              · subst hjk; rw [hset_same] at hj; cases hj
                exact .inr ⟨_, _, rfl, by rw [hset_same], rfl⟩
              · rw [hset_ne _ _ hjk] at hj; exact .inl (by rw [hset_ne _ _ hjk]; exact hj))
          obtain ⟨h'', r6, r7⟩ := r5
          refine ⟨_, _, φ', v, h'', hr, r1, ?_, r3, r4, r6⟩
          refine r2.less fun j C hj => ?_
          rcases r7 j C hj with hj | ⟨k0, cs, rfl, hk, rfl⟩
          · exact ⟨C, hj, rfl, rfl, id, id⟩
          · exact ⟨_, hk, rfl, rfl, fun _ => rfl, fun _ => rfl⟩
  · exact g.elim

end Go.Gh
