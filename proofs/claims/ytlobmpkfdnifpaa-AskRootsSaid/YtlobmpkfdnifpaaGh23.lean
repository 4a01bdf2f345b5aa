/- A framework of this claim's proof, part 23. Buffers of one's own that grow. No statement of the claim stands here. -/
import Derived.Test.YtlobmpkfdnifpaaGh22
namespace Go.Gh
open Go Go.RowKit
set_option linter.unusedVariables false
set_option linter.unusedSimpArgs false

/-- A slice of bytes of one's own: new since h0, a whole block. -/
def OWN (h0 h : GH) (v : Value) (l : List UInt8) : Prop :=
  (v = .slice none 0 0 ∧ l = []) ∨ (∃ a, v = .slice (some a) 0 1 ∧ l = []) ∨
  ∃ k c, v = .slice (some ⟨k, 0, none⟩) l.length c ∧ c % 2 = 0 ∧ 2 * l.length ≤ c ∧ l ≠ [] ∧ h k = some ⟨l.map bv, 1, true, true⟩ ∧ h0 k = none

theorem OWN.nil (h0 h : GH) : OWN h0 h (.slice none 0 0) [] := .inl ⟨rfl, rfl⟩
theorem OWN.rb {h0 h : GH} {v : Value} {l : List UInt8} (o : OWN h0 h v l) : RB h v l := by
  rcases o with ⟨rfl, rfl⟩ | ⟨a, rfl, rfl⟩ | ⟨k, c, rfl, _, h2, _, h3, _⟩
  · exact RB.nil h
  · exact .inr ⟨a, 1, rfl, by simp [gread], by simp⟩
  · exact .inr ⟨⟨k, 0, none⟩, c, rfl, gread_lit h3 (by rw [List.drop_zero]; exact List.take_of_length_le (by simp)) (by simp), h2⟩
theorem OWN.ap {h0 h : GH} {v : Value} {l : List UInt8} (o : OWN h0 h v l) : AP h0 h v 1 := by
  rcases o with ⟨rfl, rfl⟩ | ⟨a, rfl, rfl⟩ | ⟨k, c, rfl, h1, h2, _, h3, h4⟩
  · exact .inl ⟨0, rfl⟩
  · exact .inr (.inl ⟨a, 0, rfl⟩)
  · exact .inr (.inr ⟨_, _, c, _, rfl, h1, h3, rfl, rfl, rfl, by simp, h4⟩)
theorem OWN.weak {a b h : GH} {v : Value} {l : List UInt8} (s : HS a b) (o : OWN b h v l) : OWN a h v l := by
  rcases o with o | o | ⟨k, c, h1, h2, h3, h4, h5, h6⟩
  · exact .inl o
  · exact .inr (.inl o)
  · exact .inr (.inr ⟨k, c, h1, h2, h3, h4, h5, s.none_of h6⟩)
theorem OWN.hs {h0 h h' : GH} {v : Value} {l : List UInt8} (o : OWN h0 h v l) (s : HS h h') : OWN h0 h' v l := by
  rcases o with o | o | ⟨k, c, h1, h2, h3, h4, h5, h6⟩
  · exact .inl o
  · exact .inr (.inl o)
  · exact .inr (.inr ⟨k, c, h1, h2, h3, h4, s _ _ h5, h6⟩)
theorem OWN.form {h0 h : GH} {v : Value} {l : List UInt8} (o : OWN h0 h v l) : ∃ a c, v = .slice a l.length c := by
  obtain ⟨a, c, h, _⟩ := o.rb.form
  exact ⟨a, c, h⟩
/-- What is not bytes of one's own stays. -/
def HV (h h' : GH) : Prop := ∀ j B, h j = some B → B.es ≠ 1 → h' j = some B
theorem HV.refl (h : GH) : HV h h := fun _ _ e _ => e
theorem HV.trans {a b c : GH} (x : HV a b) (y : HV b c) : HV a c := fun j B e n => y j B (x j B e n) n
theorem HS.hv {a b : GH} (x : HS a b) : HV a b := fun j B e _ => x j B e

/-- An append to a buffer of one's own; whoever had the old one has it no more. -/
theorem append_own {P : Program} {t u e : Nat} {z : Value} {du : TypeDesc} {h0 h : GH} {s x : Value} {l l2 : List UInt8} {K : Value → GH → Prop} (hel : gel P t = some (e, 1, 1, z)) (hu : P.underlying u = some du) (hni : notInt du = true)
    (hs0 : HS h0 h) (o : OWN h0 h s l) (hsrc : gSrc h 1 x = some (l2.length, l2.map bv)) (hsz : l.length + l2.length ≤ 140737488355328)
    (k : ∀ v h', HS h0 h' → HV h h' → OWN h0 h' v (l ++ l2) → K v h') : gAppendX P t u h s x K := by
  refine .inl ⟨du, e, 1, 1, z, l2.length, l2.map bv, hu, hni, hel, hsrc, e, 1, 1, z, hel, by simp, bv_cells _, ?_⟩
  rcases o with ⟨rfl, rfl⟩ | ⟨a, rfl, rfl⟩ | ⟨k0, c, rfl, h1, h2, h3, h4, h5⟩
  · simp only
    by_cases hm : l2.length = 0
    · have : l2 = [] := List.eq_nil_of_length_eq_zero hm
      subst this
      exact .inl ⟨rfl, k _ h hs0 (HV.refl h) (.inl ⟨rfl, rfl⟩)⟩
    · have hsz' : l2.length ≤ 140737488355328 := by simpa using hsz
      refine .inr ⟨by omega, by simp only [maxLen]; omega, by omega, fun k0 hk0 => ?_⟩
      have hS := HS.new hk0 ⟨l2.map bv, 1, true, true⟩
      exact k _ _ (hs0.trans hS) hS.hv (.inr (.inr ⟨k0, _, rfl, by omega, by simp, by rintro e; simp at e; subst e; simp at hm, by rw [hset_same]; rfl, hs0.none_of hk0⟩))
  · simp only
    by_cases hm : l2.length = 0
    · have : l2 = [] := List.eq_nil_of_length_eq_zero hm
      subst this
      exact .inl ⟨rfl, k _ h hs0 (HV.refl h) (.inr (.inl ⟨a, rfl, rfl⟩))⟩
    · have hsz' : l2.length ≤ 140737488355328 := by simpa using hsz
      refine .inr ⟨by omega, by simp only [maxLen]; omega, by omega, .inl ⟨[], by simp [gread], by first | trivial | omega, by first | omega | simp; omega, fun k0 hk0 => ?_⟩⟩
      have hS := HS.new hk0 ⟨[] ++ l2.map bv, 1, true, true⟩
      exact k _ _ (hs0.trans hS) hS.hv (.inr (.inr ⟨k0, 2 * (0 + l2.length), by simp, by omega, by simp, by rintro e; simp at e; subst e; simp at hm, by rw [hset_same]; rfl, hs0.none_of hk0⟩))
  · simp only
    by_cases hm : l2.length = 0
    · have : l2 = [] := List.eq_nil_of_length_eq_zero hm
      subst this
      refine .inl ⟨rfl, k _ h hs0 (HV.refl h) (.inr (.inr ⟨k0, c, by simp, h1, by simpa using h2, by simpa using h3, by simpa using h4, h5⟩))⟩
    · refine .inr ⟨by omega, by simp only [maxLen]; omega, by omega, .inr (.inr ⟨_, h4, by simp, h1, rfl, rfl, by simp, .inl fun k1 hk1 hne => ?_⟩)⟩
      refine k _ _ (fun j B hj => ?_) (fun j B hj hn => ?_) (.inr (.inr ⟨k1, _, by simp only [List.length_append]; rfl, by omega, by simp, by simp [h3], by rw [hset_same]; simp, hs0.none_of hk1⟩))
      · have hj' := hs0 j B hj
        have : j ≠ k0 := fun e => by subst e; rw [h5] at hj; cases hj
        have h6 : j ≠ k1 := fun e => by subst e; rw [hk1] at hj'; cases hj'
        rw [hset_ne _ _ h6, hdel_ne _ this]; exact hj'
      · have : j ≠ k0 := fun e => by subst e; rw [h4] at hj; cases hj; exact hn rfl
        have h6 : j ≠ k1 := fun e => by subst e; rw [hk1] at hj; cases hj
        rw [hset_ne _ _ h6, hdel_ne _ this]; exact hj

/-- An empty slice that is written out. -/
theorem bs0_g {P : Program} {t e es by_ : Nat} {z : Value} {h : GH} {K : Value → GH → Prop} (hel : gel P t = some (e, es, by_, z)) (hz : clo z = true) (g : K (.slice (some ⟨0, 0, none⟩) 0 1) h) : gBuildSlice P t h 0 [] K :=
  ⟨e, es, by_, z, zeros z (0 * es), hel, hz, by omega, rfl, by
    have := zeros_length z (0 * es)
    rw [Nat.zero_mul] at this ⊢
    rw [List.eq_nil_of_length_eq_zero this]; rfl, fun _ => g, fun hh => absurd rfl hh⟩
theorem RB.isnil {h : GH} {a : Option Addr} {n c : Nat} {l : List UInt8} (r : RB h (.slice a n c) l) (ha : a.isNone = true) : l = [] := by
  obtain ⟨a', c', h1, h2⟩ := r.form
  cases h1
  exact h2 (by cases a <;> simp_all)

/-- One byte, in a new slice of one. -/
theorem src_one {h : GH} {k es : Nat} {wr tl : Bool} {v : Value} (b : UInt8) (hk : h k = some ⟨[v], es, wr, tl⟩) (hv : v = bv b) : gSrc h 1 (.slice (some ⟨k, 0, none⟩) 1 3) = some (1, [b].map bv) := by
  subst hv
  simp only [gSrc, gread_lit hk (o := 0) (n := 1 * 1) (cs := [bv b]) rfl rfl]
  rfl
end Go.Gh
