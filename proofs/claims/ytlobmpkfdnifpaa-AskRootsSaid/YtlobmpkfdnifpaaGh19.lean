/- A framework of this claim's proof, part 19. A buffer of known room that bytes are appended to. No statement of the claim stands here. -/
import Derived.Test.YtlobmpkfdnifpaaGh18
namespace Go.Gh
open Go Go.RowKit
set_option linter.unusedVariables false
set_option linter.unusedSimpArgs false

/-- Block k: a buffer of s bytes, the first of which are l. -/
def BUF (h : GH) (k s : Nat) (l : List UInt8) : Prop := h k = some ⟨l.map bv ++ List.replicate (s - l.length) (bv 0), 1, true, true⟩ ∧ l.length ≤ s

theorem append_buf {P : Program} {t u e k s n : Nat} {z : Value} {du : TypeDesc} {h : GH} {x : Value} {l l2 : List UInt8} {K : Value → GH → Prop} (hel : gel P t = some (e, 1, 1, z)) (hu : P.underlying u = some du) (hni : notInt du = true)
    (hb : BUF h k s l) (hn : n = l.length) (hsrc : gSrc h 1 x = some (l2.length, l2.map bv)) (hs : l.length + l2.length ≤ s) (hs2 : s ≤ 140737488355328)
    (g : ∀ h', BUF h' k s (l ++ l2) → (∀ j, j ≠ k → h' j = h j) → K (.slice (some ⟨k, 0, none⟩) (n + l2.length) (2 * s)) h') : gAppendX P t u h (.slice (some ⟨k, 0, none⟩) n (2 * s)) x K := by
  subst hn
  obtain ⟨hk, hl⟩ := hb
  refine .inl ⟨du, e, 1, 1, z, l2.length, l2.map bv, hu, hni, hel, hsrc, e, 1, 1, z, hel, by simp, bv_cells _, ?_⟩
  simp only
  by_cases hm : l2.length = 0
  · have : l2 = [] := List.eq_nil_of_length_eq_zero hm
    subst this
    exact .inl ⟨rfl, by simpa using g h ⟨by simpa using hk, by simpa using hl⟩ (fun _ _ => rfl)⟩
  · refine .inr ⟨by omega, by simp only [maxLen]; omega, by omega, .inr (.inl ⟨by omega, hset h k ⟨splice (l.map bv ++ List.replicate (s - l.length) (bv 0)) l.length (l2.map bv), 1, true, true⟩, ?_, ?_⟩)⟩
    · simp only [gwrite, hk, Nat.zero_add, Nat.mul_one]
      rw [if_neg (by simpa using hm), if_pos (by simp; omega)]
    · refine g _ ⟨?_, by simp; omega⟩ (fun j hj => hset_ne _ _ hj)
      rw [hset_same]
      congr 2
      simp only [splice, List.map_append]
      rw [List.take_append_of_le_length (by simp), List.take_of_length_le (by simp), List.append_assoc, List.append_assoc]
      congr 2
      rw [List.drop_append]
      simp only [List.length_map, List.length_append]
      rw [List.drop_eq_nil_of_le (by simp), List.nil_append, List.drop_replicate]
      congr 1
      omega

theorem BUF.rb {h : GH} {k s : Nat} {l : List UInt8} (b : BUF h k s l) : RB h (.slice (some ⟨k, 0, none⟩) l.length (2 * s)) l := by
  refine .inr ⟨⟨k, 0, none⟩, 2 * s, rfl, ?_, by have := b.2; omega⟩
  refine gread_lit b.1 ?_ (by simp)
  simp
theorem BUF.ap {h0 h : GH} {k s : Nat} {l : List UInt8} (b : BUF h k s l) (hs : s = l.length) (hk : h0 k = none) : AP h0 h (.slice (some ⟨k, 0, none⟩) l.length (2 * s)) 1 := by
  refine .inr (.inr ⟨⟨k, 0, none⟩, l.length, 2 * s, _, rfl, by omega, b.1, rfl, rfl, rfl, ?_, hk⟩)
  simp; omega

/-- A buffer made by an append of so many noughts to nil. -/
theorem append_noughts {P : Program} {t u e : Nat} {ik kx : IntKind} {h : GH} {s : Nat} {K : Value → GH → Prop} (hel : gel P t = some (e, 1, 1, .int .u8 0)) (hu : P.underlying u = some (.int ik)) (hs : 0 < s) (hs2 : s ≤ 140737488355328)
    (g : ∀ k h', BUF h' k s [] → HS h h' → h k = none → K (.slice (some ⟨k, 0, none⟩) s (2 * s)) h') : gAppendX P t u h (.slice none 0 0) (.int kx s) K := by
  refine .inr ⟨ik, kx, e, 1, 1, .int .u8 0, s, hu, hel, rfl, rfl, rfl, hs, by simp only [maxLen]; omega, by omega, fun k hk => ?_⟩
  refine g k _ ⟨?_, by simp⟩ (HS.new hk _) hk
  rw [hset_same, zeros_one _ rfl]
  simp [bv]

/-- A new slice of so many elements. -/
theorem bs_g {P : Program} {t e es by_ len : Nat} {z : Value} {h : GH} {ps : List (Nat × Value)} {cs : List Value} {K : Value → GH → Prop} (hel : gel P t = some (e, es, by_, z)) (hz : clo z = true) (hl : len * es ≤ 16777216) (h0 : len ≠ 0)
    (hf : lfill (Shape.elems es).pl (zeros z (len * es)) ps = some cs) (hc : cs.all isCell = true)
    (g : ∀ k h', h' k = some ⟨cs, es, true, false⟩ → HS h h' → (∀ j, j ≠ k → h' j = h j) → h k = none → K (.slice (some ⟨k, 0, none⟩) len (2 * len + 1)) h') : gBuildSlice P t h len ps K :=
  ⟨e, es, by_, z, cs, hel, hz, hl, hf, hc, fun hh => absurd hh h0, fun _ k hk => g k _ (hset_same _ _ _) (HS.new hk _) (fun j hj => hset_ne _ _ hj) hk⟩
/-- A slice over a whole block of bytes. -/
theorem rb_block {h : GH} {k n es : Nat} {wr tl : Bool} {l : List UInt8} (hk : h k = some ⟨l.map bv, es, wr, tl⟩) (hn : n = l.length) : RB h (.slice (some ⟨k, 0, none⟩) n (2 * n + 1)) l := by
  subst hn
  exact .inr ⟨⟨k, 0, none⟩, _, rfl, gread_lit hk (by rw [List.drop_zero]; exact List.take_of_length_le (by simp)) (by simp), by omega⟩
theorem min_if (n : Nat) (m : Nat) : (if (m : Int) < (n : Int) then (m : Int) else (n : Int)) = ((min n m : Nat) : Int) := by
  split <;> omega
theorem bv_nat (n : Nat) (h : n ≤ 255) : Value.int .u8 (n : Int) = bv (UInt8.ofNat n) := by
  simp [bv]; omega
theorem AP.weak {a b h : GH} {v : Value} {es : Nat} (s : HS a b) (p : AP b h v es) : AP a h v es := by
  rcases p with p | p | ⟨ad, n, c, B, h1, h2, h3, h4, h5, h6, h7, h8⟩
  · exact .inl p
  · exact .inr (.inl p)
  · exact .inr (.inr ⟨ad, n, c, B, h1, h2, h3, h4, h5, h6, h7, s.none_of h8⟩)
/-- Nothing behind nil. -/
theorem append_none {P : Program} {t u e es by_ : Nat} {z : Value} {du : TypeDesc} {h : GH} {x : Value} {K : Value → GH → Prop} (hel : gel P t = some (e, es, by_, z)) (hu : P.underlying u = some du) (hni : notInt du = true) (hsrc : gSrc h es x = some (0, []))
    (g : K (.slice none 0 0) h) : gAppendX P t u h (.slice none 0 0) x K :=
  .inl ⟨du, e, es, by_, z, 0, [], hu, hni, hel, hsrc, e, es, by_, z, hel, by simp, rfl, .inl ⟨rfl, g⟩⟩
theorem gCap_nil {P : Program} {t e : TypeId} (hu : P.underlying t = some (.slice e)) (n c : Nat) : gCap P t (.slice none n c) = some 0 := by simp [gCap, hu]
theorem gSlice_nil {P : Program} {t e : TypeId} {b : Bool} {z : Nat} (hu : P.underlying t = some (.slice e)) (he : gsz P e = some (b, z)) (h : GH) (k : IntKind) : gSlice P t h (.slice none 0 0) none (some (.int k 0)) none = some (.slice none 0 0) := by
  simp [gSlice, hu, he, gHigh, gLow, gBound]
theorem gSlice_to {P : Program} {t e : TypeId} {b : Bool} {z : Nat} (hu : P.underlying t = some (.slice e)) (he : gsz P e = some (b, z)) (h : GH) (k : IntKind) (a : Addr) (n c hi : Nat) (hh : hi ≤ max n (c / 2)) : gSlice P t h (.slice (some a) n c) none (some (.int k hi)) none = some (.slice (some a) hi c) := by
  have hb : 0 ≤ (hi : Int) ∧ (hi : Int) ≤ ((max n (c / 2) : Nat) : Int) := ⟨by omega, by omega⟩
  simp only [gSlice, hu, he, gHigh, gBound, hb, and_self, if_true, gLow]
  simp
theorem gSlice_zero {P : Program} {t e : TypeId} {b : Bool} {z : Nat} (hu : P.underlying t = some (.slice e)) (he : gsz P e = some (b, z)) (h : GH) (k : IntKind) (a : Addr) (n c : Nat) : gSlice P t h (.slice (some a) n c) none (some (.int k 0)) none = some (.slice (some a) 0 c) := gSlice_to hu he h k a n c 0 (by omega)
theorem wrap_nat {n : Nat} (h : n ≤ 9223372036854775807) : IntKind.i64.wrap (n : Int) = n := wrap64 (by omega) (by omega)
theorem wrap_add {n m : Nat} (h : n + m ≤ 9223372036854775807) : IntKind.i64.wrap ((n : Int) + (m : Int)) = ((n + m : Nat) : Int) := by
  rw [wrap64 (by omega) (by omega)]; omega
theorem wrap_sub {n m : Nat} (h : m ≤ n) (h2 : n ≤ 9223372036854775807) : IntKind.i64.wrap ((n : Int) - (m : Int)) = ((n - m : Nat) : Int) := by
  rw [wrap64 (by omega) (by omega)]; omega
theorem dec_neg (n : Nat) : decide ((n : Int) < 0) = false := decide_eq_false (by omega)
end Go.Gh
