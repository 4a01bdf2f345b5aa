/- A framework of this claim's proof, part 17. Slices of bytes: what is told of them step by step. No statement of the claim stands here. -/
import Derived.Test.YtlobmpkfdnifpaaGh16
namespace Go.Gh
open Go Go.RowKit
set_option linter.unusedVariables false
set_option linter.unusedSimpArgs false

theorem gEq_nil {P : Program} {t e : TypeId} (hu : P.underlying t = some (.slice e)) (cst : Bool) (a : Option Addr) (n c : Nat) : gEq P t cst (.slice a n c) (.slice none 0 0) = some a.isNone := by
  cases a <;> simp [gEq, hu]
theorem gLen_s {P : Program} {t e : TypeId} (hu : P.underlying t = some (.slice e)) (a : Option Addr) (n c : Nat) : gLen P t (.slice a n c) = some (n : Int) := by simp [gLen, hu]

/-- A part of it. -/
theorem RB.cut {P : Program} {h : GH} {a : Option Addr} {c n : Nat} {l : List UInt8} (r : RB h (.slice a n c) l) {t e : TypeId} {b : Bool} (ht : P.underlying t = some (.slice e)) (he : gsz P e = some (b, 1)) {hi : Int} (h0 : 0 ≤ hi) (h1 : hi ≤ l.length) (k : IntKind) :
    ∃ a' c', gSlice P t h (.slice a n c) none (some (.int k hi)) none = some (.slice a' hi.toNat c') ∧ RB h (.slice a' hi.toNat c') (l.take hi.toNat) ∧ (a.isNone = true → a' = none) ∧ (a.isNone = false → a' = a ∧ c' = c) := by
  rcases r with ⟨c2, hv, rfl⟩ | ⟨ad, c2, hv, h2, h3⟩
  · cases hv
    simp at h1
    obtain rfl : hi = 0 := by omega
    exact ⟨none, 0, by simp [gSlice, ht, he, gHigh, gLow, gBound], .inl ⟨0, rfl, by simp⟩, fun _ => rfl, fun h => by simp at h⟩
  · cases hv
    have hh : hi.toNat ≤ l.length := by omega
    have hl : (l.take hi.toNat).length = hi.toNat := by simp; omega
    refine ⟨some ⟨ad.block, ad.off, ad.spot⟩, c, ?_, .inr ⟨⟨ad.block, ad.off, ad.spot⟩, c, by rw [hl], ?_, by omega⟩, fun h => by simp at h, fun _ => ⟨by simp, rfl⟩⟩
    · have hb : 0 ≤ hi ∧ hi ≤ ((max l.length (c / 2) : Nat) : Int) := ⟨h0, by omega⟩
      simp only [gSlice, ht, he, gHigh, gBound, hb, and_self, if_true, gLow]
      simp
    · rw [hl]
      have := gread_sub h2 0 hi.toNat (by omega)
      simpa [List.map_take] using this
theorem RB.from {P : Program} {h : GH} {a : Option Addr} {c n : Nat} {l : List UInt8} (r : RB h (.slice a n c) l) {t e : TypeId} {b : Bool} (ht : P.underlying t = some (.slice e)) (he : gsz P e = some (b, 1)) (hod : a.isNone = true ∨ c % 2 = 1) {lo : Int} (h0 : 0 ≤ lo) (h1 : lo ≤ l.length) (k : IntKind) :
    ∃ a' c', gSlice P t h (.slice a n c) (some (.int k lo)) none none = some (.slice a' (n - lo.toNat) c') ∧ RB h (.slice a' (n - lo.toNat) c') (l.drop lo.toNat) ∧ (a'.isNone = true ∨ c' % 2 = 1) := by
  rcases r with ⟨c2, hv, rfl⟩ | ⟨ad, c2, hv, h2, h3⟩
  · cases hv
    simp at h1
    obtain rfl : lo = 0 := by omega
    exact ⟨none, 0, by simp [gSlice, ht, he, gHigh, gLow, gBound], .inl ⟨0, rfl, by simp⟩, .inl rfl⟩
  · cases hv
    simp only [Option.isNone_some, Bool.false_eq_true, false_or] at hod
    have hh : lo.toNat ≤ l.length := by omega
    refine ⟨some ⟨ad.block, ad.off + lo.toNat, ad.spot⟩, c - 2 * lo.toNat, ?_, .inr ⟨⟨ad.block, ad.off + lo.toNat, ad.spot⟩, c - 2 * lo.toNat, by simp, ?_, by simp; omega⟩, ?_⟩
    · have hb : 0 ≤ lo ∧ lo ≤ (l.length : Int) := ⟨h0, h1⟩
      simp only [gSlice, ht, he, gHigh, gBound, gLow, hb, and_self, if_true, Nat.le_max_left, hod, true_or, Nat.mul_one]
    · have := gread_sub h2 lo.toNat (l.length - lo.toNat) (by omega)
      rw [List.length_drop, this, List.map_drop, List.take_of_length_le (by simp)]
    · right; omega
/-- An element. -/
theorem RB.idx {P : Program} {h : GH} {v : Value} {l : List UInt8} (r : RB h v l) {t e : TypeId} (ht : P.underlying t = some (.slice e)) (he : gsz P e = some (false, 1)) {i : Int} (h0 : 0 ≤ i) (h1 : i < l.length) :
    ∃ a, gIndex P t v i = some (.pointer (some a)) ∧ gLoad P e h (.pointer (some a)) = some (bv (l.getD i.toNat 0)) := by
  have hlt : i.toNat < l.length := by omega
  obtain ⟨p, h2, h3⟩ := r.at ht he (i := i.toNat) (b := l.getD i.toNat 0) (by simp [List.getD, hlt])
  rw [Int.toNat_of_nonneg h0] at h2
  have : ∃ a, p = .pointer (some a) := by
    unfold gLoad at h3
    split at h3
    · exact ⟨_, rfl⟩
    · cases h3
  obtain ⟨a, rfl⟩ := this
  exact ⟨a, h2, h3⟩

def bstr (l : List UInt8) : ByteArray := ⟨l.toArray⟩
theorem mapM_bv (f : Value → Option UInt8) (hf : ∀ b : UInt8, f (bv b) = some b) (l : List UInt8) : (l.map bv).mapM f = some l := by
  induction l with
  | nil => rfl
  | cons b l ih => simp [List.mapM_cons, hf, ih]
/-- As a string. -/
theorem RB.str {h : GH} {v : Value} {l : List UInt8} (r : RB h v l) : gStr h v = some (bstr l) := by
  rcases r with ⟨c, rfl, rfl⟩ | ⟨ad, c, rfl, h2, h3⟩
  · rfl
  · simp only [gStr, h2]
    rw [mapM_bv _ (fun b => by simp [bv])]
    rfl
theorem RB.conv {P : Program} {h : GH} {a : Option Addr} {n c : Nat} {l : List UInt8} (r : RB h (.slice a n c) l) {s d e : TypeId} (hs : P.underlying s = some (.slice e)) (he : P.underlying e = some (.int .u8)) (hd : P.underlying d = some .string) :
    gConvO P s d h (.slice a n c) = some (.string (bstr l)) := by
  simp [gConvO, gConv, hs, he, hd, r.str]
theorem bstr_eq (l m : List UInt8) : ((bstr l).toList == (bstr m).toList) = (l == m) := by
  have : ∀ l : List UInt8, (bstr l).toList = l := fun l => by
    simp [bstr, ByteArray.toList_eq]
  rw [this, this]
end Go.Gh
