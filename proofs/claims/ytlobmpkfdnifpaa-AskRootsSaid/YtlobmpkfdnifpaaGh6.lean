/- A framework of this claim's proof, part 6. Index, field and slice, in ghost memory. No statement of the claim stands here. -/
import Derived.Test.YtlobmpkfdnifpaaGh5
import Derived.Laws.BytesString
import Derived.Laws.MakeOwn
import Derived.Laws.Slices
import Derived.Laws.StructEq
import Derived.WideLaws
import Derived.LaidEql
namespace Go.Gh
open Go Go.RowKit
set_option linter.unusedVariables false
set_option linter.unusedSimpArgs false

/-! ## Places -/

/-- The place of element i of a slice, or of an array that lies in memory. -/
def gIndex (P : Program) (t : TypeId) (x : Value) (i : Int) : Option Value :=
  match P.underlying t, x with
  | some (.slice e), .slice (some a) n _ => match gsz P e with
    | some (_, es) => if 0 ≤ i ∧ i < n then some (.pointer (some ⟨a.block, a.off + i.toNat * es, none⟩)) else none
    | none => none
  | some (.array n e), .pointer (some a) => match gsz P e with
    | some (_, es) => if 0 ≤ i ∧ i < n then some (.pointer (some ⟨a.block, a.off + i.toNat * es, none⟩)) else none
    | none => none
  | _, _ => none

theorem AR.add {φ : Fm} {a a' : Addr} (h : AR φ a a') (n : Nat) : AR φ ⟨a.block, a.off + n, none⟩ (a'.add n) := by
  obtain ⟨h1, h2, f, h3, h4, h5⟩ := h
  rw [addr_eta h2, add_none]
  exact ⟨rfl, rfl, f, h3, h4, by show a'.off + n = _; rw [h5, Nat.add_assoc]⟩

theorem gIndex_sound {P : Program} {N : Nat} {φ : Fm} {h : GH} {w : World} (s : Sim N φ h w) {t : TypeId} {x x' v : Value} (hx : VR φ x x') (k : IntKind) (i : Int) (e : gIndex P t x i = some v) :
    ∃ v', (Instr.indexAt t x' (.int k i)).run P w = .ok v' w ∧ VR φ v v' := by
  unfold gIndex at e
  split at e
  · rename_i el a n c hu
    split at e
    case h_2 => cases e
    rename_i b es hz
    split at e
    case isFalse => cases e
    rename_i hi
    cases e
    cases hx with
    | slice ha hc hn =>
    rename_i a' c'
    rcases ha with ha | h0
    case inr => omega
    refine ⟨_, ?_, .ptr (ha.add _)⟩
    simp [Instr.indexAt, asIntOf, run_underlying hu, hi, (gsz_sound hz w).2]
  · rename_i n el a hu
    split at e
    case h_2 => cases e
    rename_i b es hz
    split at e
    case isFalse => cases e
    rename_i hi
    cases e
    cases hx with
    | ptr ha =>
    rename_i a'
    refine ⟨_, ?_, .ptr (ha.add _)⟩
    simp [Instr.indexAt, asIntOf, run_underlying hu, hi, (gsz_sound hz w).2, Instr.sureAddr]
  · cases e

/-- Of a struct's type: where field f begins. -/
def gfo (P : Program) (t : TypeId) (f : Nat) : Option (TypeId × Nat) :=
  match P.underlying t with
  | some (.struct fs) => match fs[f]? with
    | some fl => match gsz P fl.type with
      | some (_, n) => if n = 0 then none else some (fl.type, fl.offset)
      | none => none
    | none => none
  | _ => none

def gField (P : Program) (t : TypeId) (x : Value) (f : Nat) : Option Value :=
  match x, gfo P t f with
  | .pointer (some a), some (_, o) => some (.pointer (some ⟨a.block, a.off + o, none⟩))
  | _, _ => none

theorem gField_sound {P : Program} {N : Nat} {φ : Fm} {h : GH} {w : World} (s : Sim N φ h w) {t : TypeId} {x x' v : Value} (hx : VR φ x x') (f : Nat) (e : gField P t x f = some v) :
    ∃ v', (Instr.fieldAt t x' f).run P w = .ok v' w ∧ VR φ v v' := by
  unfold gField at e
  split at e
  case h_2 => cases e
  rename_i a ft o hfo
  cases e
  unfold gfo at hfo
  split at hfo
  case h_2 => cases hfo
  rename_i fs hu
  split at hfo
  case h_2 => cases hfo
  rename_i fl hfl
  split at hfo
  case h_2 => cases hfo
  rename_i b n hz
  split at hfo
  · cases hfo
  rename_i hn
  cases hfo
  cases hx with
  | ptr ha =>
  refine ⟨_, ?_, .ptr (ha.add _)⟩
  simp [Instr.fieldAt, run_underlying hu, hfl, Instr.sureAddr, fieldPlace, (gsz_sound hz w).2, hn]

/-! ## Slicing -/

def gBound (x : Value) (y : Nat) : Option Nat :=
  match x with
  | .int _ i => if 0 ≤ i ∧ i ≤ y then some i.toNat else none
  | _ => none
def gLow (lo : Option Value) (h : Nat) : Option Nat := match lo with | none => some 0 | some v => gBound v h
def gHigh (hi : Option Value) (n c : Nat) : Option Nat := match hi with | none => if n ≤ c then some n else none | some v => gBound v c

def esOk (h : GH) (a : Addr) (es : Nat) : Bool := match h a.block with | some B => B.es == es | none => false

def gSlice (P : Program) (t : TypeId) (h : GH) (x : Value) (lo hi mx : Option Value) : Option Value :=
  match P.underlying t, x with
  | some .string, .string s => match mx with
    | some _ => none
    | none => match gHigh hi s.size s.size with
      | none => none
      | some h => match gLow lo h with
        | none => none
        | some l => some (.string (s.extract l h))
  | some (.slice e), .slice none 0 c => match gsz P e with
    | none => none
    | some _ => match mx with
      | some m => match gBound m 0 with
        | none => none
        | some m => match hi with
          | none => none
          | some hi => match gBound hi m with
            | none => none
            | some hh => match gLow lo hh with
              | none => none
              | some _ => some (.slice none 0 0)
      | none => match gHigh hi 0 0 with
        | none => none
        | some h => match gLow lo h with
          | none => none
          | some _ => some (.slice none 0 0)
  | some (.slice e), .slice (some a) n c => match gsz P e with
    | none => none
    | some (_, es) => match mx with
      | none => match gHigh hi n (max n (c / 2)) with
        | none => none
        | some hh => match gLow lo hh with
          | none => none
          | some l => if c % 2 = 1 ∨ l = 0 ∨ esOk h a es = true then some (.slice (some ⟨a.block, a.off + l * es, a.spot⟩) (hh - l) (c - 2 * l)) else none
      | some m => match gBound m (max n (c / 2)) with
        | none => none
        | some m => match hi with
          | none => none
          | some hi => match gBound hi m with
            | none => none
            | some hh => match gLow lo hh with
              | none => none
              | some l => some (.slice (some ⟨a.block, a.off + l * es, a.spot⟩) (hh - l) (2 * (m - l) + 1))
  | some (.array n e), .pointer (some a) => match gsz P e with
    | none => none
    | some (_, es) => match mx with
      | some _ => none
      | none => match gHigh hi n n with
        | none => none
        | some hh => match gLow lo hh with
          | none => none
          | some l => some (.slice (some ⟨a.block, a.off + l * es, a.spot⟩) (hh - l) (2 * (n - l) + 1))
  | _, _ => none

theorem gBound_sound {P : Program} {φ : Fm} {x x' : Value} (hx : VR φ x x') {y y' n : Nat} (hy : y ≤ y') (e : gBound x y = some n) (code : BoundsCode) (w : World) :
    (Instr.sliceBound x' y' code).run P w = .ok n w ∧ n ≤ y := by
  unfold gBound at e
  split at e
  case h_2 => cases e
  rename_i k i
  split at e
  case isFalse => cases e
  rename_i hi
  cases e
  cases hx
  refine ⟨?_, by omega⟩
  have : i ≤ (y' : Int) := by omega
  simp [Instr.sliceBound, asIntOf, hi.1, this]

inductive VRo (φ : Fm) : Option Value → Option Value → Prop
  | none : VRo φ none none
  | some {v v' : Value} (h : VR φ v v') : VRo φ (some v) (some v')

theorem gBounds_sound {P : Program} {φ : Fm} {lo lo' hi hi' : Option Value} (hl : VRo φ lo lo') (hh : VRo φ hi hi') {n c c' l h : Nat} (hc : c ≤ c') (b : Bool) (e1 : gHigh hi n c = some h) (e2 : gLow lo h = some l) (w : World) :
    (Instr.sliceBounds b n c' lo' hi' none).run P w = .ok (l, h, c') w ∧ l ≤ h ∧ h ≤ c := by
  cases hh with
  | none =>
    simp only [gHigh] at e1
    split at e1
    case isFalse => cases e1
    cases e1
    cases hl with
    | none =>
      simp only [gLow, Option.some.injEq] at e2; subst e2
      exact ⟨by simp [Instr.sliceBounds], by omega, by assumption⟩
    | some hv =>
      have r1 := gBound_sound (P := P) hv (Nat.le_refl _) e2 .sliceB w
      exact ⟨by simp [Instr.sliceBounds, r1.1], r1.2, by assumption⟩
  | some hw =>
    have r2 := gBound_sound (P := P) hw hc e1 (if b then .sliceAcap else .sliceAlen) w
    cases hl with
    | none =>
      simp only [gLow, Option.some.injEq] at e2; subst e2
      refine ⟨?_, by omega, r2.2⟩
      cases b <;> simp [Instr.sliceBounds] at r2 ⊢ <;> simp [r2.1]
    | some hv =>
      have r1 := gBound_sound (P := P) hv (Nat.le_refl _) e2 .sliceB w
      refine ⟨?_, r1.2, r2.2⟩
      cases b <;> simp [Instr.sliceBounds] at r2 ⊢ <;> simp [r2.1, r1.1]

theorem gSlice_sound {P : Program} {N : Nat} {φ : Fm} {h : GH} {w : World} (s : Sim N φ h w) {t : TypeId} {x x' v : Value} (hx : VR φ x x') {lo lo' hi hi' mx mx' : Option Value} (hlo : VRo φ lo lo') (hhi : VRo φ hi hi') (hmx : VRo φ mx mx')
    (e : gSlice P t h x lo hi mx = some v) : ∃ v', (Instr.sliceAt t x' lo' hi' mx').run P w = .ok v' w ∧ VR φ v v' := by
  unfold gSlice at e
  split at e
  · -- a string
    rename_i b hu
    split at e
    · cases e
    split at e
    · cases e
    rename_i hh e1
    split at e
    · cases e
    rename_i l e2
    cases e
    cases hx
    cases hmx
    obtain ⟨r1, r2, r3⟩ := gBounds_sound (P := P) hlo hhi (Nat.le_refl _) false e1 e2 w
    exact ⟨_, by simp [Instr.sliceAt, run_underlying hu, Instr.slice, r1], .string _⟩
  · -- a nil slice
    rename_i el c hu
    split at e
    · cases e
    rename_i bz hz
    obtain ⟨bz, nz⟩ := bz
    split at e
    · split at e
      · cases e
      rename_i m e0
      split at e
      · cases e
      rename_i hiv
      split at e
      · cases e
      rename_i hh e1
      split at e
      · cases e
      rename_i l e2
      cases e
      cases hx
      cases hmx with
      | some hm =>
      rename_i mv'
      cases hhi with
      | some hw =>
      rename_i hv'
      have r0 := gBound_sound (P := P) hm (Nat.le_refl 0) e0 .slice3Acap w
      have r1 := gBound_sound (P := P) hw (Nat.le_refl m) e1 .slice3B w
      have hl : (Instr.sliceBounds true 0 0 lo' (some hv') (some mv')).run P w = .ok (l, hh, m) w ∧ l ≤ hh := by
        cases hlo with
        | none =>
          simp only [gLow, Option.some.injEq] at e2; subst e2
          exact ⟨by simp [Instr.sliceBounds, r0.1, r1.1], by omega⟩
        | some hv =>
          have r2 := gBound_sound (P := P) hv (Nat.le_refl _) e2 .slice3C w
          exact ⟨by simp [Instr.sliceBounds, r0.1, r1.1, r2.1], r2.2⟩
      have hm0 := r0.2
      have hh0 := r1.2
      have hl0 := hl.2
      obtain rfl : m = 0 := by omega
      obtain rfl : hh = 0 := by omega
      obtain rfl : l = 0 := by omega
      exact ⟨_, by simp [Instr.sliceAt, run_underlying hu, Instr.slice, hl.1, (gsz_sound hz w).2], .snil 0⟩
    split at e
    · cases e
    rename_i hh e1
    split at e
    · cases e
    rename_i l e2
    cases e
    cases hx
    cases hmx
    obtain ⟨r1, r2, r3⟩ := gBounds_sound (P := P) hlo hhi (Nat.le_refl _) true e1 e2 w
    obtain ⟨rfl⟩ : hh = 0 := by omega
    obtain ⟨rfl⟩ : l = 0 := by omega
    exact ⟨_, by simp [Instr.sliceAt, run_underlying hu, Instr.slice, r1, (gsz_sound hz w).2], .snil 0⟩
  · rename_i el a n c hu
    split at e
    · cases e
    rename_i bz es hz
    cases hx with
    | slice ha hc hn =>
    rename_i a' c'
    have hcle : c / 2 ≤ c' := by
      rcases Nat.mod_two_eq_zero_or_one c with h0 | h1
      · exact (hc.2 h0).1
      · exact Nat.le_of_eq (hc.1 h1).symm
    have hcle : max n (c / 2) ≤ c' := Nat.max_le.2 ⟨hn, hcle⟩
    have har : ∀ l : Nat, l ≤ c' → (AR φ ⟨a.block, a.off + l * es, a.spot⟩ (a'.add (l * es)) ∨ c' = 0) := fun l _ => by
      rcases ha with ha | h0
      · have := ha.add (l * es)
        rw [ha.1]; exact .inl this
      · exact .inr h0
    split at e
    · -- two bounds
      split at e
      · cases e
      rename_i hh e1
      split at e
      · cases e
      rename_i l e2
      split at e
      case isFalse => cases e
      rename_i hcond
      cases e
      cases hmx
      obtain ⟨r1, r2, r3⟩ := gBounds_sound (P := P) hlo hhi hcle true e1 e2 w
      refine ⟨.slice (if c' = l then some a' else some (a'.add (l * es))) (hh - l) (c' - l), by simp [Instr.sliceAt, run_underlying hu, Instr.slice, r1, (gsz_sound hz w).2], ?_⟩
      by_cases hcl : c' = l
      · rw [if_pos hcl]
        refine .slice (.inr (by omega)) ⟨fun ho => ?_, fun he => ⟨by omega, .inl (by omega)⟩⟩ (by omega)
        have := hc.1 (by omega); omega
      · rw [if_neg hcl]
        refine .slice ?_ ⟨fun ho => ?_, fun he => ⟨by omega, ?_⟩⟩ (by omega)
        · rcases har l (by omega) with h1 | h1
          · exact .inl h1
          · omega
        · have := hc.1 (by omega); omega
        · have hc0 : c % 2 = 0 := by
            rcases Nat.mod_two_eq_zero_or_one c with h0 | h1
            · exact h0
            · have := hc.1 h1; omega
          rcases (hc.2 hc0).2 with h0 | ⟨f, q1, q2⟩
          · exact .inl (by omega)
          · refine .inr ⟨f, q1, ?_⟩
            have hsp : a'.spot = none := by
              rcases ha with ha | h0
              · exact ha.2.1
              · omega
            rw [addr_eta hsp, add_none]
            show a'.off + l * es + (c' - l) * f.es ≤ f.lim
            rcases hcond with h1 | h1 | h1
            · have := hc.1 h1; omega
            · subst h1; simpa using q2
            · unfold esOk at h1
              split at h1
              · rename_i B hB
                obtain ⟨f', p1, p2⟩ := s.dom _ _ hB
                rw [q1] at p1; cases p1
                have hes : f.es = es := by rw [p2.es]; simpa using h1
                rw [hes] at q2 ⊢
                rw [Nat.add_assoc, ← Nat.add_mul, show l + (c' - l) = c' by omega]
                exact q2
              · cases h1
    · -- three bounds
      split at e
      · cases e
      rename_i m e0
      split at e
      · cases e
      rename_i hiv
      split at e
      · cases e
      rename_i hh e1
      split at e
      · cases e
      rename_i l e2
      cases e
      cases hmx with
      | some hm =>
      rename_i mv'
      cases hhi with
      | some hw =>
      rename_i hv'
      have r0 := gBound_sound (P := P) hm hcle e0 .slice3Acap w
      have r1 := gBound_sound (P := P) hw (Nat.le_refl m) e1 .slice3B w
      have hl : (Instr.sliceBounds true n c' lo' (some hv') (some mv')).run P w = .ok (l, hh, m) w ∧ l ≤ hh := by
        cases hlo with
        | none =>
          simp only [gLow, Option.some.injEq] at e2; subst e2
          exact ⟨by simp [Instr.sliceBounds, r0.1, r1.1], by omega⟩
        | some hv =>
          have r2 := gBound_sound (P := P) hv (Nat.le_refl _) e2 .slice3C w
          exact ⟨by simp [Instr.sliceBounds, r0.1, r1.1, r2.1], r2.2⟩
      refine ⟨.slice (if m = l then some a' else some (a'.add (l * es))) (hh - l) (m - l), by simp [Instr.sliceAt, run_underlying hu, Instr.slice, hl.1, (gsz_sound hz w).2], ?_⟩
      by_cases hcl : m = l
      · rw [if_pos hcl]
        exact .slice (.inr (by omega)) ⟨fun ho => by omega, fun he => by omega⟩ (by omega)
      · rw [if_neg hcl]
        refine .slice ?_ ⟨fun ho => by omega, fun he => by omega⟩ (by omega)
        rcases har l (by omega) with h1 | h1
        · exact .inl h1
        · omega
  · -- an array in memory
    rename_i n el a hu
    split at e
    · cases e
    rename_i bz es hz
    split at e
    · cases e
    split at e
    · cases e
    rename_i hh e1
    split at e
    · cases e
    rename_i l e2
    cases e
    cases hx with
    | ptr ha =>
    rename_i a'
    cases hmx
    obtain ⟨r1, r2, r3⟩ := gBounds_sound (P := P) hlo hhi (Nat.le_refl n) false e1 e2 w
    refine ⟨.slice (some (if n = l then a' else a'.add (l * es))) (hh - l) (n - l), by simp [Instr.sliceAt, run_underlying hu, Instr.sureAddr, r1, (gsz_sound hz w).2], ?_⟩
    by_cases hcl : n = l
    · rw [if_pos hcl]
      exact .slice (.inr (by omega)) ⟨fun ho => by omega, fun he => by omega⟩ (by omega)
    · rw [if_neg hcl]
      refine .slice (.inl ?_) ⟨fun ho => by omega, fun he => by omega⟩ (by omega)
      have := ha.add (l * es)
      rw [ha.1]; exact this
  · cases e

end Go.Gh
