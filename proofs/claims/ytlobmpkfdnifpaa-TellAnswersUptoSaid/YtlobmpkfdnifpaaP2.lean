/- Parts of this claim's proof, 2. No statement of the claim stands here. -/
import Derived.Test.YtlobmpkfdnifpaaP1
import Derived.Laws.BytesString
import Derived.Laws.MakeOwn
import Derived.Laws.Slices
import Derived.Laws.StructEq
import Derived.WideLaws
import Derived.LaidEql
/- A framework of this claim's proof, part 6. Index, field and slice, in ghost memory. No statement of the claim stands here. -/
namespace Go.Gh
open Go Go.RowKit
set_option linter.unusedVariables false
set_option linter.unusedSimpArgs false

/-! ## Places -/

/-- The place of element i of a slice, or of an array that lies in memory. -/
def gIndex (P : Program) (t : TypeId) (x : Value) (i : Int) : Option Value :=
  match P.underlying t, x with
  | some (.slice e), .slice (some a) n _ => match gsz P e with
    | some (_, es) => if 0 ≤ i ∧ i < n then some (.pointer (some ⟨a.block, a.off + i.toNat * es, none⟩)) else none
    | none => none
  | some (.array n e), .pointer (some a) => match gsz P e with
    | some (_, es) => if 0 ≤ i ∧ i < n then some (.pointer (some ⟨a.block, a.off + i.toNat * es, none⟩)) else none
    | none => none
  | _, _ => none

theorem AR.add {φ : Fm} {a a' : Addr} (h : AR φ a a') (n : Nat) : AR φ ⟨a.block, a.off + n, none⟩ (a'.add n) := by
  obtain ⟨h1, h2, f, h3, h4, h5⟩ := h
  rw [addr_eta h2, add_none]
  exact ⟨rfl, rfl, f, h3, h4, by show a'.off + n = _; rw [h5, Nat.add_assoc]⟩

theorem gIndex_sound {P : Program} {N : Nat} {φ : Fm} {h : GH} {w : World} (s : Sim N φ h w) {t : TypeId} {x x' v : Value} (hx : VR φ x x') (k : IntKind) (i : Int) (e : gIndex P t x i = some v) :
    ∃ v', (Instr.indexAt t x' (.int k i)).run P w = .ok v' w ∧ VR φ v v' := by
  unfold gIndex at e
  split at e
  · rename_i el a n c hu
    split at e
    case h_2 => cases e
    rename_i b es hz
    split at e
    case isFalse => cases e
    rename_i hi
    cases e
    cases hx with
    | slice ha hc hn =>
    rename_i a' c'
    rcases ha with ha | h0
    case inr => omega
    refine ⟨_, ?_, .ptr (ha.add _)⟩
    simp [Instr.indexAt, asIntOf, run_underlying hu, hi, (gsz_sound hz w).2]
  · rename_i n el a hu
    split at e
    case h_2 => cases e
    rename_i b es hz
    split at e
    case isFalse => cases e
    rename_i hi
    cases e
    cases hx with
    | ptr ha =>
    rename_i a'
    refine ⟨_, ?_, .ptr (ha.add _)⟩
    simp [Instr.indexAt, asIntOf, run_underlying hu, hi, (gsz_sound hz w).2, Instr.sureAddr]
  · cases e

/-- Of a struct's type: where field f begins. -/
def gfo (P : Program) (t : TypeId) (f : Nat) : Option (TypeId × Nat) :=
  match P.underlying t with
  | some (.struct fs) => match fs[f]? with
    | some fl => match gsz P fl.type with
      | some (_, n) => if n = 0 then none else some (fl.type, fl.offset)
      | none => none
    | none => none
  | _ => none

def gField (P : Program) (t : TypeId) (x : Value) (f : Nat) : Option Value :=
  match x, gfo P t f with
  | .pointer (some a), some (_, o) => some (.pointer (some ⟨a.block, a.off + o, none⟩))
  | _, _ => none

theorem gField_sound {P : Program} {N : Nat} {φ : Fm} {h : GH} {w : World} (s : Sim N φ h w) {t : TypeId} {x x' v : Value} (hx : VR φ x x') (f : Nat) (e : gField P t x f = some v) :
    ∃ v', (Instr.fieldAt t x' f).run P w = .ok v' w ∧ VR φ v v' := by
  unfold gField at e
  split at e
  case h_2 => cases e
  rename_i a ft o hfo
  cases e
  unfold gfo at hfo
  split at hfo
  case h_2 => cases hfo
  rename_i fs hu
  split at hfo
  case h_2 => cases hfo
  rename_i fl hfl
  split at hfo
  case h_2 => cases hfo
  rename_i b n hz
  split at hfo
  · cases hfo
  rename_i hn
  cases hfo
  cases hx with
  | ptr ha =>
  refine ⟨_, ?_, .ptr (ha.add _)⟩
  simp [Instr.fieldAt, run_underlying hu, hfl, Instr.sureAddr, fieldPlace, (gsz_sound hz w).2, hn]

/-! ## Slicing -/

def gBound (x : Value) (y : Nat) : Option Nat :=
  match x with
  | .int _ i => if 0 ≤ i ∧ i ≤ y then some i.toNat else none
  | _ => none
def gLow (lo : Option Value) (h : Nat) : Option Nat := match lo with | none => some 0 | some v => gBound v h
def gHigh (hi : Option Value) (n c : Nat) : Option Nat := match hi with | none => if n ≤ c then some n else none | some v => gBound v c

def esOk (h : GH) (a : Addr) (es : Nat) : Bool := match h a.block with | some B => B.es == es | none => false

def gSlice (P : Program) (t : TypeId) (h : GH) (x : Value) (lo hi mx : Option Value) : Option Value :=
  match P.underlying t, x with
  | some .string, .string s => match mx with
    | some _ => none
    | none => match gHigh hi s.size s.size with
      | none => none
      | some h => match gLow lo h with
        | none => none
        | some l => some (.string (s.extract l h))
  | some (.slice e), .slice none 0 c => match gsz P e with
    | none => none
    | some _ => match mx with
      | some m => match gBound m 0 with
        | none => none
        | some m => match hi with
          | none => none
          | some hi => match gBound hi m with
            | none => none
            | some hh => match gLow lo hh with
              | none => none
              | some _ => some (.slice none 0 0)
      | none => match gHigh hi 0 0 with
        | none => none
        | some h => match gLow lo h with
          | none => none
          | some _ => some (.slice none 0 0)
  | some (.slice e), .slice (some a) n c => match gsz P e with
    | none => none
    | some (_, es) => match mx with
      | none => match gHigh hi n (max n (c / 2)) with
        | none => none
        | some hh => match gLow lo hh with
          | none => none
          | some l => if c % 2 = 1 ∨ l = 0 ∨ esOk h a es = true then some (.slice (some ⟨a.block, a.off + l * es, a.spot⟩) (hh - l) (c - 2 * l)) else none
      | some m => match gBound m (max n (c / 2)) with
        | none => none
        | some m => match hi with
          | none => none
          | some hi => match gBound hi m with
            | none => none
            | some hh => match gLow lo hh with
              | none => none
              | some l => some (.slice (some ⟨a.block, a.off + l * es, a.spot⟩) (hh - l) (2 * (m - l) + 1))
  | some (.array n e), .pointer (some a) => match gsz P e with
    | none => none
    | some (_, es) => match mx with
      | some _ => none
      | none => match gHigh hi n n with
        | none => none
        | some hh => match gLow lo hh with
          | none => none
          | some l => some (.slice (some ⟨a.block, a.off + l * es, a.spot⟩) (hh - l) (2 * (n - l) + 1))
  | _, _ => none

theorem gBound_sound {P : Program} {φ : Fm} {x x' : Value} (hx : VR φ x x') {y y' n : Nat} (hy : y ≤ y') (e : gBound x y = some n) (code : BoundsCode) (w : World) :
    (Instr.sliceBound x' y' code).run P w = .ok n w ∧ n ≤ y := by
  unfold gBound at e
  split at e
  case h_2 => cases e
  rename_i k i
  split at e
  case isFalse => cases e
  rename_i hi
  cases e
  cases hx
  refine ⟨?_, by omega⟩
  have : i ≤ (y' : Int) := by omega
  simp [Instr.sliceBound, asIntOf, hi.1, this]

inductive VRo (φ : Fm) : Option Value → Option Value → Prop
  | none : VRo φ none none
  | some {v v' : Value} (h : VR φ v v') : VRo φ (some v) (some v')

theorem gBounds_sound {P : Program} {φ : Fm} {lo lo' hi hi' : Option Value} (hl : VRo φ lo lo') (hh : VRo φ hi hi') {n c c' l h : Nat} (hc : c ≤ c') (b : Bool) (e1 : gHigh hi n c = some h) (e2 : gLow lo h = some l) (w : World) :
    (Instr.sliceBounds b n c' lo' hi' none).run P w = .ok (l, h, c') w ∧ l ≤ h ∧ h ≤ c := by
  cases hh with
  | none =>
    simp only [gHigh] at e1
    split at e1
    case isFalse => cases e1
    cases e1
    cases hl with
    | none =>
      simp only [gLow, Option.some.injEq] at e2; subst e2
      exact ⟨by simp [Instr.sliceBounds], by omega, by assumption⟩
    | some hv =>
      have r1 := gBound_sound (P := P) hv (Nat.le_refl _) e2 .sliceB w
      exact ⟨by simp [Instr.sliceBounds, r1.1], r1.2, by assumption⟩
  | some hw =>
    have r2 := gBound_sound (P := P) hw hc e1 (if b then .sliceAcap else .sliceAlen) w
    cases hl with
    | none =>
      simp only [gLow, Option.some.injEq] at e2; subst e2
      refine ⟨?_, by omega, r2.2⟩
      cases b <;> simp [Instr.sliceBounds] at r2 ⊢ <;> simp [r2.1]
    | some hv =>
      have r1 := gBound_sound (P := P) hv (Nat.le_refl _) e2 .sliceB w
      refine ⟨?_, r1.2, r2.2⟩
      cases b <;> simp [Instr.sliceBounds] at r2 ⊢ <;> simp [r2.1, r1.1]

theorem gSlice_sound {P : Program} {N : Nat} {φ : Fm} {h : GH} {w : World} (s : Sim N φ h w) {t : TypeId} {x x' v : Value} (hx : VR φ x x') {lo lo' hi hi' mx mx' : Option Value} (hlo : VRo φ lo lo') (hhi : VRo φ hi hi') (hmx : VRo φ mx mx')
    (e : gSlice P t h x lo hi mx = some v) : ∃ v', (Instr.sliceAt t x' lo' hi' mx').run P w = .ok v' w ∧ VR φ v v' := by
  unfold gSlice at e
  split at e
  · -- a string
    rename_i b hu
    split at e
    · cases e
    split at e
    · cases e
    rename_i hh e1
    split at e
    · cases e
    rename_i l e2
    cases e
    cases hx
    cases hmx
    obtain ⟨r1, r2, r3⟩ := gBounds_sound (P := P) hlo hhi (Nat.le_refl _) false e1 e2 w
    exact ⟨_, by simp [Instr.sliceAt, run_underlying hu, Instr.slice, r1], .string _⟩
  · -- a nil slice
    rename_i el c hu
    split at e
    · cases e
    rename_i bz hz
    obtain ⟨bz, nz⟩ := bz
    split at e
    · split at e
      · cases e
      rename_i m e0
      split at e
      · cases e
      rename_i hiv
      split at e
      · cases e
      rename_i hh e1
      split at e
      · cases e
      rename_i l e2
      cases e
      cases hx
      cases hmx with
      | some hm =>
      rename_i mv'
      cases hhi with
      | some hw =>
      rename_i hv'
      have r0 := gBound_sound (P := P) hm (Nat.le_refl 0) e0 .slice3Acap w
      have r1 := gBound_sound (P := P) hw (Nat.le_refl m) e1 .slice3B w
      have hl : (Instr.sliceBounds true 0 0 lo' (some hv') (some mv')).run P w = .ok (l, hh, m) w ∧ l ≤ hh := by
        cases hlo with
        | none =>
          simp only [gLow, Option.some.injEq] at e2; subst e2
          exact ⟨by simp [Instr.sliceBounds, r0.1, r1.1], by omega⟩
        | some hv =>
          have r2 := gBound_sound (P := P) hv (Nat.le_refl _) e2 .slice3C w
          exact ⟨by simp [Instr.sliceBounds, r0.1, r1.1, r2.1], r2.2⟩
      have hm0 := r0.2
      have hh0 := r1.2
      have hl0 := hl.2
      obtain rfl : m = 0 := by omega
      obtain rfl : hh = 0 := by omega
      obtain rfl : l = 0 := by omega
      exact ⟨_, by simp [Instr.sliceAt, run_underlying hu, Instr.slice, hl.1, (gsz_sound hz w).2], .snil 0⟩
    split at e
    · cases e
    rename_i hh e1
    split at e
    · cases e
    rename_i l e2
    cases e
    cases hx
    cases hmx
    obtain ⟨r1, r2, r3⟩ := gBounds_sound (P := P) hlo hhi (Nat.le_refl _) true e1 e2 w
    obtain ⟨rfl⟩ : hh = 0 := by omega
    obtain ⟨rfl⟩ : l = 0 := by omega
    exact ⟨_, by simp [Instr.sliceAt, run_underlying hu, Instr.slice, r1, (gsz_sound hz w).2], .snil 0⟩
  · rename_i el a n c hu
    split at e
    · cases e
    rename_i bz es hz
    cases hx with
    | slice ha hc hn =>
    rename_i a' c'
    have hcle : c / 2 ≤ c' := by
      rcases Nat.mod_two_eq_zero_or_one c with h0 | h1
      · exact (hc.2 h0).1
      · exact Nat.le_of_eq (hc.1 h1).symm
    have hcle : max n (c / 2) ≤ c' := Nat.max_le.2 ⟨hn, hcle⟩
    have har : ∀ l : Nat, l ≤ c' → (AR φ ⟨a.block, a.off + l * es, a.spot⟩ (a'.add (l * es)) ∨ c' = 0) := fun l _ => by
      rcases ha with ha | h0
      · have := ha.add (l * es)
        rw [ha.1]; exact .inl this
      · exact .inr h0
    split at e
    · -- two bounds
      split at e
      · cases e
      rename_i hh e1
      split at e
      · cases e
      rename_i l e2
      split at e
      case isFalse => cases e
      rename_i hcond
      cases e
      cases hmx
      obtain ⟨r1, r2, r3⟩ := gBounds_sound (P := P) hlo hhi hcle true e1 e2 w
      refine ⟨.slice (if c' = l then some a' else some (a'.add (l * es))) (hh - l) (c' - l), by simp [Instr.sliceAt, run_underlying hu, Instr.slice, r1, (gsz_sound hz w).2], ?_⟩
      by_cases hcl : c' = l
      · rw [if_pos hcl]
        refine .slice (.inr (by omega)) ⟨fun ho => ?_, fun he => ⟨by omega, .inl (by omega)⟩⟩ (by omega)
        have := hc.1 (by omega); omega
      · rw [if_neg hcl]
        refine .slice ?_ ⟨fun ho => ?_, fun he => ⟨by omega, ?_⟩⟩ (by omega)
        · rcases har l (by omega) with h1 | h1
          · exact .inl h1
          · omega
        · have := hc.1 (by omega); omega
        · have hc0 : c % 2 = 0 := by
            rcases Nat.mod_two_eq_zero_or_one c with h0 | h1
            · exact h0
            · have := hc.1 h1; omega
          rcases (hc.2 hc0).2 with h0 | ⟨f, q1, q2⟩
          · exact .inl (by omega)
          · refine .inr ⟨f, q1, ?_⟩
            have hsp : a'.spot = none := by
              rcases ha with ha | h0
              · exact ha.2.1
              · omega
            rw [addr_eta hsp, add_none]
            show a'.off + l * es + (c' - l) * f.es ≤ f.lim
            rcases hcond with h1 | h1 | h1
            · have := hc.1 h1; omega
            · subst h1; simpa using q2
            · unfold esOk at h1
              split at h1
              · rename_i B hB
                obtain ⟨f', p1, p2⟩ := s.dom _ _ hB
                rw [q1] at p1; cases p1
                have hes : f.es = es := by rw [p2.es]; simpa using h1
                rw [hes] at q2 ⊢
                rw [Nat.add_assoc, ← Nat.add_mul, show l + (c' - l) = c' by omega]
                exact q2
              · cases h1
    · -- three bounds
      split at e
      · cases e
      rename_i m e0
      split at e
      · cases e
      rename_i hiv
      split at e
      · cases e
      rename_i hh e1
      split at e
      · cases e
      rename_i l e2
      cases e
      cases hmx with
      | some hm =>
      rename_i mv'
      cases hhi with
      | some hw =>
      rename_i hv'
      have r0 := gBound_sound (P := P) hm hcle e0 .slice3Acap w
      have r1 := gBound_sound (P := P) hw (Nat.le_refl m) e1 .slice3B w
      have hl : (Instr.sliceBounds true n c' lo' (some hv') (some mv')).run P w = .ok (l, hh, m) w ∧ l ≤ hh := by
        cases hlo with
        | none =>
          simp only [gLow, Option.some.injEq] at e2; subst e2
          exact ⟨by simp [Instr.sliceBounds, r0.1, r1.1], by omega⟩
        | some hv =>
          have r2 := gBound_sound (P := P) hv (Nat.le_refl _) e2 .slice3C w
          exact ⟨by simp [Instr.sliceBounds, r0.1, r1.1, r2.1], r2.2⟩
      refine ⟨.slice (if m = l then some a' else some (a'.add (l * es))) (hh - l) (m - l), by simp [Instr.sliceAt, run_underlying hu, Instr.slice, hl.1, (gsz_sound hz w).2], ?_⟩
      by_cases hcl : m = l
      · rw [if_pos hcl]
        exact .slice (.inr (by omega)) ⟨fun ho => by omega, fun he => by omega⟩ (by omega)
      · rw [if_neg hcl]
        refine .slice ?_ ⟨fun ho => by omega, fun he => by omega⟩ (by omega)
        rcases har l (by omega) with h1 | h1
        · exact .inl h1
        · omega
  · -- an array in memory
    rename_i n el a hu
    split at e
    · cases e
    rename_i bz es hz
    split at e
    · cases e
    split at e
    · cases e
    rename_i hh e1
    split at e
    · cases e
    rename_i l e2
    cases e
    cases hx with
    | ptr ha =>
    rename_i a'
    cases hmx
    obtain ⟨r1, r2, r3⟩ := gBounds_sound (P := P) hlo hhi (Nat.le_refl n) false e1 e2 w
    refine ⟨.slice (some (if n = l then a' else a'.add (l * es))) (hh - l) (n - l), by simp [Instr.sliceAt, run_underlying hu, Instr.sureAddr, r1, (gsz_sound hz w).2], ?_⟩
    by_cases hcl : n = l
    · rw [if_pos hcl]
      exact .slice (.inr (by omega)) ⟨fun ho => by omega, fun he => by omega⟩ (by omega)
    · rw [if_neg hcl]
      refine .slice (.inl ?_) ⟨fun ho => by omega, fun he => by omega⟩ (by omega)
      have := ha.add (l * es)
      rw [ha.1]; exact this
  · cases e

end Go.Gh

/- A framework of this claim's proof, part 7. Make, copy, nought. No statement of the claim stands here. -/
namespace Go.Gh
open Go Go.RowKit
set_option linter.unusedVariables false
set_option linter.unusedSimpArgs false

/-! ## make, copy, conversions -/

/-- A value without a place. -/
def cloCell : Value → Bool
  | .bool _ | .int _ _ | .string _ | .pointer none | .nilFunc | .nilIface => true
  | .slice none 0 0 => true
  | .func _ f c => f.toList.isEmpty && c.toList.isEmpty
  | _ => false
def clo : Value → Bool
  | .agg cs => cs.toList.all cloCell
  | v => cloCell v
theorem cloCell_refl {φ : Fm} {v : Value} (h : cloCell v = true) : VR φ v v := by
  unfold cloCell at h
  split at h
  · exact .bool _
  · exact .int _ _
  · exact .string _
  · exact .pnil
  · exact .nilFunc
  · exact .nilIface
  · exact .snil 0
  · rename_i fn f c
    simp only [Bool.and_eq_true, List.isEmpty_iff] at h
    exact .func (by rw [h.1]; exact .nil) (by rw [h.2]; exact .nil)
  · cases h
theorem cloCells_refl {φ : Fm} : ∀ {l : List Value}, l.all cloCell = true → VRs φ l l
  | [], _ => .nil
  | v :: l, h => by
    simp only [List.all_cons, Bool.and_eq_true] at h
    exact .cons (cloCell_refl h.1) (cloCells_refl h.2)
theorem clo_refl {φ : Fm} {v : Value} (h : clo v = true) : VR φ v v := by
  unfold clo at h
  split at h
  · exact .agg (cloCells_refl h)
  · exact cloCell_refl h
theorem cloCell_isCell {v : Value} (h : cloCell v = true) : isCell v = true := by
  unfold cloCell at h
  split at h <;> first | rfl | cases h
theorem cloCells_isCell {l : List Value} (h : l.all cloCell = true) : l.all isCell = true := by
  rw [List.all_eq_true] at h ⊢
  exact fun v hv => cloCell_isCell (h v hv)
theorem clo_cells {v : Value} (h : clo v = true) : v.cells.toList.all cloCell = true := by
  unfold clo at h
  split at h
  · simpa [Value.cells] using h
  · rename_i v hv
    cases v <;> simp_all [Value.cells]

/-- n cells, out of one element's nought. -/
def zeros (z : Value) (n : Nat) : List Value := (madeCells z.cells n).toList
theorem zeros_length (z : Value) (n : Nat) : (zeros z n).length = n := by simp [zeros, size_madeCells]
theorem zeros_clo {z : Value} (h : clo z = true) (hz : 0 < z.cells.size) (n : Nat) : (zeros z n).all cloCell = true := by
  rw [List.all_eq_true]
  intro v hv
  simp only [zeros, madeCells, Array.toList_map, List.mem_map] at hv
  obtain ⟨i, _, rfl⟩ := hv
  have hlt : i % z.cells.size < z.cells.size := Nat.mod_lt _ hz
  rw [getElem!_pos z.cells _ hlt]
  have := clo_cells h
  rw [List.all_eq_true] at this
  exact this _ (by simp)
theorem zeros_one (v : Value) (h : cloCell v = true) (n : Nat) : zeros v n = List.replicate n v := by
  have hc : v.cells = #[v] := by
    unfold cloCell at h
    split at h <;> first | rfl | cases h
  apply List.ext_getElem
  · simp [zeros_length]
  · intro i h1 h2
    simp [zeros, madeCells, hc, Nat.mod_one]

def gMake (P : Program) (t : TypeId) (h : GH) (l c : Int) (K : Value → GH → Prop) : Prop :=
  ∃ e es by_ z, gel P t = some (e, es, by_, z) ∧ clo z = true ∧ 0 ≤ l ∧ l ≤ c ∧ (by_ : Int) * c ≤ 281474976710656 ∧ c ≤ 9223372036854775807 ∧
    ∀ k, h k = none → K (.slice (some ⟨k, 0, none⟩) l.toNat (2 * c.toNat + 1)) (hset h k ⟨zeros z (c.toNat * es), es, true, false⟩)

theorem gMake_sound {P : Program} {N : Nat} {φ : Fm} {h : GH} {w : World} (s : Sim N φ h w) {t : TypeId} {kl kc : IntKind} {l c : Int} {K : Value → GH → Prop} (g : gMake P t h l c K) :
    Yes P N φ w (Instr.makeSlice t (.int kl l) (.int kc c)) K := by
  obtain ⟨e, es, by_, z, hel, hz, h0, hlc, hb, h63, k⟩ := g
  obtain ⟨ht, i, hi, hsize, hbytes, hzero, hzs, hpos⟩ := gel_sound hel
  have hr := run_make (P := P) w t e i z ht hi hzero kl kc l c h0 hlc (by rw [hbytes]; exact hb) h63
  obtain ⟨φ', k0, h1, h2, h3, h4, h5⟩ := gNew_sound (P := P) s (cloCells_refl (zeros_clo hz (by rw [hzs]; exact hpos) (c.toNat * es))) e es
    (K := fun k h' => K (.slice (some ⟨k, 0, none⟩) l.toNat (2 * c.toNat + 1)) h') k
  refine ⟨_, _, φ', _, _, hr, h1, ?_, .slice (.inl ⟨rfl, rfl, _, h2, rfl, rfl⟩) ⟨fun ho => by omega, fun he => by omega⟩ (by omega), ?_, h5⟩
  · rw [hsize]; simpa [zeros] using h3
  · rw [hsize]; simpa [zeros] using h4

def gLenOf : Value → Option Nat
  | .slice none 0 _ => some 0
  | .slice (some _) n _ => some n
  | .string s => some s.size
  | _ => none

def gFirst (h : GH) (es n : Nat) (x : Value) : Option (List Value) :=
  match x with
  | .slice none 0 _ => if n = 0 then some [] else none
  | .slice (some a) _ _ => gread h a (n * es)
  | .string s => if es = 1 then some ((s.data.toList.take n).map fun b => .int .u8 b.toNat) else none
  | _ => none

/-- copy: how many elements, and the memory behind. -/
def gCopy (P : Program) (t : TypeId) (h : GH) (d x : Value) : Option (Nat × GH) :=
  match gel P t, gLenOf x with
  | some (_, es, _, _), some m => match d with
    | .slice (some a) dn _ => match gFirst h es (min m dn) x with
      | some cs => if cs.all isCell = true then (gwrite h a cs).map fun h2 => (min m dn, h2) else none
      | none => none
    | .slice none 0 _ => some (0, h)
    | _ => none
  | _, _ => none

theorem gLenOf_sound {P : Program} {φ : Fm} {x x' : Value} (hx : VR φ x x') {m : Nat} (e : gLenOf x = some m) (w : World) : (Builtin.lenOf x').run P w = .ok m w := by
  unfold gLenOf at e
  split at e
  · cases e; cases hx; simp [Builtin.lenOf]
  · cases e; cases hx; simp [Builtin.lenOf]
  · cases e; cases hx; simp [Builtin.lenOf]
  · cases e

theorem gCopy_sound {P : Program} {N : Nat} {φ : Fm} {h h2 : GH} {w : World} (s : Sim N φ h w) {t u ty : TypeId} {d d' x x' : Value} (hd : VR φ d d') (hx : VR φ x x') {n : Nat} (e : gCopy P t h d x = some (n, h2)) :
    ∃ w', (Builtin.copy_ #[t, u] ty #[d', x']).run P w = .ok (goInt n) w' ∧ Sim N φ h2 w' ∧ Below N w w' := by
  unfold gCopy at e
  split at e
  case h_2 => cases e
  rename_i el es by_ z m hel hm
  obtain ⟨ht, i, hi, hsize, hbytes, hzero, hzs, hpos⟩ := gel_sound hel
  have hl := gLenOf_sound (P := P) hx hm
  split at e
  · rename_i a dn dc
    cases hd with
    | slice ha hc hn =>
    rename_i a' c'
    split at e
    case h_2 => cases e
    rename_i cs hcs
    split at e
    case isFalse => cases e
    rename_i hcell
    simp only [Option.map_eq_some_iff, Prod.mk.injEq] at e
    obtain ⟨h2', e1, rfl, rfl⟩ := e
    obtain ⟨cs', p1, p2⟩ : ∃ cs', VRs φ cs cs' ∧ (Builtin.firstCells es (min m dn) x').run P w = .ok cs'.toArray w := by
      unfold gFirst at hcs
      split at hcs
      · split at hcs
        case isFalse => cases hcs
        cases hcs
        cases hx
        exact ⟨[], .nil, by simp [Builtin.firstCells]⟩
      · rename_i b n2 c2
        cases hx with
        | slice hb hcb hnb =>
        rename_i b' c2'
        simp only [gLenOf, Option.some.injEq] at hm
        subst hm
        rcases hb with hb | h0
        · obtain ⟨cs', q1, q2, q3⟩ := gread_sound s hb hcs
          exact ⟨cs', q1, run_firstCells_some (P := P) w es (min n2 dn) b' n2 c2' cs' q2 q3⟩
        · have h00 : min n2 dn = 0 := by omega
          rw [h00] at hcs ⊢
          have : cs = [] := List.eq_nil_of_length_eq_zero (by simpa using gread_length hcs)
          subst this
          exact ⟨[], .nil, run_firstCells_some (P := P) w es 0 b' n2 c2' [] (by simp) (by simp)⟩
      · rename_i b
        split at hcs
        case isFalse => cases hcs
        rename_i h1
        subst h1
        cases hcs
        cases hx
        refine ⟨_, VRs.map _ _ (fun b => .int _ _) _, ?_⟩
        simp only [Builtin.firstCells, Sem.run_pure, Result.ok.injEq, and_true]
        apply Array.ext'
        rw [ByteArray.data_extract]
        simp [List.map_take]
      · cases hcs
    have hlen : cs.length = 0 → cs' = [] := fun h0 => List.eq_nil_of_length_eq_zero (by rw [← p1.length]; exact h0)
    rcases ha with ha | h0
    · obtain ⟨w', r1, r2, r3⟩ := gwrite_sound (P := P) s ha p1 hcell e1
      refine ⟨w', ?_, r2, r3⟩
      simp [Builtin.copy_, run_underlying ht, hl, sizeOf, typeInfo, hi, hsize, p2, r1]
    · have hdn : dn = 0 := by omega
      subst hdn
      have hcs0 : cs = [] := by
        have : cs'.length = 0 := by
          have hl0 : cs.length = cs'.length := p1.length
          rw [← hl0]
          unfold gFirst at hcs
          split at hcs
          · split at hcs
            · cases hcs; rfl
            · cases hcs
          · have := gread_length hcs; simpa using this
          · split at hcs
            · cases hcs; simp
            · cases hcs
          · cases hcs
        exact List.eq_nil_of_length_eq_zero (by rw [p1.length]; exact this)
      subst hcs0
      have := hlen rfl
      subst this
      simp only [gwrite, List.length_nil, if_true, Option.some.injEq] at e1
      subst e1
      refine ⟨w, ?_, s, Below.refl _ _⟩
      simp at p2
      simp [Builtin.copy_, run_underlying ht, hl, sizeOf, typeInfo, hi, hsize, p2, storeCells]
  · rename_i dc
    cases e
    cases hd
    refine ⟨w, ?_, s, Below.refl _ _⟩
    obtain ⟨c, hc⟩ : ∃ c, (Builtin.firstCells es 0 x').run P w = .ok c w := by
      cases hx <;> simp_all [gLenOf, Builtin.firstCells]
      · rename_i a1 a' _ _ _ _ _ _ _ 
        exact ⟨_, by simpa using run_loadCells_list (P := P) w _ [] (by simp)⟩
    simp [Builtin.copy_, run_underlying ht, hl, sizeOf, typeInfo, hi, hsize, hc, goInt]
  · cases e

/-- bytes as a string. -/
def gStr (h : GH) (x : Value) : Option ByteArray :=
  match x with
  | .slice none 0 _ => some .empty
  | .slice (some a) n _ => match gread h a n with
    | some cs => (cs.mapM (fun (v : Value) => (match v with | .int .u8 b => some (UInt8.ofNat b.toNat) | _ => none : Option UInt8))).map fun (l : List UInt8) => ByteArray.mk l.toArray
    | none => none
  | _ => none

theorem push_all : ∀ (ns : List Int) (s : ByteArray), ns.foldl (fun r n => r.push (UInt8.ofNat n.toNat)) s = ⟨s.data ++ (ns.map fun n => UInt8.ofNat n.toNat).toArray⟩
  | [], s => by simp
  | n :: ns, s => by
    rw [List.foldl_cons, push_all ns]
    congr 1
    apply Array.ext'
    simp [ByteArray.push]

theorem gStr_sound {P : Program} {N : Nat} {φ : Fm} {h : GH} {w : World} (s : Sim N φ h w) {x x' : Value} (hx : VR φ x x') {b : ByteArray} (e : gStr h x = some b) :
    (Conv.bytesToString x').run P w = .ok (.string b) w := by
  unfold gStr at e
  split at e
  · cases e; cases hx; simp [Conv.bytesToString]
  · rename_i a n c
    cases hx with
    | slice ha hc hn =>
    rename_i a' c'
    split at e
    case h_2 => cases e
    rename_i cs hcs
    simp only [Option.map_eq_some_iff] at e
    obtain ⟨l, e1, rfl⟩ := e
    obtain ⟨ns, hns, hl⟩ : ∃ ns : List Int, cs = ns.map (Value.int .u8) ∧ l = ns.map fun n => UInt8.ofNat n.toNat := by
      clear hcs
      induction cs generalizing l with
      | nil => simp at e1; exact ⟨[], rfl, e1⟩
      | cons v cs ih =>
        simp only [List.mapM_cons, Option.bind_eq_bind, Option.pure_def, Option.bind_eq_some_iff, Option.some.injEq] at e1
        obtain ⟨u, e2, l', e3, rfl⟩ := e1
        obtain ⟨ns, rfl, rfl⟩ := ih l' e3
        split at e2
        · rename_i bb
          cases e2
          exact ⟨bb :: ns, rfl, rfl⟩
        · cases e2
    subst hns; subst hl
    have hrun : ∃ cs', (loadCells a' n).run P w = .ok cs' w ∧ VRs φ (ns.map (Value.int .u8)) cs'.toList := by
      rcases ha with ha | h0
      · obtain ⟨cs', q1, q2, q3⟩ := gread_sound s ha hcs
        have := run_loadCells_list (P := P) w a' cs' q3
        rw [q2] at this
        exact ⟨_, this, by simpa using q1⟩
      · have h0' : n = 0 := by omega
        subst h0'
        have : ns = [] := by have := gread_length hcs; simpa using this
        subst this
        exact ⟨#[], by simpa using run_loadCells_list (P := P) w a' [] (by simp), .nil⟩
    obtain ⟨cs', r1, r2⟩ := hrun
    have : cs' = (ns.map (Value.int .u8)).toArray := by
      apply Array.ext'
      have : ∀ (l : List Int) (m : List Value), VRs φ (l.map (Value.int .u8)) m → m = l.map (Value.int .u8) := by
        intro l
        induction l with
        | nil => intro m hm; cases hm; rfl
        | cons x l ih =>
          intro m hm
          cases hm with
          | cons h hs =>
          cases h
          rw [ih _ hs]; rfl
      exact this ns _ r2
    subst this
    rw [run_bytesToString w a' n c' ns r1, push_all]
    congr 3
    have h0 : ByteArray.empty.data = #[] := rfl
    rw [h0, Array.empty_append]
  · cases e

end Go.Gh

/- A framework of this claim's proof, part 8. Operators and conversions. No statement of the claim stands here. -/
namespace Go.Gh
open Go Go.RowKit
set_option linter.unusedVariables false
set_option linter.unusedSimpArgs false

/-! ## Arithmetic and comparisons -/

def gInt (op : BinOp) (k : IntKind) (a : Int) (k' : IntKind) (b : Int) (h : GH) (K : Value → GH → Prop) : Prop :=
  match op with
  | .shl => 0 ≤ b ∧ K (.int k (k.wrap (a * 2 ^ min b.toNat k.bits))) h
  | .shr => 0 ≤ b ∧ K (.int k (a.fdiv (2 ^ min b.toNat k.bits))) h
  | .add => k = k' ∧ K (.int k (k.wrap (a + b))) h
  | .sub => k = k' ∧ K (.int k (k.wrap (a - b))) h
  | .mul => k = k' ∧ K (.int k (k.wrap (a * b))) h
  | .quo => k = k' ∧ b ≠ 0 ∧ K (.int k (k.wrap (a.tdiv b))) h
  | .rem => k = k' ∧ b ≠ 0 ∧ K (.int k (a.tmod b)) h
  | .and => k = k' ∧ K (.int k (bits .and k a b)) h
  | .or => k = k' ∧ K (.int k (bits .or k a b)) h
  | .xor => k = k' ∧ K (.int k (bits .xor k a b)) h
  | .andNot => k = k' ∧ K (.int k (bits .andNot k a b)) h
  | .eql => k = k' ∧ K (.bool (a == b)) h
  | .neq => k = k' ∧ K (.bool (a != b)) h
  | .lss => k = k' ∧ K (.bool (decide (a < b))) h
  | .leq => k = k' ∧ K (.bool (decide (a ≤ b))) h
  | .gtr => k = k' ∧ K (.bool (decide (a > b))) h
  | .geq => k = k' ∧ K (.bool (decide (a ≥ b))) h

theorem gInt_sound {P : Program} {op : BinOp} {t : TypeId} {k k' : IntKind} {a b : Int} {h : GH} {K : Value → GH → Prop} (g : gInt op k a k' b h K) (w : World) :
    ∃ v, (binOp op t (.int k a) (.int k' b)).run P w = .ok v w ∧ K v h ∧ (∀ φ, VR φ v v) := by
  cases op <;> simp only [gInt] at g
  case shl => exact ⟨_, by simp [binOp, Op.shift, Int.not_lt.2 g.1], g.2, fun _ => .int _ _⟩
  case shr => exact ⟨_, by simp [binOp, Op.shift, Int.not_lt.2 g.1], g.2, fun _ => .int _ _⟩
  case quo => obtain ⟨rfl, g1, g2⟩ := g; exact ⟨_, by simp [binOp, Op.intDiv, g1], g2, fun _ => .int _ _⟩
  case rem => obtain ⟨rfl, g1, g2⟩ := g; exact ⟨_, by simp [binOp, Op.intDiv, g1], g2, fun _ => .int _ _⟩
  case add => obtain ⟨rfl, g⟩ := g; exact ⟨_, by simp [binOp, Op.intArith], g, fun _ => .int _ _⟩
  case sub => obtain ⟨rfl, g⟩ := g; exact ⟨_, by simp [binOp, Op.intArith], g, fun _ => .int _ _⟩
  case mul => obtain ⟨rfl, g⟩ := g; exact ⟨_, by simp [binOp, Op.intArith], g, fun _ => .int _ _⟩
  case and => obtain ⟨rfl, g⟩ := g; exact ⟨_, by simp [binOp, Op.intBits, bits], g, fun _ => .int _ _⟩
  case or => obtain ⟨rfl, g⟩ := g; exact ⟨_, by simp [binOp, Op.intBits, bits], g, fun _ => .int _ _⟩
  case xor => obtain ⟨rfl, g⟩ := g; exact ⟨_, by simp [binOp, Op.intBits, bits], g, fun _ => .int _ _⟩
  case andNot => obtain ⟨rfl, g⟩ := g; exact ⟨_, by simp [binOp, Op.intBits, bits], g, fun _ => .int _ _⟩
  case eql => obtain ⟨rfl, g⟩ := g; exact ⟨_, by simp [binOp, Op.intCmp], g, fun _ => .bool _⟩
  case neq => obtain ⟨rfl, g⟩ := g; exact ⟨_, by simp [binOp, Op.intCmp], g, fun _ => .bool _⟩
  case lss => obtain ⟨rfl, g⟩ := g; exact ⟨_, by simp [binOp, Op.intCmp], g, fun _ => .bool _⟩
  case leq => obtain ⟨rfl, g⟩ := g; exact ⟨_, by simp [binOp, Op.intCmp], g, fun _ => .bool _⟩
  case gtr => obtain ⟨rfl, g⟩ := g; exact ⟨_, by simp [binOp, Op.intCmp], g, fun _ => .bool _⟩
  case geq => obtain ⟨rfl, g⟩ := g; exact ⟨_, by simp [binOp, Op.intCmp], g, fun _ => .bool _⟩

def gStrOp (op : BinOp) (x y : ByteArray) (h : GH) (K : Value → GH → Prop) : Prop :=
  match op with
  | .add => x.size + y.size ≤ 9223372036854775807 ∧ K (.string (x ++ y)) h
  | .eql => K (.bool (x.toList == y.toList)) h
  | .neq => K (.bool (!(x.toList == y.toList))) h
  | .lss => K (.bool (Op.bytesLess x.toList y.toList)) h
  | .leq => K (.bool (Op.bytesLess x.toList y.toList || x.toList == y.toList)) h
  | .gtr => K (.bool (!(Op.bytesLess x.toList y.toList || x.toList == y.toList))) h
  | .geq => K (.bool (!(Op.bytesLess x.toList y.toList))) h
  | _ => False

theorem gStrOp_sound {P : Program} {op : BinOp} {t : TypeId} {x y : ByteArray} {h : GH} {K : Value → GH → Prop} (g : gStrOp op x y h K) (w : World) :
    ∃ v, (binOp op t (.string x) (.string y)).run P w = .ok v w ∧ K v h ∧ (∀ φ, VR φ v v) := by
  cases op <;> simp only [gStrOp] at g <;> try exact g.elim
  case add =>
    refine ⟨_, ?_, g.2, fun _ => .string _⟩
    have h9 : (x.size : Int) + (y.size : Int) ≤ 9223372036854775807 := by omega
    have h8 : ¬ ((9223372036854775807 : Int) < (x.size : Int) + (y.size : Int)) := by omega
    simp [binOp, Op.stringOp, h8]
  all_goals exact ⟨_, by simp [binOp, Op.stringOp], g, fun _ => .bool _⟩

/-- A type whose values are held against each other cell by cell, no nil of an interface among them. -/
def eqOk (P : Program) (t : TypeId) : Bool := !(P.eqGuardType P.depth t) && !(P.stoodInHeld t)

def gEq0 (P : Program) (t : TypeId) (x y : Value) : Option Bool :=
  match P.underlying t, x, y with
  | some (.int _), .int k a, .int k' b => if k = k' then some (a == b) else none
  | some .bool, .bool a, .bool b => some (a == b)
  | some .string, .string a, .string b => some (a.toList == b.toList)
  | _, _, _ => none

def gEqFs (P : Program) (xs ys : Array Value) : List Field → Option Bool
  | [] => some true
  | f :: r =>
    if f.name = "_" then none else
    match gsz P f.type, xs[f.offset]?, ys[f.offset]? with
    | some (false, _), some x, some y => match gEq0 P f.type x y, gEqFs P xs ys r with
      | some b, some c => some (b && c)
      | _, _ => none
    | _, _, _ => none

def gEq (P : Program) (t : TypeId) (cst : Bool) (x y : Value) : Option Bool :=
  match P.underlying t, x, y with
  | some .bool, .bool a, .bool b => some (a == b)
  | some (.pointer _), .pointer none, .pointer b => some b.isNone
  | some (.pointer _), .pointer (some _), .pointer none => some false
  | some (.slice _), .slice none _ _, .slice b _ _ => some b.isNone
  | some (.slice _), .slice (some _) _ _, .slice none _ _ => some false
  | some (.interface _), .nilIface, .nilIface => if cst then some true else none
  | some (.interface _), .nilIface, .iface _ _ => some false
  | some (.interface _), .iface _ _, .nilIface => some false
  | some (.func _ _ _), .nilFunc, .nilFunc => some true
  | some (.func _ _ _), .nilFunc, .func _ _ _ => some false
  | some (.func _ _ _), .func _ _ _, .nilFunc => some false
  | some (.struct fs), .agg xs, .agg ys => if eqOk P t = true then gEqFs P xs ys fs.toList else none
  | _, _, _ => none

theorem gEq0_sound {P : Program} {φ : Fm} {t : TypeId} {x y x' y' : Value} (hx : VR φ x x') (hy : VR φ y y') {b : Bool} (e : gEq0 P t x y = some b) (d : Nat) (w : World) : (Op.equalIn (d + 1) t x' y').run P w = .ok b w := by
  unfold gEq0 at e
  split at e
  · split at e
    case isFalse => cases e
    rename_i hu hk
    subst hk
    cases e; cases hx; cases hy
    exact run_equalIn_int w d t _ _ _ _ hu
  · rename_i hu
    cases e; cases hx; cases hy
    exact run_equalIn_bool' w d t _ _ hu
  · rename_i hu
    cases e; cases hx; cases hy
    exact run_equalIn_string w d t _ _ hu
  · cases e

theorem run_part_cell {P : Program} {t : TypeId} {n : Nat} (hz : gsz P t = some (false, n)) (cs : Array Value) (o : Nat) {v : Value} (hv : cs[o]? = some v) (w : World) : (part t cs o).run P w = .ok v w := by
  simp [part, (gsz_sound hz w).1, hv]

theorem gEqFs_sound {P : Program} {φ : Fm} {xs ys xs' ys' : Array Value} (hx : VRs φ xs.toList xs'.toList) (hy : VRs φ ys.toList ys'.toList) (d : Nat) (w : World) :
    ∀ (fs : List Field) (b : Bool), gEqFs P xs ys fs = some b → (Op.eqFields (d + 1) xs' ys' fs).run P w = .ok b w
  | [], b, e => by
    simp only [gEqFs, Option.some.injEq] at e
    subst e
    simp [Op.eqFields]
  | f :: r, b, e => by
    simp only [gEqFs] at e
    split at e
    · cases e
    rename_i hn
    split at e
    case h_2 => cases e
    rename_i x1 x2 x3 sz x y hz hxo hyo
    split at e
    case h_2 => cases e
    rename_i z1 z2 b1 c h1 h2
    cases e
    obtain ⟨x', p1, p2⟩ := hx.get f.offset x (by simpa using hxo)
    obtain ⟨y', q1, q2⟩ := hy.get f.offset y (by simpa using hyo)
    have ih := gEqFs_sound hx hy d w r c h2
    have r0 := gEq0_sound (P := P) p2 q2 h1 d w
    have rx := run_part_cell (P := P) hz xs' f.offset (by simpa using p1) w
    have ry := run_part_cell (P := P) hz ys' f.offset (by simpa using q1) w
    simp only [Op.eqFields, ne_eq, hn, not_false_eq_true, if_true, Sem.run_bind, rx, ry, r0, Result.andThen_ok]
    cases b1 <;> simp [ih]

theorem deep' {P : Program} {t : TypeId} {x y : Value} {r : Result Bool} {w : World} (n : Nat) (h : (Op.equalIn (n + 1) t x y).run P w = r) (hn : n = 9999 := by rfl) : (Op.equal t x y).run P w = r := by subst hn; exact h
theorem deep {P : Program} {t : TypeId} {x y : Value} {b : Bool} {w : World} (h : ∀ d : Nat, (Op.equalIn (d + 1) t x y).run P w = .ok b w) : (Op.equal t x y).run P w = .ok b w := h 9999

theorem gEq_sound {P : Program} {φ : Fm} {t : TypeId} {cst : Bool} {x y x' y' : Value} (hx : VR φ x x') (hy : VR φ y y') {b : Bool} (e : gEq P t cst x y = some b) (w : World) :
    (Op.equal t x' y').run P w = .ok b w ∧ (∀ op ox oy, (cst = true → (ox matches .const _) ∨ (oy matches .const _)) → (eqGuard op t ox oy x' y').run P w = .ok () w) ∧ (∀ k n, x' ≠ .int k n) ∧ (∀ s, x' ≠ .string s) ∧ (∀ k n, x' ≠ .float k n) ∧ (∀ k n m, x' ≠ .complex k n m) := by
  unfold gEq at e
  have triv : ∀ (op : BinOp) (ox oy : Operand), (∀ a b, ¬ (x' = .agg a ∧ y' = .agg b)) → ¬ (x' = .nilIface ∧ y' = .nilIface) → (eqGuard op t ox oy x' y').run P w = .ok () w := by
    intro op ox oy h1 h2
    unfold eqGuard
    cases op <;> simp [Sem.run_bind] <;> (split <;> simp_all)
  split at e
  · rename_i hu; cases e; cases hx; cases hy
    exact ⟨deep fun d => by simp [Op.equalIn, run_underlying hu], fun _ _ _ _ => triv _ _ _ (by simp) (by simp), by simp, by simp, by simp, by simp⟩
  · rename_i hu; cases e; cases hx
    cases hy with
    | pnil => exact ⟨deep fun d => by simp [Op.equalIn, run_underlying hu], fun _ _ _ _ => triv _ _ _ (by simp) (by simp), by simp, by simp, by simp, by simp⟩
    | ptr ha => exact ⟨deep fun d => by simp [Op.equalIn, run_underlying hu], fun _ _ _ _ => triv _ _ _ (by simp) (by simp), by simp, by simp, by simp, by simp⟩
  · rename_i hu; cases e; cases hx; cases hy
    exact ⟨deep fun d => by simp [Op.equalIn, run_underlying hu], fun _ _ _ _ => triv _ _ _ (by simp) (by simp), by simp, by simp, by simp, by simp⟩
  · rename_i hu; cases e; cases hx
    cases hy with
    | snil => exact ⟨deep fun d => by simp [Op.equalIn, run_underlying hu], fun _ _ _ _ => triv _ _ _ (by simp) (by simp), by simp, by simp, by simp, by simp⟩
    | slice => exact ⟨deep fun d => by simp [Op.equalIn, run_underlying hu], fun _ _ _ _ => triv _ _ _ (by simp) (by simp), by simp, by simp, by simp, by simp⟩
  · rename_i hu; cases e; cases hx; cases hy
    exact ⟨deep fun d => by simp [Op.equalIn, run_underlying hu], fun _ _ _ _ => triv _ _ _ (by simp) (by simp), by simp, by simp, by simp, by simp⟩
  · rename_i hu
    split at e
    case isFalse => cases e
    rename_i hc
    cases e; cases hx; cases hy
    refine ⟨deep fun d => by simp [Op.equalIn, run_underlying hu], fun op ox oy h => ?_, by simp, by simp, by simp, by simp⟩
    have := h hc
    unfold eqGuard
    rcases this with h | h
    · split at h
      case h_2 => cases h
      cases op <;> simp [Sem.run_bind]
    · split at h
      case h_2 => cases h
      cases op <;> simp [Sem.run_bind]
  · rename_i hu; cases e; cases hx; cases hy
    exact ⟨deep fun d => by simp [Op.equalIn, run_underlying hu], fun _ _ _ _ => triv _ _ _ (by simp) (by simp), by simp, by simp, by simp, by simp⟩
  · rename_i hu; cases e; cases hx; cases hy
    exact ⟨deep fun d => by simp [Op.equalIn, run_underlying hu], fun _ _ _ _ => triv _ _ _ (by simp) (by simp), by simp, by simp, by simp, by simp⟩
  · rename_i hu; cases e; cases hx; cases hy
    exact ⟨deep fun d => by simp [Op.equalIn, run_underlying hu], fun _ _ _ _ => triv _ _ _ (by simp) (by simp), by simp, by simp, by simp, by simp⟩
  · rename_i hu; cases e; cases hx; cases hy
    exact ⟨deep fun d => by simp [Op.equalIn, run_underlying hu], fun _ _ _ _ => triv _ _ _ (by simp) (by simp), by simp, by simp, by simp, by simp⟩
  · rename_i hu; cases e; cases hx; cases hy
    exact ⟨deep fun d => by simp [Op.equalIn, run_underlying hu], fun _ _ _ _ => triv _ _ _ (by simp) (by simp), by simp, by simp, by simp, by simp⟩
  · rename_i fs xs ys hu
    split at e
    case isFalse => cases e
    rename_i hc
    simp only [eqOk, Bool.and_eq_true, Bool.not_eq_true'] at hc
    cases hx with
    | agg hx =>
    rename_i xs'
    cases hy with
    | agg hy =>
    rename_i ys'
    have hf : P.fieldsOf t = fs := by simp [Program.fieldsOf, hu]
    refine ⟨?_, fun op ox oy _ => ?_, by simp, by simp, by simp, by simp⟩
    · have := run_equalIn_struct (P := P) w 9999 t xs' ys' (by rw [hf]; exact hu) hc.2
      refine deep' 9999 ?_
      rw [this, hf]
      exact gEqFs_sound hx hy 9998 w _ _ e
    · unfold eqGuard
      cases op <;> simp [Sem.run_bind, hc.1]
  · cases e

/-- A value, if there is one. -/
def optK (o : Option Value) (h : GH) (K : Value → GH → Prop) : Prop := ∃ v, o = some v ∧ K v h
theorem optK_some (v : Value) (h : GH) (K : Value → GH → Prop) : optK (some v) h K = K v h := by simp [optK]

def gBin (P : Program) (op : BinOp) (t : TypeId) (cst : Bool) (x y : Value) (h : GH) (K : Value → GH → Prop) : Prop :=
  match x, y with
  | .int k a, .int k' b => gInt op k a k' b h K
  | .string a, .string b => gStrOp op a b h K
  | x, y => match op with
    | .eql => optK ((gEq P t cst x y).map .bool) h K
    | .neq => optK ((gEq P t cst x y).map fun b => .bool !b) h K
    | _ => False

theorem binOp_eql {P : Program} {w : World} {t : TypeId} {x y : Value} {b : Bool} (h : (Op.equal t x y).run P w = .ok b w) (h1 : ∀ k n, x ≠ .int k n) (h2 : ∀ s, x ≠ .string s) (h3 : ∀ k n, x ≠ .float k n) (h4 : ∀ k n m, x ≠ .complex k n m) :
    (binOp .eql t x y).run P w = .ok (.bool b) w ∧ (binOp .neq t x y).run P w = .ok (.bool (!b)) w := by
  cases x <;> first | exact absurd rfl (h1 _ _) | exact absurd rfl (h2 _) | exact absurd rfl (h3 _ _) | exact absurd rfl (h4 _ _ _) | skip
  all_goals
    simp only [binOp]
    simp [h]

def isC : Operand → Bool | .const _ => true | _ => false

theorem gBin_sound {P : Program} {φ : Fm} {op : BinOp} {t : TypeId} {ox oy : Operand} {x y x' y' : Value} (hx : VR φ x x') (hy : VR φ y y') {h : GH} {K : Value → GH → Prop} (g : gBin P op t (isC ox || isC oy) x y h K) (w : World) :
    ∃ v, ((do eqGuard op t ox oy x' y'; binOp op t x' y') : Sem Value).run P w = .ok v w ∧ K v h ∧ (∀ φ, VR φ v v) := by
  unfold gBin at g
  have gI : ∀ (k k' : IntKind) (a b : Int), (eqGuard op t ox oy (.int k a) (.int k' b)).run P w = .ok () w := by
    intro k k' a b
    unfold eqGuard
    cases op <;> simp [Sem.run_bind]
  have gS : ∀ (a b : ByteArray), (eqGuard op t ox oy (.string a) (.string b)).run P w = .ok () w := by
    intro a b
    unfold eqGuard
    cases op <;> simp [Sem.run_bind]
  split at g
  · cases hx; cases hy
    obtain ⟨v, h1, h2, h3⟩ := gInt_sound (P := P) (t := t) g w
    exact ⟨v, by simp [Sem.run_bind, gI, h1], h2, h3⟩
  · cases hx; cases hy
    obtain ⟨v, h1, h2, h3⟩ := gStrOp_sound (P := P) (t := t) g w
    exact ⟨v, by simp [Sem.run_bind, gS, h1], h2, h3⟩
  · have key : ∀ b, gEq P t (isC ox || isC oy) x y = some b →
        (∀ op, (eqGuard op t ox oy x' y').run P w = .ok () w) ∧ (binOp .eql t x' y').run P w = .ok (.bool b) w ∧ (binOp .neq t x' y').run P w = .ok (.bool (!b)) w := by
      intro b e
      obtain ⟨h1, h2, h3, h4, h5, h6⟩ := gEq_sound (P := P) hx hy e w
      obtain ⟨h7, h8⟩ := binOp_eql h1 h3 h4 h5 h6
      exact ⟨fun op => h2 op ox oy (by cases ox <;> cases oy <;> simp [isC]), h7, h8⟩
    split at g
    · obtain ⟨v, e0, k⟩ := g
      simp only [Option.map_eq_some_iff] at e0
      obtain ⟨b, e, rfl⟩ := e0
      obtain ⟨h1, h2, h3⟩ := key b e
      exact ⟨.bool b, by simp [Sem.run_bind, h1, h2], k, fun _ => .bool _⟩
    · obtain ⟨v, e0, k⟩ := g
      simp only [Option.map_eq_some_iff] at e0
      obtain ⟨b, e, rfl⟩ := e0
      obtain ⟨h1, h2, h3⟩ := key b e
      exact ⟨.bool (!b), by simp [Sem.run_bind, h1, h3], k, fun _ => .bool _⟩
    · exact g.elim

def gUn (op : UnOp) (x : Value) : Option Value :=
  match op, x with
  | .neg, .int k n => some (.int k (k.wrap (0 - n)))
  | .xor, .int k n => some (.int k (bits .xor k (if k.signed then -1 else k.max) n))
  | .not, .bool b => some (.bool !b)
  | _, _ => none

theorem gUn_sound {P : Program} {φ : Fm} {op : UnOp} {x x' v : Value} (hx : VR φ x x') (e : gUn op x = some v) (w : World) : (Op.unary op x').run P w = .ok v w ∧ (∀ φ, VR φ v v) := by
  unfold gUn at e
  split at e
  · cases e; cases hx; exact ⟨by simp [Op.unary, Op.intArith], fun _ => .int _ _⟩
  · cases e; cases hx; exact ⟨by simp [Op.unary, Op.intBits, bits], fun _ => .int _ _⟩
  · cases e; cases hx; exact ⟨by simp [Op.unary], fun _ => .bool _⟩
  · cases e

/-- Conversions. -/
def gConv (P : Program) (src dst : TypeId) (h : GH) (x : Value) : Option Value :=
  match P.underlying dst, x with
  | some (.int k), .int _ n => some (.int k (k.wrap n))
  | some .string, .string s => some (.string s)
  | some .string, .slice a n c => match P.underlying src with
    | some (.slice e) => match P.underlying e with
      | some (.int .u8) => (gStr h (.slice a n c)).map .string
      | _ => none
    | _ => none
  | _, _ => none

theorem gConv_sound {P : Program} {N : Nat} {φ : Fm} {h : GH} {w : World} (s : Sim N φ h w) {src dst : TypeId} {x x' v : Value} (hx : VR φ x x') (hsrc : (P.underlying src).isSome = true) (e : gConv P src dst h x = some v) :
    (convert src dst x').run P w = .ok v w ∧ (∀ φ, VR φ v v) := by
  obtain ⟨d, hd⟩ := Option.isSome_iff_exists.1 hsrc
  unfold gConv at e
  split at e
  · rename_i hu; cases e; cases hx
    exact ⟨by cases d <;> simp [convert, run_underlying hu, run_underlying hd, Conv.intToInt], fun _ => .int _ _⟩
  · rename_i hu; cases e; cases hx
    exact ⟨by cases d <;> simp [convert, run_underlying hu, run_underlying hd], fun _ => .string _⟩
  · rename_i a n c hu
    split at e
    case h_2 => cases e
    rename_i el hsl
    split at e
    case h_2 => cases e
    rename_i hel
    simp only [Option.map_eq_some_iff] at e
    obtain ⟨b, e1, rfl⟩ := e
    have h1 := gStr_sound (P := P) s hx e1
    refine ⟨?_, fun _ => .string _⟩
    obtain ⟨a', n', c', rfl⟩ : ∃ a' n' c', x' = .slice a' n' c' := by cases hx <;> exact ⟨_, _, _, rfl⟩
    rw [run_convert_bytes_string w src dst el a' n' c' hsl hel hu, h1]
  · cases e

end Go.Gh

/- A framework of this claim's proof, part 9. Composite values. No statement of the claim stands here. -/
namespace Go.Gh
open Go Go.RowKit
set_option linter.unusedVariables false
set_option linter.unusedSimpArgs false

/-! ## Composite values -/

def vcells : Value → List Value
  | .agg cs => cs.toList
  | v => [v]
theorem vcells_eq (v : Value) : v.cells.toList = vcells v := by cases v <;> rfl

def lput (cs : List Value) (off : Nat) : List Value → List Value
  | [] => cs
  | v :: r => lput (cs.set off v) (off + 1) r
def lfill (pl : Nat → Option (Nat × Nat)) (cs : List Value) : List (Nat × Value) → Option (List Value)
  | [] => some cs
  | (i, v) :: r => match pl i with
    | none => none
    | some (off, size) => if (vcells v).length = size ∧ off + (vcells v).length ≤ cs.length ∧ (vcells v).all isCell = true then lfill pl (lput cs off (vcells v)) r else none

theorem lput_fold : ∀ (l : List Value) (off n : Nat) (c : Array Value), ((l.zipIdx n).foldl (fun cs (x : Value × Nat) => cs.setIfInBounds (off + x.2) x.1) c).toList = lput c.toList (off + n) l
  | [], off, n, c => rfl
  | v :: r, off, n, c => by
    simp only [List.zipIdx_cons, List.foldl_cons, lput]
    rw [lput_fold r off (n + 1)]
    simp [Nat.add_assoc]
theorem lput_vr {φ : Fm} : ∀ {l l' : List Value} {cs cs' : List Value} (off : Nat), VRs φ l l' → VRs φ cs cs' → VRs φ (lput cs off l) (lput cs' off l')
  | _, _, _, _, _, .nil, hc => hc
  | _, _, _, _, off, .cons h hs, hc => lput_vr (off + 1) hs (hc.set off h)

inductive VRq (φ : Fm) : List (Nat × Value) → List (Nat × Value) → Prop
  | nil : VRq φ [] []
  | cons {i : Nat} {v v' : Value} {l l' : List (Nat × Value)} (h : VR φ v v') (hs : VRq φ l l') : VRq φ ((i, v) :: l) ((i, v') :: l')

theorem lfill_sound {φ : Fm} (pl : Nat → Option (Nat × Nat)) : ∀ {ps ps' : List (Nat × Value)} {cs : List Value} {c' : Array Value} {r : List Value}, VRq φ ps ps' → VRs φ cs c'.toList → lfill pl cs ps = some r →
    ∃ r', Instr.fill pl c' ps' = some r' ∧ VRs φ r r'.toList
  | _, _, cs, c', r, .nil, hc, e => by
    simp only [lfill, Option.some.injEq] at e
    exact ⟨c', rfl, e ▸ hc⟩
  | _, _, cs, c', r, .cons (i := i) (v := v) (v' := v') h hs, hc, e => by
    simp only [lfill] at e
    unfold Instr.fill
    cases hp : pl i with
    | none => simp [hp] at e
    | some x =>
      obtain ⟨off, size⟩ := x
      simp only [hp] at e ⊢
      split at e
      case isFalse => cases e
      rename_i hcond
      obtain ⟨h1, h2, h3⟩ := hcond
      have hcs := h.cells (by rw [vcells_eq]; exact h3)
      have hl : v'.cells.size = size := by
        have := hcs.length; rw [vcells_eq, h1] at this; simpa using this.symm
      have hl2 : c'.size = cs.length := by have := hc.length; simpa using this.symm
      have hneg : ¬ (v'.cells.size ≠ size ∨ off + v'.cells.size > c'.size) := by rw [hl, hl2]; omega
      rw [if_neg (by simpa using hneg)]
      rw [foldl_arr]
      have hfold := lput_fold v'.cells.toList off 0 c'
      rw [vcells_eq] at hcs
      refine lfill_sound pl hs ?_ e
      rw [hfold, Nat.add_zero]
      exact lput_vr off hcs hc

/-- The places of a struct's fields, or of an array's elements. -/
def gpls (P : Program) : List Field → Option (List (Nat × Nat))
  | [] => some []
  | f :: r => match gsz P f.type, gpls P r with
    | some (_, n), some l => some ((f.offset, n) :: l)
    | _, _ => none
theorem gpls_sound {P : Program} (w : World) : ∀ (fs : List Field) (l : List (Nat × Nat)), gpls P fs = some l → (fs.mapM (fun f => do pure (f.offset, ← sizeOf f.type) : Field → Sem (Nat × Nat))).run P w = .ok l w
  | [], l, h => by
    simp only [gpls, Option.some.injEq] at h
    subst h; simp
  | f :: r, l, h => by
    simp only [gpls] at h
    split at h
    case h_2 => cases h
    rename_i x1 x2 b n l' h1 h2
    cases h
    have ih := gpls_sound w r l' h2
    simp only [List.mapM_cons, Sem.run_bind, (gsz_sound h1 w).2, Result.andThen_ok, Sem.run_pure, ih]

inductive Shape | fields (l : List (Nat × Nat)) | elems (es : Nat)

def Shape.pl : Shape → Nat → Option (Nat × Nat)
  | .fields l => fun i => l[i]?
  | .elems es => fun i => some (i * es, es)

/-- Of a struct's or an array's type: its places and nought. -/
def gshape (P : Program) (t : TypeId) : Option (Shape × List Value) :=
  match P.info? t with
  | some i => match i.zero with
    | some z => if clo z = true then
        match P.underlying t with
        | some (.struct fs) => match gpls P fs.toList with
          | some l => some (.fields l, z.cells.toList)
          | none => none
        | some (.array _ e) => match gsz P e with
          | some (_, es) => some (.elems es, z.cells.toList)
          | none => none
        | _ => none
      else none
    | none => none
  | none => none

def gBuild (P : Program) (t : TypeId) (ps : List (Nat × Value)) : Option Value :=
  match gshape P t with
  | some (sh, z) => match lfill sh.pl z ps with
    | some l => some (.agg l.toArray)
    | none => none
  | none => none

theorem gBuild_sound {P : Program} {φ : Fm} {t : TypeId} {ps : List (Nat × Value)} {ps' : Array (Nat × Value)} (hp : VRq φ ps ps'.toList) {v : Value} (e : gBuild P t ps = some v) (w : World) :
    ∃ v', (Instr.build t ps').run P w = .ok v' w ∧ VR φ v v' := by
  unfold gBuild at e
  split at e
  case h_2 => cases e
  rename_i sh zc hsh
  split at e
  case h_2 => cases e
  rename_i l hl
  cases e
  unfold gshape at hsh
  split at hsh
  case h_2 => cases hsh
  rename_i i hi
  split at hsh
  case h_2 => cases hsh
  rename_i z hz
  split at hsh
  case isFalse => cases hsh
  rename_i hclo
  split at hsh
  · rename_i fs hu
    split at hsh
    case h_2 => cases hsh
    rename_i pls hpls
    cases hsh
    obtain ⟨r', r1, r2⟩ := lfill_sound (φ := φ) _ hp (cs := z.cells.toList) (c' := z.cells) (cloCells_refl (clo_cells hclo)) hl
    have hm := gpls_sound (P := P) w _ _ hpls
    have hm' : (fs.mapM (fun f => do pure (f.offset, ← sizeOf f.type) : Field → Sem (Nat × Nat))).run P w = .ok pls.toArray w := by
      rw [Array.mapM_eq_mapM_toList, Sem.run_map, hm]
      rfl
    refine ⟨.agg r', ?_, .agg (by simpa using r2)⟩
    have r1' : Instr.fill (fun x => pls.toArray[x]?) z.cells ps'.toList = some r' := by
      have : (fun x => pls.toArray[x]?) = Shape.pl (.fields pls) := by funext x; simp [Shape.pl]
      rw [this]; exact r1
    simp only [Instr.build, Sem.run_bind, zeroValue, typeInfo, run_program, Result.andThen_ok, hi, hz, Sem.run_pure, run_underlying hu, hm', r1']
  · rename_i n el hu
    split at hsh
    case h_2 => cases hsh
    rename_i b es hes
    cases hsh
    obtain ⟨r', r1, r2⟩ := lfill_sound (φ := φ) _ hp (cs := z.cells.toList) (c' := z.cells) (cloCells_refl (clo_cells hclo)) hl
    refine ⟨.agg r', ?_, .agg (by simpa using r2)⟩
    have r1' : Instr.fill (fun i => some (i * es, es)) z.cells ps'.toList = some r' := r1
    simp only [Instr.build, Sem.run_bind, zeroValue, typeInfo, run_program, Result.andThen_ok, hi, hz, Sem.run_pure, run_underlying hu, (gsz_sound hes w).2, r1']
  · cases hsh

def gBuildSlice (P : Program) (t : TypeId) (h : GH) (len : Nat) (ps : List (Nat × Value)) (K : Value → GH → Prop) : Prop :=
  ∃ e es by_ z cs, gel P t = some (e, es, by_, z) ∧ clo z = true ∧ len * es ≤ 16777216 ∧ lfill (Shape.elems es).pl (zeros z (len * es)) ps = some cs ∧ cs.all isCell = true ∧
    (len = 0 → K (.slice (some ⟨0, 0, none⟩) 0 1) h) ∧ (len ≠ 0 → ∀ k, h k = none → K (.slice (some ⟨k, 0, none⟩) len (2 * len + 1)) (hset h k ⟨cs, es, true, false⟩))

theorem gBuildSlice_sound {P : Program} {N : Nat} {φ : Fm} {h : GH} {w : World} (s : Sim N φ h w) {t : TypeId} {len : Nat} {ps : List (Nat × Value)} {ps' : Array (Nat × Value)} (hp : VRq φ ps ps'.toList) {K : Value → GH → Prop} (g : gBuildSlice P t h len ps K) :
    Yes P N φ w (Instr.buildSlice t len ps') K := by
  obtain ⟨e, es, by_, z, cs, hel, hclo, hlen, hfill, hcell, g⟩ := g
  obtain ⟨ht, i, hi, hsize, hbytes, hzero, hzs, hpos⟩ := gel_sound hel
  obtain ⟨r', r1, r2⟩ := lfill_sound (φ := φ) _ hp (cs := zeros z (len * es)) (c' := madeCells z.cells (len * es)) (cloCells_refl (zeros_clo hclo (by rw [hzs]; exact hpos) _)) hfill
  have hrun : (Instr.buildSlice t len ps').run P w = .ok (.slice (some ⟨w.heap.size, 0, none⟩) len len) (w.alloc (.cells r' e)) := by
    have hnot : ¬ (len * es > 2 ^ 24) := by omega
    have r1' : Instr.fill (fun i => some (i * es, es)) (madeCells z.cells (len * es)) ps'.toList = some r' := r1
    have hnot' : ¬ (16777216 < len * es) := by omega
    by_cases h0 : len * es = 0
    · have hf : Instr.fill (fun i => some (i * es, es)) #[] ps'.toList = some r' := by
        have : madeCells z.cells (len * es) = #[] := by rw [h0]; simp [madeCells, Array.range_zero']
        rw [this] at r1'; exact r1'
      simp [Instr.buildSlice, run_underlying ht, sizeOf, typeInfo, hi, hsize, h0, Array.range_zero', newRow, hf]
    · have hf : Instr.fill (fun i => some (i * es, es)) (Array.map (fun x => z.cells[x % z.cells.size]!) (Array.range (len * es))) ps'.toList = some r' := r1'
      simp [Instr.buildSlice, run_underlying ht, sizeOf, typeInfo, zeroValue, hzero, hi, hsize, h0, hnot', newRow, hf]
  by_cases h00 : len = 0
  · have k := g.1 h00
    subst h00
    refine ⟨_, _, φ, _, h, hrun, Ext.refl _, s.grow (by simp) (fun j hj => Below.heap_alloc _ _ _ hj), ?_, below_alloc' s.big _, k⟩
    exact .slice (.inr rfl) ⟨fun _ => rfl, fun he => by omega⟩ (Nat.le_refl _)
  · have k := g.2 h00
    obtain ⟨φ', k0, h1, h2, h3, h4, h5⟩ := gNew_sound (P := P) s r2 e es (K := fun k h' => K (.slice (some ⟨k, 0, none⟩) len (2 * len + 1)) h') k
    refine ⟨_, _, φ', _, _, hrun, h1, by simpa using h3, .slice (.inl ⟨rfl, rfl, _, h2, rfl, rfl⟩) ⟨fun ho => by omega, fun he => by omega⟩ (Nat.le_refl _), by simpa using h4, h5⟩

/-- Out of a composite value. -/
def gPart (P : Program) (t : TypeId) (cs : Array Value) (off : Nat) : Option Value :=
  match gsz P t with
  | some (true, n) => some (.agg (cs.extract off (off + n)))
  | some (false, _) => cs[off]?
  | none => none
theorem gPart_sound {P : Program} {φ : Fm} {t : TypeId} {cs cs' : Array Value} (hc : VRs φ cs.toList cs'.toList) {off : Nat} {v : Value} (e : gPart P t cs off = some v) (w : World) :
    ∃ v', (part t cs' off).run P w = .ok v' w ∧ VR φ v v' := by
  unfold gPart at e
  split at e
  · rename_i n hz
    cases e
    refine ⟨.agg (cs'.extract off (off + n)), by simp [part, (gsz_sound hz w).1, (gsz_sound hz w).2], .agg ?_⟩
    simp only [Array.toList_extract, List.extract_eq_take_drop]
    exact (hc.drop _).take _
  · rename_i n hz
    obtain ⟨v', p1, p2⟩ := hc.get off v (by simpa using e)
    exact ⟨v', run_part_cell hz _ _ (by simpa using p1) w, p2⟩
  · cases e

def gFieldV (P : Program) (t : TypeId) (x : Value) (f : Nat) : Option Value :=
  match P.underlying t, x with
  | some (.struct fs), .agg cs => match fs[f]? with
    | some fl => gPart P fl.type cs fl.offset
    | none => none
  | _, _ => none
theorem gFieldV_sound {P : Program} {φ : Fm} {t : TypeId} {x x' v : Value} (hx : VR φ x x') {f : Nat} (e : gFieldV P t x f = some v) (w : World) : ∃ v', (Instr.field t x' f).run P w = .ok v' w ∧ VR φ v v' := by
  unfold gFieldV at e
  split at e
  case h_2 => cases e
  rename_i fs cs hu
  split at e
  case h_2 => cases e
  rename_i fl hfl
  cases hx with
  | agg hx =>
  obtain ⟨v', p1, p2⟩ := gPart_sound hx e w
  exact ⟨v', by simp [Instr.field, run_underlying hu, hfl, asAgg, p1], p2⟩

def gIndexV (P : Program) (t : TypeId) (x : Value) (i : Int) : Option Value :=
  match P.underlying t, x with
  | some (.array n e), .agg cs => match gsz P e with
    | some (_, es) => if 0 ≤ i ∧ i < n then gPart P e cs (i.toNat * es) else none
    | none => none
  | some .string, .string s => if 0 ≤ i then (s.data.toList[i.toNat]?).map fun b => .int .u8 b.toNat else none
  | _, _ => none
theorem gIndexV_sound {P : Program} {φ : Fm} {t : TypeId} {x x' v : Value} (hx : VR φ x x') {k : IntKind} {i : Int} (e : gIndexV P t x i = some v) (w : World) : ∃ v', (Instr.index t x' (.int k i)).run P w = .ok v' w ∧ VR φ v v' := by
  unfold gIndexV at e
  split at e
  · rename_i n el cs hu
    split at e
    case h_2 => cases e
    rename_i b es hz
    split at e
    case isFalse => cases e
    rename_i hi
    cases hx with
    | agg hx =>
    obtain ⟨v', p1, p2⟩ := gPart_sound hx e w
    exact ⟨v', by simp [Instr.index, asIntOf, run_underlying hu, hi, (gsz_sound hz w).2, p1], p2⟩
  · rename_i s hu
    split at e
    case isFalse => cases e
    rename_i hi
    simp only [Option.map_eq_some_iff] at e
    obtain ⟨b, hb, rfl⟩ := e
    cases hx
    have hb' : s[i.toNat]? = some b := by
      rw [Array.getElem?_toList] at hb
      obtain ⟨h1, h2⟩ := Array.getElem?_eq_some_iff.1 hb
      exact getElem?_eq_some_iff.2 ⟨h1, h2⟩
    exact ⟨_, by simp [Instr.index, asIntOf, run_underlying hu, hi, hb'], .int _ _⟩
  · cases e

/-! ## Builtins -/

def gLen (P : Program) (t : TypeId) (x : Value) : Option Int :=
  match P.underlying t, x with
  | some .string, .string s => some s.size
  | some (.slice _), .slice _ n _ => some n
  | some (.array n _), _ => some n
  | _, _ => none
theorem gLen_sound {P : Program} {φ : Fm} {t ty : TypeId} {x x' : Value} (hx : VR φ x x') {n : Int} (e : gLen P t x = some n) (w : World) : (Builtin.len_ #[t] ty #[x']).run P w = .ok (.int .i64 n) w := by
  unfold gLen at e
  split at e
  · rename_i hu; cases e; cases hx; simp [Builtin.len_, run_underlying hu, goInt]
  · rename_i hu; cases e
    cases hx <;> simp [Builtin.len_, run_underlying hu, goInt]
  · rename_i hu; cases e; simp [Builtin.len_, run_underlying hu, goInt]
  · cases e

def gCap (P : Program) (t : TypeId) (x : Value) : Option Int :=
  match P.underlying t, x with
  | some (.slice _), .slice none _ _ => some 0
  | some (.slice _), .slice (some _) _ c => if c % 2 = 1 then some ((c / 2 : Nat) : Int) else none
  | _, _ => none
theorem gCap_sound {P : Program} {φ : Fm} {t ty : TypeId} {x x' : Value} (hx : VR φ x x') {n : Int} (e : gCap P t x = some n) (w : World) : (Builtin.cap_ #[t] ty #[x']).run P w = .ok (.int .i64 n) w := by
  unfold gCap at e
  split at e
  · rename_i hu; cases e; cases hx; simp [Builtin.cap_, run_underlying hu, goInt]
  · rename_i hu
    split at e
    case isFalse => cases e
    rename_i hc
    cases e
    cases hx with
    | slice ha hcr hn =>
    have := hcr.1 hc
    subst this
    simp [Builtin.cap_, run_underlying hu, goInt]
  · cases e

def gMin (x : Value) : List Value → Option Value
  | [] => some x
  | y :: r => match x, y with
    | .int k a, .int _ b => gMin (.int k (if b < a then b else a)) r
    | _, _ => none
def gMax (x : Value) : List Value → Option Value
  | [] => some x
  | y :: r => match x, y with
    | .int k a, .int _ b => gMax (.int k (if b > a then b else a)) r
    | _, _ => none
theorem gMin_sound {P : Program} {φ : Fm} (w : World) : ∀ {l l' : List Value} {x x' v : Value}, VR φ x x' → VRs φ l l' → gMin x l = some v → (∃ k a, x = .int k a) → (l'.foldlM Builtin.min2 x').run P w = .ok v w ∧ ∃ k a, v = .int k a
  | _, _, x, x', v, hx, .nil, e, hi => by
    obtain ⟨k, a, rfl⟩ := hi
    simp only [gMin, Option.some.injEq] at e
    subst e; cases hx
    exact ⟨by simp, k, a, rfl⟩
  | _, _, x, x', v, hx, .cons hy hs, e, hi => by
    obtain ⟨k, a, rfl⟩ := hi
    cases hx
    cases hy <;> simp only [gMin] at e <;> try cases e
    obtain ⟨h1, h2⟩ := gMin_sound (P := P) w (.int _ _) hs e ⟨_, _, rfl⟩
    exact ⟨by simp [Builtin.min2, h1], h2⟩
theorem gMax_sound {P : Program} {φ : Fm} (w : World) : ∀ {l l' : List Value} {x x' v : Value}, VR φ x x' → VRs φ l l' → gMax x l = some v → (∃ k a, x = .int k a) → (l'.foldlM Builtin.max2 x').run P w = .ok v w ∧ ∃ k a, v = .int k a
  | _, _, x, x', v, hx, .nil, e, hi => by
    obtain ⟨k, a, rfl⟩ := hi
    simp only [gMax, Option.some.injEq] at e
    subst e; cases hx
    exact ⟨by simp, k, a, rfl⟩
  | _, _, x, x', v, hx, .cons hy hs, e, hi => by
    obtain ⟨k, a, rfl⟩ := hi
    cases hx
    cases hy <;> simp only [gMax] at e <;> try cases e
    obtain ⟨h1, h2⟩ := gMax_sound (P := P) w (.int _ _) hs e ⟨_, _, rfl⟩
    exact ⟨by simp [Builtin.max2, h1], h2⟩

end Go.Gh

/- A framework of this claim's proof, part 10. One operation of a region, and the triple of a call. No statement of the claim stands here. -/
namespace Go.Gh
open Go Go.RowKit
set_option linter.unusedVariables false
set_option linter.unusedSimpArgs false

/-! ## Temporaries -/

abbrev Env := List (Nat × Value)
/-- What is known of a temporary. -/
def lk : Env → Nat → Value
  | [], _ => U
  | (i, v) :: r, j => if i = j then v else lk r j

def ev (e : Env) : Operand → Value
  | .tmp i => lk e i
  | .const v => v
  | .global g => .pointer (some ⟨g, 0, none⟩)
  | .func f => .func (.func f) #[] #[]

/-- The operand may stand: a constant without a place, a variable that there is. -/
def opdOk (G : Nat) : Operand → Bool
  | .const v => clo v
  | .global g => decide (g < G)
  | _ => true

structure Rel (φ : Fm) (nt : Nat) (e : Env) (tmps : Array Value) : Prop where
  size : tmps.size = nt
  get : ∀ i, VR φ (lk e i) (tmps.getD i undef)

theorem Rel.mono {φ φ' : Fm} {nt : Nat} {e : Env} {t : Array Value} (h : Rel φ nt e t) (x : Ext φ φ') : Rel φ' nt e t := ⟨h.size, fun i => (h.get i).mono x⟩

def eput (e : Env) (d : Option Tmp) (v : Value) : Env := match d with | some i => (i, v) :: e | none => e

def dstOk (nt : Nat) : Option Tmp → Bool | some d => decide (d < nt) | none => true

theorem Rel.put {φ : Fm} {nt : Nat} {e : Env} {a : Act} (h : Rel φ nt e a.tmps) {d : Option Tmp} (hd : dstOk nt d = true) {v v' : Value} (hv : VR φ v v') : Rel φ nt (eput e d v) (a.put d v').tmps := by
  cases d with
  | none => exact h
  | some d =>
    simp only [dstOk, decide_eq_true_eq] at hd
    refine ⟨by simp [Act.put, h.size], fun i => ?_⟩
    simp only [eput, lk, Act.put]
    by_cases hi : d = i
    · subst hi
      have : d < a.tmps.size := by rw [h.size]; exact hd
      simp [this, hv]
    · rw [if_neg hi]
      have := h.get i
      rw [Array.getD_eq_getD_getElem?] at this ⊢
      rw [Array.getElem?_setIfInBounds_ne hi]
      exact this

theorem Rel.ev {P : Program} {N : Nat} {φ : Fm} {h : GH} {w : World} (s : Sim N φ h w) (hG : P.globals.size ≤ N) {nt : Nat} {e : Env} {a : Act} (r : Rel φ nt e a.tmps) {x : Operand} (hx : opdOk P.globals.size x = true) : VR φ (ev e x) (a.eval x) := by
  cases x with
  | tmp i => exact r.get i
  | const v => exact clo_refl hx
  | global g =>
    simp only [opdOk, decide_eq_true_eq] at hx
    exact .ptr ⟨rfl, rfl, _, s.ini g (by omega), rfl, by simp⟩
  | func f => exact .func .nil .nil

/-! ## Calls -/

/-- A function with a body, that runs as any. -/
def gfn (P : Program) (f : FuncId) : Bool :=
  match P.funcs[f]? with
  | some fn => fn.body.isSome && !(fn.name == "runtime.NumGoroutine")
  | none => false

/-- THE TRIPLE: called so, in such a memory, the function returns, and goes on as told. -/
def GTri (P : Program) (N : Nat) (f : FuncId) (args : List Value) (h : GH) (Q : Value → GH → Prop) : Prop :=
  P.globals.size ≤ N → ∀ φ w (args' : Array Value), Sim N φ h w → VRs φ args args'.toList →
    (gfn P f = true ∧ Calls P f args' w fun e w' => ∃ v v' φ' h', e = .returned v' ∧ Ext φ φ' ∧ Sim N φ' h' w' ∧ VR φ' v v' ∧ Below N w w' ∧ Q v h') ∨
    (∃ v v' φ' h' w', (callFunc f args').run P w = .ok (.value v') w' ∧ Ext φ φ' ∧ Sim N φ' h' w' ∧ VR φ' v v' ∧ Below N w w' ∧ Q v h')

theorem GTri.mono {P : Program} {N : Nat} {f : FuncId} {args : List Value} {h : GH} {Q Q' : Value → GH → Prop} (g : GTri P N f args h Q) (hq : ∀ v h', Q v h' → Q' v h') : GTri P N f args h Q' := by
  intro hG φ w args' s ha
  rcases g hG φ w args' s ha with ⟨h1, h2⟩ | ⟨v, v', φ', h', w', h1, h2, h3, h4, h5, h6⟩
  · refine .inl ⟨h1, h2.mono ?_⟩
    rintro e w' ⟨v, v', φ', h', r1, r2, r3, r4, r5, r6⟩
    exact ⟨v, v', φ', h', r1, r2, r3, r4, r5, hq _ _ r6⟩
  · exact .inr ⟨v, v', φ', h', w', h1, h2, h3, h4, h5, hq _ _ h6⟩

/-! ## One operation -/

def notInt : TypeDesc → Bool | .int _ => false | _ => true

def gzero (P : Program) (t : TypeId) : Option (List Value) :=
  match P.info? t with
  | some i => match i.zero with
    | some z => if clo z = true then some (vcells z) else none
    | none => none
  | none => none

def isInt : Value → Bool | .int _ _ => true | _ => false

/-- Memory, if there is one. -/
def optH (o : Option GH) (K : Value → GH → Prop) : Prop := ∃ h2, o = some h2 ∧ K U h2
theorem optH_some (h : GH) (K : Value → GH → Prop) : optH (some h) K = K U h := by simp [optH]
/-- A new variable. -/
def gNewP (h : GH) (cs : List Value) (K : Value → GH → Prop) : Prop := ∀ k, h k = none → K (.pointer (some ⟨k, 0, none⟩)) (hset h k ⟨cs, 0, true, false⟩)
def gAllocO (o : Option (List Value)) (h : GH) (K : Value → GH → Prop) : Prop := ∃ z, o = some z ∧ gNewP h z K
theorem gAllocO_some (z : List Value) (h : GH) (K : Value → GH → Prop) : gAllocO (some z) h K = gNewP h z K := by simp [gAllocO]
def gBoxP (h : GH) (cs : List Value) (K : Value → GH → Prop) : Prop := cs.all isCell = true ∧ gNewP h cs K
def gPick (c a b : Value) : Option Value := match c with | .bool t => some (if t = true then a else b) | _ => none
/-- The function that a pointer's method is. -/
def gMeth (P : Program) (t : TypeId) (n : String) : Option FuncId := match P.info? t with
  | some i => match i.methods.find? (·.name == n) with
    | some m => match m.path.toList, m.func, P.underlying t with
      | [], some (f, true), some (.pointer _) => some f
      | _, _, _ => none
    | none => none
  | none => none
theorem gMeth_call {P : Program} {t : TypeId} {n : String} {f : FuncId} {v : Value} {w : World} (h1 : ∀ k, (method (k + 1) t v n).run P w = .ok (f, v) w) (h2 : ∀ k, (nilAhead (k + 1) t v n).run P w = .ok (some false) w) :
    (∀ args, (callMethod (.iface t v) n args).run P w = (callFunc f (#[v] ++ args)).run P w) ∧ (nilAhead (P.types.size + Made.depth) t v n).run P w = .ok (some false) w := by
  have hd : P.types.size + Made.depth = (P.types.size + 99) + 1 := rfl
  refine ⟨fun args => ?_, by rw [hd]; exact h2 _⟩
  simp only [callMethod, Sem.run_bind, run_program, Result.andThen_ok]
  rw [hd, h1]
  rfl
theorem gMeth_sound {P : Program} {t : TypeId} {n : String} {f : FuncId} (hm : gMeth P t n = some f) (v : Value) (w : World) :
    (∀ args, (callMethod (.iface t v) n args).run P w = (callFunc f (#[v] ++ args)).run P w) ∧ (nilAhead (P.types.size + Made.depth) t v n).run P w = .ok (some false) w := by
  unfold gMeth at hm
  split at hm
  case h_2 => cases hm
  rename_i i hi
  split at hm
  case h_2 => cases hm
  rename_i m hf
  split at hm
  case h_2 => cases hm
  rename_i f' e0 hp hfu hu
  cases hm
  exact gMeth_call (fun k => by simp [method, typeInfo, hi, hf, hp, hfu, follow, receiverAt, run_underlying hu, Place.get]) (fun k => by simp [nilAhead, typeInfo, hi, hf, hp, hfu, followBlind])
def gNilM (P : Program) (n : String) (a b : List Value) : Option Value := match a, b with
  | .iface t v :: r, b => match gMeth P t n with
    | some _ => some (.func (.method n) (.iface t v :: r).toArray b.toArray)
    | none => none
  | _, _ => none
def gNil (P : Program) (x : Value) : Option Value := match x with
  | .pointer (some a) => some (.pointer (some a))
  | .func (.func f) a b => some (.func (.func f) a b)
  | .func (.method n) a b => gNilM P n a.toList b.toList
  | .iface t v => some (.iface t v)
  | _ => none
def notIface (P : Program) (t : TypeId) : Bool := match P.underlying t with | some (.interface _) => false | some _ => true | none => false
def gIfc (P : Program) (t : TypeId) (x : Value) : Option Value := if notIface P t = true then some (.iface t x) else none
def gConvO (P : Program) (s d : TypeId) (h : GH) (x : Value) : Option Value := if (P.underlying s).isSome = true then gConv P s d h x else none
def gIndexO (P : Program) (t : TypeId) (x i : Value) : Option Value := match i with | .int _ n => gIndex P t x n | _ => none
def gIndexVO (P : Program) (t : TypeId) (x i : Value) : Option Value := match i with | .int _ n => gIndexV P t x n | _ => none
def gMakeV (P : Program) (t : TypeId) (h : GH) (l c : Value) (K : Value → GH → Prop) : Prop := match l, c with | .int _ l, .int _ c => gMake P t h l c K | _, _ => False
def gMinV (x : Value) (r : List Value) : Option Value := if isInt x = true then gMin x r else none
def gMaxV (x : Value) (r : List Value) : Option Value := if isInt x = true then gMax x r else none
theorem wrap_small {x : Int} (h1 : 0 ≤ x) (h2 : x ≤ 9223372036854775807) : IntKind.i64.wrap x = x := by
  simp [IntKind.wrap, IntKind.signed, IntKind.bits]
  split <;> omega
theorem run_append_zeros {P : Program} (w : World) (t u ty e : TypeId) (ik kx : IntKind) (i : TypeInfo) (z : Value) (ht : P.underlying t = some (.slice e)) (hu : P.underlying u = some (.int ik)) (hi : P.info? e = some i) (hz : i.zero = some z)
    (m : Nat) (hm : 0 < m) (h63 : m ≤ 9223372036854775807) (hb : m * i.bytes ≤ 140737488355328) (hpos : 0 < i.size) :
    (Builtin.append_ #[t, u] ty #[.slice none 0 0, .int kx m]).run P w = .ok (.slice (some ⟨w.heap.size, 0, none⟩) m (grownCap w m 0 e))
      (w.drew.alloc (.cells ((Builtin.zeroCells z.cells m).toList ++ (Builtin.zeroCells z.cells (grownCap w m 0 e - m)).toList).toArray e)) := by
  have hw : IntKind.i64.wrap (m : Int) = m := wrap_small (by omega) (by omega)
  have h0 : ¬ ((m : Int) < 0) := by omega
  have h1 : ¬ (281474976710656 < (m : Int) * (i.bytes : Int)) := by
    rw [← Int.natCast_mul]
    omega
  have hn : ¬ (0 + m ≤ 0) := by omega
  have hn2 : ¬ m = 0 := by omega
  have hn3 : ¬ ((m : Int) ≤ 0) := by omega
  have hmx : max (m : Int) 0 = m := by omega
  have hs2 : ¬ i.size = 0 := by omega
  have hmz : ¬ (m = 0 ∨ i.size = 0) := by omega
  have h63' : ¬ (9223372036854775807 < (m : Int)) := by omega
  have hfit := growslice_fits (need := m) (old := 0) hm hb
  have h48' : ¬ (281474976710656 < Builtin.nextslicecap m 0 * i.bytes) := by omega
  simp [Builtin.append_, run_underlying ht, run_underlying hu, sizeOf, typeInfo, zeroValue, hi, hz, asInt, asIntOf, hw, h0, h1, hn2, hn3, hmx, hs2, hmz, h63', h48', Question.forced, newRow, grownCap, Builtin.firstCells]
  rw [if_neg (by rw [Nat.mul_eq_zero]; omega)]
  congr 2
  congr 1
  apply Array.ext'
  simp

def gAppendZ (P : Program) (t u : TypeId) (h : GH) (s x : Value) (K : Value → GH → Prop) : Prop :=
  ∃ ik kx e es by_ z m, P.underlying u = some (.int ik) ∧ gel P t = some (e, es, by_, z) ∧ clo z = true ∧ s = .slice none 0 0 ∧ x = .int kx (Int.ofNat m) ∧ 0 < m ∧ m ≤ maxLen ∧ m * by_ ≤ 140737488355328 ∧
    ∀ k, h k = none → K (.slice (some ⟨k, 0, none⟩) m (2 * m)) (hset h k ⟨zeros z (m * es), es, true, true⟩)
theorem gAppendZ_sound {P : Program} {N : Nat} {φ : Fm} {h : GH} {w : World} (hs : Sim N φ h w) {t u ty : TypeId} {s s' x x' : Value} (hvs : VR φ s s') (hvx : VR φ x x') {K : Value → GH → Prop} (g : gAppendZ P t u h s x K) :
    Yes P N φ w (Builtin.append_ #[t, u] ty #[s', x']) K := by
  obtain ⟨ik, kx, e, es, by_, z, m, hu, hel, hz, rfl, rfl, hm, hml, hb, k⟩ := g
  obtain ⟨ht, i, hi, hsize, hbytes, hzero, hzs, hpos⟩ := gel_sound hel
  subst hsize
  cases hvs
  cases hvx
  have hml' : m ≤ 9223372036854775807 := by simp only [maxLen] at hml; omega
  have hr := run_append_zeros (P := P) w t u ty e ik kx i z ht hu hi hzero m hm hml' (by rw [hbytes]; exact hb) hpos
  have hzc : (Builtin.zeroCells z.cells m).toList = zeros z (m * i.size) := by
    simp only [Builtin.zeroCells, zeros, madeCells, hzs]
  rw [hzc] at hr
  have hv : VRs φ (zeros z (m * i.size)) (zeros z (m * i.size)) := cloCells_refl (zeros_clo hz (by omega) _)
  obtain ⟨φ', v, h', r1, r2, r3, r4, r5⟩ := gApp_new (P := P) hs (fun _ => True) (fun _ _ _ => trivial) (K := K) t e i.size 0 0 m hzs hv (by simp [zeros_length]) (by omega) (fun k' hk _ => by simpa using k k' hk)
  simp only [Nat.zero_add] at r2 r3 r4
  exact ⟨_, _, φ', v, h', hr, r1, r2, r3, r4, r5⟩

def gAppendX (P : Program) (t u : TypeId) (h : GH) (s x : Value) (K : Value → GH → Prop) : Prop :=
  (∃ du e es by_ z m xs, P.underlying u = some du ∧ notInt du = true ∧ gel P t = some (e, es, by_, z) ∧ gSrc h es x = some (m, xs) ∧ gAppend P t h s m xs K) ∨ gAppendZ P t u h s x K
def gCopyX (P : Program) (t : TypeId) (h : GH) (d x : Value) (K : Value → GH → Prop) : Prop := ∃ n h2, gCopy P t h d x = some (n, h2) ∧ K (goInt n) h2

def gBlt (P : Program) (b : Builtin) (ats : List TypeId) (args : List Value) (h : GH) (K : Value → GH → Prop) : Prop :=
  match b, ats, args with
  | .len, [t], [x] => optK ((gLen P t x).map (.int .i64)) h K
  | .cap, [t], [x] => optK ((gCap P t x).map (.int .i64)) h K
  | .min, _, x :: r => optK (gMinV x r) h K
  | .max, _, x :: r => optK (gMaxV x r) h K
  | .append, [t, u], [s, x] => gAppendX P t u h s x K
  | .copy, [t, _], [d, x] => gCopyX P t h d x K
  | _, _, _ => False

def gExtract (x : Value) (i : Nat) : Option Value := match x with | .tuple vs => vs[i]? | _ => none

def gInvoke (P : Program) (N : Nat) (x : Value) (n : String) (args : List Value) (h : GH) (K : Value → GH → Prop) : Prop :=
  match x with
  | .iface t v => match gMeth P t n with
    | some f => GTri P N f (v :: args) h K
    | none => False
  | _ => False
def gCallV (P : Program) (N : Nat) (f : Value) (args : List Value) (h : GH) (K : Value → GH → Prop) : Prop :=
  match f with
  | .func (.func g) a b => GTri P N g (a.toList ++ args ++ b.toList) h K
  | _ => False

/-- A block of ours gets a mark behind its last cell: from now on it is no more written. -/
theorem Sim.mark {N : Nat} {φ : Fm} {h : GH} {w w' : World} (s : Sim N φ h w) {k : Nat} {B : GB} {f : Fx} (hk : h k = some B) (hf : φ k = some f) (hw : B.wr = true) (hsz : w'.heap.size = w.heap.size)
    (hne : ∀ j, j ≠ f.b → w'.heap[j]? = w.heap[j]?) (hc : ∀ a : Addr, a.block = f.b → w'.cell? a = w.cell? a) : Sim N φ (hset h k ⟨B.cells, B.es, false, false⟩) w' := by
  have apart : ∀ j B' f', j ≠ k → h j = some B' → φ j = some f' → f'.b ≠ f.b := fun j B' f' hj h1 h2 e => by
    have := (s.sep k j B B' f f' (Ne.symm hj) hk h1 hf h2 e.symm).1
    rw [hw] at this; cases this
  refine ⟨s.ini, by rw [hsz]; exact s.big, s.fin, fun j B' hj => ?_, ?_, fun j g hj => by rw [hsz]; exact s.rng j g hj⟩
  · by_cases hjk : j = k
    · subst hjk
      rw [hset_same] at hj; cases hj
      obtain ⟨g, h1, h2⟩ := s.dom j B hk
      rw [hf] at h1; cases h1
      exact ⟨f, hf, ⟨by rw [hsz]; exact h2.lt, fun i v hv => by rw [hc _ rfl]; exact h2.cell i v hv, h2.es, fun hh => by simp at hh, fun hh => by simp at hh, fun hh => by simp at hh, fun hh => by simp at hh⟩⟩
    · rw [hset_ne _ _ hjk] at hj
      obtain ⟨g, h1, h2⟩ := s.dom j B' hj
      exact ⟨g, h1, h2.mono (Ext.refl _) (by omega) (hne _ (apart j B' g hjk hj h1))⟩
  · intro j j' B1 B2 f1 f2 hn h1 h2 p1 p2 hb
    by_cases hj : j = k
    · subst hj
      rw [hf] at p1; cases p1
      rw [hset_ne _ _ (Ne.symm hn)] at h2
      exact absurd hb.symm (apart j' B2 f2 (Ne.symm hn) h2 p2)
    · by_cases hj' : j' = k
      · subst hj'
        rw [hf] at p2; cases p2
        rw [hset_ne _ _ hj] at h1
        exact absurd hb (apart j B1 f1 hj h1 p1)
      · rw [hset_ne _ _ hj] at h1; rw [hset_ne _ _ hj'] at h2
        exact s.sep j j' B1 B2 f1 f2 hn h1 h2 p1 p2 hb

def gMark (P : Program) (t d : TypeId) (h : GH) (x : Value) (K : Value → GH → Prop) : Prop :=
  t = d ∧ ∃ e a n c B, x = .slice (some a) n c ∧ n ≠ 0 ∧ P.underlying t = some (.slice e) ∧ P.underlying e = some (.int .u8) ∧ h a.block = some B ∧ B.wr = true ∧ K x (hset h a.block ⟨B.cells, B.es, false, false⟩)
theorem freeze_block (w : World) (a : Addr) (k : Nat) (j : Nat) (h : j ≠ a.block) : (w.freeze a k).heap[j]? = w.heap[j]? := by
  unfold World.freeze
  split
  · rfl
  · simp only [Array.getElem?_modify]
    rw [if_neg (Ne.symm h)]
theorem freeze_size (w : World) (a : Addr) (k : Nat) : (w.freeze a k).heap.size = w.heap.size := by
  unfold World.freeze
  split
  · rfl
  · simp
theorem freeze_cell (w : World) (a : Addr) (k : Nat) (b : Addr) : (w.freeze a k).cell? b = w.cell? b := by
  by_cases hb : b.block = a.block
  · unfold World.freeze
    split
    · rfl
    · simp only [World.cell?, Array.getElem?_modify, hb, if_true]
      cases w.heap[a.block]? with
      | none => rfl
      | some o => cases o <;> rfl
  · exact World.cell?_of_block (w := w) (freeze_block w a k _ hb)
theorem gMark_sound {P : Program} {N : Nat} {φ : Fm} {h : GH} {w : World} (s : Sim N φ h w) {t d : TypeId} {x x' : Value} (hx : VR φ x x') {K : Value → GH → Prop} (g : gMark P t d h x K) : Yes P N φ w (convert t d x') K := by
  obtain ⟨rfl, e, a, n, c, B, rfl, hn, ht, he, hB, hw, k⟩ := g
  cases hx with
  | slice ha hc hl =>
  rename_i a' c'
  have ha' : AR φ a a' := by
    rcases ha with ha | h0
    · exact ha
    · omega
  obtain ⟨q1, q2, f, q3, q4, q5⟩ := ha'
  obtain ⟨f', r1, r2⟩ := s.dom _ _ hB
  rw [q3] at r1; cases r1
  have hN := r2.nz (.inl hw)
  have hrun : ∃ w', (convert t t (.slice (some a') n c')).run P w = .ok (.slice (some a') n c') w' ∧ w'.heap.size = w.heap.size ∧ (∀ j, j ≠ f.b → w'.heap[j]? = w.heap[j]?) ∧ (∀ b : Addr, w'.cell? b = w.cell? b) ∧ w'.os = w.os ∧ w'.tape = w.tape ∧ w'.output = w.output := by
    cases hsh : w.shape? a'.block with
    | none => exact ⟨w, by simp [convert, run_underlying ht, run_underlying he, markStringish, hsh], rfl, fun _ _ => rfl, fun _ => rfl, rfl, rfl, rfl⟩
    | some p =>
      obtain ⟨el, m⟩ := p
      refine ⟨w.freeze ⟨a'.block, m, none⟩ 1, by simp [convert, run_underlying ht, run_underlying he, markStringish, hsh], freeze_size _ _ _, fun j hj => freeze_block _ _ _ _ (by show j ≠ a'.block; rw [q4]; exact hj), fun b => freeze_cell _ _ _ b, ?_, ?_, ?_⟩ <;> (unfold World.freeze; split <;> rfl)
  obtain ⟨w', e1, e2, e3, e4, e5, e6, e7⟩ := hrun
  exact ⟨_, w', φ, _, _, e1, Ext.refl _, s.mark hB q3 hw e2 e3 (fun b _ => e4 b), .slice (.inl ⟨q1, q2, f, q3, q4, q5⟩) hc hl,
    ⟨e5, e6, e7, by omega, fun j hj => e3 j (by omega)⟩, k⟩

def gConvK (P : Program) (t d : TypeId) (h : GH) (x : Value) (K : Value → GH → Prop) : Prop := if t = d then gMark P t d h x K else optK (gConvO P t d h x) h K

def gop (P : Program) (N : Nat) (e : Env) (h : GH) (K : Value → GH → Prop) : Op → Prop
  | .move x => K (ev e x) h
  | .assign x => K (ev e x) h
  | .pick c a b => optK (gPick (ev e c) (ev e a) (ev e b)) h K
  | .alloc t => gAllocO (gzero P t) h K
  | .box _ x => gBoxP h (vcells (ev e x)) K
  | .build t ps => optK (gBuild P t (ps.toList.map fun p => (p.1, ev e p.2))) h K
  | .buildSlice t n ps => gBuildSlice P t h n (ps.toList.map fun p => (p.1, ev e p.2)) K
  | .load t a => optK (gLoad P t h (ev e a)) h K
  | .store t a x => optH (gStore P t h (ev e a) (ev e x)) K
  | .nilCheck x => optK (gNil P (ev e x)) h K
  | .binOp op t x y _ => gBin P op t (isC x || isC y) (ev e x) (ev e y) h K
  | .unOp op _ x => optK (gUn op (ev e x)) h K
  | .convert s d x => gConvK P s d h (ev e x) K
  | .makeInterface t x => optK (gIfc P t (ev e x)) h K
  | .makeFunc fn f c => K (.func fn (f.map (ev e)) (c.map (ev e))) h
  | .makeSlice t l c => gMakeV P t h (ev e l) (ev e c) K
  | .slice t x lo hi mx => optK (gSlice P t h (ev e x) (lo.map (ev e)) (hi.map (ev e)) (mx.map (ev e))) h K
  | .fieldAddr t x f => optK (gField P t (ev e x) f) h K
  | .field t x f => optK (gFieldV P t (ev e x) f) h K
  | .indexAddr t x i => optK (gIndexO P t (ev e x) (ev e i)) h K
  | .index t x i => optK (gIndexVO P t (ev e x) (ev e i)) h K
  | .extract x i => optK (gExtract (ev e x) i) h K
  | .call c => match c.callee with
    | .value f => gCallV P N (ev e f) (c.args.toList.map (ev e)) h K
    | .builtin b => gBlt P b c.argTypes.toList (c.args.toList.map (ev e)) h K
    | .invoke x n => gInvoke P N (ev e x) n (c.args.toList.map (ev e)) h K
  | _ => False

theorem wp_value {P : Program} {o : Oper} {a : Act} {w w' : World} {next : Act → World → Prop} {Q : Exit → Act → World → Prop} {v' : Value} (hr : (execOp a.eval o).run P w = .ok (.value v') w') (hn : next (a.put o.dst v') w') : o.wp P a w next Q := by
  unfold Oper.wp; rw [hr]; exact hn

theorem VRs.evs {P : Program} {N : Nat} {φ : Fm} {h : GH} {w : World} (s : Sim N φ h w) (hG : P.globals.size ≤ N) {nt : Nat} {e : Env} {a : Act} (r : Rel φ nt e a.tmps) : ∀ (l : List Operand), (∀ x ∈ l, opdOk P.globals.size x = true) → VRs φ (l.map (ev e)) (l.map a.eval)
  | [], _ => .nil
  | x :: l, hl => .cons (r.ev s hG (hl x (by simp))) (VRs.evs s hG r l fun y hy => hl y (by simp [hy]))
theorem VRq.evs {P : Program} {N : Nat} {φ : Fm} {h : GH} {w : World} (s : Sim N φ h w) (hG : P.globals.size ≤ N) {nt : Nat} {e : Env} {a : Act} (r : Rel φ nt e a.tmps) : ∀ (l : List (Nat × Operand)), (∀ x ∈ l, opdOk P.globals.size x.2 = true) → VRq φ (l.map fun p => (p.1, ev e p.2)) (l.map fun p => (p.1, a.eval p.2))
  | [], _ => .nil
  | x :: l, hl => .cons (r.ev s hG (hl x (by simp))) (VRq.evs s hG r l fun y hy => hl y (by simp [hy]))
theorem vro_evs {P : Program} {N : Nat} {φ : Fm} {h : GH} {w : World} (s : Sim N φ h w) (hG : P.globals.size ≤ N) {nt : Nat} {e : Env} {a : Act} (r : Rel φ nt e a.tmps) : ∀ (x : Option Operand), (∀ y, x = some y → opdOk P.globals.size y = true) → VRo φ (x.map (ev e)) (x.map a.eval)
  | none, _ => .none
  | some x, hl => .some (r.ev s hG (hl x rfl))

theorem gBlt_sound {P : Program} {N : Nat} {φ : Fm} {h : GH} {w : World} (s : Sim N φ h w) {b : Builtin} {ats : Array TypeId} {args : List Value} {args' : Array Value} (hv : VRs φ args args'.toList) {K : Value → GH → Prop} (g : gBlt P b ats.toList args h K) (ty : TypeId) (cs : Array Bool) :
    ∃ v v' φ' h' w', (builtin b ats ty cs args').run P w = .ok (.value v') w' ∧ Ext φ φ' ∧ Sim N φ' h' w' ∧ VR φ' v v' ∧ Below N w w' ∧ K v h' := by
  obtain ⟨ats⟩ := ats
  obtain ⟨args'⟩ := args'
  simp only at hv g
  unfold gBlt at g
  split at g
  · obtain ⟨v, e0, k⟩ := g
    simp only [Option.map_eq_some_iff] at e0
    obtain ⟨n, e1, rfl⟩ := e0
    cases hv with
    | cons hx hv =>
    cases hv
    exact ⟨_, _, φ, h, w, by simp [builtin, gLen_sound (P := P) hx e1], Ext.refl _, s, .int _ _, Below.refl _ _, k⟩
  · obtain ⟨v, e0, k⟩ := g
    simp only [Option.map_eq_some_iff] at e0
    obtain ⟨n, e1, rfl⟩ := e0
    cases hv with
    | cons hx hv =>
    cases hv
    exact ⟨_, _, φ, h, w, by simp [builtin, gCap_sound (P := P) hx e1], Ext.refl _, s, .int _ _, Below.refl _ _, k⟩
  · obtain ⟨v, e0, k⟩ := g
    unfold gMinV at e0
    split at e0
    case isFalse => cases e0
    rename_i hi
    have e1 := e0
    cases hv with
    | cons hx hv =>
    rename_i x' l'
    obtain ⟨h1, k2, a2, rfl⟩ := gMin_sound (P := P) w hx hv e1 (by rename_i x r; cases x <;> simp [isInt] at hi ⊢)
    exact ⟨_, _, φ, h, w, by simp [builtin, Builtin.min_, h1], Ext.refl _, s, .int _ _, Below.refl _ _, k⟩
  · obtain ⟨v, e0, k⟩ := g
    unfold gMaxV at e0
    split at e0
    case isFalse => cases e0
    rename_i hi
    have e1 := e0
    cases hv with
    | cons hx hv =>
    rename_i x' l'
    obtain ⟨h1, k2, a2, rfl⟩ := gMax_sound (P := P) w hx hv e1 (by rename_i x r; cases x <;> simp [isInt] at hi ⊢)
    exact ⟨_, _, φ, h, w, by simp [builtin, Builtin.max_, h1], Ext.refl _, s, .int _ _, Below.refl _ _, k⟩
  · cases hv with
    | cons hx hv =>
    cases hv with
    | cons hy hv =>
    cases hv
    rcases g with ⟨du, e, es, by_, z, m, xs, hu, hni, hel, hsrc, ga⟩ | g
    case inr =>
      obtain ⟨v', w', φ', v, h', r1, r2, r3, r4, r5, r6⟩ := gAppendZ_sound (P := P) s (ty := ty) hx hy g
      exact ⟨v, v', φ', h', w', by simp [builtin, r1], r2, r3, r4, r5, r6⟩
    obtain ⟨v', w', φ', v, h', r1, r2, r3, r4, r5, r6⟩ := gAppend_sound (P := P) s (ty := ty) hu (fun k hk => by subst hk; cases hni) hx hy hsrc (fun e2 es2 b2 z2 h2 => by rw [hel] at h2; cases h2; rfl) ga
    exact ⟨v, v', φ', h', w', by simp [builtin, r1], r2, r3, r4, r5, r6⟩
  · rename_i t u d x
    obtain ⟨n, h2, e1, k⟩ := g
    cases hv with
    | cons hx hv =>
    cases hv with
    | cons hy hv =>
    cases hv
    obtain ⟨w', r1, r2, r3⟩ := gCopy_sound (P := P) s (u := u) (ty := ty) hx hy e1
    exact ⟨_, _, φ, h2, w', by simp [builtin, r1, goInt], Ext.refl _, r2, .int _ _, r3, k⟩
  · exact g.elim

theorem callFunc_enter {P : Program} {g : FuncId} (q1 : gfn P g = true) (A : Array Value) (w : World) : (callFunc g A).run P w = .ok (.enter g A) w := by
  unfold gfn at q1
  split at q1
  case h_2 => cases q1
  rename_i fn hfn
  simp only [Bool.and_eq_true, Bool.not_eq_true', beq_eq_false_iff_ne, ne_eq] at q1
  obtain ⟨c, hc⟩ := Option.isSome_iff_exists.1 q1.1
  simp [callFunc, hfn, q1.2, hc]

theorem gop_sound {P : Program} {N : Nat} (hG : P.globals.size ≤ N) {φ : Fm} {h : GH} {w : World} (s : Sim N φ h w) {nt : Nat} {e : Env} {a : Act} (r : Rel φ nt e a.tmps) {o : Oper}
    (hok : ∀ x ∈ o.op.operands, opdOk P.globals.size x = true) {K : Value → GH → Prop} (g : gop P N e h K o.op) {next : Act → World → Prop} {Q : Exit → Act → World → Prop}
    (hn : ∀ v v' φ' h' w', Ext φ φ' → Sim N φ' h' w' → VR φ' v v' → Below N w w' → K v h' → next (a.put o.dst v') w') : o.wp P a w next Q := by
  obtain ⟨dst, op, type, pos, after, guard⟩ := o
  have same : ∀ v v', VR φ v v' → K v h → next (a.put dst v') w := fun v v' hv k => hn v v' φ h w (Ext.refl _) s hv (Below.refl _ _) k
  cases op <;> simp only [gop] at g <;> simp only [Op.operands] at hok
  case move x => exact wp_value (by simp [execOp]) (same _ _ (r.ev s hG (hok x (by simp))) g)
  case assign x => exact wp_value (by simp [execOp]) (same _ _ (r.ev s hG (hok x (by simp))) g)
  case pick c x y =>
    obtain ⟨v0, e0, k⟩ := g
    unfold gPick at e0
    split at e0
    case h_2 => cases e0
    rename_i t e1
    cases e0
    have hc := r.ev s hG (hok c (by simp))
    rw [e1] at hc
    have hx := r.ev s hG (hok x (by simp))
    have hy := r.ev s hG (hok y (by simp))
    have hcv : a.eval c = .bool t := by generalize a.eval c = z at hc; cases hc; rfl
    cases t
    · exact wp_value (v' := a.eval y) (by simp [execOp, hcv, asBool]) (same _ _ (by simpa using hy) k)
    · exact wp_value (v' := a.eval x) (by simp [execOp, hcv, asBool]) (same _ _ (by simpa using hx) k)
  case alloc t =>
    obtain ⟨z, e1, k⟩ := g
    unfold gzero at e1
    split at e1
    case h_2 => cases e1
    rename_i i hi
    split at e1
    case h_2 => cases e1
    rename_i z' hz
    split at e1
    case isFalse => cases e1
    rename_i hclo
    cases e1
    rw [← vcells_eq] at k
    obtain ⟨v', w', φ', v, h', r1, r2, r3, r4, r5, r6⟩ := gAlloc_sound (P := P) (K := K) s t hi hz (clo_refl hclo) (cloCells_isCell (clo_cells hclo)) k (.tuple #[])
    exact wp_value (by simp [execOp, r1]) (hn _ _ _ _ _ r2 r3 r4 r5 r6)
  case box t x =>
    obtain ⟨hc, k⟩ := g
    rw [← vcells_eq] at hc k
    obtain ⟨v', w', φ', v, h', r1, r2, r3, r4, r5, r6⟩ := gBox_sound (P := P) (K := K) s (r.ev s hG (hok x (by simp))) hc t k
    exact wp_value (by simp [execOp, r1]) (hn _ _ _ _ _ r2 r3 r4 r5 r6)
  case build t ps =>
    obtain ⟨v, e1, k⟩ := g
    have hq : VRq φ (ps.toList.map fun p => (p.1, ev e p.2)) (ps.map fun p => (p.1, a.eval p.2)).toList := by
      rw [Array.toList_map]
      exact VRq.evs s hG r _ fun x hx => hok x.2 (by simp; exact ⟨x.1, by simpa using hx⟩)
    obtain ⟨v', r1, r2⟩ := gBuild_sound (P := P) hq e1 w
    exact wp_value (by simp [execOp, r1]) (same _ _ r2 k)
  case buildSlice t n ps =>
    have hq : VRq φ (ps.toList.map fun p => (p.1, ev e p.2)) (ps.map fun p => (p.1, a.eval p.2)).toList := by
      rw [Array.toList_map]
      exact VRq.evs s hG r _ fun x hx => hok x.2 (by simp; exact ⟨x.1, by simpa using hx⟩)
    obtain ⟨v', w', φ', v, h', r1, r2, r3, r4, r5, r6⟩ := gBuildSlice_sound (P := P) s hq g
    exact wp_value (by simp [execOp, r1]) (hn _ _ _ _ _ r2 r3 r4 r5 r6)
  case load t x =>
    obtain ⟨v, e1, k⟩ := g
    obtain ⟨v', r1, r2⟩ := gLoad_sound (P := P) s (r.ev s hG (hok x (by simp))) e1
    exact wp_value (by simp [execOp, r1]) (same _ _ r2 k)
  case store t x y =>
    obtain ⟨h2, e1, k⟩ := g
    obtain ⟨w', r1, r2, r3⟩ := gStore_sound (P := P) s (r.ev s hG (hok x (by simp))) (r.ev s hG (hok y (by simp))) e1
    have : (execOp a.eval { dst, op := .store t x y, type, pos, after, guard }).run P w = .ok .skip w' := by simp [execOp, r1]
    unfold Oper.wp
    rw [this]
    exact hn U undef φ h2 w' (Ext.refl _) r2 (VR.u _ _) r3 k
  case nilCheck x =>
    have hx := r.ev s hG (hok x (by simp))
    obtain ⟨v0, e0, g⟩ := g
    unfold gNil at e0
    split at e0
    · rename_i ad hx'
      cases e0
      rw [hx'] at hx
      generalize hz : a.eval x = z at hx
      cases hx with
      | ptr ha => exact wp_value (by simp [execOp, hz]) (same _ _ (.ptr ha) g)
    · rename_i f fa fb hx'
      cases e0
      rw [hx'] at hx
      generalize hz : a.eval x = z at hx
      cases hx with
      | func h1 h2 => exact wp_value (by simp [execOp, hz]) (same _ _ (.func h1 h2) g)
    · rename_i n fa fb hx'
      unfold gNilM at e0
      split at e0
      case h_2 => cases e0
      rename_i t v rr ha
      split at e0
      case h_2 => cases e0
      rename_i f hf
      cases e0
      rw [hx'] at hx
      generalize hz : a.eval x = z at hx
      cases hx with
      | func h1 h2 =>
      rename_i fa' fb'
      rw [ha] at h1
      obtain ⟨fa'⟩ := fa'
      simp only at h1
      cases h1 with
      | cons h3 h4 =>
      cases h3 with
      | iface h5 =>
      rename_i l' v'
      refine wp_value (v' := .func (.method n) (.iface t v' :: l').toArray fb') ?_ (same _ _ (.func (.cons (.iface h5) h4) (by simpa using h2)) g)
      simp [execOp, hz, (gMeth_sound hf v' w).2]
    · rename_i t v hx'
      cases e0
      rw [hx'] at hx
      generalize hz : a.eval x = z at hx
      cases hx with
      | iface h1 => exact wp_value (by simp [execOp, hz]) (same _ _ (.iface h1) g)
    · cases e0
  case binOp op t x y ty =>
    have hx := r.ev s hG (hok x (by simp))
    have hy := r.ev s hG (hok y (by simp))
    obtain ⟨v, r1, k, r2⟩ := gBin_sound (P := P) (op := op) (t := t) hx hy g w
    refine wp_value (v' := v) ?_ (same _ _ (r2 φ) k)
    simp only [Sem.run_bind] at r1
    simp only [execOp, Sem.run_bind, r1, Result.andThen_ok, Sem.run_pure]
  case unOp op t x =>
    obtain ⟨v, e1, k⟩ := g
    obtain ⟨r1, r2⟩ := gUn_sound (P := P) (r.ev s hG (hok x (by simp))) e1 w
    exact wp_value (by simp [execOp, r1]) (same _ _ (r2 φ) k)
  case convert sr d x =>
    unfold gConvK at g
    split at g
    · obtain ⟨v', w', φ', v, h', r1, r2, r3, r4, r5, r6⟩ := gMark_sound (P := P) s (r.ev s hG (hok x (by simp))) g
      exact wp_value (by simp [execOp, r1]) (hn v v' φ' h' w' r2 r3 r4 r5 r6)
    obtain ⟨v, e0, k⟩ := g
    unfold gConvO at e0
    split at e0
    case isFalse => cases e0
    rename_i hs
    have e1 := e0
    obtain ⟨r1, r2⟩ := gConv_sound (P := P) s (r.ev s hG (hok x (by simp))) hs e1
    exact wp_value (by simp [execOp, r1]) (same _ _ (r2 φ) k)
  case makeInterface t x =>
    obtain ⟨v0, e0, k⟩ := g
    unfold gIfc at e0
    split at e0
    case isFalse => cases e0
    rename_i h1
    cases e0
    refine wp_value (v' := .iface t (a.eval x)) ?_ (same _ _ (.iface (r.ev s hG (hok x (by simp)))) k)
    unfold notIface at h1
    cases hu : P.underlying t with
    | none => simp [hu] at h1
    | some d => cases d <;> simp_all [execOp, Instr.makeInterface, run_underlying hu]
  case makeFunc fn f c =>
    refine wp_value (v' := .func fn (f.map a.eval) (c.map a.eval)) (by simp [execOp, Instr.makeFunc]) (same _ _ (.func ?_ ?_) g)
    · simp only [Array.toList_map]
      exact VRs.evs s hG r _ fun x hx => hok x (by simp; exact .inl (by simpa using hx))
    · simp only [Array.toList_map]
      exact VRs.evs s hG r _ fun x hx => hok x (by simp; exact .inr (by simpa using hx))
  case makeSlice t l c =>
    unfold gMakeV at g
    split at g
    case h_2 => exact g.elim
    rename_i kl l' kc c' e1 e2
    have gm := g
    have hl := r.ev s hG (hok l (by simp))
    have hc := r.ev s hG (hok c (by simp))
    rw [e1] at hl; rw [e2] at hc
    generalize hz : a.eval l = z at hl
    generalize hz2 : a.eval c = z2 at hc
    cases hl; cases hc
    obtain ⟨v', w', φ', v, h', r1, r2, r3, r4, r5, r6⟩ := gMake_sound (P := P) s (kl := kl) (kc := kc) gm
    exact wp_value (by simp [execOp, hz, hz2, r1]) (hn _ _ _ _ _ r2 r3 r4 r5 r6)
  case slice t x lo hi mx =>
    obtain ⟨v, e1, k⟩ := g
    obtain ⟨v', r1, r2⟩ := gSlice_sound (P := P) s (r.ev s hG (hok x (by simp)))
      (vro_evs s hG r lo fun y hy => hok y (by subst hy; simp)) (vro_evs s hG r hi fun y hy => hok y (by subst hy; simp)) (vro_evs s hG r mx fun y hy => hok y (by subst hy; simp)) e1
    exact wp_value (by simp [execOp, r1]) (same _ _ r2 k)
  case fieldAddr t x f =>
    obtain ⟨v, e1, k⟩ := g
    obtain ⟨v', r1, r2⟩ := gField_sound (P := P) s (r.ev s hG (hok x (by simp))) f e1
    exact wp_value (by simp [execOp, r1]) (same _ _ r2 k)
  case field t x f =>
    obtain ⟨v, e1, k⟩ := g
    obtain ⟨v', r1, r2⟩ := gFieldV_sound (P := P) (r.ev s hG (hok x (by simp))) e1 w
    exact wp_value (by simp [execOp, r1]) (same _ _ r2 k)
  case indexAddr t x i =>
    obtain ⟨v, e1, k⟩ := g
    unfold gIndexO at e1
    split at e1
    case h_2 => cases e1
    rename_i ki n e0
    have hi := r.ev s hG (hok i (by simp))
    rw [e0] at hi
    generalize hz : a.eval i = z at hi
    cases hi
    obtain ⟨v', r1, r2⟩ := gIndex_sound (P := P) s (r.ev s hG (hok x (by simp))) ki n e1
    exact wp_value (by simp [execOp, hz, r1]) (same _ _ r2 k)
  case index t x i =>
    obtain ⟨v, e1, k⟩ := g
    unfold gIndexVO at e1
    split at e1
    case h_2 => cases e1
    rename_i ki n e0
    have hi := r.ev s hG (hok i (by simp))
    rw [e0] at hi
    generalize hz : a.eval i = z at hi
    cases hi
    obtain ⟨v', r1, r2⟩ := gIndexV_sound (P := P) (r.ev s hG (hok x (by simp))) (k := ki) e1 w
    exact wp_value (by simp [execOp, hz, r1]) (same _ _ r2 k)
  case extract x i =>
    obtain ⟨v, e1, k⟩ := g
    have hx := r.ev s hG (hok x (by simp))
    unfold gExtract at e1
    split at e1
    case h_2 => cases e1
    rename_i vs hvs
    rw [hvs] at hx
    generalize hz : a.eval x = z at hx
    cases hx with
    | tuple ht =>
    obtain ⟨v', p1, p2⟩ := ht.get i v (by simpa using e1)
    simp only [Array.getElem?_toList] at p1
    exact wp_value (by simp [execOp, hz, Instr.extract, p1]) (same _ _ p2 k)
  case call c =>
    obtain ⟨callee, args, ats⟩ := c
    have hargs : VRs φ (args.toList.map (ev e)) (args.map a.eval).toList := by
      rw [Array.toList_map]
      exact VRs.evs s hG r _ fun x hx => hok x (by simp [Call.operands]; exact .inr (by simpa using hx))
    cases callee with
    | value f =>
      simp only at g
      unfold gCallV at g
      split at g
      case h_2 => exact g.elim
      rename_i g0 fa fb e1
      have gt := g
      have hf := r.ev s hG (hok f (by simp [Call.operands]))
      rw [e1] at hf
      generalize hz : a.eval f = z at hf
      cases hf with
      | func h1 h2 =>
      rename_i fa' fb'
      have hall : VRs φ (fa.toList ++ args.toList.map (ev e) ++ fb.toList) (fa' ++ args.map a.eval ++ fb').toList := by
        simp only [Array.toList_append]
        exact (h1.append hargs).append h2
      have hex : ∀ rr, (callFunc g0 (fa' ++ args.map a.eval ++ fb')).run P w = rr → (execOp a.eval { dst, op := .call { callee := .value f, args, argTypes := ats }, type, pos, after, guard }).run P w = rr := by
        intro rr hr
        rw [Array.append_assoc] at hr
        simp [execOp, resolve, Deferred.ofValue, hz, invoke, hr]
      rcases gt hG φ w _ s hall with ⟨q1, q2⟩ | ⟨v, v', φ', h', w', q1, q2, q3, q4, q5, q6⟩
      · have hcf := callFunc_enter q1 (fa' ++ args.map a.eval ++ fb') w
        unfold Oper.wp
        rw [hex _ hcf]
        show Calls P g0 _ w _
        refine q2.mono ?_
        rintro e' w' ⟨v, v', φ', h', rfl, p2, p3, p4, p5, p6⟩
        exact hn v v' φ' h' w' p2 p3 p4 p5 p6
      · exact wp_value (hex _ q1) (hn v v' φ' h' w' q2 q3 q4 q5 q6)
    | builtin b =>
      simp only at g
      obtain ⟨v, v', φ', h', w', q1, q2, q3, q4, q5, q6⟩ := gBlt_sound (P := P) s hargs g type (args.map fun | .const _ => true | _ => false)
      refine wp_value (v' := v') ?_ (hn v v' φ' h' w' q2 q3 q4 q5 q6)
      simp only [execOp, resolve, Sem.run_bind, Sem.run_pure, Result.andThen_ok, invoke]
      exact q1
    | invoke x n =>
      simp only at g
      unfold gInvoke at g
      split at g
      case h_2 => exact g.elim
      rename_i t v e1
      split at g
      case h_2 => exact g.elim
      rename_i g0 hm
      have gt := g
      have hf := r.ev s hG (hok x (by simp [Call.operands]))
      rw [e1] at hf
      generalize hz : a.eval x = z at hf
      cases hf with
      | iface h1 =>
      rename_i v'
      have hall : VRs φ (v :: args.toList.map (ev e)) (#[v'] ++ args.map a.eval).toList := by
        simp only [Array.toList_append, List.cons_append, List.nil_append]
        exact .cons h1 hargs
      have hex : ∀ rr, (callFunc g0 (#[v'] ++ args.map a.eval)).run P w = rr → (execOp a.eval { dst, op := .call { callee := .invoke x n, args, argTypes := ats }, type, pos, after, guard }).run P w = rr := by
        intro rr hr
        have h0 : (#[Value.iface t v'] ++ Array.map a.eval args)[0]? = some (Value.iface t v') := by simp [Array.getElem?_append]
        have h1 : (#[Value.iface t v'] ++ Array.map a.eval args).extract 1 (#[Value.iface t v'] ++ Array.map a.eval args).size = Array.map a.eval args := by apply Array.ext'; simp [List.take_of_length_le]
        simp only [execOp, resolve, hz, invoke, Sem.run_bind, Sem.run_pure, Result.andThen_ok, h0, h1]
        rw [(gMeth_sound hm v' w).1, hr]
      rcases gt hG φ w _ s hall with ⟨q1, q2⟩ | ⟨v, v', φ', h', w', q1, q2, q3, q4, q5, q6⟩
      · have hcf := callFunc_enter q1 (#[v'] ++ args.map a.eval) w
        unfold Oper.wp
        rw [hex _ hcf]
        show Calls P g0 _ w _
        refine q2.mono ?_
        rintro e' w' ⟨v, v', φ', h', rfl, p2, p3, p4, p5, p6⟩
        exact hn v v' φ' h' w' p2 p3 p4 p5 p6
      · exact wp_value (hex _ q1) (hn v v' φ' h' w' q2 q3 q4 q5 q6)
  all_goals exact g.elim

end Go.Gh

/- A framework of this claim's proof, part 11. The triple of a piece of code. No statement of the claim stands here. -/
namespace Go.Gh
open Go Go.RowKit
set_option linter.unusedVariables false
set_option linter.unusedSimpArgs false

/-! ## Code -/

inductive GX | normal | exit (id : Nat) | ret
def GX.to : GX → Exit | .normal => .normal | .exit i => .exit i | .ret => .ret

abbrev GQ := GX → Env → GH → Prop

/-- What is told of the end of a piece of code, of concrete memory. -/
def Lift (N nt : Nat) (φ : Fm) (w : World) (Q : GQ) : Exit → Act → World → Prop := fun x a' w' =>
  ∃ gx e h φ', x = GX.to gx ∧ a'.defers = [] ∧ Ext φ φ' ∧ Sim N φ' h w' ∧ Rel φ' nt e a'.tmps ∧ Below N w w' ∧ Q gx e h

theorem Lift.step {N nt : Nat} {φ φ' : Fm} {w w' : World} {Q : GQ} (hE : Ext φ φ') (hB : Below N w w') {x : Exit} {a : Act} {w2 : World} (h : Lift N nt φ' w' Q x a w2) : Lift N nt φ w Q x a w2 := by
  obtain ⟨gx, e, h0, φ2, h1, h2, h3, h4, h5, h6, h7⟩ := h
  exact ⟨gx, e, h0, φ2, h1, h2, hE.trans h3, h4, h5, hB.trans h6, h7⟩

def operOk (P : Program) (nt : Nat) (o : Oper) : Bool := dstOk nt o.dst && o.op.operands.all (opdOk P.globals.size)

def codeOk (P : Program) (nt : Nat) : Code → Bool
  | .skip | .exit _ | .ret => true
  | .region _ ops _ => ops.all (operOk P nt)
  | .seq a b => codeOk P nt a && codeOk P nt b
  | .cond c a b => opdOk P.globals.size c && codeOk P nt a && codeOk P nt b
  | .block _ c => codeOk P nt c
  | .loop c => codeOk P nt c
  | _ => false

/-- THE TRIPLE OF A PIECE OF CODE. -/
def GW (P : Program) (N nt : Nat) (c : Code) (Q : GQ) (e : Env) (h : GH) : Prop :=
  codeOk P nt c = true → P.globals.size ≤ N → ∀ φ w (a : Act), Sim N φ h w → Rel φ nt e a.tmps → a.defers = [] → c.wp P (Lift N nt φ w Q) a w

def Sub (e' e : Env) : Prop := ∀ i, lk e' i = U ∨ lk e' i = lk e i
theorem Rel.sub {φ : Fm} {nt : Nat} {e e' : Env} {t : Array Value} (r : Rel φ nt e t) (h : Sub e' e) : Rel φ nt e' t := ⟨r.size, fun i => by
  rcases h i with h | h
  · rw [h]; exact VR.u _ _
  · rw [h]; exact r.get i⟩

section
variable {P : Program} {N nt : Nat} {Q : GQ} {e : Env} {h : GH}

theorem GW.mono {c : Code} {Q' : GQ} (g : GW P N nt c Q e h) (hq : ∀ x e h, Q x e h → Q' x e h) : GW P N nt c Q' e h :=
  fun ok hG φ w a s r hd => wp_mono (g ok hG φ w a s r hd) fun x a w' ⟨gx, e, h0, φ2, h1, h2, h3, h4, h5, h6, h7⟩ => ⟨gx, e, h0, φ2, h1, h2, h3, h4, h5, h6, hq _ _ _ h7⟩

theorem gw_weak {c : Code} {e' : Env} (hs : Sub e' e) (g : GW P N nt c Q e' h) : GW P N nt c Q e h :=
  fun ok hG φ w a s r hd => g ok hG φ w a s (r.sub hs) hd

theorem gw_skip (k : Q .normal e h) : GW P N nt .skip Q e h :=
  fun _ _ φ w a s r hd => wp_skip ⟨.normal, e, h, φ, rfl, hd, Ext.refl _, s, r, Below.refl _ _, k⟩
theorem gw_ret (k : Q .ret e h) : GW P N nt .ret Q e h :=
  fun _ _ φ w a s r hd => wp_ret ⟨.ret, e, h, φ, rfl, hd, Ext.refl _, s, r, Below.refl _ _, k⟩
theorem gw_exit {id : Nat} (k : Q (.exit id) e h) : GW P N nt (.exit id) Q e h :=
  fun _ _ φ w a s r hd => wp_exit ⟨.exit id, e, h, φ, rfl, hd, Ext.refl _, s, r, Below.refl _ _, k⟩

def thenQ (next : Env → GH → Prop) (Q : GQ) : GQ
  | .normal, e, h => next e h
  | x, e, h => Q x e h
theorem thenQ_n (next : Env → GH → Prop) (Q : GQ) (e : Env) (h : GH) : thenQ next Q .normal e h = next e h := rfl
theorem thenQ_x (next : Env → GH → Prop) (Q : GQ) (i : Nat) (e : Env) (h : GH) : thenQ next Q (.exit i) e h = Q (.exit i) e h := rfl
theorem thenQ_r (next : Env → GH → Prop) (Q : GQ) (e : Env) (h : GH) : thenQ next Q .ret e h = Q .ret e h := rfl

theorem Lift.at {φ : Fm} {w : World} {x : Exit} {a : Act} {w' : World} (l : Lift N nt φ w Q x a w') :
    (x = .normal ∧ ∃ e h φ', a.defers = [] ∧ Ext φ φ' ∧ Sim N φ' h w' ∧ Rel φ' nt e a.tmps ∧ Below N w w' ∧ Q .normal e h) ∨ (x ≠ .normal ∧ ∃ gx e h φ', gx ≠ .normal ∧ x = GX.to gx ∧ a.defers = [] ∧ Ext φ φ' ∧ Sim N φ' h w' ∧ Rel φ' nt e a.tmps ∧ Below N w w' ∧ Q gx e h) := by
  obtain ⟨gx, e, h0, φ2, h1, h2, h3, h4, h5, h6, h7⟩ := l
  cases gx with
  | normal => exact .inl ⟨h1, e, h0, φ2, h2, h3, h4, h5, h6, h7⟩
  | exit i => exact .inr ⟨by rw [h1]; simp [GX.to], _, e, h0, φ2, by simp, h1, h2, h3, h4, h5, h6, h7⟩
  | ret => exact .inr ⟨by rw [h1]; simp [GX.to], _, e, h0, φ2, by simp, h1, h2, h3, h4, h5, h6, h7⟩

theorem gw_seq {x y : Code} (g : GW P N nt x (thenQ (GW P N nt y Q) Q) e h) : GW P N nt (.seq x y) Q e h := by
  intro ok hG φ w a s r hd
  simp only [codeOk, Bool.and_eq_true] at ok
  refine wp_seq (wp_mono (g ok.1 hG φ w a s r hd) fun x a' w' l => ?_)
  rcases l.at with ⟨rfl, e', h', φ', h2, h3, h4, h5, h6, h7⟩ | ⟨hne, gx, e', h', φ', hgx, hx, h2, h3, h4, h5, h6, h7⟩
  · exact wp_mono (h7 ok.2 hG φ' w' a' h4 h5 h2) fun _ _ _ l2 => l2.step h3 h6
  · have hl : Lift N nt φ w Q x a' w' := ⟨gx, e', h', φ', hx, h2, h3, h4, h5, h6, by cases gx <;> first | exact absurd rfl hgx | exact h7⟩
    cases x <;> first | exact absurd rfl hne | exact hl

theorem gw_cond {c : Operand} {x y : Code} {t : Bool} (hc : ev e c = .bool t) (ht : t = true → GW P N nt x Q e h) (hf : t = false → GW P N nt y Q e h) : GW P N nt (.cond c x y) Q e h := by
  intro ok hG φ w a s r hd
  simp only [codeOk, Bool.and_eq_true] at ok
  have hv := r.ev s hG ok.1.1
  rw [hc] at hv
  have hcv : a.eval c = .bool t := by generalize a.eval c = z at hv; cases hv; rfl
  refine wp_cond_split hcv (fun h1 => ?_) (fun h1 => ?_)
  · exact ht h1 ok.1.2 hG φ w a s r hd
  · exact hf h1 ok.2 hG φ w a s r hd

def blockQ (id : Nat) (Q : GQ) : GQ
  | .exit id', e, h => if id' = id then Q .normal e h else Q (.exit id') e h
  | x, e, h => Q x e h

theorem blockQ_n (id : Nat) (Q : GQ) (e : Env) (h : GH) : blockQ id Q .normal e h = Q .normal e h := rfl
theorem blockQ_r (id : Nat) (Q : GQ) (e : Env) (h : GH) : blockQ id Q .ret e h = Q .ret e h := rfl
theorem blockQ_x (id i : Nat) (Q : GQ) (e : Env) (h : GH) : blockQ id Q (.exit i) e h = if i = id then Q .normal e h else Q (.exit i) e h := rfl

theorem gw_block {id : Nat} {c : Code} (g : GW P N nt c (blockQ id Q) e h) : GW P N nt (.block id c) Q e h := by
  intro ok hG φ w a s r hd
  refine wp_block (wp_mono (g ok hG φ w a s r hd) fun x a' w' l => ?_)
  obtain ⟨gx, e', h', φ', rfl, h2, h3, h4, h5, h6, h7⟩ := l
  cases gx with
  | normal => exact ⟨.normal, e', h', φ', rfl, h2, h3, h4, h5, h6, h7⟩
  | ret => exact ⟨.ret, e', h', φ', rfl, h2, h3, h4, h5, h6, h7⟩
  | exit id' =>
    simp only [GX.to, Exit.inBlock, blockQ] at h7 ⊢
    split
    · rename_i hid; rw [if_pos hid] at h7; exact ⟨.normal, e', h', φ', rfl, h2, h3, h4, h5, h6, h7⟩
    · rename_i hid; rw [if_neg hid] at h7; exact ⟨.exit id', e', h', φ', rfl, h2, h3, h4, h5, h6, h7⟩

theorem wp_loop_n {c : Code} {Q : Exit → Act → World → Prop} (I : Nat → Act → World → Prop) {n0 : Nat} {a : Act} {w : World} (h₀ : I n0 a w)
    (round : ∀ n a w, I n a w → c.wp P (Exit.then (fun a' w' => ∃ m, m < n ∧ I m a' w') Q) a w) : (Code.loop c).wp P Q a w := by
  intro b k cs
  have key : ∀ n a w, I n a w → ∃ e a' w', Q e a' w' ∧ Arrives P (lone (b.at a (.code c :: .inLoop c :: k)) cs w) b k cs e a' w' := by
    intro n
    induction n using Nat.strongRecOn with
    | _ n ih =>
      intro a w hI
      obtain ⟨e, a₁, w₁, hq, harr⟩ := round n a w hI b (.inLoop c :: k) cs
      cases e with
      | normal =>
        obtain ⟨m, hlt, hI₁⟩ := hq
        obtain ⟨e₂, a₂, w₂, hq₂, harr₂⟩ := ih m hlt a₁ w₁ hI₁
        exact ⟨e₂, a₂, w₂, hq₂, .of_steps (Steps.trans harr (.one step_inLoop)) harr₂⟩
      | exit id => exact ⟨_, a₁, w₁, hq, .pass (x := .inLoop c) rfl (fun _ _ => .inl (by simp)) harr⟩
      | goto l => exact ⟨_, a₁, w₁, hq, .pass (x := .inLoop c) rfl (fun _ _ => .inl (by simp)) harr⟩
      | ret => exact ⟨_, a₁, w₁, hq, .pass (x := .inLoop c) rfl (fun _ _ => .inl (by simp)) harr⟩
      | panic ch => exact ⟨_, a₁, w₁, hq, .pass (x := .inLoop c) rfl (fun _ _ => .inl (by simp)) harr⟩
      | outgrown => exact ⟨_, a₁, w₁, hq, .pass (x := .inLoop c) rfl (fun _ _ => .inl (by simp)) harr⟩
  obtain ⟨e, a', w', hq, harr⟩ := key _ a w h₀
  exact ⟨e, a', w', hq, .of_steps (.one step_loop) harr⟩

/-- A loop: what holds at the head of a round with at most n rounds to go. -/
theorem gw_loop {c : Code} (I : Nat → Env → GH → Prop) (n0 : Nat) {e0 : Env} (hs : Sub e0 e) (h0 : I n0 e0 h)
    (round : ∀ n e h, I n e h → GW P N nt c (thenQ (fun e' h' => ∃ m e'', m < n ∧ Sub e'' e' ∧ I m e'' h') Q) e h) : GW P N nt (.loop c) Q e h := by
  intro ok hG φ w a s r hd
  have ok' : codeOk P nt c = true := ok
  refine wp_loop_n (fun n a' w' => ∃ e' h' φ', a'.defers = [] ∧ Ext φ φ' ∧ Sim N φ' h' w' ∧ Rel φ' nt e' a'.tmps ∧ Below N w w' ∧ I n e' h') (n0 := n0)
    ⟨e0, h, φ, hd, Ext.refl _, s, r.sub hs, Below.refl _ _, h0⟩ ?_
  rintro n a' w' ⟨e', h', φ', h2, h3, h4, h5, h6, h7⟩
  refine wp_mono (round n e' h' h7 ok' hG φ' w' a' h4 h5 h2) fun x a2 w2 l => ?_
  rcases l.at with ⟨rfl, e2, g2, φ2, q2, q3, q4, q5, q6, m, e3, hm, hsub, hI⟩ | ⟨hne, gx, e2, g2, φ2, hgx, hx, q2, q3, q4, q5, q6, q7⟩
  · exact ⟨m, hm, e3, g2, φ2, q2, h3.trans q3, q4, q5.sub hsub, h6.trans q6, hI⟩
  · have hl : Lift N nt φ w Q x a2 w2 := ⟨gx, e2, g2, φ2, hx, q2, h3.trans q3, q4, q5, h6.trans q6, by cases gx <;> first | exact absurd rfl hgx | exact q7⟩
    cases x <;> first | exact absurd rfl hne | exact hl

/-! ## Regions in the order of the text -/

/-- What operation j has yielded: by the places that the operations write. -/
def gyield (ds : List (Option Tmp)) (e : Env) (j : Nat) (w : Bool) : Option Bool :=
  match ds[j]? with
  | some (some t) => match lk e t with
    | .bool b => some b
    | .tuple ⟨[]⟩ => some (!w)
    | _ => none
  | _ => none
/-- What is not there: an operation that was not wanted. -/
abbrev UD : Value := .tuple ⟨[]⟩
theorem VR.ud (φ : Fm) : VR φ UD undef := .tuple .nil

def gops (P : Program) (N : Nat) (ds : List (Option Tmp)) (l : List Oper) (K : Env → GH → Prop) (e : Env) (h : GH) : Prop :=
  match l with
  | [] => K e h
  | o :: r => match o.guard with
    | none => gop P N e h (fun v h' => gops P N ds r K (eput e o.dst v) h') o.op
    | some (j, w) => ∃ b, gyield ds e j w = some b ∧ (if b = w then gop P N e h (fun v h' => gops P N ds r K (eput e o.dst v) h') o.op else gops P N ds r K (eput e o.dst UD) h)
/-- What is left of a region, behind an operation's value. -/
def kops0 (P : Program) (N : Nat) (ds : List (Option Tmp)) (r : List Oper) (K : Env → GH → Prop) (e : Env) (d : Option Tmp) (v : Value) (h : GH) : Prop := gops P N ds r K (eput e d v) h
theorem kops_ex : ∃ f : Program → Nat → List (Option Tmp) → List Oper → (Env → GH → Prop) → Env → Option Tmp → Value → GH → Prop, f = kops0 := ⟨_, rfl⟩
/-- The same, that the kernel does not unfold. -/
noncomputable def kops : Program → Nat → List (Option Tmp) → List Oper → (Env → GH → Prop) → Env → Option Tmp → Value → GH → Prop := Classical.choose kops_ex
theorem kops_eq (P : Program) (N : Nat) (ds : List (Option Tmp)) (r : List Oper) (K : Env → GH → Prop) (e : Env) (d : Option Tmp) (v : Value) (h : GH) : kops P N ds r K e d v h = gops P N ds r K (eput e d v) h := by
  have e0 : kops = kops0 := Classical.choose_spec kops_ex
  rw [e0]; rfl
theorem kops_fun (P : Program) (N : Nat) (ds : List (Option Tmp)) (r : List Oper) (K : Env → GH → Prop) (e : Env) (d : Option Tmp) : kops P N ds r K e d = fun v h => gops P N ds r K (eput e d v) h := by
  funext v h; exact kops_eq ..
/-- An operation under a guard. -/
def wantK (y : Option Bool) (w : Bool) (P : Program) (N : Nat) (ds : List (Option Tmp)) (r : List Oper) (K : Env → GH → Prop) (e : Env) (h : GH) (d : Option Tmp) (op : Op) : Prop :=
  ∃ b, y = some b ∧ (if b = w then gop P N e h (kops P N ds r K e d) op else gops P N ds r K (eput e d UD) h)

section
variable (P : Program) (N : Nat) (ds : List (Option Tmp)) (r : List Oper) (K : Env → GH → Prop) (e : Env) (h : GH) (d : Option Tmp) (op : Op) (ty : TypeId) (pos : String) (after : Array Edge)
theorem gops_nil : gops P N ds [] K e h = K e h := by unfold gops; rfl
theorem gops_none : gops P N ds (⟨d, op, ty, pos, after, none⟩ :: r) K e h = gop P N e h (kops P N ds r K e d) op := by
  rw [gops, kops_fun]
theorem gops_some (j : Nat) (w : Bool) : gops P N ds (⟨d, op, ty, pos, after, some (j, w)⟩ :: r) K e h = wantK (gyield ds e j w) w P N ds r K e h d op := by
  rw [gops, wantK, kops_fun]
theorem kops_ap (i : Nat) (v : Value) : kops P N ds r K e (some i) v h = gops P N ds r K ((i, v) :: e) h := kops_eq ..
theorem kops_no (v : Value) : kops P N ds r K e none v h = gops P N ds r K e h := kops_eq ..
theorem want_tt : wantK (some true) true P N ds r K e h d op = gop P N e h (kops P N ds r K e d) op := by simp [wantK]
theorem want_ff : wantK (some false) false P N ds r K e h d op = gop P N e h (kops P N ds r K e d) op := by simp [wantK]
theorem want_tf : wantK (some true) false P N ds r K e h d op = kops P N ds r K e d UD h := by simp [wantK, kops_eq]
theorem want_ft : wantK (some false) true P N ds r K e h d op = kops P N ds r K e d UD h := by simp [wantK, kops_eq]
end

theorem gyield_sound {φ : Fm} {ops : Array Oper} {t : Array Value} (r : Rel φ nt e t) {j : Nat} {w b : Bool} (hy : gyield (ops.toList.map (·.dst)) e j w = some b) : (yielded ops t j == some w) = (b == w) := by
  unfold gyield at hy
  split at hy
  case h_2 => cases hy
  rename_i d hd0
  have hd : (ops[j]?).bind (·.dst) = some d := by
    rw [List.getElem?_map, Array.getElem?_toList] at hd0
    cases ho : ops[j]? with
    | none => simp [ho] at hd0
    | some o => simpa [ho] using hd0
  have hr := r.get d
  unfold yielded
  rw [hd]
  simp only [Option.bind_some]
  split at hy
  · rename_i b' hb
    cases hy
    rw [hb] at hr
    rw [Array.getD_eq_getD_getElem?] at hr
    cases ht : t[d]? with
    | none => rw [ht] at hr; simp only [Option.getD_none, undef] at hr; cases hr
    | some v => rw [ht] at hr; simp only [Option.getD_some] at hr; cases hr; rfl
  · rename_i hb
    cases hy
    rw [hb] at hr
    rw [Array.getD_eq_getD_getElem?] at hr
    cases ht : t[d]? with
    | none => cases w <;> rfl
    | some v =>
      rw [ht] at hr
      simp only [Option.getD_some] at hr
      cases hr
      cases w <;> rfl
  · cases hy

theorem put_defers {a : Act} {d : Option Tmp} {v : Value} : (a.put d v).defers = a.defers := by cases d <;> rfl

theorem gops_sound {ops : Array Oper} {QQ : Exit → Act → World → Prop} (hG : P.globals.size ≤ N) {K : Env → GH → Prop} : ∀ (l : List Oper), l.all (operOk P nt) = true → ∀ (e : Env) (h : GH), gops P N (ops.toList.map (·.dst)) l K e h →
    ∀ φ w (a : Act), Sim N φ h w → Rel φ nt e a.tmps → a.defers = [] →
    (∀ e' h' φ' (a' : Act) w', K e' h' → Ext φ φ' → Sim N φ' h' w' → Rel φ' nt e' a'.tmps → a'.defers = [] → Below N w w' → QQ .normal a' w') → wpList P ops QQ l a w
  | [], _, e, h, g, φ, w, a, s, r, hd, k => k e h φ a w (by rw [gops_nil] at g; exact g) (Ext.refl _) s r hd (Below.refl _ _)
  | o :: l, ok, e, h, g, φ, w, a, s, r, hd, k => by
    simp only [List.all_cons, Bool.and_eq_true, operOk] at ok
    obtain ⟨⟨ok1, ok2⟩, ok3⟩ := ok
    have hops : ∀ x ∈ o.op.operands, opdOk P.globals.size x = true := by
      intro x hx
      exact Array.all_eq_true_iff_forall_mem.1 ok2 x hx
    have yes : gop P N e h (kops P N (ops.toList.map (·.dst)) l K e o.dst) o.op → o.wp P a w (wpList P ops QQ l) QQ := fun gg =>
      gop_sound hG s r hops gg fun v v' φ' h' w' p1 p2 p3 p4 p5 =>
        gops_sound hG l ok3 _ _ ((kops_eq ..).mp p5) φ' w' _ p2 ((r.mono p1).put ok1 p3) (by rw [put_defers]; exact hd) fun e' h2 φ2 a' w2 q1 q2 q3 q4 q5 q6 => k e' h2 φ2 a' w2 q1 (p1.trans q2) q3 q4 q5 (p4.trans q6)
    have no : gops P N (ops.toList.map (·.dst)) l K (eput e o.dst UD) h → wpList P ops QQ l (a.put o.dst undef) w := fun gg =>
      gops_sound hG l ok3 _ _ gg φ w _ s (r.put ok1 (VR.ud _)) (by rw [put_defers]; exact hd) k
    obtain ⟨dst, op, ty, pos, after, guard⟩ := o
    unfold wpList
    cases guard with
    | none =>
      rw [gops_none] at g
      rw [if_pos (by simp [Region.wanted])]
      exact .inl (yes g)
    | some jw =>
      obtain ⟨j, want⟩ := jw
      rw [gops_some] at g
      obtain ⟨b, hy, hb⟩ := g
      have hyy := gyield_sound r hy
      by_cases hbw : b = want
      · rw [if_pos hbw] at hb
        rw [if_pos (by simp only [Region.wanted]; rw [hyy]; simp [hbw])]
        exact .inl (yes hb)
      · rw [if_neg hbw] at hb
        rw [if_neg (by simp only [Region.wanted]; rw [hyy]; simp [hbw])]
        exact no hb

theorem gw_region {id : Nat} {ops : Array Oper} (g : gops P N (ops.toList.map (·.dst)) ops.toList (Q .normal) e h) : GW P N nt (.region id ops false) Q e h := by
  intro ok hG φ w a s r hd
  refine wp_region_list (gops_sound hG ops.toList ?_ e h g φ w a s r hd ?_)
  · simp only [codeOk] at ok
    rw [List.all_eq_true]
    intro o ho
    exact Array.all_eq_true_iff_forall_mem.1 ok o (by simpa using ho)
  · exact fun e' h' φ' a' w' k p1 p2 p3 p4 p5 => ⟨.normal, e', h', φ', rfl, p4, p1, p2, p3, p5, k⟩

/-! ## A function -/

def aenv : Nat → List Value → Env
  | _, [] => []
  | n, v :: r => (n, v) :: aenv (n + 1) r

theorem lk_aenv : ∀ (l : List Value) (n i : Nat), lk (aenv n l) i = if n ≤ i then (l[i - n]?).getD U else U
  | [], n, i => by simp [aenv, lk]
  | v :: r, n, i => by
    simp only [aenv, lk, lk_aenv r]
    by_cases h : n = i
    · subst h; simp
    · rw [if_neg h]
      by_cases h2 : n ≤ i
      · rw [if_pos (by omega), if_pos h2, show i - n = (i - (n + 1)) + 1 by omega]
        simp
      · rw [if_neg (by omega), if_neg h2]

def gress (P : Program) (e : Env) (h : GH) : List ResultVar → Option (List Value)
  | [] => some []
  | .tmp t :: r => (gress P e h r).map (lk e t :: ·)
  | .cell a t :: r => match gLoad P t h (lk e a), gress P e h r with
    | some v, some l => some (v :: l)
    | _, _ => none
def gone : List Value → Value
  | [v] => v
  | l => .tuple l.toArray

/-- What is owed at a function's end. -/
def retQ (P : Program) (res : Array ResultVar) (Q : Value → GH → Prop) : GQ := fun x e h =>
  (x = .normal ∨ x = .ret) ∧ ∃ l, gress P e h res.toList = some l ∧ Q (gone l) h

def oneRes (tmps : Array Value) : ResultVar → Sem Value
  | .tmp t => pure (tmps.getD t undef)
  | .cell a t => do loadVar t (← asAddr (tmps.getD a undef))

theorem gress_sound {φ : Fm} {w : World} (s : Sim N φ h w) {t : Array Value} (r : Rel φ nt e t) : ∀ (l : List ResultVar) (vs : List Value), gress P e h l = some vs → ∃ vs', (l.mapM (oneRes t)).run P w = .ok vs' w ∧ VRs φ vs vs'
  | [], vs, hv => by
    simp only [gress, Option.some.injEq] at hv
    subst hv
    exact ⟨[], by simp, .nil⟩
  | .tmp i :: l, vs, hv => by
    simp only [gress, Option.map_eq_some_iff] at hv
    obtain ⟨vs0, h1, rfl⟩ := hv
    obtain ⟨vs', h2, h3⟩ := gress_sound s r l vs0 h1
    exact ⟨_, by simp only [List.mapM_cons, Sem.run_bind, oneRes, Sem.run_pure, Result.andThen_ok, h2], .cons (r.get i) h3⟩
  | .cell x ty :: l, vs, hv => by
    simp only [gress] at hv
    split at hv
    case h_2 => cases hv
    rename_i v l0 h0 h1
    cases hv
    obtain ⟨vs', h2, h3⟩ := gress_sound s r l l0 h1
    obtain ⟨v', h4, h5⟩ := gLoad_sound (P := P) s (r.get x) h0
    refine ⟨v' :: vs', ?_, .cons h5 h3⟩
    have h6 : (do loadVar ty (← asAddr (t.getD x undef)) : Sem Value).run P w = .ok v' w := by
      have hx := r.get x
      generalize t.getD x undef = z at hx h4
      unfold gLoad at h0
      split at h0
      case h_2 => cases h0
      rename_i ad hx2
      rw [hx2] at hx
      cases hx
      simp only [Instr.loadAt, Instr.sureAddr, Sem.run_bind, Sem.run_pure, Result.andThen_ok] at h4
      simp only [asAddr, Sem.run_bind, Sem.run_pure, Result.andThen_ok, h4]
    simp only [Sem.run_bind] at h6
    simp only [List.mapM_cons, Sem.run_bind, oneRes, h6, Result.andThen_ok, h2, Sem.run_pure]

theorem results_eq (fn : Func) (tmps : Array Value) : results fn tmps = (do
    let vs ← fn.results.mapM (oneRes tmps)
    pure (if h : vs.size = 1 then vs[0] else .tuple vs)) := by
  unfold results
  congr 1

theorem results_sound {φ : Fm} {w : World} (s : Sim N φ h w) {t : Array Value} (r : Rel φ nt e t) {fn : Func} {vs : List Value} (hv : gress P e h fn.results.toList = some vs) :
    ∃ v', (results fn t).run P w = .ok v' w ∧ VR φ (gone vs) v' := by
  obtain ⟨vs', h1, h2⟩ := gress_sound s r _ _ hv
  rw [results_eq]
  have hm : (fn.results.mapM (oneRes t)).run P w = .ok vs'.toArray w := by
    rw [Array.mapM_eq_mapM_toList, Sem.run_map, h1]; rfl
  simp only [Sem.run_bind, hm, Result.andThen_ok, Sem.run_pure]
  refine ⟨_, rfl, ?_⟩
  cases h2 with
  | nil => simp only [gone]; exact .tuple .nil
  | cons h hs =>
    cases hs with
    | nil => simpa [gone] using h
    | cons h2 hs2 =>
      simp only [gone, List.size_toArray, List.length_cons]
      rw [dif_neg (by omega)]
      exact .tuple (.cons h (.cons h2 hs2))

/-- From a function's body to the function. -/
theorem gtri {f : FuncId} {fn : Func} {c : Code} (hf : P.funcs[f]? = some fn) (hb : fn.body = some c) (hgf : gfn P f = true) (hok : codeOk P fn.ntmps c = true) {args : List Value} (hl : args.length ≤ fn.ntmps) {R : Value → GH → Prop}
    (g : GW P N fn.ntmps c (retQ P fn.results R) (aenv 0 args) h) : GTri P N f args h R := by
  intro hG φ w args' s ha
  refine .inl ⟨hgf, calls_of_wp hf hb ?_⟩
  have hlen := ha.length
  have hsz : args'.size = args.length := by simpa using hlen.symm
  refine wp_mono (g hok hG φ w _ s ⟨by simp [hsz]; omega, fun i => ?_⟩ rfl) fun x a' w' l => ?_
  · rw [lk_aenv]
    simp only [Nat.zero_le, if_true, Nat.sub_zero]
    cases hi : args[i]? with
    | none => exact VR.u _ _
    | some v =>
      obtain ⟨v', h1, h2⟩ := ha.get i v hi
      simp only [Option.getD_some]
      have hlt : i < args'.size := by rw [hsz]; exact (List.getElem?_eq_some_iff.1 hi).1
      have : (args' ++ Array.replicate (fn.ntmps - args'.size) undef).getD i undef = v' := by
        rw [Array.getD_eq_getD_getElem?, Array.getElem?_append_left hlt]
        simp only [Array.getElem?_toList] at h1
        rw [h1]; rfl
      rw [this]; exact h2
  · obtain ⟨gx, e', h', φ', hx, h2, h3, h4, h5, h6, h7, vs, h8, h9⟩ := l
    obtain ⟨v', r1, r2⟩ := results_sound (P := P) h4 h5 h8
    rcases h7 with rfl | rfl
    · subst hx
      exact ⟨h2, v', r1, _, v', φ', h', rfl, h3, h4, r2, h6, h9⟩
    · subst hx
      exact ⟨h2, v', r1, _, v', φ', h', rfl, h3, h4, r2, h6, h9⟩

end
end Go.Gh

/- A framework of this claim's proof, part 12. Results, bytes, and what is kept. No statement of the claim stands here. -/
namespace Go.Gh
open Go Go.RowKit
set_option linter.unusedVariables false
set_option linter.unusedSimpArgs false

/-! ## Ends of functions -/
def gretK (P : Program) (e : Env) (h : GH) (res : List ResultVar) (Q : Value → GH → Prop) : Prop := ∃ l, gress P e h res = some l ∧ Q (gone l) h
section
variable {P : Program} {res : Array ResultVar} {Q : Value → GH → Prop} {e : Env} {h : GH} {N nt : Nat}
theorem retQ_r : retQ P res Q .ret e h = gretK P e h res.toList Q := by simp [retQ, gretK]
theorem retQ_n : retQ P res Q .normal e h = gretK P e h res.toList Q := by simp [retQ, gretK]
theorem gret_0 : gretK P e h [] Q = Q (.tuple #[]) h := by simp [gretK, gress, gone]
theorem gret_1 (t : Nat) : gretK P e h [.tmp t] Q = Q (lk e t) h := by simp [gretK, gress, gone]
theorem gret_2 (t u : Nat) : gretK P e h [.tmp t, .tmp u] Q = Q (.tuple #[lk e t, lk e u]) h := by simp [gretK, gress, gone]
theorem gret_3 (t u v : Nat) : gretK P e h [.tmp t, .tmp u, .tmp v] Q = Q (.tuple #[lk e t, lk e u, lk e v]) h := by simp [gretK, gress, gone]
theorem gret_c (a ty : Nat) : gretK P e h [.cell a ty] Q = optK (gLoad P ty h (lk e a)) h Q := by
  unfold gretK optK
  apply propext
  constructor
  · rintro ⟨l, h1, h2⟩
    simp only [gress] at h1
    split at h1
    · rename_i v l' hv hl
      cases hl; cases h1
      exact ⟨v, hv, h2⟩
    · cases h1
  · rintro ⟨v, h1, h2⟩
    exact ⟨[v], by simp [gress, h1], h2⟩
theorem gret_c1 (a ty t : Nat) : gretK P e h [.cell a ty, .tmp t] Q = optK ((gLoad P ty h (lk e a)).map fun v => .tuple #[v, lk e t]) h Q := by
  unfold gretK optK
  apply propext
  constructor
  · rintro ⟨l, h1, h2⟩
    simp only [gress, Option.map_some] at h1
    split at h1
    · rename_i v l' hv hl
      cases hl; cases h1
      exact ⟨_, by rw [hv]; rfl, h2⟩
    · cases h1
  · rintro ⟨v, h1, h2⟩
    simp only [Option.map_eq_some_iff] at h1
    obtain ⟨v0, h1, rfl⟩ := h1
    exact ⟨[v0, lk e t], by simp [gress, h1], h2⟩
theorem gret_c2 (a ty t u : Nat) : gretK P e h [.cell a ty, .tmp t, .tmp u] Q = optK ((gLoad P ty h (lk e a)).map fun v => .tuple #[v, lk e t, lk e u]) h Q := by
  unfold gretK optK
  apply propext
  constructor
  · rintro ⟨l, h1, h2⟩
    simp only [gress, Option.map_some] at h1
    split at h1
    · rename_i v l' hv hl
      cases hl; cases h1
      exact ⟨_, by rw [hv]; rfl, h2⟩
    · cases h1
  · rintro ⟨v, h1, h2⟩
    simp only [Option.map_eq_some_iff] at h1
    obtain ⟨v0, h1, rfl⟩ := h1
    exact ⟨[v0, lk e t, lk e u], by simp [gress, h1], h2⟩

theorem want_split {b w : Bool} {ds : List (Option Tmp)} {r : List Oper} {K : Env → GH → Prop} {d : Option Tmp} {op : Op} (ht : b = w → gop P N e h (kops P N ds r K e d) op) (hf : b = (!w) → kops P N ds r K e d UD h) : wantK (some b) w P N ds r K e h d op := by
  refine ⟨b, rfl, ?_⟩
  by_cases hb : b = w
  · rw [if_pos hb]; exact ht hb
  · rw [if_neg hb]; exact (kops_eq ..).mp (hf (by cases b <;> cases w <;> simp_all))

/-- What is known of the temporaries, pruned to some of them. -/
theorem gw_env {c : Code} {Q : GQ} (e' : Env) (he : ∀ p ∈ e', lk e p.1 = p.2) (g : GW P N nt c Q e' h) : GW P N nt c Q e h := by
  refine gw_weak (fun i => ?_) g
  have : ∀ (l : Env), (∀ p ∈ l, lk e p.1 = p.2) → lk l i = U ∨ lk l i = lk e i := by
    intro l hl
    induction l with
    | nil => exact .inl rfl
    | cons p l ih =>
      obtain ⟨j, v⟩ := p
      simp only [lk]
      by_cases hj : j = i
      · rw [if_pos hj]
        have := hl (j, v) (by simp)
        simp only at this
        exact .inr (by rw [← hj]; exact this.symm)
      · rw [if_neg hj]
        exact ih fun p hp => hl p (by simp [hp])
  exact this e' he
theorem sub_of {e' e : Env} (he : ∀ p ∈ e', lk e p.1 = p.2) : Sub e' e := by
  intro i
  have : ∀ (l : Env), (∀ p ∈ l, lk e p.1 = p.2) → lk l i = U ∨ lk l i = lk e i := by
    intro l hl
    induction l with
    | nil => exact .inl rfl
    | cons p l ih =>
      obtain ⟨j, v⟩ := p
      simp only [lk]
      by_cases hj : j = i
      · rw [if_pos hj]
        have := hl (j, v) (by simp)
        simp only at this
        exact .inr (by rw [← hj]; exact this.symm)
      · rw [if_neg hj]
        exact ih fun p hp => hl p (by simp [hp])
  exact this e' he
end

/-! ## Memory that has grown -/

/-- All that was is as it was. -/
def HS (h h' : GH) : Prop := ∀ k B, h k = some B → h' k = some B
/-- All cells that were are as they were. -/
def HC (h h' : GH) : Prop := ∀ k B, h k = some B → ∃ B', h' k = some B' ∧ B'.cells = B.cells ∧ B'.es = B.es ∧ (B'.wr = true → B.wr = true)
theorem HS.refl (h : GH) : HS h h := fun _ _ e => e
theorem HS.trans {a b c : GH} (x : HS a b) (y : HS b c) : HS a c := fun k B e => y k B (x k B e)
theorem HS.hc {a b : GH} (x : HS a b) : HC a b := fun k B e => ⟨B, x k B e, rfl, rfl, id⟩
theorem HC.refl (h : GH) : HC h h := (HS.refl h).hc
theorem HC.trans {a b c : GH} (x : HC a b) (y : HC b c) : HC a c := fun k B e => by
  obtain ⟨B1, h1, h2, h3, w1⟩ := x k B e
  obtain ⟨B2, h4, h5, h6, w2⟩ := y k B1 h1
  exact ⟨B2, h4, h5.trans h2, h6.trans h3, fun w => w1 (w2 w)⟩
theorem HS.new {h : GH} {k : Nat} (hk : h k = none) (B : GB) : HS h (hset h k B) := fun j C e => by
  have : j ≠ k := fun ee => by rw [ee, hk] at e; cases e
  rw [hset_ne _ _ this]; exact e
theorem HS.none_of {a b : GH} (x : HS a b) {k : Nat} (h : b k = none) : a k = none := by
  cases hk : a k with
  | none => rfl
  | some B => have := x k B hk; rw [h] at this; cases this

theorem gread_hc {h h' : GH} (x : HC h h') {a : Addr} {n : Nat} {cs : List Value} (e : gread h a n = some cs) : gread h' a n = some cs := by
  unfold gread at e ⊢
  split at e
  · rename_i h0; rw [if_pos h0]; exact e
  · rename_i h0
    rw [if_neg h0]
    split at e
    case h_2 => cases e
    rename_i B hs hB
    obtain ⟨B', h1, h2, h3⟩ := x _ _ hB
    rw [hs, h1]
    simp only [h2]
    exact e

/-! ## Bytes -/

def bv (b : UInt8) : Value := .int .u8 b.toNat
/-- A slice that reads as these bytes. -/
def RB (h : GH) (v : Value) (l : List UInt8) : Prop :=
  (∃ c, v = .slice none 0 c ∧ l = []) ∨ ∃ ad c, v = .slice (some ad) l.length c ∧ gread h ad l.length = some (l.map bv) ∧ 2 * l.length ≤ c

theorem RB.hc {h h' : GH} (x : HC h h') {v : Value} {l : List UInt8} (r : RB h v l) : RB h' v l := by
  rcases r with r | ⟨ad, c, h1, h2, h3⟩
  · exact .inl r
  · exact .inr ⟨ad, c, h1, gread_hc x h2, h3⟩
theorem RB.hs {h h' : GH} (x : HS h h') {v : Value} {l : List UInt8} (r : RB h v l) : RB h' v l := r.hc x.hc
theorem RB.nil (h : GH) : RB h (.slice none 0 0) [] := .inl ⟨0, rfl, rfl⟩
/-- Its form. -/
theorem RB.form {h : GH} {v : Value} {l : List UInt8} (r : RB h v l) : ∃ a c, v = .slice a l.length c ∧ (a = none → l = []) := by
  rcases r with ⟨c, rfl, rfl⟩ | ⟨ad, c, rfl, h2, h3⟩
  · exact ⟨none, c, rfl, fun _ => rfl⟩
  · exact ⟨some ad, c, rfl, fun h => by cases h⟩


theorem gread_get {h : GH} {ad : Addr} {n : Nat} {cs : List Value} (e : gread h ad n = some cs) {i : Nat} {v : Value} (hv : cs[i]? = some v) : gread h ⟨ad.block, ad.off + i, none⟩ 1 = some [v] := by
  have hlt : i < n := by rw [← gread_length e]; exact (List.getElem?_eq_some_iff.1 hv).1
  unfold gread at e ⊢
  rw [if_neg (by omega)] at e
  rw [if_neg (by omega)]
  split at e
  case h_2 => cases e
  rename_i B hs hB
  split at e
  case isFalse => cases e
  rename_i hle
  cases e
  simp only [hB]
  rw [if_pos (by omega)]
  rw [List.getElem?_take, if_pos hlt, List.getElem?_drop] at hv
  obtain ⟨hl, hv⟩ := List.getElem?_eq_some_iff.1 hv
  rw [List.drop_eq_getElem_cons (by omega), hv]
  rfl

theorem gread_sub {h : GH} {ad : Addr} {n : Nat} {cs : List Value} (e : gread h ad n = some cs) (o m : Nat) (hm : o + m ≤ n) : gread h ⟨ad.block, ad.off + o, ad.spot⟩ m = some ((cs.drop o).take m) := by
  unfold gread at e ⊢
  by_cases h0 : m = 0
  · subst h0; simp
  · rw [if_neg h0]
    rw [if_neg (by omega)] at e
    split at e
    case h_2 => cases e
    rename_i B hs hB
    split at e
    case isFalse => cases e
    rename_i hle
    cases e
    simp only [hs, hB]
    rw [if_pos (by omega)]
    congr 1
    rw [List.drop_take, List.take_take, List.drop_drop]
    congr 1
    omega

/-- Element i. -/
theorem RB.at {P : Program} {h : GH} {v : Value} {l : List UInt8} (r : RB h v l) {t e : TypeId} (ht : P.underlying t = some (.slice e)) (he : gsz P e = some (false, 1)) {i : Nat} {b : UInt8} (hb : l[i]? = some b) :
    ∃ p, gIndex P t v i = some p ∧ gLoad P e h p = some (bv b) := by
  have hlt := (List.getElem?_eq_some_iff.1 hb).1
  rcases r with ⟨c, rfl, rfl⟩ | ⟨ad, c, rfl, h2, h3⟩
  · simp at hlt
  · refine ⟨.pointer (some ⟨ad.block, ad.off + i, none⟩), ?_, ?_⟩
    · simp only [gIndex, ht, he]
      rw [if_pos (by omega)]
      simp
    · have := gread_get h2 (i := i) (v := bv b) (by simp [hb])
      simp only [gLoad, he, this]
      rfl

theorem RB.len {P : Program} {h : GH} {v : Value} {l : List UInt8} (r : RB h v l) {t e : TypeId} (ht : P.underlying t = some (.slice e)) : gLen P t v = some (l.length : Int) := by
  obtain ⟨a, c, rfl, _⟩ := r.form
  simp only [gLen, ht]


/-! ## append -/

/-- It may be appended to, and nothing of h0 is touched. -/
def AP (h0 h : GH) (v : Value) (es : Nat) : Prop :=
  (∃ c, v = .slice none 0 c) ∨ (∃ ad n, v = .slice (some ad) n (2 * n + 1)) ∨
  ∃ ad n c B, v = .slice (some ad) n c ∧ c % 2 = 0 ∧ h ad.block = some B ∧ ad.spot = none ∧ B.tl = true ∧ B.es = es ∧ ad.off + n * es = B.cells.length ∧ h0 ad.block = none

theorem AP.nil (h0 h : GH) (es : Nat) : AP h0 h (.slice none 0 0) es := .inl ⟨0, rfl⟩
theorem AP.hs {h0 h h' : GH} {v : Value} {es : Nat} (a : AP h0 h v es) (x : HS h h') : AP h0 h' v es := by
  rcases a with a | a | ⟨ad, n, c, B, h1, h2, h3, h4, h5, h6, h7, h8⟩
  · exact .inl a
  · exact .inr (.inl a)
  · exact .inr (.inr ⟨ad, n, c, B, h1, h2, x _ _ h3, h4, h5, h6, h7, h8⟩)

/-- An append, said of cells: of es cells an element; the elder slice reads on. -/
theorem append_cells {P : Program} {t u e es by_ : Nat} {z : Value} {du : TypeDesc} {h0 h : GH} {s x : Value} {n m : Nat} {cs xs : List Value} {K : Value → GH → Prop} (hel : gel P t = some (e, es, by_, z)) (hu : P.underlying u = some du) (hni : notInt du = true)
    (hs0 : HS h0 h) (hs : (∃ c, s = .slice none 0 c ∧ n = 0 ∧ cs = []) ∨ ∃ ad c, s = .slice (some ad) n c ∧ gread h ad (n * es) = some cs ∧ 2 * n ≤ c) (ap : AP h0 h s es) (hsrc : gSrc h es x = some (m, xs)) (hxl : xs.length = m * es) (hcell : xs.all isCell = true)
    (hsz : (n + m) * by_ ≤ 140737488355328) (hml : n + m ≤ maxLen)
    (k : ∀ v h', HS h0 h' → HC h h' → (∀ j B, h j = some B → (∀ ad c, s = .slice (some ad) n c → c % 2 = 0 → j ≠ ad.block) → h' j = some B) → AP h0 h' v es →
      ((∃ c, v = .slice none 0 c ∧ n + m = 0 ∧ cs ++ xs = []) ∨ ∃ ad c, v = .slice (some ad) (n + m) c ∧ gread h' ad ((n + m) * es) = some (cs ++ xs) ∧ 2 * (n + m) ≤ c) → K v h') : gAppendX P t u h s x K := by
  refine .inl ⟨du, e, es, by_, z, m, xs, hu, hni, hel, hsrc, e, es, by_, z, hel, hxl, hcell, ?_⟩
  have grd : ∀ (h' : GH) (k0 : Nat) (B : GB), h' k0 = some B → B.cells = cs ++ xs → cs.length = n * es → gread h' ⟨k0, 0, none⟩ ((n + m) * es) = some (cs ++ xs) := by
    intro h' k0 B hk hB hcl
    unfold gread
    have hl : B.cells.length = (n + m) * es := by rw [hB, List.length_append, hcl, hxl, Nat.add_mul]
    split
    · rename_i h0'
      rw [h0'] at hl
      rw [← hB, List.eq_nil_of_length_eq_zero hl]
    · simp only [hk, Nat.zero_add, List.drop_zero]
      rw [if_pos (by omega), List.take_of_length_le (by omega), hB]
  rcases hs with ⟨c, rfl, rfl, rfl⟩ | ⟨ad, c, rfl, hrd, hnc⟩
  · simp only
    by_cases hm : m = 0
    · subst hm
      have hx0 : xs = [] := List.eq_nil_of_length_eq_zero (by simpa using hxl)
      subst hx0
      exact .inl ⟨rfl, k _ h hs0 (HC.refl h) (fun j B hj _ => hj) ap (.inl ⟨c, rfl, rfl, rfl⟩)⟩
    · refine .inr ⟨by omega, by omega, by simpa using hsz, fun k0 hk0 => ?_⟩
      have hS := HS.new hk0 ⟨xs, es, true, true⟩
      refine k _ _ (hs0.trans hS) hS.hc (fun j B hj _ => hS j B hj) (.inr (.inr ⟨⟨k0, 0, none⟩, m, 2 * m, _, rfl, by omega, hset_same _ _ _, rfl, rfl, rfl, by simp [hxl], hs0.none_of hk0⟩)) (.inr ⟨⟨k0, 0, none⟩, 2 * m, by simp, ?_⟩)
      exact ⟨grd _ k0 _ (hset_same _ _ _) (by simp) (by simp), by omega⟩
  · simp only
    have hcl := gread_length hrd
    by_cases hm : m = 0
    · subst hm
      have hx0 : xs = [] := List.eq_nil_of_length_eq_zero (by simpa using hxl)
      subst hx0
      exact .inl ⟨rfl, k _ h hs0 (HC.refl h) (fun j B hj _ => hj) ap (.inr ⟨ad, c, by simp, by simpa using hrd, by omega⟩)⟩
    · refine .inr ⟨by omega, hml, hsz, ?_⟩
      rcases ap with ⟨c', h1⟩ | ⟨ad', n', h1⟩ | ⟨ad', n', c', B, h1, h2, h3, h4, h5, h6, h7, h8⟩
      · cases h1
      · cases h1
        refine .inl ⟨cs, hrd, by omega, by omega, fun k0 hk0 => ?_⟩
        have hS := HS.new hk0 ⟨cs ++ xs, es, true, true⟩
        refine k _ _ (hs0.trans hS) hS.hc (fun j B hj _ => hS j B hj) (.inr (.inr ⟨⟨k0, 0, none⟩, n + m, 2 * (n + m), _, rfl, by omega, hset_same _ _ _, rfl, rfl, rfl, by simp [hcl, hxl, Nat.add_mul], hs0.none_of hk0⟩)) (.inr ⟨⟨k0, 0, none⟩, 2 * (n + m), rfl, ?_⟩)
        exact ⟨grd _ k0 _ (hset_same _ _ _) rfl hcl, by omega⟩
      · cases h1
        refine .inr (.inr ⟨B, h3, h4, h2, h5, h6, h7, .inr fun k0 hk0 hne => ?_⟩)
        have hdrop : B.cells.drop ad.off = cs := by
          unfold gread at hrd
          split at hrd
          · rename_i h00
            cases hrd
            rw [h00, Nat.add_zero] at h7
            rw [h7]; simp
          · rw [h4, h3] at hrd
            simp only at hrd
            rw [if_pos (by omega)] at hrd
            cases hrd
            rw [List.take_of_length_le (by simp; omega)]
        have hC : HC h (hset (hset h ad.block { B with wr := false, tl := false }) k0 ⟨B.cells.drop ad.off ++ xs, es, false, true⟩) := fun j C hj => by
          have hjk : j ≠ k0 := fun ee => by rw [ee, hk0] at hj; cases hj
          rw [hset_ne _ _ hjk]
          by_cases hja : j = ad.block
          · subst hja; rw [hset_same]; rw [h3] at hj; cases hj
            exact ⟨_, rfl, rfl, rfl, fun w => by cases w⟩
          · rw [hset_ne _ _ hja]; exact ⟨C, hj, rfl, rfl, id⟩
        refine k _ _ (fun j C hj => ?_) hC (fun j C hj hne2 => ?_) (.inr (.inr ⟨⟨k0, 0, none⟩, n + m, 2 * (n + m), _, rfl, by omega, hset_same _ _ _, rfl, rfl, rfl, by simp only [hdrop]; simp [hcl, hxl, Nat.add_mul], hs0.none_of hk0⟩)) (.inr ⟨⟨k0, 0, none⟩, 2 * (n + m), rfl, ?_⟩)
        · have hja : j ≠ ad.block := fun ee => by rw [ee, h8] at hj; cases hj
          have hj' := hs0 j C hj
          have hjk : j ≠ k0 := fun ee => by rw [ee, hk0] at hj'; cases hj'
          rw [hset_ne _ _ hjk, hset_ne _ _ hja]; exact hj'
        · have hja := hne2 ad c rfl h2
          have hjk : j ≠ k0 := fun ee => by rw [ee, hk0] at hj; cases hj
          rw [hset_ne _ _ hjk, hset_ne _ _ hja]; exact hj
        · exact ⟨grd _ k0 _ (hset_same _ _ _) (by simp only [hdrop]) hcl, by omega⟩

theorem RB.src {h : GH} {v : Value} {l : List UInt8} (r : RB h v l) : gSrc h 1 v = some (l.length, l.map bv) := by
  rcases r with ⟨c, rfl, rfl⟩ | ⟨ad, c, rfl, h2, h3⟩
  · rfl
  · simp only [gSrc, Nat.mul_one, h2]; rfl

theorem bv_cells (l : List UInt8) : (l.map bv).all isCell = true := by
  rw [List.all_eq_true]
  intro v hv
  obtain ⟨b, _, rfl⟩ := List.mem_map.1 hv
  rfl

/-- An append of bytes. -/
theorem append_bytes {P : Program} {t u e : Nat} {z : Value} {du : TypeDesc} {h0 h : GH} {s x : Value} {l l2 : List UInt8} {K : Value → GH → Prop} (hel : gel P t = some (e, 1, 1, z)) (hu : P.underlying u = some du) (hni : notInt du = true)
    (hs0 : HS h0 h) (hs : RB h s l) (ap : AP h0 h s 1) (hsrc : gSrc h 1 x = some (l2.length, l2.map bv)) (hsz : l.length + l2.length ≤ 140737488355328)
    (k : ∀ v h', HS h0 h' → HC h h' → (∀ j B, h j = some B → (∀ ad n c, s = .slice (some ad) n c → c % 2 = 0 → j ≠ ad.block) → h' j = some B) → AP h0 h' v 1 → RB h' v (l ++ l2) → K v h') : gAppendX P t u h s x K := by
  refine append_cells (n := l.length) (cs := l.map bv) hel hu hni hs0 ?_ ap hsrc (by simp) (bv_cells _) (by simpa using hsz) (by simp only [maxLen]; omega) ?_
  · rcases hs with ⟨c, rfl, rfl⟩ | ⟨ad, c, rfl, h2, h3⟩
    · exact .inl ⟨c, rfl, rfl, rfl⟩
    · exact .inr ⟨ad, c, rfl, by simpa using h2, h3⟩
  · intro v h' h1 h2 h3 h4 h5
    refine k v h' h1 h2 (fun j B hj hne => h3 j B hj fun ad c hh hc => hne ad _ c hh hc) h4 ?_
    rcases h5 with ⟨c, rfl, h6, h7⟩ | ⟨ad, c, rfl, h6, h7⟩
    · exact .inl ⟨c, rfl, List.eq_nil_of_length_eq_zero (by simpa using h6)⟩
    · exact .inr ⟨ad, c, by simp, by simpa using h6, by simpa using h7⟩

end Go.Gh

