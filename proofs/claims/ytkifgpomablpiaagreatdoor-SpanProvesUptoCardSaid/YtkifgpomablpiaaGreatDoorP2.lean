/- Parts of this claim's proof, 2. No statement of the claim stands here. -/
import Derived.Test.YtkifgpomablpiaaGreatDoorP1
import Derived.Laws.BytesString
import Derived.Laws.MakeOwn
import Derived.Laws.Slices
import Derived.Laws.StructEq
import Derived.WideLaws
import Derived.LaidEql
namespace Go.Gh
open Go Go.RowKit
set_option linter.unusedVariables false
set_option linter.unusedSimpArgs false
def zJ (P : Program) (t : TypeId) (x : Value) (i : Int) : Option Value :=
  match P.underlying t, x with
  | some (.slice e), .slice (some a) n _ => match vG P e with
    | some (_, es) => if 0 ≤ i ∧ i < n then some (.pointer (some ⟨a.block, a.off + i.toNat * es, none⟩)) else none
    | none => none
  | some (.array n e), .pointer (some a) => match vG P e with
    | some (_, es) => if 0 ≤ i ∧ i < n then some (.pointer (some ⟨a.block, a.off + i.toNat * es, none⟩)) else none
    | none => none
  | _, _ => none
theorem AR.add {φ : Fm} {a a' : Addr} (h : AR φ a a') (n : Nat) : AR φ ⟨a.block, a.off + n, none⟩ (a'.add n) := by
  obtain ⟨h1, h2, f, h3, h4, h5⟩ := h
  rw [kJ h2, gU]
  exact ⟨rfl, rfl, f, h3, h4, by show a'.off + n = _; rw [h5, Nat.add_assoc]⟩
theorem qX6 {P : Program} {N : Nat} {φ : Fm} {h : GH} {w : World} (s : Sim N φ h w) {t : TypeId} {x x' v : Value} (hx : VR φ x x') (k : IntKind) (i : Int) (e : zJ P t x i = some v) :
    ∃ v', (Instr.indexAt t x' (.int k i)).run P w = .ok v' w ∧ VR φ v v' := by
  unfold zJ at e
  split at e
  · rename_i el a n c hu
    split at e
    case h_2 => cases e
    rename_i b es hz
    split at e
    case isFalse => cases e
    rename_i hi
    cases e
    cases hx with
    | slice ha hc hn =>
    rename_i a' c'
    rcases ha with ha | h0
    case inr => omega
    refine ⟨_, ?_, .ptr (ha.add _)⟩
    simp [Instr.indexAt, asIntOf, run_underlying hu, hi, (vP hz w).2]
  · rename_i n el a hu
    split at e
    case h_2 => cases e
    rename_i b es hz
    split at e
    case isFalse => cases e
    rename_i hi
    cases e
    cases hx with
    | ptr ha =>
    rename_i a'
    refine ⟨_, ?_, .ptr (ha.add _)⟩
    simp [Instr.indexAt, asIntOf, run_underlying hu, hi, (vP hz w).2, Instr.sureAddr]
  · cases e
def yK (P : Program) (t : TypeId) (f : Nat) : Option (TypeId × Nat) :=
  match P.underlying t with
  | some (.struct fs) => match fs[f]? with
    | some fl => match vG P fl.type with
      | some (_, n) => if n = 0 then none else some (fl.type, fl.offset)
      | none => none
    | none => none
  | _ => none
def qD (P : Program) (t : TypeId) (x : Value) (f : Nat) : Option Value :=
  match x, yK P t f with
  | .pointer (some a), some (_, o) => some (.pointer (some ⟨a.block, a.off + o, none⟩))
  | _, _ => none
theorem qX7 {P : Program} {N : Nat} {φ : Fm} {h : GH} {w : World} (s : Sim N φ h w) {t : TypeId} {x x' v : Value} (hx : VR φ x x') (f : Nat) (e : qD P t x f = some v) :
    ∃ v', (Instr.fieldAt t x' f).run P w = .ok v' w ∧ VR φ v v' := by
  unfold qD at e
  split at e
  case h_2 => cases e
  rename_i a ft o hfo
  cases e
  unfold yK at hfo
  split at hfo
  case h_2 => cases hfo
  rename_i fs hu
  split at hfo
  case h_2 => cases hfo
  rename_i fl hfl
  split at hfo
  case h_2 => cases hfo
  rename_i b n hz
  split at hfo
  · cases hfo
  rename_i hn
  cases hfo
  cases hx with
  | ptr ha =>
  refine ⟨_, ?_, .ptr (ha.add _)⟩
  simp [Instr.fieldAt, run_underlying hu, hfl, Instr.sureAddr, fieldPlace, (vP hz w).2, hn]
def jQ (x : Value) (y : Nat) : Option Nat :=
  match x with
  | .int _ i => if 0 ≤ i ∧ i ≤ y then some i.toNat else none
  | _ => none
def dP (lo : Option Value) (h : Nat) : Option Nat := match lo with | none => some 0 | some v => jQ v h
def gM (hi : Option Value) (n c : Nat) : Option Nat := match hi with | none => if n ≤ c then some n else none | some v => jQ v c
def zE7 (h : GH) (a : Addr) (es : Nat) : Bool := match h a.block with | some B => B.es == es | none => false
def vW (P : Program) (t : TypeId) (h : GH) (x : Value) (lo hi mx : Option Value) : Option Value :=
  match P.underlying t, x with
  | some .string, .string s => match mx with
    | some _ => none
    | none => match gM hi s.size s.size with
      | none => none
      | some h => match dP lo h with
        | none => none
        | some l => some (.string (s.extract l h))
  | some (.slice e), .slice none 0 c => match vG P e with
    | none => none
    | some _ => match mx with
      | some m => match jQ m 0 with
        | none => none
        | some m => match hi with
          | none => none
          | some hi => match jQ hi m with
            | none => none
            | some hh => match dP lo hh with
              | none => none
              | some _ => some (.slice none 0 0)
      | none => match gM hi 0 0 with
        | none => none
        | some h => match dP lo h with
          | none => none
          | some _ => some (.slice none 0 0)
  | some (.slice e), .slice (some a) n c => match vG P e with
    | none => none
    | some (_, es) => match mx with
      | none => match gM hi n (max n (c / 2)) with
        | none => none
        | some hh => match dP lo hh with
          | none => none
          | some l => if c % 2 = 1 ∨ l = 0 ∨ zE7 h a es = true then some (.slice (some ⟨a.block, a.off + l * es, a.spot⟩) (hh - l) (c - 2 * l)) else none
      | some m => match jQ m (max n (c / 2)) with
        | none => none
        | some m => match hi with
          | none => none
          | some hi => match jQ hi m with
            | none => none
            | some hh => match dP lo hh with
              | none => none
              | some l => some (.slice (some ⟨a.block, a.off + l * es, a.spot⟩) (hh - l) (2 * (m - l) + 1))
  | some (.array n e), .pointer (some a) => match vG P e with
    | none => none
    | some (_, es) => match mx with
      | some _ => none
      | none => match gM hi n n with
        | none => none
        | some hh => match dP lo hh with
          | none => none
          | some l => some (.slice (some ⟨a.block, a.off + l * es, a.spot⟩) (hh - l) (2 * (n - l) + 1))
  | _, _ => none
theorem uB {P : Program} {φ : Fm} {x x' : Value} (hx : VR φ x x') {y y' n : Nat} (hy : y ≤ y') (e : jQ x y = some n) (code : BoundsCode) (w : World) :
    (Instr.sliceBound x' y' code).run P w = .ok n w ∧ n ≤ y := by
  unfold jQ at e
  split at e
  case h_2 => cases e
  rename_i k i
  split at e
  case isFalse => cases e
  rename_i hi
  cases e
  cases hx
  refine ⟨?_, by omega⟩
  have : i ≤ (y' : Int) := by omega
  simp [Instr.sliceBound, asIntOf, hi.1, this]
inductive VRo (φ : Fm) : Option Value → Option Value → Prop
  | none : VRo φ none none
  | some {v v' : Value} (h : VR φ v v') : VRo φ (some v) (some v')
theorem fO {P : Program} {φ : Fm} {lo lo' hi hi' : Option Value} (hl : VRo φ lo lo') (hh : VRo φ hi hi') {n c c' l h : Nat} (hc : c ≤ c') (b : Bool) (e1 : gM hi n c = some h) (e2 : dP lo h = some l) (w : World) :
    (Instr.sliceBounds b n c' lo' hi' none).run P w = .ok (l, h, c') w ∧ l ≤ h ∧ h ≤ c := by
  cases hh with
  | none =>
    simp only [gM] at e1
    split at e1
    case isFalse => cases e1
    cases e1
    cases hl with
    | none =>
      simp only [dP, Option.some.injEq] at e2; subst e2
      exact ⟨by simp [Instr.sliceBounds], by omega, by assumption⟩
    | some hv =>
      have r1 := uB (P := P) hv (Nat.le_refl _) e2 .sliceB w
      exact ⟨by simp [Instr.sliceBounds, r1.1], r1.2, by assumption⟩
  | some hw =>
    have r2 := uB (P := P) hw hc e1 (if b then .sliceAcap else .sliceAlen) w
    cases hl with
    | none =>
      simp only [dP, Option.some.injEq] at e2; subst e2
      refine ⟨?_, by omega, r2.2⟩
      cases b <;> simp [Instr.sliceBounds] at r2 ⊢ <;> simp [r2.1]
    | some hv =>
      have r1 := uB (P := P) hv (Nat.le_refl _) e2 .sliceB w
      refine ⟨?_, r1.2, r2.2⟩
      cases b <;> simp [Instr.sliceBounds] at r2 ⊢ <;> simp [r2.1, r1.1]
theorem qX3 {P : Program} {N : Nat} {φ : Fm} {h : GH} {w : World} (s : Sim N φ h w) {t : TypeId} {x x' v : Value} (hx : VR φ x x') {lo lo' hi hi' mx mx' : Option Value} (hlo : VRo φ lo lo') (hhi : VRo φ hi hi') (hmx : VRo φ mx mx')
    (e : vW P t h x lo hi mx = some v) : ∃ v', (Instr.sliceAt t x' lo' hi' mx').run P w = .ok v' w ∧ VR φ v v' := by
  unfold vW at e
  split at e
  · -- a string
    rename_i b hu
    split at e
    · cases e
    split at e
    · cases e
    rename_i hh e1
    split at e
    · cases e
    rename_i l e2
    cases e
    cases hx
    cases hmx
    obtain ⟨r1, r2, r3⟩ := fO (P := P) hlo hhi (Nat.le_refl _) false e1 e2 w
    exact ⟨_, by simp [Instr.sliceAt, run_underlying hu, Instr.slice, r1], .string _⟩
  · -- a nil slice
    rename_i el c hu
    split at e
    · cases e
    rename_i bz hz
    obtain ⟨bz, nz⟩ := bz
    split at e
    · split at e
      · cases e
      rename_i m e0
      split at e
      · cases e
      rename_i hiv
      split at e
      · cases e
      rename_i hh e1
      split at e
      · cases e
      rename_i l e2
      cases e
      cases hx
      cases hmx with
      | some hm =>
      rename_i mv'
      cases hhi with
      | some hw =>
      rename_i hv'
      have r0 := uB (P := P) hm (Nat.le_refl 0) e0 .slice3Acap w
      have r1 := uB (P := P) hw (Nat.le_refl m) e1 .slice3B w
      have hl : (Instr.sliceBounds true 0 0 lo' (some hv') (some mv')).run P w = .ok (l, hh, m) w ∧ l ≤ hh := by
        cases hlo with
        | none =>
          simp only [dP, Option.some.injEq] at e2; subst e2
          exact ⟨by simp [Instr.sliceBounds, r0.1, r1.1], by omega⟩
        | some hv =>
          have r2 := uB (P := P) hv (Nat.le_refl _) e2 .slice3C w
          exact ⟨by simp [Instr.sliceBounds, r0.1, r1.1, r2.1], r2.2⟩
      have hm0 := r0.2
      have hh0 := r1.2
      have hl0 := hl.2
      obtain rfl : m = 0 := by omega
      obtain rfl : hh = 0 := by omega
      obtain rfl : l = 0 := by omega
      exact ⟨_, by simp [Instr.sliceAt, run_underlying hu, Instr.slice, hl.1, (vP hz w).2], .snil 0⟩
    split at e
    · cases e
    rename_i hh e1
    split at e
    · cases e
    rename_i l e2
    cases e
    cases hx
    cases hmx
    obtain ⟨r1, r2, r3⟩ := fO (P := P) hlo hhi (Nat.le_refl _) true e1 e2 w
    obtain ⟨rfl⟩ : hh = 0 := by omega
    obtain ⟨rfl⟩ : l = 0 := by omega
    exact ⟨_, by simp [Instr.sliceAt, run_underlying hu, Instr.slice, r1, (vP hz w).2], .snil 0⟩
  · rename_i el a n c hu
    split at e
    · cases e
    rename_i bz es hz
    cases hx with
    | slice ha hc hn =>
    rename_i a' c'
    have hcle : c / 2 ≤ c' := by
      rcases Nat.mod_two_eq_zero_or_one c with h0 | h1
      · exact (hc.2 h0).1
      · exact Nat.le_of_eq (hc.1 h1).symm
    have hcle : max n (c / 2) ≤ c' := Nat.max_le.2 ⟨hn, hcle⟩
    have har : ∀ l : Nat, l ≤ c' → (AR φ ⟨a.block, a.off + l * es, a.spot⟩ (a'.add (l * es)) ∨ c' = 0) := fun l _ => by
      rcases ha with ha | h0
      · have := ha.add (l * es)
        rw [ha.1]; exact .inl this
      · exact .inr h0
    split at e
    · -- two bounds
      split at e
      · cases e
      rename_i hh e1
      split at e
      · cases e
      rename_i l e2
      split at e
      case isFalse => cases e
      rename_i hcond
      cases e
      cases hmx
      obtain ⟨r1, r2, r3⟩ := fO (P := P) hlo hhi hcle true e1 e2 w
      refine ⟨.slice (if c' = l then some a' else some (a'.add (l * es))) (hh - l) (c' - l), by simp [Instr.sliceAt, run_underlying hu, Instr.slice, r1, (vP hz w).2], ?_⟩
      by_cases hcl : c' = l
      · rw [if_pos hcl]
        refine .slice (.inr (by omega)) ⟨fun ho => ?_, fun he => ⟨by omega, .inl (by omega)⟩⟩ (by omega)
        have := hc.1 (by omega); omega
      · rw [if_neg hcl]
        refine .slice ?_ ⟨fun ho => ?_, fun he => ⟨by omega, ?_⟩⟩ (by omega)
        · rcases har l (by omega) with h1 | h1
          · exact .inl h1
          · omega
        · have := hc.1 (by omega); omega
        · have hc0 : c % 2 = 0 := by
            rcases Nat.mod_two_eq_zero_or_one c with h0 | h1
            · exact h0
            · have := hc.1 h1; omega
          rcases (hc.2 hc0).2 with h0 | ⟨f, q1, q2⟩
          · exact .inl (by omega)
          · refine .inr ⟨f, q1, ?_⟩
            have hsp : a'.spot = none := by
              rcases ha with ha | h0
              · exact ha.2.1
              · omega
            rw [kJ hsp, gU]
            show a'.off + l * es + (c' - l) * f.es ≤ f.lim
            rcases hcond with h1 | h1 | h1
            · have := hc.1 h1; omega
            · subst h1; simpa using q2
            · unfold zE7 at h1
              split at h1
              · rename_i B hB
                have p2 := s.domf hB q1
                have hes : f.es = es := by rw [p2.es]; simpa using h1
                rw [hes] at q2 ⊢
                rw [Nat.add_assoc, ← Nat.add_mul, show l + (c' - l) = c' by omega]
                exact q2
              · cases h1
    · -- three bounds
      split at e
      · cases e
      rename_i m e0
      split at e
      · cases e
      rename_i hiv
      split at e
      · cases e
      rename_i hh e1
      split at e
      · cases e
      rename_i l e2
      cases e
      cases hmx with
      | some hm =>
      rename_i mv'
      cases hhi with
      | some hw =>
      rename_i hv'
      have r0 := uB (P := P) hm hcle e0 .slice3Acap w
      have r1 := uB (P := P) hw (Nat.le_refl m) e1 .slice3B w
      have hl : (Instr.sliceBounds true n c' lo' (some hv') (some mv')).run P w = .ok (l, hh, m) w ∧ l ≤ hh := by
        cases hlo with
        | none =>
          simp only [dP, Option.some.injEq] at e2; subst e2
          exact ⟨by simp [Instr.sliceBounds, r0.1, r1.1], by omega⟩
        | some hv =>
          have r2 := uB (P := P) hv (Nat.le_refl _) e2 .slice3C w
          exact ⟨by simp [Instr.sliceBounds, r0.1, r1.1, r2.1], r2.2⟩
      refine ⟨.slice (if m = l then some a' else some (a'.add (l * es))) (hh - l) (m - l), by simp [Instr.sliceAt, run_underlying hu, Instr.slice, hl.1, (vP hz w).2], ?_⟩
      by_cases hcl : m = l
      · rw [if_pos hcl]
        exact .slice (.inr (by omega)) ⟨fun ho => by omega, fun he => by omega⟩ (by omega)
      · rw [if_neg hcl]
        refine .slice ?_ ⟨fun ho => by omega, fun he => by omega⟩ (by omega)
        rcases har l (by omega) with h1 | h1
        · exact .inl h1
        · omega
  · -- an array in memory
    rename_i n el a hu
    split at e
    · cases e
    rename_i bz es hz
    split at e
    · cases e
    split at e
    · cases e
    rename_i hh e1
    split at e
    · cases e
    rename_i l e2
    cases e
    cases hx with
    | ptr ha =>
    rename_i a'
    cases hmx
    obtain ⟨r1, r2, r3⟩ := fO (P := P) hlo hhi (Nat.le_refl n) false e1 e2 w
    refine ⟨.slice (some (if n = l then a' else a'.add (l * es))) (hh - l) (n - l), by simp [Instr.sliceAt, run_underlying hu, Instr.sureAddr, r1, (vP hz w).2], ?_⟩
    by_cases hcl : n = l
    · rw [if_pos hcl]
      exact .slice (.inr (by omega)) ⟨fun ho => by omega, fun he => by omega⟩ (by omega)
    · rw [if_neg hcl]
      refine .slice (.inl ?_) ⟨fun ho => by omega, fun he => by omega⟩ (by omega)
      have := ha.add (l * es)
      rw [ha.1]; exact this
  · cases e
def kL : Value → Bool
  | .bool _ | .int _ _ | .string _ | .pointer none | .nilFunc | .nilIface => true
  | .slice none 0 0 => true
  | .map none => true
  | .func _ f c => f.toList.isEmpty && c.toList.isEmpty
  | _ => false
def zH2 : Value → Bool
  | .agg cs => cs.toList.all kL
  | v => kL v
theorem qB2 {φ : Fm} {v : Value} (h : kL v = true) : VR φ v v := by
  unfold kL at h
  split at h
  · exact .bool _
  · exact .int _ _
  · exact .string _
  · exact .pnil
  · exact .nilFunc
  · exact .nilIface
  · exact .snil 0
  · exact .mnil
  · rename_i fn f c
    simp only [Bool.and_eq_true, List.isEmpty_iff] at h
    exact .func (by rw [h.1]; exact .nil) (by rw [h.2]; exact .nil)
  · cases h
theorem uS {φ : Fm} : ∀ {l : List Value}, l.all kL = true → VRs φ l l
  | [], _ => .nil
  | v :: l, h => by
    simp only [List.all_cons, Bool.and_eq_true] at h
    exact .cons (qB2 h.1) (uS h.2)
theorem qN3 {φ : Fm} {v : Value} (h : zH2 v = true) : VR φ v v := by
  unfold zH2 at h
  split at h
  · exact .agg (uS h)
  · exact qB2 h
theorem qN4 {v : Value} (h : kL v = true) : zK v = true := by
  unfold kL at h
  split at h <;> first | rfl | cases h
theorem qI5 {l : List Value} (h : l.all kL = true) : l.all zK = true := by
  rw [List.all_eq_true] at h ⊢
  exact fun v hv => qN4 (h v hv)
theorem mI {v : Value} (h : zH2 v = true) : v.cells.toList.all kL = true := by
  unfold zH2 at h
  split at h
  · simpa [Value.cells] using h
  · rename_i v hv
    cases v <;> simp_all [Value.cells]
def uT (z : Value) (n : Nat) : List Value := (madeCells z.cells n).toList
theorem jU (z : Value) (n : Nat) : (uT z n).length = n := by simp [uT, size_madeCells]
theorem qC0 {z : Value} (h : zH2 z = true) (hz : 0 < z.cells.size) (n : Nat) : (uT z n).all kL = true := by
  rw [List.all_eq_true]
  intro v hv
  simp only [uT, madeCells, Array.toList_map, List.mem_map] at hv
  obtain ⟨i, _, rfl⟩ := hv
  have hlt : i % z.cells.size < z.cells.size := Nat.mod_lt _ hz
  rw [getElem!_pos z.cells _ hlt]
  have := mI h
  rw [List.all_eq_true] at this
  exact this _ (by simp)
theorem wD (v : Value) (h : kL v = true) (n : Nat) : uT v n = List.replicate n v := by
  have hc : v.cells = #[v] := by
    unfold kL at h
    split at h <;> first | rfl | cases h
  apply List.ext_getElem
  · simp [jU]
  · intro i h1 h2
    simp [uT, madeCells, hc, Nat.mod_one]
def zC6 (P : Program) (t : TypeId) (h : GH) (l c : Int) (K : Value → GH → Prop) : Prop :=
  ∃ e es by_ z, tF P t = some (e, es, by_, z) ∧ zH2 z = true ∧ 0 ≤ l ∧ l ≤ c ∧ (by_ : Int) * c ≤ 281474976710656 ∧ c ≤ 9223372036854775807 ∧
    ∀ k, h k = none → K (.slice (some ⟨k, 0, none⟩) l.toNat (2 * c.toNat + 1)) (yB h k ⟨uT z (c.toNat * es), es, true, false⟩)
theorem zC4 {P : Program} {N : Nat} {φ : Fm} {h : GH} {w : World} (s : Sim N φ h w) {t : TypeId} {kl kc : IntKind} {l c : Int} {K : Value → GH → Prop} (g : zC6 P t h l c K) :
    Yes P N φ w (Instr.makeSlice t (.int kl l) (.int kc c)) K := by
  obtain ⟨e, es, by_, z, hel, hz, h0, hlc, hb, h63, k⟩ := g
  obtain ⟨ht, i, hi, hsize, hbytes, hzero, hzs, hpos⟩ := tU hel
  have hr := run_make (P := P) w t e i z ht hi hzero kl kc l c h0 hlc (by rw [hbytes]; exact hb) h63
  obtain ⟨φ', k0, h1, h2, h3, h4, h5⟩ := sQ (P := P) s (uS (qC0 hz (by rw [hzs]; exact hpos) (c.toNat * es))) e es
    (K := fun k h' => K (.slice (some ⟨k, 0, none⟩) l.toNat (2 * c.toNat + 1)) h') k
  refine ⟨_, _, φ', _, _, hr, h1, ?_, .slice (.inl ⟨rfl, rfl, _, h2, rfl, rfl⟩) ⟨fun ho => by omega, fun he => by omega⟩ (by omega), ?_, h5⟩
  · rw [hsize]; simpa [uT] using h3
  · rw [hsize]; simpa [uT] using h4
def qD6 : Value → Option Nat
  | .slice none 0 _ => some 0
  | .slice (some _) n _ => some n
  | .string s => some s.size
  | _ => none
def qD7 (h : GH) (es n : Nat) (x : Value) : Option (List Value) :=
  match x with
  | .slice none 0 _ => if n = 0 then some [] else none
  | .slice (some a) _ _ => wA h a (n * es)
  | .string s => if es = 1 then some ((s.data.toList.take n).map fun b => .int .u8 b.toNat) else none
  | _ => none
def qM4 (P : Program) (t : TypeId) (h : GH) (d x : Value) : Option (Nat × GH) :=
  match tF P t, qD6 x with
  | some (_, es, _, _), some m => match d with
    | .slice (some a) dn _ => match qD7 h es (min m dn) x with
      | some cs => if cs.all zK = true then (kQ h a cs).map fun h2 => (min m dn, h2) else none
      | none => none
    | .slice none 0 _ => some (0, h)
    | _ => none
  | _, _ => none
theorem qX5 {P : Program} {φ : Fm} {x x' : Value} (hx : VR φ x x') {m : Nat} (e : qD6 x = some m) (w : World) : (Builtin.lenOf x').run P w = .ok m w := by
  unfold qD6 at e
  split at e
  · cases e; cases hx; simp [Builtin.lenOf]
  · cases e; cases hx; simp [Builtin.lenOf]
  · cases e; cases hx; simp [Builtin.lenOf]
  · cases e
theorem zD1 {P : Program} {N : Nat} {φ : Fm} {h h2 : GH} {w : World} (s : Sim N φ h w) {t u ty : TypeId} {d d' x x' : Value} (hd : VR φ d d') (hx : VR φ x x') {n : Nat} (e : qM4 P t h d x = some (n, h2)) :
    ∃ w', (Builtin.copy_ #[t, u] ty #[d', x']).run P w = .ok (goInt n) w' ∧ Sim N φ h2 w' ∧ Below N w w' := by
  unfold qM4 at e
  split at e
  case h_2 => cases e
  rename_i el es by_ z m hel hm
  obtain ⟨ht, i, hi, hsize, hbytes, hzero, hzs, hpos⟩ := tU hel
  have hl := qX5 (P := P) hx hm
  split at e
  · rename_i a dn dc
    cases hd with
    | slice ha hc hn =>
    rename_i a' c'
    split at e
    case h_2 => cases e
    rename_i cs hcs
    split at e
    case isFalse => cases e
    rename_i hcell
    simp only [Option.map_eq_some_iff, Prod.mk.injEq] at e
    obtain ⟨h2', e1, rfl, rfl⟩ := e
    obtain ⟨cs', p1, p2⟩ : ∃ cs', VRs φ cs cs' ∧ (Builtin.firstCells es (min m dn) x').run P w = .ok cs'.toArray w := by
      unfold qD7 at hcs
      split at hcs
      · split at hcs
        case isFalse => cases hcs
        cases hcs
        cases hx
        exact ⟨[], .nil, by simp [Builtin.firstCells]⟩
      · rename_i b n2 c2
        cases hx with
        | slice hb hcb hnb =>
        rename_i b' c2'
        simp only [qD6, Option.some.injEq] at hm
        subst hm
        rcases hb with hb | h0
        · obtain ⟨cs', q1, q2, q3⟩ := jB s hb hcs
          exact ⟨cs', q1, run_firstCells_some (P := P) w es (min n2 dn) b' n2 c2' cs' q2 q3⟩
        · have h00 : min n2 dn = 0 := by omega
          rw [h00] at hcs ⊢
          have : cs = [] := List.eq_nil_of_length_eq_zero (by simpa using vK hcs)
          subst this
          exact ⟨[], .nil, run_firstCells_some (P := P) w es 0 b' n2 c2' [] (by simp) (by simp)⟩
      · rename_i b
        split at hcs
        case isFalse => cases hcs
        rename_i h1
        subst h1
        cases hcs
        cases hx
        refine ⟨_, VRs.map _ _ (fun b => .int _ _) _, ?_⟩
        simp only [Builtin.firstCells, Sem.run_pure, Result.ok.injEq, and_true]
        apply Array.ext'
        rw [ByteArray.data_extract]
        simp [List.map_take]
      · cases hcs
    have hlen : cs.length = 0 → cs' = [] := fun h0 => List.eq_nil_of_length_eq_zero (by rw [← p1.length]; exact h0)
    rcases ha with ha | h0
    · obtain ⟨w', r1, r2, r3⟩ := sP (P := P) s ha p1 hcell e1
      refine ⟨w', ?_, r2, r3⟩
      simp [Builtin.copy_, run_underlying ht, hl, sizeOf, typeInfo, hi, hsize, p2, r1]
    · have hdn : dn = 0 := by omega
      subst hdn
      have hcs0 : cs = [] := by
        have : cs'.length = 0 := by
          have hl0 : cs.length = cs'.length := p1.length
          rw [← hl0]
          unfold qD7 at hcs
          split at hcs
          · split at hcs
            · cases hcs; rfl
            · cases hcs
          · have := vK hcs; simpa using this
          · split at hcs
            · cases hcs; simp
            · cases hcs
          · cases hcs
        exact List.eq_nil_of_length_eq_zero (by rw [p1.length]; exact this)
      subst hcs0
      have := hlen rfl
      subst this
      simp only [kQ, List.length_nil, if_true, Option.some.injEq] at e1
      subst e1
      refine ⟨w, ?_, s, Below.refl _ _⟩
      simp at p2
      simp [Builtin.copy_, run_underlying ht, hl, sizeOf, typeInfo, hi, hsize, p2, storeCells]
  · rename_i dc
    cases e
    cases hd
    refine ⟨w, ?_, s, Below.refl _ _⟩
    obtain ⟨c, hc⟩ : ∃ c, (Builtin.firstCells es 0 x').run P w = .ok c w := by
      cases hx <;> simp_all [qD6, Builtin.firstCells]
      · rename_i a1 a' _ _ _ _ _ _ _ 
        exact ⟨_, by simpa using run_loadCells_list (P := P) w _ [] (by simp)⟩
    simp [Builtin.copy_, run_underlying ht, hl, sizeOf, typeInfo, hi, hsize, hc, goInt]
  · cases e
def gStr (h : GH) (x : Value) : Option ByteArray :=
  match x with
  | .slice none 0 _ => some .empty
  | .slice (some a) n _ => match wA h a n with
    | some cs => (cs.mapM (fun (v : Value) => (match v with | .int .u8 b => some (UInt8.ofNat b.toNat) | _ => none : Option UInt8))).map fun (l : List UInt8) => ByteArray.mk l.toArray
    | none => none
  | _ => none
theorem zA9 : ∀ (ns : List Int) (s : ByteArray), ns.foldl (fun r n => r.push (UInt8.ofNat n.toNat)) s = ⟨s.data ++ (ns.map fun n => UInt8.ofNat n.toNat).toArray⟩
  | [], s => by simp
  | n :: ns, s => by
    rw [List.foldl_cons, zA9 ns]
    congr 1
    apply Array.ext'
    simp [ByteArray.push]
theorem zJ1 {P : Program} {N : Nat} {φ : Fm} {h : GH} {w : World} (s : Sim N φ h w) {x x' : Value} (hx : VR φ x x') {b : ByteArray} (e : gStr h x = some b) :
    (Conv.bytesToString x').run P w = .ok (.string b) w := by
  unfold gStr at e
  split at e
  · cases e; cases hx; simp [Conv.bytesToString]
  · rename_i a n c
    cases hx with
    | slice ha hc hn =>
    rename_i a' c'
    split at e
    case h_2 => cases e
    rename_i cs hcs
    simp only [Option.map_eq_some_iff] at e
    obtain ⟨l, e1, rfl⟩ := e
    obtain ⟨ns, hns, hl⟩ : ∃ ns : List Int, cs = ns.map (Value.int .u8) ∧ l = ns.map fun n => UInt8.ofNat n.toNat := by
      clear hcs
      induction cs generalizing l with
      | nil => simp at e1; exact ⟨[], rfl, e1⟩
      | cons v cs ih =>
        simp only [List.mapM_cons, Option.bind_eq_bind, Option.pure_def, Option.bind_eq_some_iff, Option.some.injEq] at e1
        obtain ⟨u, e2, l', e3, rfl⟩ := e1
        obtain ⟨ns, rfl, rfl⟩ := ih l' e3
        split at e2
        · rename_i bb
          cases e2
          exact ⟨bb :: ns, rfl, rfl⟩
        · cases e2
    subst hns; subst hl
    have hrun : ∃ cs', (loadCells a' n).run P w = .ok cs' w ∧ VRs φ (ns.map (Value.int .u8)) cs'.toList := by
      rcases ha with ha | h0
      · obtain ⟨cs', q1, q2, q3⟩ := jB s ha hcs
        have := run_loadCells_list (P := P) w a' cs' q3
        rw [q2] at this
        exact ⟨_, this, by simpa using q1⟩
      · have h0' : n = 0 := by omega
        subst h0'
        have : ns = [] := by have := vK hcs; simpa using this
        subst this
        exact ⟨#[], by simpa using run_loadCells_list (P := P) w a' [] (by simp), .nil⟩
    obtain ⟨cs', r1, r2⟩ := hrun
    have : cs' = (ns.map (Value.int .u8)).toArray := by
      apply Array.ext'
      have : ∀ (l : List Int) (m : List Value), VRs φ (l.map (Value.int .u8)) m → m = l.map (Value.int .u8) := by
        intro l
        induction l with
        | nil => intro m hm; cases hm; rfl
        | cons x l ih =>
          intro m hm
          cases hm with
          | cons h hs =>
          cases h
          rw [ih _ hs]; rfl
      exact this ns _ r2
    subst this
    rw [run_bytesToString w a' n c' ns r1, zA9]
    congr 3
    have h0 : ByteArray.empty.data = #[] := rfl
    rw [h0, Array.empty_append]
  · cases e
def gInt (op : BinOp) (k : IntKind) (a : Int) (k' : IntKind) (b : Int) (h : GH) (K : Value → GH → Prop) : Prop :=
  match op with
  | .shl => 0 ≤ b ∧ K (.int k (k.wrap (a * 2 ^ min b.toNat k.bits))) h
  | .shr => 0 ≤ b ∧ K (.int k (a.fdiv (2 ^ min b.toNat k.bits))) h
  | .add => k = k' ∧ K (.int k (k.wrap (a + b))) h
  | .sub => k = k' ∧ K (.int k (k.wrap (a - b))) h
  | .mul => k = k' ∧ K (.int k (k.wrap (a * b))) h
  | .quo => k = k' ∧ b ≠ 0 ∧ K (.int k (k.wrap (a.tdiv b))) h
  | .rem => k = k' ∧ b ≠ 0 ∧ K (.int k (a.tmod b)) h
  | .and => k = k' ∧ K (.int k (bits .and k a b)) h
  | .or => k = k' ∧ K (.int k (bits .or k a b)) h
  | .xor => k = k' ∧ K (.int k (bits .xor k a b)) h
  | .andNot => k = k' ∧ K (.int k (bits .andNot k a b)) h
  | .eql => k = k' ∧ K (.bool (a == b)) h
  | .neq => k = k' ∧ K (.bool (a != b)) h
  | .lss => k = k' ∧ K (.bool (decide (a < b))) h
  | .leq => k = k' ∧ K (.bool (decide (a ≤ b))) h
  | .gtr => k = k' ∧ K (.bool (decide (a > b))) h
  | .geq => k = k' ∧ K (.bool (decide (a ≥ b))) h
theorem zJ6 {P : Program} {op : BinOp} {t : TypeId} {k k' : IntKind} {a b : Int} {h : GH} {K : Value → GH → Prop} (g : gInt op k a k' b h K) (w : World) :
    ∃ v, (binOp op t (.int k a) (.int k' b)).run P w = .ok v w ∧ K v h ∧ (∀ φ, VR φ v v) := by
  cases op <;> simp only [gInt] at g
  case shl => exact ⟨_, by simp [binOp, Op.shift, Int.not_lt.2 g.1], g.2, fun _ => .int _ _⟩
  case shr => exact ⟨_, by simp [binOp, Op.shift, Int.not_lt.2 g.1], g.2, fun _ => .int _ _⟩
  case quo => obtain ⟨rfl, g1, g2⟩ := g; exact ⟨_, by simp [binOp, Op.intDiv, g1], g2, fun _ => .int _ _⟩
  case rem => obtain ⟨rfl, g1, g2⟩ := g; exact ⟨_, by simp [binOp, Op.intDiv, g1], g2, fun _ => .int _ _⟩
  case add => obtain ⟨rfl, g⟩ := g; exact ⟨_, by simp [binOp, Op.intArith], g, fun _ => .int _ _⟩
  case sub => obtain ⟨rfl, g⟩ := g; exact ⟨_, by simp [binOp, Op.intArith], g, fun _ => .int _ _⟩
  case mul => obtain ⟨rfl, g⟩ := g; exact ⟨_, by simp [binOp, Op.intArith], g, fun _ => .int _ _⟩
  case and => obtain ⟨rfl, g⟩ := g; exact ⟨_, by simp [binOp, Op.intBits, bits], g, fun _ => .int _ _⟩
  case or => obtain ⟨rfl, g⟩ := g; exact ⟨_, by simp [binOp, Op.intBits, bits], g, fun _ => .int _ _⟩
  case xor => obtain ⟨rfl, g⟩ := g; exact ⟨_, by simp [binOp, Op.intBits, bits], g, fun _ => .int _ _⟩
  case andNot => obtain ⟨rfl, g⟩ := g; exact ⟨_, by simp [binOp, Op.intBits, bits], g, fun _ => .int _ _⟩
  case eql => obtain ⟨rfl, g⟩ := g; exact ⟨_, by simp [binOp, Op.intCmp], g, fun _ => .bool _⟩
  case neq => obtain ⟨rfl, g⟩ := g; exact ⟨_, by simp [binOp, Op.intCmp], g, fun _ => .bool _⟩
  case lss => obtain ⟨rfl, g⟩ := g; exact ⟨_, by simp [binOp, Op.intCmp], g, fun _ => .bool _⟩
  case leq => obtain ⟨rfl, g⟩ := g; exact ⟨_, by simp [binOp, Op.intCmp], g, fun _ => .bool _⟩
  case gtr => obtain ⟨rfl, g⟩ := g; exact ⟨_, by simp [binOp, Op.intCmp], g, fun _ => .bool _⟩
  case geq => obtain ⟨rfl, g⟩ := g; exact ⟨_, by simp [binOp, Op.intCmp], g, fun _ => .bool _⟩
def gStrOp (op : BinOp) (x y : ByteArray) (h : GH) (K : Value → GH → Prop) : Prop :=
  match op with
  | .add => x.size + y.size ≤ 9223372036854775807 ∧ K (.string (x ++ y)) h
  | .eql => K (.bool (x.toList == y.toList)) h
  | .neq => K (.bool (!(x.toList == y.toList))) h
  | .lss => K (.bool (Op.bytesLess x.toList y.toList)) h
  | .leq => K (.bool (Op.bytesLess x.toList y.toList || x.toList == y.toList)) h
  | .gtr => K (.bool (!(Op.bytesLess x.toList y.toList || x.toList == y.toList))) h
  | .geq => K (.bool (!(Op.bytesLess x.toList y.toList))) h
  | _ => False
theorem qX1 {P : Program} {op : BinOp} {t : TypeId} {x y : ByteArray} {h : GH} {K : Value → GH → Prop} (g : gStrOp op x y h K) (w : World) :
    ∃ v, (binOp op t (.string x) (.string y)).run P w = .ok v w ∧ K v h ∧ (∀ φ, VR φ v v) := by
  cases op <;> simp only [gStrOp] at g <;> try exact g.elim
  case add =>
    refine ⟨_, ?_, g.2, fun _ => .string _⟩
    have h9 : (x.size : Int) + (y.size : Int) ≤ 9223372036854775807 := by omega
    have h8 : ¬ ((9223372036854775807 : Int) < (x.size : Int) + (y.size : Int)) := by omega
    simp [binOp, Op.stringOp, h8]
  all_goals exact ⟨_, by simp [binOp, Op.stringOp], g, fun _ => .bool _⟩
def eqOk (P : Program) (t : TypeId) : Bool := !(P.eqGuardType P.depth t) && !(P.stoodInHeld t)
def gEq0 (P : Program) (t : TypeId) (x y : Value) : Option Bool :=
  match P.underlying t, x, y with
  | some (.int _), .int k a, .int k' b => if k = k' then some (a == b) else none
  | some .bool, .bool a, .bool b => some (a == b)
  | some .string, .string a, .string b => some (a.toList == b.toList)
  | _, _, _ => none
def zD0 (P : Program) (xs ys : Array Value) : List Field → Option Bool
  | [] => some true
  | f :: r =>
    if f.name = "_" then none else
    match vG P f.type, xs[f.offset]?, ys[f.offset]? with
    | some (false, _), some x, some y => match gEq0 P f.type x y, zD0 P xs ys r with
      | some b, some c => some (b && c)
      | _, _ => none
    | _, _, _ => none
def qX9 (P : Program) (t : TypeId) (cst : Bool) (x y : Value) : Option Bool :=
  match P.underlying t, x, y with
  | some .bool, .bool a, .bool b => some (a == b)
  | some (.pointer _), .pointer none, .pointer b => some b.isNone
  | some (.pointer _), .pointer (some _), .pointer none => some false
  | some (.slice _), .slice none _ _, .slice b _ _ => some b.isNone
  | some (.slice _), .slice (some _) _ _, .slice none _ _ => some false
  | some (.interface _), .nilIface, .nilIface => if cst then some true else none
  | some (.interface _), .nilIface, .iface _ _ => some false
  | some (.interface _), .iface _ _, .nilIface => some false
  | some (.func _ _ _), .nilFunc, .nilFunc => some true
  | some (.func _ _ _), .nilFunc, .func _ _ _ => some false
  | some (.func _ _ _), .func _ _ _, .nilFunc => some false
  | some (.struct fs), .agg xs, .agg ys => if eqOk P t = true then zD0 P xs ys fs.toList else none
  | _, _, _ => none
theorem zJ7 {P : Program} {φ : Fm} {t : TypeId} {x y x' y' : Value} (hx : VR φ x x') (hy : VR φ y y') {b : Bool} (e : gEq0 P t x y = some b) (d : Nat) (w : World) : (Op.equalIn (d + 1) t x' y').run P w = .ok b w := by
  unfold gEq0 at e
  split at e
  · split at e
    case isFalse => cases e
    rename_i hu hk
    subst hk
    cases e; cases hx; cases hy
    exact run_equalIn_int w d t _ _ _ _ hu
  · rename_i hu
    cases e; cases hx; cases hy
    exact run_equalIn_bool' w d t _ _ hu
  · rename_i hu
    cases e; cases hx; cases hy
    exact run_equalIn_string w d t _ _ hu
  · cases e
theorem tC {P : Program} {t : TypeId} {n : Nat} (hz : vG P t = some (false, n)) (cs : Array Value) (o : Nat) {v : Value} (hv : cs[o]? = some v) (w : World) : (part t cs o).run P w = .ok v w := by
  simp [part, (vP hz w).1, hv]
theorem qG9 {P : Program} {φ : Fm} {xs ys xs' ys' : Array Value} (hx : VRs φ xs.toList xs'.toList) (hy : VRs φ ys.toList ys'.toList) (d : Nat) (w : World) :
    ∀ (fs : List Field) (b : Bool), zD0 P xs ys fs = some b → (Op.eqFields (d + 1) xs' ys' fs).run P w = .ok b w
  | [], b, e => by
    simp only [zD0, Option.some.injEq] at e
    subst e
    simp [Op.eqFields]
  | f :: r, b, e => by
    simp only [zD0] at e
    split at e
    · cases e
    rename_i hn
    split at e
    case h_2 => cases e
    rename_i x1 x2 x3 sz x y hz hxo hyo
    split at e
    case h_2 => cases e
    rename_i z1 z2 b1 c h1 h2
    cases e
    obtain ⟨x', p1, p2⟩ := hx.get f.offset x (by simpa using hxo)
    obtain ⟨y', q1, q2⟩ := hy.get f.offset y (by simpa using hyo)
    have ih := qG9 hx hy d w r c h2
    have r0 := zJ7 (P := P) p2 q2 h1 d w
    have rx := tC (P := P) hz xs' f.offset (by simpa using p1) w
    have ry := tC (P := P) hz ys' f.offset (by simpa using q1) w
    simp only [Op.eqFields, ne_eq, hn, not_false_eq_true, if_true, Sem.run_bind, rx, ry, r0, Result.andThen_ok]
    cases b1 <;> simp [ih]
theorem deep' {P : Program} {t : TypeId} {x y : Value} {r : Result Bool} {w : World} (n : Nat) (h : (Op.equalIn (n + 1) t x y).run P w = r) (hn : n = 9999 := by rfl) : (Op.equal t x y).run P w = r := by subst hn; exact h
theorem qF1 {P : Program} {t : TypeId} {x y : Value} {b : Bool} {w : World} (h : ∀ d : Nat, (Op.equalIn (d + 1) t x y).run P w = .ok b w) : (Op.equal t x y).run P w = .ok b w := h 9999
theorem zS2 {P : Program} {φ : Fm} {t : TypeId} {cst : Bool} {x y x' y' : Value} (hx : VR φ x x') (hy : VR φ y y') {b : Bool} (e : qX9 P t cst x y = some b) (w : World) :
    (Op.equal t x' y').run P w = .ok b w ∧ (∀ op ox oy, (cst = true → (ox matches .const _) ∨ (oy matches .const _)) → (eqGuard op t ox oy x' y').run P w = .ok () w) ∧ (∀ k n, x' ≠ .int k n) ∧ (∀ s, x' ≠ .string s) ∧ (∀ k n, x' ≠ .float k n) ∧ (∀ k n m, x' ≠ .complex k n m) := by
  unfold qX9 at e
  have triv : ∀ (op : BinOp) (ox oy : Operand), (∀ a b, ¬ (x' = .agg a ∧ y' = .agg b)) → ¬ (x' = .nilIface ∧ y' = .nilIface) → (eqGuard op t ox oy x' y').run P w = .ok () w := by
    intro op ox oy h1 h2
    unfold eqGuard
    cases op <;> simp [Sem.run_bind] <;> (split <;> simp_all)
  split at e
  · rename_i hu; cases e; cases hx; cases hy
    exact ⟨qF1 fun d => by simp [Op.equalIn, run_underlying hu], fun _ _ _ _ => triv _ _ _ (by simp) (by simp), by simp, by simp, by simp, by simp⟩
  · rename_i hu; cases e; cases hx
    cases hy with
    | pnil => exact ⟨qF1 fun d => by simp [Op.equalIn, run_underlying hu], fun _ _ _ _ => triv _ _ _ (by simp) (by simp), by simp, by simp, by simp, by simp⟩
    | ptr ha => exact ⟨qF1 fun d => by simp [Op.equalIn, run_underlying hu], fun _ _ _ _ => triv _ _ _ (by simp) (by simp), by simp, by simp, by simp, by simp⟩
  · rename_i hu; cases e; cases hx; cases hy
    exact ⟨qF1 fun d => by simp [Op.equalIn, run_underlying hu], fun _ _ _ _ => triv _ _ _ (by simp) (by simp), by simp, by simp, by simp, by simp⟩
  · rename_i hu; cases e; cases hx
    cases hy with
    | snil => exact ⟨qF1 fun d => by simp [Op.equalIn, run_underlying hu], fun _ _ _ _ => triv _ _ _ (by simp) (by simp), by simp, by simp, by simp, by simp⟩
    | slice => exact ⟨qF1 fun d => by simp [Op.equalIn, run_underlying hu], fun _ _ _ _ => triv _ _ _ (by simp) (by simp), by simp, by simp, by simp, by simp⟩
  · rename_i hu; cases e; cases hx; cases hy
    exact ⟨qF1 fun d => by simp [Op.equalIn, run_underlying hu], fun _ _ _ _ => triv _ _ _ (by simp) (by simp), by simp, by simp, by simp, by simp⟩
  · rename_i hu
    split at e
    case isFalse => cases e
    rename_i hc
    cases e; cases hx; cases hy
    refine ⟨qF1 fun d => by simp [Op.equalIn, run_underlying hu], fun op ox oy h => ?_, by simp, by simp, by simp, by simp⟩
    have := h hc
    unfold eqGuard
    rcases this with h | h
    · split at h
      case h_2 => cases h
      cases op <;> simp [Sem.run_bind]
    · split at h
      case h_2 => cases h
      cases op <;> simp [Sem.run_bind]
  · rename_i hu; cases e; cases hx; cases hy
    exact ⟨qF1 fun d => by simp [Op.equalIn, run_underlying hu], fun _ _ _ _ => triv _ _ _ (by simp) (by simp), by simp, by simp, by simp, by simp⟩
  · rename_i hu; cases e; cases hx; cases hy
    exact ⟨qF1 fun d => by simp [Op.equalIn, run_underlying hu], fun _ _ _ _ => triv _ _ _ (by simp) (by simp), by simp, by simp, by simp, by simp⟩
  · rename_i hu; cases e; cases hx; cases hy
    exact ⟨qF1 fun d => by simp [Op.equalIn, run_underlying hu], fun _ _ _ _ => triv _ _ _ (by simp) (by simp), by simp, by simp, by simp, by simp⟩
  · rename_i hu; cases e; cases hx; cases hy
    exact ⟨qF1 fun d => by simp [Op.equalIn, run_underlying hu], fun _ _ _ _ => triv _ _ _ (by simp) (by simp), by simp, by simp, by simp, by simp⟩
  · rename_i hu; cases e; cases hx; cases hy
    exact ⟨qF1 fun d => by simp [Op.equalIn, run_underlying hu], fun _ _ _ _ => triv _ _ _ (by simp) (by simp), by simp, by simp, by simp, by simp⟩
  · rename_i fs xs ys hu
    split at e
    case isFalse => cases e
    rename_i hc
    simp only [eqOk, Bool.and_eq_true, Bool.not_eq_true'] at hc
    cases hx with
    | agg hx =>
    rename_i xs'
    cases hy with
    | agg hy =>
    rename_i ys'
    have hf : P.fieldsOf t = fs := by simp [Program.fieldsOf, hu]
    refine ⟨?_, fun op ox oy _ => ?_, by simp, by simp, by simp, by simp⟩
    · have := run_equalIn_struct (P := P) w 9999 t xs' ys' (by rw [hf]; exact hu) hc.2
      refine deep' 9999 ?_
      rw [this, hf]
      exact qG9 hx hy 9998 w _ _ e
    · unfold eqGuard
      cases op <;> simp [Sem.run_bind, hc.1]
  · cases e
def uQ (o : Option Value) (h : GH) (K : Value → GH → Prop) : Prop := ∃ v, o = some v ∧ K v h
theorem zQ7 (v : Value) (h : GH) (K : Value → GH → Prop) : uQ (some v) h K = K v h := by simp [uQ]
def gBin (P : Program) (op : BinOp) (t : TypeId) (cst : Bool) (x y : Value) (h : GH) (K : Value → GH → Prop) : Prop :=
  match x, y with
  | .int k a, .int k' b => gInt op k a k' b h K
  | .string a, .string b => gStrOp op a b h K
  | x, y => match op with
    | .eql => uQ ((qX9 P t cst x y).map .bool) h K
    | .neq => uQ ((qX9 P t cst x y).map fun b => .bool !b) h K
    | _ => False
theorem zU2 {P : Program} {w : World} {t : TypeId} {x y : Value} {b : Bool} (h : (Op.equal t x y).run P w = .ok b w) (h1 : ∀ k n, x ≠ .int k n) (h2 : ∀ s, x ≠ .string s) (h3 : ∀ k n, x ≠ .float k n) (h4 : ∀ k n m, x ≠ .complex k n m) :
    (binOp .eql t x y).run P w = .ok (.bool b) w ∧ (binOp .neq t x y).run P w = .ok (.bool (!b)) w := by
  cases x <;> first | exact absurd rfl (h1 _ _) | exact absurd rfl (h2 _) | exact absurd rfl (h3 _ _) | exact absurd rfl (h4 _ _ _) | skip
  all_goals
    simp only [binOp]
    simp [h]
def isC : Operand → Bool | .const _ => true | _ => false
theorem zK1 {P : Program} {φ : Fm} {op : BinOp} {t : TypeId} {ox oy : Operand} {x y x' y' : Value} (hx : VR φ x x') (hy : VR φ y y') {h : GH} {K : Value → GH → Prop} (g : gBin P op t (isC ox || isC oy) x y h K) (w : World) :
    ∃ v, ((do eqGuard op t ox oy x' y'; binOp op t x' y') : Sem Value).run P w = .ok v w ∧ K v h ∧ (∀ φ, VR φ v v) := by
  unfold gBin at g
  have gI : ∀ (k k' : IntKind) (a b : Int), (eqGuard op t ox oy (.int k a) (.int k' b)).run P w = .ok () w := by
    intro k k' a b
    unfold eqGuard
    cases op <;> simp [Sem.run_bind]
  have gS : ∀ (a b : ByteArray), (eqGuard op t ox oy (.string a) (.string b)).run P w = .ok () w := by
    intro a b
    unfold eqGuard
    cases op <;> simp [Sem.run_bind]
  split at g
  · cases hx; cases hy
    obtain ⟨v, h1, h2, h3⟩ := zJ6 (P := P) (t := t) g w
    exact ⟨v, by simp [Sem.run_bind, gI, h1], h2, h3⟩
  · cases hx; cases hy
    obtain ⟨v, h1, h2, h3⟩ := qX1 (P := P) (t := t) g w
    exact ⟨v, by simp [Sem.run_bind, gS, h1], h2, h3⟩
  · have key : ∀ b, qX9 P t (isC ox || isC oy) x y = some b →
        (∀ op, (eqGuard op t ox oy x' y').run P w = .ok () w) ∧ (binOp .eql t x' y').run P w = .ok (.bool b) w ∧ (binOp .neq t x' y').run P w = .ok (.bool (!b)) w := by
      intro b e
      obtain ⟨h1, h2, h3, h4, h5, h6⟩ := zS2 (P := P) hx hy e w
      obtain ⟨h7, h8⟩ := zU2 h1 h3 h4 h5 h6
      exact ⟨fun op => h2 op ox oy (by cases ox <;> cases oy <;> simp [isC]), h7, h8⟩
    split at g
    · obtain ⟨v, e0, k⟩ := g
      simp only [Option.map_eq_some_iff] at e0
      obtain ⟨b, e, rfl⟩ := e0
      obtain ⟨h1, h2, h3⟩ := key b e
      exact ⟨.bool b, by simp [Sem.run_bind, h1, h2], k, fun _ => .bool _⟩
    · obtain ⟨v, e0, k⟩ := g
      simp only [Option.map_eq_some_iff] at e0
      obtain ⟨b, e, rfl⟩ := e0
      obtain ⟨h1, h2, h3⟩ := key b e
      exact ⟨.bool (!b), by simp [Sem.run_bind, h1, h3], k, fun _ => .bool _⟩
    · exact g.elim
def gUn (op : UnOp) (x : Value) : Option Value :=
  match op, x with
  | .neg, .int k n => some (.int k (k.wrap (0 - n)))
  | .xor, .int k n => some (.int k (bits .xor k (if k.signed then -1 else k.max) n))
  | .not, .bool b => some (.bool !b)
  | _, _ => none
theorem zR9 {P : Program} {φ : Fm} {op : UnOp} {x x' v : Value} (hx : VR φ x x') (e : gUn op x = some v) (w : World) : (Op.unary op x').run P w = .ok v w ∧ (∀ φ, VR φ v v) := by
  unfold gUn at e
  split at e
  · cases e; cases hx; exact ⟨by simp [Op.unary, Op.intArith], fun _ => .int _ _⟩
  · cases e; cases hx; exact ⟨by simp [Op.unary, Op.intBits, bits], fun _ => .int _ _⟩
  · cases e; cases hx; exact ⟨by simp [Op.unary], fun _ => .bool _⟩
  · cases e
def sY (P : Program) (src dst : TypeId) (h : GH) (x : Value) : Option Value :=
  match P.underlying dst, x with
  | some (.int k), .int _ n => some (.int k (k.wrap n))
  | some .string, .string s => some (.string s)
  | some .string, .slice a n c => match P.underlying src with
    | some (.slice e) => match P.underlying e with
      | some (.int .u8) => (gStr h (.slice a n c)).map .string
      | _ => none
    | _ => none
  | _, _ => none
theorem zD2 {P : Program} {N : Nat} {φ : Fm} {h : GH} {w : World} (s : Sim N φ h w) {src dst : TypeId} {x x' v : Value} (hx : VR φ x x') (hsrc : (P.underlying src).isSome = true) (e : sY P src dst h x = some v) :
    (convert src dst x').run P w = .ok v w ∧ (∀ φ, VR φ v v) := by
  obtain ⟨d, hd⟩ := Option.isSome_iff_exists.1 hsrc
  unfold sY at e
  split at e
  · rename_i hu; cases e; cases hx
    exact ⟨by cases d <;> simp [convert, run_underlying hu, run_underlying hd, Conv.intToInt], fun _ => .int _ _⟩
  · rename_i hu; cases e; cases hx
    exact ⟨by cases d <;> simp [convert, run_underlying hu, run_underlying hd], fun _ => .string _⟩
  · rename_i a n c hu
    split at e
    case h_2 => cases e
    rename_i el hsl
    split at e
    case h_2 => cases e
    rename_i hel
    simp only [Option.map_eq_some_iff] at e
    obtain ⟨b, e1, rfl⟩ := e
    have h1 := zJ1 (P := P) s hx e1
    refine ⟨?_, fun _ => .string _⟩
    obtain ⟨a', n', c', rfl⟩ : ∃ a' n' c', x' = .slice a' n' c' := by cases hx <;> exact ⟨_, _, _, rfl⟩
    rw [run_convert_bytes_string w src dst el a' n' c' hsl hel hu, h1]
  · cases e
def vcells : Value → List Value
  | .agg cs => cs.toList
  | v => [v]
theorem vM (v : Value) : v.cells.toList = vcells v := by cases v <;> rfl
def vY (cs : List Value) (off : Nat) : List Value → List Value
  | [] => cs
  | v :: r => vY (cs.set off v) (off + 1) r
def xZ (pl : Nat → Option (Nat × Nat)) (cs : List Value) : List (Nat × Value) → Option (List Value)
  | [] => some cs
  | (i, v) :: r => match pl i with
    | none => none
    | some (off, size) => if (vcells v).length = size ∧ off + (vcells v).length ≤ cs.length ∧ (vcells v).all zK = true then xZ pl (vY cs off (vcells v)) r else none
theorem qR4 : ∀ (l : List Value) (off n : Nat) (c : Array Value), ((l.zipIdx n).foldl (fun cs (x : Value × Nat) => cs.setIfInBounds (off + x.2) x.1) c).toList = vY c.toList (off + n) l
  | [], off, n, c => rfl
  | v :: r, off, n, c => by
    simp only [List.zipIdx_cons, List.foldl_cons, vY]
    rw [qR4 r off (n + 1)]
    simp [Nat.add_assoc]
theorem zN5 {φ : Fm} : ∀ {l l' : List Value} {cs cs' : List Value} (off : Nat), VRs φ l l' → VRs φ cs cs' → VRs φ (vY cs off l) (vY cs' off l')
  | _, _, _, _, _, .nil, hc => hc
  | _, _, _, _, off, .cons h hs, hc => zN5 (off + 1) hs (hc.set off h)
inductive VRq (φ : Fm) : List (Nat × Value) → List (Nat × Value) → Prop
  | nil : VRq φ [] []
  | cons {i : Nat} {v v' : Value} {l l' : List (Nat × Value)} (h : VR φ v v') (hs : VRq φ l l') : VRq φ ((i, v) :: l) ((i, v') :: l')
theorem rT {φ : Fm} (pl : Nat → Option (Nat × Nat)) : ∀ {ps ps' : List (Nat × Value)} {cs : List Value} {c' : Array Value} {r : List Value}, VRq φ ps ps' → VRs φ cs c'.toList → xZ pl cs ps = some r →
    ∃ r', Instr.fill pl c' ps' = some r' ∧ VRs φ r r'.toList
  | _, _, cs, c', r, .nil, hc, e => by
    simp only [xZ, Option.some.injEq] at e
    exact ⟨c', rfl, e ▸ hc⟩
  | _, _, cs, c', r, .cons (i := i) (v := v) (v' := v') h hs, hc, e => by
    simp only [xZ] at e
    unfold Instr.fill
    cases hp : pl i with
    | none => simp [hp] at e
    | some x =>
      obtain ⟨off, size⟩ := x
      simp only [hp] at e ⊢
      split at e
      case isFalse => cases e
      rename_i hcond
      obtain ⟨h1, h2, h3⟩ := hcond
      have hcs := h.cells (by rw [vM]; exact h3)
      have hl : v'.cells.size = size := by
        have := hcs.length; rw [vM, h1] at this; simpa using this.symm
      have hl2 : c'.size = cs.length := by have := hc.length; simpa using this.symm
      have hneg : ¬ (v'.cells.size ≠ size ∨ off + v'.cells.size > c'.size) := by rw [hl, hl2]; omega
      rw [if_neg (by simpa using hneg)]
      rw [zT1]
      have hfold := qR4 v'.cells.toList off 0 c'
      rw [vM] at hcs
      refine rT pl hs ?_ e
      rw [hfold, Nat.add_zero]
      exact zN5 off hcs hc
def gpls (P : Program) : List Field → Option (List (Nat × Nat))
  | [] => some []
  | f :: r => match vG P f.type, gpls P r with
    | some (_, n), some l => some ((f.offset, n) :: l)
    | _, _ => none
theorem qL8 {P : Program} (w : World) : ∀ (fs : List Field) (l : List (Nat × Nat)), gpls P fs = some l → (fs.mapM (fun f => do pure (f.offset, ← sizeOf f.type) : Field → Sem (Nat × Nat))).run P w = .ok l w
  | [], l, h => by
    simp only [gpls, Option.some.injEq] at h
    subst h; simp
  | f :: r, l, h => by
    simp only [gpls] at h
    split at h
    case h_2 => cases h
    rename_i x1 x2 b n l' h1 h2
    cases h
    have ih := qL8 w r l' h2
    simp only [List.mapM_cons, Sem.run_bind, (vP h1 w).2, Result.andThen_ok, Sem.run_pure, ih]
inductive Shape | fields (l : List (Nat × Nat)) | elems (es : Nat)
def Shape.pl : Shape → Nat → Option (Nat × Nat)
  | .fields l => fun i => l[i]?
  | .elems es => fun i => some (i * es, es)
def wH (P : Program) (t : TypeId) : Option (Shape × List Value) :=
  match P.info? t with
  | some i => match i.zero with
    | some z => if zH2 z = true then
        match P.underlying t with
        | some (.struct fs) => match gpls P fs.toList with
          | some l => some (.fields l, z.cells.toList)
          | none => none
        | some (.array _ e) => match vG P e with
          | some (_, es) => some (.elems es, z.cells.toList)
          | none => none
        | _ => none
      else none
    | none => none
  | none => none
def xP (P : Program) (t : TypeId) (ps : List (Nat × Value)) : Option Value :=
  match wH P t with
  | some (sh, z) => match xZ sh.pl z ps with
    | some l => some (.agg l.toArray)
    | none => none
  | none => none
theorem qY2 {P : Program} {φ : Fm} {t : TypeId} {ps : List (Nat × Value)} {ps' : Array (Nat × Value)} (hp : VRq φ ps ps'.toList) {v : Value} (e : xP P t ps = some v) (w : World) :
    ∃ v', (Instr.build t ps').run P w = .ok v' w ∧ VR φ v v' := by
  unfold xP at e
  split at e
  case h_2 => cases e
  rename_i sh zc hsh
  split at e
  case h_2 => cases e
  rename_i l hl
  cases e
  unfold wH at hsh
  split at hsh
  case h_2 => cases hsh
  rename_i i hi
  split at hsh
  case h_2 => cases hsh
  rename_i z hz
  split at hsh
  case isFalse => cases hsh
  rename_i hclo
  split at hsh
  · rename_i fs hu
    split at hsh
    case h_2 => cases hsh
    rename_i pls hpls
    cases hsh
    obtain ⟨r', r1, r2⟩ := rT (φ := φ) _ hp (cs := z.cells.toList) (c' := z.cells) (uS (mI hclo)) hl
    have hm := qL8 (P := P) w _ _ hpls
    have hm' : (fs.mapM (fun f => do pure (f.offset, ← sizeOf f.type) : Field → Sem (Nat × Nat))).run P w = .ok pls.toArray w := by
      rw [Array.mapM_eq_mapM_toList, Sem.run_map, hm]
      rfl
    refine ⟨.agg r', ?_, .agg (by simpa using r2)⟩
    have r1' : Instr.fill (fun x => pls.toArray[x]?) z.cells ps'.toList = some r' := by
      have : (fun x => pls.toArray[x]?) = Shape.pl (.fields pls) := by funext x; simp [Shape.pl]
      rw [this]; exact r1
    simp only [Instr.build, Sem.run_bind, zeroValue, typeInfo, run_program, Result.andThen_ok, hi, hz, Sem.run_pure, run_underlying hu, hm', r1']
  · rename_i n el hu
    split at hsh
    case h_2 => cases hsh
    rename_i b es hes
    cases hsh
    obtain ⟨r', r1, r2⟩ := rT (φ := φ) _ hp (cs := z.cells.toList) (c' := z.cells) (uS (mI hclo)) hl
    refine ⟨.agg r', ?_, .agg (by simpa using r2)⟩
    have r1' : Instr.fill (fun i => some (i * es, es)) z.cells ps'.toList = some r' := r1
    simp only [Instr.build, Sem.run_bind, zeroValue, typeInfo, run_program, Result.andThen_ok, hi, hz, Sem.run_pure, run_underlying hu, (vP hes w).2, r1']
  · cases hsh
def gC (P : Program) (t : TypeId) (h : GH) (len : Nat) (ps : List (Nat × Value)) (K : Value → GH → Prop) : Prop :=
  ∃ e es by_ z cs, tF P t = some (e, es, by_, z) ∧ zH2 z = true ∧ len * es ≤ 16777216 ∧ xZ (Shape.elems es).pl (uT z (len * es)) ps = some cs ∧ cs.all zK = true ∧
    (len = 0 → K (.slice (some ⟨0, 0, none⟩) 0 1) h) ∧ (len ≠ 0 → ∀ k, h k = none → K (.slice (some ⟨k, 0, none⟩) len (2 * len + 1)) (yB h k ⟨cs, es, true, false⟩))
theorem qA3 {P : Program} {N : Nat} {φ : Fm} {h : GH} {w : World} (s : Sim N φ h w) {t : TypeId} {len : Nat} {ps : List (Nat × Value)} {ps' : Array (Nat × Value)} (hp : VRq φ ps ps'.toList) {K : Value → GH → Prop} (g : gC P t h len ps K) :
    Yes P N φ w (Instr.buildSlice t len ps') K := by
  obtain ⟨e, es, by_, z, cs, hel, hclo, hlen, hfill, hcell, g⟩ := g
  obtain ⟨ht, i, hi, hsize, hbytes, hzero, hzs, hpos⟩ := tU hel
  obtain ⟨r', r1, r2⟩ := rT (φ := φ) _ hp (cs := uT z (len * es)) (c' := madeCells z.cells (len * es)) (uS (qC0 hclo (by rw [hzs]; exact hpos) _)) hfill
  have hrun : (Instr.buildSlice t len ps').run P w = .ok (.slice (some ⟨w.heap.size, 0, none⟩) len len) (w.alloc (.cells r' e)) := by
    have hnot : ¬ (len * es > 2 ^ 24) := by omega
    have r1' : Instr.fill (fun i => some (i * es, es)) (madeCells z.cells (len * es)) ps'.toList = some r' := r1
    have hnot' : ¬ (16777216 < len * es) := by omega
    by_cases h0 : len * es = 0
    · have hf : Instr.fill (fun i => some (i * es, es)) #[] ps'.toList = some r' := by
        have : madeCells z.cells (len * es) = #[] := by rw [h0]; simp [madeCells, Array.range_zero']
        rw [this] at r1'; exact r1'
      simp [Instr.buildSlice, run_underlying ht, sizeOf, typeInfo, hi, hsize, h0, Array.range_zero', newRow, hf]
    · have hf : Instr.fill (fun i => some (i * es, es)) (Array.map (fun x => z.cells[x % z.cells.size]!) (Array.range (len * es))) ps'.toList = some r' := r1'
      simp [Instr.buildSlice, run_underlying ht, sizeOf, typeInfo, zeroValue, hzero, hi, hsize, h0, hnot', newRow, hf]
  by_cases h00 : len = 0
  · have k := g.1 h00
    subst h00
    refine ⟨_, _, φ, _, h, hrun, Ext.refl _, s.grow (by simp) (fun j hj => Below.heap_alloc _ _ _ hj), ?_, sW s.big _, k⟩
    exact .slice (.inr rfl) ⟨fun _ => rfl, fun he => by omega⟩ (Nat.le_refl _)
  · have k := g.2 h00
    obtain ⟨φ', k0, h1, h2, h3, h4, h5⟩ := sQ (P := P) s r2 e es (K := fun k h' => K (.slice (some ⟨k, 0, none⟩) len (2 * len + 1)) h') k
    refine ⟨_, _, φ', _, _, hrun, h1, by simpa using h3, .slice (.inl ⟨rfl, rfl, _, h2, rfl, rfl⟩) ⟨fun ho => by omega, fun he => by omega⟩ (Nat.le_refl _), by simpa using h4, h5⟩
def qF (P : Program) (t : TypeId) (cs : Array Value) (off : Nat) : Option Value :=
  match vG P t with
  | some (true, n) => some (.agg (cs.extract off (off + n)))
  | some (false, _) => cs[off]?
  | none => none
theorem qG6 {P : Program} {φ : Fm} {t : TypeId} {cs cs' : Array Value} (hc : VRs φ cs.toList cs'.toList) {off : Nat} {v : Value} (e : qF P t cs off = some v) (w : World) :
    ∃ v', (part t cs' off).run P w = .ok v' w ∧ VR φ v v' := by
  unfold qF at e
  split at e
  · rename_i n hz
    cases e
    refine ⟨.agg (cs'.extract off (off + n)), by simp [part, (vP hz w).1, (vP hz w).2], .agg ?_⟩
    simp only [Array.toList_extract, List.extract_eq_take_drop]
    exact (hc.drop _).take _
  · rename_i n hz
    obtain ⟨v', p1, p2⟩ := hc.get off v (by simpa using e)
    exact ⟨v', tC hz _ _ (by simpa using p1) w, p2⟩
  · cases e
def qX8 (P : Program) (t : TypeId) (x : Value) (f : Nat) : Option Value :=
  match P.underlying t, x with
  | some (.struct fs), .agg cs => match fs[f]? with
    | some fl => qF P fl.type cs fl.offset
    | none => none
  | _, _ => none
theorem qP6 {P : Program} {φ : Fm} {t : TypeId} {x x' v : Value} (hx : VR φ x x') {f : Nat} (e : qX8 P t x f = some v) (w : World) : ∃ v', (Instr.field t x' f).run P w = .ok v' w ∧ VR φ v v' := by
  unfold qX8 at e
  split at e
  case h_2 => cases e
  rename_i fs cs hu
  split at e
  case h_2 => cases e
  rename_i fl hfl
  cases hx with
  | agg hx =>
  obtain ⟨v', p1, p2⟩ := qG6 hx e w
  exact ⟨v', by simp [Instr.field, run_underlying hu, hfl, asAgg, p1], p2⟩
def qA (P : Program) (t : TypeId) (x : Value) (i : Int) : Option Value :=
  match P.underlying t, x with
  | some (.array n e), .agg cs => match vG P e with
    | some (_, es) => if 0 ≤ i ∧ i < n then qF P e cs (i.toNat * es) else none
    | none => none
  | some .string, .string s => if 0 ≤ i then (s.data.toList[i.toNat]?).map fun b => .int .u8 b.toNat else none
  | _, _ => none
theorem qP5 {P : Program} {φ : Fm} {t : TypeId} {x x' v : Value} (hx : VR φ x x') {k : IntKind} {i : Int} (e : qA P t x i = some v) (w : World) : ∃ v', (Instr.index t x' (.int k i)).run P w = .ok v' w ∧ VR φ v v' := by
  unfold qA at e
  split at e
  · rename_i n el cs hu
    split at e
    case h_2 => cases e
    rename_i b es hz
    split at e
    case isFalse => cases e
    rename_i hi
    cases hx with
    | agg hx =>
    obtain ⟨v', p1, p2⟩ := qG6 hx e w
    exact ⟨v', by simp [Instr.index, asIntOf, run_underlying hu, hi, (vP hz w).2, p1], p2⟩
  · rename_i s hu
    split at e
    case isFalse => cases e
    rename_i hi
    simp only [Option.map_eq_some_iff] at e
    obtain ⟨b, hb, rfl⟩ := e
    cases hx
    have hb' : s[i.toNat]? = some b := by
      rw [Array.getElem?_toList] at hb
      obtain ⟨h1, h2⟩ := Array.getElem?_eq_some_iff.1 hb
      exact getElem?_eq_some_iff.2 ⟨h1, h2⟩
    exact ⟨_, by simp [Instr.index, asIntOf, run_underlying hu, hi, hb'], .int _ _⟩
  · cases e
def zS1 (P : Program) (t : TypeId) (x : Value) : Option Int :=
  match P.underlying t, x with
  | some .string, .string s => some s.size
  | some (.slice _), .slice _ n _ => some n
  | some (.array n _), _ => some n
  | _, _ => none
theorem zJ5 {P : Program} {φ : Fm} {t ty : TypeId} {x x' : Value} (hx : VR φ x x') {n : Int} (e : zS1 P t x = some n) (w : World) : (Builtin.len_ #[t] ty #[x']).run P w = .ok (.int .i64 n) w := by
  unfold zS1 at e
  split at e
  · rename_i hu; cases e; cases hx; simp [Builtin.len_, run_underlying hu, goInt]
  · rename_i hu; cases e
    cases hx <;> simp [Builtin.len_, run_underlying hu, goInt]
  · rename_i hu; cases e; simp [Builtin.len_, run_underlying hu, goInt]
  · cases e
def zS3 (P : Program) (t : TypeId) (x : Value) : Option Int :=
  match P.underlying t, x with
  | some (.slice _), .slice none _ _ => some 0
  | some (.slice _), .slice (some _) _ c => if c % 2 = 1 then some ((c / 2 : Nat) : Int) else none
  | _, _ => none
theorem zJ8 {P : Program} {φ : Fm} {t ty : TypeId} {x x' : Value} (hx : VR φ x x') {n : Int} (e : zS3 P t x = some n) (w : World) : (Builtin.cap_ #[t] ty #[x']).run P w = .ok (.int .i64 n) w := by
  unfold zS3 at e
  split at e
  · rename_i hu; cases e; cases hx; simp [Builtin.cap_, run_underlying hu, goInt]
  · rename_i hu
    split at e
    case isFalse => cases e
    rename_i hc
    cases e
    cases hx with
    | slice ha hcr hn =>
    have := hcr.1 hc
    subst this
    simp [Builtin.cap_, run_underlying hu, goInt]
  · cases e
def gMin (x : Value) : List Value → Option Value
  | [] => some x
  | y :: r => match x, y with
    | .int k a, .int _ b => gMin (.int k (if b < a then b else a)) r
    | _, _ => none
def gMax (x : Value) : List Value → Option Value
  | [] => some x
  | y :: r => match x, y with
    | .int k a, .int _ b => gMax (.int k (if b > a then b else a)) r
    | _, _ => none
theorem qM1 {P : Program} {φ : Fm} (w : World) : ∀ {l l' : List Value} {x x' v : Value}, VR φ x x' → VRs φ l l' → gMin x l = some v → (∃ k a, x = .int k a) → (l'.foldlM Builtin.min2 x').run P w = .ok v w ∧ ∃ k a, v = .int k a
  | _, _, x, x', v, hx, .nil, e, hi => by
    obtain ⟨k, a, rfl⟩ := hi
    simp only [gMin, Option.some.injEq] at e
    subst e; cases hx
    exact ⟨by simp, k, a, rfl⟩
  | _, _, x, x', v, hx, .cons hy hs, e, hi => by
    obtain ⟨k, a, rfl⟩ := hi
    cases hx
    cases hy <;> simp only [gMin] at e <;> try cases e
    obtain ⟨h1, h2⟩ := qM1 (P := P) w (.int _ _) hs e ⟨_, _, rfl⟩
    exact ⟨by simp [Builtin.min2, h1], h2⟩
theorem qM2 {P : Program} {φ : Fm} (w : World) : ∀ {l l' : List Value} {x x' v : Value}, VR φ x x' → VRs φ l l' → gMax x l = some v → (∃ k a, x = .int k a) → (l'.foldlM Builtin.max2 x').run P w = .ok v w ∧ ∃ k a, v = .int k a
  | _, _, x, x', v, hx, .nil, e, hi => by
    obtain ⟨k, a, rfl⟩ := hi
    simp only [gMax, Option.some.injEq] at e
    subst e; cases hx
    exact ⟨by simp, k, a, rfl⟩
  | _, _, x, x', v, hx, .cons hy hs, e, hi => by
    obtain ⟨k, a, rfl⟩ := hi
    cases hx
    cases hy <;> simp only [gMax] at e <;> try cases e
    obtain ⟨h1, h2⟩ := qM2 (P := P) w (.int _ _) hs e ⟨_, _, rfl⟩
    exact ⟨by simp [Builtin.max2, h1], h2⟩
end Go.Gh
