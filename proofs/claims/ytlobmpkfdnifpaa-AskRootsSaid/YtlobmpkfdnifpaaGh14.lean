/- A framework of this claim's proof, part 14. Equations for stepping. No statement of the claim stands here. -/
import Derived.Test.YtlobmpkfdnifpaaGh13
namespace Go.Gh
open Go Go.RowKit
set_option linter.unusedVariables false
set_option linter.unusedSimpArgs false

/-! ## The rule for drawn regions, step by step -/

def kdrF (P : Program) (N : Nat) (ds : List (Option Tmp)) (r : List (Nat × Oper × List Nat)) (wt : List (Nat × RV)) (i : Nat) (op : Op) (K : Env → GH → Prop) (e : Env) (d : Option Tmp) (v : Value) (h : GH) : Prop := gdr P N ds r (wput wt i (rvOf e v op)) K (eput e d v) h
def kdrE (P : Program) (N : Nat) (ds : List (Option Tmp)) (r : List (Nat × Oper × List Nat)) (wt : List (Nat × RV)) (un : List Nat) (K : Env → GH → Prop) (e : Env) (d : Option Tmp) (v : Value) (h : GH) : Prop := chk P h wt un ∧ gdr P N ds r wt K (eput e d v) h
def gdrO (b : Bool) (P : Program) (N : Nat) (ds : List (Option Tmp)) (r : List (Nat × Oper × List Nat)) (wt : List (Nat × RV)) (i : Nat) (op : Op) (un : List Nat) (K : Env → GH → Prop) (e : Env) (d : Option Tmp) (h : GH) : Prop :=
  if b = true then gop P N e h (kdrE P N ds r wt un K e d) op else gop P N e h (kdrF P N ds r wt i op K e d) op
def gdrW (y : Option Bool) (w : Bool) (P : Program) (N : Nat) (ds : List (Option Tmp)) (r : List (Nat × Oper × List Nat)) (wt : List (Nat × RV)) (i : Nat) (op : Op) (un : List Nat) (K : Env → GH → Prop) (e : Env) (d : Option Tmp) (h : GH) : Prop :=
  ∃ b, y = some b ∧ (if b = w then gdrO (isEff op) P N ds r wt i op un K e d h else gdr P N ds r wt K (eput e d UD) h)

section
variable (P : Program) (N : Nat) (ds : List (Option Tmp)) (r : List (Nat × Oper × List Nat)) (wt : List (Nat × RV)) (i : Nat) (un : List Nat) (K : Env → GH → Prop) (e : Env) (h : GH) (d : Option Tmp) (op : Op) (ty : TypeId) (pos : String) (after : Array Edge)
theorem gdr_nil : gdr P N ds [] wt K e h = K e h := by unfold gdr; rfl
theorem gdr_none : gdr P N ds ((i, ⟨d, op, ty, pos, after, none⟩, un) :: r) wt K e h = gdrO (isEff op) P N ds r wt i op un K e d h := by
  rw [gdr]; simp only [gwd, Option.some.injEq, exists_eq_left', if_true]; rfl
theorem gdr_some (j : Nat) (w : Bool) : gdr P N ds ((i, ⟨d, op, ty, pos, after, some (j, w)⟩, un) :: r) wt K e h = gdrW (gyield ds e j w) w P N ds r wt i op un K e d h := by
  rw [gdr]
  apply propext
  simp only [gwd, Option.map_eq_some_iff, gdrW]
  constructor
  · rintro ⟨wd, ⟨b, h1, rfl⟩, h2⟩
    refine ⟨b, h1, ?_⟩
    by_cases hb : b = w
    · rw [if_pos hb]; rw [if_pos (by simp [hb])] at h2; exact h2
    · rw [if_neg hb]; rw [if_neg (by simp [hb])] at h2; exact h2
  · rintro ⟨b, h1, h2⟩
    refine ⟨b == w, ⟨b, h1, rfl⟩, ?_⟩
    by_cases hb : b = w
    · rw [if_pos hb] at h2; rw [if_pos (by simp [hb])]; exact h2
    · rw [if_neg hb] at h2; rw [if_neg (by simp [hb])]; exact h2
theorem gdrO_t : gdrO true P N ds r wt i op un K e d h = gop P N e h (kdrE P N ds r wt un K e d) op := by simp [gdrO]
theorem gdrO_f : gdrO false P N ds r wt i op un K e d h = gop P N e h (kdrF P N ds r wt i op K e d) op := by simp [gdrO]
theorem gdrW_tt : gdrW (some true) true P N ds r wt i op un K e d h = gdrO (isEff op) P N ds r wt i op un K e d h := by simp [gdrW]
theorem gdrW_ff : gdrW (some false) false P N ds r wt i op un K e d h = gdrO (isEff op) P N ds r wt i op un K e d h := by simp [gdrW]
theorem gdrW_tf : gdrW (some true) false P N ds r wt i op un K e d h = gdr P N ds r wt K (eput e d UD) h := by simp [gdrW]
theorem gdrW_ft : gdrW (some false) true P N ds r wt i op un K e d h = gdr P N ds r wt K (eput e d UD) h := by simp [gdrW]
theorem eput_s (j : Nat) (v : Value) : eput e (some j) v = (j, v) :: e := rfl
theorem eput_n (v : Value) : eput e none v = e := rfl
theorem kdrF_ap (v : Value) : kdrF P N ds r wt i op K e d v h = gdr P N ds r (wput wt i (rvOf e v op)) K (eput e d v) h := rfl
theorem kdrE_ap (v : Value) : kdrE P N ds r wt un K e d v h = (chk P h wt un ∧ gdr P N ds r wt K (eput e d v) h) := rfl
theorem wput_n : wput wt i none = wt := rfl
theorem wput_s (rv : RV) : wput wt i (some rv) = (i, rv) :: wt := rfl
theorem chk_n : chk P h wt [] = True := rfl
theorem chk_c (j : Nat) (l : List Nat) : chk P h wt (j :: l) = (chk1 P h (wlk wt j) ∧ chk P h wt l) := rfl
theorem chk1_n : chk1 P h none = True := rfl
theorem chk1_s (rv : RV) : chk1 P h (some rv) = rdv P h rv := rfl
end

theorem gdrW_split {b w : Bool} {P : Program} {N : Nat} {ds : List (Option Tmp)} {r : List (Nat × Oper × List Nat)} {wt : List (Nat × RV)} {i : Nat} {op : Op} {un : List Nat} {K : Env → GH → Prop} {e : Env} {d : Option Tmp} {h : GH}
    (ht : b = w → gdrO (isEff op) P N ds r wt i op un K e d h) (hf : b = (!w) → gdr P N ds r wt K (eput e d UD) h) : gdrW (some b) w P N ds r wt i op un K e d h := by
  refine ⟨b, rfl, ?_⟩
  by_cases hb : b = w
  · rw [if_pos hb]; exact ht hb
  · rw [if_neg hb]; exact hf (by cases b <;> cases w <;> simp_all)

/-! ## Reading blocks that are known -/

theorem gread_lit {h : GH} {k : Nat} {B : GB} (hk : h k = some B) {o n : Nat} {cs : List Value} (hc : (B.cells.drop o).take n = cs) (hl : cs.length = n) : gread h ⟨k, o, none⟩ n = some cs := by
  unfold gread
  split
  · rename_i h0; rw [h0] at hl; rw [List.eq_nil_of_length_eq_zero hl]
  · simp only [hk]
    rw [if_pos, hc]
    rw [← hc] at hl
    simp at hl
    omega

/-- A field of a variable that is known. -/
theorem gload_cell {P : Program} {h : GH} {k : Nat} {B : GB} (hk : h k = some B) {t o n : Nat} {v : Value} (hz : gsz P t = some (false, n)) (hc : B.cells[o]? = some v) : gLoad P t h (.pointer (some ⟨k, o, none⟩)) = some v := by
  have : gread h ⟨k, o, none⟩ 1 = some [v] := by
    refine gread_lit hk ?_ rfl
    obtain ⟨h1, h2⟩ := List.getElem?_eq_some_iff.1 hc
    rw [List.drop_eq_getElem_cons h1, h2]
    rfl
  simp only [gLoad, hz, this]
  rfl
theorem gload_all {P : Program} {h : GH} {k : Nat} {B : GB} (hk : h k = some B) {t n : Nat} (hz : gsz P t = some (true, n)) (hc : B.cells.length = n) : gLoad P t h (.pointer (some ⟨k, 0, none⟩)) = some (.agg B.cells.toArray) := by
  have : gread h ⟨k, 0, none⟩ n = some B.cells := gread_lit hk (by rw [List.drop_zero, ← hc, List.take_length]) hc
  simp only [gLoad, hz, this]
  rfl

end Go.Gh
