/- A framework of this claim's proof, part 16. Steps for contracts. No statement of the claim stands here. -/
import Derived.Test.YtlobmpkfdnifpaaGh15
namespace Go.Gh
open Go Go.RowKit
set_option linter.unusedVariables false
set_option linter.unusedSimpArgs false

/-! ## Steps for contracts -/

theorem HS.new_ {h : GH} {k : Nat} {B : GB} (hk : h k = none) : HS h (hset h k B) := HS.new hk B

/-- A new variable: the memory is a new one, of which is known what it holds there, and that all else stays. -/
theorem new_g {h : GH} {cs : List Value} {K : Value → GH → Prop} (g : ∀ (k : Nat) (h' : GH), h' k = some ⟨cs, 0, true, false⟩ → HS h h' → (∀ j, j ≠ k → h' j = h j) → h k = none → K (.pointer (some ⟨k, 0, none⟩)) h') : gNewP h cs K := by
  intro k hk
  exact g k _ (hset_same _ _ _) (HS.new hk _) (fun j hj => hset_ne _ _ hj) hk

theorem box_g {h : GH} {cs : List Value} {K : Value → GH → Prop} (hc : cs.all isCell = true) (g : ∀ (k : Nat) (h' : GH), h' k = some ⟨cs, 0, true, false⟩ → HS h h' → (∀ j, j ≠ k → h' j = h j) → h k = none → K (.pointer (some ⟨k, 0, none⟩)) h') : gBoxP h cs K := ⟨hc, new_g g⟩

/-- A branch, by what its condition holds. -/
def gifK (v : Value) (X Y : Prop) : Prop := ∃ t, v = .bool t ∧ (t = true → X) ∧ (t = false → Y)
theorem gif_t (X Y : Prop) : gifK (.bool true) X Y = X := by simp [gifK]
theorem gif_f (X Y : Prop) : gifK (.bool false) X Y = Y := by simp [gifK]
theorem gif_b {b : Bool} {X Y : Prop} (hX : b = true → X) (hY : b = false → Y) : gifK (.bool b) X Y := ⟨b, rfl, hX, hY⟩
theorem gw_if {P : Program} {N nt : Nat} {Q : GQ} {e : Env} {h : GH} {c : Operand} {x y : Code} (g : gifK (ev e c) (GW P N nt x Q e h) (GW P N nt y Q e h)) : GW P N nt (.cond c x y) Q e h := by
  obtain ⟨t, h1, h2, h3⟩ := g
  exact gw_cond h1 h2 h3

/-! ### A loop, round by round -/
def Lw (P : Program) (c : Code) (Q : Exit → Act → World → Prop) (a : Act) (w : World) : Prop :=
  ∀ b k cs, ∃ e a' w', Q e a' w' ∧ Arrives P (lone (b.at a (.code c :: .inLoop c :: k)) cs w) b k cs e a' w'
def GL (P : Program) (N nt : Nat) (c : Code) (Q : GQ) (e : Env) (h : GH) : Prop :=
  codeOk P nt c = true → P.globals.size ≤ N → ∀ φ w (a : Act), Sim N φ h w → Rel φ nt e a.tmps → a.defers = [] → Lw P c (Lift N nt φ w Q) a w
theorem gw_unroll {P : Program} {N nt : Nat} {Q : GQ} {e : Env} {h : GH} {c : Code} (g : GL P N nt c Q e h) : GW P N nt (.loop c) Q e h := by
  intro ok hG φ w a s r hd b k cs
  obtain ⟨e', a', w', hq, harr⟩ := g ok hG φ w a s r hd b k cs
  exact ⟨e', a', w', hq, .of_steps (.one step_loop) harr⟩
theorem gl_round {P : Program} {N nt : Nat} {Q : GQ} {e : Env} {h : GH} {c : Code} (g : GW P N nt c (thenQ (GL P N nt c Q) Q) e h) : GL P N nt c Q e h := by
  intro ok hG φ w a s r hd b k cs
  obtain ⟨x, a₁, w₁, l, harr⟩ := g ok hG φ w a s r hd b (.inLoop c :: k) cs
  rcases l.at with ⟨rfl, e', h', φ', h2, h3, h4, h5, h6, h7⟩ | ⟨hne, gx, e', h', φ', hgx, hx, h2, h3, h4, h5, h6, h7⟩
  · obtain ⟨e₂, a₂, w₂, l₂, harr₂⟩ := h7 ok hG φ' w₁ a₁ h4 h5 h2 b k cs
    exact ⟨e₂, a₂, w₂, l₂.step h3 h6, .of_steps (Steps.trans harr (.one step_inLoop)) harr₂⟩
  · have hl : Lift N nt φ w Q x a₁ w₁ := ⟨gx, e', h', φ', hx, h2, h3, h4, h5, h6, by cases gx <;> first | exact absurd rfl hgx | exact h7⟩
    cases x with
    | normal => exact absurd rfl hne
    | exit id => exact ⟨_, a₁, w₁, hl, .pass (x := .inLoop c) rfl (fun _ _ => .inl (by simp)) harr⟩
    | goto l => exact ⟨_, a₁, w₁, hl, .pass (x := .inLoop c) rfl (fun _ _ => .inl (by simp)) harr⟩
    | ret => exact ⟨_, a₁, w₁, hl, .pass (x := .inLoop c) rfl (fun _ _ => .inl (by simp)) harr⟩
    | panic ch => exact ⟨_, a₁, w₁, hl, .pass (x := .inLoop c) rfl (fun _ _ => .inl (by simp)) harr⟩
    | outgrown => exact ⟨_, a₁, w₁, hl, .pass (x := .inLoop c) rfl (fun _ _ => .inl (by simp)) harr⟩

theorem HS.upd {a b c : GH} {k : Nat} (s : HS a b) (n : a k = none) (f : ∀ j, j ≠ k → c j = b j) : HS a c := fun j B e => by
  rw [f j (fun e' => by rw [e', n] at e; cases e)]
  exact s j B e

theorem fun_none {a b : GH} (s : HS a b) {k : Nat} (n : b k = none) : a k = none := s.none_of n

theorem ne_of {h : GH} {k j : Nat} {B : GB} (a : h k = some B) (b : h j = none) : k ≠ j := by
  rintro rfl
  rw [a] at b; cases b

theorem gload1 {P : Program} {h : GH} {k : Nat} {B : GB} {t o : Nat} (hk : h k = some B) (hz : gsz P t = some (false, 1)) : gLoad P t h (.pointer (some ⟨k, o, none⟩)) = B.cells[o]? := by
  cases hc : B.cells[o]? with
  | some v => exact gload_cell hk hz hc
  | none =>
    simp only [gLoad, hz, gread]
    rw [if_neg (by decide)]
    simp only [hk]
    have := List.getElem?_eq_none_iff.1 hc
    rw [if_neg (by omega)]
    rfl
theorem gloadA {P : Program} {h : GH} {k : Nat} {B : GB} {t n : Nat} (hk : h k = some B) (hz : gsz P t = some (true, n)) (hc : B.cells.length = n) : gLoad P t h (.pointer (some ⟨k, 0, none⟩)) = some (.agg B.cells.toArray) := gload_all hk hz hc

theorem st_all {P : Program} {h : GH} {k : Nat} {B : GB} {t n : Nat} {b : Bool} {v : Value} {K : Value → GH → Prop} (hk : h k = some B) (hz : gsz P t = some (b, n)) (hw : B.wr = true) (hn : n ≠ 0) (hl : (vcells v).length = n) (hB : B.cells.length = n) (hc : (vcells v).all isCell = true)
    (g : ∀ h', h' k = some { B with cells := vcells v } → (∀ j, j ≠ k → h' j = h j) → K U h') : optH (gStore P t h (.pointer (some ⟨k, 0, none⟩)) v) K := by
  refine ⟨hset h k { B with cells := vcells v }, ?_, g _ (hset_same _ _ _) (fun j hj => hset_ne _ _ hj)⟩
  have hs : v.cells.size = n := by rw [← hl, ← vcells_eq]; simp
  simp only [gStore, hz]
  rw [if_pos ⟨hs, by rw [vcells_eq]; exact hc⟩]
  simp only [gwrite, hk, vcells_eq]
  rw [if_neg (by omega), if_pos ⟨hw, by omega⟩]
  congr 3
  simp only [splice, List.take_zero, List.nil_append, Nat.zero_add]
  rw [List.drop_eq_nil_of_le (by omega), List.append_nil]

theorem st_one {P : Program} {h : GH} {k : Nat} {B : GB} {t o : Nat} {v : Value} {K : Value → GH → Prop} (hk : h k = some B) (hz : gsz P t = some (false, 1)) (hw : B.wr = true) (ho : o < B.cells.length) (hv : vcells v = [v]) (hc : isCell v = true)
    (g : ∀ h', h' k = some { B with cells := B.cells.set o v } → (∀ j, j ≠ k → h' j = h j) → K U h') : optH (gStore P t h (.pointer (some ⟨k, o, none⟩)) v) K := by
  refine ⟨hset h k { B with cells := B.cells.set o v }, ?_, g _ (hset_same _ _ _) (fun j hj => hset_ne _ _ hj)⟩
  have hs : v.cells.size = 1 := by
    have : v.cells.toList.length = 1 := by rw [vcells_eq, hv]; rfl
    simpa using this
  simp only [gStore, hz]
  rw [if_pos ⟨hs, by rw [vcells_eq, hv]; simp [hc]⟩]
  simp only [gwrite, hk, vcells_eq, hv]
  rw [if_neg (by simp), if_pos ⟨hw, by simp; omega⟩]
  congr 3
  simp only [splice, List.length_singleton]
  rw [List.set_eq_take_append_cons_drop, if_pos ho]
  simp

theorem wrap_id {k : IntKind} {x : Int} (h : (Lit.int k x).wf = true) : k.wrap x = x := by
  cases k <;> simp [Lit.wf, IntKind.wrap, IntKind.min, IntKind.max, IntKind.signed, IntKind.bits] at h ⊢ <;> (try split) <;> omega
theorem wrap64 {x : Int} (h1 : -9223372036854775808 ≤ x) (h2 : x ≤ 9223372036854775807) : IntKind.wrap .i64 x = x := by
  simp [IntKind.wrap, IntKind.signed, IntKind.bits]
  split <;> omega

theorem wrapu8 {x : Int} (h1 : 0 ≤ x) (h2 : x ≤ 255) : IntKind.wrap .u8 x = x := by
  simp [IntKind.wrap, IntKind.signed, IntKind.bits]
  omega
theorem wrapu32 {x : Int} (h1 : 0 ≤ x) (h2 : x ≤ 4294967295) : IntKind.wrap .u32 x = x := by
  simp [IntKind.wrap, IntKind.signed, IntKind.bits]
  omega
theorem wrapu64 {x : Int} (h1 : 0 ≤ x) (h2 : x ≤ 18446744073709551615) : IntKind.wrap .u64 x = x := by
  simp [IntKind.wrap, IntKind.signed, IntKind.bits]
  omega

theorem mul_range {a b A B : Int} (h1 : 0 ≤ a ∧ a ≤ A) (h2 : 0 ≤ b ∧ b ≤ B) : 0 ≤ a * b ∧ a * b ≤ A * B :=
  ⟨Int.mul_nonneg h1.1 h2.1, Int.mul_le_mul h1.2 h2.2 h2.1 (Int.le_trans h1.1 h1.2)⟩

theorem and_dec (p q : Prop) [Decidable p] [Decidable q] : (decide p && decide q) = decide (p ∧ q) := by simp

theorem want_t {P : Program} {N : Nat} {e : Env} {h : GH} {b : Bool} {ds : List (Option Tmp)} {r : List Oper} {K : Env → GH → Prop} {d : Option Tmp} {op : Op} (ht : b = true → gop P N e h (kops P N ds r K e d) op) (hf : b = false → kops P N ds r K e d UD h) : wantK (some b) true P N ds r K e h d op := want_split ht hf
theorem want_f {P : Program} {N : Nat} {e : Env} {h : GH} {b : Bool} {ds : List (Option Tmp)} {r : List Oper} {K : Env → GH → Prop} {d : Option Tmp} {op : Op} (ht : b = true → kops P N ds r K e d UD h) (hf : b = false → gop P N e h (kops P N ds r K e d) op) : wantK (some b) false P N ds r K e h d op := want_split hf ht
theorem dr_t {P : Program} {N : Nat} {ds : List (Option Tmp)} {r : List (Nat × Oper × List Nat)} {wt : List (Nat × RV)} {i : Nat} {op : Op} {un : List Nat} {K : Env → GH → Prop} {e : Env} {d : Option Tmp} {h : GH} {b : Bool}
    (ht : b = true → gdrW (some true) true P N ds r wt i op un K e d h) (hf : b = false → gdrW (some false) true P N ds r wt i op un K e d h) : gdrW (some b) true P N ds r wt i op un K e d h := by
  cases b
  · exact hf rfl
  · exact ht rfl
theorem dr_f {P : Program} {N : Nat} {ds : List (Option Tmp)} {r : List (Nat × Oper × List Nat)} {wt : List (Nat × RV)} {i : Nat} {op : Op} {un : List Nat} {K : Env → GH → Prop} {e : Env} {d : Option Tmp} {h : GH} {b : Bool}
    (ht : b = true → gdrW (some true) false P N ds r wt i op un K e d h) (hf : b = false → gdrW (some false) false P N ds r wt i op un K e d h) : gdrW (some b) false P N ds r wt i op un K e d h := by
  cases b
  · exact hf rfl
  · exact ht rfl

end Go.Gh
