/- A framework of this claim's proof, part 1. Ghost values and ghost memory: how they stand for concrete ones. No statement of the claim stands here. -/
import Derived.WalkKit
import Derived.WalkSpells
import Derived.WalkLawsBesides
import Derived.Laws.IdiomCopy
namespace Go.Gh
open Go Go.RowKit
set_option linter.unusedVariables false
set_option linter.unusedSimpArgs false

/-! ## Ghost values: a ghost value stands for a concrete one, up to places in memory and spare capacity -/

/-- Where a ghost block lies: the concrete block, the offset of its first cell, how many cells that block has, cells of an element. -/
structure Fx where
  b : Nat
  o : Nat
  lim : Nat
  es : Nat

abbrev Fm := Nat → Option Fx

def Ext (φ φ' : Fm) : Prop := ∀ k f, φ k = some f → φ' k = some f
theorem Ext.refl (φ : Fm) : Ext φ φ := fun _ _ h => h
theorem Ext.trans {a b c : Fm} (h : Ext a b) (k : Ext b c) : Ext a c := fun _ _ e => k _ _ (h _ _ e)

/-- The ghost value of which nothing is known. -/
def U : Value := .chan (some 0)

def AR (φ : Fm) (a a' : Addr) : Prop := a.spot = none ∧ a'.spot = none ∧ ∃ f, φ a.block = some f ∧ a'.block = f.b ∧ a'.off = f.o + a.off

/-- Capacities: an odd one 2c+1 is c just so; an even one 2c is c at least. -/
def CR (φ : Fm) (a a' : Addr) (c c' : Nat) : Prop :=
  (c % 2 = 1 → c' = c / 2) ∧ (c % 2 = 0 → c / 2 ≤ c' ∧ (c' = 0 ∨ ∃ f, φ a.block = some f ∧ a'.off + c' * f.es ≤ f.lim))

mutual
inductive VR (φ : Fm) : Value → Value → Prop
  | any (v : Value) : VR φ (.chan (some 0)) v
  | bool (b : Bool) : VR φ (.bool b) (.bool b)
  | int (k : IntKind) (n : Int) : VR φ (.int k n) (.int k n)
  | string (s : ByteArray) : VR φ (.string s) (.string s)
  | pnil : VR φ (.pointer none) (.pointer none)
  | ptr {a a' : Addr} (h : AR φ a a') : VR φ (.pointer (some a)) (.pointer (some a'))
  | snil (c : Nat) : VR φ (.slice none 0 c) (.slice none 0 0)
  | slice {a a' : Addr} {n c c' : Nat} (h : AR φ a a' ∨ c' = 0) (hc : CR φ a a' c c') (hn : n ≤ c') : VR φ (.slice (some a) n c) (.slice (some a') n c')
  | func {fn : Fn} {f f' c c' : Array Value} (hf : VRs φ f.toList f'.toList) (hc : VRs φ c.toList c'.toList) : VR φ (.func fn f c) (.func fn f' c')
  | nilFunc : VR φ .nilFunc .nilFunc
  | iface {t : TypeId} {v v' : Value} (h : VR φ v v') : VR φ (.iface t v) (.iface t v')
  | nilIface : VR φ .nilIface .nilIface
  | agg {c c' : Array Value} (h : VRs φ c.toList c'.toList) : VR φ (.agg c) (.agg c')
  | tuple {c c' : Array Value} (h : VRs φ c.toList c'.toList) : VR φ (.tuple c) (.tuple c')
inductive VRs (φ : Fm) : List Value → List Value → Prop
  | nil : VRs φ [] []
  | cons {v v' : Value} {l l' : List Value} (h : VR φ v v') (hs : VRs φ l l') : VRs φ (v :: l) (v' :: l')
end

theorem VR.u (φ : Fm) (v : Value) : VR φ U v := .any v

theorem AR.mono {φ φ' : Fm} (e : Ext φ φ') {a a' : Addr} (h : AR φ a a') : AR φ' a a' := by
  obtain ⟨h1, h2, f, h3, h4⟩ := h
  exact ⟨h1, h2, f, e _ _ h3, h4⟩
theorem CR.mono {φ φ' : Fm} (e : Ext φ φ') {a a' : Addr} {c c' : Nat} (h : CR φ a a' c c') : CR φ' a a' c c' := by
  refine ⟨h.1, fun hc => ⟨(h.2 hc).1, (h.2 hc).2.imp id ?_⟩⟩
  rintro ⟨f, h1, h2⟩
  exact ⟨f, e _ _ h1, h2⟩

mutual
theorem VR.mono {φ φ' : Fm} (e : Ext φ φ') : ∀ {v v' : Value}, VR φ v v' → VR φ' v v'
  | _, _, .any v => .any v
  | _, _, .bool b => .bool b
  | _, _, .int k n => .int k n
  | _, _, .string s => .string s
  | _, _, .pnil => .pnil
  | _, _, .ptr h => .ptr (h.mono e)
  | _, _, .snil c => .snil c
  | _, _, .slice h hc hn => .slice (h.imp (·.mono e) id) (hc.mono e) hn
  | _, _, .func hf hc => .func (hf.mono e) (hc.mono e)
  | _, _, .nilFunc => .nilFunc
  | _, _, .iface h => .iface (h.mono e)
  | _, _, .nilIface => .nilIface
  | _, _, .agg h => .agg (h.mono e)
  | _, _, .tuple h => .tuple (h.mono e)
theorem VRs.mono {φ φ' : Fm} (e : Ext φ φ') : ∀ {l l' : List Value}, VRs φ l l' → VRs φ' l l'
  | _, _, .nil => .nil
  | _, _, .cons h hs => .cons (h.mono e) (hs.mono e)
end

theorem VRs.length {φ : Fm} : ∀ {l l' : List Value}, VRs φ l l' → l.length = l'.length
  | _, _, .nil => rfl
  | _, _, .cons _ hs => by simp [hs.length]
theorem VRs.get {φ : Fm} : ∀ {l l' : List Value}, VRs φ l l' → ∀ (i : Nat) (v : Value), l[i]? = some v → ∃ v', l'[i]? = some v' ∧ VR φ v v'
  | _, _, .nil, i, v, h => by simp at h
  | _, _, .cons h0 hs, 0, v, h => by simp at h; subst h; exact ⟨_, by simp, h0⟩
  | _, _, .cons h0 hs, i + 1, v, h => by
    simp at h
    simpa using hs.get i v h
theorem VRs.of_get {φ : Fm} : ∀ {l l' : List Value}, l.length = l'.length → (∀ (i : Nat) (v : Value), l[i]? = some v → ∃ v', l'[i]? = some v' ∧ VR φ v v') → VRs φ l l'
  | [], [], _, _ => .nil
  | v :: l, v' :: l', hl, h => .cons (by obtain ⟨u, hu, hv⟩ := h 0 v (by simp); simp at hu; subst hu; exact hv)
      (VRs.of_get (by simpa using hl) fun i u hu => by simpa using h (i + 1) u (by simpa using hu))
  | [], _ :: _, hl, _ => by simp at hl
  | _ :: _, [], hl, _ => by simp at hl
theorem VRs.append {φ : Fm} : ∀ {l l' m m' : List Value}, VRs φ l l' → VRs φ m m' → VRs φ (l ++ m) (l' ++ m')
  | _, _, _, _, .nil, k => k
  | _, _, _, _, .cons h hs, k => .cons h (hs.append k)
theorem VRs.take {φ : Fm} : ∀ {l l' : List Value}, VRs φ l l' → ∀ n, VRs φ (l.take n) (l'.take n)
  | _, _, .nil, n => by simp; exact .nil
  | _, _, .cons h hs, 0 => by simp; exact .nil
  | _, _, .cons h hs, n + 1 => by simp; exact .cons h (hs.take n)
theorem VRs.drop {φ : Fm} : ∀ {l l' : List Value}, VRs φ l l' → ∀ n, VRs φ (l.drop n) (l'.drop n)
  | _, _, .nil, n => by simp; exact .nil
  | _, _, .cons h hs, 0 => by simp; exact .cons h hs
  | _, _, .cons h hs, n + 1 => by simp; exact hs.drop n
theorem VRs.set {φ : Fm} : ∀ {l l' : List Value}, VRs φ l l' → ∀ (n : Nat) {v v' : Value}, VR φ v v' → VRs φ (l.set n v) (l'.set n v')
  | _, _, .nil, n, _, _, _ => by simp; exact .nil
  | _, _, .cons h hs, 0, _, _, k => by simp; exact .cons k hs
  | _, _, .cons h hs, n + 1, _, _, k => by simp; exact .cons h (hs.set n k)
theorem VRs.replicate {φ : Fm} {v v' : Value} (h : VR φ v v') : ∀ n, VRs φ (List.replicate n v) (List.replicate n v')
  | 0 => .nil
  | n + 1 => .cons h (VRs.replicate h n)
theorem VRs.map {φ : Fm} {α : Type} (f g : α → Value) (h : ∀ x, VR φ (f x) (g x)) : ∀ l : List α, VRs φ (l.map f) (l.map g)
  | [] => .nil
  | x :: l => .cons (h x) (VRs.map f g h l)

/-! ## Ghost memory -/

/-- A ghost block: what its cells hold; cells of an element; whether it is ours to write; whether the spare memory behind it is ours. -/
structure GB where
  cells : List Value
  es : Nat
  wr : Bool
  tl : Bool

abbrev GH := Nat → Option GB
def hset (h : GH) (k : Nat) (B : GB) : GH := fun j => if j = k then some B else h j
def hdel (h : GH) (k : Nat) : GH := fun j => if j = k then none else h j
theorem hset_same (h : GH) (k : Nat) (B : GB) : hset h k B k = some B := by simp [hset]
theorem hset_ne (h : GH) {k j : Nat} (B : GB) (e : j ≠ k) : hset h k B j = h j := by simp [hset, e]
theorem hdel_same (h : GH) (k : Nat) : hdel h k k = none := by simp [hdel]
theorem hdel_ne (h : GH) {k j : Nat} (e : j ≠ k) : hdel h k j = h j := by simp [hdel, e]

structure Blk (N : Nat) (φ : Fm) (B : GB) (f : Fx) (w : World) : Prop where
  lt : f.b < w.heap.size
  cell : ∀ i v, B.cells[i]? = some v → ∃ v', w.cell? ⟨f.b, f.o + i, none⟩ = some v' ∧ VR φ v v'
  es : f.es = B.es
  nz : B.wr = true ∨ B.tl = true → N ≤ f.b
  wrf : B.wr = true → ∀ i, i < B.cells.length → w.frozen? ⟨f.b, f.o + i, none⟩ = false
  tlf : B.tl = true → ∀ j, f.o + B.cells.length ≤ j → j < f.lim → (∃ v', w.cell? ⟨f.b, j, none⟩ = some v') ∧ w.frozen? ⟨f.b, j, none⟩ = false
  tll : B.tl = true → f.o + B.cells.length ≤ f.lim

structure Sim (N : Nat) (φ : Fm) (h : GH) (w : World) : Prop where
  ini : ∀ k, k < N → φ k = some ⟨k, 0, 0, 0⟩
  big : N ≤ w.heap.size
  fin : ∃ n, ∀ k, n ≤ k → φ k = none
  dom : ∀ k B, h k = some B → ∃ f, φ k = some f ∧ Blk N φ B f w
  sep : ∀ k k' B B' f f', k ≠ k' → h k = some B → h k' = some B' → φ k = some f → φ k' = some f' → f.b = f'.b →
    B.wr = false ∧ B'.wr = false ∧ (B.tl = true → B'.tl = false ∧ f'.o + B'.cells.length ≤ f.o + B.cells.length)
  rng : ∀ k f, φ k = some f → f.b < w.heap.size

theorem Blk.mono {N : Nat} {φ φ' : Fm} {B : GB} {f : Fx} {w w' : World} (h : Blk N φ B f w) (e : Ext φ φ') (hs : w.heap.size ≤ w'.heap.size)
    (hc : w'.heap[f.b]? = w.heap[f.b]?) : Blk N φ' B f w' where
  lt := Nat.lt_of_lt_of_le h.lt hs
  cell i v hv := by
    obtain ⟨v', h1, h2⟩ := h.cell i v hv
    exact ⟨v', by rw [World.cell?_of_block (w := w) hc]; exact h1, h2.mono e⟩
  es := h.es
  nz := h.nz
  wrf hw i hi := by rw [World.frozen?_of_block (w := w) hc]; exact h.wrf hw i hi
  tlf ht j h1 h2 := by
    have := h.tlf ht j h1 h2
    rw [World.cell?_of_block (w := w) hc, World.frozen?_of_block (w := w) hc]; exact this
  tll := h.tll

/-- The world has only grown: all stays. -/
theorem Sim.grow {N : Nat} {φ : Fm} {h : GH} {w w' : World} (s : Sim N φ h w) (hs : w.heap.size ≤ w'.heap.size) (hc : ∀ k, k < w.heap.size → w'.heap[k]? = w.heap[k]?) : Sim N φ h w' where
  ini := s.ini
  big := Nat.le_trans s.big hs
  fin := s.fin
  dom k B hk := by
    obtain ⟨f, h1, h2⟩ := s.dom k B hk
    exact ⟨f, h1, h2.mono (Ext.refl _) hs (hc _ h2.lt)⟩
  sep := s.sep
  rng k f hk := Nat.lt_of_lt_of_le (s.rng k f hk) hs
theorem Sim.drew {N : Nat} {φ : Fm} {h : GH} {w : World} (s : Sim N φ h w) : Sim N φ h w.drew := s.grow (Nat.le_refl _) fun _ _ => rfl

/-- Less is known. -/
theorem Sim.forget {N : Nat} {φ : Fm} {h h' : GH} {w : World} (s : Sim N φ h w) (hh : ∀ k B, h' k = some B → h k = some B) : Sim N φ h' w where
  ini := s.ini
  big := s.big
  fin := s.fin
  dom k B hk := s.dom k B (hh k B hk)
  sep k k' B B' f f' hne hk hk' := s.sep k k' B B' f f' hne (hh k B hk) (hh k' B' hk')
  rng := s.rng

def fset (φ : Fm) (k : Nat) (f : Fx) : Fm := fun j => if j = k then some f else φ j
theorem fset_ext {φ : Fm} {k : Nat} (f : Fx) (hk : φ k = none) : Ext φ (fset φ k f) := fun j g hj => by
  unfold fset
  split
  · rename_i e; rw [e] at hj; rw [hk] at hj; cases hj
  · exact hj
theorem fset_same (φ : Fm) (k : Nat) (f : Fx) : fset φ k f k = some f := by simp [fset]
theorem fset_ne (φ : Fm) {k j : Nat} (f : Fx) (h : j ≠ k) : fset φ k f j = φ j := by simp [fset, h]

theorem Sim.fresh {N : Nat} {φ : Fm} {h : GH} {w : World} (s : Sim N φ h w) : ∃ k, φ k = none ∧ h k = none ∧ N ≤ k := by
  obtain ⟨n, hn⟩ := s.fin
  have h0 : φ (max n N) = none := hn _ (by omega)
  refine ⟨max n N, h0, ?_, by omega⟩
  cases hk : h (max n N) with
  | none => rfl
  | some B =>
    obtain ⟨f, h1, _⟩ := s.dom _ B hk
    rw [h0] at h1; cases h1

/-- A new block, in a new concrete block of the world. -/
theorem Sim.add {N : Nat} {φ : Fm} {h : GH} {w w' : World} (s : Sim N φ h w) {k : Nat} {B : GB} {f : Fx} (hk : φ k = none) (hs : w.heap.size ≤ w'.heap.size)
    (hc : ∀ k, k < w.heap.size → w'.heap[k]? = w.heap[k]?) (hb : w.heap.size ≤ f.b) (hB : Blk N (fset φ k f) B f w') : Sim N (fset φ k f) (hset h k B) w' := by
  have e := fset_ext f hk
  have hkn : h k = none := by
    cases hk' : h k with
    | none => rfl
    | some B' => obtain ⟨g, h1, _⟩ := s.dom k B' hk'; rw [hk] at h1; cases h1
  refine ⟨fun j hj => ?_, Nat.le_trans s.big hs, ?_, fun j B' hj => ?_, ?_, fun j g hj => ?_⟩
  · have hne : j ≠ k := fun ee => by have := s.ini j hj; rw [ee, hk] at this; cases this
    rw [fset_ne _ _ hne]; exact s.ini j hj
  · obtain ⟨n, hn⟩ := s.fin
    refine ⟨max n (k + 1), fun j hj => ?_⟩
    rw [fset_ne _ _ (by omega)]; exact hn j (by omega)
  · by_cases hjk : j = k
    · subst hjk
      rw [hset_same] at hj; cases hj
      exact ⟨f, fset_same _ _ _, hB⟩
    · rw [hset_ne _ _ hjk] at hj
      obtain ⟨g, h1, h2⟩ := s.dom j B' hj
      exact ⟨g, by rw [fset_ne _ _ hjk]; exact h1, h2.mono e hs (hc _ h2.lt)⟩
  · intro j j' B1 B2 f1 f2 hne h1 h2 p1 p2 hbb
    by_cases hj : j = k
    · subst hj
      rw [fset_same] at p1; cases p1
      rw [fset_ne _ _ (Ne.symm hne)] at p2
      rw [hset_ne _ _ (Ne.symm hne)] at h2
      have := s.rng _ _ p2
      omega
    · by_cases hj' : j' = k
      · subst hj'
        rw [fset_same] at p2; cases p2
        rw [fset_ne _ _ hj] at p1
        have := s.rng _ _ p1
        omega
      · rw [fset_ne _ _ hj] at p1; rw [fset_ne _ _ hj'] at p2
        rw [hset_ne _ _ hj] at h1; rw [hset_ne _ _ hj'] at h2
        exact s.sep j j' B1 B2 f1 f2 hne h1 h2 p1 p2 hbb
  · by_cases hjk : j = k
    · subst hjk; rw [fset_same] at hj; cases hj; exact hB.lt
    · rw [fset_ne _ _ hjk] at hj
      exact Nat.lt_of_lt_of_le (s.rng j g hj) hs

end Go.Gh
