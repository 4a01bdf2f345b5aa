/- Parts of this claim's proof, 1. No statement of the claim stands here. -/
import Derived.WalkKit
import Derived.WalkSpells
import Derived.WalkLawsBesides
import Derived.Laws.IdiomCopy
import Derived.Below
namespace Go.Gh
open Go Go.RowKit
set_option linter.unusedVariables false
set_option linter.unusedSimpArgs false
def zA2 : Obj → Bool
  | .loop _ => true
  | .deferred _ => true
  | _ => false
structure Below (B : Nat) (w w' : World) : Prop where
  os : w'.os = w.os
  tape : w'.tape = w.tape
  output : w'.output = w.output
  size : w.heap.size ≤ w'.heap.size
  block : ∀ k, k < B → w'.heap[k]? = w.heap[k]?
  drawn : w.drawn ≤ w'.drawn := by first | exact Nat.le_refl _ | exact Nat.le_succ _ | (simp; done) | (simp; omega)
  lp : ∀ (k : Nat) (o : Obj), w.heap[k]? = some o → zA2 o = true → w'.heap[k]? = some o := by exact fun _ _ h _ => h
theorem Below.kit {B : Nat} {w w' : World} (h : Below B w w') : Go.RowKit.Below B w w' := ⟨h.os, h.tape, h.output, h.size, h.block⟩
theorem Below.refl (B : Nat) (w : World) : Below B w w := { os := rfl, tape := rfl, output := rfl, size := Nat.le_refl _, block := fun _ _ => rfl }
theorem Below.trans {B : Nat} {a b c : World} (h : Below B a b) (k : Below B b c) : Below B a c :=
  ⟨k.os.trans h.os, k.tape.trans h.tape, k.output.trans h.output, Nat.le_trans h.size k.size, fun i hi => (k.block i hi).trans (h.block i hi), Nat.le_trans h.drawn k.drawn, fun i o e l => k.lp i o (h.lp i o e l) l⟩
theorem Below.ofKit {B : Nat} {w w' : World} (h : Go.RowKit.Below B w w') (d : w.drawn ≤ w'.drawn) (lp : ∀ (k : Nat) (o : Obj), w.heap[k]? = some o → zA2 o = true → w'.heap[k]? = some o) : Below B w w' := ⟨h.os, h.tape, h.output, h.size, h.block, d, lp⟩
theorem Below.drew {B : Nat} {a b : World} (h : Below B a b) : Below B a b.drew := .ofKit h.kit.drew (Nat.le_trans h.drawn (Nat.le_succ _)) h.lp
theorem Below.alloc {B : Nat} {a b : World} (h : Below B a b) (hB : B ≤ b.heap.size) (o : Obj) : Below B a (b.alloc o) := .ofKit (h.kit.alloc hB o) (by simpa using h.drawn) fun k o' e l => (Go.RowKit.Below.heap_alloc _ _ _ (Array.getElem?_eq_some_iff.1 (h.lp k o' e l)).1).trans (h.lp k o' e l)
theorem Below.setCell {B : Nat} {a b : World} {p : Addr} (h : Below B a b) (hp : B ≤ p.block) (v : Value) : Below B a (b.setCell p v) := .ofKit (h.kit.setCell hp v) (by simpa using h.drawn) fun k o e l => by
  have e1 := h.lp k o e l
  unfold World.setCell
  simp only [Array.getElem?_modify]
  by_cases hk : p.block = k
  · rw [if_pos hk, e1]
    cases o <;> simp [zA2] at l <;> rfl
  · rw [if_neg hk]; exact e1
structure Fx where
  b : Nat
  o : Nat
  lim : Nat
  es : Nat
abbrev Fm := Nat → Option Fx
def Ext (φ φ' : Fm) : Prop := ∀ k f, φ k = some f → φ' k = some f
theorem Ext.refl (φ : Fm) : Ext φ φ := fun _ _ h => h
theorem Ext.trans {a b c : Fm} (h : Ext a b) (k : Ext b c) : Ext a c := fun _ _ e => k _ _ (h _ _ e)
def U : Value := .chan (some 0)
def AR (φ : Fm) (a a' : Addr) : Prop := a.spot = none ∧ a'.spot = none ∧ ∃ f, φ a.block = some f ∧ a'.block = f.b ∧ a'.off = f.o + a.off
def CR (φ : Fm) (a a' : Addr) (c c' : Nat) : Prop :=
  (c % 2 = 1 → c' = c / 2) ∧ (c % 2 = 0 → c / 2 ≤ c' ∧ (c' = 0 ∨ ∃ f, φ a.block = some f ∧ a'.off + c' * f.es ≤ f.lim))
mutual
inductive VR (φ : Fm) : Value → Value → Prop
  | any (v : Value) : VR φ (.chan (some 0)) v
  | bool (b : Bool) : VR φ (.bool b) (.bool b)
  | int (k : IntKind) (n : Int) : VR φ (.int k n) (.int k n)
  | string (s : ByteArray) : VR φ (.string s) (.string s)
  | pnil : VR φ (.pointer none) (.pointer none)
  | ptr {a a' : Addr} (h : AR φ a a') : VR φ (.pointer (some a)) (.pointer (some a'))
  | snil (c : Nat) : VR φ (.slice none 0 c) (.slice none 0 0)
  | slice {a a' : Addr} {n c c' : Nat} (h : AR φ a a' ∨ c' = 0) (hc : CR φ a a' c c') (hn : n ≤ c') : VR φ (.slice (some a) n c) (.slice (some a') n c')
  | func {fn : Fn} {f f' c c' : Array Value} (hf : VRs φ f.toList f'.toList) (hc : VRs φ c.toList c'.toList) : VR φ (.func fn f c) (.func fn f' c')
  | nilFunc : VR φ .nilFunc .nilFunc
  | iface {t : TypeId} {v v' : Value} (h : VR φ v v') : VR φ (.iface t v) (.iface t v')
  | nilIface : VR φ .nilIface .nilIface
  | agg {c c' : Array Value} (h : VRs φ c.toList c'.toList) : VR φ (.agg c) (.agg c')
  | tuple {c c' : Array Value} (h : VRs φ c.toList c'.toList) : VR φ (.tuple c) (.tuple c')
  | mnil : VR φ (.map none) (.map none)
  | map {k : Nat} {f : Fx} (h : φ k = some f) : VR φ (.map (some k)) (.map (some f.b))
inductive VRs (φ : Fm) : List Value → List Value → Prop
  | nil : VRs φ [] []
  | cons {v v' : Value} {l l' : List Value} (h : VR φ v v') (hs : VRs φ l l') : VRs φ (v :: l) (v' :: l')
end
theorem VR.u (φ : Fm) (v : Value) : VR φ U v := .any v
theorem AR.mono {φ φ' : Fm} (e : Ext φ φ') {a a' : Addr} (h : AR φ a a') : AR φ' a a' := by
  obtain ⟨h1, h2, f, h3, h4⟩ := h
  exact ⟨h1, h2, f, e _ _ h3, h4⟩
theorem CR.mono {φ φ' : Fm} (e : Ext φ φ') {a a' : Addr} {c c' : Nat} (h : CR φ a a' c c') : CR φ' a a' c c' := by
  refine ⟨h.1, fun hc => ⟨(h.2 hc).1, (h.2 hc).2.imp id ?_⟩⟩
  rintro ⟨f, h1, h2⟩
  exact ⟨f, e _ _ h1, h2⟩
mutual
theorem VR.mono {φ φ' : Fm} (e : Ext φ φ') : ∀ {v v' : Value}, VR φ v v' → VR φ' v v'
  | _, _, .any v => .any v
  | _, _, .bool b => .bool b
  | _, _, .int k n => .int k n
  | _, _, .string s => .string s
  | _, _, .pnil => .pnil
  | _, _, .ptr h => .ptr (h.mono e)
  | _, _, .snil c => .snil c
  | _, _, .slice h hc hn => .slice (h.imp (·.mono e) id) (hc.mono e) hn
  | _, _, .func hf hc => .func (hf.mono e) (hc.mono e)
  | _, _, .nilFunc => .nilFunc
  | _, _, .iface h => .iface (h.mono e)
  | _, _, .nilIface => .nilIface
  | _, _, .agg h => .agg (h.mono e)
  | _, _, .tuple h => .tuple (h.mono e)
  | _, _, .mnil => .mnil
  | _, _, .map h => .map (e _ _ h)
theorem VRs.mono {φ φ' : Fm} (e : Ext φ φ') : ∀ {l l' : List Value}, VRs φ l l' → VRs φ' l l'
  | _, _, .nil => .nil
  | _, _, .cons h hs => .cons (h.mono e) (hs.mono e)
end
theorem VRs.length {φ : Fm} : ∀ {l l' : List Value}, VRs φ l l' → l.length = l'.length
  | _, _, .nil => rfl
  | _, _, .cons _ hs => by simp [hs.length]
theorem VRs.get {φ : Fm} : ∀ {l l' : List Value}, VRs φ l l' → ∀ (i : Nat) (v : Value), l[i]? = some v → ∃ v', l'[i]? = some v' ∧ VR φ v v'
  | _, _, .nil, i, v, h => by simp at h
  | _, _, .cons h0 hs, 0, v, h => by simp at h; subst h; exact ⟨_, by simp, h0⟩
  | _, _, .cons h0 hs, i + 1, v, h => by
    simp at h
    simpa using hs.get i v h
theorem VRs.of_get {φ : Fm} : ∀ {l l' : List Value}, l.length = l'.length → (∀ (i : Nat) (v : Value), l[i]? = some v → ∃ v', l'[i]? = some v' ∧ VR φ v v') → VRs φ l l'
  | [], [], _, _ => .nil
  | v :: l, v' :: l', hl, h => .cons (by obtain ⟨u, hu, hv⟩ := h 0 v (by simp); simp at hu; subst hu; exact hv)
      (VRs.of_get (by simpa using hl) fun i u hu => by simpa using h (i + 1) u (by simpa using hu))
  | [], _ :: _, hl, _ => by simp at hl
  | _ :: _, [], hl, _ => by simp at hl
theorem VRs.append {φ : Fm} : ∀ {l l' m m' : List Value}, VRs φ l l' → VRs φ m m' → VRs φ (l ++ m) (l' ++ m')
  | _, _, _, _, .nil, k => k
  | _, _, _, _, .cons h hs, k => .cons h (hs.append k)
theorem VRs.take {φ : Fm} : ∀ {l l' : List Value}, VRs φ l l' → ∀ n, VRs φ (l.take n) (l'.take n)
  | _, _, .nil, n => by simp; exact .nil
  | _, _, .cons h hs, 0 => by simp; exact .nil
  | _, _, .cons h hs, n + 1 => by simp; exact .cons h (hs.take n)
theorem VRs.drop {φ : Fm} : ∀ {l l' : List Value}, VRs φ l l' → ∀ n, VRs φ (l.drop n) (l'.drop n)
  | _, _, .nil, n => by simp; exact .nil
  | _, _, .cons h hs, 0 => by simp; exact .cons h hs
  | _, _, .cons h hs, n + 1 => by simp; exact hs.drop n
theorem VRs.set {φ : Fm} : ∀ {l l' : List Value}, VRs φ l l' → ∀ (n : Nat) {v v' : Value}, VR φ v v' → VRs φ (l.set n v) (l'.set n v')
  | _, _, .nil, n, _, _, _ => by simp; exact .nil
  | _, _, .cons h hs, 0, _, _, k => by simp; exact .cons k hs
  | _, _, .cons h hs, n + 1, _, _, k => by simp; exact .cons h (hs.set n k)
theorem VRs.map {φ : Fm} {α : Type} (f g : α → Value) (h : ∀ x, VR φ (f x) (g x)) : ∀ l : List α, VRs φ (l.map f) (l.map g)
  | [] => .nil
  | x :: l => .cons (h x) (VRs.map f g h l)
structure GB where
  cells : List Value
  es : Nat
  wr : Bool
  tl : Bool
abbrev GH := Nat → Option GB
def yB (h : GH) (k : Nat) (B : GB) : GH := fun j => if j = k then some B else h j
def zI4 (h : GH) (k : Nat) : GH := fun j => if j = k then none else h j
theorem zP (h : GH) (k : Nat) (B : GB) : yB h k B k = some B := by simp [yB]
theorem zT (h : GH) {k j : Nat} (B : GB) (e : j ≠ k) : yB h k B j = h j := by simp [yB, e]
theorem qR8 (h : GH) (k : Nat) : zI4 h k k = none := by simp [zI4]
theorem sN (h : GH) {k j : Nat} (e : j ≠ k) : zI4 h k j = h j := by simp [zI4, e]
structure Blk (N : Nat) (φ : Fm) (B : GB) (f : Fx) (w : World) : Prop where
  lt : f.b < w.heap.size
  cell : ∀ i v, B.cells[i]? = some v → ∃ v', w.cell? ⟨f.b, f.o + i, none⟩ = some v' ∧ VR φ v v'
  es : f.es = B.es
  nz : B.wr = true ∨ B.tl = true → N ≤ f.b
  wrf : B.wr = true → ∀ i, i < B.cells.length → w.frozen? ⟨f.b, f.o + i, none⟩ = false
  tlf : B.tl = true → ∀ j, f.o + B.cells.length ≤ j → j < f.lim → (∃ v', w.cell? ⟨f.b, j, none⟩ = some v') ∧ w.frozen? ⟨f.b, j, none⟩ = false
  tll : B.tl = true → f.o + B.cells.length ≤ f.lim
abbrev MM : Value := .chan (some 1)
abbrev IT : Value := .chan (some 2)
def fM (B : GB) : Bool := match B.cells with | .chan (some 1) :: _ => true | .chan (some 2) :: _ => true | _ => false
theorem qJ1 {B : GB} (h : fM B = true) : ∃ v l, B.cells = v :: l ∧ ∀ φ v', ¬ VR φ v v' := by
  unfold fM at h
  split at h
  · rename_i l e; exact ⟨_, l, e, fun φ v' q => by cases q⟩
  · rename_i l e; exact ⟨_, l, e, fun φ v' q => by cases q⟩
  · cases h
theorem isM_head {B C : GB} {v : Value} (hb : fM B = true) (h1 : B.cells[0]? = some v) (h2 : C.cells[0]? = some v) : fM C = true := by
  unfold fM at hb
  split at hb
  · rename_i l e
    rw [e] at h1
    cases h1
    cases hc : C.cells with
    | nil => rw [hc] at h2; cases h2
    | cons x r => rw [hc] at h2; cases h2; unfold fM; rw [hc]; rfl
  · rename_i l e
    rw [e] at h1
    cases h1
    cases hc : C.cells with
    | nil => rw [hc] at h2; cases h2
    | cons x r => rw [hc] at h2; cases h2; unfold fM; rw [hc]; rfl
  · cases hb
theorem Blk.noM {N : Nat} {φ : Fm} {B : GB} {f : Fx} {w : World} (h : Blk N φ B f w) : fM B = false := by
  cases hm : fM B with
  | false => rfl
  | true =>
    obtain ⟨_, r, e, nv⟩ := qJ1 hm
    obtain ⟨v', _, hv⟩ := h.cell 0 _ (by rw [e]; rfl)
    exact (nv _ _ hv).elim
def sU : List MapEntry → List Value
  | [] => []
  | e :: l => e.key :: e.val :: sU l
def SeenR (el : List MapEntry) (sn : Array Nat) (seen : List Value) : Prop :=
  ∃ is : List Nat, seen = is.map (fun i => .int .i64 (i : Int)) ∧ (∀ i ∈ is, i < el.length) ∧ sn.toList = is.map fun i => ((el[i]?).map (·.born)).getD 0
def MO (φ : Fm) (w : World) (b : Nat) : List Value → Prop
  | .chan (some 1) :: l => ∃ es ck, w.heap[b]? = some (Obj.map es ck) ∧ VRs φ l (sU es.toList) ∧ (∀ e ∈ es.toList, e.born < ck) ∧ es.toList.Pairwise fun x y => x.born < y.born
  | .chan (some 2) :: .map (some j) :: .int .i64 n0 :: seen => ∃ f2 es ck since sn last, φ j = some f2 ∧ w.heap[f2.b]? = some (Obj.map es ck) ∧ w.heap[b]? = some (Obj.mapIter (some f2.b) since sn last) ∧ since ≤ last ∧ n0 ≤ (es.size : Int) ∧
      ((es.size : Int) = n0 → ck = last ∧ (∀ e ∈ es.toList, e.born < since) ∧ (es.toList.Pairwise fun x y => x.born < y.born) ∧ SeenR es.toList sn seen)
  | _ => False
def mQ : Obj → Bool | .map .. => true | .mapIter .. => true | _ => false
theorem MO.mono {φ φ' : Fm} {w w' : World} {b : Nat} {l : List Value} (m : MO φ w b l) (x : Ext φ φ') (hw : ∀ (r : Nat) o, mQ o = true → w.heap[r]? = some o → w'.heap[r]? = some o) : MO φ' w' b l := by
  unfold MO at m ⊢
  split at m
  · obtain ⟨es, ck, q1, q2, q3, q4⟩ := m
    exact ⟨es, ck, hw _ _ rfl q1, q2.mono x, q3, q4⟩
  · obtain ⟨f2, es, ck, since, sn, last, q1, q2, q3, q4⟩ := m
    exact ⟨f2, es, ck, since, sn, last, x _ _ q1, hw _ _ rfl q2, hw _ _ rfl q3, q4⟩
  · exact m.elim
structure SimM (N : Nat) (φ : Fm) (h : GH) (w : World) : Prop where
  mdom : ∀ k B, h k = some B → fM B = true → (φ k = none ∧ B.tl = false) ∧ ∃ j f, k = j + 1 ∧ φ j = some f ∧ (N ≤ f.b ∧ f.o = 0) ∧ MO φ w f.b B.cells
  msep : ∀ k k' B B' f f', k ≠ k' → h (k + 1) = some B → h (k' + 1) = some B' → fM B = true → fM B' = true → φ k = some f → φ k' = some f' → f.b ≠ f'.b
  mfin : ∃ n, ∀ k B, n ≤ k → h k = some B → fM B = false
theorem SimM.step {N : Nat} {φ φ' : Fm} {h h' : GH} {w w' : World} (s : SimM N φ h w) (x : Ext φ φ') (hh : ∀ k B, h' k = some B → fM B = true → ∃ B0, h k = some B0 ∧ B0.cells = B.cells ∧ (B.tl = true → B0.tl = true)) (hφ : ∀ k B, h' k = some B → fM B = true → φ' k = none)
    (hw : ∀ (r : Nat) o, mQ o = true → w.heap[r]? = some o → w'.heap[r]? = some o) : SimM N φ' h' w' := by
  have im : ∀ {B B0 : GB}, B0.cells = B.cells → fM B = true → fM B0 = true := fun e m => by unfold fM at m ⊢; rw [e]; exact m
  refine ⟨fun k B hk hm => ?_, fun k k' B B' f f' ne hk hk' hm hm' p p' => ?_, ?_⟩
  · obtain ⟨B0, h0, e0, et⟩ := hh k B hk hm
    obtain ⟨⟨_, q0⟩, j, f, q1, q2, q3, q4⟩ := s.mdom k B0 h0 (im e0 hm)
    have ht : B.tl = false := by
      cases hb : B.tl with
      | false => rfl
      | true => rw [et hb] at q0; cases q0
    exact ⟨⟨hφ k B hk hm, ht⟩, j, f, q1, x _ _ q2, q3, by rw [← e0]; exact q4.mono x hw⟩
  · obtain ⟨B0, h0, e0, _⟩ := hh _ B hk hm
    obtain ⟨B0', h0', e0', _⟩ := hh _ B' hk' hm'
    obtain ⟨_, j, g, q1, q2, _⟩ := s.mdom _ B0 h0 (im e0 hm)
    obtain ⟨_, j', g', q1', q2', _⟩ := s.mdom _ B0' h0' (im e0' hm')
    obtain rfl : k = j := by omega
    obtain rfl : k' = j' := by omega
    have a := x _ _ q2
    have a' := x _ _ q2'
    rw [p] at a; cases a
    rw [p'] at a'; cases a'
    exact s.msep _ _ B0 B0' _ _ ne h0 h0' (im e0 hm) (im e0' hm') q2 q2'
  · obtain ⟨n, hn⟩ := s.mfin
    refine ⟨n, fun k B hk hb => ?_⟩
    cases hm : fM B with
    | false => rfl
    | true =>
      obtain ⟨B0, h0, e0, _⟩ := hh k B hb hm
      have := hn k B0 hk h0
      rw [im e0 hm] at this; cases this
theorem dM {w : World} {r : Nat} {o : Obj} (hr : w.heap[r]? = some o) : r < w.heap.size := by
  rcases Nat.lt_or_ge r w.heap.size with h | h
  · exact h
  · rw [Array.getElem?_eq_none h] at hr; cases hr
theorem qN6 {w : World} {b o : Nat} {v : Value} (h : w.cell? ⟨b, o, none⟩ = some v) : ∀ ob, mQ ob = true → w.heap[b]? ≠ some ob := by
  intro ob ho e
  simp only [World.cell?, e] at h
  cases ob <;> simp [mQ] at ho <;> cases h
structure Sim (N : Nat) (φ : Fm) (h : GH) (w : World) : Prop where
  ini : ∀ k, k < N → φ k = some ⟨k, 0, 0, 0⟩
  big : N ≤ w.heap.size
  fin : ∃ n, ∀ k, n ≤ k → φ k = none
  dom : ∀ k B, h k = some B → fM B = false → ∃ f, φ k = some f ∧ Blk N φ B f w
  sep : ∀ k k' B B' f f', k ≠ k' → h k = some B → h k' = some B' → φ k = some f → φ k' = some f' → f.b = f'.b →
    B.wr = false ∧ B'.wr = false ∧ (B.tl = true → B'.tl = false ∧ f'.o + B'.cells.length ≤ f.o + B.cells.length)
  rng : ∀ k f, φ k = some f → f.b < w.heap.size
  mm : SimM N φ h w
theorem Sim.domf {N : Nat} {φ : Fm} {h : GH} {w : World} (s : Sim N φ h w) {k : Nat} {B : GB} {f : Fx} (hB : h k = some B) (hf : φ k = some f) : Blk N φ B f w := by
  cases hm : fM B with
  | true => have := (s.mm.mdom k B hB hm).1.1; rw [hf] at this; cases this
  | false =>
    obtain ⟨g, h1, h2⟩ := s.dom k B hB hm
    rw [hf] at h1; cases h1; exact h2
theorem Blk.mono {N : Nat} {φ φ' : Fm} {B : GB} {f : Fx} {w w' : World} (h : Blk N φ B f w) (e : Ext φ φ') (hs : w.heap.size ≤ w'.heap.size)
    (hc : w'.heap[f.b]? = w.heap[f.b]?) : Blk N φ' B f w' where
  lt := Nat.lt_of_lt_of_le h.lt hs
  cell i v hv := by
    obtain ⟨v', h1, h2⟩ := h.cell i v hv
    exact ⟨v', by rw [World.cell?_of_block (w := w) hc]; exact h1, h2.mono e⟩
  es := h.es
  nz := h.nz
  wrf hw i hi := by rw [World.frozen?_of_block (w := w) hc]; exact h.wrf hw i hi
  tlf ht j h1 h2 := by
    have := h.tlf ht j h1 h2
    rw [World.cell?_of_block (w := w) hc, World.frozen?_of_block (w := w) hc]; exact this
  tll := h.tll
theorem Sim.grow {N : Nat} {φ : Fm} {h : GH} {w w' : World} (s : Sim N φ h w) (hs : w.heap.size ≤ w'.heap.size) (hc : ∀ k, k < w.heap.size → w'.heap[k]? = w.heap[k]?) : Sim N φ h w' where
  ini := s.ini
  big := Nat.le_trans s.big hs
  fin := s.fin
  dom k B hk hm := by
    obtain ⟨f, h1, h2⟩ := s.dom k B hk hm
    exact ⟨f, h1, h2.mono (Ext.refl _) hs (hc _ h2.lt)⟩
  sep := s.sep
  rng k f hk := Nat.lt_of_lt_of_le (s.rng k f hk) hs
  mm := s.mm.step (Ext.refl _) (fun k B hk _ => ⟨B, hk, rfl, id⟩) (fun k B hk hm => (s.mm.mdom k B hk hm).1.1) fun r o _ hr => by
    rw [hc r (dM hr)]; exact hr
theorem Sim.drew {N : Nat} {φ : Fm} {h : GH} {w : World} (s : Sim N φ h w) : Sim N φ h w.drew := s.grow (Nat.le_refl _) fun _ _ => rfl
theorem Sim.forget {N : Nat} {φ : Fm} {h h' : GH} {w : World} (s : Sim N φ h w) (hh : ∀ k B, h' k = some B → h k = some B) : Sim N φ h' w where
  ini := s.ini
  big := s.big
  fin := s.fin
  dom k B hk hm := s.dom k B (hh k B hk) hm
  sep k k' B B' f f' hne hk hk' := s.sep k k' B B' f f' hne (hh k B hk) (hh k' B' hk')
  rng := s.rng
  mm := s.mm.step (Ext.refl _) (fun k B hk _ => ⟨B, hh k B hk, rfl, id⟩) (fun k B hk hm => (s.mm.mdom k B (hh k B hk) hm).1.1) fun _ _ _ h => h
def qI4 (φ : Fm) (k : Nat) (f : Fx) : Fm := fun j => if j = k then some f else φ j
theorem kI {φ : Fm} {k : Nat} (f : Fx) (hk : φ k = none) : Ext φ (qI4 φ k f) := fun j g hj => by
  unfold qI4
  split
  · rename_i e; rw [e] at hj; rw [hk] at hj; cases hj
  · exact hj
theorem vH (φ : Fm) (k : Nat) (f : Fx) : qI4 φ k f k = some f := by simp [qI4]
theorem vL (φ : Fm) {k j : Nat} (f : Fx) (h : j ≠ k) : qI4 φ k f j = φ j := by simp [qI4, h]
theorem Sim.fresh {N : Nat} {φ : Fm} {h : GH} {w : World} (s : Sim N φ h w) : ∃ k, φ k = none ∧ h k = none ∧ N ≤ k := by
  obtain ⟨n, hn⟩ := s.fin
  obtain ⟨m, hm⟩ := s.mm.mfin
  have h0 : φ (max (max n m) N) = none := hn _ (by omega)
  refine ⟨max (max n m) N, h0, ?_, by omega⟩
  cases hk : h (max (max n m) N) with
  | none => rfl
  | some B =>
    obtain ⟨f, h1, _⟩ := s.dom _ B hk (hm _ B (by omega) hk)
    rw [h0] at h1; cases h1
theorem Sim.add {N : Nat} {φ : Fm} {h : GH} {w w' : World} (s : Sim N φ h w) {k : Nat} {B : GB} {f : Fx} (hk : φ k = none) (hs : w.heap.size ≤ w'.heap.size)
    (hc : ∀ k, k < w.heap.size → w'.heap[k]? = w.heap[k]?) (hb : w.heap.size ≤ f.b) (hB : Blk N (qI4 φ k f) B f w') (hkn : h k = none) : Sim N (qI4 φ k f) (yB h k B) w' := by
  have e := kI f hk
  refine ⟨fun j hj => ?_, Nat.le_trans s.big hs, ?_, fun j B' hj hm => ?_, ?_, fun j g hj => ?_, ?_⟩
  · have hne : j ≠ k := fun ee => by have := s.ini j hj; rw [ee, hk] at this; cases this
    rw [vL _ _ hne]; exact s.ini j hj
  · obtain ⟨n, hn⟩ := s.fin
    refine ⟨max n (k + 1), fun j hj => ?_⟩
    rw [vL _ _ (by omega)]; exact hn j (by omega)
  · by_cases hjk : j = k
    · subst hjk
      rw [zP] at hj; cases hj
      exact ⟨f, vH _ _ _, hB⟩
    · rw [zT _ _ hjk] at hj
      obtain ⟨g, h1, h2⟩ := s.dom j B' hj hm
      exact ⟨g, by rw [vL _ _ hjk]; exact h1, h2.mono e hs (hc _ h2.lt)⟩
  · intro j j' B1 B2 f1 f2 hne h1 h2 p1 p2 hbb
    by_cases hj : j = k
    · subst hj
      rw [vH] at p1; cases p1
      rw [vL _ _ (Ne.symm hne)] at p2
      rw [zT _ _ (Ne.symm hne)] at h2
      have := s.rng _ _ p2
      omega
    · by_cases hj' : j' = k
      · subst hj'
        rw [vH] at p2; cases p2
        rw [vL _ _ hj] at p1
        have := s.rng _ _ p1
        omega
      · rw [vL _ _ hj] at p1; rw [vL _ _ hj'] at p2
        rw [zT _ _ hj] at h1; rw [zT _ _ hj'] at h2
        exact s.sep j j' B1 B2 f1 f2 hne h1 h2 p1 p2 hbb
  · by_cases hjk : j = k
    · subst hjk; rw [vH] at hj; cases hj; exact hB.lt
    · rw [vL _ _ hjk] at hj
      exact Nat.lt_of_lt_of_le (s.rng j g hj) hs
  · have old : ∀ j B', yB h k B j = some B' → fM B' = true → j ≠ k ∧ h j = some B' := fun j B' hj hm => by
      by_cases hjk : j = k
      · subst hjk; rw [zP] at hj; cases hj
        rw [hB.noM] at hm; cases hm
      · rw [zT _ _ hjk] at hj; exact ⟨hjk, hj⟩
    refine s.mm.step e (fun j B' hj hm => ⟨B', (old j B' hj hm).2, rfl, id⟩) (fun j B' hj hm => ?_) fun r es ck hr => ?_
    · rw [vL _ _ (old j B' hj hm).1]
      exact (s.mm.mdom j B' (old j B' hj hm).2 hm).1.1
    · rw [hc r (dM hr)]; exact hr
def wA (h : GH) (a : Addr) (n : Nat) : Option (List Value) :=
  if n = 0 then some [] else
  match a.spot, h a.block with
  | none, some B => if a.off + n ≤ B.cells.length then some ((B.cells.drop a.off).take n) else none
  | _, _ => none
theorem gU (b o n : Nat) : (⟨b, o, none⟩ : Addr).add n = ⟨b, o + n, none⟩ := by unfold Addr.add; split <;> simp_all
theorem kJ {a : Addr} (h : a.spot = none) : a = ⟨a.block, a.off, none⟩ := by cases a; simp_all
theorem vK {h : GH} {a : Addr} {n : Nat} {cs : List Value} (e : wA h a n = some cs) : cs.length = n := by
  unfold wA at e
  split at e
  · cases e; simp_all
  · split at e
    · split at e
      · cases e; simp; omega
      · cases e
    · cases e
theorem jB {N : Nat} {φ : Fm} {h : GH} {w : World} (s : Sim N φ h w) {a a' : Addr} (ha : AR φ a a') {n : Nat} {cs : List Value} (e : wA h a n = some cs) :
    ∃ cs', VRs φ cs cs' ∧ cs'.length = n ∧ ∀ j v, cs'[j]? = some v → w.cell? (a'.add j) = some v := by
  unfold wA at e
  split at e
  · cases e
    exact ⟨[], .nil, by simp_all, by simp⟩
  · rename_i hn
    split at e
    case h_2 => cases e
    rename_i B hsp hB
    split at e
    case isFalse => cases e
    rename_i hle
    cases e
    obtain ⟨h1, h2, f, h3, h4, h5⟩ := ha
    have hb := s.domf hB h3
    have hcell : ∀ j, j < n → ∃ v v', B.cells[a.off + j]? = some v ∧ w.cell? (a'.add j) = some v' ∧ VR φ v v' := fun j hj => by
      have hlt : a.off + j < B.cells.length := by omega
      obtain ⟨v', hc, hv⟩ := hb.cell (a.off + j) _ (List.getElem?_eq_getElem hlt)
      refine ⟨_, v', List.getElem?_eq_getElem hlt, ?_, hv⟩
      rw [kJ h2, gU, h4, h5, Nat.add_assoc]
      exact hc
    refine ⟨(List.range n).map fun j => (w.cell? (a'.add j)).getD undef, ?_, by simp, ?_⟩
    · refine VRs.of_get (by simp; omega) fun i v hv => ?_
      rw [List.getElem?_take] at hv
      split at hv
      case isFalse => cases hv
      rename_i hi
      rw [List.getElem?_drop] at hv
      obtain ⟨u, v', hu, hc, hvr⟩ := hcell i hi
      rw [hu] at hv; cases hv
      exact ⟨v', by simp [hi, hc], hvr⟩
    · intro j v hv
      have hj : j < n := by have := (List.getElem?_eq_some_iff.1 hv).1; simpa using this
      rw [List.getElem?_map, List.getElem?_range hj] at hv
      simp only [Option.map_some, Option.some.injEq] at hv
      obtain ⟨u, v', hu, hc, hvr⟩ := hcell j hj
      rw [hc] at hv ⊢
      simp at hv; rw [hv]
def zK : Value → Bool
  | .agg _ | .tuple _ | .chan _ => false
  | _ => true
theorem zI3 {φ : Fm} {v v' : Value} (h : VR φ v v') (hc : zK v = true) : v'.oneCell' = true := by
  cases h <;> simp_all [zK, Value.oneCell']
theorem mZ {φ : Fm} : ∀ {l l' : List Value}, VRs φ l l' → l.all zK = true → ∀ v ∈ l', v.oneCell' = true
  | _, _, .nil, _ => by simp
  | _, _, .cons h hs, hc => by
    simp only [List.all_cons, Bool.and_eq_true] at hc
    intro v hv
    cases hv with
    | head => exact zI3 h hc.1
    | tail _ hm => exact mZ hs hc.2 v hm
def jE (l : List Value) (o : Nat) (vs : List Value) : List Value := l.take o ++ vs ++ l.drop (o + vs.length)
theorem fL {l : List Value} {o : Nat} {vs : List Value} (h : o + vs.length ≤ l.length) : (jE l o vs).length = l.length := by
  simp [jE]; omega
theorem qK5 {l : List Value} {o : Nat} {vs : List Value} (h : o + vs.length ≤ l.length) (i : Nat) :
    (jE l o vs)[i]? = if i < o then l[i]? else if i < o + vs.length then vs[i - o]? else l[i]? := by
  unfold jE
  by_cases h1 : i < o
  · rw [if_pos h1, List.append_assoc, List.getElem?_append_left (by simp; omega), List.getElem?_take, if_pos h1]
  · rw [if_neg h1]
    by_cases h2 : i < o + vs.length
    · rw [if_pos h2, List.append_assoc, List.getElem?_append_right (by simp; omega), List.getElem?_append_left (by simp; omega)]
      congr 1
      simp; omega
    · rw [if_neg h2, List.getElem?_append_right (by simp; omega), List.getElem?_drop]
      congr 1
      simp; omega
def kQ (h : GH) (a : Addr) (cs : List Value) : Option GH :=
  if cs.length = 0 then some h else
  match a.spot, h a.block with
  | none, some B => if B.wr = true ∧ a.off + cs.length ≤ B.cells.length then some (yB h a.block { B with cells := jE B.cells a.off cs }) else none
  | _, _ => none
theorem jS (b : Nat) : ∀ (vs : List Value) (o : Nat) (w : World) (k : Nat), k ≠ b → (w.setCells b o vs).heap[k]? = w.heap[k]?
  | [], _, _, _, _ => rfl
  | v :: r, o, w, k, h => by rw [World.setCells, jS b r _ _ k h, Below.heap_setCell _ _ _ _ h]
theorem uC (b : Nat) : ∀ (vs : List Value) (o : Nat) (w : World), (w.setCells b o vs).heap.size = w.heap.size
  | [], _, _ => rfl
  | v :: r, o, w => by rw [World.setCells, uC b r]; simp
theorem rK {N : Nat} (b : Nat) (hb : N ≤ b) : ∀ (vs : List Value) (o : Nat) (w : World), Below N w (w.setCells b o vs)
  | [], _, w => Below.refl _ _
  | v :: r, o, w => (Below.setCell (Below.refl N w) (p := ⟨b, o, none⟩) hb v).trans (rK b hb r _ _)
theorem sP {P : Program} {N : Nat} {φ : Fm} {h h2 : GH} {w : World} (s : Sim N φ h w) {a a' : Addr} (ha : AR φ a a') {cs cs' : List Value} (hv : VRs φ cs cs')
    (hc : cs.all zK = true) (e : kQ h a cs = some h2) :
    ∃ w', (storeCells a' cs').run P w = .ok () w' ∧ Sim N φ h2 w' ∧ Below N w w' := by
  unfold kQ at e
  split at e
  · rename_i h0
    cases e
    have : cs' = [] := List.eq_nil_of_length_eq_zero (by rw [← hv.length]; exact h0)
    subst this
    exact ⟨w, rfl, s, Below.refl _ _⟩
  rename_i h0
  split at e
  case h_2 => cases e
  rename_i B hsp hB
  split at e
  case isFalse => cases e
  rename_i hle
  obtain ⟨hwr, hle⟩ := hle
  cases e
  obtain ⟨h1, h2, f, h3, h4, h5⟩ := ha
  have hb := s.domf hB h3
  have hlen := hv.length
  have hcell : ∀ j, j < cs'.length → (w.cell? ⟨f.b, f.o + a.off + j, none⟩).isSome = true := fun j hj => by
    obtain ⟨v', hc, _⟩ := hb.cell (a.off + j) _ (List.getElem?_eq_getElem (by omega))
    rw [Nat.add_assoc, hc]; rfl
  have hfz : ∀ j, j < cs'.length → w.frozen? ⟨f.b, f.o + a.off + j, none⟩ = false := fun j hj => by
    rw [Nat.add_assoc]; exact hb.wrf hwr _ (by omega)
  have hrun := run_storeCells_cells (P := P) f.b (f.o + a.off) cs' 0 w (by simpa using hcell) (by simpa using hfz) (mZ hv hc)
  have hb' := rK (N := N) f.b (hb.nz (.inl hwr)) cs' (f.o + a.off) w
  refine ⟨w.setCells f.b (f.o + a.off) cs', by rw [kJ h2, h4, h5]; exact hrun, ?_, hb'⟩
  refine ⟨s.ini, Nat.le_trans s.big hb'.size, s.fin, fun k B' hk hm => ?_, ?_, fun k g hk => by rw [uC]; exact s.rng k g hk, ?_⟩
  · by_cases hka : k = a.block
    · subst hka
      rw [zP] at hk; cases hk
      refine ⟨f, h3, ⟨by rw [uC]; exact hb.lt, fun i v hi => ?_, hb.es, hb.nz, fun hw i hi => ?_, fun ht j h1 h2 => ?_, fun ht => ?_⟩⟩
      · rw [qK5 hle] at hi
        split at hi
        · obtain ⟨v', p1, p2⟩ := hb.cell i v hi
          exact ⟨v', by rw [World.cell?_setCells_out _ _ _ _ _ (fun _ _ => by simp; omega)]; exact p1, p2⟩
        · split at hi
          · obtain ⟨v', p1, p2⟩ := hv.get _ _ hi
            refine ⟨v', ?_, p2⟩
            have hlt := (List.getElem?_eq_some_iff.1 p1).1
            have := World.cell?_setCells_in f.b cs' (f.o + a.off) w hcell (i - a.off) hlt
            rw [show f.o + a.off + (i - a.off) = f.o + i by omega] at this
            rw [this, (List.getElem?_eq_some_iff.1 p1).2]
          · obtain ⟨v', p1, p2⟩ := hb.cell i v hi
            exact ⟨v', by rw [World.cell?_setCells_out _ _ _ _ _ (fun _ _ => by simp; omega)]; exact p1, p2⟩
      · rw [World.frozen?_setCells]
        exact hb.wrf hw i (by simpa [fL hle] using hi)
      · simp only [fL hle] at h1
        rw [World.frozen?_setCells, World.cell?_setCells_out _ _ _ _ _ (fun _ _ => by simp; omega)]
        exact hb.tlf ht j h1 h2
      · simp only [fL hle]; exact hb.tll ht
    · rw [zT _ _ hka] at hk
      obtain ⟨g, p1, p2⟩ := s.dom k B' hk hm
      have hne : g.b ≠ f.b := fun ee => by
        have := (s.sep a.block k B B' f g (Ne.symm hka) hB hk h3 p1 ee.symm).1
        rw [hwr] at this; cases this
      exact ⟨g, p1, p2.mono (Ext.refl _) hb'.size (jS _ _ _ _ _ hne)⟩
  · intro k k' B1 B2 f1 f2 hne p1 p2 q1 q2 hbb
    have step : ∀ (k : Nat) (B1 : GB), yB h a.block { B with cells := jE B.cells a.off cs } k = some B1 → ∃ B0, h k = some B0 ∧ B0.wr = B1.wr ∧ B0.tl = B1.tl ∧ B0.cells.length = B1.cells.length := by
      intro k B1 hk
      by_cases hka : k = a.block
      · subst hka; rw [zP] at hk; cases hk
        exact ⟨B, hB, rfl, rfl, (fL hle).symm⟩
      · rw [zT _ _ hka] at hk
        exact ⟨B1, hk, rfl, rfl, rfl⟩
    obtain ⟨C1, r1, r2, r3, r4⟩ := step k B1 p1
    obtain ⟨C2, t1, t2, t3, t4⟩ := step k' B2 p2
    have := s.sep k k' C1 C2 f1 f2 hne r1 t1 q1 q2 hbb
    rw [r2, t2, r3, t3, r4, t4] at this
    exact this
  · have old : ∀ k B', yB h a.block { B with cells := jE B.cells a.off cs } k = some B' → fM B' = true → h k = some B' := fun k B' hk hm => by
      by_cases hka : k = a.block
      · subst hka
        rw [zP] at hk; cases hk
        obtain ⟨v0, l, el, nv⟩ := qJ1 hm
        simp only at el
        have hget := qK5 hle 0
        have e1 : (jE B.cells a.off cs)[0]? = some v0 := by rw [el]; rfl
        rw [el] at hget
        simp only [List.getElem?_cons_zero] at hget
        have out : B.cells[0]? = some v0 → False := fun e0 => by
          have := isM_head (C := B) hm e1 e0
          rw [hb.noM] at this; cases this
        split at hget
        · exact (out hget.symm).elim
        · split at hget
          · obtain ⟨v', _, hvv⟩ := hv.get _ _ hget.symm
            exact (nv _ _ hvv).elim
          · exact (out hget.symm).elim
      · rw [zT _ _ hka] at hk; exact hk
    refine s.mm.step (Ext.refl _) (fun k B' hk hm => ⟨B', old k B' hk hm, rfl, id⟩) (fun k B' hk hm => (s.mm.mdom k B' (old k B' hk hm) hm).1.1) fun r o ho hr => ?_
    have hrb : r ≠ f.b := fun e => by
      subst e
      obtain ⟨v', hc', _⟩ := hb.cell a.off _ (List.getElem?_eq_getElem (by omega))
      exact qN6 hc' o ho hr
    rw [jS _ _ _ _ _ hrb]; exact hr
theorem sW {N : Nat} {w : World} (hN : N ≤ w.heap.size) (o : Obj) : Below N w (w.alloc o) := (Below.refl N w).alloc hN o
theorem galloc {N : Nat} {φ : Fm} {h : GH} {w : World} (s : Sim N φ h w) {k : Nat} (hk : φ k = none) (hkn : h k = none) {cs cs' rest : List Value} (hv : VRs φ cs cs') (t : TypeId) (es : Nat) (tl : Bool) :
    Sim N (qI4 φ k ⟨w.heap.size, 0, cs.length + rest.length, es⟩) (yB h k ⟨cs, es, true, tl⟩) (w.alloc (.cells (cs' ++ rest).toArray t)) := by
  have hlen := hv.length
  refine s.add hk (by simp) (fun j hj => Below.heap_alloc _ _ _ hj) (Nat.le_refl _) ⟨by simp, fun i v hi => ?_, rfl, fun _ => s.big, fun _ i hi => ?_, fun _ j h1 h2 => ?_, fun _ => by simp⟩ hkn
  · obtain ⟨v', p1, p2⟩ := hv.get i v hi
    refine ⟨v', ?_, p2.mono (kI _ hk)⟩
    have hlt := (List.getElem?_eq_some_iff.1 p1).1
    simp only [Nat.zero_add, World.cell?_alloc_new, List.getElem?_toArray]
    rw [List.getElem?_append_left hlt]; exact p1
  · simp
  · simp only [Nat.zero_add] at h1 h2
    refine ⟨?_, by simp⟩
    simp only [World.cell?_alloc_new, List.getElem?_toArray]
    exact ⟨_, List.getElem?_eq_getElem (by simp; omega)⟩
def Yes (P : Program) (N : Nat) (φ : Fm) (w : World) (s : Sem Value) (K : Value → GH → Prop) : Prop :=
  ∃ v' w' φ' v h', s.run P w = .ok v' w' ∧ Ext φ φ' ∧ Sim N φ' h' w' ∧ VR φ' v v' ∧ Below N w w' ∧ K v h'
theorem Yes.same {P : Program} {N : Nat} {φ : Fm} {w : World} {s : Sem Value} {K : Value → GH → Prop} {h : GH} {v v' : Value} (hs : Sim N φ h w) (hr : s.run P w = .ok v' w) (hv : VR φ v v') (k : K v h) : Yes P N φ w s K :=
  ⟨v', w, φ, v, h, hr, Ext.refl _, hs, hv, Below.refl _ _, k⟩
def vG (P : Program) (t : TypeId) : Option (Bool × Nat) :=
  match P.underlying t, P.info? t with
  | some d, some i => some ((match d with | .struct _ | .array _ _ => true | _ => false), i.size)
  | _, _ => none
theorem vP {P : Program} {t : TypeId} {b : Bool} {n : Nat} (h : vG P t = some (b, n)) (w : World) :
    (isAgg t).run P w = .ok b w ∧ (sizeOf t).run P w = .ok n w := by
  unfold vG at h
  cases hu : P.underlying t with
  | none => simp [hu] at h
  | some d =>
    cases hi : P.info? t with
    | none => simp [hu, hi] at h
    | some i =>
      simp only [hu, hi, Option.some.injEq, Prod.mk.injEq] at h
      obtain ⟨rfl, rfl⟩ := h
      refine ⟨?_, by simp [sizeOf, typeInfo, hi]⟩
      simp only [isAgg, Sem.run_bind, run_underlying hu, Result.andThen_ok]
      cases d <;> rfl
def tF (P : Program) (t : TypeId) : Option (TypeId × Nat × Nat × Value) :=
  match P.underlying t with
  | some (.slice e) => match P.info? e with
    | some i => match i.zero with
      | some z => if z.cells.size = i.size ∧ 0 < i.size then some (e, i.size, i.bytes, z) else none
      | none => none
    | none => none
  | _ => none
theorem tU {P : Program} {t e : TypeId} {es by_ : Nat} {z : Value} (h : tF P t = some (e, es, by_, z)) :
    P.underlying t = some (.slice e) ∧ ∃ i, P.info? e = some i ∧ i.size = es ∧ i.bytes = by_ ∧ i.zero = some z ∧ z.cells.size = es ∧ 0 < es := by
  unfold tF at h
  split at h
  case h_2 => cases h
  rename_i e' hu
  split at h
  case h_2 => cases h
  rename_i i hi
  split at h
  case h_2 => cases h
  rename_i z' hz
  split at h
  case isFalse => cases h
  rename_i hc
  simp only [Option.some.injEq, Prod.mk.injEq] at h
  obtain ⟨rfl, rfl, rfl, rfl⟩ := h
  exact ⟨hu, i, hi, rfl, rfl, hz, hc.1, hc.2⟩
def wZ (P : Program) (t : TypeId) (h : GH) (x : Value) : Option Value :=
  match x with
  | .pointer (some a) => match vG P t with
    | some (true, n) => (wA h a n).map fun cs => .agg cs.toArray
    | some (false, _) => (wA h a 1).bind fun cs => cs[0]?
    | none => none
  | _ => none
theorem qG8 {P : Program} {N : Nat} {φ : Fm} {h : GH} {w : World} (s : Sim N φ h w) {t : TypeId} {x x' v : Value} (hx : VR φ x x') (e : wZ P t h x = some v) :
    ∃ v', (Instr.loadAt t x').run P w = .ok v' w ∧ VR φ v v' := by
  unfold wZ at e
  split at e
  case h_2 => cases e
  rename_i a
  cases hx with
  | ptr ha =>
  rename_i a'
  split at e
  · rename_i n hz
    obtain ⟨h1, h2⟩ := vP hz w
    simp only [Option.map_eq_some_iff] at e
    obtain ⟨cs, e1, rfl⟩ := e
    obtain ⟨cs', p1, p2, p3⟩ := jB s ha e1
    refine ⟨.agg cs'.toArray, ?_, .agg (by simpa using p1)⟩
    have hl := run_loadCells_list (P := P) w a' cs' p3
    rw [p2] at hl
    simp [Instr.loadAt, Instr.sureAddr, loadVar, h1, h2, hl]
  · rename_i n hz
    obtain ⟨h1, h2⟩ := vP hz w
    simp only [Option.bind_eq_some_iff] at e
    obtain ⟨cs, e1, e2⟩ := e
    obtain ⟨cs', p1, p2, p3⟩ := jB s ha e1
    obtain ⟨v', q1, q2⟩ := p1.get _ _ e2
    refine ⟨v', ?_, q2⟩
    have := p3 0 v' q1
    have ha0 : a'.add 0 = a' := by simp [Addr.add]
    rw [ha0] at this
    simp [Instr.loadAt, Instr.sureAddr, loadVar, h1, h2, this]
  · cases e
def dI (P : Program) (t : TypeId) (h : GH) (x v : Value) : Option GH :=
  match x with
  | .pointer (some a) => match vG P t with
    | some (_, n) => if v.cells.size = n ∧ v.cells.toList.all zK = true then kQ h a v.cells.toList else none
    | none => none
  | _ => none
theorem VR.cells {φ : Fm} {v v' : Value} (h : VR φ v v') (hcl : v.cells.toList.all zK = true) : VRs φ v.cells.toList v'.cells.toList := by
  cases h with
  | agg h => simpa [Value.cells] using h
  | any v => simp [Value.cells, zK] at hcl
  | tuple h => simp [Value.cells, zK] at hcl
  | bool b => exact .cons (.bool b) .nil
  | int k n => exact .cons (.int k n) .nil
  | string s => exact .cons (.string s) .nil
  | pnil => exact .cons .pnil .nil
  | ptr h => exact .cons (.ptr h) .nil
  | snil c => exact .cons (.snil c) .nil
  | slice h hc hn => exact .cons (.slice h hc hn) .nil
  | func hf hc => exact .cons (.func hf hc) .nil
  | nilFunc => exact .cons .nilFunc .nil
  | iface h => exact .cons (.iface h) .nil
  | nilIface => exact .cons .nilIface .nil
  | mnil => exact .cons .mnil .nil
  | map h => exact .cons (.map h) .nil
theorem qX2 {P : Program} {N : Nat} {φ : Fm} {h h2 : GH} {w : World} (s : Sim N φ h w) {t : TypeId} {x x' v v' : Value} (hx : VR φ x x') (hv : VR φ v v') (e : dI P t h x v = some h2) :
    ∃ w', (Instr.storeAt t x' v').run P w = .ok () w' ∧ Sim N φ h2 w' ∧ Below N w w' := by
  unfold dI at e
  split at e
  case h_2 => cases e
  rename_i a
  cases hx with
  | ptr ha =>
  rename_i a'
  split at e
  case h_2 => cases e
  rename_i b n hz
  split at e
  case isFalse => cases e
  rename_i hc
  obtain ⟨h1, h2⟩ := vP hz w
  have hcs := hv.cells hc.2
  obtain ⟨w', r1, r2, r3⟩ := sP (P := P) s ha hcs hc.2 e
  refine ⟨w', ?_, r2, r3⟩
  have hl : v'.cells.size = n := by have := hcs.length; simp at this; rw [← this]; exact hc.1
  simp [Instr.storeAt, Instr.sureAddr, storeVar, h2, hl, r1]
def gNew (h : GH) (cs : List Value) (es : Nat) (K : Nat → GH → Prop) : Prop := ∀ k, h k = none → K k (yB h k ⟨cs, es, true, false⟩)
theorem sQ {P : Program} {N : Nat} {φ : Fm} {h : GH} {w : World} (s : Sim N φ h w) {cs cs' : List Value} (hv : VRs φ cs cs') (t : TypeId) (es : Nat) {K : Nat → GH → Prop} (k : gNew h cs es K) :
    ∃ φ' k, Ext φ φ' ∧ φ' k = some ⟨w.heap.size, 0, cs.length, es⟩ ∧ Sim N φ' (yB h k ⟨cs, es, true, false⟩) (w.alloc (.cells cs'.toArray t)) ∧ Below N w (w.alloc (.cells cs'.toArray t)) ∧ K k (yB h k ⟨cs, es, true, false⟩) := by
  obtain ⟨k0, h1, h2, h3⟩ := s.fresh
  have := galloc s h1 h2 hv t es false (rest := [])
  simp only [List.append_nil, List.length_nil, Nat.add_zero] at this
  exact ⟨_, k0, kI _ h1, vH _ _ _, this, sW s.big _, k k0 h2⟩
theorem zJ9 {P : Program} {N : Nat} {φ : Fm} {h : GH} {w : World} (s : Sim N φ h w) {v v' : Value} (hv : VR φ v v') (hc : v.cells.toList.all zK = true) (t : TypeId) {K : Value → GH → Prop}
    (k : gNew h v.cells.toList 0 fun k h' => K (.pointer (some ⟨k, 0, none⟩)) h') : Yes P N φ w (Instr.box t v') K := by
  obtain ⟨φ', k0, h1, h2, h3, h4, h5⟩ := sQ (P := P) s (hv.cells hc) t 0 k
  refine ⟨.pointer (some ⟨w.heap.size, 0, none⟩), _, φ', _, _, ?_, h1, h3, .ptr ⟨rfl, rfl, _, h2, rfl, rfl⟩, h4, h5⟩
  simp [Instr.box, newVar, newRow]
theorem qY3 {P : Program} {N : Nat} {φ : Fm} {h : GH} {w : World} (s : Sim N φ h w) (t : TypeId) {i : TypeInfo} {z : Value} (hi : P.info? t = some i) (hz : i.zero = some z) (hv : VR φ z z) (hc : z.cells.toList.all zK = true)
    {K : Value → GH → Prop} (k : gNew h z.cells.toList 0 fun k h' => K (.pointer (some ⟨k, 0, none⟩)) h') (o : Value) : Yes P N φ w (Instr.alloc t true o) K := by
  obtain ⟨φ', k0, h1, h2, h3, h4, h5⟩ := sQ (P := P) s (hv.cells hc) t 0 k
  refine ⟨.pointer (some ⟨w.heap.size, 0, none⟩), _, φ', _, _, ?_, h1, h3, .ptr ⟨rfl, rfl, _, h2, rfl, rfl⟩, h4, h5⟩
  simp [Instr.alloc, zeroValue, typeInfo, hi, hz, newVar, newRow]
theorem zT1 (a : Array Value) (off : Nat) (c : Array Value) :
    a.zipIdx.foldl (fun cs (x : Value × Nat) => cs.setIfInBounds (off + x.2) x.1) c = (a.toList.zipIdx 0).foldl (fun cs (x : Value × Nat) => cs.setIfInBounds (off + x.2) x.1) c := by
  rw [← Array.foldl_toList, Array.toList_zipIdx]
def mR (h : GH) (es : Nat) (x : Value) : Option (Nat × List Value) :=
  match x with
  | .slice none 0 _ => some (0, [])
  | .slice (some a) n _ => (wA h a (n * es)).map fun cs => (n, cs)
  | .string s => if es = 1 then some (s.size, s.data.toList.map fun b => .int .u8 b.toNat) else none
  | _ => none
theorem zJ2 {P : Program} {N : Nat} {φ : Fm} {h : GH} {w : World} (s : Sim N φ h w) {es m : Nat} {x x' : Value} (hx : VR φ x x') {xs : List Value} (e : mR h es x = some (m, xs)) :
    xs.length = m * es ∧ ∃ xs', VRs φ xs xs' ∧ (∀ w0, (Builtin.lenOf x').run P w0 = .ok m w0) ∧ (Builtin.firstCells es m x').run P w = .ok xs'.toArray w ∧ (Builtin.firstCells es m x').run P w.drew = .ok xs'.toArray w.drew := by
  unfold mR at e
  split at e
  · cases e
    cases hx with
    | snil c => exact ⟨by simp, [], .nil, fun _ => by simp [Builtin.lenOf], by simp [Builtin.firstCells], by simp [Builtin.firstCells]⟩
  · rename_i a n c
    simp only [Option.map_eq_some_iff, Prod.mk.injEq] at e
    obtain ⟨cs, e1, rfl, rfl⟩ := e
    cases hx with
    | slice ha hc hn =>
      rename_i a' c'
      refine ⟨vK e1, ?_⟩
      rcases ha with ha | h0
      · obtain ⟨cs', p1, p2, p3⟩ := jB s ha e1
        have r1 := run_firstCells_some (P := P) w es n a' n c' cs' p2 p3
        have r2 := run_firstCells_some (P := P) w.drew es n a' n c' cs' p2 (by simpa using p3)
        exact ⟨cs', p1, fun _ => by simp [Builtin.lenOf], r1, r2⟩
      · have : n = 0 := by omega
        subst this
        have hcs : cs = [] := by have := vK e1; exact List.eq_nil_of_length_eq_zero (by simpa using this)
        subst hcs
        refine ⟨[], .nil, fun _ => by simp [Builtin.lenOf], ?_, ?_⟩
        · exact run_firstCells_some (P := P) w es 0 a' 0 c' [] (by simp) (by simp)
        · exact run_firstCells_some (P := P) w.drew es 0 a' 0 c' [] (by simp) (by simp)
  · rename_i b
    split at e
    case isFalse => cases e
    rename_i h1
    subst h1
    cases e
    cases hx with
    | string =>
    have hx : ((b.extract 0 b.size).data.map fun x : UInt8 => Value.int .u8 (x.toNat : Int)) = (b.data.toList.map fun x : UInt8 => Value.int .u8 (x.toNat : Int)).toArray := by
      apply Array.ext'
      rw [ByteArray.data_extract, show b.size = b.data.size from rfl, Array.extract_size]
      simp
    refine ⟨by simp only [List.length_map, Array.length_toList, Nat.mul_one]; rfl, _, VRs.map _ _ (fun b => .int _ _) _, fun _ => by simp [Builtin.lenOf], ?_, ?_⟩ <;>
    · simp only [Builtin.firstCells, Sem.run_pure]
      rw [hx]
  · cases e
theorem rC {P : Program} (w : World) (t u ty e : TypeId) (du : TypeDesc) (i : TypeInfo) (ht : P.underlying t = some (.slice e)) (hu : P.underlying u = some du) (hni : ∀ k, du ≠ .int k) (hi : P.info? e = some i)
    (base : Option Addr) (n c : Nat) (x : Value) (hc : n ≤ c) (hl : (Builtin.lenOf x).run P w = .ok 0 w) (hf : (Builtin.firstCells i.size 0 x).run P w = .ok #[] w) :
    (Builtin.append_ #[t, u] ty #[.slice base n c, x]).run P w = .ok (.slice base n c) w := by
  have hm : (match (generalizing := false) du with | .int _ => true | _ => false) = false := by cases du <;> first | rfl | exact absurd rfl (hni _)
  cases base <;> simp [Builtin.append_, run_underlying ht, run_underlying hu, hm, sizeOf, typeInfo, hi, hl, hf, hc, storeCells]
theorem tD {P : Program} (w : World) (t u ty e : TypeId) (du : TypeDesc) (i : TypeInfo) (ht : P.underlying t = some (.slice e)) (hu : P.underlying u = some du) (hni : ∀ k, du ≠ .int k) (hi : P.info? e = some i)
    (b : Addr) (n c m : Nat) (x : Value) (news : List Value) (hl : (Builtin.lenOf x).run P w = .ok m w) (hf : (Builtin.firstCells i.size m x).run P w = .ok news.toArray w) (hc : n + m ≤ c)
    (w2 : World) (hst : (storeCells (b.add (n * i.size)) news).run P w = .ok () w2) :
    (Builtin.append_ #[t, u] ty #[.slice (some b) n c, x]).run P w = .ok (.slice (some b) (n + m) c) w2 := by
  have hm : (match (generalizing := false) du with | .int _ => true | _ => false) = false := by cases du <;> first | rfl | exact absurd rfl (hni _)
  simp [Builtin.append_, run_underlying ht, run_underlying hu, hm, sizeOf, typeInfo, hi, hl, hf, hc, hst]
theorem rB {P : Program} (w : World) (t u ty e : TypeId) (du : TypeDesc) (i : TypeInfo) (z : Value) (ht : P.underlying t = some (.slice e)) (hu : P.underlying u = some du) (hni : ∀ k, du ≠ .int k) (hi : P.info? e = some i) (hz : i.zero = some z)
    (base : Option Addr) (n c m : Nat) (x : Value) (olds news : List Value) (hl : (Builtin.lenOf x).run P w = .ok m w) (hf : (Builtin.firstCells i.size m x).run P w.drew = .ok news.toArray w.drew)
    (hfo : (Builtin.firstCells i.size n (.slice base n c)).run P w.drew = .ok olds.toArray w.drew) (hc : c < n + m) (h63 : n + m ≤ 9223372036854775807) (hb : (n + m) * i.bytes ≤ 140737488355328) :
    (Builtin.append_ #[t, u] ty #[.slice base n c, x]).run P w = .ok (.slice (some ⟨w.heap.size, 0, none⟩) (n + m) (grownCap w (n + m) c e))
      (w.drew.alloc (.cells ((olds ++ news) ++ (Builtin.zeroCells z.cells (grownCap w (n + m) c e - (n + m))).toList).toArray e)) := by
  have hm : (match (generalizing := false) du with | .int _ => true | _ => false) = false := by cases du <;> first | rfl | exact absurd rfl (hni _)
  have hn : ¬ (n + m ≤ c) := by omega
  have h63' : ¬ (9223372036854775807 < ((n : Int) + (m : Int))) := by omega
  have hfit := growslice_fits hc hb
  have h48' : ¬ (281474976710656 < Builtin.nextslicecap (n + m) c * i.bytes) := by omega
  simp [Builtin.append_, run_underlying ht, run_underlying hu, hm, sizeOf, typeInfo, zeroValue, hi, hz, hl, hn, h63', h48', Question.forced, hf, hfo, newRow, grownCap]
  congr 2
  apply Array.ext'
  simp [List.append_assoc]
def zO6 (P : Program) (t : TypeId) (h : GH) (s : Value) (m : Nat) (xs : List Value) (K : Value → GH → Prop) : Prop :=
  ∃ e es by_ z, tF P t = some (e, es, by_, z) ∧ xs.length = m * es ∧ xs.all zK = true ∧
  match s with
  | .slice none 0 c => (m = 0 ∧ K (.slice none 0 c) h) ∨ (0 < m ∧ m ≤ maxLen ∧ m * by_ ≤ 140737488355328 ∧ ∀ k, h k = none → K (.slice (some ⟨k, 0, none⟩) m (2 * m)) (yB h k ⟨xs, es, true, true⟩))
  | .slice (some a) n c =>
    (m = 0 ∧ K (.slice (some a) n c) h) ∨
    (0 < m ∧ n + m ≤ maxLen ∧ (n + m) * by_ ≤ 140737488355328 ∧
      ((∃ pre, wA h a (n * es) = some pre ∧ c % 2 = 1 ∧ c / 2 < n + m ∧ ∀ k, h k = none → K (.slice (some ⟨k, 0, none⟩) (n + m) (2 * (n + m))) (yB h k ⟨pre ++ xs, es, true, true⟩)) ∨
       (n + m ≤ c / 2 ∧ ∃ h2, kQ h ⟨a.block, a.off + n * es, a.spot⟩ xs = some h2 ∧ K (.slice (some a) (n + m) c) h2) ∨
       (∃ B, h a.block = some B ∧ a.spot = none ∧ c % 2 = 0 ∧ B.tl = true ∧ B.es = es ∧ a.off + n * es = B.cells.length ∧
          ((∀ k, h k = none → k ≠ a.block → K (.slice (some ⟨k, 0, none⟩) (n + m) (2 * (n + m))) (yB (zI4 h a.block) k ⟨B.cells.drop a.off ++ xs, es, B.wr, true⟩)) ∨
           (∀ k, h k = none → k ≠ a.block → K (.slice (some ⟨k, 0, none⟩) (n + m) (2 * (n + m))) (yB (yB h a.block { B with wr := false, tl := false }) k ⟨B.cells.drop a.off ++ xs, es, false, true⟩))))))
  | _ => False
theorem Sim.degrade {N : Nat} {φ : Fm} {h : GH} {w : World} (s : Sim N φ h w) {k : Nat} {B : GB} (hk : h k = some B) : Sim N φ (yB h k { B with wr := false, tl := false }) w := by
  refine ⟨s.ini, s.big, s.fin, fun j C hj hm => ?_, ?_, s.rng, ?_⟩
  · by_cases hjk : j = k
    · subst hjk; rw [zP] at hj; cases hj
      obtain ⟨f, p1, p2⟩ := s.dom _ _ hk hm
      exact ⟨f, p1, ⟨p2.lt, p2.cell, p2.es, by simp, by simp, by simp, by simp⟩⟩
    · rw [zT _ _ hjk] at hj; exact s.dom j C hj hm
  · intro j j' B1 B2 f1 f2 hne p1 p2 q1 q2 hbb
    have step : ∀ (j : Nat) (B1 : GB), yB h k { B with wr := false, tl := false } j = some B1 → ∃ B0, h j = some B0 ∧ (B1.wr = true → B0.wr = true) ∧ (B1.tl = true → B0.tl = true) ∧ B0.cells.length = B1.cells.length := by
      intro j B1 hj
      by_cases hjk : j = k
      · subst hjk; rw [zP] at hj; cases hj
        exact ⟨B, hk, by simp, by simp, rfl⟩
      · rw [zT _ _ hjk] at hj
        exact ⟨B1, hj, id, id, rfl⟩
    obtain ⟨C1, r1, r2, r3, r4⟩ := step j B1 p1
    obtain ⟨C2, t1, t2, t3, t4⟩ := step j' B2 p2
    obtain ⟨z1, z2, z3⟩ := s.sep j j' C1 C2 f1 f2 hne r1 t1 q1 q2 hbb
    refine ⟨?_, ?_, fun ht => ?_⟩
    · cases hw : B1.wr with
      | false => rfl
      | true => rw [r2 hw] at z1; cases z1
    · cases hw : B2.wr with
      | false => rfl
      | true => rw [t2 hw] at z2; cases z2
    · obtain ⟨y1, y2⟩ := z3 (r3 ht)
      refine ⟨?_, by rw [← r4, ← t4]; exact y2⟩
      cases hw : B2.tl with
      | false => rfl
      | true => rw [t3 hw] at y1; cases y1
  · have old : ∀ j C, yB h k { B with wr := false, tl := false } j = some C → ∃ B0, h j = some B0 ∧ B0.cells = C.cells ∧ (C.tl = true → B0.tl = true) := fun j C hj => by
      by_cases hjk : j = k
      · subst hjk; rw [zP] at hj; cases hj
        exact ⟨B, hk, rfl, by simp⟩
      · rw [zT _ _ hjk] at hj; exact ⟨C, hj, rfl, id⟩
    refine s.mm.step (Ext.refl _) (fun j C hj _ => old j C hj) (fun j C hj hm => ?_) fun _ _ _ h => h
    obtain ⟨B0, h1, h2, _⟩ := old j C hj
    exact (s.mm.mdom j B0 h1 (by unfold fM at hm ⊢; rw [h2]; exact hm)).1.1
theorem Sim.extend {P : Program} {N : Nat} {φ : Fm} {h : GH} {w : World} (s : Sim N φ h w) {j0 : Nat} {B : GB} {f : Fx} (hB : h j0 = some B) (hf : φ j0 = some f) (htl : B.tl = true) (off : Nat) (hoff : off ≤ B.cells.length)
    {xs xs' : List Value} (hv : VRs φ xs xs') (hc : xs.all zK = true) (hroom : f.o + B.cells.length + xs.length ≤ f.lim) {k : Nat} (hk : φ k = none) (hkn : h k = none) (wr : Bool) (ho : GH)
    (hoth : ∀ j C, ho j = some C → (j ≠ j0 ∧ h j = some C) ∨ (j = j0 ∧ wr = false ∧ C = { B with wr := false, tl := false })) (hwr : wr = true → B.wr = true) :
    (storeCells ⟨f.b, f.o + B.cells.length, none⟩ xs').run P w = .ok () (w.setCells f.b (f.o + B.cells.length) xs') ∧
    Sim N (qI4 φ k ⟨f.b, f.o + off, f.lim, B.es⟩) (yB ho k ⟨B.cells.drop off ++ xs, B.es, wr, true⟩) (w.setCells f.b (f.o + B.cells.length) xs') ∧ Below N w (w.setCells f.b (f.o + B.cells.length) xs') := by
  have hb := s.domf hB hf
  have hlen := hv.length
  have hcell : ∀ j, j < xs'.length → (w.cell? ⟨f.b, f.o + B.cells.length + j, none⟩).isSome = true := fun j hj => by
    obtain ⟨⟨v', h1⟩, _⟩ := hb.tlf htl (f.o + B.cells.length + j) (by omega) (by omega)
    rw [h1]; rfl
  have hfz : ∀ j, j < xs'.length → w.frozen? ⟨f.b, f.o + B.cells.length + j, none⟩ = false := fun j hj => (hb.tlf htl (f.o + B.cells.length + j) (by omega) (by omega)).2
  have hrun := run_storeCells_cells (P := P) f.b (f.o + B.cells.length) xs' 0 w (by simpa using hcell) (by simpa using hfz) (mZ hv hc)
  have hbel := rK (N := N) f.b (hb.nz (.inr htl)) xs' (f.o + B.cells.length) w
  refine ⟨by simpa using hrun, ?_, hbel⟩
  have e := kI ⟨f.b, f.o + off, f.lim, B.es⟩ hk
  have hkN : ∀ j, j < N → j ≠ k := fun j hj ee => by have := s.ini j hj; rw [ee, hk] at this; cases this
  have hj0k : j0 ≠ k := fun ee => by rw [ee, hk] at hf; cases hf
  refine ⟨fun j hj => ?_, Nat.le_trans s.big hbel.size, ?_, fun j C hj hm => ?_, ?_, fun j g hj => ?_, ?_⟩
  · rw [vL _ _ (hkN j hj)]; exact s.ini j hj
  · obtain ⟨n, hn⟩ := s.fin
    refine ⟨max n (k + 1), fun j hj => ?_⟩
    rw [vL _ _ (by omega)]; exact hn j (by omega)
  · by_cases hjk : j = k
    · subst hjk
      rw [zP] at hj; cases hj
      refine ⟨_, vH _ _ _, ⟨by rw [uC]; exact hb.lt, fun i v hi => ?_, rfl, fun _ => hb.nz (.inr htl), fun hw i hi => ?_, fun _ i h1 h2 => ?_, fun _ => ?_⟩⟩
      · simp only at hi ⊢
        by_cases hii : i < B.cells.length - off
        · rw [List.getElem?_append_left (by simp; omega), List.getElem?_drop] at hi
          obtain ⟨v', p1, p2⟩ := hb.cell _ v hi
          refine ⟨v', ?_, p2.mono e⟩
          rw [World.cell?_setCells_out _ _ _ _ _ (fun _ _ => by simp; omega), Nat.add_assoc]; exact p1
        · rw [List.getElem?_append_right (by simp; omega)] at hi
          simp only [List.length_drop] at hi
          obtain ⟨v', p1, p2⟩ := hv.get _ _ hi
          refine ⟨v', ?_, p2.mono e⟩
          have hlt := (List.getElem?_eq_some_iff.1 p1).1
          have := World.cell?_setCells_in f.b xs' (f.o + B.cells.length) w hcell _ hlt
          rw [show f.o + off + i = f.o + B.cells.length + (i - (B.cells.length - off)) by omega, this, (List.getElem?_eq_some_iff.1 p1).2]
      · simp only at hi ⊢
        rw [World.frozen?_setCells]
        by_cases hii : i < B.cells.length - off
        · rw [Nat.add_assoc]; exact hb.wrf (hwr hw) _ (by omega)
        · refine (hb.tlf htl (f.o + off + i) (by omega) ?_).2
          simp at hi; omega
      · simp only [List.length_append, List.length_drop] at h1 h2 ⊢
        rw [World.frozen?_setCells, World.cell?_setCells_out _ _ _ _ _ (fun _ _ => by simp; omega)]
        exact hb.tlf htl i (by omega) h2
      · simp; omega
    · rw [zT _ _ hjk] at hj
      rcases hoth j C hj with ⟨hne, hC⟩ | ⟨rfl, _, rfl⟩
      · obtain ⟨g, p1, p2⟩ := s.dom j C hC hm
        refine ⟨g, e _ _ p1, ?_⟩
        by_cases hgb : f.b = g.b
        · obtain ⟨z1, z2, z3⟩ := s.sep j0 j B C f g (Ne.symm hne) hB hC hf p1 hgb
          obtain ⟨y1, y2⟩ := z3 htl
          refine ⟨by rw [uC]; exact p2.lt, fun i v hi => ?_, p2.es, by rw [z2, y1]; simp, by rw [z2]; simp, by rw [y1]; simp, by rw [y1]; simp⟩
          obtain ⟨v', q1, q2⟩ := p2.cell i v hi
          have hlt := (List.getElem?_eq_some_iff.1 hi).1
          exact ⟨v', by rw [World.cell?_setCells_out _ _ _ _ _ (fun _ _ => by simp; omega)]; exact q1, q2.mono e⟩
        · exact p2.mono e hbel.size (jS _ _ _ _ _ (Ne.symm hgb))
      · refine ⟨f, e _ _ hf, ⟨by rw [uC]; exact hb.lt, fun i v hi => ?_, hb.es, by simp, by simp, by simp, by simp⟩⟩
        obtain ⟨v', q1, q2⟩ := hb.cell i v hi
        have hlt : i < B.cells.length := (List.getElem?_eq_some_iff.1 hi).1
        exact ⟨v', by rw [World.cell?_setCells_out _ _ _ _ _ (fun _ _ => by simp; omega)]; exact q1, q2.mono e⟩
  · -- the new block and another one
    have key : ∀ (j : Nat) (C : GB) (g : Fx), j ≠ k → ho j = some C → φ j = some g → f.b = g.b → C.wr = false ∧ wr = false ∧ C.tl = false ∧ g.o + C.cells.length ≤ f.o + B.cells.length := by
      intro j C g hjk hj hg hbb
      rcases hoth j C hj with ⟨hne, hC⟩ | ⟨rfl, h1, rfl⟩
      · obtain ⟨z1, z2, z3⟩ := s.sep j0 j B C f g (Ne.symm hne) hB hC hf hg hbb
        obtain ⟨y1, y2⟩ := z3 htl
        refine ⟨z2, ?_, y1, y2⟩
        cases hw : wr with
        | false => rfl
        | true => rw [hwr hw] at z1; cases z1
      · rw [hf] at hg; cases hg
        exact ⟨rfl, h1, rfl, Nat.le_refl _⟩
    intro j j' B1 B2 f1 f2 hne p1 p2 q1 q2 hbb
    by_cases hj : j = k
    · subst hj
      rw [zP] at p1; cases p1
      rw [vH] at q1; cases q1
      rw [zT _ _ (Ne.symm hne)] at p2
      rw [vL _ _ (Ne.symm hne)] at q2
      obtain ⟨z1, z2, z3, z4⟩ := key j' B2 f2 (Ne.symm hne) p2 q2 hbb
      exact ⟨z2, z1, fun _ => ⟨z3, by simp; omega⟩⟩
    · by_cases hj' : j' = k
      · subst hj'
        rw [zP] at p2; cases p2
        rw [vH] at q2; cases q2
        rw [zT _ _ hj] at p1
        rw [vL _ _ hj] at q1
        obtain ⟨z1, z2, z3, z4⟩ := key j B1 f1 hj p1 q1 hbb.symm
        exact ⟨z1, z2, fun ht => by rw [z3] at ht; cases ht⟩
      · rw [zT _ _ hj] at p1; rw [zT _ _ hj'] at p2
        rw [vL _ _ hj] at q1; rw [vL _ _ hj'] at q2
        have step : ∀ (j : Nat) (B1 : GB), ho j = some B1 → ∃ B0, h j = some B0 ∧ (B1.wr = true → B0.wr = true) ∧ (B1.tl = true → B0.tl = true) ∧ B0.cells.length = B1.cells.length := by
          intro j C hj
          rcases hoth j C hj with ⟨hne, hC⟩ | ⟨rfl, h1, rfl⟩
          · exact ⟨C, hC, id, id, rfl⟩
          · exact ⟨B, hB, by simp, by simp, rfl⟩
        obtain ⟨C1, r1, r2, r3, r4⟩ := step j B1 p1
        obtain ⟨C2, t1, t2, t3, t4⟩ := step j' B2 p2
        obtain ⟨z1, z2, z3⟩ := s.sep j j' C1 C2 f1 f2 hne r1 t1 q1 q2 hbb
        refine ⟨?_, ?_, fun ht => ?_⟩
        · cases hw : B1.wr with
          | false => rfl
          | true => rw [r2 hw] at z1; cases z1
        · cases hw : B2.wr with
          | false => rfl
          | true => rw [t2 hw] at z2; cases z2
        · obtain ⟨y1, y2⟩ := z3 (r3 ht)
          refine ⟨?_, by rw [← r4, ← t4]; exact y2⟩
          cases hw : B2.tl with
          | false => rfl
          | true => rw [t3 hw] at y1; cases y1
  · by_cases hjk : j = k
    · subst hjk; rw [vH] at hj; cases hj; rw [uC]; exact hb.lt
    · rw [vL _ _ hjk] at hj; rw [uC]; exact s.rng j g hj
  · have old : ∀ j C, yB ho k ⟨B.cells.drop off ++ xs, B.es, wr, true⟩ j = some C → fM C = true → j ≠ k ∧ ∃ B0, h j = some B0 ∧ B0.cells = C.cells ∧ (C.tl = true → B0.tl = true) := fun j C hj hm => by
      by_cases hjk : j = k
      · subst hjk; rw [zP] at hj; cases hj
        obtain ⟨v0, l, el, nv⟩ := qJ1 hm
        simp only at el
        have h0 : (B.cells.drop off ++ xs)[0]? = some v0 := by rw [el]; rfl
        by_cases ho : off < B.cells.length
        · rw [List.getElem?_append_left (by simp; omega), List.getElem?_drop] at h0
          obtain ⟨v', _, hvv⟩ := hb.cell _ _ h0
          exact (nv _ _ hvv).elim
        · rw [List.getElem?_append_right (by simp; omega)] at h0
          obtain ⟨v', _, hvv⟩ := hv.get _ _ h0
          exact (nv _ _ hvv).elim
      · rw [zT _ _ hjk] at hj
        rcases hoth j C hj with ⟨_, hC⟩ | ⟨rfl, _, rfl⟩
        · exact ⟨hjk, C, hC, rfl, id⟩
        · exact ⟨hjk, B, hB, rfl, by simp⟩
    refine s.mm.step e (fun j C hj hm => (old j C hj hm).2) (fun j C hj hm => ?_) fun r o ho hr => ?_
    · obtain ⟨hjk, B0, h1, h2, _⟩ := old j C hj hm
      rw [vL _ _ hjk]
      exact (s.mm.mdom j B0 h1 (by unfold fM at hm ⊢; rw [h2]; exact hm)).1.1
    · cases xs' with
      | nil => exact hr
      | cons x xs'' =>
        have hrb : r ≠ f.b := fun e => by
          subst e
          obtain ⟨⟨v', hc'⟩, _⟩ := hb.tlf htl (f.o + B.cells.length) (by omega) (by simp at hlen; omega)
          exact qN6 hc' o ho hr
        rw [jS _ _ _ _ _ hrb]; exact hr
theorem zI6 {N : Nat} {w : World} (hN : N ≤ w.heap.size) (o : Obj) : Below N w (w.drew.alloc o) := (Below.drew (Below.refl N w)).alloc hN o
theorem Sim.less {N : Nat} {φ : Fm} {h h' : GH} {w : World} (s : Sim N φ h w) (hh : ∀ j C, h' j = some C → ∃ B, h j = some B ∧ C.cells = B.cells ∧ C.es = B.es ∧ (C.wr = true → B.wr = true) ∧ (C.tl = true → B.tl = true)) : Sim N φ h' w := by
  refine ⟨s.ini, s.big, s.fin, fun j C hj hm => ?_, ?_, s.rng, ?_⟩
  · obtain ⟨B, h1, h2, h3, h4, h5⟩ := hh j C hj
    obtain ⟨f, t1, t2⟩ := s.dom j B h1 (by unfold fM at hm ⊢; rw [← h2]; exact hm)
    refine ⟨f, t1, ⟨t2.lt, ?_, by rw [h3]; exact t2.es, fun h0 => t2.nz (h0.imp h4 h5), fun hw => ?_, fun ht => ?_, fun ht => ?_⟩⟩
    · rw [h2]; exact t2.cell
    · rw [h2]; exact t2.wrf (h4 hw)
    · rw [h2]; exact t2.tlf (h5 ht)
    · rw [h2]; exact t2.tll (h5 ht)
  · intro j j' B1 B2 f1 f2 hne p1 p2 q1 q2 hbb
    obtain ⟨C1, r1, r2, _, r3, r4⟩ := hh j B1 p1
    obtain ⟨C2, t1, t2, _, t3, t4⟩ := hh j' B2 p2
    obtain ⟨z1, z2, z3⟩ := s.sep j j' C1 C2 f1 f2 hne r1 t1 q1 q2 hbb
    refine ⟨?_, ?_, fun ht => ?_⟩
    · cases hw : B1.wr with
      | false => rfl
      | true => rw [r3 hw] at z1; cases z1
    · cases hw : B2.wr with
      | false => rfl
      | true => rw [t3 hw] at z2; cases z2
    · obtain ⟨y1, y2⟩ := z3 (r4 ht)
      refine ⟨?_, by rw [r2, t2]; exact y2⟩
      cases hw : B2.tl with
      | false => rfl
      | true => rw [t4 hw] at y1; cases y1
  · refine s.mm.step (Ext.refl _) (fun k C hk hm => ?_) (fun k C hk hm => ?_) fun _ _ _ h => h
    · obtain ⟨B, h1, h2, _, _, h5⟩ := hh k C hk
      exact ⟨B, h1, h2.symm, h5⟩
    · obtain ⟨B, h1, h2, _⟩ := hh k C hk
      exact (s.mm.mdom k B h1 (by unfold fM at hm ⊢; rw [← h2]; exact hm)).1.1
theorem pL {P : Program} {N : Nat} {φ : Fm} {h : GH} {w : World} (s : Sim N φ h w) (hw : Nat → Prop) (hall : ∀ k, h k = none → hw k → True) {K : Value → GH → Prop} (t e : TypeId) (es n c m : Nat) {cs cs' : List Value} {z : Value} (hz : z.cells.size = es)
    (hv : VRs φ cs cs') (hl : cs.length = (n + m) * es) (hpos : 0 < n + m) (k : ∀ k, h k = none → φ k = none → K (.slice (some ⟨k, 0, none⟩) (n + m) (2 * (n + m))) (yB h k ⟨cs, es, true, true⟩)) :
    ∃ φ' v h', Ext φ φ' ∧ Sim N φ' h' (w.drew.alloc (.cells (cs' ++ (Builtin.zeroCells z.cells (grownCap w (n + m) c e - (n + m))).toList).toArray e)) ∧
      VR φ' v (.slice (some ⟨w.heap.size, 0, none⟩) (n + m) (grownCap w (n + m) c e)) ∧ Below N w (w.drew.alloc (.cells (cs' ++ (Builtin.zeroCells z.cells (grownCap w (n + m) c e - (n + m))).toList).toArray e)) ∧ K v h' := by
  obtain ⟨k0, h1, h2, h3⟩ := s.fresh
  have hge := grownCap_ge w (n + m) c e
  have := galloc s.drew h1 h2 hv e es true (rest := (Builtin.zeroCells z.cells (grownCap w (n + m) c e - (n + m))).toList)
  refine ⟨_, _, _, kI _ h1, this, ?_, zI6 s.big _, k k0 h2 h1⟩
  refine .slice (.inl ⟨rfl, rfl, _, vH _ _ _, rfl, rfl⟩) ⟨fun ho => by omega, fun _ => ⟨by omega, .inr ⟨_, vH _ _ _, ?_⟩⟩⟩ hge
  have hzl : (Builtin.zeroCells z.cells (grownCap w (n + m) c e - (n + m))).toList.length = (grownCap w (n + m) c e - (n + m)) * es := by
    rw [Array.length_toList, size_zeroCells, hz]
  simp only [Nat.zero_add]
  rw [hl, hzl, ← Nat.add_mul]
  exact Nat.mul_le_mul_right _ (by omega)
theorem qP7 {P : Program} {N : Nat} {φ : Fm} {h : GH} {w : World} (hs : Sim N φ h w) {t u ty : TypeId} {du : TypeDesc} (hu : P.underlying u = some du) (hni : ∀ k, du ≠ .int k)
    {s s' x x' : Value} (hvs : VR φ s s') (hvx : VR φ x x') {m : Nat} {xs : List Value} {es0 : Nat} (hsrc : mR h es0 x = some (m, xs)) (hes : ∀ e es b z, tF P t = some (e, es, b, z) → es = es0) {K : Value → GH → Prop}
    (g : zO6 P t h s m xs K) : Yes P N φ w (Builtin.append_ #[t, u] ty #[s', x']) K := by
  obtain ⟨e, es, by_, z, hel, hxl, hxc, g⟩ := g
  obtain rfl := hes _ _ _ _ hel
  obtain ⟨ht, i, hi, hsize, hbytes, hz, hzs, hpos⟩ := tU hel
  subst hsize
  obtain ⟨_, xs', hvxs, hlen, hfc, hfd⟩ := zJ2 (P := P) hs hvx hsrc
  split at g
  · -- nil
    rename_i c
    cases hvs with
    | snil =>
    rcases g with ⟨rfl, k⟩ | ⟨hm, hml, hb, k⟩
    · have hx0 : xs' = [] := by
        have : xs = [] := List.eq_nil_of_length_eq_zero (by simpa using hxl)
        subst this; exact List.eq_nil_of_length_eq_zero (by simpa using hvxs.length.symm)
      subst hx0
      exact .same hs (rC w t u ty e du i ht hu hni hi none 0 0 x' (Nat.le_refl _) (hlen _) hfc) (.snil c) k
    · have hml' : m ≤ 9223372036854775807 := by simp only [maxLen] at hml; omega
      have hr := rB (P := P) w t u ty e du i z ht hu hni hi hz none 0 0 m x' [] xs' (hlen _) hfd (by simp [Builtin.firstCells]) (by omega) (by omega) (by rw [hbytes]; simpa using hb)
      simp only [Nat.zero_add, List.nil_append] at hr
      obtain ⟨φ', v, h', r1, r2, r3, r4, r5⟩ := pL (P := P) hs (fun _ => True) (fun _ _ _ => trivial) (K := K) t e i.size 0 0 m hzs hvxs (by simpa using hxl) (by omega)
        (fun k' hk _ => by simpa using k k' hk)
      simp only [Nat.zero_add] at r2 r3 r4
      exact ⟨_, _, φ', v, h', hr, r1, r2, r3, r4, r5⟩
  · rename_i a n c
    cases hvs with
    | slice ha hc hn =>
    rename_i a' c'
    rcases g with ⟨rfl, k⟩ | ⟨hm, hml, hb, g⟩
    · have hx0 : xs' = [] := by
        have : xs = [] := List.eq_nil_of_length_eq_zero (by simpa using hxl)
        subst this; exact List.eq_nil_of_length_eq_zero (by simpa using hvxs.length.symm)
      subst hx0
      exact .same hs (rC w t u ty e du i ht hu hni hi (some a') n c' x' hn (hlen _) hfc) (.slice ha hc hn) k
    have hml' : n + m ≤ 9223372036854775807 := by simp only [maxLen] at hml; omega
    rcases g with ⟨pre, hpre, hodd, hful, k⟩ | ⟨hle, h2, hw, k⟩ | ⟨B, hB, hsp, hev, htl, hBes, hend, g⟩
    · -- a new array for certain
      have hc1 := hc.1 hodd
      obtain ⟨pre', p1, p2, p3⟩ : ∃ pre', VRs φ pre pre' ∧ pre'.length = n * i.size ∧ (Builtin.firstCells i.size n (.slice (some a') n c')).run P w.drew = .ok pre'.toArray w.drew := by
        rcases ha with ha | h0
        · obtain ⟨cs', p1, p2, p3⟩ := jB hs ha hpre
          exact ⟨cs', p1, p2, run_firstCells_some (P := P) w.drew i.size n a' n c' cs' p2 (by simpa using p3)⟩
        · have : n = 0 := by omega
          subst this
          have hcs : pre = [] := List.eq_nil_of_length_eq_zero (by simpa using vK hpre)
          subst hcs
          exact ⟨[], .nil, by simp, run_firstCells_some (P := P) w.drew i.size 0 a' 0 c' [] (by simp) (by simp)⟩
      have hr := rB (P := P) w t u ty e du i z ht hu hni hi hz (some a') n c' m x' pre' xs' (hlen _) hfd p3 (by omega) hml' (by rw [hbytes]; exact hb)
      obtain ⟨φ', v, h', r1, r2, r3, r4, r5⟩ := pL (P := P) hs (fun _ => True) (fun _ _ _ => trivial) (K := K) t e i.size n c' m hzs (p1.append hvxs)
        (by rw [List.length_append, vK hpre, hxl, Nat.add_mul]) (by omega) (fun k' hk _ => k k' hk)
      exact ⟨_, _, φ', v, h', hr, r1, r2, r3, r4, r5⟩
    · -- in place for certain
      have hcle : c / 2 ≤ c' := by
        rcases Nat.mod_two_eq_zero_or_one c with h0 | h1
        · exact (hc.2 h0).1
        · exact Nat.le_of_eq (hc.1 h1).symm
      have ha' : AR φ a a' := by
        rcases ha with ha | h0
        · exact ha
        · omega
      obtain ⟨q1, q2, f, q3, q4, q5⟩ := ha'
      obtain ⟨w', r1, r2, r3⟩ := sP (P := P) hs (a := ⟨a.block, a.off + n * i.size, a.spot⟩) (a' := a'.add (n * i.size))
        ⟨q1, by rw [kJ q2, gU], f, q3, by rw [kJ q2, gU]; exact q4, by rw [kJ q2, gU]; show a'.off + n * i.size = _; rw [q5, Nat.add_assoc]⟩ hvxs hxc hw
      have hr := tD (P := P) w t u ty e du i ht hu hni hi a' n c' m x' xs' (hlen _) hfc (by omega) w' r1
      exact ⟨_, _, φ, _, _, hr, Ext.refl _, r2, .slice (.inl ⟨q1, q2, f, q3, q4, q5⟩) hc (by omega), r3, k⟩
    · -- in place or not: a new ghost block
      have hmB : fM B = false := by
        cases hh : fM B with
        | false => rfl
        | true => have := (hs.mm.mdom _ _ hB hh).1.2; rw [htl] at this; cases this
      obtain ⟨f, hf, hb0⟩ := hs.dom _ _ hB hmB
      by_cases hroom : n + m ≤ c'
      · have ha' : AR φ a a' := by
          rcases ha with ha | h0
          · exact ha
          · omega
        obtain ⟨q1, q2, f', q3, q4, q5⟩ := ha'
        rw [hf] at q3; cases q3
        have hlim : f.o + B.cells.length + xs.length ≤ f.lim := by
          rcases (hc.2 hev).2 with h0 | ⟨f', z1, z2⟩
          · omega
          · rw [hf] at z1; cases z1
            have : (n + m) * f.es ≤ c' * f.es := Nat.mul_le_mul_right _ hroom
            rw [hb0.es, hBes] at this z2
            rw [Nat.add_mul] at this
            rw [hxl, ← hend]
            omega
        have hend' : (a'.add (n * i.size)) = ⟨f.b, f.o + B.cells.length, none⟩ := by
          rw [kJ q2, gU, q4, q5, Nat.add_assoc, hend]
        obtain ⟨k0, y1, y2, y3⟩ := hs.fresh
        have hk0 : k0 ≠ a.block := fun ee => by rw [ee, hf] at y1; cases y1
        have hoff : a.off ≤ B.cells.length := by omega
        have vr : ∀ φ', Ext φ φ' → φ' k0 = some ⟨f.b, f.o + a.off, f.lim, B.es⟩ → VR φ' (.slice (some ⟨k0, 0, none⟩) (n + m) (2 * (n + m))) (.slice (some a') (n + m) c') := fun φ' hE hk =>
          .slice (.inl ⟨rfl, q2, _, hk, q4, by simpa using q5⟩) ⟨fun ho => by omega, fun _ => ⟨by omega, by
            rcases (hc.2 hev).2 with h0 | ⟨f', z1, z2⟩
            · exact .inl h0
            · rw [hf] at z1; cases z1
              exact .inr ⟨_, hk, by simpa [hb0.es] using z2⟩⟩⟩ hroom
        rcases g with k | k
        · obtain ⟨z1, z2, z3⟩ := hs.extend (P := P) hB hf htl a.off hoff hvxs hxc hlim y1 y2 B.wr (zI4 h a.block)
            (fun j C hj => by
              by_cases hja : j = a.block
              · subst hja; rw [qR8] at hj; cases hj
              · rw [sN _ hja] at hj; exact .inl ⟨hja, hj⟩) id
          have hr := tD (P := P) w t u ty e du i ht hu hni hi a' n c' m x' xs' (hlen _) hfc hroom _ (by rw [hend']; exact z1)
          exact ⟨_, _, _, _, _, hr, kI _ y1, z2, vr _ (kI _ y1) (vH _ _ _), z3, by rw [hBes]; exact k k0 y2 hk0⟩
        · obtain ⟨z1, z2, z3⟩ := hs.extend (P := P) hB hf htl a.off hoff hvxs hxc hlim y1 y2 false (yB h a.block { B with wr := false, tl := false })
            (fun j C hj => by
              by_cases hja : j = a.block
              · subst hja; rw [zP] at hj; cases hj; exact .inr ⟨rfl, rfl, rfl⟩
              · rw [zT _ _ hja] at hj; exact .inl ⟨hja, hj⟩) (fun hh => by cases hh)
          have hr := tD (P := P) w t u ty e du i ht hu hni hi a' n c' m x' xs' (hlen _) hfc hroom _ (by rw [hend']; exact z1)
          exact ⟨_, _, _, _, _, hr, kI _ y1, z2, vr _ (kI _ y1) (vH _ _ _), z3, by have hk := k k0 y2 hk0; rw [← hBes] at hk; exact hk⟩
      · -- a new array
        have hoff : a.off ≤ B.cells.length := by omega
        have hpre : wA h a (n * i.size) = some (B.cells.drop a.off) := by
          unfold wA
          split
          · rename_i h0
            rw [h0, Nat.add_zero] at hend
            rw [hend]; simp
          · rw [hsp, hB]
            simp only []
            rw [if_pos (by omega), List.take_of_length_le (by simp; omega)]
        obtain ⟨pre', p1, p2, p3⟩ : ∃ pre', VRs φ (B.cells.drop a.off) pre' ∧ pre'.length = n * i.size ∧ (Builtin.firstCells i.size n (.slice (some a') n c')).run P w.drew = .ok pre'.toArray w.drew := by
          rcases ha with ha | h0
          · obtain ⟨cs', p1, p2, p3⟩ := jB hs ha hpre
            exact ⟨cs', p1, p2, run_firstCells_some (P := P) w.drew i.size n a' n c' cs' p2 (by simpa using p3)⟩
          · have h0' : n = 0 := by omega
            subst h0'
            have hcs : B.cells.drop a.off = [] := List.eq_nil_of_length_eq_zero (by simpa using vK hpre)
            rw [hcs]
            exact ⟨[], .nil, by simp, run_firstCells_some (P := P) w.drew i.size 0 a' 0 c' [] (by simp) (by simp)⟩
        have hr := rB (P := P) w t u ty e du i z ht hu hni hi hz (some a') n c' m x' pre' xs' (hlen _) hfd p3 (by omega) hml' (by rw [hbytes]; exact hb)
        rcases g with k | k
        · obtain ⟨φ', v, h', r1, r2, r3, r4, r5⟩ := pL (P := P) (hs.forget (h' := zI4 h a.block) fun j C hj => by
              by_cases hja : j = a.block
              · subst hja; rw [qR8] at hj; cases hj
              · rw [sN _ hja] at hj; exact hj) (fun _ => True) (fun _ _ _ => trivial) (K := fun v h' => ∃ h'', K v h'' ∧ (∀ j C, h'' j = some C → (h' j = some C ∨ ∃ k0 cs, j = k0 ∧ h' k0 = some ⟨cs, i.size, true, true⟩ ∧ C = ⟨cs, i.size, B.wr, true⟩))) t e i.size n c' m hzs (p1.append hvxs)
            (by rw [List.length_append, vK hpre, hxl, Nat.add_mul]) (by omega) (fun k' hk hφ => by
              have hka : k' ≠ a.block := fun ee => by rw [ee, hf] at hφ; cases hφ
              rw [sN _ hka] at hk
              refine ⟨_, k k' hk hka, fun j C hj => ?_⟩
              by_cases hjk : j = k'
              · subst hjk; rw [zP] at hj; cases hj
                exact .inr ⟨_, _, rfl, by rw [zP], rfl⟩
              · rw [zT _ _ hjk] at hj; exact .inl (by rw [zT _ _ hjk]; exact hj))
          obtain ⟨h'', r6, r7⟩ := r5
          refine ⟨_, _, φ', v, h'', hr, r1, ?_, r3, r4, r6⟩
          refine r2.less fun j C hj => ?_
          rcases r7 j C hj with hj | ⟨k0, cs, rfl, hk, rfl⟩
          · exact ⟨C, hj, rfl, rfl, id, id⟩
          · exact ⟨_, hk, rfl, rfl, fun _ => rfl, fun _ => rfl⟩
        · obtain ⟨φ', v, h', r1, r2, r3, r4, r5⟩ := pL (P := P) (hs.degrade hB) (fun _ => True) (fun _ _ _ => trivial) (K := fun v h' => ∃ h'', K v h'' ∧ (∀ j C, h'' j = some C → (h' j = some C ∨ ∃ k0 cs, j = k0 ∧ h' k0 = some ⟨cs, i.size, true, true⟩ ∧ C = ⟨cs, i.size, false, true⟩))) t e i.size n c' m hzs (p1.append hvxs)
            (by rw [List.length_append, vK hpre, hxl, Nat.add_mul]) (by omega) (fun k' hk hφ => by
              have hka : k' ≠ a.block := fun ee => by rw [ee, hf] at hφ; cases hφ
              rw [zT _ _ hka] at hk
              refine ⟨_, k k' hk hka, fun j C hj => ?_⟩
              by_cases hjk : j = k'
              · subst hjk; rw [zP] at hj; cases hj
                exact .inr ⟨_, _, rfl, by rw [zP], rfl⟩
              · rw [zT _ _ hjk] at hj; exact .inl (by rw [zT _ _ hjk]; exact hj))
          obtain ⟨h'', r6, r7⟩ := r5
          refine ⟨_, _, φ', v, h'', hr, r1, ?_, r3, r4, r6⟩
          refine r2.less fun j C hj => ?_
          rcases r7 j C hj with hj | ⟨k0, cs, rfl, hk, rfl⟩
          · exact ⟨C, hj, rfl, rfl, id, id⟩
          · exact ⟨_, hk, rfl, rfl, fun _ => rfl, fun _ => rfl⟩
  · exact g.elim
end Go.Gh
