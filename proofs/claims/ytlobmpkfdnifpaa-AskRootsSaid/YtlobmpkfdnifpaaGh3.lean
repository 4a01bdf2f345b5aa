/- A framework of this claim's proof, part 3. Ghost memory: load, store, new variables. No statement of the claim stands here. -/
import Derived.Test.YtlobmpkfdnifpaaGh2
namespace Go.Gh
open Go Go.RowKit
set_option linter.unusedVariables false
set_option linter.unusedSimpArgs false

/-- An operation comes to a value, and goes on as told. -/
def Yes (P : Program) (N : Nat) (φ : Fm) (w : World) (s : Sem Value) (K : Value → GH → Prop) : Prop :=
  ∃ v' w' φ' v h', s.run P w = .ok v' w' ∧ Ext φ φ' ∧ Sim N φ' h' w' ∧ VR φ' v v' ∧ Below N w w' ∧ K v h'

theorem Yes.same {P : Program} {N : Nat} {φ : Fm} {w : World} {s : Sem Value} {K : Value → GH → Prop} {h : GH} {v v' : Value} (hs : Sim N φ h w) (hr : s.run P w = .ok v' w) (hv : VR φ v v') (k : K v h) : Yes P N φ w s K :=
  ⟨v', w, φ, v, h, hr, Ext.refl _, hs, hv, Below.refl _ _, k⟩

/-! ## Types' rows -/

/-- Is it a struct or an array; how many cells. -/
def gsz (P : Program) (t : TypeId) : Option (Bool × Nat) :=
  match P.underlying t, P.info? t with
  | some d, some i => some ((match d with | .struct _ | .array _ _ => true | _ => false), i.size)
  | _, _ => none
theorem gsz_sound {P : Program} {t : TypeId} {b : Bool} {n : Nat} (h : gsz P t = some (b, n)) (w : World) :
    (isAgg t).run P w = .ok b w ∧ (sizeOf t).run P w = .ok n w := by
  unfold gsz at h
  cases hu : P.underlying t with
  | none => simp [hu] at h
  | some d =>
    cases hi : P.info? t with
    | none => simp [hu, hi] at h
    | some i =>
      simp only [hu, hi, Option.some.injEq, Prod.mk.injEq] at h
      obtain ⟨rfl, rfl⟩ := h
      refine ⟨?_, by simp [sizeOf, typeInfo, hi]⟩
      simp only [isAgg, Sem.run_bind, run_underlying hu, Result.andThen_ok]
      cases d <;> rfl

/-- Of a slice's type: its element's type, cells, bytes and nought. -/
def gel (P : Program) (t : TypeId) : Option (TypeId × Nat × Nat × Value) :=
  match P.underlying t with
  | some (.slice e) => match P.info? e with
    | some i => match i.zero with
      | some z => if z.cells.size = i.size ∧ 0 < i.size then some (e, i.size, i.bytes, z) else none
      | none => none
    | none => none
  | _ => none
theorem gel_sound {P : Program} {t e : TypeId} {es by_ : Nat} {z : Value} (h : gel P t = some (e, es, by_, z)) :
    P.underlying t = some (.slice e) ∧ ∃ i, P.info? e = some i ∧ i.size = es ∧ i.bytes = by_ ∧ i.zero = some z ∧ z.cells.size = es ∧ 0 < es := by
  unfold gel at h
  split at h
  case h_2 => cases h
  rename_i e' hu
  split at h
  case h_2 => cases h
  rename_i i hi
  split at h
  case h_2 => cases h
  rename_i z' hz
  split at h
  case isFalse => cases h
  rename_i hc
  simp only [Option.some.injEq, Prod.mk.injEq] at h
  obtain ⟨rfl, rfl, rfl, rfl⟩ := h
  exact ⟨hu, i, hi, rfl, rfl, hz, hc.1, hc.2⟩

/-! ## Loads and stores -/

def gLoad (P : Program) (t : TypeId) (h : GH) (x : Value) : Option Value :=
  match x with
  | .pointer (some a) => match gsz P t with
    | some (true, n) => (gread h a n).map fun cs => .agg cs.toArray
    | some (false, _) => (gread h a 1).bind fun cs => cs[0]?
    | none => none
  | _ => none

theorem gLoad_sound {P : Program} {N : Nat} {φ : Fm} {h : GH} {w : World} (s : Sim N φ h w) {t : TypeId} {x x' v : Value} (hx : VR φ x x') (e : gLoad P t h x = some v) :
    ∃ v', (Instr.loadAt t x').run P w = .ok v' w ∧ VR φ v v' := by
  unfold gLoad at e
  split at e
  case h_2 => cases e
  rename_i a
  cases hx with
  | ptr ha =>
  rename_i a'
  split at e
  · rename_i n hz
    obtain ⟨h1, h2⟩ := gsz_sound hz w
    simp only [Option.map_eq_some_iff] at e
    obtain ⟨cs, e1, rfl⟩ := e
    obtain ⟨cs', p1, p2, p3⟩ := gread_sound s ha e1
    refine ⟨.agg cs'.toArray, ?_, .agg (by simpa using p1)⟩
    have hl := run_loadCells_list (P := P) w a' cs' p3
    rw [p2] at hl
    simp [Instr.loadAt, Instr.sureAddr, loadVar, h1, h2, hl]
  · rename_i n hz
    obtain ⟨h1, h2⟩ := gsz_sound hz w
    simp only [Option.bind_eq_some_iff] at e
    obtain ⟨cs, e1, e2⟩ := e
    obtain ⟨cs', p1, p2, p3⟩ := gread_sound s ha e1
    obtain ⟨v', q1, q2⟩ := p1.get _ _ e2
    refine ⟨v', ?_, q2⟩
    have := p3 0 v' q1
    have ha0 : a'.add 0 = a' := by simp [Addr.add]
    rw [ha0] at this
    simp [Instr.loadAt, Instr.sureAddr, loadVar, h1, h2, this]
  · cases e

def gStore (P : Program) (t : TypeId) (h : GH) (x v : Value) : Option GH :=
  match x with
  | .pointer (some a) => match gsz P t with
    | some (_, n) => if v.cells.size = n ∧ v.cells.toList.all isCell = true then gwrite h a v.cells.toList else none
    | none => none
  | _ => none

theorem VR.cells {φ : Fm} {v v' : Value} (h : VR φ v v') (hcl : v.cells.toList.all isCell = true) : VRs φ v.cells.toList v'.cells.toList := by
  cases h with
  | agg h => simpa [Value.cells] using h
  | any v => simp [Value.cells, isCell] at hcl
  | tuple h => simp [Value.cells, isCell] at hcl
  | bool b => exact .cons (.bool b) .nil
  | int k n => exact .cons (.int k n) .nil
  | string s => exact .cons (.string s) .nil
  | pnil => exact .cons .pnil .nil
  | ptr h => exact .cons (.ptr h) .nil
  | snil c => exact .cons (.snil c) .nil
  | slice h hc hn => exact .cons (.slice h hc hn) .nil
  | func hf hc => exact .cons (.func hf hc) .nil
  | nilFunc => exact .cons .nilFunc .nil
  | iface h => exact .cons (.iface h) .nil
  | nilIface => exact .cons .nilIface .nil

theorem gStore_sound {P : Program} {N : Nat} {φ : Fm} {h h2 : GH} {w : World} (s : Sim N φ h w) {t : TypeId} {x x' v v' : Value} (hx : VR φ x x') (hv : VR φ v v') (e : gStore P t h x v = some h2) :
    ∃ w', (Instr.storeAt t x' v').run P w = .ok () w' ∧ Sim N φ h2 w' ∧ Below N w w' := by
  unfold gStore at e
  split at e
  case h_2 => cases e
  rename_i a
  cases hx with
  | ptr ha =>
  rename_i a'
  split at e
  case h_2 => cases e
  rename_i b n hz
  split at e
  case isFalse => cases e
  rename_i hc
  obtain ⟨h1, h2⟩ := gsz_sound hz w
  have hcs := hv.cells hc.2
  obtain ⟨w', r1, r2, r3⟩ := gwrite_sound (P := P) s ha hcs hc.2 e
  refine ⟨w', ?_, r2, r3⟩
  have hl : v'.cells.size = n := by have := hcs.length; simp at this; rw [← this]; exact hc.1
  simp [Instr.storeAt, Instr.sureAddr, storeVar, h2, hl, r1]

/-! ## New variables and literals -/

/-- A new block for these cells. -/
def gNew (h : GH) (cs : List Value) (es : Nat) (K : Nat → GH → Prop) : Prop := ∀ k, h k = none → K k (hset h k ⟨cs, es, true, false⟩)

theorem gNew_sound {P : Program} {N : Nat} {φ : Fm} {h : GH} {w : World} (s : Sim N φ h w) {cs cs' : List Value} (hv : VRs φ cs cs') (t : TypeId) (es : Nat) {K : Nat → GH → Prop} (k : gNew h cs es K) :
    ∃ φ' k, Ext φ φ' ∧ φ' k = some ⟨w.heap.size, 0, cs.length, es⟩ ∧ Sim N φ' (hset h k ⟨cs, es, true, false⟩) (w.alloc (.cells cs'.toArray t)) ∧ Below N w (w.alloc (.cells cs'.toArray t)) ∧ K k (hset h k ⟨cs, es, true, false⟩) := by
  obtain ⟨k0, h1, h2, h3⟩ := s.fresh
  have := galloc s h1 hv t es false (rest := [])
  simp only [List.append_nil, List.length_nil, Nat.add_zero] at this
  exact ⟨_, k0, fset_ext _ h1, fset_same _ _ _, this, below_alloc' s.big _, k k0 h2⟩

theorem gBox_sound {P : Program} {N : Nat} {φ : Fm} {h : GH} {w : World} (s : Sim N φ h w) {v v' : Value} (hv : VR φ v v') (hc : v.cells.toList.all isCell = true) (t : TypeId) {K : Value → GH → Prop}
    (k : gNew h v.cells.toList 0 fun k h' => K (.pointer (some ⟨k, 0, none⟩)) h') : Yes P N φ w (Instr.box t v') K := by
  obtain ⟨φ', k0, h1, h2, h3, h4, h5⟩ := gNew_sound (P := P) s (hv.cells hc) t 0 k
  refine ⟨.pointer (some ⟨w.heap.size, 0, none⟩), _, φ', _, _, ?_, h1, h3, .ptr ⟨rfl, rfl, _, h2, rfl, rfl⟩, h4, h5⟩
  simp [Instr.box, newVar, newRow]

theorem gAlloc_sound {P : Program} {N : Nat} {φ : Fm} {h : GH} {w : World} (s : Sim N φ h w) (t : TypeId) {i : TypeInfo} {z : Value} (hi : P.info? t = some i) (hz : i.zero = some z) (hv : VR φ z z) (hc : z.cells.toList.all isCell = true)
    {K : Value → GH → Prop} (k : gNew h z.cells.toList 0 fun k h' => K (.pointer (some ⟨k, 0, none⟩)) h') (o : Value) : Yes P N φ w (Instr.alloc t true o) K := by
  obtain ⟨φ', k0, h1, h2, h3, h4, h5⟩ := gNew_sound (P := P) s (hv.cells hc) t 0 k
  refine ⟨.pointer (some ⟨w.heap.size, 0, none⟩), _, φ', _, _, ?_, h1, h3, .ptr ⟨rfl, rfl, _, h2, rfl, rfl⟩, h4, h5⟩
  simp [Instr.alloc, zeroValue, typeInfo, hi, hz, newVar, newRow]

/-- Parts laid into cells. -/
theorem foldl_set {φ : Fm} : ∀ (l l' : List Value) (off n : Nat) (c c' : Array Value), VRs φ l l' → VRs φ c.toList c'.toList →
    VRs φ ((l.zipIdx n).foldl (fun cs (x : Value × Nat) => cs.setIfInBounds (off + x.2) x.1) c).toList ((l'.zipIdx n).foldl (fun cs (x : Value × Nat) => cs.setIfInBounds (off + x.2) x.1) c').toList
  | _, _, off, n, c, c', .nil, hc => hc
  | _, _, off, n, c, c', .cons h hs, hc => by
    simp only [List.zipIdx_cons, List.foldl_cons]
    exact foldl_set _ _ off (n + 1) _ _ hs (by simpa using hc.set (off + n) h)
theorem foldl_arr (a : Array Value) (off : Nat) (c : Array Value) :
    a.zipIdx.foldl (fun cs (x : Value × Nat) => cs.setIfInBounds (off + x.2) x.1) c = (a.toList.zipIdx 0).foldl (fun cs (x : Value × Nat) => cs.setIfInBounds (off + x.2) x.1) c := by
  rw [← Array.foldl_toList, Array.toList_zipIdx]

inductive VRp (φ : Fm) : List (Nat × Value) → List (Nat × Value) → Prop
  | nil : VRp φ [] []
  | cons {i : Nat} {v v' : Value} {l l' : List (Nat × Value)} (h : VR φ v v') (hc : v.cells.toList.all isCell = true) (hs : VRp φ l l') : VRp φ ((i, v) :: l) ((i, v') :: l')

theorem fill_sound {φ : Fm} (place : Nat → Option (Nat × Nat)) : ∀ (ps ps' : List (Nat × Value)) (c c' r : Array Value), VRp φ ps ps' → VRs φ c.toList c'.toList → Instr.fill place c ps = some r → ∃ r', Instr.fill place c' ps' = some r' ∧ VRs φ r.toList r'.toList
  | _, _, c, c', r, .nil, hc, e => by
    simp only [Instr.fill, Option.some.injEq] at e
    exact ⟨c', rfl, e ▸ hc⟩
  | _, _, c, c', r, .cons (i := i) (v := v) (v' := v') h hcell hs, hc, e => by
    have hcs := h.cells hcell
    have hl : v'.cells.size = v.cells.size := by have := hcs.length; simpa using this.symm
    have hl2 : c'.size = c.size := by have := hc.length; simpa using this.symm
    unfold Instr.fill at e ⊢
    cases hp : place i with
    | none => simp [hp] at e
    | some x =>
      obtain ⟨off, size⟩ := x
      simp only [hp, hl, hl2] at e ⊢
      split at e
      · cases e
      · rename_i hcond
        rw [if_neg hcond]
        rw [foldl_arr] at e ⊢
        exact fill_sound place _ _ _ _ r hs (foldl_set _ _ off 0 _ _ hcs hc) e

end Go.Gh
