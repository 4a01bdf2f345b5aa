/- A framework of this claim's proof, part 9. Composite values. No statement of the claim stands here. -/
import Derived.Test.YtlobmpkfdnifpaaGh8
namespace Go.Gh
open Go Go.RowKit
set_option linter.unusedVariables false
set_option linter.unusedSimpArgs false

/-! ## Composite values -/

def vcells : Value → List Value
  | .agg cs => cs.toList
  | v => [v]
theorem vcells_eq (v : Value) : v.cells.toList = vcells v := by cases v <;> rfl

def lput (cs : List Value) (off : Nat) : List Value → List Value
  | [] => cs
  | v :: r => lput (cs.set off v) (off + 1) r
def lfill (pl : Nat → Option (Nat × Nat)) (cs : List Value) : List (Nat × Value) → Option (List Value)
  | [] => some cs
  | (i, v) :: r => match pl i with
    | none => none
    | some (off, size) => if (vcells v).length = size ∧ off + (vcells v).length ≤ cs.length ∧ (vcells v).all isCell = true then lfill pl (lput cs off (vcells v)) r else none

theorem lput_length : ∀ (l : List Value) (cs : List Value) (off : Nat), (lput cs off l).length = cs.length
  | [], _, _ => rfl
  | v :: r, cs, off => by rw [lput, lput_length r]; simp
theorem lput_fold : ∀ (l : List Value) (off n : Nat) (c : Array Value), ((l.zipIdx n).foldl (fun cs (x : Value × Nat) => cs.setIfInBounds (off + x.2) x.1) c).toList = lput c.toList (off + n) l
  | [], off, n, c => rfl
  | v :: r, off, n, c => by
    simp only [List.zipIdx_cons, List.foldl_cons, lput]
    rw [lput_fold r off (n + 1)]
    simp [Nat.add_assoc]
theorem lput_vr {φ : Fm} : ∀ {l l' : List Value} {cs cs' : List Value} (off : Nat), VRs φ l l' → VRs φ cs cs' → VRs φ (lput cs off l) (lput cs' off l')
  | _, _, _, _, _, .nil, hc => hc
  | _, _, _, _, off, .cons h hs, hc => lput_vr (off + 1) hs (hc.set off h)

inductive VRq (φ : Fm) : List (Nat × Value) → List (Nat × Value) → Prop
  | nil : VRq φ [] []
  | cons {i : Nat} {v v' : Value} {l l' : List (Nat × Value)} (h : VR φ v v') (hs : VRq φ l l') : VRq φ ((i, v) :: l) ((i, v') :: l')

theorem lfill_sound {φ : Fm} (pl : Nat → Option (Nat × Nat)) : ∀ {ps ps' : List (Nat × Value)} {cs : List Value} {c' : Array Value} {r : List Value}, VRq φ ps ps' → VRs φ cs c'.toList → lfill pl cs ps = some r →
    ∃ r', Instr.fill pl c' ps' = some r' ∧ VRs φ r r'.toList
  | _, _, cs, c', r, .nil, hc, e => by
    simp only [lfill, Option.some.injEq] at e
    exact ⟨c', rfl, e ▸ hc⟩
  | _, _, cs, c', r, .cons (i := i) (v := v) (v' := v') h hs, hc, e => by
    simp only [lfill] at e
    unfold Instr.fill
    cases hp : pl i with
    | none => simp [hp] at e
    | some x =>
      obtain ⟨off, size⟩ := x
      simp only [hp] at e ⊢
      split at e
      case isFalse => cases e
      rename_i hcond
      obtain ⟨h1, h2, h3⟩ := hcond
      have hcs := h.cells (by rw [vcells_eq]; exact h3)
      have hl : v'.cells.size = size := by
        have := hcs.length; rw [vcells_eq, h1] at this; simpa using this.symm
      have hl2 : c'.size = cs.length := by have := hc.length; simpa using this.symm
      have hneg : ¬ (v'.cells.size ≠ size ∨ off + v'.cells.size > c'.size) := by rw [hl, hl2]; omega
      rw [if_neg (by simpa using hneg)]
      rw [foldl_arr]
      have hfold := lput_fold v'.cells.toList off 0 c'
      rw [vcells_eq] at hcs
      refine lfill_sound pl hs ?_ e
      rw [hfold, Nat.add_zero]
      exact lput_vr off hcs hc

/-- The places of a struct's fields, or of an array's elements. -/
def gpls (P : Program) : List Field → Option (List (Nat × Nat))
  | [] => some []
  | f :: r => match gsz P f.type, gpls P r with
    | some (_, n), some l => some ((f.offset, n) :: l)
    | _, _ => none
theorem gpls_sound {P : Program} (w : World) : ∀ (fs : List Field) (l : List (Nat × Nat)), gpls P fs = some l → (fs.mapM (fun f => do pure (f.offset, ← sizeOf f.type) : Field → Sem (Nat × Nat))).run P w = .ok l w
  | [], l, h => by
    simp only [gpls, Option.some.injEq] at h
    subst h; simp
  | f :: r, l, h => by
    simp only [gpls] at h
    split at h
    case h_2 => cases h
    rename_i x1 x2 b n l' h1 h2
    cases h
    have ih := gpls_sound w r l' h2
    simp only [List.mapM_cons, Sem.run_bind, (gsz_sound h1 w).2, Result.andThen_ok, Sem.run_pure, ih]

inductive Shape | fields (l : List (Nat × Nat)) | elems (es : Nat)

def Shape.pl : Shape → Nat → Option (Nat × Nat)
  | .fields l => fun i => l[i]?
  | .elems es => fun i => some (i * es, es)

/-- Of a struct's or an array's type: its places and nought. -/
def gshape (P : Program) (t : TypeId) : Option (Shape × List Value) :=
  match P.info? t with
  | some i => match i.zero with
    | some z => if clo z = true then
        match P.underlying t with
        | some (.struct fs) => match gpls P fs.toList with
          | some l => some (.fields l, z.cells.toList)
          | none => none
        | some (.array _ e) => match gsz P e with
          | some (_, es) => some (.elems es, z.cells.toList)
          | none => none
        | _ => none
      else none
    | none => none
  | none => none

def gBuild (P : Program) (t : TypeId) (ps : List (Nat × Value)) : Option Value :=
  match gshape P t with
  | some (sh, z) => match lfill sh.pl z ps with
    | some l => some (.agg l.toArray)
    | none => none
  | none => none

theorem gBuild_sound {P : Program} {φ : Fm} {t : TypeId} {ps : List (Nat × Value)} {ps' : Array (Nat × Value)} (hp : VRq φ ps ps'.toList) {v : Value} (e : gBuild P t ps = some v) (w : World) :
    ∃ v', (Instr.build t ps').run P w = .ok v' w ∧ VR φ v v' := by
  unfold gBuild at e
  split at e
  case h_2 => cases e
  rename_i sh zc hsh
  split at e
  case h_2 => cases e
  rename_i l hl
  cases e
  unfold gshape at hsh
  split at hsh
  case h_2 => cases hsh
  rename_i i hi
  split at hsh
  case h_2 => cases hsh
  rename_i z hz
  split at hsh
  case isFalse => cases hsh
  rename_i hclo
  split at hsh
  · rename_i fs hu
    split at hsh
    case h_2 => cases hsh
    rename_i pls hpls
    cases hsh
    obtain ⟨r', r1, r2⟩ := lfill_sound (φ := φ) _ hp (cs := z.cells.toList) (c' := z.cells) (cloCells_refl (clo_cells hclo)) hl
    have hm := gpls_sound (P := P) w _ _ hpls
    have hm' : (fs.mapM (fun f => do pure (f.offset, ← sizeOf f.type) : Field → Sem (Nat × Nat))).run P w = .ok pls.toArray w := by
      rw [Array.mapM_eq_mapM_toList, Sem.run_map, hm]
      rfl
    refine ⟨.agg r', ?_, .agg (by simpa using r2)⟩
    have r1' : Instr.fill (fun x => pls.toArray[x]?) z.cells ps'.toList = some r' := by
      have : (fun x => pls.toArray[x]?) = Shape.pl (.fields pls) := by funext x; simp [Shape.pl]
      rw [this]; exact r1
    simp only [Instr.build, Sem.run_bind, zeroValue, typeInfo, run_program, Result.andThen_ok, hi, hz, Sem.run_pure, run_underlying hu, hm', r1']
  · rename_i n el hu
    split at hsh
    case h_2 => cases hsh
    rename_i b es hes
    cases hsh
    obtain ⟨r', r1, r2⟩ := lfill_sound (φ := φ) _ hp (cs := z.cells.toList) (c' := z.cells) (cloCells_refl (clo_cells hclo)) hl
    refine ⟨.agg r', ?_, .agg (by simpa using r2)⟩
    have r1' : Instr.fill (fun i => some (i * es, es)) z.cells ps'.toList = some r' := r1
    simp only [Instr.build, Sem.run_bind, zeroValue, typeInfo, run_program, Result.andThen_ok, hi, hz, Sem.run_pure, run_underlying hu, (gsz_sound hes w).2, r1']
  · cases hsh

def gBuildSlice (P : Program) (t : TypeId) (h : GH) (len : Nat) (ps : List (Nat × Value)) (K : Value → GH → Prop) : Prop :=
  ∃ e es by_ z cs, gel P t = some (e, es, by_, z) ∧ clo z = true ∧ len * es ≤ 16777216 ∧ lfill (Shape.elems es).pl (zeros z (len * es)) ps = some cs ∧ cs.all isCell = true ∧
    (len = 0 → K (.slice (some ⟨0, 0, none⟩) 0 1) h) ∧ (len ≠ 0 → ∀ k, h k = none → K (.slice (some ⟨k, 0, none⟩) len (2 * len + 1)) (hset h k ⟨cs, es, true, false⟩))

theorem gBuildSlice_sound {P : Program} {N : Nat} {φ : Fm} {h : GH} {w : World} (s : Sim N φ h w) {t : TypeId} {len : Nat} {ps : List (Nat × Value)} {ps' : Array (Nat × Value)} (hp : VRq φ ps ps'.toList) {K : Value → GH → Prop} (g : gBuildSlice P t h len ps K) :
    Yes P N φ w (Instr.buildSlice t len ps') K := by
  obtain ⟨e, es, by_, z, cs, hel, hclo, hlen, hfill, hcell, g⟩ := g
  obtain ⟨ht, i, hi, hsize, hbytes, hzero, hzs, hpos⟩ := gel_sound hel
  obtain ⟨r', r1, r2⟩ := lfill_sound (φ := φ) _ hp (cs := zeros z (len * es)) (c' := madeCells z.cells (len * es)) (cloCells_refl (zeros_clo hclo (by rw [hzs]; exact hpos) _)) hfill
  have hrun : (Instr.buildSlice t len ps').run P w = .ok (.slice (some ⟨w.heap.size, 0, none⟩) len len) (w.alloc (.cells r' e)) := by
    have hnot : ¬ (len * es > 2 ^ 24) := by omega
    have r1' : Instr.fill (fun i => some (i * es, es)) (madeCells z.cells (len * es)) ps'.toList = some r' := r1
    have hnot' : ¬ (16777216 < len * es) := by omega
    by_cases h0 : len * es = 0
    · have hf : Instr.fill (fun i => some (i * es, es)) #[] ps'.toList = some r' := by
        have : madeCells z.cells (len * es) = #[] := by rw [h0]; simp [madeCells, Array.range_zero']
        rw [this] at r1'; exact r1'
      simp [Instr.buildSlice, run_underlying ht, sizeOf, typeInfo, hi, hsize, h0, Array.range_zero', newRow, hf]
    · have hf : Instr.fill (fun i => some (i * es, es)) (Array.map (fun x => z.cells[x % z.cells.size]!) (Array.range (len * es))) ps'.toList = some r' := r1'
      simp [Instr.buildSlice, run_underlying ht, sizeOf, typeInfo, zeroValue, hzero, hi, hsize, h0, hnot', newRow, hf]
  by_cases h00 : len = 0
  · have k := g.1 h00
    subst h00
    refine ⟨_, _, φ, _, h, hrun, Ext.refl _, s.grow (by simp) (fun j hj => Below.heap_alloc _ _ _ hj), ?_, below_alloc' s.big _, k⟩
    exact .slice (.inr rfl) ⟨fun _ => rfl, fun he => by omega⟩ (Nat.le_refl _)
  · have k := g.2 h00
    obtain ⟨φ', k0, h1, h2, h3, h4, h5⟩ := gNew_sound (P := P) s r2 e es (K := fun k h' => K (.slice (some ⟨k, 0, none⟩) len (2 * len + 1)) h') k
    refine ⟨_, _, φ', _, _, hrun, h1, by simpa using h3, .slice (.inl ⟨rfl, rfl, _, h2, rfl, rfl⟩) ⟨fun ho => by omega, fun he => by omega⟩ (Nat.le_refl _), by simpa using h4, h5⟩

/-- Out of a composite value. -/
def gPart (P : Program) (t : TypeId) (cs : Array Value) (off : Nat) : Option Value :=
  match gsz P t with
  | some (true, n) => some (.agg (cs.extract off (off + n)))
  | some (false, _) => cs[off]?
  | none => none
theorem gPart_sound {P : Program} {φ : Fm} {t : TypeId} {cs cs' : Array Value} (hc : VRs φ cs.toList cs'.toList) {off : Nat} {v : Value} (e : gPart P t cs off = some v) (w : World) :
    ∃ v', (part t cs' off).run P w = .ok v' w ∧ VR φ v v' := by
  unfold gPart at e
  split at e
  · rename_i n hz
    cases e
    refine ⟨.agg (cs'.extract off (off + n)), by simp [part, (gsz_sound hz w).1, (gsz_sound hz w).2], .agg ?_⟩
    simp only [Array.toList_extract, List.extract_eq_take_drop]
    exact (hc.drop _).take _
  · rename_i n hz
    obtain ⟨v', p1, p2⟩ := hc.get off v (by simpa using e)
    exact ⟨v', run_part_cell hz _ _ (by simpa using p1) w, p2⟩
  · cases e

def gFieldV (P : Program) (t : TypeId) (x : Value) (f : Nat) : Option Value :=
  match P.underlying t, x with
  | some (.struct fs), .agg cs => match fs[f]? with
    | some fl => gPart P fl.type cs fl.offset
    | none => none
  | _, _ => none
theorem gFieldV_sound {P : Program} {φ : Fm} {t : TypeId} {x x' v : Value} (hx : VR φ x x') {f : Nat} (e : gFieldV P t x f = some v) (w : World) : ∃ v', (Instr.field t x' f).run P w = .ok v' w ∧ VR φ v v' := by
  unfold gFieldV at e
  split at e
  case h_2 => cases e
  rename_i fs cs hu
  split at e
  case h_2 => cases e
  rename_i fl hfl
  cases hx with
  | agg hx =>
  obtain ⟨v', p1, p2⟩ := gPart_sound hx e w
  exact ⟨v', by simp [Instr.field, run_underlying hu, hfl, asAgg, p1], p2⟩

def gIndexV (P : Program) (t : TypeId) (x : Value) (i : Int) : Option Value :=
  match P.underlying t, x with
  | some (.array n e), .agg cs => match gsz P e with
    | some (_, es) => if 0 ≤ i ∧ i < n then gPart P e cs (i.toNat * es) else none
    | none => none
  | some .string, .string s => if 0 ≤ i then (s.data.toList[i.toNat]?).map fun b => .int .u8 b.toNat else none
  | _, _ => none
theorem gIndexV_sound {P : Program} {φ : Fm} {t : TypeId} {x x' v : Value} (hx : VR φ x x') {k : IntKind} {i : Int} (e : gIndexV P t x i = some v) (w : World) : ∃ v', (Instr.index t x' (.int k i)).run P w = .ok v' w ∧ VR φ v v' := by
  unfold gIndexV at e
  split at e
  · rename_i n el cs hu
    split at e
    case h_2 => cases e
    rename_i b es hz
    split at e
    case isFalse => cases e
    rename_i hi
    cases hx with
    | agg hx =>
    obtain ⟨v', p1, p2⟩ := gPart_sound hx e w
    exact ⟨v', by simp [Instr.index, asIntOf, run_underlying hu, hi, (gsz_sound hz w).2, p1], p2⟩
  · rename_i s hu
    split at e
    case isFalse => cases e
    rename_i hi
    simp only [Option.map_eq_some_iff] at e
    obtain ⟨b, hb, rfl⟩ := e
    cases hx
    have hb' : s[i.toNat]? = some b := by
      rw [Array.getElem?_toList] at hb
      obtain ⟨h1, h2⟩ := Array.getElem?_eq_some_iff.1 hb
      exact getElem?_eq_some_iff.2 ⟨h1, h2⟩
    exact ⟨_, by simp [Instr.index, asIntOf, run_underlying hu, hi, hb'], .int _ _⟩
  · cases e

/-! ## Builtins -/

def gLen (P : Program) (t : TypeId) (x : Value) : Option Int :=
  match P.underlying t, x with
  | some .string, .string s => some s.size
  | some (.slice _), .slice _ n _ => some n
  | some (.array n _), _ => some n
  | _, _ => none
theorem gLen_sound {P : Program} {φ : Fm} {t ty : TypeId} {x x' : Value} (hx : VR φ x x') {n : Int} (e : gLen P t x = some n) (w : World) : (Builtin.len_ #[t] ty #[x']).run P w = .ok (.int .i64 n) w := by
  unfold gLen at e
  split at e
  · rename_i hu; cases e; cases hx; simp [Builtin.len_, run_underlying hu, goInt]
  · rename_i hu; cases e
    cases hx <;> simp [Builtin.len_, run_underlying hu, goInt]
  · rename_i hu; cases e; simp [Builtin.len_, run_underlying hu, goInt]
  · cases e

def gCap (P : Program) (t : TypeId) (x : Value) : Option Int :=
  match P.underlying t, x with
  | some (.slice _), .slice none _ _ => some 0
  | some (.slice _), .slice (some _) _ c => if c % 2 = 1 then some ((c / 2 : Nat) : Int) else none
  | _, _ => none
theorem gCap_sound {P : Program} {φ : Fm} {t ty : TypeId} {x x' : Value} (hx : VR φ x x') {n : Int} (e : gCap P t x = some n) (w : World) : (Builtin.cap_ #[t] ty #[x']).run P w = .ok (.int .i64 n) w := by
  unfold gCap at e
  split at e
  · rename_i hu; cases e; cases hx; simp [Builtin.cap_, run_underlying hu, goInt]
  · rename_i hu
    split at e
    case isFalse => cases e
    rename_i hc
    cases e
    cases hx with
    | slice ha hcr hn =>
    have := hcr.1 hc
    subst this
    simp [Builtin.cap_, run_underlying hu, goInt]
  · cases e

def gMin (x : Value) : List Value → Option Value
  | [] => some x
  | y :: r => match x, y with
    | .int k a, .int _ b => gMin (.int k (if b < a then b else a)) r
    | _, _ => none
def gMax (x : Value) : List Value → Option Value
  | [] => some x
  | y :: r => match x, y with
    | .int k a, .int _ b => gMax (.int k (if b > a then b else a)) r
    | _, _ => none
theorem gMin_sound {P : Program} {φ : Fm} (w : World) : ∀ {l l' : List Value} {x x' v : Value}, VR φ x x' → VRs φ l l' → gMin x l = some v → (∃ k a, x = .int k a) → (l'.foldlM Builtin.min2 x').run P w = .ok v w ∧ ∃ k a, v = .int k a
  | _, _, x, x', v, hx, .nil, e, hi => by
    obtain ⟨k, a, rfl⟩ := hi
    simp only [gMin, Option.some.injEq] at e
    subst e; cases hx
    exact ⟨by simp, k, a, rfl⟩
  | _, _, x, x', v, hx, .cons hy hs, e, hi => by
    obtain ⟨k, a, rfl⟩ := hi
    cases hx
    cases hy <;> simp only [gMin] at e <;> try cases e
    obtain ⟨h1, h2⟩ := gMin_sound (P := P) w (.int _ _) hs e ⟨_, _, rfl⟩
    exact ⟨by simp [Builtin.min2, h1], h2⟩
theorem gMax_sound {P : Program} {φ : Fm} (w : World) : ∀ {l l' : List Value} {x x' v : Value}, VR φ x x' → VRs φ l l' → gMax x l = some v → (∃ k a, x = .int k a) → (l'.foldlM Builtin.max2 x').run P w = .ok v w ∧ ∃ k a, v = .int k a
  | _, _, x, x', v, hx, .nil, e, hi => by
    obtain ⟨k, a, rfl⟩ := hi
    simp only [gMax, Option.some.injEq] at e
    subst e; cases hx
    exact ⟨by simp, k, a, rfl⟩
  | _, _, x, x', v, hx, .cons hy hs, e, hi => by
    obtain ⟨k, a, rfl⟩ := hi
    cases hx
    cases hy <;> simp only [gMax] at e <;> try cases e
    obtain ⟨h1, h2⟩ := gMax_sound (P := P) w (.int _ _) hs e ⟨_, _, rfl⟩
    exact ⟨by simp [Builtin.max2, h1], h2⟩

end Go.Gh
