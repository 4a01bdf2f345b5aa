/- A framework of this claim's proof, part 7. Make, copy, nought. No statement of the claim stands here. -/
import Derived.Test.YtlobmpkfdnifpaaGh6
namespace Go.Gh
open Go Go.RowKit
set_option linter.unusedVariables false
set_option linter.unusedSimpArgs false

/-! ## make, copy, conversions -/

/-- A value without a place. -/
def cloCell : Value → Bool
  | .bool _ | .int _ _ | .string _ | .pointer none | .nilFunc | .nilIface => true
  | .slice none 0 0 => true
  | .func _ f c => f.toList.isEmpty && c.toList.isEmpty
  | _ => false
def clo : Value → Bool
  | .agg cs => cs.toList.all cloCell
  | v => cloCell v
theorem cloCell_refl {φ : Fm} {v : Value} (h : cloCell v = true) : VR φ v v := by
  unfold cloCell at h
  split at h
  · exact .bool _
  · exact .int _ _
  · exact .string _
  · exact .pnil
  · exact .nilFunc
  · exact .nilIface
  · exact .snil 0
  · rename_i fn f c
    simp only [Bool.and_eq_true, List.isEmpty_iff] at h
    exact .func (by rw [h.1]; exact .nil) (by rw [h.2]; exact .nil)
  · cases h
theorem cloCells_refl {φ : Fm} : ∀ {l : List Value}, l.all cloCell = true → VRs φ l l
  | [], _ => .nil
  | v :: l, h => by
    simp only [List.all_cons, Bool.and_eq_true] at h
    exact .cons (cloCell_refl h.1) (cloCells_refl h.2)
theorem clo_refl {φ : Fm} {v : Value} (h : clo v = true) : VR φ v v := by
  unfold clo at h
  split at h
  · exact .agg (cloCells_refl h)
  · exact cloCell_refl h
theorem cloCell_isCell {v : Value} (h : cloCell v = true) : isCell v = true := by
  unfold cloCell at h
  split at h <;> first | rfl | cases h
theorem cloCells_isCell {l : List Value} (h : l.all cloCell = true) : l.all isCell = true := by
  rw [List.all_eq_true] at h ⊢
  exact fun v hv => cloCell_isCell (h v hv)
theorem clo_cells {v : Value} (h : clo v = true) : v.cells.toList.all cloCell = true := by
  unfold clo at h
  split at h
  · simpa [Value.cells] using h
  · rename_i v hv
    cases v <;> simp_all [Value.cells]

/-- n cells, out of one element's nought. -/
def zeros (z : Value) (n : Nat) : List Value := (madeCells z.cells n).toList
theorem zeros_length (z : Value) (n : Nat) : (zeros z n).length = n := by simp [zeros, size_madeCells]
theorem zeros_clo {z : Value} (h : clo z = true) (hz : 0 < z.cells.size) (n : Nat) : (zeros z n).all cloCell = true := by
  rw [List.all_eq_true]
  intro v hv
  simp only [zeros, madeCells, Array.toList_map, List.mem_map] at hv
  obtain ⟨i, _, rfl⟩ := hv
  have hlt : i % z.cells.size < z.cells.size := Nat.mod_lt _ hz
  rw [getElem!_pos z.cells _ hlt]
  have := clo_cells h
  rw [List.all_eq_true] at this
  exact this _ (by simp)
theorem zeros_one (v : Value) (h : cloCell v = true) (n : Nat) : zeros v n = List.replicate n v := by
  have hc : v.cells = #[v] := by
    unfold cloCell at h
    split at h <;> first | rfl | cases h
  apply List.ext_getElem
  · simp [zeros_length]
  · intro i h1 h2
    simp [zeros, madeCells, hc, Nat.mod_one]

def gMake (P : Program) (t : TypeId) (h : GH) (l c : Int) (K : Value → GH → Prop) : Prop :=
  ∃ e es by_ z, gel P t = some (e, es, by_, z) ∧ clo z = true ∧ 0 ≤ l ∧ l ≤ c ∧ (by_ : Int) * c ≤ 281474976710656 ∧ c ≤ 9223372036854775807 ∧
    ∀ k, h k = none → K (.slice (some ⟨k, 0, none⟩) l.toNat (2 * c.toNat + 1)) (hset h k ⟨zeros z (c.toNat * es), es, true, false⟩)

theorem gMake_sound {P : Program} {N : Nat} {φ : Fm} {h : GH} {w : World} (s : Sim N φ h w) {t : TypeId} {kl kc : IntKind} {l c : Int} {K : Value → GH → Prop} (g : gMake P t h l c K) :
    Yes P N φ w (Instr.makeSlice t (.int kl l) (.int kc c)) K := by
  obtain ⟨e, es, by_, z, hel, hz, h0, hlc, hb, h63, k⟩ := g
  obtain ⟨ht, i, hi, hsize, hbytes, hzero, hzs, hpos⟩ := gel_sound hel
  have hr := run_make (P := P) w t e i z ht hi hzero kl kc l c h0 hlc (by rw [hbytes]; exact hb) h63
  obtain ⟨φ', k0, h1, h2, h3, h4, h5⟩ := gNew_sound (P := P) s (cloCells_refl (zeros_clo hz (by rw [hzs]; exact hpos) (c.toNat * es))) e es
    (K := fun k h' => K (.slice (some ⟨k, 0, none⟩) l.toNat (2 * c.toNat + 1)) h') k
  refine ⟨_, _, φ', _, _, hr, h1, ?_, .slice (.inl ⟨rfl, rfl, _, h2, rfl, rfl⟩) ⟨fun ho => by omega, fun he => by omega⟩ (by omega), ?_, h5⟩
  · rw [hsize]; simpa [zeros] using h3
  · rw [hsize]; simpa [zeros] using h4

def gLenOf : Value → Option Nat
  | .slice none 0 _ => some 0
  | .slice (some _) n _ => some n
  | .string s => some s.size
  | _ => none

def gFirst (h : GH) (es n : Nat) (x : Value) : Option (List Value) :=
  match x with
  | .slice none 0 _ => if n = 0 then some [] else none
  | .slice (some a) _ _ => gread h a (n * es)
  | .string s => if es = 1 then some ((s.data.toList.take n).map fun b => .int .u8 b.toNat) else none
  | _ => none

/-- copy: how many elements, and the memory behind. -/
def gCopy (P : Program) (t : TypeId) (h : GH) (d x : Value) : Option (Nat × GH) :=
  match gel P t, gLenOf x with
  | some (_, es, _, _), some m => match d with
    | .slice (some a) dn _ => match gFirst h es (min m dn) x with
      | some cs => if cs.all isCell = true then (gwrite h a cs).map fun h2 => (min m dn, h2) else none
      | none => none
    | .slice none 0 _ => some (0, h)
    | _ => none
  | _, _ => none

theorem gLenOf_sound {P : Program} {φ : Fm} {x x' : Value} (hx : VR φ x x') {m : Nat} (e : gLenOf x = some m) (w : World) : (Builtin.lenOf x').run P w = .ok m w := by
  unfold gLenOf at e
  split at e
  · cases e; cases hx; simp [Builtin.lenOf]
  · cases e; cases hx; simp [Builtin.lenOf]
  · cases e; cases hx; simp [Builtin.lenOf]
  · cases e

theorem gCopy_sound {P : Program} {N : Nat} {φ : Fm} {h h2 : GH} {w : World} (s : Sim N φ h w) {t u ty : TypeId} {d d' x x' : Value} (hd : VR φ d d') (hx : VR φ x x') {n : Nat} (e : gCopy P t h d x = some (n, h2)) :
    ∃ w', (Builtin.copy_ #[t, u] ty #[d', x']).run P w = .ok (goInt n) w' ∧ Sim N φ h2 w' ∧ Below N w w' := by
  unfold gCopy at e
  split at e
  case h_2 => cases e
  rename_i el es by_ z m hel hm
  obtain ⟨ht, i, hi, hsize, hbytes, hzero, hzs, hpos⟩ := gel_sound hel
  have hl := gLenOf_sound (P := P) hx hm
  split at e
  · rename_i a dn dc
    cases hd with
    | slice ha hc hn =>
    rename_i a' c'
    split at e
    case h_2 => cases e
    rename_i cs hcs
    split at e
    case isFalse => cases e
    rename_i hcell
    simp only [Option.map_eq_some_iff, Prod.mk.injEq] at e
    obtain ⟨h2', e1, rfl, rfl⟩ := e
    obtain ⟨cs', p1, p2⟩ : ∃ cs', VRs φ cs cs' ∧ (Builtin.firstCells es (min m dn) x').run P w = .ok cs'.toArray w := by
      unfold gFirst at hcs
      split at hcs
      · split at hcs
        case isFalse => cases hcs
        cases hcs
        cases hx
        exact ⟨[], .nil, by simp [Builtin.firstCells]⟩
      · rename_i b n2 c2
        cases hx with
        | slice hb hcb hnb =>
        rename_i b' c2'
        simp only [gLenOf, Option.some.injEq] at hm
        subst hm
        rcases hb with hb | h0
        · obtain ⟨cs', q1, q2, q3⟩ := gread_sound s hb hcs
          exact ⟨cs', q1, run_firstCells_some (P := P) w es (min n2 dn) b' n2 c2' cs' q2 q3⟩
        · have h00 : min n2 dn = 0 := by omega
          rw [h00] at hcs ⊢
          have : cs = [] := List.eq_nil_of_length_eq_zero (by simpa using gread_length hcs)
          subst this
          exact ⟨[], .nil, run_firstCells_some (P := P) w es 0 b' n2 c2' [] (by simp) (by simp)⟩
      · rename_i b
        split at hcs
        case isFalse => cases hcs
        rename_i h1
        subst h1
        cases hcs
        cases hx
        refine ⟨_, VRs.map _ _ (fun b => .int _ _) _, ?_⟩
        simp only [Builtin.firstCells, Sem.run_pure, Result.ok.injEq, and_true]
        apply Array.ext'
        rw [ByteArray.data_extract]
        simp [List.map_take]
      · cases hcs
    have hlen : cs.length = 0 → cs' = [] := fun h0 => List.eq_nil_of_length_eq_zero (by rw [← p1.length]; exact h0)
    rcases ha with ha | h0
    · obtain ⟨w', r1, r2, r3⟩ := gwrite_sound (P := P) s ha p1 hcell e1
      refine ⟨w', ?_, r2, r3⟩
      simp [Builtin.copy_, run_underlying ht, hl, sizeOf, typeInfo, hi, hsize, p2, r1]
    · have hdn : dn = 0 := by omega
      subst hdn
      have hcs0 : cs = [] := by
        have : cs'.length = 0 := by
          have hl0 : cs.length = cs'.length := p1.length
          rw [← hl0]
          unfold gFirst at hcs
          split at hcs
          · split at hcs
            · cases hcs; rfl
            · cases hcs
          · have := gread_length hcs; simpa using this
          · split at hcs
            · cases hcs; simp
            · cases hcs
          · cases hcs
        exact List.eq_nil_of_length_eq_zero (by rw [p1.length]; exact this)
      subst hcs0
      have := hlen rfl
      subst this
      simp only [gwrite, List.length_nil, if_true, Option.some.injEq] at e1
      subst e1
      refine ⟨w, ?_, s, Below.refl _ _⟩
      simp at p2
      simp [Builtin.copy_, run_underlying ht, hl, sizeOf, typeInfo, hi, hsize, p2, storeCells]
  · rename_i dc
    cases e
    cases hd
    refine ⟨w, ?_, s, Below.refl _ _⟩
    obtain ⟨c, hc⟩ : ∃ c, (Builtin.firstCells es 0 x').run P w = .ok c w := by
      cases hx <;> simp_all [gLenOf, Builtin.firstCells]
      · rename_i a1 a' _ _ _ _ _ _ _ 
        exact ⟨_, by simpa using run_loadCells_list (P := P) w _ [] (by simp)⟩
    simp [Builtin.copy_, run_underlying ht, hl, sizeOf, typeInfo, hi, hsize, hc, goInt]
  · cases e

/-- bytes as a string. -/
def gStr (h : GH) (x : Value) : Option ByteArray :=
  match x with
  | .slice none 0 _ => some .empty
  | .slice (some a) n _ => match gread h a n with
    | some cs => (cs.mapM (fun (v : Value) => (match v with | .int .u8 b => some (UInt8.ofNat b.toNat) | _ => none : Option UInt8))).map fun (l : List UInt8) => ByteArray.mk l.toArray
    | none => none
  | _ => none

theorem push_all : ∀ (ns : List Int) (s : ByteArray), ns.foldl (fun r n => r.push (UInt8.ofNat n.toNat)) s = ⟨s.data ++ (ns.map fun n => UInt8.ofNat n.toNat).toArray⟩
  | [], s => by simp
  | n :: ns, s => by
    rw [List.foldl_cons, push_all ns]
    congr 1
    apply Array.ext'
    simp [ByteArray.push]

theorem gStr_sound {P : Program} {N : Nat} {φ : Fm} {h : GH} {w : World} (s : Sim N φ h w) {x x' : Value} (hx : VR φ x x') {b : ByteArray} (e : gStr h x = some b) :
    (Conv.bytesToString x').run P w = .ok (.string b) w := by
  unfold gStr at e
  split at e
  · cases e; cases hx; simp [Conv.bytesToString]
  · rename_i a n c
    cases hx with
    | slice ha hc hn =>
    rename_i a' c'
    split at e
    case h_2 => cases e
    rename_i cs hcs
    simp only [Option.map_eq_some_iff] at e
    obtain ⟨l, e1, rfl⟩ := e
    obtain ⟨ns, hns, hl⟩ : ∃ ns : List Int, cs = ns.map (Value.int .u8) ∧ l = ns.map fun n => UInt8.ofNat n.toNat := by
      clear hcs
      induction cs generalizing l with
      | nil => simp at e1; exact ⟨[], rfl, e1⟩
      | cons v cs ih =>
        simp only [List.mapM_cons, Option.bind_eq_bind, Option.pure_def, Option.bind_eq_some_iff, Option.some.injEq] at e1
        obtain ⟨u, e2, l', e3, rfl⟩ := e1
        obtain ⟨ns, rfl, rfl⟩ := ih l' e3
        split at e2
        · rename_i bb
          cases e2
          exact ⟨bb :: ns, rfl, rfl⟩
        · cases e2
    subst hns; subst hl
    have hrun : ∃ cs', (loadCells a' n).run P w = .ok cs' w ∧ VRs φ (ns.map (Value.int .u8)) cs'.toList := by
      rcases ha with ha | h0
      · obtain ⟨cs', q1, q2, q3⟩ := gread_sound s ha hcs
        have := run_loadCells_list (P := P) w a' cs' q3
        rw [q2] at this
        exact ⟨_, this, by simpa using q1⟩
      · have h0' : n = 0 := by omega
        subst h0'
        have : ns = [] := by have := gread_length hcs; simpa using this
        subst this
        exact ⟨#[], by simpa using run_loadCells_list (P := P) w a' [] (by simp), .nil⟩
    obtain ⟨cs', r1, r2⟩ := hrun
    have : cs' = (ns.map (Value.int .u8)).toArray := by
      apply Array.ext'
      have : ∀ (l : List Int) (m : List Value), VRs φ (l.map (Value.int .u8)) m → m = l.map (Value.int .u8) := by
        intro l
        induction l with
        | nil => intro m hm; cases hm; rfl
        | cons x l ih =>
          intro m hm
          cases hm with
          | cons h hs =>
          cases h
          rw [ih _ hs]; rfl
      exact this ns _ r2
    subst this
    rw [run_bytesToString w a' n c' ns r1, push_all]
    congr 3
    have h0 : ByteArray.empty.data = #[] := rfl
    rw [h0, Array.empty_append]
  · cases e

end Go.Gh
