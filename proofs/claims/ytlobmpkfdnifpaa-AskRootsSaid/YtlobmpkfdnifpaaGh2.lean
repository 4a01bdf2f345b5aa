/- A framework of this claim's proof, part 2. Ghost memory: reading, writing, new blocks. No statement of the claim stands here. -/
import Derived.Test.YtlobmpkfdnifpaaGh1
namespace Go.Gh
open Go Go.RowKit
set_option linter.unusedVariables false
set_option linter.unusedSimpArgs false

/-! ## Reading and writing cells -/

/-- n cells from a on. -/
def gread (h : GH) (a : Addr) (n : Nat) : Option (List Value) :=
  if n = 0 then some [] else
  match a.spot, h a.block with
  | none, some B => if a.off + n ≤ B.cells.length then some ((B.cells.drop a.off).take n) else none
  | _, _ => none

theorem add_none (b o n : Nat) : (⟨b, o, none⟩ : Addr).add n = ⟨b, o + n, none⟩ := by unfold Addr.add; split <;> simp_all

theorem addr_eta {a : Addr} (h : a.spot = none) : a = ⟨a.block, a.off, none⟩ := by cases a; simp_all

theorem gread_length {h : GH} {a : Addr} {n : Nat} {cs : List Value} (e : gread h a n = some cs) : cs.length = n := by
  unfold gread at e
  split at e
  · cases e; simp_all
  · split at e
    · split at e
      · cases e; simp; omega
      · cases e
    · cases e

theorem gread_sound {N : Nat} {φ : Fm} {h : GH} {w : World} (s : Sim N φ h w) {a a' : Addr} (ha : AR φ a a') {n : Nat} {cs : List Value} (e : gread h a n = some cs) :
    ∃ cs', VRs φ cs cs' ∧ cs'.length = n ∧ ∀ j v, cs'[j]? = some v → w.cell? (a'.add j) = some v := by
  unfold gread at e
  split at e
  · cases e
    exact ⟨[], .nil, by simp_all, by simp⟩
  · rename_i hn
    split at e
    case h_2 => cases e
    rename_i B hsp hB
    split at e
    case isFalse => cases e
    rename_i hle
    cases e
    obtain ⟨h1, h2, f, h3, h4, h5⟩ := ha
    obtain ⟨f', h3', hb⟩ := s.dom _ _ hB
    rw [h3] at h3'; cases h3'
    have hcell : ∀ j, j < n → ∃ v v', B.cells[a.off + j]? = some v ∧ w.cell? (a'.add j) = some v' ∧ VR φ v v' := fun j hj => by
      have hlt : a.off + j < B.cells.length := by omega
      obtain ⟨v', hc, hv⟩ := hb.cell (a.off + j) _ (List.getElem?_eq_getElem hlt)
      refine ⟨_, v', List.getElem?_eq_getElem hlt, ?_, hv⟩
      rw [addr_eta h2, add_none, h4, h5, Nat.add_assoc]
      exact hc
    refine ⟨(List.range n).map fun j => (w.cell? (a'.add j)).getD undef, ?_, by simp, ?_⟩
    · refine VRs.of_get (by simp; omega) fun i v hv => ?_
      rw [List.getElem?_take] at hv
      split at hv
      case isFalse => cases hv
      rename_i hi
      rw [List.getElem?_drop] at hv
      obtain ⟨u, v', hu, hc, hvr⟩ := hcell i hi
      rw [hu] at hv; cases hv
      exact ⟨v', by simp [hi, hc], hvr⟩
    · intro j v hv
      have hj : j < n := by have := (List.getElem?_eq_some_iff.1 hv).1; simpa using this
      rw [List.getElem?_map, List.getElem?_range hj] at hv
      simp only [Option.map_some, Option.some.injEq] at hv
      obtain ⟨u, v', hu, hc, hvr⟩ := hcell j hj
      rw [hc] at hv ⊢
      simp at hv; rw [hv]

/-- A value that one cell can hold. -/
def isCell : Value → Bool
  | .agg _ | .tuple _ | .chan _ => false
  | _ => true
theorem isCell_one {φ : Fm} {v v' : Value} (h : VR φ v v') (hc : isCell v = true) : v'.oneCell' = true := by
  cases h <;> simp_all [isCell, Value.oneCell']
theorem isCell_all {φ : Fm} : ∀ {l l' : List Value}, VRs φ l l' → l.all isCell = true → ∀ v ∈ l', v.oneCell' = true
  | _, _, .nil, _ => by simp
  | _, _, .cons h hs, hc => by
    simp only [List.all_cons, Bool.and_eq_true] at hc
    intro v hv
    cases hv with
    | head => exact isCell_one h hc.1
    | tail _ hm => exact isCell_all hs hc.2 v hm

def splice (l : List Value) (o : Nat) (vs : List Value) : List Value := l.take o ++ vs ++ l.drop (o + vs.length)
theorem splice_length {l : List Value} {o : Nat} {vs : List Value} (h : o + vs.length ≤ l.length) : (splice l o vs).length = l.length := by
  simp [splice]; omega
theorem splice_get {l : List Value} {o : Nat} {vs : List Value} (h : o + vs.length ≤ l.length) (i : Nat) :
    (splice l o vs)[i]? = if i < o then l[i]? else if i < o + vs.length then vs[i - o]? else l[i]? := by
  unfold splice
  by_cases h1 : i < o
  · rw [if_pos h1, List.append_assoc, List.getElem?_append_left (by simp; omega), List.getElem?_take, if_pos h1]
  · rw [if_neg h1]
    by_cases h2 : i < o + vs.length
    · rw [if_pos h2, List.append_assoc, List.getElem?_append_right (by simp; omega), List.getElem?_append_left (by simp; omega)]
      congr 1
      simp; omega
    · rw [if_neg h2, List.getElem?_append_right (by simp; omega), List.getElem?_drop]
      congr 1
      simp; omega

def gwrite (h : GH) (a : Addr) (cs : List Value) : Option GH :=
  if cs.length = 0 then some h else
  match a.spot, h a.block with
  | none, some B => if B.wr = true ∧ a.off + cs.length ≤ B.cells.length then some (hset h a.block { B with cells := splice B.cells a.off cs }) else none
  | _, _ => none

theorem block_setCells (b : Nat) : ∀ (vs : List Value) (o : Nat) (w : World) (k : Nat), k ≠ b → (w.setCells b o vs).heap[k]? = w.heap[k]?
  | [], _, _, _, _ => rfl
  | v :: r, o, w, k, h => by rw [World.setCells, block_setCells b r _ _ k h, Below.heap_setCell _ _ _ _ h]
theorem size_setCells (b : Nat) : ∀ (vs : List Value) (o : Nat) (w : World), (w.setCells b o vs).heap.size = w.heap.size
  | [], _, _ => rfl
  | v :: r, o, w => by rw [World.setCells, size_setCells b r]; simp
theorem below_setCells {N : Nat} (b : Nat) (hb : N ≤ b) : ∀ (vs : List Value) (o : Nat) (w : World), Below N w (w.setCells b o vs)
  | [], _, w => Below.refl _ _
  | v :: r, o, w => (Below.setCell (Below.refl N w) (p := ⟨b, o, none⟩) hb v).trans (below_setCells b hb r _ _)

/-- Cells of a block that is ours are written. -/
theorem gwrite_sound {P : Program} {N : Nat} {φ : Fm} {h h2 : GH} {w : World} (s : Sim N φ h w) {a a' : Addr} (ha : AR φ a a') {cs cs' : List Value} (hv : VRs φ cs cs')
    (hc : cs.all isCell = true) (e : gwrite h a cs = some h2) :
    ∃ w', (storeCells a' cs').run P w = .ok () w' ∧ Sim N φ h2 w' ∧ Below N w w' := by
  unfold gwrite at e
  split at e
  · rename_i h0
    cases e
    have : cs' = [] := List.eq_nil_of_length_eq_zero (by rw [← hv.length]; exact h0)
    subst this
    exact ⟨w, rfl, s, Below.refl _ _⟩
  rename_i h0
  split at e
  case h_2 => cases e
  rename_i B hsp hB
  split at e
  case isFalse => cases e
  rename_i hle
  obtain ⟨hwr, hle⟩ := hle
  cases e
  obtain ⟨h1, h2, f, h3, h4, h5⟩ := ha
  obtain ⟨f', h3', hb⟩ := s.dom _ _ hB
  rw [h3] at h3'; cases h3'
  have hlen := hv.length
  have hcell : ∀ j, j < cs'.length → (w.cell? ⟨f.b, f.o + a.off + j, none⟩).isSome = true := fun j hj => by
    obtain ⟨v', hc, _⟩ := hb.cell (a.off + j) _ (List.getElem?_eq_getElem (by omega))
    rw [Nat.add_assoc, hc]; rfl
  have hfz : ∀ j, j < cs'.length → w.frozen? ⟨f.b, f.o + a.off + j, none⟩ = false := fun j hj => by
    rw [Nat.add_assoc]; exact hb.wrf hwr _ (by omega)
  have hrun := run_storeCells_cells (P := P) f.b (f.o + a.off) cs' 0 w (by simpa using hcell) (by simpa using hfz) (isCell_all hv hc)
  have hb' := below_setCells (N := N) f.b (hb.nz (.inl hwr)) cs' (f.o + a.off) w
  refine ⟨w.setCells f.b (f.o + a.off) cs', by rw [addr_eta h2, h4, h5]; exact hrun, ?_, hb'⟩
  refine ⟨s.ini, Nat.le_trans s.big hb'.size, s.fin, fun k B' hk => ?_, ?_, fun k g hk => by rw [size_setCells]; exact s.rng k g hk⟩
  · by_cases hka : k = a.block
    · subst hka
      rw [hset_same] at hk; cases hk
      refine ⟨f, h3, ⟨by rw [size_setCells]; exact hb.lt, fun i v hi => ?_, hb.es, hb.nz, fun hw i hi => ?_, fun ht j h1 h2 => ?_, fun ht => ?_⟩⟩
      · rw [splice_get hle] at hi
        split at hi
        · obtain ⟨v', p1, p2⟩ := hb.cell i v hi
          exact ⟨v', by rw [World.cell?_setCells_out _ _ _ _ _ (fun _ _ => by simp; omega)]; exact p1, p2⟩
        · split at hi
          · obtain ⟨v', p1, p2⟩ := hv.get _ _ hi
            refine ⟨v', ?_, p2⟩
            have hlt := (List.getElem?_eq_some_iff.1 p1).1
            have := World.cell?_setCells_in f.b cs' (f.o + a.off) w hcell (i - a.off) hlt
            rw [show f.o + a.off + (i - a.off) = f.o + i by omega] at this
            rw [this, (List.getElem?_eq_some_iff.1 p1).2]
          · obtain ⟨v', p1, p2⟩ := hb.cell i v hi
            exact ⟨v', by rw [World.cell?_setCells_out _ _ _ _ _ (fun _ _ => by simp; omega)]; exact p1, p2⟩
      · rw [World.frozen?_setCells]
        exact hb.wrf hw i (by simpa [splice_length hle] using hi)
      · simp only [splice_length hle] at h1
        rw [World.frozen?_setCells, World.cell?_setCells_out _ _ _ _ _ (fun _ _ => by simp; omega)]
        exact hb.tlf ht j h1 h2
      · simp only [splice_length hle]; exact hb.tll ht
    · rw [hset_ne _ _ hka] at hk
      obtain ⟨g, p1, p2⟩ := s.dom k B' hk
      have hne : g.b ≠ f.b := fun ee => by
        have := (s.sep a.block k B B' f g (Ne.symm hka) hB hk h3 p1 ee.symm).1
        rw [hwr] at this; cases this
      exact ⟨g, p1, p2.mono (Ext.refl _) hb'.size (block_setCells _ _ _ _ _ hne)⟩
  · intro k k' B1 B2 f1 f2 hne p1 p2 q1 q2 hbb
    have step : ∀ (k : Nat) (B1 : GB), hset h a.block { B with cells := splice B.cells a.off cs } k = some B1 → ∃ B0, h k = some B0 ∧ B0.wr = B1.wr ∧ B0.tl = B1.tl ∧ B0.cells.length = B1.cells.length := by
      intro k B1 hk
      by_cases hka : k = a.block
      · subst hka; rw [hset_same] at hk; cases hk
        exact ⟨B, hB, rfl, rfl, (splice_length hle).symm⟩
      · rw [hset_ne _ _ hka] at hk
        exact ⟨B1, hk, rfl, rfl, rfl⟩
    obtain ⟨C1, r1, r2, r3, r4⟩ := step k B1 p1
    obtain ⟨C2, t1, t2, t3, t4⟩ := step k' B2 p2
    have := s.sep k k' C1 C2 f1 f2 hne r1 t1 q1 q2 hbb
    rw [r2, t2, r3, t3, r4, t4] at this
    exact this

/-! ## New blocks -/

theorem below_alloc' {N : Nat} {w : World} (hN : N ≤ w.heap.size) (o : Obj) : Below N w (w.alloc o) := (Below.refl N w).alloc hN o

/-- A new row of cells of which the first ones are told; the rest is spare memory of its own (tl) or there is none. -/
theorem galloc {N : Nat} {φ : Fm} {h : GH} {w : World} (s : Sim N φ h w) {k : Nat} (hk : φ k = none) {cs cs' rest : List Value} (hv : VRs φ cs cs') (t : TypeId) (es : Nat) (tl : Bool) :
    Sim N (fset φ k ⟨w.heap.size, 0, cs.length + rest.length, es⟩) (hset h k ⟨cs, es, true, tl⟩) (w.alloc (.cells (cs' ++ rest).toArray t)) := by
  have hlen := hv.length
  refine s.add hk (by simp) (fun j hj => Below.heap_alloc _ _ _ hj) (Nat.le_refl _) ⟨by simp, fun i v hi => ?_, rfl, fun _ => s.big, fun _ i hi => ?_, fun _ j h1 h2 => ?_, fun _ => by simp⟩
  · obtain ⟨v', p1, p2⟩ := hv.get i v hi
    refine ⟨v', ?_, p2.mono (fset_ext _ hk)⟩
    have hlt := (List.getElem?_eq_some_iff.1 p1).1
    simp only [Nat.zero_add, World.cell?_alloc_new, List.getElem?_toArray]
    rw [List.getElem?_append_left hlt]; exact p1
  · simp
  · simp only [Nat.zero_add] at h1 h2
    refine ⟨?_, by simp⟩
    simp only [World.cell?_alloc_new, List.getElem?_toArray]
    exact ⟨_, List.getElem?_eq_getElem (by simp; omega)⟩

end Go.Gh
