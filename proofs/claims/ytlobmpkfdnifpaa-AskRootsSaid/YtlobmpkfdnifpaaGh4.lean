/- A framework of this claim's proof, part 4. What an append reads. No statement of the claim stands here. -/
import Derived.Test.YtlobmpkfdnifpaaGh3
namespace Go.Gh
open Go Go.RowKit
set_option linter.unusedVariables false
set_option linter.unusedSimpArgs false

/-! ## append -/

/-- What is appended: how many elements, and their cells. -/
def gSrc (h : GH) (es : Nat) (x : Value) : Option (Nat × List Value) :=
  match x with
  | .slice none 0 _ => some (0, [])
  | .slice (some a) n _ => (gread h a (n * es)).map fun cs => (n, cs)
  | .string s => if es = 1 then some (s.size, s.data.toList.map fun b => .int .u8 b.toNat) else none
  | _ => none

theorem gSrc_sound {P : Program} {N : Nat} {φ : Fm} {h : GH} {w : World} (s : Sim N φ h w) {es m : Nat} {x x' : Value} (hx : VR φ x x') {xs : List Value} (e : gSrc h es x = some (m, xs)) :
    xs.length = m * es ∧ ∃ xs', VRs φ xs xs' ∧ (∀ w0, (Builtin.lenOf x').run P w0 = .ok m w0) ∧ (Builtin.firstCells es m x').run P w = .ok xs'.toArray w ∧ (Builtin.firstCells es m x').run P w.drew = .ok xs'.toArray w.drew := by
  unfold gSrc at e
  split at e
  · cases e
    cases hx with
    | snil c => exact ⟨by simp, [], .nil, fun _ => by simp [Builtin.lenOf], by simp [Builtin.firstCells], by simp [Builtin.firstCells]⟩
  · rename_i a n c
    simp only [Option.map_eq_some_iff, Prod.mk.injEq] at e
    obtain ⟨cs, e1, rfl, rfl⟩ := e
    cases hx with
    | slice ha hc hn =>
      rename_i a' c'
      refine ⟨gread_length e1, ?_⟩
      rcases ha with ha | h0
      · obtain ⟨cs', p1, p2, p3⟩ := gread_sound s ha e1
        have r1 := run_firstCells_some (P := P) w es n a' n c' cs' p2 p3
        have r2 := run_firstCells_some (P := P) w.drew es n a' n c' cs' p2 (by simpa using p3)
        exact ⟨cs', p1, fun _ => by simp [Builtin.lenOf], r1, r2⟩
      · have : n = 0 := by omega
        subst this
        have hcs : cs = [] := by have := gread_length e1; exact List.eq_nil_of_length_eq_zero (by simpa using this)
        subst hcs
        refine ⟨[], .nil, fun _ => by simp [Builtin.lenOf], ?_, ?_⟩
        · exact run_firstCells_some (P := P) w es 0 a' 0 c' [] (by simp) (by simp)
        · exact run_firstCells_some (P := P) w.drew es 0 a' 0 c' [] (by simp) (by simp)
  · rename_i b
    split at e
    case isFalse => cases e
    rename_i h1
    subst h1
    cases e
    cases hx with
    | string =>
    have hx : ((b.extract 0 b.size).data.map fun x : UInt8 => Value.int .u8 (x.toNat : Int)) = (b.data.toList.map fun x : UInt8 => Value.int .u8 (x.toNat : Int)).toArray := by
      apply Array.ext'
      rw [ByteArray.data_extract, show b.size = b.data.size from rfl, Array.extract_size]
      simp
    refine ⟨by simp only [List.length_map, Array.length_toList, Nat.mul_one]; rfl, _, VRs.map _ _ (fun b => .int _ _) _, fun _ => by simp [Builtin.lenOf], ?_, ?_⟩ <;>
    · simp only [Builtin.firstCells, Sem.run_pure]
      rw [hx]
  · cases e

theorem run_append_nothing {P : Program} (w : World) (t u ty e : TypeId) (du : TypeDesc) (i : TypeInfo) (ht : P.underlying t = some (.slice e)) (hu : P.underlying u = some du) (hni : ∀ k, du ≠ .int k) (hi : P.info? e = some i)
    (base : Option Addr) (n c : Nat) (x : Value) (hc : n ≤ c) (hl : (Builtin.lenOf x).run P w = .ok 0 w) (hf : (Builtin.firstCells i.size 0 x).run P w = .ok #[] w) :
    (Builtin.append_ #[t, u] ty #[.slice base n c, x]).run P w = .ok (.slice base n c) w := by
  have hm : (match (generalizing := false) du with | .int _ => true | _ => false) = false := by cases du <;> first | rfl | exact absurd rfl (hni _)
  cases base <;> simp [Builtin.append_, run_underlying ht, run_underlying hu, hm, sizeOf, typeInfo, hi, hl, hf, hc, storeCells]

theorem run_append_in {P : Program} (w : World) (t u ty e : TypeId) (du : TypeDesc) (i : TypeInfo) (ht : P.underlying t = some (.slice e)) (hu : P.underlying u = some du) (hni : ∀ k, du ≠ .int k) (hi : P.info? e = some i)
    (b : Addr) (n c m : Nat) (x : Value) (news : List Value) (hl : (Builtin.lenOf x).run P w = .ok m w) (hf : (Builtin.firstCells i.size m x).run P w = .ok news.toArray w) (hc : n + m ≤ c)
    (w2 : World) (hst : (storeCells (b.add (n * i.size)) news).run P w = .ok () w2) :
    (Builtin.append_ #[t, u] ty #[.slice (some b) n c, x]).run P w = .ok (.slice (some b) (n + m) c) w2 := by
  have hm : (match (generalizing := false) du with | .int _ => true | _ => false) = false := by cases du <;> first | rfl | exact absurd rfl (hni _)
  simp [Builtin.append_, run_underlying ht, run_underlying hu, hm, sizeOf, typeInfo, hi, hl, hf, hc, hst]

theorem run_append_out {P : Program} (w : World) (t u ty e : TypeId) (du : TypeDesc) (i : TypeInfo) (z : Value) (ht : P.underlying t = some (.slice e)) (hu : P.underlying u = some du) (hni : ∀ k, du ≠ .int k) (hi : P.info? e = some i) (hz : i.zero = some z)
    (base : Option Addr) (n c m : Nat) (x : Value) (olds news : List Value) (hl : (Builtin.lenOf x).run P w = .ok m w) (hf : (Builtin.firstCells i.size m x).run P w.drew = .ok news.toArray w.drew)
    (hfo : (Builtin.firstCells i.size n (.slice base n c)).run P w.drew = .ok olds.toArray w.drew) (hc : c < n + m) (h63 : n + m ≤ 9223372036854775807) (hb : (n + m) * i.bytes ≤ 140737488355328) :
    (Builtin.append_ #[t, u] ty #[.slice base n c, x]).run P w = .ok (.slice (some ⟨w.heap.size, 0, none⟩) (n + m) (grownCap w (n + m) c e))
      (w.drew.alloc (.cells ((olds ++ news) ++ (Builtin.zeroCells z.cells (grownCap w (n + m) c e - (n + m))).toList).toArray e)) := by
  have hm : (match (generalizing := false) du with | .int _ => true | _ => false) = false := by cases du <;> first | rfl | exact absurd rfl (hni _)
  have hn : ¬ (n + m ≤ c) := by omega
  have h63' : ¬ (9223372036854775807 < ((n : Int) + (m : Int))) := by omega
  have hfit := growslice_fits hc hb
  have h48' : ¬ (281474976710656 < Builtin.nextslicecap (n + m) c * i.bytes) := by omega
  simp [Builtin.append_, run_underlying ht, run_underlying hu, hm, sizeOf, typeInfo, zeroValue, hi, hz, hl, hn, h63', h48', Question.forced, hf, hfo, newRow, grownCap]
  congr 2
  apply Array.ext'
  simp [List.append_assoc]

/-- How an append may be told. -/
inductive AppHow | fresh | inplace | take | share
  deriving DecidableEq

structure AppT (P : Program) (t : TypeId) where
  e : TypeId
  es : Nat
  by_ : Nat

/-- append of m elements, the cells xs, behind the slice s. -/
def gAppend (P : Program) (t : TypeId) (h : GH) (s : Value) (m : Nat) (xs : List Value) (K : Value → GH → Prop) : Prop :=
  ∃ e es by_ z, gel P t = some (e, es, by_, z) ∧ xs.length = m * es ∧ xs.all isCell = true ∧
  match s with
  | .slice none 0 c => (m = 0 ∧ K (.slice none 0 c) h) ∨ (0 < m ∧ m ≤ maxLen ∧ m * by_ ≤ 140737488355328 ∧ ∀ k, h k = none → K (.slice (some ⟨k, 0, none⟩) m (2 * m)) (hset h k ⟨xs, es, true, true⟩))
  | .slice (some a) n c =>
    (m = 0 ∧ K (.slice (some a) n c) h) ∨
    (0 < m ∧ n + m ≤ maxLen ∧ (n + m) * by_ ≤ 140737488355328 ∧
      ((∃ pre, gread h a (n * es) = some pre ∧ c % 2 = 1 ∧ c / 2 < n + m ∧ ∀ k, h k = none → K (.slice (some ⟨k, 0, none⟩) (n + m) (2 * (n + m))) (hset h k ⟨pre ++ xs, es, true, true⟩)) ∨
       (n + m ≤ c / 2 ∧ ∃ h2, gwrite h ⟨a.block, a.off + n * es, a.spot⟩ xs = some h2 ∧ K (.slice (some a) (n + m) c) h2) ∨
       (∃ B, h a.block = some B ∧ a.spot = none ∧ c % 2 = 0 ∧ B.tl = true ∧ B.es = es ∧ a.off + n * es = B.cells.length ∧
          ((∀ k, h k = none → k ≠ a.block → K (.slice (some ⟨k, 0, none⟩) (n + m) (2 * (n + m))) (hset (hdel h a.block) k ⟨B.cells.drop a.off ++ xs, es, B.wr, true⟩)) ∨
           (∀ k, h k = none → k ≠ a.block → K (.slice (some ⟨k, 0, none⟩) (n + m) (2 * (n + m))) (hset (hset h a.block { B with wr := false, tl := false }) k ⟨B.cells.drop a.off ++ xs, es, false, true⟩))))))
  | _ => False

/-- Others are told less of. -/
theorem Sim.degrade {N : Nat} {φ : Fm} {h : GH} {w : World} (s : Sim N φ h w) {k : Nat} {B : GB} (hk : h k = some B) : Sim N φ (hset h k { B with wr := false, tl := false }) w := by
  refine ⟨s.ini, s.big, s.fin, fun j C hj => ?_, ?_, s.rng⟩
  · by_cases hjk : j = k
    · subst hjk; rw [hset_same] at hj; cases hj
      obtain ⟨f, p1, p2⟩ := s.dom _ _ hk
      exact ⟨f, p1, ⟨p2.lt, p2.cell, p2.es, by simp, by simp, by simp, by simp⟩⟩
    · rw [hset_ne _ _ hjk] at hj; exact s.dom j C hj
  · intro j j' B1 B2 f1 f2 hne p1 p2 q1 q2 hbb
    have step : ∀ (j : Nat) (B1 : GB), hset h k { B with wr := false, tl := false } j = some B1 → ∃ B0, h j = some B0 ∧ (B1.wr = true → B0.wr = true) ∧ (B1.tl = true → B0.tl = true) ∧ B0.cells.length = B1.cells.length := by
      intro j B1 hj
      by_cases hjk : j = k
      · subst hjk; rw [hset_same] at hj; cases hj
        exact ⟨B, hk, by simp, by simp, rfl⟩
      · rw [hset_ne _ _ hjk] at hj
        exact ⟨B1, hj, id, id, rfl⟩
    obtain ⟨C1, r1, r2, r3, r4⟩ := step j B1 p1
    obtain ⟨C2, t1, t2, t3, t4⟩ := step j' B2 p2
    obtain ⟨z1, z2, z3⟩ := s.sep j j' C1 C2 f1 f2 hne r1 t1 q1 q2 hbb
    refine ⟨?_, ?_, fun ht => ?_⟩
    · cases hw : B1.wr with
      | false => rfl
      | true => rw [r2 hw] at z1; cases z1
    · cases hw : B2.wr with
      | false => rfl
      | true => rw [t2 hw] at z2; cases z2
    · obtain ⟨y1, y2⟩ := z3 (r3 ht)
      refine ⟨?_, by rw [← r4, ← t4]; exact y2⟩
      cases hw : B2.tl with
      | false => rfl
      | true => rw [t3 hw] at y1; cases y1

/-- The spare memory behind a block is written: a new ghost block has the old cells and the new ones. ho: what of the others stays. -/
theorem Sim.extend {P : Program} {N : Nat} {φ : Fm} {h : GH} {w : World} (s : Sim N φ h w) {j0 : Nat} {B : GB} {f : Fx} (hB : h j0 = some B) (hf : φ j0 = some f) (htl : B.tl = true) (off : Nat) (hoff : off ≤ B.cells.length)
    {xs xs' : List Value} (hv : VRs φ xs xs') (hc : xs.all isCell = true) (hroom : f.o + B.cells.length + xs.length ≤ f.lim) {k : Nat} (hk : φ k = none) (wr : Bool) (ho : GH)
    (hoth : ∀ j C, ho j = some C → (j ≠ j0 ∧ h j = some C) ∨ (j = j0 ∧ wr = false ∧ C = { B with wr := false, tl := false })) (hwr : wr = true → B.wr = true) :
    (storeCells ⟨f.b, f.o + B.cells.length, none⟩ xs').run P w = .ok () (w.setCells f.b (f.o + B.cells.length) xs') ∧
    Sim N (fset φ k ⟨f.b, f.o + off, f.lim, B.es⟩) (hset ho k ⟨B.cells.drop off ++ xs, B.es, wr, true⟩) (w.setCells f.b (f.o + B.cells.length) xs') ∧ Below N w (w.setCells f.b (f.o + B.cells.length) xs') := by
  obtain ⟨f', hf', hb⟩ := s.dom _ _ hB
  rw [hf] at hf'; cases hf'
  have hlen := hv.length
  have hcell : ∀ j, j < xs'.length → (w.cell? ⟨f.b, f.o + B.cells.length + j, none⟩).isSome = true := fun j hj => by
    obtain ⟨⟨v', h1⟩, _⟩ := hb.tlf htl (f.o + B.cells.length + j) (by omega) (by omega)
    rw [h1]; rfl
  have hfz : ∀ j, j < xs'.length → w.frozen? ⟨f.b, f.o + B.cells.length + j, none⟩ = false := fun j hj => (hb.tlf htl (f.o + B.cells.length + j) (by omega) (by omega)).2
  have hrun := run_storeCells_cells (P := P) f.b (f.o + B.cells.length) xs' 0 w (by simpa using hcell) (by simpa using hfz) (isCell_all hv hc)
  have hbel := below_setCells (N := N) f.b (hb.nz (.inr htl)) xs' (f.o + B.cells.length) w
  refine ⟨by simpa using hrun, ?_, hbel⟩
  have e := fset_ext ⟨f.b, f.o + off, f.lim, B.es⟩ hk
  have hkN : ∀ j, j < N → j ≠ k := fun j hj ee => by have := s.ini j hj; rw [ee, hk] at this; cases this
  have hj0k : j0 ≠ k := fun ee => by rw [ee, hk] at hf; cases hf
  refine ⟨fun j hj => ?_, Nat.le_trans s.big hbel.size, ?_, fun j C hj => ?_, ?_, fun j g hj => ?_⟩
  · rw [fset_ne _ _ (hkN j hj)]; exact s.ini j hj
  · obtain ⟨n, hn⟩ := s.fin
    refine ⟨max n (k + 1), fun j hj => ?_⟩
    rw [fset_ne _ _ (by omega)]; exact hn j (by omega)
  · by_cases hjk : j = k
    · subst hjk
      rw [hset_same] at hj; cases hj
      refine ⟨_, fset_same _ _ _, ⟨by rw [size_setCells]; exact hb.lt, fun i v hi => ?_, rfl, fun _ => hb.nz (.inr htl), fun hw i hi => ?_, fun _ i h1 h2 => ?_, fun _ => ?_⟩⟩
      · simp only at hi ⊢
        by_cases hii : i < B.cells.length - off
        · rw [List.getElem?_append_left (by simp; omega), List.getElem?_drop] at hi
          obtain ⟨v', p1, p2⟩ := hb.cell _ v hi
          refine ⟨v', ?_, p2.mono e⟩
          rw [World.cell?_setCells_out _ _ _ _ _ (fun _ _ => by simp; omega), Nat.add_assoc]; exact p1
        · rw [List.getElem?_append_right (by simp; omega)] at hi
          simp only [List.length_drop] at hi
          obtain ⟨v', p1, p2⟩ := hv.get _ _ hi
          refine ⟨v', ?_, p2.mono e⟩
          have hlt := (List.getElem?_eq_some_iff.1 p1).1
          have := World.cell?_setCells_in f.b xs' (f.o + B.cells.length) w hcell _ hlt
          rw [show f.o + off + i = f.o + B.cells.length + (i - (B.cells.length - off)) by omega, this, (List.getElem?_eq_some_iff.1 p1).2]
      · simp only at hi ⊢
        rw [World.frozen?_setCells]
        by_cases hii : i < B.cells.length - off
        · rw [Nat.add_assoc]; exact hb.wrf (hwr hw) _ (by omega)
        · refine (hb.tlf htl (f.o + off + i) (by omega) ?_).2
          simp at hi; omega
      · simp only [List.length_append, List.length_drop] at h1 h2 ⊢
        rw [World.frozen?_setCells, World.cell?_setCells_out _ _ _ _ _ (fun _ _ => by simp; omega)]
        exact hb.tlf htl i (by omega) h2
      · simp; omega
    · rw [hset_ne _ _ hjk] at hj
      rcases hoth j C hj with ⟨hne, hC⟩ | ⟨rfl, _, rfl⟩
      · obtain ⟨g, p1, p2⟩ := s.dom j C hC
        refine ⟨g, e _ _ p1, ?_⟩
        by_cases hgb : f.b = g.b
        · obtain ⟨z1, z2, z3⟩ := s.sep j0 j B C f g (Ne.symm hne) hB hC hf p1 hgb
          obtain ⟨y1, y2⟩ := z3 htl
          refine ⟨by rw [size_setCells]; exact p2.lt, fun i v hi => ?_, p2.es, by rw [z2, y1]; simp, by rw [z2]; simp, by rw [y1]; simp, by rw [y1]; simp⟩
          obtain ⟨v', q1, q2⟩ := p2.cell i v hi
          have hlt := (List.getElem?_eq_some_iff.1 hi).1
          exact ⟨v', by rw [World.cell?_setCells_out _ _ _ _ _ (fun _ _ => by simp; omega)]; exact q1, q2.mono e⟩
        · exact p2.mono e hbel.size (block_setCells _ _ _ _ _ (Ne.symm hgb))
      · refine ⟨f, e _ _ hf, ⟨by rw [size_setCells]; exact hb.lt, fun i v hi => ?_, hb.es, by simp, by simp, by simp, by simp⟩⟩
        obtain ⟨v', q1, q2⟩ := hb.cell i v hi
        have hlt : i < B.cells.length := (List.getElem?_eq_some_iff.1 hi).1
        exact ⟨v', by rw [World.cell?_setCells_out _ _ _ _ _ (fun _ _ => by simp; omega)]; exact q1, q2.mono e⟩
  · -- the new block and another one
    have key : ∀ (j : Nat) (C : GB) (g : Fx), j ≠ k → ho j = some C → φ j = some g → f.b = g.b → C.wr = false ∧ wr = false ∧ C.tl = false ∧ g.o + C.cells.length ≤ f.o + B.cells.length := by
      intro j C g hjk hj hg hbb
      rcases hoth j C hj with ⟨hne, hC⟩ | ⟨rfl, h1, rfl⟩
      · obtain ⟨z1, z2, z3⟩ := s.sep j0 j B C f g (Ne.symm hne) hB hC hf hg hbb
        obtain ⟨y1, y2⟩ := z3 htl
        refine ⟨z2, ?_, y1, y2⟩
        cases hw : wr with
        | false => rfl
        | true => rw [hwr hw] at z1; cases z1
      · rw [hf] at hg; cases hg
        exact ⟨rfl, h1, rfl, Nat.le_refl _⟩
    intro j j' B1 B2 f1 f2 hne p1 p2 q1 q2 hbb
    by_cases hj : j = k
    · subst hj
      rw [hset_same] at p1; cases p1
      rw [fset_same] at q1; cases q1
      rw [hset_ne _ _ (Ne.symm hne)] at p2
      rw [fset_ne _ _ (Ne.symm hne)] at q2
      obtain ⟨z1, z2, z3, z4⟩ := key j' B2 f2 (Ne.symm hne) p2 q2 hbb
      exact ⟨z2, z1, fun _ => ⟨z3, by simp; omega⟩⟩
    · by_cases hj' : j' = k
      · subst hj'
        rw [hset_same] at p2; cases p2
        rw [fset_same] at q2; cases q2
        rw [hset_ne _ _ hj] at p1
        rw [fset_ne _ _ hj] at q1
        obtain ⟨z1, z2, z3, z4⟩ := key j B1 f1 hj p1 q1 hbb.symm
        exact ⟨z1, z2, fun ht => by rw [z3] at ht; cases ht⟩
      · rw [hset_ne _ _ hj] at p1; rw [hset_ne _ _ hj'] at p2
        rw [fset_ne _ _ hj] at q1; rw [fset_ne _ _ hj'] at q2
        have step : ∀ (j : Nat) (B1 : GB), ho j = some B1 → ∃ B0, h j = some B0 ∧ (B1.wr = true → B0.wr = true) ∧ (B1.tl = true → B0.tl = true) ∧ B0.cells.length = B1.cells.length := by
          intro j C hj
          rcases hoth j C hj with ⟨hne, hC⟩ | ⟨rfl, h1, rfl⟩
          · exact ⟨C, hC, id, id, rfl⟩
          · exact ⟨B, hB, by simp, by simp, rfl⟩
        obtain ⟨C1, r1, r2, r3, r4⟩ := step j B1 p1
        obtain ⟨C2, t1, t2, t3, t4⟩ := step j' B2 p2
        obtain ⟨z1, z2, z3⟩ := s.sep j j' C1 C2 f1 f2 hne r1 t1 q1 q2 hbb
        refine ⟨?_, ?_, fun ht => ?_⟩
        · cases hw : B1.wr with
          | false => rfl
          | true => rw [r2 hw] at z1; cases z1
        · cases hw : B2.wr with
          | false => rfl
          | true => rw [t2 hw] at z2; cases z2
        · obtain ⟨y1, y2⟩ := z3 (r3 ht)
          refine ⟨?_, by rw [← r4, ← t4]; exact y2⟩
          cases hw : B2.tl with
          | false => rfl
          | true => rw [t3 hw] at y1; cases y1
  · by_cases hjk : j = k
    · subst hjk; rw [fset_same] at hj; cases hj; rw [size_setCells]; exact hb.lt
    · rw [fset_ne _ _ hjk] at hj; rw [size_setCells]; exact s.rng j g hj

end Go.Gh
