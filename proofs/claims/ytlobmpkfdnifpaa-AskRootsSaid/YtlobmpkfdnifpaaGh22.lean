/- A framework of this claim's proof, part 22. What arguments of any nested type read as. No statement of the claim stands here. -/
import Derived.Test.YtlobmpkfdnifpaaGh21
namespace Go.Gh
open Go Go.RowKit Go.ChangeShapes Go.WideShapes Go.ChangeAt
set_option linter.unusedVariables false
set_option linter.unusedSimpArgs false

/-- Types of data. -/
inductive Ty
  | i (k : IntKind)
  | b
  | bs
  | sl (t : Ty)
  | fnil
  | fcons (t : Ty) (r : Ty)

def Ty.den : Ty → Type
  | .i _ => Int
  | .b => Bool
  | .bs => List UInt8
  | .sl t => List t.den
  | .fnil => Unit
  | .fcons t r => t.den × r.den

def Ty.size : Ty → Nat
  | .fnil => 0
  | .fcons t r => t.size + r.size
  | _ => 1

/-- A slice that came in, or was made so: its capacity is known. -/
def Odd (v : Value) : Prop := (∃ c, v = .slice none 0 c) ∨ ∃ ad n c, v = .slice (some ad) n c ∧ c % 2 = 1

def Ty.R : (t : Ty) → GH → List Value → t.den → Prop
  | .i k, _, cs, (n : Int) => cs = [.int k n] ∧ (Lit.int k n).wf = true
  | .b, _, cs, (x : Bool) => cs = [.bool x]
  | .bs, h, cs, (l : List UInt8) => ∃ v, cs = [v] ∧ RB h v l ∧ Odd v
  | .sl t, h, cs, (l : List t.den) => ∃ v, cs = [v] ∧ RL t.size t.R h v l ∧ Odd v
  | .fnil, _, cs, _ => cs = []
  | .fcons t r, h, cs, (x, y) => ∃ c1 c2, cs = c1 ++ c2 ∧ c1.length = t.size ∧ t.R h c1 x ∧ r.R h c2 y

/-- How great it is. -/
def Ty.bulk : (t : Ty) → t.den → Nat
  | .i _, _ => 1
  | .b, _ => 1
  | .bs, (l : List UInt8) => l.length + 1
  | .sl t, (l : List t.den) => (l.map t.bulk).sum + 1
  | .fnil, _ => 0
  | .fcons t r, (x, y) => t.bulk x + r.bulk y

def Ty.chk (P : Program) : Ty → TypeId ⊕ (List Field × Nat) → Bool
  | .i k, .inl t => (match P.underlying t with | some (.int k') => decide (k' = k) | _ => false) && P.cellsOf t == 1
  | .b, .inl t => (match P.underlying t with | some .bool => true | _ => false) && P.cellsOf t == 1
  | .bs, .inl t => (match P.underlying t with | some (.slice e) => (match P.underlying e with | some (.int .u8) => true | _ => false) && P.cellsOf e == 1 && decide (0 < P.bytesOf e) | _ => false) && P.cellsOf t == 1
  | .sl a, .inl t => (match P.underlying t with | some (.slice e) => a.chk P (.inl e) && P.cellsOf e == a.size && decide (0 < a.size) && decide (0 < P.bytesOf e) | _ => false) && P.cellsOf t == 1
  | .fnil, .inl t => (match P.underlying t with | some (.struct fs) => fs.toList.isEmpty && P.cellsOf t == 0 | _ => false)
  | .fcons a r, .inl t => (match P.underlying t with
    | some (.struct fs) => (match fs.toList with | f :: fs => f.offset == 0 && P.cellsOf f.type == a.size && a.chk P (.inl f.type) && r.chk P (.inr (fs, 0 + a.size)) | [] => false) && P.cellsOf t == a.size + r.size
    | _ => false)
  | .fnil, .inr x => x.1.isEmpty
  | .fcons a r, .inr x => (match x.1 with | f :: fs => f.offset == x.2 && P.cellsOf f.type == a.size && a.chk P (.inl f.type) && r.chk P (.inr (fs, x.2 + a.size)) | [] => false)
  | _, .inr _ => false
def Ty.ok (P : Program) (T : Ty) (t : TypeId) : Bool := T.chk P (.inl t)
def Ty.okF (P : Program) (T : Ty) (fs : List Field) (o : Nat) : Bool := T.chk P (.inr (fs, o))
section
variable (P : Program) (t : TypeId)
theorem Ty.ok_i (k : IntKind) : Ty.ok P (.i k) t = ((match P.underlying t with | some (.int k') => decide (k' = k) | _ => false) && P.cellsOf t == 1) := rfl
theorem Ty.ok_b : Ty.ok P .b t = ((match P.underlying t with | some .bool => true | _ => false) && P.cellsOf t == 1) := rfl
theorem Ty.ok_bs : Ty.ok P .bs t = ((match P.underlying t with | some (.slice e) => (match P.underlying e with | some (.int .u8) => true | _ => false) && P.cellsOf e == 1 && decide (0 < P.bytesOf e) | _ => false) && P.cellsOf t == 1) := rfl
theorem Ty.ok_sl (a : Ty) : Ty.ok P (.sl a) t = ((match P.underlying t with | some (.slice e) => a.ok P e && P.cellsOf e == a.size && decide (0 < a.size) && decide (0 < P.bytesOf e) | _ => false) && P.cellsOf t == 1) := rfl
theorem Ty.ok_fnil : Ty.ok P .fnil t = (match P.underlying t with | some (.struct fs) => Ty.okF P .fnil fs.toList 0 && P.cellsOf t == 0 | _ => false) := rfl
theorem Ty.ok_fcons (a r : Ty) : Ty.ok P (.fcons a r) t = (match P.underlying t with | some (.struct fs) => Ty.okF P (.fcons a r) fs.toList 0 && P.cellsOf t == a.size + r.size | _ => false) := rfl
theorem Ty.okF_nil (a r : Ty) (o : Nat) : Ty.okF P (.fcons a r) [] o = false := rfl
theorem Ty.okF_cons (a r : Ty) (f : Field) (fs : List Field) (o : Nat) : Ty.okF P (.fcons a r) (f :: fs) o = (f.offset == o && P.cellsOf f.type == a.size && Ty.ok P a f.type && Ty.okF P r fs (o + a.size)) := rfl
theorem Ty.okF_i (k : IntKind) (fs : List Field) (o : Nat) : Ty.okF P (.i k) fs o = false := rfl
theorem Ty.okF_b (fs : List Field) (o : Nat) : Ty.okF P .b fs o = false := rfl
theorem Ty.okF_bs (fs : List Field) (o : Nat) : Ty.okF P .bs fs o = false := rfl
theorem Ty.okF_sl (a : Ty) (fs : List Field) (o : Nat) : Ty.okF P (.sl a) fs o = false := rfl
end

theorem RB.odd_up {W : World} {a : Addr} {n c : Nat} (hl : n ≤ c) (hc : c = 0 ∨ ∃ v, W.cell? a = some v) : upc W.heap.size (.slice (some a) n c) = .slice (some a) n (2 * c + 1) := by
  simp only [upc]
  rw [if_pos]
  refine ⟨hl, ?_⟩
  rcases hc with h | ⟨v, h⟩
  · exact .inr h
  · obtain ⟨h1, h2, _⟩ := cell_obj h
    exact .inl ⟨h1, h2⟩

theorem add_zero' (a : Addr) : a.add 0 = a := by simp [Addr.add]
theorem add_add (a : Addr) (i j : Nat) : (a.add i).add j = a.add (i + j) := by
  obtain ⟨b, o, s⟩ := a
  unfold Addr.add
  by_cases hi : i = 0 <;> by_cases hj : j = 0 <;> simp [hi, hj, Nat.add_assoc]

/-- Cells of a slice's elements, put together. -/
theorem flat_get {α : Type} {n : Nat} : ∀ (l : List (List α)), (∀ x ∈ l, x.length = n) → ∀ i x, l[i]? = some x → (l.flatten.drop (i * n)).take n = x
  | [], _, i, x, h => by simp at h
  | y :: l, hl, 0, x, h => by
    simp at h; subst h
    have := hl y (by simp)
    simp [List.take_append_of_le_length, ← this]
  | y :: l, hl, i + 1, x, h => by
    have hy := hl y (by simp)
    simp at h
    have ih := flat_get l (fun x hx => hl x (by simp [hx])) i x h
    rw [List.flatten_cons, Nat.add_mul, Nat.one_mul, Nat.add_comm, ← List.drop_drop, ← hy, List.drop_left]
    rw [hy]; exact ih
theorem flat_len {α : Type} {n : Nat} : ∀ (l : List (List α)), (∀ x ∈ l, x.length = n) → l.flatten.length = l.length * n
  | [], _ => by simp
  | y :: l, hl => by
    rw [List.flatten_cons, List.length_append, hl y (by simp), flat_len l fun x hx => hl x (by simp [hx]), List.length_cons, Nat.add_mul]
    omega
theorem flat_at {α : Type} {n : Nat} (l : List (List α)) (hl : ∀ x ∈ l, x.length = n) (q : Nat) (v : α) (h : l.flatten[q]? = some v) : ∃ x, l[q / n]? = some x ∧ x[q % n]? = some v := by
  have hq := (List.getElem?_eq_some_iff.1 h).1
  rw [flat_len l hl] at hq
  have hn : 0 < n := by
    rcases Nat.eq_zero_or_pos n with h | h
    · subst h; simp at hq
    · exact h
  have hlt : q / n < l.length := by
    rw [Nat.div_lt_iff_lt_mul hn]; exact hq
  refine ⟨l[q / n], List.getElem?_eq_getElem hlt, ?_⟩
  have := flat_get l hl (q / n) _ (List.getElem?_eq_getElem hlt)
  rw [← this, List.getElem?_take, if_pos (Nat.mod_lt _ hn), List.getElem?_drop]
  have e : q / n * n + q % n = q := by rw [Nat.mul_comm]; exact Nat.div_add_mod q n
  rw [e]; exact h


/-- Lengths that a machine may have. -/
def Ty.fits : (t : Ty) → t.den → Prop
  | .i _, _ => True
  | .b, _ => True
  | .bs, (l : List UInt8) => l.length ≤ 140737488351232
  | .sl t, (l : List t.den) => l.length ≤ 140737488351232 ∧ ∀ x ∈ l, t.fits x
  | .fnil, _ => True
  | .fcons t r, (x, y) => t.fits x ∧ r.fits y

/-- A measure of data that counts each part. -/
structure BulkOk {H : Type} (B : DataW H → Nat) (A : List (DataW H) → Nat) : Prop where
  lit : ∀ l, 1 ≤ B (.lit l)
  nil : 1 ≤ B .nil
  slice : ∀ es sp, B (.slice es sp) = A es + A sp + 1
  agg : ∀ ps, B (.agg ps) = A ps + 1
  anil : A [] = 0
  acons : ∀ d r, A (d :: r) = B d + A r
theorem BulkOk.sum {H : Type} {B : DataW H → Nat} {A : List (DataW H) → Nat} (k : BulkOk B A) : ∀ l, A l = (l.map B).sum
  | [] => by rw [k.anil]; rfl
  | d :: r => by rw [k.acons, k.sum r]; rfl

theorem sum_le {α β : Type} (f : α → Nat) (g : β → Nat) : ∀ (l : List α) (m : List β), l.length = m.length → (∀ (i : Nat) x y, l[i]? = some x → m[i]? = some y → f x ≤ g y) → (l.map f).sum ≤ (m.map g).sum
  | [], m, h, _ => by simp
  | x :: l, [], h, _ => by simp at h
  | x :: l, y :: m, h, hh => by
    simp only [List.map_cons, List.sum_cons]
    have h1 := hh 0 x y rfl rfl
    have h2 := sum_le f g l m (by simpa using h) (fun i a b ha hb => hh (i + 1) a b (by simpa using ha) (by simpa using hb))
    omega

/-- A choice for each of a list. -/
theorem choose_list {α β : Type} {p : Nat → α → β → Prop} : ∀ (l : List α) (o : Nat), (∀ (i : Nat) x, l[i]? = some x → ∃ y, p (o + i) x y) → ∃ m : List β, m.length = l.length ∧ ∀ (i : Nat) x y, l[i]? = some x → m[i]? = some y → p (o + i) x y
  | [], o, _ => ⟨[], rfl, fun i x y h => by simp at h⟩
  | x :: l, o, h => by
    obtain ⟨y, hy⟩ := h 0 x rfl
    obtain ⟨m, h1, h2⟩ := choose_list l (o + 1) (p := p) (fun i a ha => by
      obtain ⟨y, hy⟩ := h (i + 1) a (by simpa using ha)
      exact ⟨y, by rwa [show o + 1 + i = o + (i + 1) by omega]⟩)
    refine ⟨y :: m, by simp [h1], fun i a b ha hb => ?_⟩
    cases i with
    | zero => simp at ha hb; subst ha; subst hb; exact hy
    | succ i =>
      have := h2 i a b (by simpa using ha) (by simpa using hb)
      rwa [show o + 1 + i = o + (i + 1) by omega] at this

section
variable {H : Type} {enc : TypeId × Value → H} {P : Program} {W : World} {base : Nat}

/-- What is owed of a reading. -/
def Owed (P : Program) (W : World) (T : Ty) (t : TypeId) (cs : List Value) (d : DataW H) (y : T.den) : Prop :=
  T.R (h0 W) (cs.map (upc W.heap.size)) y ∧ cs.length = T.size ∧ (∀ B A, BulkOk B A → T.bulk y ≤ B d) ∧ ((∀ n ∈ d.weights P t, n ≤ reachBytes) → T.fits y)

theorem okB_slice {t : TypeId} {q : TypeId → Bool} {c : Bool} (h : ((match P.underlying t with | some (.slice e) => q e | _ => false) && c) = true) : ∃ e, P.underlying t = some (.slice e) ∧ q e = true := by
  simp only [Bool.and_eq_true] at h
  have h := h.1
  split at h
  · rename_i e he; exact ⟨e, he, h⟩
  · cases h

theorem weightsAll_mem {P : Program} {e : TypeId} : ∀ {l : List (DataW H)} {d : DataW H}, d ∈ l → ∀ n ∈ d.weights P e, n ∈ DataW.weightsAll P e l
  | [], d, h, n, hn => by simp at h
  | x :: l, d, h, n, hn => by
    unfold DataW.weightsAll
    rcases List.mem_cons.1 h with rfl | h
    · exact List.mem_append_left _ hn
    · exact List.mem_append_right _ (weightsAll_mem h n hn)

theorem h0_nv {ad : Addr} {n : Nat} {cs : List Value} (e : gread (h0 W) ad n = some cs) {m : Nat} (hm : m = n := by simp [*]) : NV (h0 W) ad.block m := by
  subst hm
  unfold gread at e
  split at e
  · rename_i h0; exact .inl h0
  · split at e
    case h_2 => cases e
    rename_i B hs hB
    refine .inr ⟨B, hB, .inr ?_⟩
    unfold h0 at hB
    split at hB
    · cases hB; rfl
    · cases hB
theorem h0_bytes {n : Nat} {a : Addr} {zs : List Int} (hn : n ≤ zs.length) (hw : ∀ q ∈ zs, (Lit.int .u8 q).wf = true) (hcell : ∀ i, i < zs.length → W.cell? (a.add i) = some (.int .u8 (zs.getD i 0))) :
    gread (h0 W) a n = some (((zs.take n).map ofI).map bv) := by
  have := h0_read (W := W) (a := a) ((zs.take n).map fun q => Value.int .u8 q) (fun i v hv => by
    simp only [List.getElem?_map, Option.map_eq_some_iff] at hv
    obtain ⟨q, hq, rfl⟩ := hv
    have hi : i < n := by
      rcases Nat.lt_or_ge i n with h | h
      · exact h
      · rw [List.getElem?_eq_none (by simp; omega)] at hq; cases hq
    rw [List.getElem?_take_of_lt hi] at hq
    rw [hcell i (by omega)]
    simp [hq])
  rw [List.length_map] at this
  have hl2 : (zs.take n).length = n := by simp; omega
  rw [hl2] at this
  rw [this]
  simp only [List.map_map]
  congr 1
  apply List.map_congr_left
  intro q hq
  exact (bv_ofI (hw q (List.mem_of_mem_take hq))).symm

mutual
theorem read_any : ∀ (T : Ty) (t : TypeId) (fuel : Nat) (cs : List Value) (x : DataW H × List MemPlace), T.ok P t = true → DataW.trod enc P W base (fun _ => true) true fuel t cs = some x → ∃ y : T.den, Owed P W T t cs x.1 y
  | .i k, t, fuel, cs, x, ok, h => by
    simp only [Ty.ok_i, Ty.ok_b, Ty.ok_bs, Ty.ok_sl, Bool.and_eq_true, beq_iff_eq] at ok
    obtain ⟨ok1, ok2⟩ := ok
    split at ok1
    case h_2 => cases ok1
    rename_i k' hu
    obtain rfl : k' = k := by simpa using ok1
    obtain ⟨n, rfl, rfl, hw⟩ := DataW.trod_int hu h
    exact ⟨n, ⟨by simp [upc], hw⟩, rfl, fun B A k => k.lit _, fun _ => trivial⟩
  | .b, t, fuel, cs, x, ok, h => by
    simp only [Ty.ok_i, Ty.ok_b, Ty.ok_bs, Ty.ok_sl, Bool.and_eq_true, beq_iff_eq] at ok
    obtain ⟨ok1, ok2⟩ := ok
    split at ok1
    case h_2 => cases ok1
    rename_i hu
    obtain ⟨b, rfl, rfl⟩ := DataW.trod_bool hu h
    exact ⟨b, by simp [Ty.R, upc], rfl, fun B A k => k.lit _, fun _ => trivial⟩
  | .bs, t, fuel, cs, x, ok, h => by
    simp only [Ty.ok_i, Ty.ok_b, Ty.ok_bs, Ty.ok_sl, Bool.and_eq_true, beq_iff_eq] at ok
    obtain ⟨ok1, ok2⟩ := ok
    split at ok1
    case h_2 => cases ok1
    rename_i e hu
    simp only [Bool.and_eq_true, beq_iff_eq, decide_eq_true_eq] at ok1
    obtain ⟨⟨ok1, hc⟩, hb⟩ := ok1
    split at ok1
    case h_2 => cases ok1
    rename_i he
    rcases open_ints hu he hc h with ⟨rfl, rfl⟩ | ⟨a, n, c, zs, rfl, _, hl, hm, hz, rfl, hcell, hwz⟩
    · exact ⟨[], ⟨_, rfl, .inl ⟨1, rfl, rfl⟩, .inl ⟨1, rfl⟩⟩, rfl, fun B A k => k.nil, fun _ => by simp [Ty.fits]⟩
    · simp only [if_true] at hz
      have hlen : ((zs.take n).map ofI).length = n := by simp; omega
      have hup := RB.odd_up (W := W) (a := a) hl (by
        rcases Nat.eq_zero_or_pos c with h | h
        · exact .inl h
        · exact .inr ⟨_, by have := hcell 0 (by omega); rwa [add_zero'] at this⟩)
      have hg := h0_bytes (W := W) (a := a) (n := n) (by omega) hwz hcell
      refine ⟨(zs.take n).map ofI, ⟨.slice (some a) n (2 * c + 1), by simp [hup], .inr ⟨a, 2 * c + 1, by rw [hlen], by rw [hlen]; exact hg, by omega⟩, .inr ⟨_, _, _, rfl, by omega⟩⟩, rfl, fun B A k => ?_, fun hw => ?_⟩
      · simp only [k.slice, Ty.bulk]
        rw [k.sum]
        have : ∀ l : List Int, l.length ≤ ((lits (H := H) .u8 l).map B).sum := fun l => by
          induction l with
          | nil => simp
          | cons z l ih =>
            have := k.lit (.int .u8 z)
            simp only [lits, List.map_cons, List.sum_cons, List.length_cons] at ih ⊢
            omega
        have := this (zs.take n)
        show ((zs.take n).map ofI).length + 1 ≤ _
        rw [List.length_map]
        omega
      · have h1 := hw ((zs.take n).length * P.bytesOf e + (zs.drop n).length * P.bytesOf e) (by
          unfold DataW.weights
          rw [hu]
          simp only [lits, List.length_map, Nat.add_mul]
          exact List.mem_cons_self)
        have h2 : (zs.take n).length * 1 ≤ (zs.take n).length * P.bytesOf e := Nat.mul_le_mul_left _ hb
        simp only [reachBytes] at h1
        show ((zs.take n).map ofI).length ≤ _
        rw [List.length_map]
        omega
  | .sl a, t, fuel, cs, x, ok, h => by
    simp only [Ty.ok_i, Ty.ok_b, Ty.ok_bs, Ty.ok_sl, Bool.and_eq_true, beq_iff_eq] at ok
    obtain ⟨ok1, ok2⟩ := ok
    split at ok1
    case h_2 => cases ok1
    rename_i e hu
    simp only [Bool.and_eq_true, beq_iff_eq, decide_eq_true_eq] at ok1
    obtain ⟨⟨⟨ok1, hc⟩, h0⟩, hb⟩ := ok1
    rcases DataW.trod_slice hu h with ⟨rfl, rfl⟩ | ⟨ad, n, c, elems, rest, m, rfl, rfl, rfl, _, hl, hm, hlen, hel, hsp, _⟩
    · exact ⟨[], ⟨_, rfl, .inl ⟨1, rfl, rfl⟩, .inl ⟨1, rfl⟩⟩, rfl, fun B A k => by simpa [Ty.bulk] using k.nil, fun _ => by simp [Ty.fits]⟩
    · obtain ⟨hr1, hr2⟩ := hsp rfl
      rw [hc] at hel hr2
      -- cells and datum of each element
      obtain ⟨L, hL1, hL2⟩ := choose_list (p := fun i (x : DataW H × List MemPlace) (q : List Value × a.den) => W.cells? base (ad.add (i * a.size)) a.size = some q.1 ∧ Owed P W a e q.1 x.1 q.2) elems 0 (fun i x hx => by
        rw [Nat.zero_add]
        have hi := (List.getElem?_eq_some_iff.1 hx).1
        have h1 := hel i (by omega)
        rw [hx, Option.bind_eq_some_iff] at h1
        obtain ⟨ce, hce, htr⟩ := h1
        obtain ⟨y, hy⟩ := read_any a e m ce x ok1 htr
        exact ⟨(ce, y), hce, hy⟩)
      simp only [Nat.zero_add] at hL2
      have hcl : ∀ q ∈ L.map (·.1), q.length = a.size := fun q hq => by
        obtain ⟨z, hz, rfl⟩ := List.mem_map.1 hq
        obtain ⟨i, hi⟩ := List.getElem?_of_mem hz
        have hlt := (List.getElem?_eq_some_iff.1 hi).1
        exact (World.cells?_some (hL2 i _ _ (List.getElem?_eq_getElem (by omega)) hi).1).2.1
      have hup := RB.odd_up (W := W) (a := ad) hl (by
        rcases Nat.eq_zero_or_pos c with h | h
        · exact .inl h
        · right
          have : ∃ i cs0, W.cells? base (ad.add (i * a.size)) a.size = some cs0 ∧ i = 0 := by
            rcases Nat.eq_zero_or_pos n with hn | hn
            · subst hn
              have h1 := hr2 0 (by omega)
              have hlt : 0 < rest.length := by omega
              rw [List.getElem?_eq_getElem hlt, Option.bind_eq_some_iff] at h1
              obtain ⟨ce, hce, _⟩ := h1
              exact ⟨0, ce, by simpa using hce, rfl⟩
            · have h1 := hel 0 hn
              have hlt : 0 < elems.length := by omega
              rw [List.getElem?_eq_getElem hlt, Option.bind_eq_some_iff] at h1
              obtain ⟨ce, hce, _⟩ := h1
              exact ⟨0, ce, hce, rfl⟩
          obtain ⟨i, cs0, hcs, rfl⟩ := this
          obtain ⟨_, hcl, hcg⟩ := World.cells?_some hcs
          have := hcg 0 h0
          rw [Nat.zero_mul, add_zero', add_zero', List.getElem?_eq_getElem (by omega)] at this
          exact ⟨_, this⟩)
      have hfl := flat_len (L.map (·.1)) hcl
      rw [List.length_map, hL1, hlen] at hfl
      have hg := h0_read (W := W) (a := ad) (L.map (·.1)).flatten (fun q v hv => by
        obtain ⟨cs0, h1, h2⟩ := flat_at _ hcl q v hv
        rw [List.getElem?_map, Option.map_eq_some_iff] at h1
        obtain ⟨z, hz, rfl⟩ := h1
        have hlt := (List.getElem?_eq_some_iff.1 hz).1
        have h3 := (World.cells?_some (hL2 _ _ _ (List.getElem?_eq_getElem (by omega)) hz).1).2.2 (q % a.size) (Nat.mod_lt _ h0)
        rw [add_add, Nat.mul_comm, Nat.div_add_mod] at h3
        rw [h3, h2])
      rw [hfl] at hg
      refine ⟨L.map (·.2), ⟨.slice (some ad) n (2 * c + 1), by simp [hup], .inr ⟨ad, 2 * c + 1, _, by rw [List.length_map, hL1, hlen], by rw [List.length_map, hL1, hlen]; exact hg, by rw [List.length_map]; omega, fun i y hy => ?_, h0_nv hg⟩, .inr ⟨_, _, _, rfl, by omega⟩⟩, rfl, fun B A k => ?_, fun hw => ?_⟩
      · rw [List.getElem?_map, Option.map_eq_some_iff] at hy
        obtain ⟨z, hz, rfl⟩ := hy
        have hlt := (List.getElem?_eq_some_iff.1 hz).1
        have h1 := (hL2 i _ _ (List.getElem?_eq_getElem (by omega)) hz).2.1
        rw [← List.map_drop, ← List.map_take, flat_get _ hcl i z.1 (by simp [hz])]
        exact h1
      · show ((L.map Prod.snd).map a.bulk).sum + 1 ≤ _
        rw [k.slice, k.sum, List.map_map]
        show _ ≤ ((elems.map Prod.fst).map B).sum + _ + 1
        rw [List.map_map]
        have := sum_le (a.bulk ∘ Prod.snd) (B ∘ Prod.fst) L elems hL1 (fun i q x hq hx => (hL2 i x q hx hq).2.2.2.1 B A k)
        omega
      · have h1 := hw ((elems.length + rest.length) * P.bytesOf e) (by
          unfold DataW.weights
          rw [hu]
          simp only [List.length_map]
          exact List.mem_cons_self)
        have h2 : (elems.length + rest.length) * 1 ≤ (elems.length + rest.length) * P.bytesOf e := Nat.mul_le_mul_left _ hb
        simp only [reachBytes] at h1
        refine ⟨by rw [List.length_map]; omega, fun y hy => ?_⟩
        obtain ⟨z, hz, rfl⟩ := List.mem_map.1 hy
        obtain ⟨i, hi⟩ := List.getElem?_of_mem hz
        have hlt := (List.getElem?_eq_some_iff.1 hi).1
        refine (hL2 i _ _ (List.getElem?_eq_getElem (by omega)) hi).2.2.2.2 fun n hn => hw n ?_
        unfold DataW.weights
        rw [hu]
        refine List.mem_cons_of_mem _ (List.mem_append_left _ (weightsAll_mem (List.mem_map.2 ⟨_, List.getElem_mem (by omega), rfl⟩) n hn))
  | .fnil, t, fuel, cs, x, ok, h => by
    simp only [Ty.ok_fnil, Ty.ok_fcons] at ok
    split at ok
    case h_2 => cases ok
    rename_i fs hu
    simp only [Bool.and_eq_true, beq_iff_eq] at ok
    obtain ⟨xs, n, _, rfl, hl, hlen, hf⟩ := DataW.trod_struct hu h
    obtain ⟨y, h1, h2, h3⟩ := read_fields .fnil fs.toList 0 n cs xs ok.1 (by rw [hl, ok.2]; rfl) (by simpa using hlen) (fun i f hi => hf i f (by simpa using hi))
    refine ⟨y, by simpa using h1, by rw [hl, ok.2]; rfl, fun B A k => by have := h2 B A k; rw [k.agg]; omega, fun hw => h3 fun n hn => hw n ?_⟩
    unfold DataW.weights
    rw [hu]; exact hn
  | .fcons a r, t, fuel, cs, x, ok, h => by
    simp only [Ty.ok_fnil, Ty.ok_fcons] at ok
    split at ok
    case h_2 => cases ok
    rename_i fs hu
    simp only [Bool.and_eq_true, beq_iff_eq] at ok
    obtain ⟨xs, n, _, rfl, hl, hlen, hf⟩ := DataW.trod_struct hu h
    obtain ⟨y, h1, h2, h3⟩ := read_fields (.fcons a r) fs.toList 0 n cs xs ok.1 (by rw [hl, ok.2, Nat.zero_add]; rfl) (by simpa using hlen) (fun i f hi => hf i f (by simpa using hi))
    refine ⟨y, by simpa using h1, by rw [hl, ok.2]; rfl, fun B A k => by have := h2 B A k; rw [k.agg]; omega, fun hw => h3 fun n hn => hw n ?_⟩
    unfold DataW.weights
    rw [hu]; exact hn
termination_by T => (SizeOf.sizeOf T, 1)
theorem read_fields : ∀ (T : Ty) (fs : List Field) (o n : Nat) (cs : List Value) (xs : List (DataW H × List MemPlace)), Ty.okF P T fs o = true → cs.length = o + T.size → xs.length = fs.length →
    (∀ (i : Nat) f, fs[i]? = some f → DataW.trod enc P W base (fun _ => true) true n f.type ((cs.drop f.offset).take (P.cellsOf f.type)) = xs[i]?) →
    ∃ y : T.den, T.R (h0 W) ((cs.drop o).map (upc W.heap.size)) y ∧ (∀ B A, BulkOk B A → T.bulk y ≤ A (xs.map (·.1))) ∧ ((∀ n ∈ DataW.weightsEach P (fs.map (·.type)) (xs.map (·.1)), n ≤ reachBytes) → T.fits y)
  | .fnil, fs, o, n, cs, xs, ok, hl, hx, hf => by
    refine ⟨(), ?_, fun B A k => Nat.zero_le _, fun _ => trivial⟩
    show List.map _ (List.drop o cs) = []
    rw [List.drop_eq_nil_of_le (by simp only [hl, Ty.size]; omega)]
    rfl
  | .fcons a r, fs, o, n, cs, xs, ok, hl, hx, hf => by
    match fs, xs, hx with
    | [], _, _ => simp [Ty.okF_nil] at ok
    | f :: fs, x :: xs, hx =>
      simp only [Ty.okF_cons, Bool.and_eq_true, beq_iff_eq] at ok
      obtain ⟨⟨⟨o1, o2⟩, o3⟩, o4⟩ := ok
      have hl : cs.length = o + (a.size + r.size) := hl
      have h1 := hf 0 f rfl
      rw [o1, o2] at h1
      obtain ⟨y, hy1, hy2, hy3, hy4⟩ := read_any a f.type n _ x o3 (by simpa using h1)
      obtain ⟨z, hz1, hz2, hz3⟩ := read_fields r fs (o + a.size) n cs xs o4 (by omega) (by simpa using hx) (fun i f hi => by simpa using hf (i + 1) f (by simpa using hi))
      refine ⟨(y, z), ⟨_, _, ?_, ?_, hy1, hz1⟩, fun B A k => ?_, fun hw => ⟨hy4 fun n hn => hw n ?_, hz3 fun n hn => hw n ?_⟩⟩
      · rw [← List.map_append, ← List.drop_drop, List.take_append_drop]
      · rw [List.length_map]; exact hy2
      · have h1 := hy3 B A k
        have h2 := hz2 B A k
        simp only [List.map_cons, k.acons]
        show a.bulk y + r.bulk z ≤ _
        omega
      · simp only [List.map_cons, DataW.weightsEach]
        exact List.mem_append_left _ hn
      · simp only [List.map_cons, DataW.weightsEach]
        exact List.mem_append_right _ hn
  | .i k, fs, o, n, cs, xs, ok, _, _, _ => by simp [Ty.okF_i, Ty.okF_b, Ty.okF_bs, Ty.okF_sl] at ok
  | .b, fs, o, n, cs, xs, ok, _, _, _ => by simp [Ty.okF_i, Ty.okF_b, Ty.okF_bs, Ty.okF_sl] at ok
  | .bs, fs, o, n, cs, xs, ok, _, _, _ => by simp [Ty.okF_i, Ty.okF_b, Ty.okF_bs, Ty.okF_sl] at ok
  | .sl a, fs, o, n, cs, xs, ok, _, _, _ => by simp [Ty.okF_i, Ty.okF_b, Ty.okF_bs, Ty.okF_sl] at ok
termination_by T => (SizeOf.sizeOf T, 0)
end

/-- An argument. -/
theorem read_arg (T : Ty) {t : TypeId} {v : Value} {d : DataW H} {ps : List MemPlace} {r : Reach} {b0 : Nat} (ok : T.ok P t = true) (h : DataW.Trod enc P W base (fun _ => true) true t v d ps) (hok : Value.okWide P W r b0 t v) :
    ∃ y : T.den, T.R (h0 W) (vcells (up W.heap.size v)) y ∧ (∀ B A, BulkOk B A → T.bulk y ≤ B d) ∧ ((∀ n ∈ d.weights P t, n ≤ reachBytes) → T.fits y) := by
  obtain ⟨fuel, hf⟩ := h
  obtain ⟨y, h1, h2, h3, h4⟩ := read_any T t fuel _ _ ok hf
  refine ⟨y, ?_, h3, h4⟩
  have : vcells (up W.heap.size v) = v.cells.toList.map (upc W.heap.size) := by
    cases v <;> try rfl
    all_goals simp only [up, Value.cells, List.map]
    all_goals unfold upc
    all_goals (try rfl)
    all_goals (repeat' split) <;> rfl
  rw [this]; exact h1
end
end Go.Gh
