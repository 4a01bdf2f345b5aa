/- A framework of this claim's proof, part 25. Arguments, as laws take them. No statement of the claim stands here. -/
import Derived.Test.YtlobmpkfdnifpaaGh24
namespace Go.Gh
open Go Go.RowKit Go.ChangeShapes Go.WideShapes Go.ChangeAt
set_option linter.unusedVariables false
set_option linter.unusedSimpArgs false

section
variable {H : Type} {enc : TypeId × Value → H} {P : Program} {W : World} {base b0 : Nat} {t : TypeId} {v : Value} {d : DataW H} {ps : List MemPlace} {r : Reach}

theorem up_slice_cells (N : Nat) (a : Option Addr) (n c : Nat) : vcells (up N (.slice a n c)) = [up N (.slice a n c)] := by
  simp only [up]
  unfold upc
  repeat' split
  all_goals rfl

theorem Odd.or {a : Option Addr} {n c : Nat} (o : Odd (.slice a n c)) : a.isNone = true ∨ c % 2 = 1 := by
  rcases o with ⟨c', h⟩ | ⟨ad, n', c', h, h2⟩
  · cases h; exact .inl rfl
  · cases h; exact .inr h2

/-- A slice of bytes that came in. -/
theorem arg_bs (ok : Ty.ok P .bs t = true) (h : DataW.Trod enc P W base (fun _ => true) true t v d ps) (hok : Value.okWide P W r b0 t v) :
    ∃ (l : List UInt8) (a : Option Addr) (c : Nat), up W.heap.size v = .slice a l.length c ∧ RB (h0 W) (.slice a l.length c) l ∧ Odd (.slice a l.length c) ∧ (∀ B A, BulkOk B A → l.length + 1 ≤ B d) ∧ ((∀ n ∈ d.weights P t, n ≤ reachBytes) → l.length ≤ 140737488351232) := by
  obtain ⟨l, ⟨u, h1, h2, h3⟩, h4, h5⟩ := read_arg .bs ok h hok
  simp only [Ty.ok_bs, Ty.ok_sl, Bool.and_eq_true] at ok
  have ok1 := ok.1
  split at ok1
  case h_2 => cases ok1
  rename_i e hu
  obtain ⟨a', n', c', rfl⟩ := okWide_slice hu hok
  rw [up_slice_cells] at h1
  have e1 : up W.heap.size (.slice a' n' c') = u := by simpa using h1
  obtain ⟨a, c, rfl, _⟩ := h2.form
  exact ⟨l, a, c, e1, h2, h3, h4, h5⟩

/-- A slice that came in. -/
theorem arg_sl (T : Ty) (ok : Ty.ok P (.sl T) t = true) (h : DataW.Trod enc P W base (fun _ => true) true t v d ps) (hok : Value.okWide P W r b0 t v) :
    ∃ (l : List T.den) (a : Option Addr) (c : Nat), up W.heap.size v = .slice a l.length c ∧ RL T.size T.R (h0 W) (.slice a l.length c) l ∧ Odd (.slice a l.length c) ∧ (∀ B A, BulkOk B A → (l.map T.bulk).sum + 1 ≤ B d) ∧ ((∀ n ∈ d.weights P t, n ≤ reachBytes) → Ty.fits (.sl T) l) := by
  obtain ⟨l, ⟨u, h1, h2, h3⟩, h4, h5⟩ := read_arg (.sl T) ok h hok
  simp only [Ty.ok_bs, Ty.ok_sl, Bool.and_eq_true] at ok
  have ok1 := ok.1
  split at ok1
  case h_2 => cases ok1
  rename_i e hu
  obtain ⟨a', n', c', rfl⟩ := okWide_slice hu hok
  rw [up_slice_cells] at h1
  have e1 : up W.heap.size (.slice a' n' c') = u := by simpa using h1
  obtain ⟨a, c, rfl, _⟩ := h2.form
  exact ⟨l, a, c, e1, h2, h3, h4, h5⟩

/-- A struct that came in. -/
theorem arg_st (T : Ty) {fs : Array Field} (hu : P.underlying t = some (.struct fs)) (ok : T.ok P t = true) (h : DataW.Trod enc P W base (fun _ => true) true t v d ps) (hok : Value.okWide P W r b0 t v) :
    ∃ (y : T.den) (cs : List Value), up W.heap.size v = .agg cs.toArray ∧ T.R (h0 W) cs y ∧ (∀ B A, BulkOk B A → T.bulk y ≤ B d) ∧ ((∀ n ∈ d.weights P t, n ≤ reachBytes) → T.fits y) := by
  obtain ⟨y, h1, h4, h5⟩ := read_arg T ok h hok
  have : ∃ c : Array Value, v = .agg c := by
    simp only [Value.okWide, hu] at hok
    obtain ⟨cs, h, _⟩ := hok
    exact ⟨cs, h⟩
  obtain ⟨c, rfl⟩ := this
  exact ⟨y, _, rfl, by simpa [vcells, up] using h1, h4, h5⟩
end
theorem RL.map {α β : Type} {es : Nat} {R : GH → List Value → α → Prop} {R' : GH → List Value → β → Prop} {h : GH} {v : Value} {l : List α} (r : RL es R h v l) (f : α → β) (hf : ∀ cs x, R h cs x → R' h cs (f x)) : RL es R' h v (l.map f) := by
  rcases r with ⟨c, h1, rfl⟩ | ⟨ad, c, cs, h1, h2, h3, h4, h5⟩
  · exact .inl ⟨c, h1, rfl⟩
  · refine .inr ⟨ad, c, cs, by simpa using h1, by simpa using h2, by simpa using h3, fun i x hx => ?_, by simpa using h5⟩
    rw [List.getElem?_map, Option.map_eq_some_iff] at hx
    obtain ⟨y, hy, rfl⟩ := hx
    exact hf _ _ (h4 i y hy)
theorem bits_u64 {a b : Nat} (ha : a < 18446744073709551616) (hb : b < 18446744073709551616) : bits .and .u64 (a : Int) (b : Int) = ((a &&& b : Nat) : Int) ∧ bits .or .u64 (a : Int) (b : Int) = ((a ||| b : Nat) : Int) ∧ bits .xor .u64 (a : Int) (b : Int) = ((a ^^^ b : Nat) : Int) := by
  have h1 : a &&& b < 2 ^ 64 := Nat.and_lt_two_pow _ (by omega)
  have h2 : a ||| b < 2 ^ 64 := Nat.or_lt_two_pow (by omega) (by omega)
  have h3 : a ^^^ b < 2 ^ 64 := Nat.xor_lt_two_pow (by omega) (by omega)
  have e1 : a % 18446744073709551616 = a := Nat.mod_eq_of_lt (by omega)
  have e2 : b % 18446744073709551616 = b := Nat.mod_eq_of_lt (by omega)
  have q1 : (BitVec.ofNat 64 a &&& BitVec.ofNat 64 b).toNat = a &&& b := by simp only [BitVec.toNat_and, BitVec.toNat_ofNat, Nat.reducePow, e1, e2]
  have q2 : (BitVec.ofNat 64 a ||| BitVec.ofNat 64 b).toNat = a ||| b := by simp only [BitVec.toNat_or, BitVec.toNat_ofNat, Nat.reducePow, e1, e2]
  have q3 : (BitVec.ofNat 64 a ^^^ BitVec.ofNat 64 b).toNat = a ^^^ b := by simp only [BitVec.toNat_xor, BitVec.toNat_ofNat, Nat.reducePow, e1, e2]
  simp only [bits, IntKind.bits, BitVec.ofInt_natCast]
  refine ⟨?_, ?_, ?_⟩
  · show IntKind.wrap .u64 ((BitVec.ofNat 64 a &&& BitVec.ofNat 64 b).toNat : Int) = _
    rw [q1]; apply wrapu64 <;> omega
  · show IntKind.wrap .u64 ((BitVec.ofNat 64 a ||| BitVec.ofNat 64 b).toNat : Int) = _
    rw [q2]; apply wrapu64 <;> omega
  · show IntKind.wrap .u64 ((BitVec.ofNat 64 a ^^^ BitVec.ofNat 64 b).toNat : Int) = _
    rw [q3]; apply wrapu64 <;> omega
end Go.Gh
