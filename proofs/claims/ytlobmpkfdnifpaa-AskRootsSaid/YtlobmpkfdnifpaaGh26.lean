/- A framework of this claim's proof, part 26. Arrays of one's own that grow, of any elements; structs of numbers. No statement of the claim stands here. -/
import Derived.Test.YtlobmpkfdnifpaaGh25
namespace Go.Gh
open Go Go.RowKit
set_option linter.unusedVariables false
set_option linter.unusedSimpArgs false

/-- A slice of one's own, of n elements of es cells each: new since h0, a whole block. -/
def OWNC (es : Nat) (h0 h : GH) (v : Value) (n : Nat) (cs : List Value) : Prop :=
  (v = .slice none 0 0 ∧ n = 0 ∧ cs = []) ∨ (∃ a, v = .slice (some a) 0 1 ∧ n = 0 ∧ cs = []) ∨
  ∃ k c, v = .slice (some ⟨k, 0, none⟩) n c ∧ c % 2 = 0 ∧ 2 * n ≤ c ∧ n ≠ 0 ∧ cs.length = n * es ∧ h k = some ⟨cs, es, true, true⟩ ∧ h0 k = none

theorem OWNC.nil (es : Nat) (h0 h : GH) : OWNC es h0 h (.slice none 0 0) 0 [] := .inl ⟨rfl, rfl, rfl⟩
theorem OWNC.zero (es : Nat) (h0 h : GH) (a : Addr) : OWNC es h0 h (.slice (some a) 0 1) 0 [] := .inr (.inl ⟨a, rfl, rfl, rfl⟩)
theorem OWNC.form {es : Nat} {h0 h : GH} {v : Value} {n : Nat} {cs : List Value} (o : OWNC es h0 h v n cs) : ∃ a c, v = .slice a n c := by
  rcases o with ⟨rfl, rfl, _⟩ | ⟨a, rfl, rfl, _⟩ | ⟨k, c, rfl, _⟩
  · exact ⟨_, _, rfl⟩
  · exact ⟨_, _, rfl⟩
  · exact ⟨_, _, rfl⟩
theorem OWNC.len {es : Nat} {h0 h : GH} {v : Value} {n : Nat} {cs : List Value} (o : OWNC es h0 h v n cs) : cs.length = n * es := by
  rcases o with ⟨_, rfl, rfl⟩ | ⟨a, _, rfl, rfl⟩ | ⟨k, c, _, _, _, _, h, _⟩
  · simp
  · simp
  · exact h
theorem OWNC.weak {es : Nat} {a b h : GH} {v : Value} {n : Nat} {cs : List Value} (s : HS a b) (o : OWNC es b h v n cs) : OWNC es a h v n cs := by
  rcases o with o | o | ⟨k, c, h1, h2, h3, h4, h5, h6, h7⟩
  · exact .inl o
  · exact .inr (.inl o)
  · exact .inr (.inr ⟨k, c, h1, h2, h3, h4, h5, h6, s.none_of h7⟩)
theorem OWNC.hs {es : Nat} {h0 h h' : GH} {v : Value} {n : Nat} {cs : List Value} (o : OWNC es h0 h v n cs) (s : HS h h') : OWNC es h0 h' v n cs := by
  rcases o with o | o | ⟨k, c, h1, h2, h3, h4, h5, h6, h7⟩
  · exact .inl o
  · exact .inr (.inl o)
  · exact .inr (.inr ⟨k, c, h1, h2, h3, h4, h5, s _ _ h6, h7⟩)
/-- A block that there was is written; what is new since stays. -/
theorem OWNC.hxo {es : Nat} {h0 h h' : GH} {v : Value} {n : Nat} {cs : List Value} (o : OWNC es h0 h v n cs) {g : Nat} {B : GB} (hg : h0 g = some B) (x : HX g h h') : OWNC es h0 h' v n cs := by
  rcases o with o | o | ⟨k, c, h1, h2, h3, h4, h5, h6, h7⟩
  · exact .inl o
  · exact .inr (.inl o)
  · exact .inr (.inr ⟨k, c, h1, h2, h3, h4, h5, x _ _ (fun e => by rw [e, hg] at h7; cases h7) h6, h7⟩)
/-- A variable is written; arrays stay. -/
theorem OWNC.hx {es : Nat} {h0 h h' : GH} {v : Value} {n : Nat} {cs : List Value} (o : OWNC es h0 h v n cs) {g : Nat} {B : GB} (hg : h g = some B) (he : B.es ≠ es) (x : HX g h h') : OWNC es h0 h' v n cs := by
  rcases o with o | o | ⟨k, c, h1, h2, h3, h4, h5, h6, h7⟩
  · exact .inl o
  · exact .inr (.inl o)
  · exact .inr (.inr ⟨k, c, h1, h2, h3, h4, h5, x _ _ (fun e => by rw [e, hg] at h6; cases h6; exact he rfl) h6, h7⟩)
/-- Its cells. -/
theorem OWNC.read {es : Nat} {h0 h : GH} {a : Option Addr} {m c n : Nat} {cs : List Value} (o : OWNC es h0 h (.slice a m c) n cs) :
    m = n ∧ ((a = none ∧ n = 0 ∧ cs = []) ∨ ∃ ad, a = some ad ∧ gread h ad (n * es) = some cs ∧ 2 * n ≤ c ∧ NV h ad.block (n * es)) := by
  rcases o with ⟨e, rfl, rfl⟩ | ⟨a, e, rfl, rfl⟩ | ⟨k, c, e, h1, h2, h3, h4, h5, h6⟩
  · cases e; exact ⟨rfl, .inl ⟨rfl, rfl, rfl⟩⟩
  · cases e; exact ⟨rfl, .inr ⟨_, rfl, by simp [gread], by omega, .inl (by simp)⟩⟩
  · cases e
    refine ⟨rfl, .inr ⟨_, rfl, gread_lit h5 (by rw [List.drop_zero]; exact List.take_of_length_le (by show cs.length ≤ _; omega)) h4, h2, ?_⟩⟩
    by_cases he : es = 0
    · exact .inl (by subst he; simp)
    · exact .inr ⟨_, h5, .inl he⟩
/-- As a slice of told elements. -/
theorem OWNC.rl {α : Type} {es : Nat} {R : GH → List Value → α → Prop} {h0 h : GH} {v : Value} {l : List α} {cs : List Value} (o : OWNC es h0 h v l.length cs) (hR : ∀ (i : Nat) x, l[i]? = some x → R h ((cs.drop (i * es)).take es) x) : RL es R h v l := by
  obtain ⟨a, c, rfl⟩ := o.form
  obtain ⟨_, h1⟩ := o.read
  rcases h1 with ⟨rfl, h2, _⟩ | ⟨ad, rfl, h2, h3, h4⟩
  · have : l = [] := List.eq_nil_of_length_eq_zero h2
    subst this
    exact .inl ⟨c, rfl, rfl⟩
  · exact .inr ⟨ad, c, cs, rfl, h2, h3, hR, h4⟩

theorem append_ownc {P : Program} {t u e es by_ : Nat} {z : Value} {du : TypeDesc} {h0 h : GH} {s x : Value} {n m : Nat} {cs xs : List Value} {K : Value → GH → Prop} (hel : gel P t = some (e, es, by_, z)) (hu : P.underlying u = some du) (hni : notInt du = true)
    (hs0 : HS h0 h) (o : OWNC es h0 h s n cs) (hsrc : gSrc h es x = some (m, xs)) (hxl : xs.length = m * es) (hcell : xs.all isCell = true) (hsz : (n + m) * by_ ≤ 140737488355328) (hml : n + m ≤ maxLen)
    (k : ∀ v h', HS h0 h' → (∀ j B, h j = some B → (j = j → ∀ kb c, s = .slice (some ⟨kb, 0, none⟩) n c → n ≠ 0 → h kb = some ⟨cs, es, true, true⟩ → j ≠ kb) → h' j = some B) → OWNC es h0 h' v (n + m) (cs ++ xs) → K v h') : gAppendX P t u h s x K := by
  refine .inl ⟨du, e, es, by_, z, m, xs, hu, hni, hel, hsrc, e, es, by_, z, hel, hxl, hcell, ?_⟩
  rcases o with ⟨rfl, rfl, rfl⟩ | ⟨a, rfl, rfl, rfl⟩ | ⟨k0, c, rfl, h1, h2, h3, hcl, h4, h5⟩
  · simp only
    by_cases hm : m = 0
    · subst hm
      have : xs = [] := List.eq_nil_of_length_eq_zero (by simpa using hxl)
      subst this
      exact .inl ⟨rfl, k _ h hs0 (fun j B e _ => e) (.inl ⟨rfl, rfl, rfl⟩)⟩
    · refine .inr ⟨by omega, by omega, by simpa using hsz, fun k0 hk0 => ?_⟩
      have hS := HS.new hk0 ⟨xs, es, true, true⟩
      exact k _ _ (hs0.trans hS) (fun j B e _ => hS j B e) (.inr (.inr ⟨k0, 2 * m, by simp, by omega, by omega, by omega, by simpa using hxl, by rw [hset_same]; rfl, hs0.none_of hk0⟩))
  · simp only
    by_cases hm : m = 0
    · subst hm
      have : xs = [] := List.eq_nil_of_length_eq_zero (by simpa using hxl)
      subst this
      exact .inl ⟨rfl, k _ h hs0 (fun j B e _ => e) (.inr (.inl ⟨a, rfl, rfl, rfl⟩))⟩
    · refine .inr ⟨by omega, hml, hsz, .inl ⟨[], by simp [gread], by first | trivial | omega, by first | omega | (simp; omega), fun k0 hk0 => ?_⟩⟩
      have hS := HS.new hk0 ⟨[] ++ xs, es, true, true⟩
      exact k _ _ (hs0.trans hS) (fun j B e _ => hS j B e) (.inr (.inr ⟨k0, 2 * (0 + m), by simp, by omega, by omega, by omega, by simpa using hxl, by simp [hset_same], hs0.none_of hk0⟩))
  · simp only
    by_cases hm : m = 0
    · subst hm
      have : xs = [] := List.eq_nil_of_length_eq_zero (by simpa using hxl)
      subst this
      exact .inl ⟨rfl, k _ h hs0 (fun j B e _ => e) (.inr (.inr ⟨k0, c, by simp, h1, by omega, by omega, by simpa using hcl, by simpa using h4, h5⟩))⟩
    · refine .inr ⟨by omega, hml, hsz, .inr (.inr ⟨_, h4, by simp, h1, rfl, rfl, by simpa using hcl.symm, .inl fun k1 hk1 hne => ?_⟩)⟩
      refine k _ _ (fun j B hj => ?_) (fun j B hj hn => ?_) (.inr (.inr ⟨k1, 2 * (n + m), rfl, by omega, by omega, by omega, by rw [List.length_append, hcl, hxl, Nat.add_mul], by rw [hset_same]; simp, hs0.none_of hk1⟩))
      · have hj' := hs0 j B hj
        have : j ≠ k0 := fun e => by subst e; rw [h5] at hj; cases hj
        have h6 : j ≠ k1 := fun e => by subst e; rw [hk1] at hj'; cases hj'
        rw [hset_ne _ _ h6, hdel_ne _ this]; exact hj'
      · have : j ≠ k0 := hn rfl _ _ rfl h3 h4
        have h6 : j ≠ k1 := fun e => by subst e; rw [hk1] at hj; cases hj
        rw [hset_ne _ _ h6, hdel_ne _ this]; exact hj

/-- What stays behind such an append: what is of other elements. -/
theorem fr_es {h h' : GH} {s : Value} {n es : Nat} {cs : List Value} (fr : ∀ j B, h j = some B → (j = j → ∀ kb c, s = .slice (some ⟨kb, 0, none⟩) n c → n ≠ 0 → h kb = some ⟨cs, es, true, true⟩ → j ≠ kb) → h' j = some B) {j : Nat} {B : GB} (hj : h j = some B) (he : B.es ≠ es) : h' j = some B :=
  fr j B hj fun _ kb c _ _ hk e => by rw [e, hk] at hj; cases hj; exact he rfl
theorem fr_rb {h h' : GH} {s : Value} {n es : Nat} {cs : List Value} (fr : ∀ j B, h j = some B → (j = j → ∀ kb c, s = .slice (some ⟨kb, 0, none⟩) n c → n ≠ 0 → h kb = some ⟨cs, es, true, true⟩ → j ≠ kb) → h' j = some B) (hc : cs.all notU8 = true) {v : Value} {l : List UInt8} (r : RB h v l) : RB h' v l := by
  rcases r with r | ⟨ad, c, h1, h2, h3⟩
  · exact .inl r
  · refine .inr ⟨ad, c, h1, ?_, h3⟩
    by_cases h0 : l.length = 0
    · rw [h0] at h2 ⊢; simp only [gread, if_true] at h2 ⊢; exact h2
    · have h2' := h2
      unfold gread at h2
      rw [if_neg h0] at h2
      split at h2
      case h_2 => cases h2
      rename_i B hs hB
      have := fr _ B hB fun _ kb c _ _ hk e => by
        rw [e, hk] at hB; cases hB
        have hb : bv (l[0]'(by omega)) ∈ cs := gread_mem h2' h0 (by rw [e]; exact hk) _ (List.mem_map.2 ⟨_, List.getElem_mem _, rfl⟩)
        rw [List.all_eq_true] at hc
        have := hc _ hb
        simp [notU8, bv] at this
      unfold gread
      rw [if_neg h0, hs, this]
      exact h2

theorem lput_all : ∀ (l cs pre : List Value) , l.length = cs.length → lput (pre ++ cs) pre.length l = pre ++ l
  | [], cs, pre, h => by
    have : cs = [] := List.eq_nil_of_length_eq_zero h.symm
    subst this; simp [lput]
  | v :: l, [], pre, h => by simp at h
  | v :: l, c :: cs, pre, h => by
    have ih := lput_all l cs (pre ++ [v]) (by simpa using h)
    simp only [lput]
    have e : (pre ++ c :: cs).set pre.length v = (pre ++ [v]) ++ cs := by simp
    rw [e]
    simpa using ih
/-- One element in a new slice. -/
theorem bsn1_g {P : Program} {t e es by_ : Nat} {z : Value} {h : GH} {x : Value} {K : Value → GH → Prop} (hel : gel P t = some (e, es, by_, z)) (hz : clo z = true) (hl : (vcells x).length = es) (he : es ≤ 16777216) (h0 : es ≠ 0) (hc : (vcells x).all isCell = true)
    (g : ∀ k h', gSrc h' es (.slice (some ⟨k, 0, none⟩) 1 3) = some (1, vcells x) → HS h h' → (∀ j, j ≠ k → h' j = h j) → h k = none → K (.slice (some ⟨k, 0, none⟩) 1 3) h') : gBuildSlice P t h 1 [(0, x)] K := by
  refine bs_g (cs := vcells x) hel hz (by omega) (by decide) ?_ hc fun k h' m s f n => g k h' ?_ s f n
  · have hzl := zeros_length z (1 * es)
    have hp : (Shape.elems es).pl 0 = some (0, es) := by simp [Shape.pl]
    simp only [lfill, hp]
    have := lput_all (vcells x) (zeros z (1 * es)) [] (by rw [hzl, hl, Nat.one_mul])
    simp only [List.nil_append, List.length_nil] at this
    rw [this, hzl, Nat.one_mul]
    simp [hl, hc]
  · have := gread_lit m (o := 0) (n := 1 * es) (cs := vcells x) (by rw [List.drop_zero, Nat.one_mul, ← hl]; exact List.take_length) (by rw [hl, Nat.one_mul])
    simp only [gSrc, this]; rfl

theorem gIndexV_arr {P : Program} {t n e : Nat} {cs : Array Value} {i : Nat} (hu : P.underlying t = some (.array n e)) (he : gsz P e = some (false, 1)) (hi : i < n) : gIndexV P t (.agg cs) (i : Int) = cs[i]? := by
  simp only [gIndexV, hu, he]
  rw [if_pos (by omega)]
  simp [gPart, he]

/-- A struct of n numbers, whose values may be held against each other. -/
def eqInts (P : Program) (t : TypeId) (k : IntKind) (n : Nat) : Bool :=
  match P.underlying t with
  | some (.struct fs) => eqOk P t && fs.size == n && (List.range n).all fun i => match fs[i]? with
    | some f => f.offset == i && !(f.name == "_") && (match gsz P f.type with | some (b, _) => !b | none => false) && (match P.underlying f.type with | some (.int k') => decide (k' = k) | _ => false)
    | none => false
  | _ => false
theorem gEq_ints {P : Program} {t : TypeId} {k : IntKind} {n : Nat} (he : eqInts P t k n = true) (c : Bool) {xs : List Int} (hl : xs.length = n) : gEq P t c (.agg (xs.map (Value.int k)).toArray) (.agg (xs.map (Value.int k)).toArray) = some true := by
  unfold eqInts at he
  split at he
  case h_2 => cases he
  rename_i fs hu
  simp only [Bool.and_eq_true, beq_iff_eq, List.all_eq_true, List.mem_range] at he
  obtain ⟨⟨h1, h2⟩, h3⟩ := he
  simp only [gEq, hu, h1, if_true]
  have key : ∀ (l : List Field) (o : Nat), (∀ i f, l[i]? = some f → fs[o + i]? = some f) → gEqFs P (xs.map (Value.int k)).toArray (xs.map (Value.int k)).toArray l = some true := by
    intro l
    induction l with
    | nil => intro o _; rfl
    | cons f l ih =>
      intro o hf
      have hfo := hf 0 f rfl
      rw [Nat.add_zero] at hfo
      have hlt : o < n := by
        rw [← h2]
        exact (Array.getElem?_eq_some_iff.1 hfo).1
      have := h3 o hlt
      rw [hfo] at this
      simp only [Bool.and_eq_true, beq_iff_eq, Bool.not_eq_true', beq_eq_false_iff_ne] at this
      obtain ⟨⟨⟨e1, e2⟩, e3⟩, e4⟩ := this
      have hx : ∃ q, (xs.map (Value.int k)).toArray[f.offset]? = some (.int k q) := by
        rw [e1]
        exact ⟨xs[o]'(by omega), by simp [show o < xs.length by omega]⟩
      obtain ⟨q, hq⟩ := hx
      split at e3
      case h_2 => cases e3
      rename_i b sz hz
      obtain rfl : b = false := by simpa using e3
      split at e4
      case h_2 => cases e4
      rename_i k' hk
      obtain rfl : k' = k := by simpa using e4
      unfold gEqFs
      rw [if_neg e2, hz, hq]
      simp only [gEq0, hk]
      rw [ih (o + 1) (fun i f hi => by
        have := hf (i + 1) f (by simpa using hi)
        rwa [show o + (i + 1) = o + 1 + i by omega] at this)]
      simp
  exact key fs.toList 0 (fun i f hi => by simpa using hi)
end Go.Gh
