/- A framework of this claim's proof, part 21. Lifting what is known, and loops with fixed places. No statement of the claim stands here. -/
import Derived.Test.YtlobmpkfdnifpaaGh20
namespace Go.Gh
open Go Go.RowKit
set_option linter.unusedVariables false
set_option linter.unusedSimpArgs false

/-! ## Lifting -/
theorem HS.hs {a b c : GH} (x : HS a b) (s : HS b c) : HS a c := x.trans s
theorem _root_.Eq.hs {h h' : GH} {k : Nat} {B : GB} (x : h k = some B) (s : HS h h') : h' k = some B := s k B x
theorem BUF.hs {h h' : GH} {k n : Nat} {l : List UInt8} (b : BUF h k n l) (s : HS h h') : BUF h' k n l := ⟨s _ _ b.1, b.2⟩
theorem RB.up {h h' : GH} {v : Value} {l : List UInt8} (r : RB h v l) (x : HS h h') : RB h' v l := r.hs x
theorem RB.len_eq {h : GH} {a : Option Addr} {n c : Nat} {l : List UInt8} (r : RB h (.slice a n c) l) : n = l.length := by
  obtain ⟨a', c', h1, _⟩ := r.form
  cases h1; rfl

/-- A loop with places that stay (fix) and places that turn (V). -/
theorem gw_loop2 {P : Program} {N nt : Nat} {Q : GQ} {e : Env} {h : GH} {α : Type} {c : Code} (fix : List Nat) (V : α → Env) (I : Nat → α → GH → Prop) (n0 : Nat) (a0 : α)
    (hV : ∀ p ∈ V a0, lk e p.1 = p.2) (h0 : I n0 a0 h)
    (round : ∀ n a h', I n a h' → GW P N nt c (thenQ (fun e' h'' => ∃ m a', m < n ∧ (∀ p ∈ V a' ++ fix.map (fun t => (t, lk e t)), lk e' p.1 = p.2) ∧ I m a' h'') Q) (V a ++ fix.map fun t => (t, lk e t)) h') :
    GW P N nt (.loop c) Q e h := by
  refine gw_loop (fun n e' h' => ∃ a, e' = V a ++ fix.map (fun t => (t, lk e t)) ∧ I n a h') n0 (e0 := V a0 ++ fix.map (fun t => (t, lk e t))) (sub_of fun p hp => ?_) ⟨a0, rfl, h0⟩ ?_
  · rcases List.mem_append.1 hp with hp | hp
    · exact hV p hp
    · obtain ⟨t, _, rfl⟩ := List.mem_map.1 hp
      rfl
  · rintro n e' h' ⟨a, rfl, hI⟩
    refine (round n a h' hI).mono fun x e2 h2 hq => ?_
    cases x with
    | normal =>
      obtain ⟨m, a', h1, h2, h3⟩ := hq
      exact ⟨m, _, h1, sub_of h2, a', rfl, h3⟩
    | exit i => exact hq
    | ret => exact hq

/-! ## Slices of any elements -/

/-- Not a variable that is ours to write. -/
def NV (h : GH) (k n : Nat) : Prop := n = 0 ∨ ∃ B, h k = some B ∧ (B.es ≠ 0 ∨ B.wr = false)
theorem NV.hc {h h' : GH} (x : HC h h') {k n : Nat} (v : NV h k n) : NV h' k n := by
  rcases v with v | ⟨B, h1, h2⟩
  · exact .inl v
  · obtain ⟨B', h3, _, h4, h5⟩ := x k B h1
    refine .inr ⟨B', h3, ?_⟩
    rcases h2 with h2 | h2
    · exact .inl (by rw [h4]; exact h2)
    · right
      cases hw : B'.wr
      · rfl
      · rw [h5 hw] at h2; cases h2
/-- A slice whose elements, of es cells each, read as these. -/
def RL {α : Type} (es : Nat) (R : GH → List Value → α → Prop) (h : GH) (v : Value) (l : List α) : Prop :=
  (∃ c, v = .slice none 0 c ∧ l = []) ∨ ∃ ad c cs, v = .slice (some ad) l.length c ∧ gread h ad (l.length * es) = some cs ∧ 2 * l.length ≤ c ∧ (∀ i x, l[i]? = some x → R h ((cs.drop (i * es)).take es) x) ∧ NV h ad.block (l.length * es)

theorem RL.mono {α : Type} {es : Nat} {R R' : GH → List Value → α → Prop} {h : GH} {v : Value} {l : List α} (r : RL es R h v l) (hR : ∀ cs x, R h cs x → R' h cs x) : RL es R' h v l := by
  rcases r with r | ⟨ad, c, cs, h1, h2, h3, h4, h5⟩
  · exact .inl r
  · exact .inr ⟨ad, c, cs, h1, h2, h3, fun i x hx => hR _ _ (h4 i x hx), h5⟩
theorem RL.hcR {α : Type} {es : Nat} {R : GH → List Value → α → Prop} {h h' : GH} {v : Value} {l : List α} (r : RL es R h v l) (x : HC h h') (hR : ∀ cs x, R h cs x → R h' cs x) : RL es R h' v l := by
  rcases r with r | ⟨ad, c, cs, h1, h2, h3, h4, h5⟩
  · exact .inl r
  · exact .inr ⟨ad, c, cs, h1, gread_hc x h2, h3, fun i x hx => hR _ _ (h4 i x hx), h5.hc x⟩
theorem RL.form {α : Type} {es : Nat} {R : GH → List Value → α → Prop} {h : GH} {v : Value} {l : List α} (r : RL es R h v l) : ∃ a c, v = .slice a l.length c ∧ (a = none → l = []) := by
  rcases r with ⟨c, rfl, rfl⟩ | ⟨ad, c, cs, rfl, h2, h3, _, _⟩
  · exact ⟨none, c, rfl, fun _ => rfl⟩
  · exact ⟨some ad, c, rfl, fun h => by cases h⟩
theorem RL.nil {α : Type} {es : Nat} {R : GH → List Value → α → Prop} (h : GH) : RL es R h (.slice none 0 0) [] := .inl ⟨0, rfl, rfl⟩
/-- An element's place, and what lies there. -/
theorem RL.at {α : Type} {P : Program} {es : Nat} {R : GH → List Value → α → Prop} {h : GH} {v : Value} {l : List α} (r : RL es R h v l) {t e : TypeId} {b : Bool} (ht : P.underlying t = some (.slice e)) (he : gsz P e = some (b, es)) {i : Nat} {x : α} (hx : l[i]? = some x) :
    ∃ ad cs, gIndex P t v i = some (.pointer (some ad)) ∧ gread h ad es = some cs ∧ R h cs x := by
  have hlt := (List.getElem?_eq_some_iff.1 hx).1
  rcases r with ⟨c, rfl, rfl⟩ | ⟨ad, c, cs, rfl, h2, h3, h4, _⟩
  · simp at hlt
  · refine ⟨⟨ad.block, ad.off + i * es, none⟩, (cs.drop (i * es)).take es, ?_, ?_, h4 i x hx⟩
    · simp only [gIndex, ht, he]
      rw [if_pos (by omega)]
      simp
    · have hle : i * es + es ≤ l.length * es := by
        have := Nat.mul_le_mul_right es (show i + 1 ≤ l.length by omega)
        rw [Nat.add_mul, Nat.one_mul] at this; exact this
      by_cases h0 : es = 0
      · subst h0; simp [gread]
      have hs := gread_sub h2 (i * es) es hle
      have hsp : ad.spot = none := by
        unfold gread at h2
        rw [if_neg (by omega)] at h2
        split at h2
        · assumption
        · cases h2
      rw [hsp] at hs
      exact hs

/-! ## Writes to one variable -/

/-- All but block k is as it was. -/
def HX (k : Nat) (h h' : GH) : Prop := ∀ j B, j ≠ k → h j = some B → h' j = some B
theorem HX.refl (k : Nat) (h : GH) : HX k h h := fun _ _ _ e => e
theorem HX.trans {k : Nat} {a b c : GH} (x : HX k a b) (y : HX k b c) : HX k a c := fun j B n e => y j B n (x j B n e)
theorem HS.hx {a b : GH} (s : HS a b) (k : Nat) : HX k a b := fun j B _ e => s j B e
theorem HX.hs {k : Nat} {a b c : GH} (x : HX k a b) (s : HS b c) : HX k a c := x.trans (s.hx k)
/-- A variable that is new since is written: all that was is as it was. -/
theorem HX.new {k : Nat} {h a b : GH} (x : HX k a b) (s : HS h a) (n : h k = none) : HS h b := fun j B e => x j B (fun e' => by rw [e', n] at e; cases e) (s j B e)
def notU8 : Value → Bool | .int .u8 _ => false | _ => true
theorem gread_hx {k : Nat} {h h' : GH} (x : HX k h h') {ad : Addr} {n : Nat} {cs : List Value} (hne : n = 0 ∨ ad.block ≠ k) (e : gread h ad n = some cs) : gread h' ad n = some cs := by
  unfold gread at e ⊢
  split at e
  · rename_i h0; rw [if_pos h0]; exact e
  · rename_i h0
    rw [if_neg h0]
    split at e
    case h_2 => cases e
    rename_i B hs hB
    have := x _ _ (hne.resolve_left h0) hB
    rw [hs, this]
    exact e
theorem gread_mem {h : GH} {ad : Addr} {n : Nat} {cs : List Value} {B : GB} (e : gread h ad n = some cs) (hn : n ≠ 0) (hB : h ad.block = some B) : ∀ v ∈ cs, v ∈ B.cells := by
  unfold gread at e
  rw [if_neg hn, hB] at e
  split at e
  case h_2 => cases e
  rename_i B' hs hB'
  cases hB'
  split at e
  case isFalse => cases e
  cases e
  intro v hv
  exact List.mem_of_mem_drop (List.mem_of_mem_take hv)
theorem RB.hx {k : Nat} {h h' : GH} {v : Value} {l : List UInt8} (r : RB h v l) {B : GB} (m : h k = some B) (hB : B.cells.all notU8 = true) (x : HX k h h') : RB h' v l := by
  rcases r with r | ⟨ad, c, h1, h2, h3⟩
  · exact .inl r
  · refine .inr ⟨ad, c, h1, gread_hx x ?_ h2, h3⟩
    by_cases h0 : l.length = 0
    · exact .inl h0
    · right
      intro e
      rw [← e] at m
      have hb : bv (l[0]'(by omega)) ∈ B.cells := gread_mem h2 h0 m _ (List.mem_map.2 ⟨_, List.getElem_mem _, rfl⟩)
      rw [List.all_eq_true] at hB
      have := hB _ hb
      simp [notU8, bv] at this
theorem RL.hxR {α : Type} {es : Nat} {R : GH → List Value → α → Prop} {k : Nat} {h h' : GH} {v : Value} {l : List α} (r : RL es R h v l) {B : GB} (m : h k = some B) (hB : B.es = 0 ∧ B.wr = true) (x : HX k h h') (hR : ∀ cs x, R h cs x → R h' cs x) : RL es R h' v l := by
  rcases r with r | ⟨ad, c, cs, h1, h2, h3, h4, h5⟩
  · exact .inl r
  · have hne : l.length * es = 0 ∨ ad.block ≠ k := by
      rcases h5 with h5 | ⟨B', h6, h7⟩
      · exact .inl h5
      · right
        rintro rfl
        rw [m] at h6; cases h6
        rcases h7 with h7 | h7
        · exact h7 hB.1
        · rw [hB.2] at h7; cases h7
    refine .inr ⟨ad, c, cs, h1, gread_hx x hne h2, h3, fun i x hx => hR _ _ (h4 i x hx), ?_⟩
    rcases h5 with h5 | ⟨B', h6, h7⟩
    · exact .inl h5
    · rcases hne with hne | hne
      · exact .inl hne
      · exact .inr ⟨B', x _ _ hne h6, h7⟩

end Go.Gh
