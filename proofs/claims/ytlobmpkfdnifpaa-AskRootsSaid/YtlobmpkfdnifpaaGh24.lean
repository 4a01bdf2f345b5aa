/- A framework of this claim's proof, part 24. Buffers that are made, filled and written. No statement of the claim stands here. -/
import Derived.Test.YtlobmpkfdnifpaaGh23
namespace Go.Gh
open Go Go.RowKit
set_option linter.unusedVariables false
set_option linter.unusedSimpArgs false

/-- make of so many elements. -/
theorem mk_g {P : Program} {t e es by_ : Nat} {z : Value} {h : GH} {n : Nat} {K : Value → GH → Prop} (hel : gel P t = some (e, es, by_, z)) (hz : clo z = true) (hn : by_ * n ≤ 281474976710656) (hn2 : n ≤ 9223372036854775807)
    (g : ∀ k h', h' k = some ⟨zeros z (n * es), es, true, false⟩ → HS h h' → (∀ j, j ≠ k → h' j = h j) → h k = none → K (.slice (some ⟨k, 0, none⟩) n (2 * n + 1)) h') : gMake P t h (n : Int) (n : Int) K := by
  refine ⟨e, es, by_, z, hel, hz, by omega, by omega, ?_, by omega, fun k hk => ?_⟩
  · rw [← Int.natCast_mul]; omega
  · rw [Int.toNat_natCast]
    exact g k _ (hset_same _ _ _) (HS.new hk _) (fun j hj => hset_ne _ _ hj) hk
theorem mk_bytes {P : Program} {t e : Nat} {h : GH} {n : Nat} {K : Value → GH → Prop} (hel : gel P t = some (e, 1, 1, .int .u8 0)) (hn : n ≤ 281474976710656)
    (g : ∀ k h', h' k = some ⟨(List.replicate n 0).map bv, 1, true, false⟩ → HS h h' → (∀ j, j ≠ k → h' j = h j) → h k = none → K (.slice (some ⟨k, 0, none⟩) n (2 * n + 1)) h') : gMake P t h (n : Int) (n : Int) K := by
  refine mk_g hel rfl (by omega) (by omega) fun k h' m s f hk => g k h' ?_ s f hk
  rw [m, zeros_one _ rfl, Nat.mul_one, List.map_replicate]; rfl

theorem RB.first {h : GH} {v : Value} {l : List UInt8} (r : RB h v l) {n : Nat} (hn : n ≤ l.length) : gFirst h 1 n v = some ((l.take n).map bv) ∧ gLenOf v = some l.length := by
  rcases r with ⟨c, rfl, rfl⟩ | ⟨ad, c, rfl, h2, h3⟩
  · simp at hn
    subst hn
    exact ⟨by simp [gFirst], rfl⟩
  · refine ⟨?_, rfl⟩
    have := gread_sub h2 0 n (by omega)
    simpa [gFirst, List.map_take] using this

/-- copy into a buffer of one's own. -/
theorem copy_g {P : Program} {t e by_ : Nat} {z : Value} {h : GH} {k m c : Nat} {tl : Bool} {b l : List UInt8} {x : Value} {K : Value → GH → Prop} (hel : gel P t = some (e, 1, by_, z)) (hk : h k = some ⟨b.map bv, 1, true, tl⟩) (hm : m = b.length) (r : RB h x l)
    (g : ∀ h', h' k = some ⟨(l.take m ++ b.drop l.length).map bv, 1, true, tl⟩ → (∀ j, j ≠ k → h' j = h j) → K (goInt ((min l.length m : Nat) : Int)) h') : gCopyX P t h (.slice (some ⟨k, 0, none⟩) m c) x K := by
  subst hm
  obtain ⟨h1, h2⟩ := r.first (n := min l.length b.length) (by omega)
  by_cases h0 : min l.length b.length = 0
  · refine ⟨0, h, ?_, ?_⟩
    · simp only [gCopy, hel, h2, h1]
      rw [if_pos (bv_cells _)]
      simp [h0, gwrite]
    · have := g h (by
        rw [hk]
        have : l.take b.length ++ b.drop l.length = b := by
          rcases Nat.eq_zero_or_pos l.length with hl | hl
          · rw [List.eq_nil_of_length_eq_zero hl]; simp
          · have hb : b = [] := List.eq_nil_of_length_eq_zero (by omega)
            subst hb; simp
        rw [this]) (fun _ _ => rfl)
      rwa [h0] at this
  · refine ⟨min l.length b.length, hset h k ⟨(l.take b.length ++ b.drop l.length).map bv, 1, true, tl⟩, ?_, g _ (hset_same _ _ _) (fun j hj => hset_ne _ _ hj)⟩
    have e1 : (l.take (min l.length b.length)).map bv = (l.take b.length).map bv := by
      congr 1
      rw [List.take_eq_take_iff]; omega
    simp only [gCopy, hel, h2, h1]
    rw [if_pos (bv_cells _), e1]
    have hl : ((l.take b.length).map bv).length = min l.length b.length := by simp; omega
    simp only [gwrite, hk, hl]
    rw [if_neg h0, if_pos ⟨by trivial, by simp; omega⟩]
    simp only [Option.map_some, splice, List.take_zero, List.nil_append, Nat.zero_add, hl]
    congr 2
    congr 1
    rw [List.map_append, List.map_drop, List.map_take]
    congr 1
    rcases Nat.le_total l.length b.length with hh | hh
    · rw [Nat.min_eq_left hh]
    · rw [Nat.min_eq_right hh, List.drop_eq_nil_of_le (by simp), List.drop_eq_nil_of_le (by simp; omega)]

/-- One byte in a new slice. -/
theorem bs1_g {P : Program} {t e : Nat} {h : GH} {x : UInt8} {K : Value → GH → Prop} (hel : gel P t = some (e, 1, 1, .int .u8 0))
    (g : ∀ k h', RB h' (.slice (some ⟨k, 0, none⟩) 1 3) [x] → HS h h' → (∀ j, j ≠ k → h' j = h j) → h k = none → K (.slice (some ⟨k, 0, none⟩) 1 3) h') : gBuildSlice P t h 1 [(0, .int .u8 (x.toNat : Int))] K :=
  bs_g (cs := [x].map bv) hel rfl (by decide) (by decide) (by rw [zeros_one _ rfl]; rfl) rfl fun k h' m s f n => g k h' (rb_block m rfl) s f n
theorem gEq_bool {P : Program} {t : TypeId} (hu : P.underlying t = some .bool) (c a b : Bool) : gEq P t c (.bool a) (.bool b) = some (a == b) := by simp [gEq, hu]
theorem gEq_pp {P : Program} {t e : TypeId} (hu : P.underlying t = some (.pointer e)) (c : Bool) (a : Addr) : gEq P t c (.pointer (some a)) (.pointer none) = some false := by simp [gEq, hu]
theorem gEq_pn {P : Program} {t e : TypeId} (hu : P.underlying t = some (.pointer e)) (c : Bool) (a : Option Addr) : gEq P t c (.pointer none) (.pointer a) = some a.isNone := by simp [gEq, hu]
theorem gEq_ns {P : Program} {t e : TypeId} (hu : P.underlying t = some (.slice e)) (cst : Bool) (a : Option Addr) (n c n' c' : Nat) : gEq P t cst (.slice none n c) (.slice a n' c') = some a.isNone := by simp [gEq, hu]

/-- A number, cut down as a word without sign. -/
theorem umod (i m : Int) (h0 : 0 < m) (hm : m ≤ 9223372036854775807) : ∃ n : Nat, (n : Int) < m ∧ IntKind.i64.wrap ((IntKind.u64.wrap i).tmod m) = n := by
  have h1 : 0 ≤ IntKind.u64.wrap i := by simp [IntKind.wrap, IntKind.signed, IntKind.bits]; omega
  have h2 : (IntKind.u64.wrap i).tmod m = (IntKind.u64.wrap i) % m := Int.tmod_eq_emod_of_nonneg h1
  have h3 : 0 ≤ (IntKind.u64.wrap i) % m := Int.emod_nonneg _ (by omega)
  have h4 : (IntKind.u64.wrap i) % m < m := Int.emod_lt_of_pos _ h0
  refine ⟨((IntKind.u64.wrap i) % m).toNat, by omega, ?_⟩
  rw [h2, wrap64 (by omega) (by omega)]
  omega

theorem wts_cons {H : Type} {P : Program} {t : TypeId} {ts : List TypeId} {d : DataW H} {ds : List (DataW H)} (h : (DataW.weightsEach P (t :: ts) (d :: ds)).all (· ≤ reachBytes) = true) :
    (∀ n ∈ d.weights P t, n ≤ reachBytes) ∧ (DataW.weightsEach P ts ds).all (· ≤ reachBytes) = true := by
  unfold DataW.weightsEach at h
  rw [List.all_append, Bool.and_eq_true] at h
  refine ⟨fun n hn => ?_, h.2⟩
  have := h.1
  rw [List.all_eq_true] at this
  simpa using this n hn
theorem form_len {H : Type} {P : Program} {t e : TypeId} {d : DataW H} {l : List UInt8} (hu : P.underlying t = some (.slice e)) (hb : decide (0 < P.bytesOf e) = true) (h : l = [] ∨ ∃ es sp, d = .slice es sp ∧ es.length = l.length) (w : ∀ n ∈ d.weights P t, n ≤ reachBytes) : l.length ≤ 140737488351232 := by
  rcases h with rfl | ⟨es, sp, rfl, h⟩
  · simp
  · rw [decide_eq_true_eq] at hb
    have h1 := w ((es.length + sp.length) * P.bytesOf e) (by
      unfold DataW.weights
      rw [hu]
      exact List.mem_cons_self)
    have h2 : (es.length + sp.length) * 1 ≤ (es.length + sp.length) * P.bytesOf e := Nat.mul_le_mul_left _ hb
    simp only [reachBytes] at h1
    omega

theorem OWN.block {h0 h : GH} {v : Value} {l : List UInt8} (o : OWN h0 h v l) (hne : l ≠ []) : ∃ k c, v = .slice (some ⟨k, 0, none⟩) l.length c ∧ c % 2 = 0 ∧ 2 * l.length ≤ c ∧ h k = some ⟨l.map bv, 1, true, true⟩ ∧ h0 k = none := by
  rcases o with ⟨_, h⟩ | ⟨a, _, h⟩ | ⟨k, c, h1, h2, h3, h4, h5, h6⟩
  · exact absurd h hne
  · exact absurd h hne
  · exact ⟨k, c, h1, h2, h3, h5, h6⟩
theorem OWN.of_block {h0 h : GH} {k c n : Nat} {l : List UInt8} (h1 : c % 2 = 0) (h2 : 2 * l.length ≤ c) (hn : n = l.length) (hne : l ≠ []) (h5 : h k = some ⟨l.map bv, 1, true, true⟩) (h6 : h0 k = none) : OWN h0 h (.slice (some ⟨k, 0, none⟩) n c) l :=
  .inr (.inr ⟨k, c, by rw [hn], h1, h2, hne, h5, h6⟩)
theorem OWN.zero (h0 h : GH) (a : Addr) : OWN h0 h (.slice (some a) 0 1) [] := .inr (.inl ⟨a, rfl, rfl⟩)

theorem gIndex_own {P : Program} {t e es : Nat} {b : Bool} {k n c i : Nat} (ht : P.underlying t = some (.slice e)) (he : gsz P e = some (b, es)) (hi : i < n) : gIndex P t (.slice (some ⟨k, 0, none⟩) n c) (i : Int) = some (.pointer (some ⟨k, i * es, none⟩)) := by
  simp only [gIndex, ht, he]
  rw [if_pos (by omega)]
  simp
theorem set_bv (b : List UInt8) (i : Nat) (x : UInt8) : (b.map bv).set i (bv x) = (b.set i x).map bv := by rw [List.map_set]
end Go.Gh
