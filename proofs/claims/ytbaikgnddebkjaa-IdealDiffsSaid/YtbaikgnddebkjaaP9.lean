/- Parts of this claim's proof, 9. No statement of the claim stands here. -/
import Derived.Test.YtbaikgnddebkjaaP8
import Derived.Lib.ConvBytes
import Derived.Laws.AppendOwn
/- A framework of this claim's proof, part 31. A text's bytes as a slice, in a region that is walked in parts; rules of walks over maps. No statement of the claim stands here. -/
namespace Go.Gh
open Go Go.RowKit
set_option linter.unusedVariables false
set_option linter.unusedSimpArgs false

/-- The bytes of a text, in an array of their own. -/
theorem bytes_sim {N : Nat} {φ : Fm} {h : GH} {w : World} (s : Sim N φ h w) (el : TypeId) (st : ByteArray) : ∃ k φ', h k = none ∧ Ext φ φ' ∧ Sim N φ' (hset h k ⟨st.data.toList.map bv, 1, false, false⟩) (Lib.bytesWorld w el st) ∧
    VR φ' (.slice (some ⟨k, 0, none⟩) st.data.toList.length (2 * st.data.toList.length)) (.slice (some ⟨w.heap.size, 0, none⟩) st.size (grownCap w st.size 0 el)) ∧ Below N w (Lib.bytesWorld w el st) := by
  obtain ⟨k, h1, h2, h3⟩ := s.fresh
  have hcap : st.size ≤ grownCap w st.size 0 el := grownCap_ge w st.size 0 el
  have hsz : (Lib.bytesCells w el st).size = grownCap w st.size 0 el := by
    unfold Lib.bytesCells
    have : st.data.size = st.size := rfl
    simp only [Array.size_append, Array.size_map, Array.size_replicate, this]
    omega
  have hl : st.data.toList.length = st.size := by rw [Array.length_toList]; rfl
  have hs := Lib.bytesWorld_size w el st
  have e := fset_ext (φ := φ) (k := k) ⟨w.heap.size, 0, (Lib.bytesCells w el st).size, 1⟩ h1
  refine ⟨k, fset φ k ⟨w.heap.size, 0, (Lib.bytesCells w el st).size, 1⟩, h2, e, ?_, ?_, ?_⟩
  · refine s.add h1 (by omega) (fun j hj => Lib.bytesWorld_at_old w el st j hj) (Nat.le_refl _) ⟨by show w.heap.size < _; omega, fun i v hi => ?_, rfl, fun q => by simp at q, fun q => by simp at q, fun q => by simp at q, fun q => by simp at q⟩ h2
    have hi' : i < st.size := by have := (List.getElem?_eq_some_iff.1 hi).1; rw [List.length_map, hl] at this; exact this
    refine ⟨_, by rw [Nat.zero_add]; exact Lib.bytesWorld_cell w el st i hi', ?_⟩
    simp only [List.getElem?_map, Option.map_eq_some_iff] at hi
    obtain ⟨b, hb, rfl⟩ := hi
    rw [List.getD, hb]
    exact .int .u8 _
  · rw [hl]
    refine .slice (.inl ⟨rfl, rfl, _, fset_same _ _ _, rfl, rfl⟩) ⟨fun q => by omega, fun _ => ⟨by omega, .inr ⟨_, fset_same _ _ _, ?_⟩⟩⟩ hcap
    show 0 + grownCap w st.size 0 el * 1 ≤ (Lib.bytesCells w el st).size
    omega
  · have fz : ∀ (w : World) (a : Addr) (n : Nat), (w.freeze a n).os = w.os ∧ (w.freeze a n).tape = w.tape ∧ (w.freeze a n).output = w.output ∧ (w.freeze a n).drawn = w.drawn := fun w a n => by
      unfold World.freeze
      split <;> exact ⟨rfl, rfl, rfl, rfl⟩
    have hN := s.big
    refine ⟨(fz _ _ _).1, (fz _ _ _).2.1, (fz _ _ _).2.2.1, by omega, fun j hj => Lib.bytesWorld_at_old w el st j (by omega), ?_, fun j o e _ => (Lib.bytesWorld_at_old w el st j (Array.getElem?_eq_some_iff.1 e).1).trans e⟩
    have : (Lib.bytesWorld w el st).drawn = w.drawn + 1 := (fz _ _ _).2.2.2
    omega
section
variable {P : Program} {N nt : Nat} {Q : GQ} {e : Env} {h : GH} {ops : Array Oper} {l : List Oper}
theorem gr_sb {dst : Option Tmp} {ty : TypeId} {pos : String} {after : Array Edge} {s d el : TypeId} {x : Operand} {su : TypeDesc} {st : ByteArray} (hs : P.underlying s = some su) (hd : P.underlying d = some (.slice el)) (he : P.underlying el = some (.int .u8)) (hx : ev e x = .string st)
    (g : ∀ k h', h' k = some ⟨st.data.toList.map bv, 1, false, false⟩ → HS h h' → (∀ j, j ≠ k → h' j = h j) → h k = none → GR P N nt ops Q l (eput e dst (.slice (some ⟨k, 0, none⟩) st.data.toList.length (2 * st.data.toList.length))) h') : GR P N nt ops Q (⟨dst, .convert s d x, ty, pos, after, none⟩ :: l) e h := by
  intro ok hG φ w a sm r B hdf φ0 w0 x0 b0
  simp only [List.all_cons, Bool.and_eq_true, operOk] at ok
  obtain ⟨⟨ok1, ok2⟩, ok3⟩ := ok
  have hops : opdOk P.globals.size x = true := Array.all_eq_true_iff_forall_mem.1 ok2 x (by simp [Op.operands])
  have hv := r.ev sm hG hops
  rw [hx] at hv
  generalize hz : a.eval x = z at hv
  cases hv
  obtain ⟨k, φ', h1, h2, h3, h4, h5⟩ := bytes_sim sm el st
  have hr := Lib.run_convert_string_bytes (P := P) w s d el st hs hd he
  unfold wpList
  rw [if_pos (by simp [Region.wanted])]
  refine .inl (wp_value (w' := Lib.bytesWorld w el st) (v' := .slice (some ⟨w.heap.size, 0, none⟩) st.size (grownCap w st.size 0 el)) (by simp [execOp, hz, hr]) ?_)
  exact g k _ (hset_same _ _ _) (HS.new h1 _) (fun j hj => hset_ne _ _ hj) h1 ok3 hG φ' _ _ h3 ((r.mono h2).put ok1 h4) (by rw [put_defers]; exact hdf.below h5) φ0 w0 (x0.trans h2) (b0.trans h5)
end
theorem bytes_rb {h : GH} {k : Nat} {st : ByteArray} {w t : Bool} (m : h k = some ⟨st.data.toList.map bv, 1, w, t⟩) : RB h (.slice (some ⟨k, 0, none⟩) st.data.toList.length (2 * st.data.toList.length)) st.data.toList :=
  .inr ⟨_, _, rfl, gread_lit m (o := 0) (by rw [List.drop_zero]; exact List.take_of_length_le (by simp)) (by simp), by omega⟩
theorem RL.src {α : Type} {es : Nat} {R : GH → List Value → α → Prop} {h : GH} {v : Value} {L : List α} (r : RL es R h v L) : ∃ cs, gSrc h es v = some (L.length, cs) ∧ cs.length = L.length * es ∧ ∀ (i : Nat) x, L[i]? = some x → R h ((cs.drop (i * es)).take es) x := by
  rcases r with ⟨c, rfl, rfl⟩ | ⟨ad, c, cs, rfl, h2, h3, h4, h5⟩
  · exact ⟨[], by simp [gSrc], by simp, fun i x hx => by simp at hx⟩
  · exact ⟨cs, by simp [gSrc, h2], gread_length h2, h4⟩
theorem all_el {es n : Nat} {p : Value → Bool} {cs : List Value} (he : es ≠ 0) (hl : cs.length = n * es) (h : ∀ i, i < n → ((cs.drop (i * es)).take es).all p = true) : cs.all p = true := by
  rw [List.all_eq_true]
  intro v hv
  obtain ⟨m, hm, rfl⟩ := List.mem_iff_getElem.1 hv
  have h1 : m / es < n := Nat.div_lt_of_lt_mul (by rw [Nat.mul_comm]; omega)
  have h2 := h _ h1
  rw [List.all_eq_true] at h2
  refine h2 _ (List.mem_iff_getElem?.2 ⟨m % es, ?_⟩)
  have h3 : m % es < es := Nat.mod_lt _ (Nat.pos_of_ne_zero he)
  rw [List.getElem?_take, if_pos h3, List.getElem?_drop]
  have h4 : m / es * es + m % es = m := by rw [Nat.mul_comm]; exact Nat.div_add_mod m es
  rw [h4]
  exact List.getElem?_eq_getElem hm
theorem apps_el {α : Type} {es : Nat} {R : List Value → α → Prop} {L L2 : List α} {ds cs : List Value} (hd : ds.length = L.length * es) (h1 : ∀ (i : Nat) p, L[i]? = some p → R ((ds.drop (i * es)).take es) p) (h2 : ∀ (i : Nat) p, L2[i]? = some p → R ((cs.drop (i * es)).take es) p) :
    ∀ (i : Nat) p, (L ++ L2)[i]? = some p → R (((ds ++ cs).drop (i * es)).take es) p := by
  intro i p hp
  rcases Nat.lt_or_ge i L.length with hi | hi
  · rw [List.getElem?_append_left hi] at hp
    have hle : i * es + es ≤ ds.length := by
      rw [hd]
      have := Nat.mul_le_mul_right es (show i + 1 ≤ L.length by omega)
      rw [Nat.add_mul, Nat.one_mul] at this; exact this
    rw [List.drop_append_of_le_length (by omega), List.take_append_of_le_length (by rw [List.length_drop]; omega)]
    exact h1 i p hp
  · rw [List.getElem?_append_right hi] at hp
    have := h2 _ p hp
    have hle : L.length * es ≤ i * es := Nat.mul_le_mul_right es hi
    rw [List.drop_append, List.drop_eq_nil_of_le (by omega), List.nil_append, hd, ← Nat.sub_mul]
    exact this
end Go.Gh

