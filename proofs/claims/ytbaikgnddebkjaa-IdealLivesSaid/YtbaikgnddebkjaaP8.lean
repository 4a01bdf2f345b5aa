/- Parts of this claim's proof, 8. No statement of the claim stands here. -/
import Derived.Test.YtbaikgnddebkjaaP7
import Derived.Shelf.SlSortCmp.WholeK
namespace Go.Gh
open Go Go.RowKit Go.Sort Go.Proofs Go.Shelf
set_option linter.unusedVariables false
set_option linter.unusedSimpArgs false
def qM8 : Value → Value
  | .int .u8 n => .int .u8 n
  | _ => U
def shH (M kb : Nat) (h : GH) : GH := fun k => if k < M then none else if k - M = kb then none else match h (k - M) with
  | some B => if kZ B = true then none else some ⟨B.cells.map qM8, B.es, false, false⟩
  | none => none
def shF (M : Nat) (φ : Fm) : Fm := fun k => if k < M then some ⟨k, 0, 0, 0⟩ else φ (k - M)
def shV (M : Nat) : Value → Value
  | .slice (some a) n c => .slice (some ⟨M + a.block, a.off, a.spot⟩) n c
  | .slice none n c => .slice none n c
  | .int k n => .int k n
  | .bool b => .bool b
  | _ => U
theorem qT6 (M : Nat) (φ : Fm) (k : Nat) : shF M φ (M + k) = φ k := by
  unfold shF
  rw [if_neg (by omega), show M + k - M = k by omega]
theorem shV_vr {M : Nat} {φ : Fm} {v v' : Value} (h : VR φ v v') : VR (shF M φ) (shV M v) v' := by
  have ar : ∀ {a a' : Addr}, AR φ a a' → AR (shF M φ) ⟨M + a.block, a.off, a.spot⟩ a' := fun ⟨h1, h2, f, h3, h4⟩ => ⟨h1, h2, f, (qT6 M φ _).trans h3, h4⟩
  cases h <;> unfold shV <;> first
    | exact VR.u _ _
    | exact .int _ _
    | exact .bool _
    | exact .snil _
    | skip
  rename_i a a' n c c' h hc hn
  refine .slice (h.imp ar id) ⟨hc.1, fun he => ?_⟩ hn
  obtain ⟨h1, h2⟩ := hc.2 he
  refine ⟨h1, h2.imp id ?_⟩
  rintro ⟨f, h3, h4⟩
  exact ⟨f, (qT6 M φ _).trans h3, h4⟩
theorem qY0 {M : Nat} {φ : Fm} : ∀ {l l' : List Value}, VRs φ l l' → VRs (shF M φ) (l.map (shV M)) l'
  | _, _, .nil => .nil
  | _, _, .cons h hs => .cons (shV_vr h) (qY0 hs)
theorem degV_vr {φ φ' : Fm} {v v' : Value} (h : VR φ v v') : VR φ' (qM8 v) v' := by
  unfold qM8
  split
  · cases h; exact .int _ _
  · exact VR.u _ _
theorem degV_noM (l : List Value) (es : Nat) (a b : Bool) : kZ ⟨l.map qM8, es, a, b⟩ = false := by
  cases l with
  | nil => rfl
  | cons v l =>
    have : qM8 v = U ∨ ∃ n, qM8 v = .int .u8 n := by
      unfold qM8
      split
      · exact .inr ⟨_, rfl⟩
      · exact .inl rfl
    unfold kZ
    simp only [List.map_cons]
    rcases this with e | ⟨n, e⟩ <;> rw [e] <;> rfl
theorem sh_sim {N : Nat} {φ : Fm} {h : GH} {w W : World} (s : Sim N φ h w) {kb : Nat} {B0 : GB} {f0 : Fx} (hkb : h kb = some B0) (hw0 : B0.wr = true) (hf0 : φ kb = some f0) (hsz : w.heap.size ≤ W.heap.size) (hW : ∀ k, k ≠ f0.b → k < w.heap.size → W.heap[k]? = w.heap[k]?) :
    Sim W.heap.size (shF W.heap.size φ) (shH W.heap.size kb h) W := by
  have get : ∀ k B, shH W.heap.size kb h k = some B → ∃ j C, k = W.heap.size + j ∧ j ≠ kb ∧ h j = some C ∧ kZ C = false ∧ B = ⟨C.cells.map qM8, C.es, false, false⟩ := fun k B hk => by
    unfold shH at hk
    split at hk
    · cases hk
    split at hk
    · cases hk
    split at hk
    · rename_i h1 h2 _ C hC
      split at hk
      · cases hk
      · rename_i hm
        cases hk
        exact ⟨k - W.heap.size, C, by omega, h2, hC, by simpa using hm, rfl⟩
    · cases hk
  refine ⟨fun k hk => by unfold shF; rw [if_pos hk], Nat.le_refl _, ?_, fun k B hk _ => ?_, fun k k' B B' f f' _ hk hk' _ _ _ => ?_, fun k f hk => ?_, ?_⟩
  · obtain ⟨n, hn⟩ := s.fin
    exact ⟨W.heap.size + n, fun k hk => by unfold shF; rw [if_neg (by omega)]; exact hn _ (by omega)⟩
  · obtain ⟨j, C, rfl, hj, hC, hm, rfl⟩ := get k B hk
    obtain ⟨f, h1, h2⟩ := s.dom j C hC hm
    have hne : f.b ≠ f0.b := fun e => by
      have := (s.sep j kb C B0 f f0 hj hC hkb h1 hf0 e).2.1
      rw [hw0] at this; cases this
    refine ⟨f, (qT6 _ φ j).trans h1, ⟨Nat.lt_of_lt_of_le h2.lt hsz, fun i v hv => ?_, h2.es, fun q => by simp at q, fun q => by simp at q, fun q => by simp at q, fun q => by simp at q⟩⟩
    simp only [List.getElem?_map, Option.map_eq_some_iff] at hv
    obtain ⟨v0, hv0, rfl⟩ := hv
    obtain ⟨v', p1, p2⟩ := h2.cell i v0 hv0
    exact ⟨v', by rw [World.cell?_of_block (w := w) (hW _ hne h2.lt)]; exact p1, degV_vr p2⟩
  · obtain ⟨j, C, rfl, _, _, _, rfl⟩ := get k B hk
    obtain ⟨j', C', rfl, _, _, _, rfl⟩ := get k' B' hk'
    exact ⟨rfl, rfl, fun q => by simp at q⟩
  · unfold shF at hk
    split at hk
    · cases hk; assumption
    · exact Nat.lt_of_lt_of_le (s.rng _ f hk) hsz
  · have noM : ∀ k B, shH W.heap.size kb h k = some B → kZ B = false := fun k B hk => by
      obtain ⟨j, C, _, _, _, _, rfl⟩ := get k B hk
      exact degV_noM _ _ _ _
    refine ⟨fun k B hk hm => ?_, fun k k' B B' f f' _ hk _ hm _ => ?_, 0, fun k B _ hk => noM k B hk⟩
    · rw [noM k B hk] at hm; cases hm
    · rw [noM _ B hk] at hm; cases hm
theorem sh_rb {N : Nat} {φ : Fm} {h : GH} {w : World} (s : Sim N φ h w) {M kb : Nat} {B0 : GB} (hkb : h kb = some B0) (hu : B0.cells.all wX = true) {v v' : Value} (hv : VR φ v v') {l : List UInt8} (r : RB h v l) : RB (shH M kb h) (shV M v) l := by
  rcases r with ⟨c, rfl, rfl⟩ | ⟨ad, c, rfl, h2, h3⟩
  · exact .inl ⟨c, rfl, rfl⟩
  · refine .inr ⟨_, c, rfl, ?_, h3⟩
    by_cases h0 : l.length = 0
    · rw [h0] at h2 ⊢
      simp only [xX, if_true] at h2 ⊢
      exact h2
    have h2' := h2
    unfold xX at h2
    rw [if_neg h0] at h2
    split at h2
    case h_2 => cases h2
    rename_i B hs hB
    split at h2
    case isFalse => cases h2
    rename_i hle
    have hb : bv (l[0]'(by omega)) ∈ B.cells := rE h2' h0 hB _ (List.mem_map.2 ⟨_, List.getElem_mem _, rfl⟩)
    have hne : ad.block ≠ kb := fun e => by
      rw [e, hkb] at hB; cases hB
      rw [List.all_eq_true] at hu
      have := hu _ hb
      simp [wX, bv] at this
    have hm : kZ B = false := by
      cases hm : kZ B with
      | false => rfl
      | true =>
        cases hv with
        | slice ha hc hn =>
        rcases ha with ⟨_, _, f, h3, _⟩ | h4
        · have := (s.mm.mdom _ B hB hm).1.1
          rw [h3] at this; cases this
        · omega
    have hsh : shH M kb h (M + ad.block) = some ⟨B.cells.map qM8, B.es, false, false⟩ := by
      unfold shH
      rw [if_neg (by omega), show M + ad.block - M = ad.block by omega, if_neg hne, hB]
      simp only [hm, Bool.false_eq_true, if_false]
    unfold xX
    rw [if_neg h0]
    simp only [hs, hsh, List.length_map]
    rw [if_pos hle, ← List.map_drop, ← List.map_take]
    have e := Option.some.inj h2
    rw [e, List.map_map]
    congr 1
theorem qX3 {w w' : World} (h : Below w.heap.size w w') : ∃ q os, w' = grow (w.drewN q) os := by
  refine ⟨w'.drawn - w.drawn, w'.heap.extract w.heap.size w'.heap.size, ?_⟩
  obtain ⟨heap', tape', drawn', os', output'⟩ := w'
  have e1 : os' = w.os := h.os
  have e2 : tape' = w.tape := h.tape
  have e3 : output' = w.output := h.output
  have hs : w.heap.size ≤ heap'.size := h.size
  have hb : ∀ k, k < w.heap.size → heap'[k]? = w.heap[k]? := h.block
  have hd : w.drawn ≤ drawn' := h.drawn
  subst e1 e2 e3
  have eh : heap' = w.heap ++ heap'.extract w.heap.size heap'.size := by
    apply Array.ext_getElem?
    intro k
    rw [Array.getElem?_append]
    split
    · rename_i hk; exact hb k hk
    · rename_i hk
      rw [Array.getElem?_extract]
      by_cases hk2 : k < heap'.size
      · rw [if_pos (by omega), show w.heap.size + (k - w.heap.size) = k by omega]
      · rw [if_neg (by omega), Array.getElem?_eq_none (by omega)]
  unfold grow World.drewN
  simp only
  congr 1
  omega
theorem qJ9 {φ : Fm} : ∀ {l l' : List Value}, l.length = l'.length → (∀ (i : Nat) v v', l[i]? = some v → l'[i]? = some v' → VR φ v v') → VRs φ l l'
  | [], [], _, _ => .nil
  | [], _ :: _, h, _ => by simp at h
  | _ :: _, [], h, _ => by simp at h
  | x :: l, y :: l', h, k => .cons (k 0 x y rfl rfl) (qJ9 (by simpa using h) fun i v v' h1 h2 => k (i + 1) v v' (by simpa using h1) (by simpa using h2))
theorem VRs.cut {φ : Fm} {l l' : List Value} (h : VRs φ l l') (o n : Nat) : VRs φ ((l.drop o).take n) ((l'.drop o).take n) := by
  have hl := h.length
  refine qJ9 (by simp only [List.length_take, List.length_drop]; omega) fun i v v' h1 h2 => ?_
  rw [List.getElem?_take] at h1 h2
  split at h1
  · rename_i hi
    rw [if_pos hi] at h2
    rw [List.getElem?_drop] at h1 h2
    obtain ⟨u, p1, p2⟩ := h.get _ _ h1
    rw [h2] at p1
    cases p1
    exact p2
  · cases h1
theorem Blk.conc {N : Nat} {φ : Fm} {B : GB} {f : Fx} {w : World} (b : Blk N φ B f w) : ∃ cs', VRs φ B.cells cs' ∧ ∀ i v, cs'[i]? = some v → w.cell? ⟨f.b, f.o + i, none⟩ = some v := by
  have hlen : ((List.range B.cells.length).map fun t => (w.cell? ⟨f.b, f.o + t, none⟩).getD (.bool false)).length = B.cells.length := by simp
  refine ⟨(List.range B.cells.length).map fun t => (w.cell? ⟨f.b, f.o + t, none⟩).getD (.bool false), qJ9 hlen.symm fun i v v' h1 h2 => ?_, fun i v hv => ?_⟩
  · obtain ⟨u, p1, p2⟩ := b.cell i v h1
    rw [List.getElem?_map, List.getElem?_range (List.getElem?_eq_some_iff.1 h1).1] at h2
    simp only [Option.map_some, p1, Option.getD_some, Option.some.injEq] at h2
    rw [← h2]; exact p2
  · have hi : i < B.cells.length := by have := (List.getElem?_eq_some_iff.1 hv).1; rwa [hlen] at this
    rw [List.getElem?_map, List.getElem?_range hi] at hv
    obtain ⟨u, p1, _⟩ := b.cell i _ (List.getElem?_eq_getElem hi)
    simp only [Option.map_some, p1, Option.getD_some, Option.some.injEq] at hv
    rw [p1, hv]
theorem Sim.setAll {N : Nat} {φ : Fm} {h : GH} {w : World} (s : Sim N φ h w) (P : Program) {k : Nat} {B : GB} {f : Fx} (hk : h k = some B) (hf : φ k = some f) (hw : B.wr = true) (ho : 0 < B.cells.length) {cs cs' : List Value} (hv : VRs φ cs cs') (hl : cs.length = B.cells.length) (hc : cs.all zA = true) :
    Sim N φ (vU h k { B with cells := cs }) (w.setCells f.b f.o cs') := by
  have e : fZ h ⟨k, 0, none⟩ cs = some (vU h k { B with cells := cs }) := by
    unfold fZ
    rw [if_neg (by omega)]
    simp only [hk]
    rw [if_pos ⟨hw, by omega⟩]
    have : gO B.cells 0 cs = cs := by
      apply List.ext_getElem?
      intro i
      rw [pC (by omega)]
      by_cases hi : i < cs.length
      · rw [if_neg (by omega), if_pos (by omega), Nat.sub_zero]
      · rw [if_neg (by omega), if_neg (by omega), List.getElem?_eq_none (by omega), List.getElem?_eq_none (by omega)]
    rw [this]
  have hb := s.domf hk hf
  have hlen := hv.length
  obtain ⟨w', h1, h2, _⟩ := fN (P := P) s (a := ⟨k, 0, none⟩) (a' := ⟨f.b, f.o, none⟩) ⟨rfl, rfl, f, hf, rfl, rfl⟩ hv hc e
  have hrun := run_storeCells_cells (P := P) f.b f.o cs' 0 w (fun j hj => by
    obtain ⟨v', hc', _⟩ := hb.cell j _ (List.getElem?_eq_getElem (by omega))
    rw [Nat.add_zero, hc']; rfl) (fun j hj => by rw [Nat.add_zero]; exact hb.wrf hw _ (by omega)) (fY hv hc)
  rw [Nat.add_zero] at hrun
  have : w' = w.setCells f.b f.o cs' := by
    have := h1.symm.trans hrun
    cases this; rfl
  rw [← this]; exact h2
theorem flat_atK {α : Type} {n : Nat} {L : List (List α)} (hn : 0 < n) (hl : ∀ x ∈ L, x.length = n) {i r : Nat} {x : List α} (hi : L[i]? = some x) (hr : r < n) : L.flatten[i * n + r]? = x[r]? := by
  have h1 := tW L hl i x hi
  rw [← h1, List.getElem?_take, if_pos hr, List.getElem?_drop]
theorem qO1 {β : Type} [Inhabited β] (enc : β → List Value) (K : Nat) (w : World) (blk off : Nat) (d dk : Array β) (hH : HoldsK enc K w blk off d) (hs : dk.size = d.size) : putRowK enc K w blk off dk = w.setCells blk off (flatK enc K dk).toList := by
  have h1 := setCells_putRow w blk off (flatK enc K dk).toList 0 (flatK enc K d) (by simp [hs])
  rw [putRow_self id w blk off _ hH, Nat.add_zero] at h1
  have h2 : setMany (flatK enc K d) 0 (flatK enc K dk).toList = flatK enc K dk := by
    refine ext_get! (by simp [hs]) fun t ht => ?_
    have ht' : t < (flatK enc K d).size := by simpa using ht
    have hsz : (flatK enc K dk).size = (flatK enc K d).size := by simp [hs]
    rw [get_setMany _ _ _ t ht', if_pos ⟨Nat.zero_le _, by rw [Array.length_toList]; omega⟩, Nat.sub_zero, List.getElem!_eq_getElem?_getD, Array.getElem?_toList, Array.getElem?_eq_getElem (by omega), getElem!_pos _ t (by omega)]
    rfl
  rw [h2] at h1
  exact h1.symm
theorem lZ {β : Type} (d : Array β) (n : Nat) (h : d.size = n) : (d.extract 0 n).toList = d.toList := by subst h; simp
theorem sort_tri {P : Program} {ρ : Ren} (L : SlLaysF0.n6 P ρ) {K : Nat} (aE : ∀ w, (isAgg (ρ.t 24)).run P w = .ok true w) (zE : ∀ w, (Go.sizeOf (ρ.t 24)).run P w = .ok K w) (hK : 0 < K) (hf6 : yZ P (ρ.f 6) = true) {N : Nat} {h : GH} {α : Type} {R : GH → List Value → α → Prop} (cf : α → α → Int) (hO : SWO (ltOf cf)) {g : Nat} (hg : yZ P g = true)
    {kb c : Nat} {tl : Bool} {l : List α} {cs : List Value} (hne : l ≠ []) (hsz : l.length < 4611686018427387904) (hB : h kb = some ⟨cs, K, true, tl⟩) (hcl : cs.length = l.length * K) (hu : cs.all wX = true) (hcc : cs.all zA = true) (hR : ∀ (i : Nat) x, l[i]? = some x → R h ((cs.drop (i * K)).take K) x)
    (htr : ∀ {N : Nat} {φ : Fm} {w : World} {M : Nat} {ds ds' : List Value} (x : α), Sim N φ h w → R h ds x → VRs φ ds ds' → R (shH M kb h) (ds.map (shV M)) x)
    (hcmp : ∀ (M : Nat) (h' : GH) (c1 c2 : List Value) (x y : α), R h' c1 x → R h' c2 y → GTri P M g [.agg c1.toArray, .agg c2.toArray] h' fun v _ => v = .int .i64 (cf x y)) :
    GTri P N (ρ.f 6) [.slice (some ⟨kb, 0, none⟩) l.length c, .func (.func g) #[] #[]] h fun v h' => ∃ (l2 : List α) (cs2 : List Value), l2.Perm l ∧ (∀ (i j : Nat) x y, i < j → l2[i]? = some x → l2[j]? = some y → ¬ cf y x < 0) ∧ h' = vU h kb ⟨cs2, K, true, tl⟩ ∧ cs2.length = cs.length ∧ cs2.all wX = true ∧ cs2.all zA = true ∧ ∀ (i : Nat) x, l2[i]? = some x → R h ((cs2.drop (i * K)).take K) x := by
  intro hG φ w args' s ha
  have hn0 : 0 < l.length := List.length_pos_iff.2 hne
  obtain ⟨argl⟩ := args'
  simp only at ha
  cases ha with
  | cons h1 ha =>
  cases ha with
  | cons h2 ha =>
  cases ha
  cases h2 with
  | func hfa hfb =>
  rename_i fa fb
  obtain ⟨fa⟩ := fa
  obtain ⟨fb⟩ := fb
  simp only at hfa hfb
  cases hfa
  cases hfb
  cases h1 with
  | slice ha hc hn =>
  rename_i a' c'
  have ha' : AR φ ⟨kb, 0, none⟩ a' := by
    rcases ha with ha | h0
    · exact ha
    · omega
  obtain ⟨_, q2, f, q3, q4, q5⟩ := ha'
  have ea : a' = ⟨f.b, f.o, none⟩ := by rw [uY q2, q4, q5]; simp
  subst ea
  have hb := s.domf hB q3
  obtain ⟨cs', hvs, hcell⟩ := hb.conc
  have hcl' : cs'.length = l.length * K := by rw [← hvs.length]; exact hcl
  haveI : Inhabited (Fin l.length) := ⟨⟨0, hn0⟩⟩
  have bnd : ∀ i : Fin l.length, i.1 * K + K ≤ l.length * K := fun i => by
    have := Nat.mul_le_mul_right K (show i.1 + 1 ≤ l.length from i.2)
    rw [Nat.add_mul, Nat.one_mul] at this; exact this
  obtain ⟨enc, henc⟩ : ∃ enc : Fin l.length → List Value, ∀ i, enc i = (cs'.drop (i.1 * K)).take K := ⟨_, fun _ => rfl⟩
  have hk : ∀ i, (enc i).length = K := fun i => by
    rw [henc, List.length_take, List.length_drop, hcl']
    have := bnd i
    omega
  have h1 : ∀ i, ∀ v ∈ enc i, v.oneCell' = true := fun i v hv => by
    rw [henc] at hv
    exact fY hvs hcc v (List.mem_of_mem_drop (List.mem_of_mem_take hv))
  obtain ⟨d, hd⟩ : ∃ d : Array (Fin l.length), d = Array.ofFn id := ⟨_, rfl⟩
  have hds : d.size = l.length := by rw [hd, Array.size_ofFn]
  have hdg : ∀ i (hi : i < l.length), d[i]! = ⟨i, hi⟩ := fun i hi => by
    rw [getElem!_pos d i (by omega)]
    simp [hd]
  have hH : HoldsK enc K w f.b f.o d := by
    intro t ht
    rw [size_flatK, hds] at ht
    have hq : t / K < l.length := Nat.div_lt_of_lt_mul (by rw [Nat.mul_comm]; exact ht)
    have hr : t % K < K := Nat.mod_lt _ hK
    have het : t / K * K + t % K = t := by rw [Nat.mul_comm]; exact Nat.div_add_mod t K
    have e1 : (flatK enc K d)[t]! = (cs'[t]?).getD default := by
      rw [get_flatK _ _ _ _ (by rw [hds]; exact ht), hdg _ hq, List.getElem!_eq_getElem?_getD, henc, List.getElem?_take, if_pos hr, List.getElem?_drop, het]
    obtain ⟨v, hv⟩ : ∃ v, cs'[t]? = some v := ⟨_, List.getElem?_eq_getElem (by omega)⟩
    rw [e1, hv]
    exact ⟨hcell t v hv, hb.wrf rfl t (by show t < cs.length; omega)⟩
  have hlt : f.b < w.heap.size := hb.lt
  obtain ⟨cfk, hcfk⟩ : ∃ cfk : Fin l.length → Fin l.length → Int, ∀ i j, cfk i j = cf l[i] l[j] := ⟨_, fun _ _ => rfl⟩
  have hlt' : ∀ x y, ltOf cfk x y = ltOf cf l[x] l[y] := fun x y => by unfold ltOf; rw [hcfk]
  have hO' : SWO (ltOf cfk) := ⟨fun x => by rw [hlt']; exact hO.irrefl _, fun x y z h1 h2 => by rw [hlt'] at *; exact hO.trans _ _ _ h1 h2, fun x y z h1 h2 => by rw [hlt'] at *; exact hO.ntrans _ _ _ h1 h2⟩
  have hHm : ∀ m, HoldsK enc K (Sort.ahead w m) f.b f.o d := fun m => holdsK_ahead enc K w m f.b f.o d hH
  have hlays : CmpLays P g #[] enc K cfk f.b f.o d.size w := by
    intro m os dk hs x y
    have hput := qO1 enc K (Sort.ahead w m) f.b f.o d dk (hHm m) hs
    unfold sortWorldK
    rw [hput]
    generalize hW : grow ((Sort.ahead w m).setCells f.b f.o (flatK enc K dk).toList) os = W
    have hsz1 : w.heap.size ≤ W.heap.size := by rw [← hW, size_grow, vK]; show w.heap.size ≤ w.heap.size + _; omega
    have hW1 : ∀ k, k ≠ f.b → k < w.heap.size → W.heap[k]? = w.heap[k]? := fun k h1 h2 => by
      rw [← hW]
      unfold grow
      simp only
      rw [Array.getElem?_append_left (by rw [vK]; exact h2), uX _ _ _ _ _ h1]
      rfl
    have sim := sh_sim (W := W) s hB rfl q3 hsz1 hW1
    have one : ∀ i : Fin l.length, R (shH W.heap.size kb h) (((cs.drop (i.1 * K)).take K).map (shV W.heap.size)) l[i] ∧ VRs (shF W.heap.size φ) (((cs.drop (i.1 * K)).take K).map (shV W.heap.size)) (enc i) := fun i => by
      have hv := hvs.cut (i.1 * K) K
      rw [henc]
      exact ⟨htr _ s (hR i.1 _ (by simp)) hv, qY0 hv⟩
    have := hcmp W.heap.size _ _ _ _ _ (one x).1 (one y).1 (by have := s.big; omega) _ W #[.agg (enc x).toArray, .agg (enc y).toArray] sim (.cons (.agg (one x).2) (.cons (.agg (one y).2) .nil))
    rcases this with ⟨_, hcall⟩ | ⟨v, v', φ', h', w', hrun, _⟩
    · rw [Array.append_empty]
      refine hcall.mono ?_
      rintro e w' ⟨v, v', φ', h', rfl, _, _, hv, hbel, rfl⟩
      cases hv
      obtain ⟨q, os', hq⟩ := qX3 hbel
      exact ⟨by rw [hcfk], q, os', hq⟩
    · rw [uW hg] at hrun
      cases hrun
  have hcon := AnyQ.slices_SortFunc L K aE zE enc hk h1 cfk hO' g #[] f.b f.o c' d w (fun A w => uW hg A w) hlays hH hlt (by omega)
  rw [hds] at hcon
  refine .inl ⟨hf6, hcon.mono ?_⟩
  rintro e w' ⟨rfl, d', m, os, hp, hs', rfl⟩
  have hd's : d'.size = l.length := by rw [hp.1, hds]
  have hput := qO1 enc K (Sort.ahead w m) f.b f.o d d' (hHm m) hp.1
  unfold sortWorldK
  rw [hput]
  have sl : ∀ x ∈ d'.toList.map (fun i => (cs.drop (i.1 * K)).take K), x.length = K := fun x hx => by
    obtain ⟨i, _, rfl⟩ := List.mem_map.1 hx
    rw [List.length_take, List.length_drop, hcl]
    have := bnd i
    omega
  have hmem : ∀ v ∈ (d'.toList.map fun i => (cs.drop (i.1 * K)).take K).flatten, v ∈ cs := fun v hv => by
    obtain ⟨x, hx, hv⟩ := List.mem_flatten.1 hv
    obtain ⟨i, _, rfl⟩ := List.mem_map.1 hx
    exact List.mem_of_mem_drop (List.mem_of_mem_take hv)
  have hl2 : ((d'.toList.map fun i => (cs.drop (i.1 * K)).take K).flatten).length = cs.length := by
    rw [mC _ sl, List.length_map, Array.length_toList, hd's, hcl]
  have hg2 : ∀ (i : Nat) (hi : i < l.length), (d'.toList.map fun i => (cs.drop (i.1 * K)).take K)[i]? = some ((cs.drop ((d'[i]!).1 * K)).take K) := fun i hi => by
    rw [List.getElem?_map, Array.getElem?_toList, Array.getElem?_eq_getElem (by omega)]
    rw [getElem!_pos d' i (by omega)]; rfl
  have hc2 : ((d'.toList.map fun i => (cs.drop (i.1 * K)).take K).flatten).all zA = true := by
    rw [List.all_eq_true] at hcc ⊢
    exact fun v hv => hcc v (hmem v hv)
  have hv2 : VRs φ ((d'.toList.map fun i => (cs.drop (i.1 * K)).take K).flatten) (flatK enc K d').toList := by
    refine qJ9 (by rw [hl2, hcl, Array.length_toList (xs := flatK enc K d'), size_flatK, hd's]) fun t v v' e1 e2 => ?_
    have ht : t < l.length * K := by have := (List.getElem?_eq_some_iff.1 e1).1; rw [hl2, hcl] at this; exact this
    have hq : t / K < l.length := Nat.div_lt_of_lt_mul (by rw [Nat.mul_comm]; exact ht)
    have hr : t % K < K := Nat.mod_lt _ hK
    have het : t / K * K + t % K = t := by rw [Nat.mul_comm]; exact Nat.div_add_mod t K
    have e3 := flat_atK hK sl (hg2 _ hq) hr
    rw [het, e1] at e3
    have e4 : v' = (enc d'[t / K]!)[t % K]! := by
      rw [Array.getElem?_toList, Array.getElem?_eq_getElem (by rw [size_flatK, hd's]; exact ht)] at e2
      rw [← get_flatK _ _ _ _ (by rw [hd's]; exact ht), getElem!_pos _ t (by rw [size_flatK, hd's]; exact ht)]
      exact (Option.some.inj e2).symm
    have hv := hvs.cut ((d'[t / K]!).1 * K) K
    obtain ⟨u, p1, p2⟩ := hv.get _ _ e3.symm
    have e5 : (enc d'[t / K]!)[t % K]? = some u := by rw [henc]; exact p1
    rw [e4, List.getElem!_eq_getElem?_getD, e5]
    exact p2
  have s1 : Sim N φ h (Sort.ahead w m) := s.grow (Nat.le_refl _) fun _ _ => rfl
  have s2 := s1.setAll P hB q3 rfl (by show 0 < cs.length; rw [hcl]; exact Nat.mul_pos hn0 hK) hv2 hl2 hc2
  have b1 : Below N w (Sort.ahead w m) := { os := rfl, tape := rfl, output := rfl, size := Nat.le_refl _, block := fun _ _ => rfl, drawn := by show w.drawn ≤ w.drawn + m; omega }
  have b2 := gE (N := N) f.b (hb.nz (.inl rfl)) (flatK enc K d').toList f.o (Sort.ahead w m)
  have b3 : Below N ((Sort.ahead w m).setCells f.b f.o (flatK enc K d').toList) (grow ((Sort.ahead w m).setCells f.b f.o (flatK enc K d').toList) os) :=
    { os := rfl, tape := rfl, output := rfl, size := by rw [size_grow]; omega, block := fun k hk => by
        unfold grow
        simp only
        rw [Array.getElem?_append_left]
        rw [vK]
        have := s.big
        show k < w.heap.size
        omega, drawn := Nat.le_refl _, lp := fun k o e _ => by
        unfold grow
        simp only
        rw [Array.getElem?_append_left (Array.getElem?_eq_some_iff.1 e).1]
        exact e }
  have s3 := s2.grow (w' := grow ((Sort.ahead w m).setCells f.b f.o (flatK enc K d').toList) os) (by rw [size_grow]; omega) (fun k hk => by unfold grow; simp only; rw [Array.getElem?_append_left hk])
  refine ⟨.tuple #[], .tuple #[], φ, _, rfl, Ext.refl _, s3, .tuple .nil, (b1.trans b2).trans b3, d'.toList.map (fun i => l[i]), _, ?_, ?_, rfl, hl2, ?_, hc2, ?_⟩
  · have hpm := hp.2.2
    have x1 := lZ d' l.length hd's
    have x2 := lZ d l.length hds
    rw [x1, x2] at hpm
    have := hpm.map (fun i : Fin l.length => l[i])
    have x3 : d.toList.map (fun i : Fin l.length => l[i]) = l := by
      apply List.ext_getElem?
      intro i
      rw [List.getElem?_map, Array.getElem?_toList]
      by_cases hi : i < l.length
      · rw [Array.getElem?_eq_getElem (by omega), List.getElem?_eq_getElem hi]
        have := hdg i hi
        rw [getElem!_pos d i (by omega)] at this
        rw [this]; rfl
      · rw [Array.getElem?_eq_none (by omega), List.getElem?_eq_none (by omega)]; rfl
    rw [x3] at this
    exact this
  · intro i j x y hij hx hy
    have hj : j < l.length := by have := (List.getElem?_eq_some_iff.1 hy).1; rw [List.length_map, Array.length_toList, hd's] at this; exact this
    have := hs' i j (Nat.zero_le _) hij hj
    rw [hlt'] at this
    rw [List.getElem?_map, Array.getElem?_toList, Array.getElem?_eq_getElem (by omega)] at hx hy
    rw [getElem!_pos d' i (by omega), getElem!_pos d' j (by omega)] at this
    cases hx
    cases hy
    simpa [ltOf] using this
  · rw [List.all_eq_true] at hu ⊢
    exact fun v hv => hu v (hmem v hv)
  · intro i x hx
    have hi : i < l.length := by have := (List.getElem?_eq_some_iff.1 hx).1; rw [List.length_map, Array.length_toList, hd's] at this; exact this
    rw [tW _ sl i _ (hg2 i hi)]
    rw [List.getElem?_map, Array.getElem?_toList, Array.getElem?_eq_getElem (by omega)] at hx
    cases hx
    rw [getElem!_pos d' i (by omega)]
    exact hR _ _ (by simp)
end Go.Gh
