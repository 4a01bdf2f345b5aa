/- Parts of this claim's proof, 6. No statement of the claim stands here. -/
import Derived.Test.YtkifgpomablpiaaGreatDoorP5
import Derived.OpenShut
import Derived.ShutString
import Derived.ChangeOld
import Derived.Below
import Derived.SizedLaws
import Derived.JoinedCond
import Derived.Deep.CondSized
namespace Go.Gh
open Go Go.RowKit Go.ChangeShapes Go.WideShapes Go.ChangeAt
set_option linter.unusedVariables false
set_option linter.unusedSimpArgs false
def qQ3 (N : Nat) : Value → Value
  | .bool b => .bool b
  | .int k n => .int k n
  | .string s => .string s
  | .pointer none => .pointer none
  | .pointer (some a) => if a.spot = none ∧ a.block < N then .pointer (some a) else U
  | .slice none 0 0 => .slice none 0 1
  | .slice (some a) n c => if n ≤ c ∧ ((a.spot = none ∧ a.block < N) ∨ c = 0) then .slice (some a) n (2 * c + 1) else U
  | .nilFunc => .nilFunc
  | .nilIface => .nilIface
  | _ => U
def up (N : Nat) : Value → Value
  | .agg c => .agg (c.toList.map (qQ3 N)).toArray
  | v => qQ3 N v
theorem zH5 {N : Nat} {φ : Fm} (hφ : ∀ k, k < N → φ k = some ⟨k, 0, 0, 0⟩) (v : Value) : VR φ (qQ3 N v) v := by
  unfold qQ3
  split
  · exact .bool _
  · exact .int _ _
  · exact .string _
  · exact .pnil
  · rename_i a
    split
    · rename_i h
      exact .ptr ⟨h.1, h.1, _, hφ _ h.2, rfl, by simp⟩
    · exact .any _
  · exact .snil _
  · rename_i a n c
    split
    · rename_i h
      refine .slice ?_ ⟨fun _ => by omega, fun h2 => by omega⟩ h.1
      rcases h.2 with h2 | h2
      · exact .inl ⟨h2.1, h2.1, _, hφ _ h2.2, rfl, by simp⟩
      · exact .inr h2
    · exact .any _
  · exact .nilFunc
  · exact .nilIface
  · exact .any _
theorem qU8 {N : Nat} {φ : Fm} (hφ : ∀ k, k < N → φ k = some ⟨k, 0, 0, 0⟩) : ∀ l : List Value, VRs φ (l.map (qQ3 N)) l
  | [] => .nil
  | v :: l => .cons (zH5 hφ v) (qU8 hφ l)
theorem up_vr {N : Nat} {φ : Fm} (hφ : ∀ k, k < N → φ k = some ⟨k, 0, 0, 0⟩) (v : Value) : VR φ (up N v) v := by
  unfold up
  split
  · rename_i c
    exact .agg (by simpa using qU8 hφ c.toList)
  · exact zH5 hφ v
theorem ups_vr {N : Nat} {φ : Fm} (hφ : ∀ k, k < N → φ k = some ⟨k, 0, 0, 0⟩) : ∀ l : List Value, VRs φ (l.map (up N)) l
  | [] => .nil
  | v :: l => .cons (up_vr hφ v) (ups_vr hφ l)
def h0 (W : World) : GH := fun k => match W.heap[k]? with
  | some (.cells c _ _) => some ⟨c.toList.map (qQ3 W.heap.size), 0, false, false⟩
  | _ => none
def φ0 (N : Nat) : Fm := fun k => if k < N then some ⟨k, 0, 0, 0⟩ else none
theorem φ0_lt {N k : Nat} (h : k < N) : φ0 N k = some ⟨k, 0, 0, 0⟩ := by simp [φ0, h]
theorem h0_sim (W : World) : Sim W.heap.size (φ0 W.heap.size) (h0 W) W where
  ini k hk := φ0_lt hk
  big := Nat.le_refl _
  fin := ⟨W.heap.size, fun k hk => by simp [φ0]; omega⟩
  dom k B hk _ := by
    unfold h0 at hk
    split at hk
    · rename_i c t fz hh
      have hlt : k < W.heap.size := by
        rcases Nat.lt_or_ge k W.heap.size with h | h
        · exact h
        · rw [Array.getElem?_eq_none h] at hh; cases hh
      cases hk
      refine ⟨_, φ0_lt hlt, ⟨hlt, fun i v hv => ?_, rfl, fun h => by simp at h, fun h => by simp at h, fun h => by simp at h, fun h => by simp at h⟩⟩
      simp only [List.getElem?_map, Option.map_eq_some_iff] at hv
      obtain ⟨u, hu, rfl⟩ := hv
      refine ⟨u, ?_, zH5 (fun k hk => φ0_lt hk) u⟩
      simp only [World.cell?, hh, Nat.zero_add]
      simpa using hu
    · cases hk
  sep k k' B B' f f' hne hk hk' hf hf' hb := by
    unfold φ0 at hf hf'
    split at hf <;> split at hf' <;> simp_all
    subst hf; subst hf'
    exact absurd hb hne
  rng k f hf := by
    unfold φ0 at hf
    split at hf
    · cases hf; assumption
    · cases hf
  mm := by
    have noM : ∀ k B, h0 W k = some B → fM B = false := fun k B hk => by
      unfold h0 at hk
      split at hk
      · rename_i c t fz hh
        cases hk
        cases hm : fM ⟨c.toList.map (qQ3 W.heap.size), 0, false, false⟩ with
        | false => rfl
        | true =>
          obtain ⟨v0, l, el, nv⟩ := qJ1 hm
          simp only at el
          have hv : VRs (φ0 W.heap.size) (c.toList.map (qQ3 W.heap.size)) c.toList := qU8 (fun k hk => φ0_lt hk) _
          rw [el] at hv
          obtain ⟨v', _, hvv⟩ := hv.get 0 _ rfl
          exact (nv _ _ hvv).elim
      · cases hk
    refine ⟨fun k B hk hm => ?_, fun k k' B B' f f' _ hk _ hm _ => ?_, 0, fun k B _ hk => noM k B hk⟩
    · rw [noM k B hk] at hm; cases hm
    · rw [noM _ B hk] at hm; cases hm
theorem GTri.calls {P : Program} {W : World} {f : FuncId} {args : Array Value} (hG : P.globals.size ≤ W.heap.size) (hf : vC P f = true) (g : GTri P W.heap.size f (args.toList.map (up W.heap.size)) (h0 W) fun v _ => v = .bool true) :
    Calls P f args W fun e W' => e = .returned (.bool true) ∧ RowKit.Below W.heap.size W W' := by
  rcases g hG _ W args (h0_sim W) (ups_vr (fun k hk => φ0_lt hk) _) with ⟨_, h⟩ | ⟨v, v', φ', h', w', h1, _⟩
  · refine h.mono ?_
    rintro e w' ⟨v, v', φ', h', rfl, _, _, hv, hb, rfl⟩
    cases hv
    exact ⟨rfl, hb.kit⟩
  · rw [gQ hf] at h1
    cases h1
theorem qN5 {W : World} {a : Addr} {v : Value} (h : W.cell? a = some v) : a.spot = none ∧ a.block < W.heap.size ∧ ∃ c t fz, W.heap[a.block]? = some (.cells c t fz) ∧ c[a.off]? = some v := by
  unfold World.cell? at h
  split at h
  · rename_i c t fz hh
    split at h
    · cases h
    · rename_i hs
      refine ⟨by simpa using hs, ?_, c, t, fz, hh, h⟩
      rcases Nat.lt_or_ge a.block W.heap.size with h | h
      · exact h
      · rw [Array.getElem?_eq_none h] at hh; cases hh
  · cases h
theorem qW5 {W : World} {a : Addr} (xs : List Value) (hx : ∀ (i : Nat) v, xs[i]? = some v → W.cell? (a.add i) = some v) : wA (h0 W) a xs.length = some (xs.map (qQ3 W.heap.size)) := by
  cases xs with
  | nil => simp [wA]
  | cons x r =>
    have h1 := hx 0 x rfl
    obtain ⟨b, o, s⟩ := a
    have hs : s = none := by
      have := World.cell?_spot h1
      simpa [Addr.add] using this
    subst hs
    simp only [gU] at hx h1
    obtain ⟨_, _, c, t, fz, hh, hc⟩ := qN5 h1
    simp only [Nat.add_zero] at hc
    simp only at hh
    have hB : h0 W b = some ⟨c.toList.map (qQ3 W.heap.size), 0, false, false⟩ := by simp [h0, hh]
    have hall : ∀ i, i < (x :: r).length → c[o + i]? = (x :: r)[i]? := fun i hi => by
      have e : (x :: r)[i]? = some (x :: r)[i] := by simp [hi]
      obtain ⟨_, _, c', t', fz', hh', hc'⟩ := qN5 (hx i _ e)
      simp only at hh' hc'
      rw [hh] at hh'
      cases hh'
      rw [hc', e]
    refine yF hB ?_ (by simp)
    apply List.ext_getElem?
    intro i
    by_cases hi : i < (x :: r).length
    · rw [List.getElem?_take_of_lt hi]
      simp only [List.getElem?_drop, List.getElem?_map, Array.getElem?_toList]
      rw [hall i hi]
    · rw [List.getElem?_take_eq_none (by omega), List.getElem?_eq_none (by simp at hi ⊢; omega)]
def ofI (n : Int) : UInt8 := UInt8.ofNat n.toNat
theorem bv_ofI {n : Int} (h : (Lit.int .u8 n).wf = true) : bv (ofI n) = .int .u8 n := by
  have := bounds_u8 h
  simp only [bv, ofI, UInt8.toNat_ofNat', Nat.reducePow]
  congr 1
  omega
section
variable {H : Type} {enc : TypeId × Value → H} {P : Program} {W : World} {b0 base : Nat} {t : TypeId} {v : Value} {d : DataW H} {ps : List MemPlace} {r : Reach}
end
theorem lM {H : Type} {enc : TypeId × Value → H} {P : Program} {W W' : World} (hl : laidOutB P = true) (bel : RowKit.Below W.heap.size W W') : ∀ {ts : List TypeId} {vs : List Value} {ds : List (DataW H)} {ps : List MemPlace},
    ts.all (fun t => P.readableRec t && decide (t < P.types.size)) = true → DataW.TrodAll enc P W 0 (fun _ => true) true ts vs ds ps → (∀ x ∈ ps, x.block < W.heap.size) →
    DataW.TrodAll enc P W' 0 (fun b => decide (b < W.heap.size)) true ts vs ds ps
  | [], [], [], ps, _, h, _ => h
  | t :: ts, v :: vs, d :: ds, ps, ht, ⟨p, q, h1, h2, e⟩, hlt => by
    simp only [List.all_cons, Bool.and_eq_true, decide_eq_true_eq] at ht
    subst e
    exact ⟨p, q, RowKit.Below.trod hl ht.1.1 ht.1.2 h1 bel (fun x hx => hlt x (by simp [hx])), lM hl bel (by simpa using ht.2) h2 (fun x hx => hlt x (by simp [hx])), rfl⟩
  | [], _ :: _, _, _, _, h, _ => by simp [DataW.TrodAll] at h
  | [], [], _ :: _, _, _, h, _ => by simp [DataW.TrodAll] at h
  | _ :: _, [], _, _, _, h, _ => by simp [DataW.TrodAll] at h
  | _ :: _, _ :: _, [], _, _, h, _ => by simp [DataW.TrodAll] at h
def roomG (P : Program) : Bool := P.globals.size == 0 || (((begin P (fun _ _ => 0) default).world.heap[P.globals.size - 1]?).bind Obj.row?).isSome
theorem roomG_le {P : Program} (h : roomG P = true) {w : World} (hs : w.ShapedOpen P) : P.globals.size ≤ w.heap.size := by
  unfold roomG at h
  simp only [Bool.or_eq_true, beq_iff_eq] at h
  rcases h with h | h
  · omega
  · obtain ⟨⟨z, t⟩, hz⟩ := Option.isSome_iff_exists.1 h
    by_cases h0 : P.globals.size = 0
    · omega
    · obtain ⟨cs, hc, _⟩ := hs.1 _ z t (by omega) hz
      have : P.globals.size - 1 < w.heap.size := by
        rcases Nat.lt_or_ge (P.globals.size - 1) w.heap.size with h | h
        · exact h
        · rw [Array.getElem?_eq_none h] at hc; cases hc
      omega
section
variable {H : Type} {enc : TypeId × Value → H}
theorem law_post {P : Program} {fn : Func} {s : ChangeSpec} {W W' : World} {args : Array Value} {ds gs : List (DataW H)} {before : List MemPlace} {rt : TypeId}
    (hl : laidOutB P = true) (hr : fn.params.toList.all (fun t => P.readableRec t && decide (t < P.types.size)) = true) (hrt : fn.resultTypes = #[rt]) (hb : P.underlying rt = some .bool) (hv : s.vars = [])
    (hs : ∀ ds : List (DataW H), ds.length = fn.params.size → s.fn H ds = { results := [.lit (.bool true)], args := ds })
    (hW : DataW.Whole enc P fn.params.toList s.vars false W args.toList ds gs before) (bel : RowKit.Below W.heap.size W W') : s.post enc P fn false true false false W args (.bool true) W' := by
  have hW' := hW
  obtain ⟨p, q, hA, hV, rfl, hfz, hnd⟩ := hW
  rw [hv] at hV
  obtain ⟨rfl, rfl⟩ := trodVars_none hV
  have hlen : ∀ {ts : List TypeId} {vs : List Value} {ds : List (DataW H)} {ps : List MemPlace}, DataW.TrodAll enc P W 0 (fun _ => true) true ts vs ds ps → ds.length = ts.length := by
    intro ts
    induction ts with
    | nil => intro vs ds ps h; obtain ⟨_, rfl, _⟩ := trodAll_nil h; rfl
    | cons t ts ih => intro vs ds ps h; obtain ⟨_, _, _, _, _, _, _, rfl, _, _, h2⟩ := trodAll_cons h; simp [ih h2]
  have hL := hlen hA
  have e := hs (ds ++ []) (by simpa using hL)
  refine ⟨ds, [], p ++ [], [], p, [], hW', ?_, ?_, ?_, bel.frame _, fun h => by cases h⟩
  · rw [e, hrt]
    exact trodAll_mk1 (shut_bool hb _)
  · rw [e]
    simpa using lM hl bel hr hA (fun x hx => by simpa using hW'.lt x (by simpa using hx))
  · rw [e, hv]; rfl
end
end Go.Gh
namespace Go.Gh
open Go Go.RowKit
set_option linter.unusedVariables false
set_option linter.unusedSimpArgs false
theorem xE {h : GH} {cs : List Value} {K : Value → GH → Prop} (g : ∀ (k : Nat) (h' : GH), h' k = some ⟨cs, 0, true, false⟩ → HS h h' → (∀ j, j ≠ k → h' j = h j) → h k = none → K (.pointer (some ⟨k, 0, none⟩)) h') : zC2 h cs K := by
  intro k hk
  exact g k _ (zP _ _ _) (HS.new hk _) (fun j hj => zT _ _ hj) hk
theorem wP {h : GH} {cs : List Value} {K : Value → GH → Prop} (hc : cs.all zK = true) (g : ∀ (k : Nat) (h' : GH), h' k = some ⟨cs, 0, true, false⟩ → HS h h' → (∀ j, j ≠ k → h' j = h j) → h k = none → K (.pointer (some ⟨k, 0, none⟩)) h') : gBoxP h cs K := ⟨hc, xE g⟩
def qW8 (v : Value) (X Y : Prop) : Prop := ∃ t, v = .bool t ∧ (t = true → X) ∧ (t = false → Y)
theorem gif_t (X Y : Prop) : qW8 (.bool true) X Y = X := by simp [qW8]
theorem gif_f (X Y : Prop) : qW8 (.bool false) X Y = Y := by simp [qW8]
theorem qA0 {b : Bool} {X Y : Prop} (hX : b = true → X) (hY : b = false → Y) : qW8 (.bool b) X Y := ⟨b, rfl, hX, hY⟩
theorem qR {P : Program} {N nt : Nat} {Q : GQ} {e : Env} {h : GH} {c : Operand} {x y : Code} (g : qW8 (ev e c) (GW P N nt x Q e h) (GW P N nt y Q e h)) : GW P N nt (.cond c x y) Q e h := by
  obtain ⟨t, h1, h2, h3⟩ := g
  exact gw_cond h1 h2 h3
def Lw (ro : Option Nat) (P : Program) (c : Code) (Q : Exit → Act → World → Prop) (a : Act) (w : World) : Prop :=
  ∀ (b : Frame) (k : List Item) (cs : List Frame), b.roundOf = (FW ro).round → (FW ro).fn b.fn → (FW ro).room (cs.length + 1 + 0) → ∃ e a' w', Q e a' w' ∧ ArrivesIn (Machine.fenced P (FW ro)) P (lone (b.atR a (.code c :: .inLoop c :: k)) cs w) b k cs e a' w'
def GL (P : Program) (N nt : Nat) (c : Code) (Q : GQ) (e : Env) (h : GH) : Prop :=
  qV P nt c = true → P.globals.size ≤ N → ∀ φ w (a : Act), Sim N φ h w → Rel φ nt e a.tmps → ∀ {B : Nat}, DOk B w a.defers → ∀ ro, (ro = none ∨ zR0 c = true) → Lw ro P c (Lift N nt B φ w Q) a w
theorem dU {P : Program} {N nt : Nat} {Q : GQ} {e : Env} {h : GH} {c : Code} (g : GL P N nt c Q e h) : GW P N nt (.loop c) Q e h := by
  intro ok hG φ w a s r B hd ro hn b k cs hro hb hr
  obtain ⟨e', a', w', hq, harr⟩ := g ok hG φ w a s r hd ro hn b k cs hro hb hr
  exact ⟨e', a', w', hq, .of_steps (.one (fenced_calm hb hr rfl) stepR_loop) harr⟩
theorem xJ {P : Program} {N nt : Nat} {Q : GQ} {e : Env} {h : GH} {c : Code} (g : GW P N nt c (rN (GL P N nt c Q) Q) e h) : GL P N nt c Q e h := by
  intro ok hG φ w a s r B hd ro hn b k cs hro hb hr
  obtain ⟨x, a₁, w₁, l, harr⟩ := g ok hG φ w a s r hd ro hn b (.inLoop c :: k) cs hro hb hr
  rcases l.at with ⟨rfl, e', h', φ', h2, h3, h4, h5, h6, h7⟩ | ⟨hne, gx, e', h', φ', hgx, hx, h2, h3, h4, h5, h6, h7⟩
  · obtain ⟨e₂, a₂, w₂, l₂, harr₂⟩ := h7 ok hG φ' w₁ a₁ h4 h5 h2 ro hn b k cs hro hb hr
    exact ⟨e₂, a₂, w₂, l₂.step h3 h6, .of_steps (StepsIn.trans harr (.one (fenced_calm hb hr rfl) stepR_inLoop)) harr₂⟩
  · have hl : Lift N nt B φ w Q x a₁ w₁ := ⟨gx, e', h', φ', hx, h2, h3, h4, h5, h6, by cases gx <;> first | exact absurd rfl hgx | exact h7⟩
    cases x with
    | normal => exact absurd rfl hne
    | exit id => exact ⟨_, a₁, w₁, hl, .pass (x := .inLoop c) rfl (fun _ _ => .inl (by simp)) harr⟩
    | goto l => exact ⟨_, a₁, w₁, hl, .pass (x := .inLoop c) rfl (fun _ _ => .inl (by simp)) harr⟩
    | ret => exact ⟨_, a₁, w₁, hl, .pass (x := .inLoop c) rfl (fun _ _ => .inl (by simp)) harr⟩
    | panic ch => exact ⟨_, a₁, w₁, hl, .pass (x := .inLoop c) rfl (fun _ _ => .inl (by simp)) harr⟩
    | outgrown => exact ⟨_, a₁, w₁, hl, .pass (x := .inLoop c) rfl (fun _ _ => .inl (by simp)) harr⟩
theorem HS.upd {a b c : GH} {k : Nat} (s : HS a b) (n : a k = none) (f : ∀ j, j ≠ k → c j = b j) : HS a c := fun j B e => by
  rw [f j (fun e' => by rw [e', n] at e; cases e)]
  exact s j B e
theorem yA {h : GH} {k j : Nat} {B : GB} (a : h k = some B) (b : h j = none) : k ≠ j := by
  rintro rfl
  rw [a] at b; cases b
theorem qH {P : Program} {h : GH} {k : Nat} {B : GB} {t o : Nat} (hk : h k = some B) (hz : vG P t = some (false, 1)) : wZ P t h (.pointer (some ⟨k, o, none⟩)) = B.cells[o]? := by
  cases hc : B.cells[o]? with
  | some v => exact zI9 hk hz hc
  | none =>
    simp only [wZ, hz, wA]
    rw [if_neg (by decide)]
    simp only [hk]
    have := List.getElem?_eq_none_iff.1 hc
    rw [if_neg (by omega)]
    rfl
theorem zI {P : Program} {h : GH} {k : Nat} {B : GB} {t n : Nat} (hk : h k = some B) (hz : vG P t = some (true, n)) (hc : B.cells.length = n) : wZ P t h (.pointer (some ⟨k, 0, none⟩)) = some (.agg B.cells.toArray) := zR7 hk hz hc
theorem wL {P : Program} {h : GH} {k : Nat} {B : GB} {t n : Nat} {b : Bool} {v : Value} {K : Value → GH → Prop} (hk : h k = some B) (hz : vG P t = some (b, n)) (hw : B.wr = true) (hn : n ≠ 0) (hl : (vcells v).length = n) (hB : B.cells.length = n) (hc : (vcells v).all zK = true)
    (g : ∀ h', h' k = some { B with cells := vcells v } → (∀ j, j ≠ k → h' j = h j) → K U h') : qV9 (dI P t h (.pointer (some ⟨k, 0, none⟩)) v) K := by
  refine ⟨yB h k { B with cells := vcells v }, ?_, g _ (zP _ _ _) (fun j hj => zT _ _ hj)⟩
  have hs : v.cells.size = n := by rw [← hl, ← vM]; simp
  simp only [dI, hz]
  rw [if_pos ⟨hs, by rw [vM]; exact hc⟩]
  simp only [kQ, hk, vM]
  rw [if_neg (by omega), if_pos ⟨hw, by omega⟩]
  congr 3
  simp only [jE, List.take_zero, List.nil_append, Nat.zero_add]
  rw [List.drop_eq_nil_of_le (by omega), List.append_nil]
theorem zW {P : Program} {h : GH} {k : Nat} {B : GB} {t o : Nat} {v : Value} {K : Value → GH → Prop} (hk : h k = some B) (hz : vG P t = some (false, 1)) (hw : B.wr = true) (ho : o < B.cells.length) (hv : vcells v = [v]) (hc : zK v = true)
    (g : ∀ h', h' k = some { B with cells := B.cells.set o v } → (∀ j, j ≠ k → h' j = h j) → K U h') : qV9 (dI P t h (.pointer (some ⟨k, o, none⟩)) v) K := by
  refine ⟨yB h k { B with cells := B.cells.set o v }, ?_, g _ (zP _ _ _) (fun j hj => zT _ _ hj)⟩
  have hs : v.cells.size = 1 := by
    have : v.cells.toList.length = 1 := by rw [vM, hv]; rfl
    simpa using this
  simp only [dI, hz]
  rw [if_pos ⟨hs, by rw [vM, hv]; simp [hc]⟩]
  simp only [kQ, hk, vM, hv]
  rw [if_neg (by simp), if_pos ⟨hw, by simp; omega⟩]
  congr 3
  simp only [jE, List.length_singleton]
  rw [List.set_eq_take_append_cons_drop, if_pos ho]
  simp
theorem wrap64 {x : Int} (h1 : -9223372036854775808 ≤ x) (h2 : x ≤ 9223372036854775807) : IntKind.wrap .i64 x = x := by
  simp [IntKind.wrap, IntKind.signed, IntKind.bits]
  split <;> omega
theorem sJ {x : Int} (h1 : 0 ≤ x) (h2 : x ≤ 255) : IntKind.wrap .u8 x = x := by
  simp [IntKind.wrap, IntKind.signed, IntKind.bits]
  omega
theorem qI7 {x : Int} (h1 : 0 ≤ x) (h2 : x ≤ 4294967295) : IntKind.wrap .u32 x = x := by
  simp [IntKind.wrap, IntKind.signed, IntKind.bits]
  omega
theorem fK {x : Int} (h1 : 0 ≤ x) (h2 : x ≤ 18446744073709551615) : IntKind.wrap .u64 x = x := by
  simp [IntKind.wrap, IntKind.signed, IntKind.bits]
  omega
theorem qU6 {P : Program} {N : Nat} {e : Env} {h : GH} {b : Bool} {ds : List (Option Tmp)} {r : List Oper} {K : Env → GH → Prop} {d : Option Tmp} {op : Op} (ht : b = true → qN P N e h (fX P N ds r K e d) op) (hf : b = false → fX P N ds r K e d UD h) : gX (some b) true P N ds r K e h d op := qJ9 ht hf
theorem want_f {P : Program} {N : Nat} {e : Env} {h : GH} {b : Bool} {ds : List (Option Tmp)} {r : List Oper} {K : Env → GH → Prop} {d : Option Tmp} {op : Op} (ht : b = true → fX P N ds r K e d UD h) (hf : b = false → qN P N e h (fX P N ds r K e d) op) : gX (some b) false P N ds r K e h d op := qJ9 hf ht
theorem gEq_nil {P : Program} {t e : TypeId} (hu : P.underlying t = some (.slice e)) (cst : Bool) (a : Option Addr) (n c : Nat) : qX9 P t cst (.slice a n c) (.slice none 0 0) = some a.isNone := by
  cases a <;> simp [qX9, hu]
theorem gLen_s {P : Program} {t e : TypeId} (hu : P.underlying t = some (.slice e)) (a : Option Addr) (n c : Nat) : zS1 P t (.slice a n c) = some (n : Int) := by simp [zS1, hu]
theorem RB.cut {P : Program} {h : GH} {a : Option Addr} {c n : Nat} {l : List UInt8} (r : RB h (.slice a n c) l) {t e : TypeId} {b : Bool} (ht : P.underlying t = some (.slice e)) (he : vG P e = some (b, 1)) {hi : Int} (h0 : 0 ≤ hi) (h1 : hi ≤ l.length) (k : IntKind) :
    ∃ a' c', vW P t h (.slice a n c) none (some (.int k hi)) none = some (.slice a' hi.toNat c') ∧ RB h (.slice a' hi.toNat c') (l.take hi.toNat) ∧ (a.isNone = true → a' = none) ∧ (a.isNone = false → a' = a ∧ c' = c) := by
  rcases r with ⟨c2, hv, rfl⟩ | ⟨ad, c2, hv, h2, h3⟩
  · cases hv
    simp at h1
    obtain rfl : hi = 0 := by omega
    exact ⟨none, 0, by simp [vW, ht, he, gM, dP, jQ], .inl ⟨0, rfl, by simp⟩, fun _ => rfl, fun h => by simp at h⟩
  · cases hv
    have hh : hi.toNat ≤ l.length := by omega
    have hl : (l.take hi.toNat).length = hi.toNat := by simp; omega
    refine ⟨some ⟨ad.block, ad.off, ad.spot⟩, c, ?_, .inr ⟨⟨ad.block, ad.off, ad.spot⟩, c, by rw [hl], ?_, by omega⟩, fun h => by simp at h, fun _ => ⟨by simp, rfl⟩⟩
    · have hb : 0 ≤ hi ∧ hi ≤ ((max l.length (c / 2) : Nat) : Int) := ⟨h0, by omega⟩
      simp only [vW, ht, he, gM, jQ, hb, and_self, if_true, dP]
      simp
    · rw [hl]
      have := tR h2 0 hi.toNat (by omega)
      simpa [List.map_take] using this
theorem RB.idx {P : Program} {h : GH} {v : Value} {l : List UInt8} (r : RB h v l) {t e : TypeId} (ht : P.underlying t = some (.slice e)) (he : vG P e = some (false, 1)) {i : Int} (h0 : 0 ≤ i) (h1 : i < l.length) :
    ∃ a, zJ P t v i = some (.pointer (some a)) ∧ wZ P e h (.pointer (some a)) = some (bv (l.getD i.toNat 0)) := by
  have hlt : i.toNat < l.length := by omega
  obtain ⟨p, h2, h3⟩ := r.at ht he (i := i.toNat) (b := l.getD i.toNat 0) (by simp [List.getD, hlt])
  rw [Int.toNat_of_nonneg h0] at h2
  have : ∃ a, p = .pointer (some a) := by
    unfold wZ at h3
    split at h3
    · exact ⟨_, rfl⟩
    · cases h3
  obtain ⟨a, rfl⟩ := this
  exact ⟨a, h2, h3⟩
def qI6 (l : List UInt8) : ByteArray := ⟨l.toArray⟩
theorem mapM_bv (f : Value → Option UInt8) (hf : ∀ b : UInt8, f (bv b) = some b) (l : List UInt8) : (l.map bv).mapM f = some l := by
  induction l with
  | nil => rfl
  | cons b l ih => simp [List.mapM_cons, hf, ih]
theorem RB.str {h : GH} {v : Value} {l : List UInt8} (r : RB h v l) : gStr h v = some (qI6 l) := by
  rcases r with ⟨c, rfl, rfl⟩ | ⟨ad, c, rfl, h2, h3⟩
  · rfl
  · simp only [gStr, h2]
    rw [mapM_bv _ (fun b => by simp [bv])]
    rfl
theorem RB.conv {P : Program} {h : GH} {a : Option Addr} {n c : Nat} {l : List UInt8} (r : RB h (.slice a n c) l) {s d e : TypeId} (hs : P.underlying s = some (.slice e)) (he : P.underlying e = some (.int .u8)) (hd : P.underlying d = some .string) :
    uA P s d h (.slice a n c) = some (.string (qI6 l)) := by
  simp [uA, sY, hs, he, hd, r.str]
theorem kM (l m : List UInt8) : ((qI6 l).toList == (qI6 m).toList) = (l == m) := by
  have : ∀ l : List UInt8, (qI6 l).toList = l := fun l => by
    simp [qI6, ByteArray.toList_eq]
  rw [this, this]
theorem qO5 {a b : Nat} (ha : a < 9223372036854775808) (hb : b < 9223372036854775808) : bits .and .i64 (a : Int) (b : Int) = ((a &&& b : Nat) : Int) ∧ bits .or .i64 (a : Int) (b : Int) = ((a ||| b : Nat) : Int) ∧ bits .xor .i64 (a : Int) (b : Int) = ((a ^^^ b : Nat) : Int) := by
  have h1 : a &&& b < 2 ^ 63 := Nat.and_lt_two_pow _ (by omega)
  have h2 : a ||| b < 2 ^ 63 := Nat.or_lt_two_pow (by omega) (by omega)
  have h3 : a ^^^ b < 2 ^ 63 := Nat.xor_lt_two_pow (by omega) (by omega)
  have e1 : a % 18446744073709551616 = a := Nat.mod_eq_of_lt (by omega)
  have e2 : b % 18446744073709551616 = b := Nat.mod_eq_of_lt (by omega)
  have q1 : (BitVec.ofNat 64 a &&& BitVec.ofNat 64 b).toNat = a &&& b := by simp only [BitVec.toNat_and, BitVec.toNat_ofNat, Nat.reducePow, e1, e2]
  have q2 : (BitVec.ofNat 64 a ||| BitVec.ofNat 64 b).toNat = a ||| b := by simp only [BitVec.toNat_or, BitVec.toNat_ofNat, Nat.reducePow, e1, e2]
  have q3 : (BitVec.ofNat 64 a ^^^ BitVec.ofNat 64 b).toNat = a ^^^ b := by simp only [BitVec.toNat_xor, BitVec.toNat_ofNat, Nat.reducePow, e1, e2]
  simp only [bits, IntKind.bits, BitVec.ofInt_natCast]
  refine ⟨?_, ?_, ?_⟩
  · show IntKind.wrap .i64 ((BitVec.ofNat 64 a &&& BitVec.ofNat 64 b).toNat : Int) = _
    rw [q1]; apply wrap64 <;> omega
  · show IntKind.wrap .i64 ((BitVec.ofNat 64 a ||| BitVec.ofNat 64 b).toNat : Int) = _
    rw [q2]; apply wrap64 <;> omega
  · show IntKind.wrap .i64 ((BitVec.ofNat 64 a ^^^ BitVec.ofNat 64 b).toNat : Int) = _
    rw [q3]; apply wrap64 <;> omega
theorem qZ6 {a b : Nat} (ha : a < 256) (hb : b < 256) : bits .and .u8 (a : Int) (b : Int) = ((a &&& b : Nat) : Int) ∧ bits .or .u8 (a : Int) (b : Int) = ((a ||| b : Nat) : Int) ∧ bits .xor .u8 (a : Int) (b : Int) = ((a ^^^ b : Nat) : Int) := by
  have h1 : a &&& b < 2 ^ 8 := Nat.and_lt_two_pow _ (by omega)
  have h2 : a ||| b < 2 ^ 8 := Nat.or_lt_two_pow (by omega) (by omega)
  have h3 : a ^^^ b < 2 ^ 8 := Nat.xor_lt_two_pow (by omega) (by omega)
  have e1 : a % 256 = a := Nat.mod_eq_of_lt (by omega)
  have e2 : b % 256 = b := Nat.mod_eq_of_lt (by omega)
  have q1 : (BitVec.ofNat 8 a &&& BitVec.ofNat 8 b).toNat = a &&& b := by simp only [BitVec.toNat_and, BitVec.toNat_ofNat, Nat.reducePow, e1, e2]
  have q2 : (BitVec.ofNat 8 a ||| BitVec.ofNat 8 b).toNat = a ||| b := by simp only [BitVec.toNat_or, BitVec.toNat_ofNat, Nat.reducePow, e1, e2]
  have q3 : (BitVec.ofNat 8 a ^^^ BitVec.ofNat 8 b).toNat = a ^^^ b := by simp only [BitVec.toNat_xor, BitVec.toNat_ofNat, Nat.reducePow, e1, e2]
  simp only [bits, IntKind.bits, BitVec.ofInt_natCast]
  refine ⟨?_, ?_, ?_⟩
  · show IntKind.wrap .u8 ((BitVec.ofNat 8 a &&& BitVec.ofNat 8 b).toNat : Int) = _
    rw [q1]; apply sJ <;> omega
  · show IntKind.wrap .u8 ((BitVec.ofNat 8 a ||| BitVec.ofNat 8 b).toNat : Int) = _
    rw [q2]; apply sJ <;> omega
  · show IntKind.wrap .u8 ((BitVec.ofNat 8 a ^^^ BitVec.ofNat 8 b).toNat : Int) = _
    rw [q3]; apply sJ <;> omega
theorem pQ (a b : Nat) : Int.fdiv (a : Int) (b : Int) = ((a / b : Nat) : Int) := by
  rw [Int.fdiv_eq_ediv_of_nonneg _ (by omega)]
  exact (Int.natCast_ediv a b).symm
theorem kD (a b : Nat) : Int.tdiv (a : Int) (b : Int) = ((a / b : Nat) : Int) := (Int.ofNat_tdiv a b).symm
theorem tmod_nat (a b : Nat) : Int.tmod (a : Int) (b : Int) = ((a % b : Nat) : Int) := (Int.ofNat_tmod a b).symm
def xA (l : List UInt8) (i : Nat) : Int := match l[i / 8]? with
  | none => -1
  | some b => if b.toNat.testBit (7 - i % 8) = true then 1 else 0
theorem and_pow (x i : Nat) : x &&& 2 ^ i = if x.testBit i = true then 2 ^ i else 0 := by
  apply Nat.eq_of_testBit_eq
  intro j
  rw [Nat.testBit_and, Nat.testBit_two_pow]
  by_cases h : i = j
  · subst h
    cases hx : x.testBit i <;> simp [Nat.testBit_two_pow]
  · cases hx : x.testBit i <;> simp [Nat.testBit_two_pow, h]
theorem bit_mask (b : UInt8) (i : Nat) (h63 : i < 9223372036854775808) : bits .and .u8 (b.toNat : Int) (Int.fdiv 128 (2 ^ min (bits .and .i64 (i : Int) 7).toNat 8)) = (if b.toNat.testBit (7 - i % 8) = true then ((2 ^ (7 - i % 8) : Nat) : Int) else 0) := by
  have e1 : bits .and .i64 (i : Int) ((7 : Nat) : Int) = ((i % 8 : Nat) : Int) := by
    rw [(qO5 h63 (by omega)).1]
    congr 1
    exact Nat.and_two_pow_sub_one_eq_mod i 3
  have e2 : bits .and .i64 (i : Int) 7 = ((i % 8 : Nat) : Int) := e1
  rw [e2, Int.toNat_natCast, Nat.min_eq_left (by omega)]
  have e3 : Int.fdiv 128 (2 ^ (i % 8)) = ((2 ^ (7 - i % 8) : Nat) : Int) := by
    have h := pQ 128 (2 ^ (i % 8))
    rw [Int.natCast_pow] at h
    have h2 : 128 / 2 ^ (i % 8) = 2 ^ (7 - i % 8) := by
      rw [show (128 : Nat) = 2 ^ 7 from rfl, Nat.pow_div (by omega) (by omega)]
    rw [h2] at h
    exact h
  have hlt : 2 ^ (7 - i % 8) < 256 := by
    have : 2 ^ (7 - i % 8) ≤ 2 ^ 7 := Nat.pow_le_pow_right (by omega) (by omega)
    omega
  rw [e3, (qZ6 b.toNat_lt hlt).1, and_pow]
  cases b.toNat.testBit (7 - i % 8) <;> simp
theorem zU0 (b : UInt8) (k : Nat) (hk : k < 8) : bits .and .i64 (Int.fdiv (b.toNat : Int) (2 ^ min k 8)) 1 = (if b.toNat.testBit k = true then 1 else 0) := by
  have h := pQ b.toNat (2 ^ k)
  rw [Int.natCast_pow] at h
  rw [Nat.min_eq_left (by omega), show (2 : Int) ^ k = ((2 : Nat) : Int) ^ k from rfl, h]
  have hb := b.toNat_lt
  have hlt : b.toNat / 2 ^ k ≤ b.toNat := Nat.div_le_self _ _
  have e : bits .and .i64 ((b.toNat / 2 ^ k : Nat) : Int) ((1 : Nat) : Int) = _ := (qO5 (a := b.toNat / 2 ^ k) (b := 1) (by omega) (by omega)).1
  rw [show (1 : Int) = ((1 : Nat) : Int) from rfl, e, Nat.and_one_is_mod, Nat.testBit_eq_decide_div_mod_eq]
  have : b.toNat / 2 ^ k % 2 = 0 ∨ b.toNat / 2 ^ k % 2 = 1 := by omega
  rcases this with h | h <;> simp [h]
theorem qX0 {l : List UInt8} {j : Nat} (h : j / 8 < l.length) : xA l j = if (l.getD (j / 8) 0).toNat.testBit (7 - j % 8) = true then 1 else 0 := by
  simp [xA, List.getD, h]
theorem zL6 (b : UInt8) (k : Nat) (hk : k < 8) : bits .and .i64 (IntKind.i64.wrap (Int.fdiv (b.toNat : Int) (2 ^ min k IntKind.u8.bits))) 1 = (if b.toNat.testBit k = true then 1 else 0) := by
  have h := pQ b.toNat (2 ^ k)
  rw [Int.natCast_pow] at h
  have hb := b.toNat_lt
  have hlt : b.toNat / 2 ^ k ≤ b.toNat := Nat.div_le_self _ _
  have e : IntKind.i64.wrap (Int.fdiv (b.toNat : Int) (2 ^ min k IntKind.u8.bits)) = Int.fdiv (b.toNat : Int) (2 ^ min k 8) := by
    have e2 : Int.fdiv (b.toNat : Int) (2 ^ min k 8) = ((b.toNat / 2 ^ k : Nat) : Int) := by
      rw [Nat.min_eq_left (by omega)]; exact h
    have e3 : Int.fdiv (b.toNat : Int) (2 ^ min k IntKind.u8.bits) = ((b.toNat / 2 ^ k : Nat) : Int) := e2
    rw [e3, e2]
    clear e2 e3 h
    generalize b.toNat / 2 ^ k = q at *
    exact wrap64 (by omega) (by omega)
  rw [e]
  exact zU0 b k hk
theorem and7 {i : Nat} (h63 : i < 9223372036854775808) : bits .and .i64 (i : Int) 7 = ((i % 8 : Nat) : Int) := by
  have e1 : bits .and .i64 (i : Int) ((7 : Nat) : Int) = ((i % 8 : Nat) : Int) := by
    rw [(qO5 h63 (by omega)).1]
    congr 1
    exact Nat.and_two_pow_sub_one_eq_mod i 3
  exact e1
theorem zU1 (b : UInt8) (i : Nat) (h63 : i < 9223372036854775808) : (bits .and .u8 (b.toNat : Int) (Int.fdiv 128 (2 ^ min (i % 8) IntKind.u8.bits)) != 0) = b.toNat.testBit (7 - i % 8) := by
  have h := bit_mask b i h63
  rw [and7 h63, Int.toNat_natCast] at h
  have h' : bits .and .u8 (b.toNat : Int) (Int.fdiv 128 (2 ^ min (i % 8) IntKind.u8.bits)) = _ := h
  rw [h']
  cases b.toNat.testBit (7 - i % 8)
  · rfl
  · have : (2 : Nat) ^ (7 - i % 8) ≠ 0 := Nat.pos_iff_ne_zero.1 (Nat.two_pow_pos _)
    simp only [if_true]
    rw [bne_iff_ne]
    omega
def BUF (h : GH) (k s : Nat) (l : List UInt8) : Prop := h k = some ⟨l.map bv ++ List.replicate (s - l.length) (bv 0), 1, true, true⟩ ∧ l.length ≤ s
theorem qP0 {P : Program} {t u e k s n : Nat} {z : Value} {du : TypeDesc} {h : GH} {x : Value} {l l2 : List UInt8} {K : Value → GH → Prop} (hel : tF P t = some (e, 1, 1, z)) (hu : P.underlying u = some du) (hni : mY du = true)
    (hb : BUF h k s l) (hn : n = l.length) (hsrc : mR h 1 x = some (l2.length, l2.map bv)) (hs : l.length + l2.length ≤ s) (hs2 : s ≤ 140737488355328)
    (g : ∀ h', BUF h' k s (l ++ l2) → (∀ j, j ≠ k → h' j = h j) → K (.slice (some ⟨k, 0, none⟩) (n + l2.length) (2 * s)) h') : gN P t u h (.slice (some ⟨k, 0, none⟩) n (2 * s)) x K := by
  subst hn
  obtain ⟨hk, hl⟩ := hb
  refine .inl ⟨du, e, 1, 1, z, l2.length, l2.map bv, hu, hni, hel, hsrc, e, 1, 1, z, hel, by simp, rJ _, ?_⟩
  simp only
  by_cases hm : l2.length = 0
  · have : l2 = [] := List.eq_nil_of_length_eq_zero hm
    subst this
    exact .inl ⟨rfl, by simpa using g h ⟨by simpa using hk, by simpa using hl⟩ (fun _ _ => rfl)⟩
  · refine .inr ⟨by omega, by simp only [maxLen]; omega, by omega, .inr (.inl ⟨by omega, yB h k ⟨jE (l.map bv ++ List.replicate (s - l.length) (bv 0)) l.length (l2.map bv), 1, true, true⟩, ?_, ?_⟩)⟩
    · simp only [kQ, hk, Nat.zero_add, Nat.mul_one]
      rw [if_neg (by simpa using hm), if_pos (by simp; omega)]
    · refine g _ ⟨?_, by simp; omega⟩ (fun j hj => zT _ _ hj)
      rw [zP]
      congr 2
      simp only [jE, List.map_append]
      rw [List.take_append_of_le_length (by simp), List.take_of_length_le (by simp), List.append_assoc, List.append_assoc]
      congr 2
      rw [List.drop_append]
      simp only [List.length_map, List.length_append]
      rw [List.drop_eq_nil_of_le (by simp), List.nil_append, List.drop_replicate]
      congr 1
      omega
theorem BUF.rb {h : GH} {k s : Nat} {l : List UInt8} (b : BUF h k s l) : RB h (.slice (some ⟨k, 0, none⟩) l.length (2 * s)) l := by
  refine .inr ⟨⟨k, 0, none⟩, 2 * s, rfl, ?_, by have := b.2; omega⟩
  refine yF b.1 ?_ (by simp)
  simp
theorem BUF.ap {h0 h : GH} {k s : Nat} {l : List UInt8} (b : BUF h k s l) (hs : s = l.length) (hk : h0 k = none) : AP h0 h (.slice (some ⟨k, 0, none⟩) l.length (2 * s)) 1 := by
  refine .inr (.inr ⟨⟨k, 0, none⟩, l.length, 2 * s, _, rfl, by omega, b.1, rfl, rfl, rfl, ?_, hk⟩)
  simp; omega
theorem qO9 {P : Program} {t u e : Nat} {ik kx : IntKind} {h : GH} {s : Nat} {K : Value → GH → Prop} (hel : tF P t = some (e, 1, 1, .int .u8 0)) (hu : P.underlying u = some (.int ik)) (hs : 0 < s) (hs2 : s ≤ 140737488355328)
    (g : ∀ k h', BUF h' k s [] → HS h h' → h k = none → K (.slice (some ⟨k, 0, none⟩) s (2 * s)) h') : gN P t u h (.slice none 0 0) (.int kx s) K := by
  refine .inr ⟨ik, kx, e, 1, 1, .int .u8 0, s, hu, hel, rfl, rfl, rfl, hs, by simp only [maxLen]; omega, by omega, fun k hk => ?_⟩
  refine g k _ ⟨?_, by simp⟩ (HS.new hk _) hk
  rw [zP, wD _ rfl]
  simp [bv]
theorem fJ {P : Program} {t e es by_ len : Nat} {z : Value} {h : GH} {ps : List (Nat × Value)} {cs : List Value} {K : Value → GH → Prop} (hel : tF P t = some (e, es, by_, z)) (hz : zH2 z = true) (hl : len * es ≤ 16777216) (h0 : len ≠ 0)
    (hf : xZ (Shape.elems es).pl (uT z (len * es)) ps = some cs) (hc : cs.all zK = true)
    (g : ∀ k h', h' k = some ⟨cs, es, true, false⟩ → HS h h' → (∀ j, j ≠ k → h' j = h j) → h k = none → K (.slice (some ⟨k, 0, none⟩) len (2 * len + 1)) h') : gC P t h len ps K :=
  ⟨e, es, by_, z, cs, hel, hz, hl, hf, hc, fun hh => absurd hh h0, fun _ k hk => g k _ (zP _ _ _) (HS.new hk _) (fun j hj => zT _ _ hj) hk⟩
theorem yN {h : GH} {k n es : Nat} {wr tl : Bool} {l : List UInt8} (hk : h k = some ⟨l.map bv, es, wr, tl⟩) (hn : n = l.length) : RB h (.slice (some ⟨k, 0, none⟩) n (2 * n + 1)) l := by
  subst hn
  exact .inr ⟨⟨k, 0, none⟩, _, rfl, yF hk (by rw [List.drop_zero]; exact List.take_of_length_le (by simp)) (by simp), by omega⟩
theorem qL3 (n : Nat) (m : Nat) : (if (m : Int) < (n : Int) then (m : Int) else (n : Int)) = ((min n m : Nat) : Int) := by
  split <;> omega
theorem bv_nat (n : Nat) (h : n ≤ 255) : Value.int .u8 (n : Int) = bv (UInt8.ofNat n) := by
  simp [bv]; omega
theorem AP.weak {a b h : GH} {v : Value} {es : Nat} (s : HS a b) (p : AP b h v es) : AP a h v es := by
  rcases p with p | p | ⟨ad, n, c, B, h1, h2, h3, h4, h5, h6, h7, h8⟩
  · exact .inl p
  · exact .inr (.inl p)
  · exact .inr (.inr ⟨ad, n, c, B, h1, h2, h3, h4, h5, h6, h7, s.none_of h8⟩)
theorem qH8 {P : Program} {t u e es by_ : Nat} {z : Value} {du : TypeDesc} {h : GH} {x : Value} {K : Value → GH → Prop} (hel : tF P t = some (e, es, by_, z)) (hu : P.underlying u = some du) (hni : mY du = true) (hsrc : mR h es x = some (0, []))
    (g : K (.slice none 0 0) h) : gN P t u h (.slice none 0 0) x K :=
  .inl ⟨du, e, es, by_, z, 0, [], hu, hni, hel, hsrc, e, es, by_, z, hel, by simp, rfl, .inl ⟨rfl, g⟩⟩
theorem zD3 {P : Program} {t e : TypeId} (hu : P.underlying t = some (.slice e)) (n c : Nat) : zS3 P t (.slice none n c) = some 0 := by simp [zS3, hu]
theorem zJ3 {P : Program} {t e : TypeId} {b : Bool} {z : Nat} (hu : P.underlying t = some (.slice e)) (he : vG P e = some (b, z)) (h : GH) (k : IntKind) : vW P t h (.slice none 0 0) none (some (.int k 0)) none = some (.slice none 0 0) := by
  simp [vW, hu, he, gM, dP, jQ]
theorem zS0 {P : Program} {t e : TypeId} {b : Bool} {z : Nat} (hu : P.underlying t = some (.slice e)) (he : vG P e = some (b, z)) (h : GH) (k : IntKind) (a : Addr) (n c hi : Nat) (hh : hi ≤ max n (c / 2)) : vW P t h (.slice (some a) n c) none (some (.int k hi)) none = some (.slice (some a) hi c) := by
  have hb : 0 ≤ (hi : Int) ∧ (hi : Int) ≤ ((max n (c / 2) : Nat) : Int) := ⟨by omega, by omega⟩
  simp only [vW, hu, he, gM, jQ, hb, and_self, if_true, dP]
  simp
theorem zC0 {P : Program} {t e : TypeId} {b : Bool} {z : Nat} (hu : P.underlying t = some (.slice e)) (he : vG P e = some (b, z)) (h : GH) (k : IntKind) (a : Addr) (n c : Nat) : vW P t h (.slice (some a) n c) none (some (.int k 0)) none = some (.slice (some a) 0 c) := zS0 hu he h k a n c 0 (by omega)
theorem lG {n : Nat} (h : n ≤ 9223372036854775807) : IntKind.i64.wrap (n : Int) = n := wrap64 (by omega) (by omega)
theorem zA4 {n m : Nat} (h : n + m ≤ 9223372036854775807) : IntKind.i64.wrap ((n : Int) + (m : Int)) = ((n + m : Nat) : Int) := by
  rw [wrap64 (by omega) (by omega)]; omega
theorem qY7 (n : Nat) : decide ((n : Int) < 0) = false := decide_eq_false (by omega)
end Go.Gh
