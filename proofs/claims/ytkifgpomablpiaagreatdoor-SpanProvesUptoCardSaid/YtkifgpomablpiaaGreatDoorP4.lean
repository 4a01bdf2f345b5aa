/- Parts of this claim's proof, 4. No statement of the claim stands here. -/
import Derived.Test.YtkifgpomablpiaaGreatDoorP3
import Derived.CallsIn
import Derived.RangeFuncLeaves
import Derived.RangeFuncRecord
namespace Go.Gh
open Go Go.RowKit
set_option linter.unusedVariables false
set_option linter.unusedSimpArgs false
inductive GX | normal | exit (id : Nat) | ret
def GX.to : GX → Exit | .normal => .normal | .exit i => .exit i | .ret => .ret
abbrev GQ := GX → Env → GH → Prop
def FW (ro : Option Nat) : Fence := { Fence.wide with round := ro }
def qL1 (o : Oper) : Bool := match o.op with | .defer _ => false | _ => true
theorem ndef_ne {o : Oper} (h : qL1 o = true) : ∀ c, o.op ≠ .defer c := fun c e => by simp [qL1, e] at h
theorem op_in (ro : Option Nat) {P : Program} {o : Oper} {a : Act} {w : World} {next next' : Act → World → Prop} {Q : Exit → Act → World → Prop} (hnd : qL1 o = true) (hq : ¬ LetsOut Q) (hn : ∀ a w, next a w → next' a w) (h : o.wp P a w next Q) : o.wpIn (FW ro) 0 P a w next' Q := by
  refine ⟨fun _ _ => trivial, ?_⟩
  have e : o.semAt (FW ro).round a.eval = execOp a.eval o := Oper.semAt_eq _ _ _ (ndef_ne hnd)
  rw [e]
  unfold Oper.wp at h
  generalize (execOp a.eval o).run P w = r at h
  have hd : (FW ro).depth.isSome = true → 1 ≤ 0 := fun q => by simp [FW, Fence.wide] at q
  cases r with
  | ok x w' =>
    cases x with
    | value v => exact hn _ _ h
    | skip => exact hn _ _ h
    | defer d => exact hn _ _ h
    | enter f args =>
      refine ⟨hd, ?_⟩
      have h' : Calls P f args w' _ := h
      refine CallsIn.mono (callsIn_wide.2 h') fun e w2 r => ?_
      cases e with
      | returned v => exact hn _ _ r
      | panicked ch => exact r
      | outgrown => exact r
    | row row args =>
      refine ⟨hd, fun c cs _ => ?_⟩
      obtain ⟨v, w2, r, st⟩ := (h : Rows P row args w' _) c cs
      exact ⟨v, w2, hn _ _ r, stepsIn_wide.2 st⟩
    | _ => exact h.elim
  | halt x w' =>
    cases x with
    | panic v => exact h
    | _ => exact h.elim
theorem pB (ro : Option Nat) {P : Program} {ops : Array Oper} {Q : Exit → Act → World → Prop} (hnd : ops.all qL1 = true) (hq : ¬ LetsOut Q) : ∀ (l : List Nat) (a : Act) (w : World), wpOps P ops Q l a w → wpOpsIn (FW ro) 0 P ops Q l a w
  | [], a, w, h => h
  | i :: l, a, w, h => by
    simp only [wpOps] at h
    simp only [wpOpsIn]
    cases ho : ops[i]? with
    | none => rw [ho] at h; exact pB ro hnd hq l a w h
    | some o =>
      rw [ho] at h
      simp only at h ⊢
      split at h
      · rename_i hw
        rw [if_pos hw]
        rcases h with h | h
        · exact op_in ro (Array.all_eq_true_iff_forall_mem.1 hnd o (Array.mem_of_getElem? ho)) hq (fun a w q => pB ro hnd hq l a w q) h
        · exact absurd h.2 hq
      · rename_i hw
        rw [if_neg hw]
        exact ⟨fun _ _ => trivial, pB ro hnd hq l _ w h⟩
theorem zQ5 (ro : Option Nat) {P : Program} {id : Nat} {ops : Array Oper} {Q : Exit → Act → World → Prop} {a : Act} {w : World} (hnd : ops.all qL1 = true) (hq : ¬ LetsOut Q) (h : wpList P ops Q ops.toList a w) : (Code.region id ops false).wpIn (FW ro) 0 P Q a w :=
  wpIn_region (pB ro hnd hq _ _ _ (by rw [List.range_eq_range', ← Array.length_toList, wpOps_eq_wpList ops.toList 0 (by simp)]; exact h))
theorem draw_in (ro : Option Nat) {P : Program} {id : Nat} {ops : Array Oper} {Q : Exit → Act → World → Prop} {a : Act} {w : World} (hnd : ops.all qL1 = true) (hq : ¬ LetsOut Q) (h : ∀ t, wpOps P ops Q (Region.schedule (P.follows .mixedOrders) ops t) a { w with drawn := w.drawn + 1 }) : (Code.region id ops true).wpIn (FW ro) 0 P Q a w :=
  wpIn_region_draw fun t => pB ro hnd hq _ _ _ (h t)
def DOk (B : Nat) (w : World) (ds : List Deferred) : Prop := B ≤ w.heap.size ∧ ds.Pairwise (fun a b => a.target ≠ b.target) ∧ ∀ d ∈ ds, ∃ D, B ≤ D ∧ d = { target := .collected D, args := #[] } ∧ w.heap[D]? = some (.deferred (some []))
theorem DOk.nil (w : World) : DOk w.heap.size w [] := ⟨Nat.le_refl _, List.Pairwise.nil, fun d hd => by simp at hd⟩
theorem DOk.below {N B : Nat} {w w' : World} {ds : List Deferred} (h : DOk B w ds) (b : Below N w w') : DOk B w' ds := ⟨Nat.le_trans h.1 b.size, h.2.1, fun d hd => by
  obtain ⟨D, e0, e, h1⟩ := h.2.2 d hd
  exact ⟨D, e0, e, b.lp _ _ h1 rfl⟩⟩
def Lift (N nt B : Nat) (φ : Fm) (w : World) (Q : GQ) : Exit → Act → World → Prop := fun x a' w' =>
  ∃ gx e h φ', x = GX.to gx ∧ DOk B w' a'.defers ∧ Ext φ φ' ∧ Sim N φ' h w' ∧ Rel φ' nt e a'.tmps ∧ Below N w w' ∧ Q gx e h
theorem Lift.step {N nt B : Nat} {φ φ' : Fm} {w w' : World} {Q : GQ} (hE : Ext φ φ') (hB : Below N w w') {x : Exit} {a : Act} {w2 : World} (h : Lift N nt B φ' w' Q x a w2) : Lift N nt B φ w Q x a w2 := by
  obtain ⟨gx, e, h0, φ2, h1, h2, h3, h4, h5, h6, h7⟩ := h
  exact ⟨gx, e, h0, φ2, h1, h2, hE.trans h3, h4, h5, hB.trans h6, h7⟩
def rD (P : Program) (nt : Nat) (o : Oper) : Bool := zF1 nt o.dst && o.op.operands.all (tN P.globals.size)
def qV (P : Program) (nt : Nat) : Code → Bool
  | .skip | .exit _ | .ret => true
  | .region _ ops _ => ops.all (rD P nt) && ops.all qL1
  | .seq a b => qV P nt a && qV P nt b
  | .cond c a b => tN P.globals.size c && qV P nt a && qV P nt b
  | .block _ c => qV P nt c
  | .loop c => qV P nt c
  | .rangeFunc g ps a c => tN P.globals.size g && ps.all (fun t => decide (t < nt)) && qV P nt a && qV P nt c
  | _ => false
def zR0 : Code → Bool
  | .seq a b => zR0 a && zR0 b
  | .cond _ a b => zR0 a && zR0 b
  | .block _ c => zR0 c
  | .loop c => zR0 c
  | .rangeFunc .. => false
  | _ => true
def GW (P : Program) (N nt : Nat) (c : Code) (Q : GQ) (e : Env) (h : GH) : Prop :=
  qV P nt c = true → P.globals.size ≤ N → ∀ φ w (a : Act), Sim N φ h w → Rel φ nt e a.tmps → ∀ {B : Nat}, DOk B w a.defers → ∀ ro, (ro = none ∨ zR0 c = true) → c.wpIn (FW ro) 0 P (Lift N nt B φ w Q) a w
def Sub (e' e : Env) : Prop := ∀ i, lk e' i = U ∨ lk e' i = lk e i
theorem Rel.sub {φ : Fm} {nt : Nat} {e e' : Env} {t : Array Value} (r : Rel φ nt e t) (h : Sub e' e) : Rel φ nt e' t := ⟨r.size, fun i => by
  rcases h i with h | h
  · rw [h]; exact VR.u _ _
  · rw [h]; exact r.get i⟩
section
variable {P : Program} {N nt : Nat} {Q : GQ} {e : Env} {h : GH}
theorem GW.mono {c : Code} {Q' : GQ} (g : GW P N nt c Q e h) (hq : ∀ x e h, Q x e h → Q' x e h) : GW P N nt c Q' e h :=
  fun ok hG φ w a s r _ hd ro hn => wpIn_mono (g ok hG φ w a s r hd ro hn) fun x a w' ⟨gx, e, h0, φ2, h1, h2, h3, h4, h5, h6, h7⟩ => ⟨gx, e, h0, φ2, h1, h2, h3, h4, h5, h6, hq _ _ _ h7⟩
theorem gw_weak {c : Code} {e' : Env} (hs : Sub e' e) (g : GW P N nt c Q e' h) : GW P N nt c Q e h :=
  fun ok hG φ w a s r _ hd => g ok hG φ w a s (r.sub hs) hd
theorem qT (k : Q .normal e h) : GW P N nt .skip Q e h :=
  fun _ _ φ w a s r _ hd ro _ => wpIn_skip ⟨.normal, e, h, φ, rfl, hd, Ext.refl _, s, r, Below.refl _ _, k⟩
theorem qM (k : Q .ret e h) : GW P N nt .ret Q e h :=
  fun _ _ φ w a s r _ hd ro _ => wpIn_ret ⟨.ret, e, h, φ, rfl, hd, Ext.refl _, s, r, Below.refl _ _, k⟩
theorem xT {id : Nat} (k : Q (.exit id) e h) : GW P N nt (.exit id) Q e h :=
  fun _ _ φ w a s r _ hd ro _ => wpIn_exit ⟨.exit id, e, h, φ, rfl, hd, Ext.refl _, s, r, Below.refl _ _, k⟩
def rN (next : Env → GH → Prop) (Q : GQ) : GQ
  | .normal, e, h => next e h
  | x, e, h => Q x e h
theorem jV (next : Env → GH → Prop) (Q : GQ) (e : Env) (h : GH) : rN next Q .normal e h = next e h := rfl
theorem thenQ_x (next : Env → GH → Prop) (Q : GQ) (i : Nat) (e : Env) (h : GH) : rN next Q (.exit i) e h = Q (.exit i) e h := rfl
theorem thenQ_r (next : Env → GH → Prop) (Q : GQ) (e : Env) (h : GH) : rN next Q .ret e h = Q .ret e h := rfl
theorem Lift.at {B : Nat} {φ : Fm} {w : World} {x : Exit} {a : Act} {w' : World} (l : Lift N nt B φ w Q x a w') :
    (x = .normal ∧ ∃ e h φ', DOk B w' a.defers ∧ Ext φ φ' ∧ Sim N φ' h w' ∧ Rel φ' nt e a.tmps ∧ Below N w w' ∧ Q .normal e h) ∨ (x ≠ .normal ∧ ∃ gx e h φ', gx ≠ .normal ∧ x = GX.to gx ∧ DOk B w' a.defers ∧ Ext φ φ' ∧ Sim N φ' h w' ∧ Rel φ' nt e a.tmps ∧ Below N w w' ∧ Q gx e h) := by
  obtain ⟨gx, e, h0, φ2, h1, h2, h3, h4, h5, h6, h7⟩ := l
  cases gx with
  | normal => exact .inl ⟨h1, e, h0, φ2, h2, h3, h4, h5, h6, h7⟩
  | exit i => exact .inr ⟨by rw [h1]; simp [GX.to], _, e, h0, φ2, by simp, h1, h2, h3, h4, h5, h6, h7⟩
  | ret => exact .inr ⟨by rw [h1]; simp [GX.to], _, e, h0, φ2, by simp, h1, h2, h3, h4, h5, h6, h7⟩
theorem qK {x y : Code} (g : GW P N nt x (rN (GW P N nt y Q) Q) e h) : GW P N nt (.seq x y) Q e h := by
  intro ok hG φ w a s r B hd ro hn
  simp only [qV, Bool.and_eq_true] at ok
  refine wpIn_seq (wpIn_mono (g ok.1 hG φ w a s r hd ro (hn.imp id fun q => (Bool.and_eq_true_iff.1 q).1)) fun x a' w' l => ?_)
  rcases l.at with ⟨rfl, e', h', φ', h2, h3, h4, h5, h6, h7⟩ | ⟨hne, gx, e', h', φ', hgx, hx, h2, h3, h4, h5, h6, h7⟩
  · exact wpIn_mono (h7 ok.2 hG φ' w' a' h4 h5 h2 ro (hn.imp id fun q => (Bool.and_eq_true_iff.1 q).2)) fun _ _ _ l2 => l2.step h3 h6
  · have hl : Lift N nt B φ w Q x a' w' := ⟨gx, e', h', φ', hx, h2, h3, h4, h5, h6, by cases gx <;> first | exact absurd rfl hgx | exact h7⟩
    cases x <;> first | exact absurd rfl hne | exact hl
theorem gw_cond {c : Operand} {x y : Code} {t : Bool} (hc : ev e c = .bool t) (ht : t = true → GW P N nt x Q e h) (hf : t = false → GW P N nt y Q e h) : GW P N nt (.cond c x y) Q e h := by
  intro ok hG φ w a s r B hd ro hn
  simp only [qV, Bool.and_eq_true] at ok
  have hv := r.ev s hG ok.1.1
  rw [hc] at hv
  have hcv : a.eval c = .bool t := by generalize a.eval c = z at hv; cases hv; rfl
  refine wpIn_cond_split hcv (fun h1 => ?_) (fun h1 => ?_)
  · exact ht h1 ok.1.2 hG φ w a s r hd ro (hn.imp id fun q => (Bool.and_eq_true_iff.1 q).1)
  · exact hf h1 ok.2 hG φ w a s r hd ro (hn.imp id fun q => (Bool.and_eq_true_iff.1 q).2)
def tE (id : Nat) (Q : GQ) : GQ
  | .exit id', e, h => if id' = id then Q .normal e h else Q (.exit id') e h
  | x, e, h => Q x e h
theorem blockQ_n (id : Nat) (Q : GQ) (e : Env) (h : GH) : tE id Q .normal e h = Q .normal e h := rfl
theorem blockQ_r (id : Nat) (Q : GQ) (e : Env) (h : GH) : tE id Q .ret e h = Q .ret e h := rfl
theorem blockQ_x (id i : Nat) (Q : GQ) (e : Env) (h : GH) : tE id Q (.exit i) e h = if i = id then Q .normal e h else Q (.exit i) e h := rfl
theorem qS {id : Nat} {c : Code} (g : GW P N nt c (tE id Q) e h) : GW P N nt (.block id c) Q e h := by
  intro ok hG φ w a s r B hd ro hn
  refine wpIn_block (wpIn_mono (g ok hG φ w a s r hd ro hn) fun x a' w' l => ?_)
  obtain ⟨gx, e', h', φ', rfl, h2, h3, h4, h5, h6, h7⟩ := l
  cases gx with
  | normal => exact ⟨.normal, e', h', φ', rfl, h2, h3, h4, h5, h6, h7⟩
  | ret => exact ⟨.ret, e', h', φ', rfl, h2, h3, h4, h5, h6, h7⟩
  | exit id' =>
    simp only [GX.to, Exit.inBlock, tE] at h7 ⊢
    split
    · rename_i hid; rw [if_pos hid] at h7; exact ⟨.normal, e', h', φ', rfl, h2, h3, h4, h5, h6, h7⟩
    · rename_i hid; rw [if_neg hid] at h7; exact ⟨.exit id', e', h', φ', rfl, h2, h3, h4, h5, h6, h7⟩
theorem qG0 {F : Fence} {n : Nat} {P : Program} {c : Code} {Q : Exit → Act → World → Prop} (I : Nat → Act → World → Prop) {n0 : Nat} {a : Act} {w : World} (h₀ : I n0 a w)
    (round : ∀ m a w, I m a w → c.wpIn F n P (Exit.then (fun a' w' => ∃ m', m' < m ∧ I m' a' w') Q) a w) : (Code.loop c).wpIn F n P Q a w := by
  intro b k cs hro hb hr
  have key : ∀ j a w, I j a w → ∃ e a' w', Q e a' w' ∧ ArrivesIn (Machine.fenced P F) P (lone (b.atR a (.code c :: .inLoop c :: k)) cs w) b k cs e a' w' := by
    intro j
    induction j using Nat.strongRecOn with
    | _ j ih =>
      intro a w hI
      obtain ⟨e, a₁, w₁, hq, harr⟩ := round j a w hI b (.inLoop c :: k) cs hro hb hr
      cases e with
      | normal =>
        obtain ⟨m, hlt, hI₁⟩ := hq
        obtain ⟨e₂, a₂, w₂, hq₂, harr₂⟩ := ih m hlt a₁ w₁ hI₁
        exact ⟨e₂, a₂, w₂, hq₂, .of_steps (StepsIn.trans harr (.one (fenced_calm hb hr rfl) stepR_inLoop)) harr₂⟩
      | exit id => exact ⟨_, a₁, w₁, hq, .pass (x := .inLoop c) rfl (fun _ _ => .inl (by simp)) harr⟩
      | goto l => exact ⟨_, a₁, w₁, hq, .pass (x := .inLoop c) rfl (fun _ _ => .inl (by simp)) harr⟩
      | ret => exact ⟨_, a₁, w₁, hq, .pass (x := .inLoop c) rfl (fun _ _ => .inl (by simp)) harr⟩
      | panic ch => exact ⟨_, a₁, w₁, hq, .pass (x := .inLoop c) rfl (fun _ _ => .inl (by simp)) harr⟩
      | outgrown => exact ⟨_, a₁, w₁, hq, .pass (x := .inLoop c) rfl (fun _ _ => .inl (by simp)) harr⟩
  obtain ⟨e, a', w', hq, harr⟩ := key _ a w h₀
  exact ⟨e, a', w', hq, .of_steps (.one (fenced_calm hb hr rfl) stepR_loop) harr⟩
theorem qW6 {c : Code} (I : Nat → Env → GH → Prop) (n0 : Nat) {e0 : Env} (hs : Sub e0 e) (h0 : I n0 e0 h)
    (round : ∀ n e h, I n e h → GW P N nt c (rN (fun e' h' => ∃ m e'', m < n ∧ Sub e'' e' ∧ I m e'' h') Q) e h) : GW P N nt (.loop c) Q e h := by
  intro ok hG φ w a s r B hd ro hn
  have ok' : qV P nt c = true := ok
  refine qG0 (fun n a' w' => ∃ e' h' φ', DOk B w' a'.defers ∧ Ext φ φ' ∧ Sim N φ' h' w' ∧ Rel φ' nt e' a'.tmps ∧ Below N w w' ∧ I n e' h') (n0 := n0)
    ⟨e0, h, φ, hd, Ext.refl _, s, r.sub hs, Below.refl _ _, h0⟩ ?_
  rintro n a' w' ⟨e', h', φ', h2, h3, h4, h5, h6, h7⟩
  refine wpIn_mono (round n e' h' h7 ok' hG φ' w' a' h4 h5 h2 ro hn) fun x a2 w2 l => ?_
  rcases l.at with ⟨rfl, e2, g2, φ2, q2, q3, q4, q5, q6, m, e3, hm, hsub, hI⟩ | ⟨hne, gx, e2, g2, φ2, hgx, hx, q2, q3, q4, q5, q6, q7⟩
  · exact ⟨m, hm, e3, g2, φ2, q2, h3.trans q3, q4, q5.sub hsub, h6.trans q6, hI⟩
  · have hl : Lift N nt B φ w Q x a2 w2 := ⟨gx, e2, g2, φ2, hx, q2, h3.trans q3, q4, q5, h6.trans q6, by cases gx <;> first | exact absurd rfl hgx | exact q7⟩
    cases x <;> first | exact absurd rfl hne | exact hl
def qC (ds : List (Option Tmp)) (e : Env) (j : Nat) (w : Bool) : Option Bool :=
  match ds[j]? with
  | some (some t) => match lk e t with
    | .bool b => some b
    | .tuple ⟨[]⟩ => some (!w)
    | _ => none
  | _ => none
abbrev UD : Value := .tuple ⟨[]⟩
theorem VR.ud (φ : Fm) : VR φ UD undef := .tuple .nil
def fE (P : Program) (N : Nat) (ds : List (Option Tmp)) (l : List Oper) (K : Env → GH → Prop) (e : Env) (h : GH) : Prop :=
  match l with
  | [] => K e h
  | o :: r => match o.guard with
    | none => qN P N e h (fun v h' => fE P N ds r K (uH e o.dst v) h') o.op
    | some (j, w) => ∃ b, qC ds e j w = some b ∧ (if b = w then qN P N e h (fun v h' => fE P N ds r K (uH e o.dst v) h') o.op else fE P N ds r K (uH e o.dst UD) h)
def kops0 (P : Program) (N : Nat) (ds : List (Option Tmp)) (r : List Oper) (K : Env → GH → Prop) (e : Env) (d : Option Tmp) (v : Value) (h : GH) : Prop := fE P N ds r K (uH e d v) h
theorem zN6 : ∃ f : Program → Nat → List (Option Tmp) → List Oper → (Env → GH → Prop) → Env → Option Tmp → Value → GH → Prop, f = kops0 := ⟨_, rfl⟩
noncomputable def fX : Program → Nat → List (Option Tmp) → List Oper → (Env → GH → Prop) → Env → Option Tmp → Value → GH → Prop := Classical.choose zN6
theorem rU (P : Program) (N : Nat) (ds : List (Option Tmp)) (r : List Oper) (K : Env → GH → Prop) (e : Env) (d : Option Tmp) (v : Value) (h : GH) : fX P N ds r K e d v h = fE P N ds r K (uH e d v) h := by
  have e0 : fX = kops0 := Classical.choose_spec zN6
  rw [e0]; rfl
theorem zB4 (P : Program) (N : Nat) (ds : List (Option Tmp)) (r : List Oper) (K : Env → GH → Prop) (e : Env) (d : Option Tmp) : fX P N ds r K e d = fun v h => fE P N ds r K (uH e d v) h := by
  funext v h; exact rU ..
def gX (y : Option Bool) (w : Bool) (P : Program) (N : Nat) (ds : List (Option Tmp)) (r : List Oper) (K : Env → GH → Prop) (e : Env) (h : GH) (d : Option Tmp) (op : Op) : Prop :=
  ∃ b, y = some b ∧ (if b = w then qN P N e h (fX P N ds r K e d) op else fE P N ds r K (uH e d UD) h)
section
variable (P : Program) (N : Nat) (ds : List (Option Tmp)) (r : List Oper) (K : Env → GH → Prop) (e : Env) (h : GH) (d : Option Tmp) (op : Op) (ty : TypeId) (pos : String) (after : Array Edge)
theorem qL9 : fE P N ds [] K e h = K e h := by unfold fE; rfl
theorem qD4 : fE P N ds (⟨d, op, ty, pos, after, none⟩ :: r) K e h = qN P N e h (fX P N ds r K e d) op := by
  rw [fE, zB4]
theorem qD3 (j : Nat) (w : Bool) : fE P N ds (⟨d, op, ty, pos, after, some (j, w)⟩ :: r) K e h = gX (qC ds e j w) w P N ds r K e h d op := by
  rw [fE, gX, zB4]
theorem kops_ap (i : Nat) (v : Value) : fX P N ds r K e (some i) v h = fE P N ds r K ((i, v) :: e) h := rU ..
theorem kops_no (v : Value) : fX P N ds r K e none v h = fE P N ds r K e h := rU ..
theorem want_tt : gX (some true) true P N ds r K e h d op = qN P N e h (fX P N ds r K e d) op := by simp [gX]
theorem want_ff : gX (some false) false P N ds r K e h d op = qN P N e h (fX P N ds r K e d) op := by simp [gX]
theorem want_tf : gX (some true) false P N ds r K e h d op = fX P N ds r K e d UD h := by simp [gX, rU]
theorem want_ft : gX (some false) true P N ds r K e h d op = fX P N ds r K e d UD h := by simp [gX, rU]
end
theorem sO {φ : Fm} {ops : Array Oper} {t : Array Value} (r : Rel φ nt e t) {j : Nat} {w b : Bool} (hy : qC (ops.toList.map (·.dst)) e j w = some b) : (yielded ops t j == some w) = (b == w) := by
  unfold qC at hy
  split at hy
  case h_2 => cases hy
  rename_i d hd0
  have hd : (ops[j]?).bind (·.dst) = some d := by
    rw [List.getElem?_map, Array.getElem?_toList] at hd0
    cases ho : ops[j]? with
    | none => simp [ho] at hd0
    | some o => simpa [ho] using hd0
  have hr := r.get d
  unfold yielded
  rw [hd]
  simp only [Option.bind_some]
  split at hy
  · rename_i b' hb
    cases hy
    rw [hb] at hr
    rw [Array.getD_eq_getD_getElem?] at hr
    cases ht : t[d]? with
    | none => rw [ht] at hr; simp only [Option.getD_none, undef] at hr; cases hr
    | some v => rw [ht] at hr; simp only [Option.getD_some] at hr; cases hr; rfl
  · rename_i hb
    cases hy
    rw [hb] at hr
    rw [Array.getD_eq_getD_getElem?] at hr
    cases ht : t[d]? with
    | none => cases w <;> rfl
    | some v =>
      rw [ht] at hr
      simp only [Option.getD_some] at hr
      cases hr
      cases w <;> rfl
  · cases hy
theorem jN {a : Act} {d : Option Tmp} {v : Value} : (a.put d v).defers = a.defers := by cases d <;> rfl
theorem lA {ops : Array Oper} {QQ : Exit → Act → World → Prop} (hG : P.globals.size ≤ N) {K : Env → GH → Prop} {dl : List Deferred} : ∀ (l : List Oper), l.all (rD P nt) = true → ∀ (e : Env) (h : GH), fE P N (ops.toList.map (·.dst)) l K e h →
    ∀ φ w (a : Act), Sim N φ h w → Rel φ nt e a.tmps → a.defers = dl →
    (∀ e' h' φ' (a' : Act) w', K e' h' → Ext φ φ' → Sim N φ' h' w' → Rel φ' nt e' a'.tmps → a'.defers = dl → Below N w w' → QQ .normal a' w') → wpList P ops QQ l a w
  | [], _, e, h, g, φ, w, a, s, r, hd, k => k e h φ a w (by rw [qL9] at g; exact g) (Ext.refl _) s r hd (Below.refl _ _)
  | o :: l, ok, e, h, g, φ, w, a, s, r, hd, k => by
    simp only [List.all_cons, Bool.and_eq_true, rD] at ok
    obtain ⟨⟨ok1, ok2⟩, ok3⟩ := ok
    have hops : ∀ x ∈ o.op.operands, tN P.globals.size x = true := by
      intro x hx
      exact Array.all_eq_true_iff_forall_mem.1 ok2 x hx
    have yes : qN P N e h (fX P N (ops.toList.map (·.dst)) l K e o.dst) o.op → o.wp P a w (wpList P ops QQ l) QQ := fun gg =>
      pU hG s r hops gg fun v v' φ' h' w' p1 p2 p3 p4 p5 =>
        lA hG l ok3 _ _ ((rU ..).mp p5) φ' w' _ p2 ((r.mono p1).put ok1 p3) (by rw [jN]; exact hd) fun e' h2 φ2 a' w2 q1 q2 q3 q4 q5 q6 => k e' h2 φ2 a' w2 q1 (p1.trans q2) q3 q4 q5 (p4.trans q6)
    have no : fE P N (ops.toList.map (·.dst)) l K (uH e o.dst UD) h → wpList P ops QQ l (a.put o.dst undef) w := fun gg =>
      lA hG l ok3 _ _ gg φ w _ s (r.put ok1 (VR.ud _)) (by rw [jN]; exact hd) k
    obtain ⟨dst, op, ty, pos, after, guard⟩ := o
    unfold wpList
    cases guard with
    | none =>
      rw [qD4] at g
      rw [if_pos (by simp [Region.wanted])]
      exact .inl (yes g)
    | some jw =>
      obtain ⟨j, want⟩ := jw
      rw [qD3] at g
      obtain ⟨b, hy, hb⟩ := g
      have hyy := sO r hy
      by_cases hbw : b = want
      · rw [if_pos hbw] at hb
        rw [if_pos (by simp only [Region.wanted]; rw [hyy]; simp [hbw])]
        exact .inl (yes hb)
      · rw [if_neg hbw] at hb
        rw [if_neg (by simp only [Region.wanted]; rw [hyy]; simp [hbw])]
        exact no hb
theorem Lift.stay {B : Nat} {φ : Fm} {w : World} {Q : GQ} : ¬ LetsOut (Lift N nt B φ w Q) := by
  rintro ⟨a, w', gx, e, h, φ', hx, _⟩
  cases gx <;> cases hx
theorem ops_ok {ops : Array Oper} (h : ops.all (rD P nt) = true) : ops.toList.all (rD P nt) = true := by
  rw [List.all_eq_true]
  intro o ho
  exact Array.all_eq_true_iff_forall_mem.1 h o (by simpa using ho)
theorem qB {id : Nat} {ops : Array Oper} (g : fE P N (ops.toList.map (·.dst)) ops.toList (Q .normal) e h) : GW P N nt (.region id ops false) Q e h := by
  intro ok hG φ w a s r B hd ro hn
  simp only [qV, Bool.and_eq_true] at ok
  refine zQ5 ro ok.2 Lift.stay (lA hG ops.toList (ops_ok ok.1) e h g φ w a s r rfl ?_)
  exact fun e' h' φ' a' w' k p1 p2 p3 p4 p5 => ⟨.normal, e', h', φ', rfl, by rw [p4]; exact hd.below p5, p1, p2, p3, p5, k⟩
def aenv : Nat → List Value → Env
  | _, [] => []
  | n, v :: r => (n, v) :: aenv (n + 1) r
theorem qW3 : ∀ (l : List Value) (n i : Nat), lk (aenv n l) i = if n ≤ i then (l[i - n]?).getD U else U
  | [], n, i => by simp [aenv, lk]
  | v :: r, n, i => by
    simp only [aenv, lk, qW3 r]
    by_cases h : n = i
    · subst h; simp
    · rw [if_neg h]
      by_cases h2 : n ≤ i
      · rw [if_pos (by omega), if_pos h2, show i - n = (i - (n + 1)) + 1 by omega]
        simp
      · rw [if_neg (by omega), if_neg h2]
def kH (P : Program) (e : Env) (h : GH) : List ResultVar → Option (List Value)
  | [] => some []
  | .tmp t :: r => (kH P e h r).map (lk e t :: ·)
  | .cell a t :: r => match wZ P t h (lk e a), kH P e h r with
    | some v, some l => some (v :: l)
    | _, _ => none
def qM0 : List Value → Value
  | [v] => v
  | l => .tuple l.toArray
def zH6 (P : Program) (res : Array ResultVar) (Q : Value → GH → Prop) : GQ := fun x e h =>
  (x = .normal ∨ x = .ret) ∧ ∃ l, kH P e h res.toList = some l ∧ Q (qM0 l) h
def qK9 (tmps : Array Value) : ResultVar → Sem Value
  | .tmp t => pure (tmps.getD t undef)
  | .cell a t => do loadVar t (← asAddr (tmps.getD a undef))
theorem pI {φ : Fm} {w : World} (s : Sim N φ h w) {t : Array Value} (r : Rel φ nt e t) : ∀ (l : List ResultVar) (vs : List Value), kH P e h l = some vs → ∃ vs', (l.mapM (qK9 t)).run P w = .ok vs' w ∧ VRs φ vs vs'
  | [], vs, hv => by
    simp only [kH, Option.some.injEq] at hv
    subst hv
    exact ⟨[], by simp, .nil⟩
  | .tmp i :: l, vs, hv => by
    simp only [kH, Option.map_eq_some_iff] at hv
    obtain ⟨vs0, h1, rfl⟩ := hv
    obtain ⟨vs', h2, h3⟩ := pI s r l vs0 h1
    exact ⟨_, by simp only [List.mapM_cons, Sem.run_bind, qK9, Sem.run_pure, Result.andThen_ok, h2], .cons (r.get i) h3⟩
  | .cell x ty :: l, vs, hv => by
    simp only [kH] at hv
    split at hv
    case h_2 => cases hv
    rename_i v l0 h0 h1
    cases hv
    obtain ⟨vs', h2, h3⟩ := pI s r l l0 h1
    obtain ⟨v', h4, h5⟩ := qG8 (P := P) s (r.get x) h0
    refine ⟨v' :: vs', ?_, .cons h5 h3⟩
    have h6 : (do loadVar ty (← asAddr (t.getD x undef)) : Sem Value).run P w = .ok v' w := by
      have hx := r.get x
      generalize t.getD x undef = z at hx h4
      unfold wZ at h0
      split at h0
      case h_2 => cases h0
      rename_i ad hx2
      rw [hx2] at hx
      cases hx
      simp only [Instr.loadAt, Instr.sureAddr, Sem.run_bind, Sem.run_pure, Result.andThen_ok] at h4
      simp only [asAddr, Sem.run_bind, Sem.run_pure, Result.andThen_ok, h4]
    simp only [Sem.run_bind] at h6
    simp only [List.mapM_cons, Sem.run_bind, qK9, h6, Result.andThen_ok, h2, Sem.run_pure]
theorem zH7 (fn : Func) (tmps : Array Value) : results fn tmps = (do
    let vs ← fn.results.mapM (qK9 tmps)
    pure (if h : vs.size = 1 then vs[0] else .tuple vs)) := by
  unfold results
  congr 1
theorem mU {φ : Fm} {w : World} (s : Sim N φ h w) {t : Array Value} (r : Rel φ nt e t) {fn : Func} {vs : List Value} (hv : kH P e h fn.results.toList = some vs) :
    ∃ v', (results fn t).run P w = .ok v' w ∧ VR φ (qM0 vs) v' := by
  obtain ⟨vs', h1, h2⟩ := pI s r _ _ hv
  rw [zH7]
  have hm : (fn.results.mapM (qK9 t)).run P w = .ok vs'.toArray w := by
    rw [Array.mapM_eq_mapM_toList, Sem.run_map, h1]; rfl
  simp only [Sem.run_bind, hm, Result.andThen_ok, Sem.run_pure]
  refine ⟨_, rfl, ?_⟩
  cases h2 with
  | nil => simp only [qM0]; exact .tuple .nil
  | cons h hs =>
    cases hs with
    | nil => simpa [qM0] using h
    | cons h2 hs2 =>
      simp only [qM0, List.size_toArray, List.length_cons]
      rw [dif_neg (by omega)]
      exact .tuple (.cons h (.cons h2 hs2))
structure Alike (B : Nat) (w w' : World) : Prop where
  os : w'.os = w.os
  tape : w'.tape = w.tape
  output : w'.output = w.output
  drawn : w'.drawn = w.drawn
  size : w'.heap.size = w.heap.size
  old : ∀ k, k < B → w'.heap[k]? = w.heap[k]?
  oth : ∀ (k : Nat) (o : Obj), w.heap[k]? = some o → zA2 o = false → w'.heap[k]? = some o
  lps : ∀ (k : Nat) (o : Obj), w.heap[k]? = some o → zA2 o = true → ∃ o', w'.heap[k]? = some o' ∧ zA2 o' = true
theorem Alike.refl (B : Nat) (w : World) : Alike B w w := ⟨rfl, rfl, rfl, rfl, rfl, fun _ _ => rfl, fun _ _ h _ => h, fun _ o h l => ⟨o, h, l⟩⟩
theorem Alike.trans {B : Nat} {a b c : World} (x : Alike B a b) (y : Alike B b c) : Alike B a c :=
  ⟨y.os.trans x.os, y.tape.trans x.tape, y.output.trans x.output, y.drawn.trans x.drawn, y.size.trans x.size, fun k hk => (y.old k hk).trans (x.old k hk), fun k o h l => y.oth k o (x.oth k o h l) l, fun k o h l => by
    obtain ⟨o', h1, l1⟩ := x.lps k o h l
    exact y.lps k o' h1 l1⟩
theorem Alike.put {B r : Nat} {w : World} {o o' : Obj} (h : w.heap[r]? = some o) (l : zA2 o = true) (l' : zA2 o' = true) (hr : B ≤ r) : Alike B w (w.putObj r o') := by
  have hlt := (Array.getElem?_eq_some_iff.1 h).1
  refine ⟨rfl, rfl, rfl, rfl, World.putObj_size, fun k hk => World.putObj_heap_other (by omega), fun k q hq lq => ?_, fun k q hq lq => ?_⟩
  · rw [World.putObj_heap_other (fun e => by rw [e, h] at hq; cases hq; rw [l] at lq; cases lq)]; exact hq
  · by_cases e : k = r
    · rw [e]; exact ⟨o', World.putObj_heap_same hlt, l'⟩
    · exact ⟨q, by rw [World.putObj_heap_other e]; exact hq, lq⟩
theorem Alike.cell {B : Nat} {w w' : World} (x : Alike B w w') (a : Addr) : w'.cell? a = w.cell? a ∧ w'.frozen? a = w.frozen? a := by
  cases e : w.heap[a.block]? with
  | none =>
    have : w'.heap[a.block]? = none := by
      rw [Array.getElem?_eq_none_iff] at e ⊢
      rw [x.size]; exact e
    exact ⟨World.cell?_of_block (this.trans e.symm), World.frozen?_of_block (this.trans e.symm)⟩
  | some o =>
    cases l : zA2 o with
    | false => exact ⟨World.cell?_of_block ((x.oth _ _ e l).trans e.symm), World.frozen?_of_block ((x.oth _ _ e l).trans e.symm)⟩
    | true =>
      obtain ⟨o', e', l'⟩ := x.lps _ _ e l
      constructor
      · unfold World.cell?
        rw [e, e']
        cases o <;> simp [zA2] at l <;> cases o' <;> simp [zA2] at l' <;> rfl
      · unfold World.frozen?
        rw [e, e']
        cases o <;> simp [zA2] at l <;> cases o' <;> simp [zA2] at l' <;> rfl
theorem Sim.alike {N B : Nat} {φ : Fm} {h : GH} {w w' : World} (s : Sim N φ h w) (x : Alike B w w') : Sim N φ h w' where
  ini := s.ini
  big := by rw [x.size]; exact s.big
  fin := s.fin
  dom k C hk hm := by
    obtain ⟨f, h1, h2⟩ := s.dom k C hk hm
    refine ⟨f, h1, ⟨by rw [x.size]; exact h2.lt, fun i v hv => ?_, h2.es, h2.nz, fun hw i hi => ?_, fun ht j q1 q2 => ?_, h2.tll⟩⟩
    · obtain ⟨v', q1, q2⟩ := h2.cell i v hv
      exact ⟨v', by rw [(x.cell _).1]; exact q1, q2⟩
    · rw [(x.cell _).2]; exact h2.wrf hw i hi
    · rw [(x.cell _).1, (x.cell _).2]; exact h2.tlf ht j q1 q2
  sep := s.sep
  rng k f hk := by rw [x.size]; exact s.rng k f hk
  mm := s.mm.step (Ext.refl _) (fun k C hk _ => ⟨C, hk, rfl, id⟩) (fun k C hk hm => (s.mm.mdom k C hk hm).1.1) fun r o ho hr => x.oth r o hr (by cases o <;> simp [mQ] at ho <;> rfl)
theorem qC8 {F : Fence} {n B : Nat} {P : Program} {fn : Func} {tmps : Array Value} {R : Ending → World → Prop} : ∀ (ds : List Deferred) (w : World), DOk B w ds → (∀ w', Alike B w w' → ∃ v, (results fn tmps).run P w' = .ok v w' ∧ R (.returned v) w') → LeavesInM F n P fn tmps R ds .returning w
  | [], w, _, k => k w (Alike.refl _ _)
  | d :: ds, w, hd, k => by
    obtain ⟨D, hD, e, hw⟩ := hd.2.2 d List.mem_cons_self
    have x : Alike B w (w.putObj D (.deferred none)) := Alike.put hw rfl rfl hD
    refine ⟨by simp, .inl ⟨D, _, by rw [e], run_takeDeferred hw, qC8 ds _ ⟨by rw [World.putObj_size]; exact hd.1, (List.pairwise_cons.1 hd.2.1).2, fun d' hd' => ?_⟩ fun w' y => k w' (x.trans y)⟩⟩
    obtain ⟨D', hD', e', hw'⟩ := hd.2.2 d' (List.mem_cons_of_mem _ hd')
    refine ⟨D', hD', e', ?_⟩
    have hne := (List.pairwise_cons.1 hd.2.1).1 d' hd'
    rw [World.putObj_heap_other (fun q => hne (by rw [e, e', q]))]
    exact hw'
theorem zU {f : FuncId} {fn : Func} {c : Code} (hf : P.funcs[f]? = some fn) (hb : fn.body = some c) (hgf : vC P f = true) (hok : qV P fn.ntmps c = true) {args : List Value} (hl : args.length ≤ fn.ntmps) {R : Value → GH → Prop}
    (g : GW P N fn.ntmps c (zH6 P fn.results R) (aenv 0 args) h) : GTri P N f args h R := by
  intro hG φ w args' s ha
  refine .inl ⟨hgf, (callsIn_wide (n := 0)).1 (callsIn_of_wp_marks hf hb trivial ?_ rfl)⟩
  have hlen := ha.length
  have hsz : args'.size = args.length := by simpa using hlen.symm
  refine wpIn_mono (g hok hG φ w _ s ⟨by simp [hsz]; omega, fun i => ?_⟩ (DOk.nil w) none (.inl rfl)) fun x a' w' l => ?_
  · rw [qW3]
    simp only [Nat.zero_le, if_true, Nat.sub_zero]
    cases hi : args[i]? with
    | none => exact VR.u _ _
    | some v =>
      obtain ⟨v', h1, h2⟩ := ha.get i v hi
      simp only [Option.getD_some]
      have hlt : i < args'.size := by rw [hsz]; exact (List.getElem?_eq_some_iff.1 hi).1
      have : (args' ++ Array.replicate (fn.ntmps - args'.size) undef).getD i undef = v' := by
        rw [Array.getD_eq_getD_getElem?, Array.getElem?_append_left hlt]
        simp only [Array.getElem?_toList] at h1
        rw [h1]; rfl
      rw [this]; exact h2
  · obtain ⟨gx, e', h', φ', hx, h2, h3, h4, h5, h6, h7, vs, h8, h9⟩ := l
    have fin : LeavesInM Fence.wide 0 P fn a'.tmps (fun e w' => ∃ v v' φ' h', e = Ending.returned v' ∧ Ext φ φ' ∧ Sim N φ' h' w' ∧ VR φ' v v' ∧ Below N w w' ∧ R v h') a'.defers .returning w' := by
      refine qC8 a'.defers w' h2 fun w2 x2 => ?_
      have h4' := h4.alike x2
      obtain ⟨v', r1, r2⟩ := mU (P := P) h4' h5 h8
      refine ⟨v', r1, _, v', φ', h', rfl, h3, h4', r2, ?_, h9⟩
      refine ⟨x2.os.trans h6.os, x2.tape.trans h6.tape, x2.output.trans h6.output, by rw [x2.size]; exact h6.size, fun k hk => (x2.old k (Nat.lt_of_lt_of_le hk s.big)).trans (h6.block k hk), by rw [x2.drawn]; exact h6.drawn, fun k o e l => ?_⟩
      rw [x2.old k (Array.getElem?_eq_some_iff.1 e).1]
      exact h6.lp k o e l
    rcases h7 with rfl | rfl
    · subst hx
      exact fin
    · subst hx
      exact fin
end
def uO (P : Program) (e : Env) (h : GH) (res : List ResultVar) (Q : Value → GH → Prop) : Prop := ∃ l, kH P e h res = some l ∧ Q (qM0 l) h
section
variable {P : Program} {res : Array ResultVar} {Q : Value → GH → Prop} {e : Env} {h : GH} {N nt : Nat}
theorem retQ_r : zH6 P res Q .ret e h = uO P e h res.toList Q := by simp [zH6, uO]
theorem retQ_n : zH6 P res Q .normal e h = uO P e h res.toList Q := by simp [zH6, uO]
theorem gret_0 : uO P e h [] Q = Q (.tuple #[]) h := by simp [uO, kH, qM0]
theorem gret_1 (t : Nat) : uO P e h [.tmp t] Q = Q (lk e t) h := by simp [uO, kH, qM0]
theorem gret_2 (t u : Nat) : uO P e h [.tmp t, .tmp u] Q = Q (.tuple #[lk e t, lk e u]) h := by simp [uO, kH, qM0]
theorem gret_3 (t u v : Nat) : uO P e h [.tmp t, .tmp u, .tmp v] Q = Q (.tuple #[lk e t, lk e u, lk e v]) h := by simp [uO, kH, qM0]
theorem uW (a ty : Nat) : uO P e h [.cell a ty] Q = uQ (wZ P ty h (lk e a)) h Q := by
  unfold uO uQ
  apply propext
  constructor
  · rintro ⟨l, h1, h2⟩
    simp only [kH] at h1
    split at h1
    · rename_i v l' hv hl
      cases hl; cases h1
      exact ⟨v, hv, h2⟩
    · cases h1
  · rintro ⟨v, h1, h2⟩
    exact ⟨[v], by simp [kH, h1], h2⟩
theorem dN (a ty t : Nat) : uO P e h [.cell a ty, .tmp t] Q = uQ ((wZ P ty h (lk e a)).map fun v => .tuple #[v, lk e t]) h Q := by
  unfold uO uQ
  apply propext
  constructor
  · rintro ⟨l, h1, h2⟩
    simp only [kH, Option.map_some] at h1
    split at h1
    · rename_i v l' hv hl
      cases hl; cases h1
      exact ⟨_, by rw [hv]; rfl, h2⟩
    · cases h1
  · rintro ⟨v, h1, h2⟩
    simp only [Option.map_eq_some_iff] at h1
    obtain ⟨v0, h1, rfl⟩ := h1
    exact ⟨[v0, lk e t], by simp [kH, h1], h2⟩
theorem gret_c2 (a ty t u : Nat) : uO P e h [.cell a ty, .tmp t, .tmp u] Q = uQ ((wZ P ty h (lk e a)).map fun v => .tuple #[v, lk e t, lk e u]) h Q := by
  unfold uO uQ
  apply propext
  constructor
  · rintro ⟨l, h1, h2⟩
    simp only [kH, Option.map_some] at h1
    split at h1
    · rename_i v l' hv hl
      cases hl; cases h1
      exact ⟨_, by rw [hv]; rfl, h2⟩
    · cases h1
  · rintro ⟨v, h1, h2⟩
    simp only [Option.map_eq_some_iff] at h1
    obtain ⟨v0, h1, rfl⟩ := h1
    exact ⟨[v0, lk e t, lk e u], by simp [kH, h1], h2⟩
theorem qJ9 {b w : Bool} {ds : List (Option Tmp)} {r : List Oper} {K : Env → GH → Prop} {d : Option Tmp} {op : Op} (ht : b = w → qN P N e h (fX P N ds r K e d) op) (hf : b = (!w) → fX P N ds r K e d UD h) : gX (some b) w P N ds r K e h d op := by
  refine ⟨b, rfl, ?_⟩
  by_cases hb : b = w
  · rw [if_pos hb]; exact ht hb
  · rw [if_neg hb]; exact (rU ..).mp (hf (by cases b <;> cases w <;> simp_all))
theorem dH {c : Code} {Q : GQ} (e' : Env) (he : ∀ p ∈ e', lk e p.1 = p.2) (g : GW P N nt c Q e' h) : GW P N nt c Q e h := by
  refine gw_weak (fun i => ?_) g
  have : ∀ (l : Env), (∀ p ∈ l, lk e p.1 = p.2) → lk l i = U ∨ lk l i = lk e i := by
    intro l hl
    induction l with
    | nil => exact .inl rfl
    | cons p l ih =>
      obtain ⟨j, v⟩ := p
      simp only [lk]
      by_cases hj : j = i
      · rw [if_pos hj]
        have := hl (j, v) (by simp)
        simp only at this
        exact .inr (by rw [← hj]; exact this.symm)
      · rw [if_neg hj]
        exact ih fun p hp => hl p (by simp [hp])
  exact this e' he
theorem pD {e' e : Env} (he : ∀ p ∈ e', lk e p.1 = p.2) : Sub e' e := by
  intro i
  have : ∀ (l : Env), (∀ p ∈ l, lk e p.1 = p.2) → lk l i = U ∨ lk l i = lk e i := by
    intro l hl
    induction l with
    | nil => exact .inl rfl
    | cons p l ih =>
      obtain ⟨j, v⟩ := p
      simp only [lk]
      by_cases hj : j = i
      · rw [if_pos hj]
        have := hl (j, v) (by simp)
        simp only at this
        exact .inr (by rw [← hj]; exact this.symm)
      · rw [if_neg hj]
        exact ih fun p hp => hl p (by simp [hp])
  exact this e' he
end
def HS (h h' : GH) : Prop := ∀ k B, h k = some B → h' k = some B
def HC (h h' : GH) : Prop := ∀ k B, h k = some B → ∃ B', h' k = some B' ∧ B'.cells = B.cells ∧ B'.es = B.es ∧ (B'.wr = true → B.wr = true)
theorem HS.refl (h : GH) : HS h h := fun _ _ e => e
theorem HS.trans {a b c : GH} (x : HS a b) (y : HS b c) : HS a c := fun k B e => y k B (x k B e)
theorem HS.hc {a b : GH} (x : HS a b) : HC a b := fun k B e => ⟨B, x k B e, rfl, rfl, id⟩
theorem HC.refl (h : GH) : HC h h := (HS.refl h).hc
theorem HS.new {h : GH} {k : Nat} (hk : h k = none) (B : GB) : HS h (yB h k B) := fun j C e => by
  have : j ≠ k := fun ee => by rw [ee, hk] at e; cases e
  rw [zT _ _ this]; exact e
theorem HS.none_of {a b : GH} (x : HS a b) {k : Nat} (h : b k = none) : a k = none := by
  cases hk : a k with
  | none => rfl
  | some B => have := x k B hk; rw [h] at this; cases this
theorem lY {h h' : GH} (x : HC h h') {a : Addr} {n : Nat} {cs : List Value} (e : wA h a n = some cs) : wA h' a n = some cs := by
  unfold wA at e ⊢
  split at e
  · rename_i h0; rw [if_pos h0]; exact e
  · rename_i h0
    rw [if_neg h0]
    split at e
    case h_2 => cases e
    rename_i B hs hB
    obtain ⟨B', h1, h2, h3⟩ := x _ _ hB
    rw [hs, h1]
    simp only [h2]
    exact e
def bv (b : UInt8) : Value := .int .u8 b.toNat
def RB (h : GH) (v : Value) (l : List UInt8) : Prop :=
  (∃ c, v = .slice none 0 c ∧ l = []) ∨ ∃ ad c, v = .slice (some ad) l.length c ∧ wA h ad l.length = some (l.map bv) ∧ 2 * l.length ≤ c
theorem RB.hc {h h' : GH} (x : HC h h') {v : Value} {l : List UInt8} (r : RB h v l) : RB h' v l := by
  rcases r with r | ⟨ad, c, h1, h2, h3⟩
  · exact .inl r
  · exact .inr ⟨ad, c, h1, lY x h2, h3⟩
theorem RB.hs {h h' : GH} (x : HS h h') {v : Value} {l : List UInt8} (r : RB h v l) : RB h' v l := r.hc x.hc
theorem RB.nil (h : GH) : RB h (.slice none 0 0) [] := .inl ⟨0, rfl, rfl⟩
theorem RB.form {h : GH} {v : Value} {l : List UInt8} (r : RB h v l) : ∃ a c, v = .slice a l.length c ∧ (a = none → l = []) := by
  rcases r with ⟨c, rfl, rfl⟩ | ⟨ad, c, rfl, h2, h3⟩
  · exact ⟨none, c, rfl, fun _ => rfl⟩
  · exact ⟨some ad, c, rfl, fun h => by cases h⟩
theorem qS2 {h : GH} {ad : Addr} {n : Nat} {cs : List Value} (e : wA h ad n = some cs) {i : Nat} {v : Value} (hv : cs[i]? = some v) : wA h ⟨ad.block, ad.off + i, none⟩ 1 = some [v] := by
  have hlt : i < n := by rw [← vK e]; exact (List.getElem?_eq_some_iff.1 hv).1
  unfold wA at e ⊢
  rw [if_neg (by omega)] at e
  rw [if_neg (by omega)]
  split at e
  case h_2 => cases e
  rename_i B hs hB
  split at e
  case isFalse => cases e
  rename_i hle
  cases e
  simp only [hB]
  rw [if_pos (by omega)]
  rw [List.getElem?_take, if_pos hlt, List.getElem?_drop] at hv
  obtain ⟨hl, hv⟩ := List.getElem?_eq_some_iff.1 hv
  rw [List.drop_eq_getElem_cons (by omega), hv]
  rfl
theorem tR {h : GH} {ad : Addr} {n : Nat} {cs : List Value} (e : wA h ad n = some cs) (o m : Nat) (hm : o + m ≤ n) : wA h ⟨ad.block, ad.off + o, ad.spot⟩ m = some ((cs.drop o).take m) := by
  unfold wA at e ⊢
  by_cases h0 : m = 0
  · subst h0; simp
  · rw [if_neg h0]
    rw [if_neg (by omega)] at e
    split at e
    case h_2 => cases e
    rename_i B hs hB
    split at e
    case isFalse => cases e
    rename_i hle
    cases e
    simp only [hs, hB]
    rw [if_pos (by omega)]
    congr 1
    rw [List.drop_take, List.take_take, List.drop_drop]
    congr 1
    omega
theorem RB.at {P : Program} {h : GH} {v : Value} {l : List UInt8} (r : RB h v l) {t e : TypeId} (ht : P.underlying t = some (.slice e)) (he : vG P e = some (false, 1)) {i : Nat} {b : UInt8} (hb : l[i]? = some b) :
    ∃ p, zJ P t v i = some p ∧ wZ P e h p = some (bv b) := by
  have hlt := (List.getElem?_eq_some_iff.1 hb).1
  rcases r with ⟨c, rfl, rfl⟩ | ⟨ad, c, rfl, h2, h3⟩
  · simp at hlt
  · refine ⟨.pointer (some ⟨ad.block, ad.off + i, none⟩), ?_, ?_⟩
    · simp only [zJ, ht, he]
      rw [if_pos (by omega)]
      simp
    · have := qS2 h2 (i := i) (v := bv b) (by simp [hb])
      simp only [wZ, he, this]
      rfl
def AP (h0 h : GH) (v : Value) (es : Nat) : Prop :=
  (∃ c, v = .slice none 0 c) ∨ (∃ ad n, v = .slice (some ad) n (2 * n + 1)) ∨
  ∃ ad n c B, v = .slice (some ad) n c ∧ c % 2 = 0 ∧ h ad.block = some B ∧ ad.spot = none ∧ B.tl = true ∧ B.es = es ∧ ad.off + n * es = B.cells.length ∧ h0 ad.block = none
theorem AP.nil (h0 h : GH) (es : Nat) : AP h0 h (.slice none 0 0) es := .inl ⟨0, rfl⟩
theorem AP.hs {h0 h h' : GH} {v : Value} {es : Nat} (a : AP h0 h v es) (x : HS h h') : AP h0 h' v es := by
  rcases a with a | a | ⟨ad, n, c, B, h1, h2, h3, h4, h5, h6, h7, h8⟩
  · exact .inl a
  · exact .inr (.inl a)
  · exact .inr (.inr ⟨ad, n, c, B, h1, h2, x _ _ h3, h4, h5, h6, h7, h8⟩)
theorem qZ9 {P : Program} {t u e es by_ : Nat} {z : Value} {du : TypeDesc} {h0 h : GH} {s x : Value} {n m : Nat} {cs xs : List Value} {K : Value → GH → Prop} (hel : tF P t = some (e, es, by_, z)) (hu : P.underlying u = some du) (hni : mY du = true)
    (hs0 : HS h0 h) (hs : (∃ c, s = .slice none 0 c ∧ n = 0 ∧ cs = []) ∨ ∃ ad c, s = .slice (some ad) n c ∧ wA h ad (n * es) = some cs ∧ 2 * n ≤ c) (ap : AP h0 h s es) (hsrc : mR h es x = some (m, xs)) (hxl : xs.length = m * es) (hcell : xs.all zK = true)
    (hsz : (n + m) * by_ ≤ 140737488355328) (hml : n + m ≤ maxLen)
    (k : ∀ v h', HS h0 h' → HC h h' → (∀ j B, h j = some B → (∀ ad c, s = .slice (some ad) n c → c % 2 = 0 → j ≠ ad.block) → h' j = some B) → AP h0 h' v es →
      ((∃ c, v = .slice none 0 c ∧ n + m = 0 ∧ cs ++ xs = []) ∨ ∃ ad c, v = .slice (some ad) (n + m) c ∧ wA h' ad ((n + m) * es) = some (cs ++ xs) ∧ 2 * (n + m) ≤ c) → K v h') : gN P t u h s x K := by
  refine .inl ⟨du, e, es, by_, z, m, xs, hu, hni, hel, hsrc, e, es, by_, z, hel, hxl, hcell, ?_⟩
  have grd : ∀ (h' : GH) (k0 : Nat) (B : GB), h' k0 = some B → B.cells = cs ++ xs → cs.length = n * es → wA h' ⟨k0, 0, none⟩ ((n + m) * es) = some (cs ++ xs) := by
    intro h' k0 B hk hB hcl
    unfold wA
    have hl : B.cells.length = (n + m) * es := by rw [hB, List.length_append, hcl, hxl, Nat.add_mul]
    split
    · rename_i h0'
      rw [h0'] at hl
      rw [← hB, List.eq_nil_of_length_eq_zero hl]
    · simp only [hk, Nat.zero_add, List.drop_zero]
      rw [if_pos (by omega), List.take_of_length_le (by omega), hB]
  rcases hs with ⟨c, rfl, rfl, rfl⟩ | ⟨ad, c, rfl, hrd, hnc⟩
  · simp only
    by_cases hm : m = 0
    · subst hm
      have hx0 : xs = [] := List.eq_nil_of_length_eq_zero (by simpa using hxl)
      subst hx0
      exact .inl ⟨rfl, k _ h hs0 (HC.refl h) (fun j B hj _ => hj) ap (.inl ⟨c, rfl, rfl, rfl⟩)⟩
    · refine .inr ⟨by omega, by omega, by simpa using hsz, fun k0 hk0 => ?_⟩
      have hS := HS.new hk0 ⟨xs, es, true, true⟩
      refine k _ _ (hs0.trans hS) hS.hc (fun j B hj _ => hS j B hj) (.inr (.inr ⟨⟨k0, 0, none⟩, m, 2 * m, _, rfl, by omega, zP _ _ _, rfl, rfl, rfl, by simp [hxl], hs0.none_of hk0⟩)) (.inr ⟨⟨k0, 0, none⟩, 2 * m, by simp, ?_⟩)
      exact ⟨grd _ k0 _ (zP _ _ _) (by simp) (by simp), by omega⟩
  · simp only
    have hcl := vK hrd
    by_cases hm : m = 0
    · subst hm
      have hx0 : xs = [] := List.eq_nil_of_length_eq_zero (by simpa using hxl)
      subst hx0
      exact .inl ⟨rfl, k _ h hs0 (HC.refl h) (fun j B hj _ => hj) ap (.inr ⟨ad, c, by simp, by simpa using hrd, by omega⟩)⟩
    · refine .inr ⟨by omega, hml, hsz, ?_⟩
      rcases ap with ⟨c', h1⟩ | ⟨ad', n', h1⟩ | ⟨ad', n', c', B, h1, h2, h3, h4, h5, h6, h7, h8⟩
      · cases h1
      · cases h1
        refine .inl ⟨cs, hrd, by omega, by omega, fun k0 hk0 => ?_⟩
        have hS := HS.new hk0 ⟨cs ++ xs, es, true, true⟩
        refine k _ _ (hs0.trans hS) hS.hc (fun j B hj _ => hS j B hj) (.inr (.inr ⟨⟨k0, 0, none⟩, n + m, 2 * (n + m), _, rfl, by omega, zP _ _ _, rfl, rfl, rfl, by simp [hcl, hxl, Nat.add_mul], hs0.none_of hk0⟩)) (.inr ⟨⟨k0, 0, none⟩, 2 * (n + m), rfl, ?_⟩)
        exact ⟨grd _ k0 _ (zP _ _ _) rfl hcl, by omega⟩
      · cases h1
        refine .inr (.inr ⟨B, h3, h4, h2, h5, h6, h7, .inr fun k0 hk0 hne => ?_⟩)
        have hdrop : B.cells.drop ad.off = cs := by
          unfold wA at hrd
          split at hrd
          · rename_i h00
            cases hrd
            rw [h00, Nat.add_zero] at h7
            rw [h7]; simp
          · rw [h4, h3] at hrd
            simp only at hrd
            rw [if_pos (by omega)] at hrd
            cases hrd
            rw [List.take_of_length_le (by simp; omega)]
        have hC : HC h (yB (yB h ad.block { B with wr := false, tl := false }) k0 ⟨B.cells.drop ad.off ++ xs, es, false, true⟩) := fun j C hj => by
          have hjk : j ≠ k0 := fun ee => by rw [ee, hk0] at hj; cases hj
          rw [zT _ _ hjk]
          by_cases hja : j = ad.block
          · subst hja; rw [zP]; rw [h3] at hj; cases hj
            exact ⟨_, rfl, rfl, rfl, fun w => by cases w⟩
          · rw [zT _ _ hja]; exact ⟨C, hj, rfl, rfl, id⟩
        refine k _ _ (fun j C hj => ?_) hC (fun j C hj hne2 => ?_) (.inr (.inr ⟨⟨k0, 0, none⟩, n + m, 2 * (n + m), _, rfl, by omega, zP _ _ _, rfl, rfl, rfl, by simp only [hdrop]; simp [hcl, hxl, Nat.add_mul], hs0.none_of hk0⟩)) (.inr ⟨⟨k0, 0, none⟩, 2 * (n + m), rfl, ?_⟩)
        · have hja : j ≠ ad.block := fun ee => by rw [ee, h8] at hj; cases hj
          have hj' := hs0 j C hj
          have hjk : j ≠ k0 := fun ee => by rw [ee, hk0] at hj'; cases hj'
          rw [zT _ _ hjk, zT _ _ hja]; exact hj'
        · have hja := hne2 ad c rfl h2
          have hjk : j ≠ k0 := fun ee => by rw [ee, hk0] at hj; cases hj
          rw [zT _ _ hjk, zT _ _ hja]; exact hj
        · exact ⟨grd _ k0 _ (zP _ _ _) (by simp only [hdrop]) hcl, by omega⟩
theorem RB.src {h : GH} {v : Value} {l : List UInt8} (r : RB h v l) : mR h 1 v = some (l.length, l.map bv) := by
  rcases r with ⟨c, rfl, rfl⟩ | ⟨ad, c, rfl, h2, h3⟩
  · rfl
  · simp only [mR, Nat.mul_one, h2]; rfl
theorem rJ (l : List UInt8) : (l.map bv).all zK = true := by
  rw [List.all_eq_true]
  intro v hv
  obtain ⟨b, _, rfl⟩ := List.mem_map.1 hv
  rfl
theorem jI {P : Program} {t u e : Nat} {z : Value} {du : TypeDesc} {h0 h : GH} {s x : Value} {l l2 : List UInt8} {K : Value → GH → Prop} (hel : tF P t = some (e, 1, 1, z)) (hu : P.underlying u = some du) (hni : mY du = true)
    (hs0 : HS h0 h) (hs : RB h s l) (ap : AP h0 h s 1) (hsrc : mR h 1 x = some (l2.length, l2.map bv)) (hsz : l.length + l2.length ≤ 140737488355328)
    (k : ∀ v h', HS h0 h' → HC h h' → (∀ j B, h j = some B → (∀ ad n c, s = .slice (some ad) n c → c % 2 = 0 → j ≠ ad.block) → h' j = some B) → AP h0 h' v 1 → RB h' v (l ++ l2) → K v h') : gN P t u h s x K := by
  refine qZ9 (n := l.length) (cs := l.map bv) hel hu hni hs0 ?_ ap hsrc (by simp) (rJ _) (by simpa using hsz) (by simp only [maxLen]; omega) ?_
  · rcases hs with ⟨c, rfl, rfl⟩ | ⟨ad, c, rfl, h2, h3⟩
    · exact .inl ⟨c, rfl, rfl, rfl⟩
    · exact .inr ⟨ad, c, rfl, by simpa using h2, h3⟩
  · intro v h' h1 h2 h3 h4 h5
    refine k v h' h1 h2 (fun j B hj hne => h3 j B hj fun ad c hh hc => hne ad _ c hh hc) h4 ?_
    rcases h5 with ⟨c, rfl, h6, h7⟩ | ⟨ad, c, rfl, h6, h7⟩
    · exact .inl ⟨c, rfl, List.eq_nil_of_length_eq_zero (by simpa using h6)⟩
    · exact .inr ⟨ad, c, by simp, by simpa using h6, by simpa using h7⟩
end Go.Gh
