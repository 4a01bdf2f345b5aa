/- A framework of this claim's proof, part 11. The triple of a piece of code. No statement of the claim stands here. -/
import Derived.Test.YtlobmpkfdnifpaaGh10
namespace Go.Gh
open Go Go.RowKit
set_option linter.unusedVariables false
set_option linter.unusedSimpArgs false

/-! ## Code -/

inductive GX | normal | exit (id : Nat) | ret
def GX.to : GX → Exit | .normal => .normal | .exit i => .exit i | .ret => .ret

abbrev GQ := GX → Env → GH → Prop

/-- What is told of the end of a piece of code, of concrete memory. -/
def Lift (N nt : Nat) (φ : Fm) (w : World) (Q : GQ) : Exit → Act → World → Prop := fun x a' w' =>
  ∃ gx e h φ', x = GX.to gx ∧ a'.defers = [] ∧ Ext φ φ' ∧ Sim N φ' h w' ∧ Rel φ' nt e a'.tmps ∧ Below N w w' ∧ Q gx e h

theorem Lift.step {N nt : Nat} {φ φ' : Fm} {w w' : World} {Q : GQ} (hE : Ext φ φ') (hB : Below N w w') {x : Exit} {a : Act} {w2 : World} (h : Lift N nt φ' w' Q x a w2) : Lift N nt φ w Q x a w2 := by
  obtain ⟨gx, e, h0, φ2, h1, h2, h3, h4, h5, h6, h7⟩ := h
  exact ⟨gx, e, h0, φ2, h1, h2, hE.trans h3, h4, h5, hB.trans h6, h7⟩

def operOk (P : Program) (nt : Nat) (o : Oper) : Bool := dstOk nt o.dst && o.op.operands.all (opdOk P.globals.size)

def codeOk (P : Program) (nt : Nat) : Code → Bool
  | .skip | .exit _ | .ret => true
  | .region _ ops _ => ops.all (operOk P nt)
  | .seq a b => codeOk P nt a && codeOk P nt b
  | .cond c a b => opdOk P.globals.size c && codeOk P nt a && codeOk P nt b
  | .block _ c => codeOk P nt c
  | .loop c => codeOk P nt c
  | _ => false

/-- THE TRIPLE OF A PIECE OF CODE. -/
def GW (P : Program) (N nt : Nat) (c : Code) (Q : GQ) (e : Env) (h : GH) : Prop :=
  codeOk P nt c = true → P.globals.size ≤ N → ∀ φ w (a : Act), Sim N φ h w → Rel φ nt e a.tmps → a.defers = [] → c.wp P (Lift N nt φ w Q) a w

def Sub (e' e : Env) : Prop := ∀ i, lk e' i = U ∨ lk e' i = lk e i
theorem Rel.sub {φ : Fm} {nt : Nat} {e e' : Env} {t : Array Value} (r : Rel φ nt e t) (h : Sub e' e) : Rel φ nt e' t := ⟨r.size, fun i => by
  rcases h i with h | h
  · rw [h]; exact VR.u _ _
  · rw [h]; exact r.get i⟩

section
variable {P : Program} {N nt : Nat} {Q : GQ} {e : Env} {h : GH}

theorem GW.mono {c : Code} {Q' : GQ} (g : GW P N nt c Q e h) (hq : ∀ x e h, Q x e h → Q' x e h) : GW P N nt c Q' e h :=
  fun ok hG φ w a s r hd => wp_mono (g ok hG φ w a s r hd) fun x a w' ⟨gx, e, h0, φ2, h1, h2, h3, h4, h5, h6, h7⟩ => ⟨gx, e, h0, φ2, h1, h2, h3, h4, h5, h6, hq _ _ _ h7⟩

theorem gw_weak {c : Code} {e' : Env} (hs : Sub e' e) (g : GW P N nt c Q e' h) : GW P N nt c Q e h :=
  fun ok hG φ w a s r hd => g ok hG φ w a s (r.sub hs) hd

theorem gw_skip (k : Q .normal e h) : GW P N nt .skip Q e h :=
  fun _ _ φ w a s r hd => wp_skip ⟨.normal, e, h, φ, rfl, hd, Ext.refl _, s, r, Below.refl _ _, k⟩
theorem gw_ret (k : Q .ret e h) : GW P N nt .ret Q e h :=
  fun _ _ φ w a s r hd => wp_ret ⟨.ret, e, h, φ, rfl, hd, Ext.refl _, s, r, Below.refl _ _, k⟩
theorem gw_exit {id : Nat} (k : Q (.exit id) e h) : GW P N nt (.exit id) Q e h :=
  fun _ _ φ w a s r hd => wp_exit ⟨.exit id, e, h, φ, rfl, hd, Ext.refl _, s, r, Below.refl _ _, k⟩

def thenQ (next : Env → GH → Prop) (Q : GQ) : GQ
  | .normal, e, h => next e h
  | x, e, h => Q x e h
theorem thenQ_n (next : Env → GH → Prop) (Q : GQ) (e : Env) (h : GH) : thenQ next Q .normal e h = next e h := rfl
theorem thenQ_x (next : Env → GH → Prop) (Q : GQ) (i : Nat) (e : Env) (h : GH) : thenQ next Q (.exit i) e h = Q (.exit i) e h := rfl
theorem thenQ_r (next : Env → GH → Prop) (Q : GQ) (e : Env) (h : GH) : thenQ next Q .ret e h = Q .ret e h := rfl

theorem Lift.at {φ : Fm} {w : World} {x : Exit} {a : Act} {w' : World} (l : Lift N nt φ w Q x a w') :
    (x = .normal ∧ ∃ e h φ', a.defers = [] ∧ Ext φ φ' ∧ Sim N φ' h w' ∧ Rel φ' nt e a.tmps ∧ Below N w w' ∧ Q .normal e h) ∨ (x ≠ .normal ∧ ∃ gx e h φ', gx ≠ .normal ∧ x = GX.to gx ∧ a.defers = [] ∧ Ext φ φ' ∧ Sim N φ' h w' ∧ Rel φ' nt e a.tmps ∧ Below N w w' ∧ Q gx e h) := by
  obtain ⟨gx, e, h0, φ2, h1, h2, h3, h4, h5, h6, h7⟩ := l
  cases gx with
  | normal => exact .inl ⟨h1, e, h0, φ2, h2, h3, h4, h5, h6, h7⟩
  | exit i => exact .inr ⟨by rw [h1]; simp [GX.to], _, e, h0, φ2, by simp, h1, h2, h3, h4, h5, h6, h7⟩
  | ret => exact .inr ⟨by rw [h1]; simp [GX.to], _, e, h0, φ2, by simp, h1, h2, h3, h4, h5, h6, h7⟩

theorem gw_seq {x y : Code} (g : GW P N nt x (thenQ (GW P N nt y Q) Q) e h) : GW P N nt (.seq x y) Q e h := by
  intro ok hG φ w a s r hd
  simp only [codeOk, Bool.and_eq_true] at ok
  refine wp_seq (wp_mono (g ok.1 hG φ w a s r hd) fun x a' w' l => ?_)
  rcases l.at with ⟨rfl, e', h', φ', h2, h3, h4, h5, h6, h7⟩ | ⟨hne, gx, e', h', φ', hgx, hx, h2, h3, h4, h5, h6, h7⟩
  · exact wp_mono (h7 ok.2 hG φ' w' a' h4 h5 h2) fun _ _ _ l2 => l2.step h3 h6
  · have hl : Lift N nt φ w Q x a' w' := ⟨gx, e', h', φ', hx, h2, h3, h4, h5, h6, by cases gx <;> first | exact absurd rfl hgx | exact h7⟩
    cases x <;> first | exact absurd rfl hne | exact hl

theorem gw_cond {c : Operand} {x y : Code} {t : Bool} (hc : ev e c = .bool t) (ht : t = true → GW P N nt x Q e h) (hf : t = false → GW P N nt y Q e h) : GW P N nt (.cond c x y) Q e h := by
  intro ok hG φ w a s r hd
  simp only [codeOk, Bool.and_eq_true] at ok
  have hv := r.ev s hG ok.1.1
  rw [hc] at hv
  have hcv : a.eval c = .bool t := by generalize a.eval c = z at hv; cases hv; rfl
  refine wp_cond_split hcv (fun h1 => ?_) (fun h1 => ?_)
  · exact ht h1 ok.1.2 hG φ w a s r hd
  · exact hf h1 ok.2 hG φ w a s r hd

def blockQ (id : Nat) (Q : GQ) : GQ
  | .exit id', e, h => if id' = id then Q .normal e h else Q (.exit id') e h
  | x, e, h => Q x e h

theorem blockQ_n (id : Nat) (Q : GQ) (e : Env) (h : GH) : blockQ id Q .normal e h = Q .normal e h := rfl
theorem blockQ_r (id : Nat) (Q : GQ) (e : Env) (h : GH) : blockQ id Q .ret e h = Q .ret e h := rfl
theorem blockQ_x (id i : Nat) (Q : GQ) (e : Env) (h : GH) : blockQ id Q (.exit i) e h = if i = id then Q .normal e h else Q (.exit i) e h := rfl

theorem gw_block {id : Nat} {c : Code} (g : GW P N nt c (blockQ id Q) e h) : GW P N nt (.block id c) Q e h := by
  intro ok hG φ w a s r hd
  refine wp_block (wp_mono (g ok hG φ w a s r hd) fun x a' w' l => ?_)
  obtain ⟨gx, e', h', φ', rfl, h2, h3, h4, h5, h6, h7⟩ := l
  cases gx with
  | normal => exact ⟨.normal, e', h', φ', rfl, h2, h3, h4, h5, h6, h7⟩
  | ret => exact ⟨.ret, e', h', φ', rfl, h2, h3, h4, h5, h6, h7⟩
  | exit id' =>
    simp only [GX.to, Exit.inBlock, blockQ] at h7 ⊢
    split
    · rename_i hid; rw [if_pos hid] at h7; exact ⟨.normal, e', h', φ', rfl, h2, h3, h4, h5, h6, h7⟩
    · rename_i hid; rw [if_neg hid] at h7; exact ⟨.exit id', e', h', φ', rfl, h2, h3, h4, h5, h6, h7⟩

theorem wp_loop_n {c : Code} {Q : Exit → Act → World → Prop} (I : Nat → Act → World → Prop) {n0 : Nat} {a : Act} {w : World} (h₀ : I n0 a w)
    (round : ∀ n a w, I n a w → c.wp P (Exit.then (fun a' w' => ∃ m, m < n ∧ I m a' w') Q) a w) : (Code.loop c).wp P Q a w := by
  intro b k cs
  have key : ∀ n a w, I n a w → ∃ e a' w', Q e a' w' ∧ Arrives P (lone (b.at a (.code c :: .inLoop c :: k)) cs w) b k cs e a' w' := by
    intro n
    induction n using Nat.strongRecOn with
    | _ n ih =>
      intro a w hI
      obtain ⟨e, a₁, w₁, hq, harr⟩ := round n a w hI b (.inLoop c :: k) cs
      cases e with
      | normal =>
        obtain ⟨m, hlt, hI₁⟩ := hq
        obtain ⟨e₂, a₂, w₂, hq₂, harr₂⟩ := ih m hlt a₁ w₁ hI₁
        exact ⟨e₂, a₂, w₂, hq₂, .of_steps (Steps.trans harr (.one step_inLoop)) harr₂⟩
      | exit id => exact ⟨_, a₁, w₁, hq, .pass (x := .inLoop c) rfl (fun _ _ => .inl (by simp)) harr⟩
      | goto l => exact ⟨_, a₁, w₁, hq, .pass (x := .inLoop c) rfl (fun _ _ => .inl (by simp)) harr⟩
      | ret => exact ⟨_, a₁, w₁, hq, .pass (x := .inLoop c) rfl (fun _ _ => .inl (by simp)) harr⟩
      | panic ch => exact ⟨_, a₁, w₁, hq, .pass (x := .inLoop c) rfl (fun _ _ => .inl (by simp)) harr⟩
      | outgrown => exact ⟨_, a₁, w₁, hq, .pass (x := .inLoop c) rfl (fun _ _ => .inl (by simp)) harr⟩
  obtain ⟨e, a', w', hq, harr⟩ := key _ a w h₀
  exact ⟨e, a', w', hq, .of_steps (.one step_loop) harr⟩

/-- A loop: what holds at the head of a round with at most n rounds to go. -/
theorem gw_loop {c : Code} (I : Nat → Env → GH → Prop) (n0 : Nat) {e0 : Env} (hs : Sub e0 e) (h0 : I n0 e0 h)
    (round : ∀ n e h, I n e h → GW P N nt c (thenQ (fun e' h' => ∃ m e'', m < n ∧ Sub e'' e' ∧ I m e'' h') Q) e h) : GW P N nt (.loop c) Q e h := by
  intro ok hG φ w a s r hd
  have ok' : codeOk P nt c = true := ok
  refine wp_loop_n (fun n a' w' => ∃ e' h' φ', a'.defers = [] ∧ Ext φ φ' ∧ Sim N φ' h' w' ∧ Rel φ' nt e' a'.tmps ∧ Below N w w' ∧ I n e' h') (n0 := n0)
    ⟨e0, h, φ, hd, Ext.refl _, s, r.sub hs, Below.refl _ _, h0⟩ ?_
  rintro n a' w' ⟨e', h', φ', h2, h3, h4, h5, h6, h7⟩
  refine wp_mono (round n e' h' h7 ok' hG φ' w' a' h4 h5 h2) fun x a2 w2 l => ?_
  rcases l.at with ⟨rfl, e2, g2, φ2, q2, q3, q4, q5, q6, m, e3, hm, hsub, hI⟩ | ⟨hne, gx, e2, g2, φ2, hgx, hx, q2, q3, q4, q5, q6, q7⟩
  · exact ⟨m, hm, e3, g2, φ2, q2, h3.trans q3, q4, q5.sub hsub, h6.trans q6, hI⟩
  · have hl : Lift N nt φ w Q x a2 w2 := ⟨gx, e2, g2, φ2, hx, q2, h3.trans q3, q4, q5, h6.trans q6, by cases gx <;> first | exact absurd rfl hgx | exact q7⟩
    cases x <;> first | exact absurd rfl hne | exact hl

/-! ## Regions in the order of the text -/

/-- What operation j has yielded: by the places that the operations write. -/
def gyield (ds : List (Option Tmp)) (e : Env) (j : Nat) (w : Bool) : Option Bool :=
  match ds[j]? with
  | some (some t) => match lk e t with
    | .bool b => some b
    | .tuple ⟨[]⟩ => some (!w)
    | _ => none
  | _ => none
/-- What is not there: an operation that was not wanted. -/
abbrev UD : Value := .tuple ⟨[]⟩
theorem VR.ud (φ : Fm) : VR φ UD undef := .tuple .nil

def gops (P : Program) (N : Nat) (ds : List (Option Tmp)) (l : List Oper) (K : Env → GH → Prop) (e : Env) (h : GH) : Prop :=
  match l with
  | [] => K e h
  | o :: r => match o.guard with
    | none => gop P N e h (fun v h' => gops P N ds r K (eput e o.dst v) h') o.op
    | some (j, w) => ∃ b, gyield ds e j w = some b ∧ (if b = w then gop P N e h (fun v h' => gops P N ds r K (eput e o.dst v) h') o.op else gops P N ds r K (eput e o.dst UD) h)
/-- What is left of a region, behind an operation's value. -/
def kops (P : Program) (N : Nat) (ds : List (Option Tmp)) (r : List Oper) (K : Env → GH → Prop) (e : Env) (d : Option Tmp) (v : Value) (h : GH) : Prop := gops P N ds r K (eput e d v) h
/-- An operation under a guard. -/
def wantK (y : Option Bool) (w : Bool) (P : Program) (N : Nat) (ds : List (Option Tmp)) (r : List Oper) (K : Env → GH → Prop) (e : Env) (h : GH) (d : Option Tmp) (op : Op) : Prop :=
  ∃ b, y = some b ∧ (if b = w then gop P N e h (kops P N ds r K e d) op else gops P N ds r K (eput e d UD) h)

section
variable (P : Program) (N : Nat) (ds : List (Option Tmp)) (r : List Oper) (K : Env → GH → Prop) (e : Env) (h : GH) (d : Option Tmp) (op : Op) (ty : TypeId) (pos : String) (after : Array Edge)
theorem gops_nil : gops P N ds [] K e h = K e h := by unfold gops; rfl
theorem gops_none : gops P N ds (⟨d, op, ty, pos, after, none⟩ :: r) K e h = gop P N e h (kops P N ds r K e d) op := by
  rw [gops]; rfl
theorem gops_some (j : Nat) (w : Bool) : gops P N ds (⟨d, op, ty, pos, after, some (j, w)⟩ :: r) K e h = wantK (gyield ds e j w) w P N ds r K e h d op := by
  rw [gops]; rfl
theorem kops_ap (i : Nat) (v : Value) : kops P N ds r K e (some i) v h = gops P N ds r K ((i, v) :: e) h := rfl
theorem kops_no (v : Value) : kops P N ds r K e none v h = gops P N ds r K e h := rfl
theorem want_tt : wantK (some true) true P N ds r K e h d op = gop P N e h (kops P N ds r K e d) op := by simp [wantK]
theorem want_ff : wantK (some false) false P N ds r K e h d op = gop P N e h (kops P N ds r K e d) op := by simp [wantK]
theorem want_tf : wantK (some true) false P N ds r K e h d op = kops P N ds r K e d UD h := by simp [wantK, kops]
theorem want_ft : wantK (some false) true P N ds r K e h d op = kops P N ds r K e d UD h := by simp [wantK, kops]
end

theorem gyield_sound {φ : Fm} {ops : Array Oper} {t : Array Value} (r : Rel φ nt e t) {j : Nat} {w b : Bool} (hy : gyield (ops.toList.map (·.dst)) e j w = some b) : (yielded ops t j == some w) = (b == w) := by
  unfold gyield at hy
  split at hy
  case h_2 => cases hy
  rename_i d hd0
  have hd : (ops[j]?).bind (·.dst) = some d := by
    rw [List.getElem?_map, Array.getElem?_toList] at hd0
    cases ho : ops[j]? with
    | none => simp [ho] at hd0
    | some o => simpa [ho] using hd0
  have hr := r.get d
  unfold yielded
  rw [hd]
  simp only [Option.bind_some]
  split at hy
  · rename_i b' hb
    cases hy
    rw [hb] at hr
    rw [Array.getD_eq_getD_getElem?] at hr
    cases ht : t[d]? with
    | none => rw [ht] at hr; simp only [Option.getD_none, undef] at hr; cases hr
    | some v => rw [ht] at hr; simp only [Option.getD_some] at hr; cases hr; rfl
  · rename_i hb
    cases hy
    rw [hb] at hr
    rw [Array.getD_eq_getD_getElem?] at hr
    cases ht : t[d]? with
    | none => cases w <;> rfl
    | some v =>
      rw [ht] at hr
      simp only [Option.getD_some] at hr
      cases hr
      cases w <;> rfl
  · cases hy

theorem put_defers {a : Act} {d : Option Tmp} {v : Value} : (a.put d v).defers = a.defers := by cases d <;> rfl

theorem gops_sound {ops : Array Oper} {QQ : Exit → Act → World → Prop} (hG : P.globals.size ≤ N) {K : Env → GH → Prop} : ∀ (l : List Oper), l.all (operOk P nt) = true → ∀ (e : Env) (h : GH), gops P N (ops.toList.map (·.dst)) l K e h →
    ∀ φ w (a : Act), Sim N φ h w → Rel φ nt e a.tmps → a.defers = [] →
    (∀ e' h' φ' (a' : Act) w', K e' h' → Ext φ φ' → Sim N φ' h' w' → Rel φ' nt e' a'.tmps → a'.defers = [] → Below N w w' → QQ .normal a' w') → wpList P ops QQ l a w
  | [], _, e, h, g, φ, w, a, s, r, hd, k => k e h φ a w (by rw [gops_nil] at g; exact g) (Ext.refl _) s r hd (Below.refl _ _)
  | o :: l, ok, e, h, g, φ, w, a, s, r, hd, k => by
    simp only [List.all_cons, Bool.and_eq_true, operOk] at ok
    obtain ⟨⟨ok1, ok2⟩, ok3⟩ := ok
    have hops : ∀ x ∈ o.op.operands, opdOk P.globals.size x = true := by
      intro x hx
      exact Array.all_eq_true_iff_forall_mem.1 ok2 x hx
    have yes : gop P N e h (kops P N (ops.toList.map (·.dst)) l K e o.dst) o.op → o.wp P a w (wpList P ops QQ l) QQ := fun gg =>
      gop_sound hG s r hops gg fun v v' φ' h' w' p1 p2 p3 p4 p5 =>
        gops_sound hG l ok3 _ _ p5 φ' w' _ p2 ((r.mono p1).put ok1 p3) (by rw [put_defers]; exact hd) fun e' h2 φ2 a' w2 q1 q2 q3 q4 q5 q6 => k e' h2 φ2 a' w2 q1 (p1.trans q2) q3 q4 q5 (p4.trans q6)
    have no : gops P N (ops.toList.map (·.dst)) l K (eput e o.dst UD) h → wpList P ops QQ l (a.put o.dst undef) w := fun gg =>
      gops_sound hG l ok3 _ _ gg φ w _ s (r.put ok1 (VR.ud _)) (by rw [put_defers]; exact hd) k
    obtain ⟨dst, op, ty, pos, after, guard⟩ := o
    unfold wpList
    cases guard with
    | none =>
      rw [gops_none] at g
      rw [if_pos (by simp [Region.wanted])]
      exact .inl (yes g)
    | some jw =>
      obtain ⟨j, want⟩ := jw
      rw [gops_some] at g
      obtain ⟨b, hy, hb⟩ := g
      have hyy := gyield_sound r hy
      by_cases hbw : b = want
      · rw [if_pos hbw] at hb
        rw [if_pos (by simp only [Region.wanted]; rw [hyy]; simp [hbw])]
        exact .inl (yes hb)
      · rw [if_neg hbw] at hb
        rw [if_neg (by simp only [Region.wanted]; rw [hyy]; simp [hbw])]
        exact no hb

theorem gw_region {id : Nat} {ops : Array Oper} (g : gops P N (ops.toList.map (·.dst)) ops.toList (Q .normal) e h) : GW P N nt (.region id ops false) Q e h := by
  intro ok hG φ w a s r hd
  refine wp_region_list (gops_sound hG ops.toList ?_ e h g φ w a s r hd ?_)
  · simp only [codeOk] at ok
    rw [List.all_eq_true]
    intro o ho
    exact Array.all_eq_true_iff_forall_mem.1 ok o (by simpa using ho)
  · exact fun e' h' φ' a' w' k p1 p2 p3 p4 p5 => ⟨.normal, e', h', φ', rfl, p4, p1, p2, p3, p5, k⟩

/-! ## A function -/

def aenv : Nat → List Value → Env
  | _, [] => []
  | n, v :: r => (n, v) :: aenv (n + 1) r

theorem lk_aenv : ∀ (l : List Value) (n i : Nat), lk (aenv n l) i = if n ≤ i then (l[i - n]?).getD U else U
  | [], n, i => by simp [aenv, lk]
  | v :: r, n, i => by
    simp only [aenv, lk, lk_aenv r]
    by_cases h : n = i
    · subst h; simp
    · rw [if_neg h]
      by_cases h2 : n ≤ i
      · rw [if_pos (by omega), if_pos h2, show i - n = (i - (n + 1)) + 1 by omega]
        simp
      · rw [if_neg (by omega), if_neg h2]

def gress (P : Program) (e : Env) (h : GH) : List ResultVar → Option (List Value)
  | [] => some []
  | .tmp t :: r => (gress P e h r).map (lk e t :: ·)
  | .cell a t :: r => match gLoad P t h (lk e a), gress P e h r with
    | some v, some l => some (v :: l)
    | _, _ => none
def gone : List Value → Value
  | [v] => v
  | l => .tuple l.toArray

/-- What is owed at a function's end. -/
def retQ (P : Program) (res : Array ResultVar) (Q : Value → GH → Prop) : GQ := fun x e h =>
  (x = .normal ∨ x = .ret) ∧ ∃ l, gress P e h res.toList = some l ∧ Q (gone l) h

def oneRes (tmps : Array Value) : ResultVar → Sem Value
  | .tmp t => pure (tmps.getD t undef)
  | .cell a t => do loadVar t (← asAddr (tmps.getD a undef))

theorem gress_sound {φ : Fm} {w : World} (s : Sim N φ h w) {t : Array Value} (r : Rel φ nt e t) : ∀ (l : List ResultVar) (vs : List Value), gress P e h l = some vs → ∃ vs', (l.mapM (oneRes t)).run P w = .ok vs' w ∧ VRs φ vs vs'
  | [], vs, hv => by
    simp only [gress, Option.some.injEq] at hv
    subst hv
    exact ⟨[], by simp, .nil⟩
  | .tmp i :: l, vs, hv => by
    simp only [gress, Option.map_eq_some_iff] at hv
    obtain ⟨vs0, h1, rfl⟩ := hv
    obtain ⟨vs', h2, h3⟩ := gress_sound s r l vs0 h1
    exact ⟨_, by simp only [List.mapM_cons, Sem.run_bind, oneRes, Sem.run_pure, Result.andThen_ok, h2], .cons (r.get i) h3⟩
  | .cell x ty :: l, vs, hv => by
    simp only [gress] at hv
    split at hv
    case h_2 => cases hv
    rename_i v l0 h0 h1
    cases hv
    obtain ⟨vs', h2, h3⟩ := gress_sound s r l l0 h1
    obtain ⟨v', h4, h5⟩ := gLoad_sound (P := P) s (r.get x) h0
    refine ⟨v' :: vs', ?_, .cons h5 h3⟩
    have h6 : (do loadVar ty (← asAddr (t.getD x undef)) : Sem Value).run P w = .ok v' w := by
      have hx := r.get x
      generalize t.getD x undef = z at hx h4
      unfold gLoad at h0
      split at h0
      case h_2 => cases h0
      rename_i ad hx2
      rw [hx2] at hx
      cases hx
      simp only [Instr.loadAt, Instr.sureAddr, Sem.run_bind, Sem.run_pure, Result.andThen_ok] at h4
      simp only [asAddr, Sem.run_bind, Sem.run_pure, Result.andThen_ok, h4]
    simp only [Sem.run_bind] at h6
    simp only [List.mapM_cons, Sem.run_bind, oneRes, h6, Result.andThen_ok, h2, Sem.run_pure]

theorem results_eq (fn : Func) (tmps : Array Value) : results fn tmps = (do
    let vs ← fn.results.mapM (oneRes tmps)
    pure (if h : vs.size = 1 then vs[0] else .tuple vs)) := by
  unfold results
  congr 1

theorem results_sound {φ : Fm} {w : World} (s : Sim N φ h w) {t : Array Value} (r : Rel φ nt e t) {fn : Func} {vs : List Value} (hv : gress P e h fn.results.toList = some vs) :
    ∃ v', (results fn t).run P w = .ok v' w ∧ VR φ (gone vs) v' := by
  obtain ⟨vs', h1, h2⟩ := gress_sound s r _ _ hv
  rw [results_eq]
  have hm : (fn.results.mapM (oneRes t)).run P w = .ok vs'.toArray w := by
    rw [Array.mapM_eq_mapM_toList, Sem.run_map, h1]; rfl
  simp only [Sem.run_bind, hm, Result.andThen_ok, Sem.run_pure]
  refine ⟨_, rfl, ?_⟩
  cases h2 with
  | nil => simp only [gone]; exact .tuple .nil
  | cons h hs =>
    cases hs with
    | nil => simpa [gone] using h
    | cons h2 hs2 =>
      simp only [gone, List.size_toArray, List.length_cons]
      rw [dif_neg (by omega)]
      exact .tuple (.cons h (.cons h2 hs2))

/-- From a function's body to the function. -/
theorem gtri {f : FuncId} {fn : Func} {c : Code} (hf : P.funcs[f]? = some fn) (hb : fn.body = some c) (hgf : gfn P f = true) (hok : codeOk P fn.ntmps c = true) {args : List Value} (hl : args.length ≤ fn.ntmps) {R : Value → GH → Prop}
    (g : GW P N fn.ntmps c (retQ P fn.results R) (aenv 0 args) h) : GTri P N f args h R := by
  intro hG φ w args' s ha
  refine .inl ⟨hgf, calls_of_wp hf hb ?_⟩
  have hlen := ha.length
  have hsz : args'.size = args.length := by simpa using hlen.symm
  refine wp_mono (g hok hG φ w _ s ⟨by simp [hsz]; omega, fun i => ?_⟩ rfl) fun x a' w' l => ?_
  · rw [lk_aenv]
    simp only [Nat.zero_le, if_true, Nat.sub_zero]
    cases hi : args[i]? with
    | none => exact VR.u _ _
    | some v =>
      obtain ⟨v', h1, h2⟩ := ha.get i v hi
      simp only [Option.getD_some]
      have hlt : i < args'.size := by rw [hsz]; exact (List.getElem?_eq_some_iff.1 hi).1
      have : (args' ++ Array.replicate (fn.ntmps - args'.size) undef).getD i undef = v' := by
        rw [Array.getD_eq_getD_getElem?, Array.getElem?_append_left hlt]
        simp only [Array.getElem?_toList] at h1
        rw [h1]; rfl
      rw [this]; exact h2
  · obtain ⟨gx, e', h', φ', hx, h2, h3, h4, h5, h6, h7, vs, h8, h9⟩ := l
    obtain ⟨v', r1, r2⟩ := results_sound (P := P) h4 h5 h8
    rcases h7 with rfl | rfl
    · subst hx
      exact ⟨h2, v', r1, _, v', φ', h', rfl, h3, h4, r2, h6, h9⟩
    · subst hx
      exact ⟨h2, v', r1, _, v', φ', h', rfl, h3, h4, r2, h6, h9⟩

end
end Go.Gh
