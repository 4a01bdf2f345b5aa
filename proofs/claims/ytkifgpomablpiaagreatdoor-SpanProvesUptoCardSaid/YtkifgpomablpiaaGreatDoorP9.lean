/- Parts of this claim's proof, 9. No statement of the claim stands here. -/
import Derived.Test.YtkifgpomablpiaaGreatDoorP8
import Derived.Lib.ConvBytes
import Derived.Laws.AppendOwn
namespace Go.Gh
open Go Go.RowKit
set_option linter.unusedVariables false
set_option linter.unusedSimpArgs false
section
variable {P : Program} {N nt : Nat} {Q : GQ} {e : Env} {h : GH} {ops : Array Oper} {l : List Oper}
end
structure LRec where
  fn : FuncId
  tmps : Array Value
  ps : Array Tmp
  assign : Code
  body : Code
  D : Nat
  φ0 : Fm
def LRec.loop (r : LRec) (st : LoopState) : Loop := { state := st, pending := none, fn := r.fn, tmps := r.tmps, params := r.ps, assign := r.assign, body := r.body, defers := r.D }
def LOk (N l : Nat) (r : LRec) (φ : Fm) (w : World) : Prop := N ≤ l ∧ w.heap[l]? = some (.loop (r.loop .ready)) ∧ Ext r.φ0 φ
theorem LOk.below {N l : Nat} {r : LRec} {φ φ' : Fm} {w w' : World} (h : LOk N l r φ w) (x : Ext φ φ') (b : Below N w w') : LOk N l r φ' w' := ⟨h.1, b.lp _ _ h.2.1 rfl, h.2.2.trans x⟩
def YTri (P : Program) (N l : Nat) (r : LRec) (args : List Value) (h : GH) (Q : GH → Prop) : Prop :=
  P.globals.size ≤ N → ∀ φ w (args' : Array Value), Sim N φ h w → VRs φ args args'.toList → LOk N l r φ w →
    ∃ (fn : FuncId) (tmps : Array Value) (assign body : Code), (Instr.yield l args').run P w = .ok (.round l fn tmps assign body) w ∧
      RoundIn (FW none) 0 P l fn tmps assign body w fun e w' => ∃ φ' h', e = .returned (.bool true) ∧ Ext φ φ' ∧ Sim N φ' h' w' ∧ Below N w w' ∧ Q h'
def GTrio (l : Nat) (r : LRec) (P : Program) (N : Nat) (f : FuncId) (args : List Value) (h : GH) (Q : GH → Prop) : Prop :=
  P.globals.size ≤ N → ∀ φ w (args' : Array Value), Sim N φ h w → VRs φ args args'.toList → LOk N l r φ w →
    vC P f = true ∧ Calls P f args' w fun e w' => ∃ v' φ' h', e = .returned v' ∧ Ext φ φ' ∧ Sim N φ' h' w' ∧ Below N w w' ∧ Q h'
def zH3 (l : Nat) (r : LRec) (P : Program) (N nt : Nat) (c : Code) (Q : GQ) (e : Env) (h : GH) : Prop :=
  qV P nt c = true → P.globals.size ≤ N → ∀ φ w (a : Act), Sim N φ h w → Rel φ nt e a.tmps → ∀ {B : Nat}, DOk B w a.defers → LOk N l r φ w → c.wpIn (FW none) 0 P (Lift N nt B φ w Q) a w
def GRo (l : Nat) (r : LRec) (P : Program) (N nt : Nat) (ops : Array Oper) (Q : GQ) (L : List Oper) (e : Env) (h : GH) : Prop :=
  L.all (rD P nt) = true → L.all qL1 = true → P.globals.size ≤ N → ∀ φ w (a : Act), Sim N φ h w → Rel φ nt e a.tmps → ∀ {B : Nat}, DOk B w a.defers → LOk N l r φ w → ∀ φ0 w0, Ext φ0 φ → Below N w0 w → wpListIn (FW none) 0 P ops (Lift N nt B φ0 w0 Q) L a w
section
variable {P : Program} {N nt l : Nat} {r : LRec} {Q : GQ} {e : Env} {h : GH}
theorem qD1 {c : Code} (g : GW P N nt c Q e h) : zH3 l r P N nt c Q e h := fun ok hG φ w a s q _ hd _ => g ok hG φ w a s q hd none (.inl rfl)
theorem lW {x y : Code} (g : zH3 l r P N nt x (rN (zH3 l r P N nt y Q) Q) e h) : zH3 l r P N nt (.seq x y) Q e h := by
  intro ok hG φ w a s q B hd hl
  simp only [qV, Bool.and_eq_true] at ok
  refine wpIn_seq (wpIn_mono (g ok.1 hG φ w a s q hd hl) fun x a' w' li => ?_)
  rcases li.at with ⟨rfl, e', h', φ', h2, h3, h4, h5, h6, h7⟩ | ⟨hne, gx, e', h', φ', hgx, hx, h2, h3, h4, h5, h6, h7⟩
  · exact wpIn_mono (h7 ok.2 hG φ' w' a' h4 h5 h2 (hl.below h3 h6)) fun _ _ _ l2 => l2.step h3 h6
  · have hl : Lift N nt B φ w Q x a' w' := ⟨gx, e', h', φ', hx, h2, h3, h4, h5, h6, by cases gx <;> first | exact absurd rfl hgx | exact h7⟩
    cases x <;> first | exact absurd rfl hne | exact hl
theorem gwo_cond {c : Operand} {x y : Code} {t : Bool} (hc : ev e c = .bool t) (ht : t = true → zH3 l r P N nt x Q e h) (hf : t = false → zH3 l r P N nt y Q e h) : zH3 l r P N nt (.cond c x y) Q e h := by
  intro ok hG φ w a s q B hd hl
  simp only [qV, Bool.and_eq_true] at ok
  have hv := q.ev s hG ok.1.1
  rw [hc] at hv
  have hcv : a.eval c = .bool t := by generalize a.eval c = z at hv; cases hv; rfl
  refine wpIn_cond_split hcv (fun h1 => ?_) (fun h1 => ?_)
  · exact ht h1 ok.1.2 hG φ w a s q hd hl
  · exact hf h1 ok.2 hG φ w a s q hd hl
theorem zI5 {c : Operand} {x y : Code} (g : qW8 (ev e c) (zH3 l r P N nt x Q e h) (zH3 l r P N nt y Q e h)) : zH3 l r P N nt (.cond c x y) Q e h := by
  obtain ⟨t, h1, h2, h3⟩ := g
  exact gwo_cond h1 h2 h3
theorem qR9 {id : Nat} {c : Code} (g : zH3 l r P N nt c (tE id Q) e h) : zH3 l r P N nt (.block id c) Q e h := by
  intro ok hG φ w a s q B hd hl
  refine wpIn_block (wpIn_mono (g ok hG φ w a s q hd hl) fun x a' w' li => ?_)
  obtain ⟨gx, e', h', φ', rfl, h2, h3, h4, h5, h6, h7⟩ := li
  cases gx with
  | normal => exact ⟨.normal, e', h', φ', rfl, h2, h3, h4, h5, h6, h7⟩
  | ret => exact ⟨.ret, e', h', φ', rfl, h2, h3, h4, h5, h6, h7⟩
  | exit id' =>
    simp only [GX.to, Exit.inBlock, tE] at h7 ⊢
    split
    · rename_i hid; rw [if_pos hid] at h7; exact ⟨.normal, e', h', φ', rfl, h2, h3, h4, h5, h6, h7⟩
    · rename_i hid; rw [if_neg hid] at h7; exact ⟨.exit id', e', h', φ', rfl, h2, h3, h4, h5, h6, h7⟩
theorem gwo_loop {c : Code} (I : Nat → Env → GH → Prop) (n0 : Nat) {e0 : Env} (hs : Sub e0 e) (h0 : I n0 e0 h)
    (round : ∀ n e h, I n e h → zH3 l r P N nt c (rN (fun e' h' => ∃ m e'', m < n ∧ Sub e'' e' ∧ I m e'' h') Q) e h) : zH3 l r P N nt (.loop c) Q e h := by
  intro ok hG φ w a s q B hd hl
  have ok' : qV P nt c = true := ok
  refine qG0 (fun n a' w' => ∃ e' h' φ', DOk B w' a'.defers ∧ Ext φ φ' ∧ Sim N φ' h' w' ∧ Rel φ' nt e' a'.tmps ∧ Below N w w' ∧ I n e' h') (n0 := n0)
    ⟨e0, h, φ, hd, Ext.refl _, s, q.sub hs, Below.refl _ _, h0⟩ ?_
  rintro n a' w' ⟨e', h', φ', h2, h3, h4, h5, h6, h7⟩
  refine wpIn_mono (round n e' h' h7 ok' hG φ' w' a' h4 h5 h2 (hl.below h3 h6)) fun x a2 w2 li => ?_
  rcases li.at with ⟨rfl, e2, g2, φ2, q2, q3, q4, q5, q6, m, e3, hm, hsub, hI⟩ | ⟨hne, gx, e2, g2, φ2, hgx, hx, q2, q3, q4, q5, q6, q7⟩
  · exact ⟨m, hm, e3, g2, φ2, q2, h3.trans q3, q4, q5.sub hsub, h6.trans q6, hI⟩
  · have hl : Lift N nt B φ w Q x a2 w2 := ⟨gx, e2, g2, φ2, hx, q2, h3.trans q3, q4, q5, h6.trans q6, by cases gx <;> first | exact absurd rfl hgx | exact q7⟩
    cases x <;> first | exact absurd rfl hne | exact hl
theorem dO {ops : Array Oper} {QQ : Exit → Act → World → Prop} (hG : P.globals.size ≤ N) (hq : ¬ LetsOut QQ) {K : Env → GH → Prop} {dl : List Deferred} (l2 : List Oper) : ∀ (l : List Oper), l.all (rD P nt) = true → l.all qL1 = true → ∀ (e : Env) (h : GH), fE P N (ops.toList.map (·.dst)) l K e h →
    ∀ φ w (a : Act), Sim N φ h w → Rel φ nt e a.tmps → a.defers = dl →
    (∀ e' h' φ' (a' : Act) w', K e' h' → Ext φ φ' → Sim N φ' h' w' → Rel φ' nt e' a'.tmps → a'.defers = dl → Below N w w' → wpListIn (FW none) 0 P ops QQ l2 a' w') → wpListIn (FW none) 0 P ops QQ (l ++ l2) a w
  | [], _, _, e, h, g, φ, w, a, s, r, hd, k => k e h φ a w (by rw [qL9] at g; exact g) (Ext.refl _) s r hd (Below.refl _ _)
  | o :: l, ok, okn, e, h, g, φ, w, a, s, r, hd, k => by
    simp only [List.all_cons, Bool.and_eq_true, rD] at ok okn
    obtain ⟨⟨ok1, ok2⟩, ok3⟩ := ok
    have hops : ∀ x ∈ o.op.operands, tN P.globals.size x = true := by
      intro x hx
      exact Array.all_eq_true_iff_forall_mem.1 ok2 x hx
    have yes : qN P N e h (fX P N (ops.toList.map (·.dst)) l K e o.dst) o.op → o.wpIn (FW none) 0 P a w (wpListIn (FW none) 0 P ops QQ (l ++ l2)) QQ := fun gg =>
      op_in none okn.1 hq (fun _ _ z => z) (pU hG s r hops gg fun v v' φ' h' w' p1 p2 p3 p4 p5 =>
        dO hG hq l2 l ok3 okn.2 _ _ ((rU ..).mp p5) φ' w' _ p2 ((r.mono p1).put ok1 p3) (by rw [jN]; exact hd) fun e' h2 φ2 a' w2 q1 q2 q3 q4 q5 q6 => k e' h2 φ2 a' w2 q1 (p1.trans q2) q3 q4 q5 (p4.trans q6))
    have no : fE P N (ops.toList.map (·.dst)) l K (uH e o.dst UD) h → wpListIn (FW none) 0 P ops QQ (l ++ l2) (a.put o.dst undef) w := fun gg =>
      dO hG hq l2 l ok3 okn.2 _ _ gg φ w _ s (r.put ok1 (VR.ud _)) (by rw [jN]; exact hd) k
    obtain ⟨dst, op, ty, pos, after, guard⟩ := o
    rw [List.cons_append]
    unfold wpListIn
    cases guard with
    | none =>
      rw [qD4] at g
      rw [if_pos (by simp [Region.wanted])]
      exact yes g
    | some jw =>
      obtain ⟨j, want⟩ := jw
      rw [qD3] at g
      obtain ⟨b, hy, hb⟩ := g
      have hyy := sO r hy
      by_cases hbw : b = want
      · rw [if_pos hbw] at hb
        rw [if_pos (by simp only [Region.wanted]; rw [hyy]; simp [hbw])]
        exact yes hb
      · rw [if_neg hbw] at hb
        rw [if_neg (by simp only [Region.wanted]; rw [hyy]; simp [hbw])]
        exact ⟨fun _ _ => trivial, no hb⟩
variable {ops : Array Oper} {L : List Oper}
theorem gro_of {id : Nat} (g : GRo l r P N nt ops Q ops.toList e h) : zH3 l r P N nt (.region id ops false) Q e h := by
  intro ok hG φ w a s q B hd hl
  simp only [qV, Bool.and_eq_true] at ok
  have nd : ops.toList.all qL1 = true := by
    rw [List.all_eq_true]
    intro o ho
    exact Array.all_eq_true_iff_forall_mem.1 ok.2 o (by simpa using ho)
  exact wpIn_region_list (g (ops_ok ok.1) nd hG φ w a s q hd hl φ w (Ext.refl _) (Below.refl _ _))
theorem gro_cut (m : Nat) (g : fE P N (ops.toList.map (·.dst)) (L.take m) (GRo l r P N nt ops Q (L.drop m)) e h) : GRo l r P N nt ops Q L e h := by
  intro ok nd hG φ w a s q B hd hl φ0 w0 x0 b0
  have := dO (QQ := Lift N nt B φ0 w0 Q) (dl := a.defers) hG Lift.stay (L.drop m) (L.take m) (qB9 ok m).1 (qB9 nd m).1 e h g φ w a s q rfl fun e' h' φ' a' w' k x s' r' hd' b => k (qB9 ok m).2 (qB9 nd m).2 hG φ' w' a' s' r' (by rw [hd']; exact hd.below b) (hl.below x b) φ0 w0 (x0.trans x) (b0.trans b)
  rwa [List.take_append_drop] at this
theorem gro_end (g : fE P N (ops.toList.map (·.dst)) L (Q .normal) e h) : GRo l r P N nt ops Q L e h := by
  intro ok nd hG φ w a s q B hd hl φ0 w0 x0 b0
  have := dO (QQ := Lift N nt B φ0 w0 Q) (dl := a.defers) hG Lift.stay [] L ok nd e h g φ w a s q rfl fun e' h' φ' a' w' k p1 p2 p3 p4 p5 => ⟨.normal, e', h', φ', rfl, by rw [p4]; exact hd.below p5, x0.trans p1, p2, p3, b0.trans p5, k⟩
  rwa [List.append_nil] at this
theorem zR3 {dst : Option Tmp} {ty : TypeId} {pos : String} {after : Array Edge} {f : Operand} {args : Array Operand} {ats : Array TypeId} (hx : ev e f = .func (.yield l) #[] #[])
    (y : YTri P N l r (args.toList.map (ev e)) h fun h' => GRo l r P N nt ops Q L (uH e dst (.bool true)) h') : GRo l r P N nt ops Q (⟨dst, .call { callee := .value f, args := args, argTypes := ats }, ty, pos, after, none⟩ :: L) e h := by
  intro ok nd hG φ w a s q B hd hl φ0 w0 x0 b0
  simp only [List.all_cons, Bool.and_eq_true, rD] at ok nd
  obtain ⟨⟨ok1, ok2⟩, ok3⟩ := ok
  have hops : ∀ x ∈ (Op.call { callee := .value f, args := args, argTypes := ats }).operands, tN P.globals.size x = true := fun x hx => Array.all_eq_true_iff_forall_mem.1 ok2 x hx
  have hf := q.ev s hG (hops f (by simp [Op.operands, Call.operands]))
  rw [hx] at hf
  generalize hz : a.eval f = z at hf
  cases hf with
  | func h1 h2 =>
  rename_i fa fb
  have e1 : fa = #[] := by cases fa; cases h1; rfl
  have e2 : fb = #[] := by cases fb; cases h2; rfl
  subst e1
  subst e2
  have hargs : VRs φ (args.toList.map (ev e)) (args.map a.eval).toList := by
    rw [Array.toList_map]
    exact VRs.evs s hG q args.toList fun x hx => hops x (by simp [Op.operands, Call.operands]; exact .inr (by simpa using hx))
  obtain ⟨fn, tmps, assign, body, hrun, hR⟩ := y hG φ w _ s hargs hl
  unfold wpListIn
  rw [if_pos (by simp [Region.wanted])]
  refine ⟨fun _ _ => trivial, ?_⟩
  rw [show (FW none).round = none from rfl, Oper.semAt_none]
  have hex : (execOp a.eval { dst := dst, op := .call { callee := .value f, args := args, argTypes := ats }, type := ty, pos := pos, after := after, guard := none }).run P w = .ok (.round l fn tmps assign body) w := by
    simp [execOp, resolve, Deferred.ofValue, hz, invoke, hrun]
  rw [hex]
  refine ⟨fun z => by simp [FW, Fence.wide] at z, RoundIn.mono hR ?_⟩
  rintro x w' ⟨φ', h', rfl, p1, p2, p3, p4⟩
  exact p4 ok3 nd.2 hG φ' w' _ p2 ((q.mono p1).put ok1 (.bool true)) (by rw [jN]; exact hd.below p3) (hl.below p1 p3) φ0 w0 (x0.trans p1) (b0.trans p3)
theorem gtrio {f : FuncId} {fn : Func} {c : Code} (hf : P.funcs[f]? = some fn) (hb : fn.body = some c) (hgf : vC P f = true) (hok : qV P fn.ntmps c = true) (hr : fn.results.toList = []) {args : List Value} (hl : args.length ≤ fn.ntmps) {R : GH → Prop}
    (g : zH3 l r P N fn.ntmps c (fun x _ h' => (x = .normal ∨ x = .ret) ∧ R h') (aenv 0 args) h) : GTrio l r P N f args h R := by
  intro hG φ w args' s ha hlo
  refine ⟨hgf, (callsIn_wide (n := 0)).1 (callsIn_of_wp_marks hf hb trivial ?_ rfl)⟩
  have hlen := ha.length
  have hsz : args'.size = args.length := by simpa using hlen.symm
  refine wpIn_mono (g hok hG φ w _ s ⟨by simp [hsz]; omega, fun i => ?_⟩ (DOk.nil w) hlo) fun x a' w' li => ?_
  · rw [qW3]
    simp only [Nat.zero_le, if_true, Nat.sub_zero]
    cases hi : args[i]? with
    | none => exact VR.u _ _
    | some v =>
      obtain ⟨v', h1, h2⟩ := ha.get i v hi
      simp only [Option.getD_some]
      have hlt : i < args'.size := by rw [hsz]; exact (List.getElem?_eq_some_iff.1 hi).1
      have : (args' ++ Array.replicate (fn.ntmps - args'.size) undef).getD i undef = v' := by
        rw [Array.getD_eq_getD_getElem?, Array.getElem?_append_left hlt]
        simp only [Array.getElem?_toList] at h1
        rw [h1]; rfl
      rw [this]; exact h2
  · obtain ⟨gx, e', h', φ', hx, h2, h3, h4, h5, h6, h7, h8⟩ := li
    have fin : LeavesInM Fence.wide 0 P fn a'.tmps (fun e w' => ∃ v' φ' h', e = Ending.returned v' ∧ Ext φ φ' ∧ Sim N φ' h' w' ∧ Below N w w' ∧ R h') a'.defers .returning w' := by
      refine qC8 a'.defers w' h2 fun w2 x2 => ?_
      have h4' := h4.alike x2
      obtain ⟨v', r1, r2⟩ := mU (P := P) h4' h5 (vs := []) (show kH P e' h' fn.results.toList = some [] by rw [hr]; rfl)
      refine ⟨v', r1, v', φ', h', rfl, h3, h4', ?_, h8⟩
      refine ⟨x2.os.trans h6.os, x2.tape.trans h6.tape, x2.output.trans h6.output, by rw [x2.size]; exact h6.size, fun k hk => (x2.old k (Nat.lt_of_lt_of_le hk s.big)).trans (h6.block k hk), by rw [x2.drawn]; exact h6.drawn, fun k o e l => ?_⟩
      rw [x2.old k (Array.getElem?_eq_some_iff.1 e).1]
      exact h6.lp k o e l
    rcases h7 with rfl | rfl
    · subst hx
      exact fin
    · subst hx
      exact fin
theorem DOk.put {B l : Nat} {w : World} {ds : List Deferred} {lo lo' : Loop} (h : DOk B w ds) (hl : w.heap[l]? = some (.loop lo)) : DOk B (w.putObj l (.loop lo')) ds := ⟨by rw [World.putObj_size]; exact h.1, h.2.1, fun d hd => by
  obtain ⟨D, e0, e, h1⟩ := h.2.2 d hd
  exact ⟨D, e0, e, by rw [World.putObj_heap_other (fun q => by rw [q, hl] at h1; cases h1)]; exact h1⟩⟩
def bq (R : GH → Prop) : GQ
  | .normal, _, h => R h
  | _, _, _ => False
theorem bq_n (R : GH → Prop) (e : Env) (h : GH) : bq R .normal e h = R h := rfl
def noQ : GQ := fun _ _ _ => False
theorem round_of {assign body : Code} (hok : qV P nt assign = true ∧ qV P nt body = true) (hnr : zR0 assign = true ∧ zR0 body = true) (ha : r.assign = assign) (hbd : r.body = body) {p0 p1 : Tmp} (hps : r.ps = #[p0, p1]) (hp : p0 < nt ∧ p1 < nt) (hrel : Rel r.φ0 nt e r.tmps) {x y : Value} {R : GH → Prop}
    (g : GW P N nt assign (rN (fun e' h' => GW P N nt body (bq R) e' h') noQ) (uH (uH e (some p0) x) (some p1) y) h) :
    YTri P N l r [x, y] h R := by
  intro hG φ w args' s hv hl
  obtain ⟨args'⟩ := args'
  simp only at hv
  cases hv with
  | cons v1 hv =>
  cases hv with
  | cons v2 hv =>
  cases hv
  rename_i x' y'
  have hy := run_yield (P := P) (args := #[x', y']) hl.2.1 (by show 2 = r.ps.size; rw [hps]; rfl)
  have ha' : (r.loop .ready).assign = assign := ha
  have hb' : (r.loop .ready).body = body := hbd
  have ht' : (r.loop .ready).tmps = r.tmps := rfl
  have hp' : (r.loop .ready).params = #[p0, p1] := hps
  rw [ha', hb', ht', hp'] at hy
  refine ⟨_, _, assign, body, hy, ?_⟩
  have hrel' : Rel φ nt (uH (uH e (some p0) x) (some p1) y) ((#[p0, p1].zip #[x', y']).foldl (fun tmps (t, a) => tmps.setIfInBounds t a) r.tmps) := by
    have r0 : Rel φ nt e ({ tmps := r.tmps, defers := [] } : Act).tmps := hrel.mono hl.2.2
    have r1 := r0.put (d := some p0) (by simp [zF1, hp.1]) v1
    have r2 := r1.put (d := some p1) (by simp [zF1, hp.2]) v2
    simpa [Act.put] using r2
  refine roundIn_of_wpIn trivial ?_
  refine wpIn_mono (g hok.1 hG φ w { tmps := _, defers := [] } s hrel' (DOk.nil w) (some l) (.inr hnr.1)) fun xx a1 w1 li => ?_
  rcases li.at with ⟨rfl, e', h', φ', h2, h3, h4, h5, h6, h7⟩ | ⟨hne, gx, e', h', φ', hgx, hxx, h2, h3, h4, h5, h6, h7⟩
  case inr => cases gx <;> first | exact absurd rfl hgx | exact h7.elim
  have l1 := hl.below h3 h6
  have lt1 : l < w1.heap.size := (Array.getElem?_eq_some_iff.1 l1.2.1).1
  refine ⟨_, run_beginRound l1.2.1 rfl, ?_⟩
  have x2 : Alike l w1 (w1.putObj l (.loop { (r.loop .ready) with state := .busy })) := Alike.put l1.2.1 rfl rfl (Nat.le_refl _)
  have e2 : (w1.putObj l (.loop { (r.loop .ready) with state := .busy })).heap[l]? = some (.loop { (r.loop .ready) with state := .busy }) := World.putObj_heap_same lt1
  generalize hw2 : w1.putObj l (.loop { (r.loop .ready) with state := .busy }) = w2 at x2 e2
  have d2 : DOk w.heap.size w2 a1.defers := by rw [← hw2]; exact h2.put l1.2.1
  refine wpIn_mono (h7 hok.2 hG φ' w2 a1 (h4.alike x2) h5 d2 (some l) (.inr hnr.2)) fun xx a3 w3 li3 => ?_
  obtain ⟨gx, e3, h3', φ3, rfl, q2, q3, q4, q5, q6, q7⟩ := li3
  cases gx with
  | exit id => exact q7.elim
  | ret => exact q7.elim
  | normal =>
  have l3 : w3.heap[l]? = some (.loop { (r.loop .ready) with state := .busy }) := q6.lp _ _ e2 rfl
  have lt3 : l < w3.heap.size := (Array.getElem?_eq_some_iff.1 l3).1
  have x4 : Alike l w3 (w3.putObj l (.loop (r.loop .ready))) := Alike.put l3 rfl rfl (Nat.le_refl _)
  refine ⟨.bool true, w3.putObj l (.loop (r.loop .ready)), run_endRound none l3, φ3, h3', rfl, h3.trans q3, q4.alike x4, ?_, q7⟩
  refine ⟨?_, ?_, ?_, ?_, fun k hk => ?_, ?_, fun k o ek lk => ?_⟩
  · rw [x4.os, q6.os, x2.os, h6.os]
  · rw [x4.tape, q6.tape, x2.tape, h6.tape]
  · rw [x4.output, q6.output, x2.output, h6.output]
  · have := h6.size
    have := q6.size
    rw [x2.size] at this
    rw [x4.size]
    omega
  · rw [x4.old k (by have := hl.1; omega), q6.block k hk, x2.old k (by have := hl.1; omega), h6.block k hk]
  · have := h6.drawn
    have := q6.drawn
    rw [x2.drawn] at this
    rw [x4.drawn]
    omega
  · by_cases hkl : k = l
    · subst hkl
      rw [hl.2.1] at ek
      cases ek
      exact World.putObj_heap_same lt3
    · rw [World.putObj_heap_other hkl]
      refine q6.lp k o ?_ lk
      rw [← hw2, World.putObj_heap_other hkl]
      exact h6.lp k o ek lk
theorem gw_range {gt : Tmp} {p0 p1 : Tmp} {assign body : Code} {gf : FuncId} {fb : List Value} (hg : lk e gt = .func (.func gf) #[] fb.toArray) (hnr : (zR0 assign && zR0 body) = true)
    (n0 : Nat) (I : Nat → GH → Prop) (X : Nat → Value × Value) (h0 : I n0 h)
    (hit : ∀ l r (h2 : GH), I n0 h2 → (∀ i h', i < n0 → I (i + 1) h' → YTri P N l r [(X i).1, (X i).2] h' (I i)) → GTrio l r P N gf (.func (.yield l) #[] #[] :: fb) h2 (I 0))
    (round : ∀ i, i < n0 → ∀ h', I (i + 1) h' → GW P N nt assign (rN (fun e' h'' => GW P N nt body (bq (I i)) e' h'') noQ) (uH (uH e (some p0) (X i).1) (some p1) (X i).2) h')
    (fin : ∀ h', I 0 h' → Q .normal e h') : GW P N nt (.rangeFunc (.tmp gt) #[p0, p1] assign body) Q e h := by
  intro ok hG φ w a s q B hd ro hn
  have hro : ro = none := hn.resolve_right (by simp [zR0])
  subst hro
  simp only [qV, Bool.and_eq_true] at ok
  obtain ⟨⟨⟨ok1, ok2⟩, ok3⟩, ok4⟩ := ok
  simp only [Bool.and_eq_true] at hnr
  have hp : p0 < nt ∧ p1 < nt := by simpa using ok2
  have hv := q.ev s hG ok1
  have hev : ev e (.tmp gt) = .func (.func gf) #[] fb.toArray := hg
  rw [hev] at hv
  generalize hz : a.eval (.tmp gt) = z at hv
  cases hv with
  | func h1 h2 =>
  rename_i fa fb'
  have e1 : fa = #[] := by cases fa; cases h1; rfl
  subst e1
  refine wpIn_rangeFunc fun fn hfn => ?_
  have hent := run_enterLoop_outer (P := P) (w := w) fn a.tmps #[p0, p1] assign body
  rw [show (FW none).round = none from rfl]
  obtain ⟨r, hr⟩ : ∃ r : LRec, r = { fn := fn, tmps := a.tmps, ps := #[p0, p1], assign := assign, body := body, D := w.heap.size, φ0 := φ } := ⟨_, rfl⟩
  have hloop : ({ state := .ready, pending := none, fn, tmps := a.tmps, params := #[p0, p1], assign, body, defers := w.heap.size } : Loop) = r.loop .ready := by rw [hr]; rfl
  rw [hloop] at hent
  obtain ⟨w1, hw1⟩ : ∃ w1, (w.alloc (.deferred (some []))).alloc (.loop (r.loop .ready)) = w1 := ⟨_, rfl⟩
  rw [hw1] at hent
  have b1 : Below N w w1 := by rw [← hw1]; exact ((Below.refl N w).alloc s.big _).alloc (by rw [World.size_alloc]; have := s.big; omega) _
  have s1 : Sim N φ h w1 := s.grow b1.size fun k hk => by
    rw [← hw1]
    have hk2 : k < (w.alloc (.deferred (some []))).heap.size := by rw [World.size_alloc]; omega
    rw [Go.RowKit.Below.heap_alloc _ _ _ hk2, Go.RowKit.Below.heap_alloc _ _ _ hk]
  have hL1 : w1.heap[w.heap.size + 1]? = some (.loop (r.loop .ready)) := by
    rw [← hw1]
    have := World.alloc_heap_new (w.alloc (.deferred (some []))) (.loop (r.loop .ready))
    rwa [World.size_alloc] at this
  have hK1 : w1.heap[w.heap.size]? = some (.deferred (some [])) := by
    rw [← hw1]
    exact (Go.RowKit.Below.heap_alloc _ _ _ (by simp)).trans (World.alloc_heap_new w _)
  have lo1 : LOk N (w.heap.size + 1) r φ w1 := ⟨by have := s.big; omega, hL1, by rw [hr]; exact Ext.refl _⟩
  have hsz1 : w1.heap.size = w.heap.size + 2 := by rw [← hw1]; simp
  have hy : ∀ i h', i < n0 → I (i + 1) h' → YTri P N (w.heap.size + 1) r [(X i).1, (X i).2] h' (I i) := fun i h' hi hI =>
    round_of (e := e) (nt := nt) ⟨ok3, ok4⟩ hnr (by rw [hr]) (by rw [hr]) (by rw [hr]) hp (by rw [hr]; exact q) (round i hi h' hI)
  have hgf := hit (w.heap.size + 1) r h h0 hy hG φ w1 (#[.func (.yield (w.heap.size + 1)) #[] #[]] ++ fb') s1 (by
    rw [Array.toList_append]
    exact .cons (.func .nil .nil) h2) lo1
  obtain ⟨hgf, hcall⟩ := hgf
  have hcf := gQ hgf (#[.func (.yield (w.heap.size + 1)) #[] #[]] ++ fb') w1
  refine ⟨w.heap.size + 1, [{ target := .collected w.heap.size, args := #[] }], w1, { target := .fn (.func gf) fb', args := #[.func (.yield (w.heap.size + 1)) #[] #[]] }, w1, gf,
    #[.func (.yield (w.heap.size + 1)) #[] #[]] ++ fb', w1, hent, ?_, fun _ _ => trivial, ?_, fun z => by simp [FW, Fence.wide] at z, ?_⟩
  · simp only [resolve, hz]
    simp [go_sem]
  · simp [invoke, go_sem, hcf]
  · refine CallsIn.mono ((callsIn_wide (n := 0 - 1)).2 hcall) ?_
    rintro x w2 ⟨v', φ', h', rfl, p1, p2, p3, p4⟩
    have lo2 := lo1.below p1 p3
    have x3 : Alike (w.heap.size + 1) w2 (w2.putObj (w.heap.size + 1) (.loop { (r.loop .ready) with state := .exhausted })) := Alike.put lo2.2.1 rfl rfl (Nat.le_refl _)
    refine ⟨none, _, run_endLoop lo2.2.1 (by simp [LRec.loop]), ?_⟩
    refine ⟨.normal, e, h', φ', rfl, ?_, p1, p2.alike x3, q.mono p1, ?_, fin h' p4⟩
    · have d2 := (hd.below b1).below p3
      have k2 := p3.lp _ _ hK1 rfl
      refine ⟨by rw [x3.size]; exact d2.1, ?_, fun d hdm => ?_⟩
      · refine List.pairwise_cons.2 ⟨fun d hdm => ?_, d2.2.1⟩
        obtain ⟨D, hD, ed, hw⟩ := hd.2.2 d hdm
        have := (Array.getElem?_eq_some_iff.1 hw).1
        rw [ed]
        intro z
        injection z with z
        omega
      · rcases List.mem_cons.1 hdm with rfl | hdm
        · exact ⟨w.heap.size, hd.1, rfl, by rw [World.putObj_heap_other (by omega)]; exact k2⟩
        · obtain ⟨D, hD, ed, hw⟩ := d2.2.2 d hdm
          exact ⟨D, hD, ed, by rw [World.putObj_heap_other (fun z => by rw [z, lo2.2.1] at hw; cases hw)]; exact hw⟩
    · have b2 := b1.trans p3
      refine ⟨x3.os.trans b2.os, x3.tape.trans b2.tape, x3.output.trans b2.output, by rw [x3.size]; exact b2.size, fun k hk => (x3.old k (by have := s.big; omega)).trans (b2.block k hk), by rw [x3.drawn]; exact b2.drawn, fun k o ek lk' => ?_⟩
      have := (Array.getElem?_eq_some_iff.1 ek).1
      rw [World.putObj_heap_other (by omega)]
      exact b2.lp k o ek lk'
end
theorem qK6 {xs ys : List (Nat × Nat)} : ∀ (L : List Nat) (listed : Array Bool), qF7 (qJ8 xs) listed L → qF7 (qJ8 ys) listed L → qF7 (qJ8 (xs ++ ys)) listed L
  | [], _, _, _ => trivial
  | i :: r, listed, ⟨h1, h2⟩, ⟨h3, h4⟩ => by
    refine ⟨fun k hk => ?_, qK6 r _ h2 h4⟩
    unfold qJ8 at hk
    rw [List.any_append, Bool.or_eq_true] at hk
    rcases hk with hk | hk
    · exact h1 k hk
    · exact h3 k hk
end Go.Gh
