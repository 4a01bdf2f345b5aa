/- Parts of this claim's proof, 5. No statement of the claim stands here. -/
import Derived.Test.YtkifgpomablpiaaGreatDoorP4
import Derived.Orders
namespace Go.Gh
open Go Go.RowKit
set_option linter.unusedVariables false
set_option linter.unusedSimpArgs false
def qL : Op → Bool
  | .move _ | .assign _ | .pick .. | .build .. | .load .. | .nilCheck _ | .binOp .. | .unOp .. | .makeInterface .. | .makeFunc .. | .slice .. | .fieldAddr .. | .field .. | .indexAddr .. | .index .. | .extract .. | .lookup .. => false
  | .convert s d _ => decide (s = d)
  | .buildSlice _ n ps => !(n == 0 && ps.size == 0)
  | .call c => match c.callee with
    | .builtin .len | .builtin .cap | .builtin .min | .builtin .max => false
    | _ => true
  | _ => true
inductive RV
  | load (t : TypeId) (x v : Value)
  | conv (s d : TypeId) (x v : Value)
  | slc (t : TypeId) (x : Value) (lo hi mx : Option Value) (v : Value)
  | look (t : TypeId) (x key : Value) (ok : Bool) (v : Value)
  | len (t : TypeId) (x v : Value)
def rdv (P : Program) (h : GH) : RV → Prop
  | .load t x v => wZ P t h x = some v
  | .conv s d x v => uA P s d h x = some v
  | .slc t x lo hi mx v => vW P t h x lo hi mx = some v
  | .look t x key ok v => qA2 P t h x key ok = some v
  | .len t x v => (qE P t h x).map (.int .i64) = some v
def rvLen (v : Value) : Callee → List TypeId → List Value → Option RV
  | .builtin .len, [t], [x] => some (.len t x v)
  | _, _, _ => none
def rvOf (e : Env) (v : Value) : Op → Option RV
  | .lookup t x i ok => some (.look t (ev e x) (ev e i) ok v)
  | .call c => rvLen v c.callee c.argTypes.toList (c.args.toList.map (ev e))
  | .load t a => some (.load t (ev e a) v)
  | .convert s d x => if s = d then none else some (.conv s d (ev e x) v)
  | .slice t x lo hi mx => some (.slc t (ev e x) (lo.map (ev e)) (hi.map (ev e)) (mx.map (ev e)) v)
  | _ => none
def FV (P : Program) (N : Nat) (e : Env) (h : GH) (op : Op) (v : Value) : Prop := qN P N e h (fun v' h' => v' = v ∧ h' = h) op
theorem sL {o : Option Value} {h : GH} {K : Value → GH → Prop} (g : uQ o h K) : ∃ v, o = some v ∧ uQ o h (fun v' h' => v' = v ∧ h' = h) ∧ K v h := by
  obtain ⟨v, h1, h2⟩ := g
  exact ⟨v, h1, ⟨v, h1, rfl, rfl⟩, h2⟩
theorem optK_h {o : Option Value} {h h' : GH} {v : Value} (g : uQ o h (fun v' h'' => v' = v ∧ h'' = h)) : uQ o h' (fun v' h'' => v' = v ∧ h'' = h') := by
  obtain ⟨v, h1, h2, h3⟩ := g
  exact ⟨v, h1, h2, rfl⟩
theorem gInt_fv {op : BinOp} {k k' : IntKind} {a b : Int} {h : GH} {K : Value → GH → Prop} (g : gInt op k a k' b h K) : ∃ v, (∀ h', gInt op k a k' b h' (fun v' h'' => v' = v ∧ h'' = h')) ∧ K v h := by
  cases op <;> simp only [gInt] at g ⊢
  case quo => exact ⟨_, fun _ => ⟨g.1, g.2.1, rfl, trivial⟩, g.2.2⟩
  case rem => exact ⟨_, fun _ => ⟨g.1, g.2.1, rfl, trivial⟩, g.2.2⟩
  all_goals exact ⟨_, fun _ => ⟨g.1, rfl, trivial⟩, g.2⟩
theorem gStr_fv {op : BinOp} {a b : ByteArray} {h : GH} {K : Value → GH → Prop} (g : gStrOp op a b h K) : ∃ v, (∀ h', gStrOp op a b h' (fun v' h'' => v' = v ∧ h'' = h')) ∧ K v h := by
  cases op <;> simp only [gStrOp] at g ⊢ <;> try exact g.elim
  case add => exact ⟨_, fun _ => ⟨g.1, rfl, trivial⟩, g.2⟩
  all_goals exact ⟨_, fun _ => ⟨rfl, trivial⟩, g⟩
theorem zO5 {P : Program} {op : BinOp} {t : TypeId} {c : Bool} {x y : Value} {h : GH} {K : Value → GH → Prop} (g : gBin P op t c x y h K) : ∃ v, (∀ h', gBin P op t c x y h' (fun v' h'' => v' = v ∧ h'' = h')) ∧ K v h := by
  unfold gBin at g ⊢
  split at g
  · exact gInt_fv g
  · exact gStr_fv g
  · split at g
    · obtain ⟨v, h1, h2, h3⟩ := sL g
      exact ⟨v, fun h' => ⟨v, h1, rfl, rfl⟩, h3⟩
    · obtain ⟨v, h1, h2, h3⟩ := sL g
      exact ⟨v, fun h' => ⟨v, h1, rfl, rfl⟩, h3⟩
    · exact g.elim
theorem zD4 {P : Program} {b : Builtin} (hb : b = .len) {ats : List TypeId} {args : List Value} {h : GH} {K : Value → GH → Prop} (g : gBlt P b ats args h K) :
    ∃ t x v, ats = [t] ∧ args = [x] ∧ (qE P t h x).map (.int .i64) = some v ∧ K v h := by
  subst hb
  unfold gBlt at g
  split at g <;> first | (rename_i hb; cases hb; done) | skip
  · obtain ⟨v, h1, h2⟩ := g
    exact ⟨_, _, v, rfl, rfl, h1, h2⟩
  all_goals first | exact g.elim | (rename_i hb; cases hb)
theorem zO4 {P : Program} {b : Builtin} (hb : b = .cap ∨ b = .min ∨ b = .max) {ats : List TypeId} {args : List Value} {h : GH} {K : Value → GH → Prop} (g : gBlt P b ats args h K) :
    ∃ v, (∀ h', gBlt P b ats args h' (fun v' h'' => v' = v ∧ h'' = h')) ∧ K v h := by
  unfold gBlt at g ⊢
  split at g
  · rcases hb with h | h | h <;> cases h
  · obtain ⟨v, h1, h2, h3⟩ := sL g; exact ⟨v, fun h' => ⟨v, h1, rfl, rfl⟩, h3⟩
  · obtain ⟨v, h1, h2, h3⟩ := sL g; exact ⟨v, fun h' => ⟨v, h1, rfl, rfl⟩, h3⟩
  · obtain ⟨v, h1, h2, h3⟩ := sL g; exact ⟨v, fun h' => ⟨v, h1, rfl, rfl⟩, h3⟩
  · rcases hb with h | h | h <;> cases h
  · rcases hb with h | h | h <;> cases h
  · exact g.elim
theorem zR4 {P : Program} {N : Nat} {e : Env} {h : GH} {K : Value → GH → Prop} {op : Op} (hf : qL op = false) (g : qN P N e h K op) : ∃ v, FV P N e h op v ∧ K v h := by
  unfold FV
  cases op <;> simp only [qL, Bool.true_eq_false] at hf <;> simp only [qN] at g ⊢
  case move => exact ⟨_, ⟨rfl, trivial⟩, g⟩
  case assign => exact ⟨_, ⟨rfl, trivial⟩, g⟩
  case makeFunc => exact ⟨_, ⟨rfl, trivial⟩, g⟩
  case binOp => obtain ⟨v, h1, h2⟩ := zO5 g; exact ⟨v, h1 h, h2⟩
  case buildSlice t n ps =>
    simp only [Bool.not_eq_false', Bool.and_eq_true, beq_iff_eq] at hf
    obtain ⟨rfl, hps⟩ := hf
    obtain ⟨ee, es, by_, z, cs, h1, h2, h3, h4, h5, h6⟩ := g
    exact ⟨_, ⟨ee, es, by_, z, cs, h1, h2, h3, h4, h5, fun _ => ⟨rfl, rfl⟩, fun hh => absurd rfl hh⟩, h6.1 rfl⟩
  case call c =>
    obtain ⟨callee, args, ats⟩ := c
    cases callee with
    | value f => simp at hf
    | invoke x n => simp at hf
    | builtin b =>
      simp only at g hf ⊢
      by_cases hlen : b = .len
      · obtain ⟨t, x, v, e1, e2, e3, e4⟩ := zD4 hlen g
        subst hlen
        rw [e1, e2]
        exact ⟨v, ⟨v, e3, rfl, rfl⟩, e4⟩
      have hb : b = .cap ∨ b = .min ∨ b = .max := by cases b <;> simp_all
      obtain ⟨v, h1, h2⟩ := zO4 hb g
      exact ⟨v, h1 h, h2⟩
  case convert s d x =>
    simp only [decide_eq_false_iff_not] at hf
    simp only [gConvK, if_neg hf] at g ⊢
    obtain ⟨v, h1, h2, h3⟩ := sL g
    exact ⟨v, h2, h3⟩
  all_goals
    obtain ⟨v, h1, h2, h3⟩ := sL g
    exact ⟨v, h2, h3⟩
theorem fv_any {P : Program} {N : Nat} {e : Env} {h h' : GH} {v : Value} {op : Op} (hf : qL op = false) (hr : rvOf e v op = none) (g : FV P N e h op v) : FV P N e h' op v := by
  unfold FV at g ⊢
  cases op <;> simp only [qL, Bool.true_eq_false] at hf <;> simp only [rvOf] at hr <;> simp only [qN] at g ⊢
  case move => exact ⟨g.1, trivial⟩
  case assign => exact ⟨g.1, trivial⟩
  case makeFunc => exact ⟨g.1, trivial⟩
  case binOp =>
    obtain ⟨v2, h1, h2⟩ := zO5 g
    obtain rfl : v2 = v := h2.1
    exact h1 h'
  case buildSlice t n ps =>
    simp only [Bool.not_eq_false', Bool.and_eq_true, beq_iff_eq] at hf
    obtain ⟨rfl, hps⟩ := hf
    obtain ⟨ee, es, by_, z, cs, h1, h2, h3, h4, h5, h6⟩ := g
    exact ⟨ee, es, by_, z, cs, h1, h2, h3, h4, h5, fun _ => ⟨(h6.1 rfl).1, rfl⟩, fun hh => absurd rfl hh⟩
  case call c =>
    obtain ⟨callee, args, ats⟩ := c
    cases callee with
    | value f => simp at hf
    | invoke x n => simp at hf
    | builtin b =>
      simp only at g hf ⊢
      by_cases hlen : b = .len
      · obtain ⟨t, x, v, e1, e2, e3, e4⟩ := zD4 hlen g
        subst hlen
        simp only [e1, e2, rvLen] at hr
        cases hr
      have hb : b = .cap ∨ b = .min ∨ b = .max := by cases b <;> simp_all
      obtain ⟨v2, h1, h2⟩ := zO4 hb g
      obtain rfl : v2 = v := h2.1
      exact h1 h'
  case convert s d x =>
    simp only [decide_eq_false_iff_not] at hf
    rw [if_neg hf] at hr
    cases hr
  all_goals first
    | exact optK_h g
    | cases hr
theorem fv_read {P : Program} {N : Nat} {e : Env} {h : GH} {v : Value} {op : Op} {r : RV} (hr : rvOf e v op = some r) (g : rdv P h r) : FV P N e h op v := by
  unfold FV
  cases op
  case convert s d x =>
    simp only [rvOf] at hr
    split at hr
    · cases hr
    · rename_i hne
      cases hr
      simp only [qN, gConvK, if_neg hne]
      exact ⟨v, g, rfl, rfl⟩
  case call c =>
    simp only [rvOf] at hr
    unfold rvLen at hr
    split at hr
    · rename_i t x e1 e2 e3
      cases hr
      simp only [qN, e1, e2, e3]
      exact ⟨v, g, rfl, rfl⟩
    · cases hr
  all_goals (simp only [rvOf] at hr <;> cases hr <;> simp only [qN] <;> exact ⟨v, g, rfl, rfl⟩)
def wlk : List (Nat × RV) → Nat → Option RV
  | [], _ => none
  | (i, v) :: r, j => if i = j then some v else wlk r j
def zL2 (P : Program) (h : GH) : Option RV → Prop
  | some r => rdv P h r
  | none => True
def chk (P : Program) (h : GH) (wt : List (Nat × RV)) : List Nat → Prop
  | [] => True
  | j :: r => zL2 P h (wlk wt j) ∧ chk P h wt r
def wput (wt : List (Nat × RV)) (i : Nat) : Option RV → List (Nat × RV)
  | some rv => (i, rv) :: wt
  | none => wt
def gwd (ds : List (Option Tmp)) (e : Env) : Option (Nat × Bool) → Option Bool
  | none => some true
  | some (j, w) => (qC ds e j w).map fun b => b == w
def sI (P : Program) (N : Nat) (ds : List (Option Tmp)) (l : List (Nat × Oper × List Nat)) (wt : List (Nat × RV)) (K : Env → GH → Prop) (e : Env) (h : GH) : Prop :=
  match l with
  | [] => K e h
  | (i, o, un) :: r => ∃ wd, gwd ds e o.guard = some wd ∧
      (if wd = true then
        (if qL o.op = true then qN P N e h (fun v h' => chk P h' wt un ∧ sI P N ds r wt K (uH e o.dst v) h') o.op
         else qN P N e h (fun v h' => sI P N ds r (wput wt i (rvOf e v o.op)) K (uH e o.dst v) h') o.op)
       else sI P N ds r wt K (uH e o.dst UD) h)
structure Rec where
  i : Nat
  o : Oper
  un : List Nat
  v : Value
  w : Bool
def Rec.tri (r : Rec) : Nat × Oper × List Nat := (r.i, r.o, r.un)
def gF (e0 : Env) : List Rec → Env
  | [] => e0
  | r :: p => uH (gF e0 p) r.o.dst r.v
def jY (e0 : Env) (D : Nat → Bool) : List Rec → Env
  | [] => e0
  | r :: p => if D r.i = true then uH (jY e0 D p) r.o.dst r.v else jY e0 D p
def qI9 (P : Program) (N : Nat) (ds : List (Option Tmp)) (wt : List (Nat × RV)) (h : GH) (r : Rec) (e : Env) : Prop :=
  qL r.o.op = false ∧ gwd ds e r.o.guard = some r.w ∧ (r.w = true → FV P N e h r.o.op r.v ∧ (∀ rv, rvOf e r.v r.o.op = some rv → wlk wt r.i = some rv)) ∧ (r.w = false → r.v = UD)
def qF8 (P : Program) (N : Nat) (ds : List (Option Tmp)) (wt : List (Nat × RV)) (h : GH) (e0 : Env) (D : Nat → Bool) : List Rec → Prop
  | [] => True
  | r :: p => (D r.i = false → qI9 P N ds wt h r (gF e0 p)) ∧ qF8 P N ds wt h e0 D p
def qF9 (ops : Array Oper) (bef : Nat → Nat → Bool) (x y : Nat × Oper × List Nat) : Prop :=
  bef x.1 y.1 = false ∧
  (∀ d, x.2.1.dst = some d → (d ∈ y.2.1.looksAt ops ∨ y.2.1.dst = some d) → bef y.1 x.1 = true) ∧
  (∀ d, y.2.1.dst = some d → d ∈ x.2.1.looksAt ops → bef y.1 x.1 = true) ∧
  (qL x.2.1.op = true → bef y.1 x.1 = true) ∧
  (qL y.2.1.op = true → qL x.2.1.op = false → (∀ e v, rvOf e v x.2.1.op = none) ∨ bef y.1 x.1 = true ∨ x.1 ∈ y.2.2)
structure DrawOk (ops : Array Oper) (X : Nat → Nat → Bool) (l : List (Nat × Oper × List Nat)) (bef : Nat → Nat → Bool) : Prop where
  are : ∀ x ∈ l, ops[x.1]? = some x.2.1
  all : ∀ i, i < ops.size → ∃ x ∈ l, x.1 = i
  nd : (l.map (·.1)).Nodup
  edges : ∀ i o, ops[i]? = some o → ∀ j, bef i j = true → (∃ e ∈ o.after, Region.binds .any e = true ∧ (e.on = j ∨ bef e.on j = true)) ∨ ∃ k, X k i = true ∧ (k = j ∨ bef k j = true)
  back : ∀ i o, ops[i]? = some o → ∀ e ∈ o.after, Region.binds .any e = true → e.on < i
  pw : l.Pairwise (qF9 ops bef)
theorem chk_of {P : Program} {h : GH} {wt : List (Nat × RV)} : ∀ {un : List Nat}, chk P h wt un → ∀ {j : Nat}, j ∈ un → ∀ {rv : RV}, wlk wt j = some rv → rdv P h rv
  | k :: r, c, j, hj, rv, hw => by
    cases hj with
    | head => have := c.1; rw [hw] at this; exact this
    | tail _ hm => exact chk_of c.2 hm hw
theorem qS3 {P : Program} {N : Nat} {e e' : Env} {h : GH} {K : Value → GH → Prop} (op : Op) (he : ∀ x ∈ op.operands, ev e x = ev e' x) : qN P N e h K op = qN P N e' h K op := by
  have pairs : ∀ ps : Array (Nat × Operand), (∀ x ∈ ps.map (·.2), ev e x = ev e' x) → (ps.toList.map fun p => (p.1, ev e p.2)) = (ps.toList.map fun p => (p.1, ev e' p.2)) := fun ps hp =>
    List.map_congr_left fun p hm => by
      have : ev e p.2 = ev e' p.2 := hp p.2 (Array.mem_map.2 ⟨p, by simpa using hm, rfl⟩)
      rw [this]
  cases op <;> simp only [Op.operands] at he <;> simp only [qN]
  case build t ps => rw [pairs ps fun x hx => he x (by simpa using hx)]
  case buildSlice t n ps => rw [pairs ps fun x hx => he x (by simpa using hx)]
  case makeMap t r => cases r <;> rfl
  case next x b =>
    have h1 : ev e x = ev e' x := he x (by simp)
    cases b with
    | true => rfl
    | false =>
      show zN9 h (ev e x) K = zN9 h (ev e' x) K
      rw [h1]
  case makeFunc fn f c =>
    rw [Array.map_congr_left (xs := f) fun x hx => he x (by simp [hx]), Array.map_congr_left (xs := c) fun x hx => he x (by simp [hx])]
  case call c =>
    have hargs : c.args.toList.map (ev e) = c.args.toList.map (ev e') := List.map_congr_left fun x hx => he x (by simp [Call.operands]; exact .inr (by simpa using hx))
    rw [hargs]
    cases hc : c.callee with
    | value f => have hf : ev e f = ev e' f := he f (by simp [Call.operands, hc]); simp only [hf]
    | builtin b => rfl
    | invoke x n => have hf : ev e x = ev e' x := he x (by simp [Call.operands, hc]); simp only [hf]
  case slice t x lo hi mx => cases lo <;> cases hi <;> cases mx <;> simp_all
  all_goals (first | rfl | (simp_all; done))
theorem jF (e : Env) (d : Nat) (v : Value) (t : Nat) : lk (uH e (some d) v) t = if d = t then v else lk e t := rfl
theorem kO (e : Env) (d : Option Tmp) (v : Value) (t : Nat) (h : d ≠ some t) : lk (uH e d v) t = lk e t := by
  cases d with
  | none => rfl
  | some d => rw [jF, if_neg (fun hh => h (by rw [hh]))]
theorem qA9 {e0 : Env} {D : Nat → Bool} {t : Nat} : ∀ {pre : List Rec}, (∀ r ∈ pre, r.o.dst = some t → D r.i = true) → lk (jY e0 D pre) t = lk (gF e0 pre) t
  | [], _ => rfl
  | r :: p, h => by
    have ih := qA9 (e0 := e0) (D := D) (t := t) (pre := p) fun q hq => h q (by simp [hq])
    simp only [jY, gF]
    by_cases hd : r.o.dst = some t
    · rw [if_pos (h r (by simp) hd), hd, jF, jF, if_pos rfl, if_pos rfl]
    · rw [kO _ _ _ _ hd]
      split
      · rw [kO _ _ _ _ hd]; exact ih
      · exact ih
theorem qN2 {e0 : Env} {D : Nat → Bool} {t : Nat} {p : List Rec} : ∀ {p2 : List Rec}, (∀ r ∈ p2, r.o.dst = some t → D r.i = false) → lk (jY e0 D (p2 ++ p)) t = lk (jY e0 D p) t
  | [], _ => rfl
  | r :: p2, h => by
    have ih := qN2 (e0 := e0) (D := D) (t := t) (p := p) (p2 := p2) fun q hq => h q (by simp [hq])
    simp only [List.cons_append, jY]
    by_cases hd : r.o.dst = some t
    · have := h r (by simp) hd
      rw [if_neg (by rw [this]; simp)]; exact ih
    · split
      · rw [kO _ _ _ _ hd]; exact ih
      · exact ih
theorem zL1 {e0 : Env} {D D' : Nat → Bool} : ∀ {pre : List Rec}, (∀ r ∈ pre, D r.i = D' r.i) → jY e0 D pre = jY e0 D' pre
  | [], _ => rfl
  | r :: p, h => by
    simp only [jY]
    rw [h r (by simp), zL1 fun q hq => h q (by simp [hq])]
theorem cur_set {e0 : Env} {D : Nat → Bool} {t : Nat} {p p2 : List Rec} {r : Rec} (hnd : ((p2 ++ r :: p).map (·.i)).Nodup) (hr : D r.i = false) (h2 : ∀ q ∈ p2, ∀ d, r.o.dst = some d → q.o.dst = some d → D q.i = false) :
    lk (jY e0 (fun j => if j = r.i then true else D j) (p2 ++ r :: p)) t = lk (uH (jY e0 D (p2 ++ r :: p)) r.o.dst r.v) t := by
  have hn : ∀ q ∈ p2, q.i ≠ r.i := fun q hq he => by
    rw [List.map_append, List.nodup_append] at hnd
    exact hnd.2.2 q.i (List.mem_map.2 ⟨q, hq, rfl⟩) r.i (by simp) he
  have hn1 : ∀ q ∈ p, q.i ≠ r.i := fun q hq he => by
    rw [List.map_append, List.nodup_append] at hnd
    have := hnd.2.1
    simp only [List.map_cons, List.nodup_cons, List.mem_map, not_exists, not_and] at this
    exact this.1 q hq he
  have hp : jY e0 (fun j => if j = r.i then true else D j) p = jY e0 D p := zL1 fun q hq => by simp [hn1 q hq]
  by_cases hd : r.o.dst = some t
  · rw [hd, jF, if_pos rfl]
    rw [qN2 (fun q hq hqd => by simp only [if_neg (hn q hq)]; exact h2 q hq t hd hqd)]
    simp only [jY, if_true]
    rw [hd, jF, if_pos rfl]
  · rw [kO _ _ _ _ hd]
    have : ∀ (p2 : List Rec), (∀ q ∈ p2, q.i ≠ r.i) → lk (jY e0 (fun j => if j = r.i then true else D j) (p2 ++ r :: p)) t = lk (jY e0 D (p2 ++ r :: p)) t := by
      intro p2
      induction p2 with
      | nil =>
        intro _
        simp only [List.nil_append, jY, if_true, hr, Bool.false_eq_true, if_false]
        rw [kO _ _ _ _ hd, hp]
      | cons q p2 ih =>
        intro hq
        have ih := ih fun x hx => hq x (by simp [hx])
        simp only [List.cons_append, jY, if_neg (hq q (by simp))]
        by_cases hqd : q.o.dst = some t
        · split
          · rw [hqd, jF, jF, if_pos rfl, if_pos rfl]
          · exact ih
        · split
          · rw [kO _ _ _ _ hqd, kO _ _ _ _ hqd]; exact ih
          · exact ih
    exact this p2 hn
theorem Rel.eq {φ : Fm} {nt : Nat} {e e' : Env} {t : Array Value} (r : Rel φ nt e t) (h : ∀ i, lk e' i = lk e i) : Rel φ nt e' t := ⟨r.size, fun i => by rw [h i]; exact r.get i⟩
section
variable (P : Program) (N nt : Nat) (ops : Array Oper) (l : List (Nat × Oper × List Nat)) (bef : Nat → Nat → Bool) (K : Env → GH → Prop) (e0 : Env) (φ0 : Fm) (w0 : World) (dl : List Deferred)
abbrev dsOf (ops : Array Oper) : List (Option Tmp) := ops.toList.map (·.dst)
abbrev DD (listed : Array Bool) : Nat → Bool := fun i => listed.getD i false
structure Inv (listed : Array Bool) (a : Act) (w : World) (pre : List Rec) (l2 : List (Nat × Oper × List Nat)) (wt : List (Nat × RV)) (h : GH) (φ : Fm) : Prop where
  split : l = (pre.map Rec.tri).reverse ++ l2
  inpre : ∀ i, DD listed i = true → ∃ r ∈ pre, r.i = i
  closed : ∀ i, DD listed i = true → ∀ j, bef i j = true → DD listed j = true
  vc : sI P N (dsOf ops) l2 wt K (gF e0 pre) h
  hd : ∀ x r, l2 = x :: r → qL x.2.1.op = true
  sim : Sim N φ h w
  rel : Rel φ nt (jY e0 (DD listed) pre) a.tmps
  defers : a.defers = dl
  ext : Ext φ0 φ
  below : Below N w0 w
  pend : qF8 P N (dsOf ops) wt h e0 (DD listed) pre
end
section
variable {P : Program} {N nt : Nat} {ops : Array Oper} {l : List (Nat × Oper × List Nat)} {bef : Nat → Nat → Bool} {K : Env → GH → Prop} {e0 : Env} {φ0 : Fm} {w0 : World} {dl : List Deferred}
theorem zA0 {listed : Array Bool} {a : Act} {φ : Fm} (h : GH) : ∀ (l2 : List (Nat × Oper × List Nat)) (pre : List Rec) (wt : List (Nat × RV)),
    l = (pre.map Rec.tri).reverse ++ l2 → (l.map (·.1)).Nodup → (∀ i, DD listed i = true → ∃ r ∈ pre, r.i = i) → sI P N (dsOf ops) l2 wt K (gF e0 pre) h → Rel φ nt (jY e0 (DD listed) pre) a.tmps → qF8 P N (dsOf ops) wt h e0 (DD listed) pre →
    ∃ pre' l2' wt', l = (pre'.map Rec.tri).reverse ++ l2' ∧ (∀ i, DD listed i = true → ∃ r ∈ pre', r.i = i) ∧ sI P N (dsOf ops) l2' wt' K (gF e0 pre') h ∧ (∀ x r, l2' = x :: r → qL x.2.1.op = true) ∧ Rel φ nt (jY e0 (DD listed) pre') a.tmps ∧ qF8 P N (dsOf ops) wt' h e0 (DD listed) pre'
  | [], pre, wt, hl, hnd, hin, hvc, hrel, hp => ⟨pre, [], wt, hl, hin, hvc, (fun _ _ h => by cases h), hrel, hp⟩
  | (i, o, un) :: r, pre, wt, hl, hnd, hin, hvc, hrel, hp => by
    by_cases he : qL o.op = true
    · exact ⟨pre, _, wt, hl, hin, hvc, fun x r' hx => by cases hx; exact he, hrel, hp⟩
    · have he' : qL o.op = false := by simpa using he
      have hni : ∀ q ∈ pre, q.i ≠ i := fun q hq hqi => by
        rw [hl, List.map_append, List.nodup_append] at hnd
        exact hnd.2.2 q.i (by simp; exact ⟨q, hq, rfl⟩) i (by simp) hqi
      have hDi : DD listed i = false := by
        cases hD : DD listed i with
        | false => rfl
        | true => obtain ⟨q, hq, hqi⟩ := hin i hD; exact absurd hqi (hni q hq)
      unfold sI at hvc
      obtain ⟨wd, hg, hvc⟩ := hvc
      have step : ∀ (v : Value) (wt2 : List (Nat × RV)), sI P N (dsOf ops) r wt2 K (uH (gF e0 pre) o.dst v) h → (wt2 = wt ∨ ∃ rv, wt2 = (i, rv) :: wt) → qI9 P N (dsOf ops) wt2 h ⟨i, o, un, v, wd⟩ (gF e0 pre) →
          ∃ pre' l2' wt', l = (pre'.map Rec.tri).reverse ++ l2' ∧ (∀ i, DD listed i = true → ∃ r ∈ pre', r.i = i) ∧ sI P N (dsOf ops) l2' wt' K (gF e0 pre') h ∧ (∀ x r, l2' = x :: r → qL x.2.1.op = true) ∧ Rel φ nt (jY e0 (DD listed) pre') a.tmps ∧ qF8 P N (dsOf ops) wt' h e0 (DD listed) pre' := by
        intro v wt2 hv hwt hpo
        refine zA0 h r (⟨i, o, un, v, wd⟩ :: pre) wt2 ?_ hnd ?_ hv ?_ ?_
        · rw [hl]; simp [Rec.tri]
        · intro j hj
          obtain ⟨q, hq, hqj⟩ := hin j hj
          exact ⟨q, by simp [hq], hqj⟩
        · simp only [jY]
          rw [if_neg (by rw [hDi]; simp)]; exact hrel
        · refine ⟨fun _ => hpo, ?_⟩
          have mono : ∀ (p : List Rec), (∀ q ∈ p, q.i ≠ i) → qF8 P N (dsOf ops) wt h e0 (DD listed) p → qF8 P N (dsOf ops) wt2 h e0 (DD listed) p := by
            intro p
            induction p with
            | nil => intro _ _; trivial
            | cons q p ih =>
              intro hq ⟨h1, h2⟩
              refine ⟨fun hD => ?_, ih (fun x hx => hq x (by simp [hx])) h2⟩
              obtain ⟨k1, k2, k3, k4⟩ := h1 hD
              refine ⟨k1, k2, fun hw => ⟨(k3 hw).1, fun rv hrv => ?_⟩, k4⟩
              have := (k3 hw).2 rv hrv
              rcases hwt with rfl | ⟨rv0, rfl⟩
              · exact this
              · simp only [wlk]
                rw [if_neg (fun hh => hq q (by simp) hh.symm)]
                exact this
          exact mono pre hni hp
      cases wd with
      | false =>
        simp only [Bool.false_eq_true, if_false] at hvc
        exact step UD wt hvc (.inl rfl) ⟨he', hg, (fun hh => by cases hh), fun _ => rfl⟩
      | true =>
        simp only [if_true, he', Bool.false_eq_true, if_false] at hvc
        obtain ⟨v, hfv, hk⟩ := zR4 he' hvc
        refine step v (wput wt i (rvOf (gF e0 pre) v o.op)) hk ?_ ⟨he', hg, fun _ => ⟨hfv, fun rv hrv => ?_⟩, fun hh => by cases hh⟩
        · cases hrv : rvOf (gF e0 pre) v o.op with
          | none => exact .inl rfl
          | some rv => exact .inr ⟨rv, rfl⟩
        · simp only at hrv
          rw [hrv]
          simp [wput, wlk]
theorem qS0 {φ : Fm} {e : Env} {t : Array Value} {o : Oper} {b : Bool} (r : Rel φ nt e t) (h : gwd (dsOf ops) e o.guard = some b) : Region.wanted o (yielded ops t) = b := by
  unfold gwd at h
  unfold Region.wanted
  split at h
  · rename_i hg; cases h; simp [hg]
  · rename_i j w hg
    simp only [Option.map_eq_some_iff] at h
    obtain ⟨b', h1, rfl⟩ := h
    have := sO r h1
    rw [hg]
    exact this
theorem qS1 {e e' : Env} {o : Oper} (h : ∀ t, t ∈ o.looksAt ops → lk e t = lk e' t) : gwd (dsOf ops) e o.guard = gwd (dsOf ops) e' o.guard := by
  unfold gwd
  cases hg : o.guard with
  | none => rfl
  | some jw =>
    obtain ⟨j, w⟩ := jw
    have : qC (dsOf ops) e j w = qC (dsOf ops) e' j w := by
      unfold qC
      cases hd : (dsOf ops)[j]? with
      | none => rfl
      | some d =>
        cases d with
        | none => rfl
        | some t =>
          have ht : t ∈ o.looksAt ops := by
            have : (ops[j]?).bind (·.dst) = some t := by
              simp only [dsOf, List.getElem?_map, Array.getElem?_toList] at hd
              cases ho : ops[j]? with
              | none => simp [ho] at hd
              | some o' => simpa [ho] using hd
            simp [Oper.looksAt, hg, this]
          simp only [h t ht]
    simp only [this]
theorem zE6 {e e' : Env} {o : Oper} (h : ∀ t, t ∈ o.looksAt ops → lk e t = lk e' t) : ∀ x ∈ o.op.operands, ev e x = ev e' x := by
  intro x hx
  cases x with
  | tmp t => exact h t (by simp only [Oper.looksAt]; exact List.mem_append_left _ (List.mem_filterMap.2 ⟨.tmp t, by simpa using hx, rfl⟩))
  | const v => rfl
  | global g => rfl
  | func f => rfl
theorem qA1 (listed : Array Bool) (i j : Nat) (hi : i < listed.size) : (listed.setIfInBounds i true).getD j false = if j = i then true else listed.getD j false := by
  simp only [Array.getD_eq_getD_getElem?]
  by_cases h : j = i
  · subst h; simp [hi]
  · rw [if_neg h, Array.getElem?_setIfInBounds_ne (Ne.symm h)]
def qC2 (P : Program) (X : Nat → Nat → Bool) (ops : Array Oper) (Q : Exit → Act → World → Prop) : Nat → Array Bool → Act → World → Prop
  | 0, listed, a, w => Region.ready .any ops listed = [] ∧ Q .normal a w
  | fuel + 1, listed, a, w =>
    (Region.ready .any ops listed = [] → Q .normal a w) ∧
    ∀ i ∈ Region.ready .any ops listed, (∀ k, X k i = true → DD listed k = true) → wpOp P ops Q i (qC2 P X ops Q fuel (listed.setIfInBounds i true)) a w
def qF7 (X : Nat → Nat → Bool) : Array Bool → List Nat → Prop
  | _, [] => True
  | listed, i :: r => (∀ k, X k i = true → DD listed k = true) ∧ qF7 X (listed.setIfInBounds i true) r
theorem qU4 {X : Nat → Nat → Bool} {Q : Exit → Act → World → Prop} : ∀ (fuel t : Nat) (listed : Array Bool) (a : Act) (w : World), qC2 P X ops Q fuel listed a w →
    qF7 X listed (Region.linearise.go .any ops fuel t listed []) → wpOps P ops Q (Region.linearise.go .any ops fuel t listed []) a w := by
  intro fuel
  induction fuel with
  | zero => intro t listed a w h _; simpa [Region.linearise.go, wpOps] using h.2
  | succ fuel ih =>
    intro t listed a w h hx
    obtain ⟨h₀, h₁⟩ := h
    simp only [Region.linearise.go] at hx ⊢
    change qF7 X listed (match (Region.ready .any ops listed)[t % (Region.ready .any ops listed).length]? with
      | some i => Region.linearise.go .any ops fuel (t / (Region.ready .any ops listed).length) (listed.setIfInBounds i true) [i]
      | none => [].reverse) at hx
    change wpOps P ops Q (match (Region.ready .any ops listed)[t % (Region.ready .any ops listed).length]? with
      | some i => Region.linearise.go .any ops fuel (t / (Region.ready .any ops listed).length) (listed.setIfInBounds i true) [i]
      | none => [].reverse) a w
    cases hi : (Region.ready .any ops listed)[t % (Region.ready .any ops listed).length]? with
    | none =>
      have hnil : Region.ready .any ops listed = [] := by
        cases hr : Region.ready .any ops listed with
        | nil => rfl
        | cons x xs =>
          rw [hr] at hi
          have hlt : t % (x :: xs).length < (x :: xs).length := Nat.mod_lt _ (by simp)
          simp at hi
          simp at hlt
          omega
      simpa [wpOps] using h₀ hnil
    | some i =>
      rw [hi] at hx
      simp only [] at hx ⊢
      rw [linearise_go_acc, List.reverse_singleton, List.singleton_append] at hx ⊢
      rw [wpOps_cons]
      exact wpOp_mono (fun a w hh => ih _ _ a w hh hx.2) (h₁ i (List.mem_of_getElem? hi) hx.1)
def xOf (A B : Nat) (k i : Nat) : Bool := k == A && i == B
theorem qC7 {A B : Nat} : ∀ (L : List Nat) (listed : Array Bool), DD listed A = true → qF7 (xOf A B) listed L
  | [], _, _ => trivial
  | i :: r, listed, h => by
    refine ⟨fun k hk => ?_, qC7 r _ ?_⟩
    · simp only [xOf, Bool.and_eq_true, beq_iff_eq] at hk
      rw [hk.1]; exact h
    · by_cases hi : i < listed.size
      · show (listed.setIfInBounds i true).getD A false = true
        rw [qA1 listed i A hi]
        split
        · rfl
        · exact h
      · rw [Array.setIfInBounds_eq_of_size_le (by omega)]; exact h
theorem qC6 {A B : Nat} (hne : A ≠ B) : ∀ (L : List Nat) (listed : Array Bool), A < listed.size → B < listed.size → qF7 (xOf A B) listed L ∨ qF7 (xOf B A) listed L
  | [], _, _, _ => .inl trivial
  | i :: r, listed, hA, hB => by
    by_cases h1 : i = A
    · subst h1
      refine .inl ⟨fun k hk => ?_, qC7 r _ ?_⟩
      · simp only [xOf, Bool.and_eq_true, beq_iff_eq] at hk
        exact absurd hk.2 hne
      · show (listed.setIfInBounds i true).getD i false = true
        rw [qA1 listed i i hA, if_pos rfl]
    · by_cases h2 : i = B
      · subst h2
        refine .inr ⟨fun k hk => ?_, qC7 r _ ?_⟩
        · simp only [xOf, Bool.and_eq_true, beq_iff_eq] at hk
          exact absurd hk.2 (Ne.symm hne)
        · show (listed.setIfInBounds i true).getD i false = true
          rw [qA1 listed i i hB, if_pos rfl]
      · rcases qC6 hne r (listed.setIfInBounds i true) (by simpa using hA) (by simpa using hB) with h | h
        · refine .inl ⟨fun k hk => ?_, h⟩
          simp only [xOf, Bool.and_eq_true, beq_iff_eq] at hk
          exact absurd hk.2 h2
        · refine .inr ⟨fun k hk => ?_, h⟩
          simp only [xOf, Bool.and_eq_true, beq_iff_eq] at hk
          exact absurd hk.2 h1
theorem zN1 {L : List Nat} : ∀ (listed : Array Bool), qF7 (fun _ _ => false) listed L := by
  induction L with
  | nil => intro _; trivial
  | cons i r ih => exact fun listed => ⟨(fun k hk => by cases hk), ih _⟩
theorem zK9 {X : Nat → Nat → Bool} (hG : P.globals.size ≤ N) (ok : DrawOk ops X l bef) (hops : ∀ (i : Nat) (o : Oper), ops[i]? = some o → rD P nt o = true) {QQ : Exit → Act → World → Prop}
    (hK : ∀ e' h' φ' (a' : Act) w', K e' h' → Ext φ0 φ' → Sim N φ' h' w' → Rel φ' nt e' a'.tmps → a'.defers = dl → Below N w0 w' → QQ .normal a' w') :
    ∀ (fuel : Nat) (listed : Array Bool) (a : Act) (w : World), listed.size = ops.size → listed.toList.count false = fuel → (∃ pre l2 wt h φ, Inv P N nt ops l bef K e0 φ0 w0 dl listed a w pre l2 wt h φ) → qC2 P X ops QQ fuel listed a w := by
  have fin : ∀ (listed : Array Bool) (a : Act) (w : World), listed.size = ops.size → Region.ready .any ops listed = [] → (∃ pre l2 wt h φ, Inv P N nt ops l bef K e0 φ0 w0 dl listed a w pre l2 wt h φ) → QQ .normal a w := by
    rintro listed a w hsz hr ⟨pre, l2, wt, h, φ, I⟩
    have hall : ∀ i, i < ops.size → DD listed i = true := by
      intro i
      induction i using Nat.strongRecOn with
      | _ i ih =>
        intro hi
        cases hD : DD listed i with
        | true => rfl
        | false =>
          have hm : i ∈ Region.ready .any ops listed := by
            rw [mem_ready]
            refine ⟨?_, ops[i], Array.getElem?_eq_getElem hi, fun e he hb => ?_⟩
            · simp only [DD, Array.getD_eq_getD_getElem?] at hD ⊢
              rw [Array.getElem?_eq_getElem (by omega)] at hD ⊢
              simpa using hD
            · have hlt := ok.back i _ (Array.getElem?_eq_getElem hi) e he hb
              exact ih e.on hlt (by omega)
          rw [hr] at hm; cases hm
    have hl2 : l2 = [] := by
      cases hl : l2 with
      | nil => rfl
      | cons x r =>
        exfalso
        have hx : x ∈ l := by rw [I.split, hl]; simp
        have hlt : x.1 < ops.size := (Array.getElem?_eq_some_iff.1 (ok.are x hx)).1
        obtain ⟨q, hq, hqi⟩ := I.inpre _ (hall _ hlt)
        have nd := ok.nd
        rw [I.split, hl, List.map_append, List.nodup_append] at nd
        exact nd.2.2 q.i (by simp; exact ⟨q, hq, rfl⟩) x.1 (by simp) hqi
    have vc := I.vc
    rw [hl2] at vc
    unfold sI at vc
    refine hK _ _ φ a w vc I.ext I.sim (I.rel.eq fun t => (qA9 fun r hr _ => ?_).symm) I.defers I.below
    have hx : r.tri ∈ l := by rw [I.split]; simp; exact .inl ⟨r, hr, rfl⟩
    exact hall _ (Array.getElem?_eq_some_iff.1 (ok.are _ hx)).1
  intro fuel
  induction fuel with
  | zero =>
    intro listed a w hsz hc I
    have hr : Region.ready .any ops listed = [] := by
      rw [List.eq_nil_iff_forall_not_mem]
      intro j hj
      obtain ⟨h1, o, ho, _⟩ := mem_ready.1 hj
      have hlt : j < listed.size := by rw [hsz]; exact (Array.getElem?_eq_some_iff.1 ho).1
      rw [List.count_eq_zero] at hc
      apply hc
      simp only [Array.getD_eq_getD_getElem?, Array.getElem?_eq_getElem hlt, Option.getD_some] at h1
      rw [← h1]; simp
    exact ⟨hr, fin listed a w hsz hr I⟩
  | succ fuel ih =>
    intro listed a w hsz hc I0
    refine ⟨fun hr => fin listed a w hsz hr I0, fun i hi hxx => ?_⟩
    obtain ⟨pre, l2, wt, h, φ, I⟩ := I0
    obtain ⟨hiun, o, ho, hedges⟩ := mem_ready.1 hi
    have hlt : i < listed.size := by rw [hsz]; exact (Array.getElem?_eq_some_iff.1 ho).1
    have hDi : DD listed i = false := by
      simp only [DD, Array.getD_eq_getD_getElem?, Array.getElem?_eq_getElem hlt, Option.getD_some] at hiun ⊢
      exact hiun
    have hbef : ∀ j, bef i j = true → DD listed j = true := by
      intro j hj
      rcases ok.edges i o ho j hj with ⟨e, he, hb, hj⟩ | ⟨k, hk, hj⟩
      · have := hedges e he hb
        rcases hj with rfl | hj
        · exact this
        · exact I.closed _ this j hj
      · have := hxx k hk
        rcases hj with rfl | hj
        · exact this
        · exact I.closed _ this j hj
    have hsz' : (listed.setIfInBounds i true).size = ops.size := by simp [hsz]
    have hcount : (listed.setIfInBounds i true).toList.count false = fuel := by
      have h1 : listed.toList[i]'(by simpa using hlt) = false := by
        simp only [DD, Array.getD_eq_getD_getElem?, Array.getElem?_eq_getElem hlt, Option.getD_some] at hDi
        simpa using hDi
      rw [Array.toList_setIfInBounds, List.count_set (by simpa using hlt), h1, hc]
      simp
    have hD' : DD (listed.setIfInBounds i true) = fun j => if j = i then true else DD listed j := by
      funext j; exact qA1 listed i j hlt
    have hoOk := hops i o ho
    simp only [rD, Bool.and_eq_true] at hoOk
    have hopsOk : ∀ x ∈ o.op.operands, tN P.globals.size x = true := fun x hx => Array.all_eq_true_iff_forall_mem.1 hoOk.2 x hx
    have hclosed' : ∀ k, DD (listed.setIfInBounds i true) k = true → ∀ j, bef k j = true → DD (listed.setIfInBounds i true) j = true := by
      intro k hk j hj
      rw [hD'] at hk ⊢
      simp only at hk ⊢
      by_cases hji : j = i
      · rw [if_pos hji]
      · rw [if_neg hji]
        by_cases hki : k = i
        · subst hki; exact hbef j hj
        · rw [if_neg hki] at hk; exact I.closed k hk j hj
    have nd := ok.nd
    have pw := ok.pw
    have finish : ∀ (a' : Act) (w' : World), (∃ pre l2 wt h φ, Inv P N nt ops l bef K e0 φ0 w0 dl (listed.setIfInBounds i true) a' w' pre l2 wt h φ) → qC2 P X ops QQ fuel (listed.setIfInBounds i true) a' w' := fun a' w' J =>
      ih _ a' w' hsz' hcount J
    unfold wpOp
    rw [ho]
    simp only
    by_cases hin : ∃ r ∈ pre, r.i = i
    · -- it has been told: it floats
      obtain ⟨r, hr, hri⟩ := hin
      obtain ⟨p2, p, rfl⟩ := List.append_of_mem hr
      have hro : r.o = o := by
        have hx : r.tri ∈ l := by rw [I.split]; simp
        have := ok.are _ hx
        simp only [Rec.tri, hri, ho, Option.some.injEq] at this
        exact this.symm
      have hpend : qI9 P N (dsOf ops) wt h r (gF e0 p) := by
        have : ∀ (p2 : List Rec), qF8 P N (dsOf ops) wt h e0 (DD listed) (p2 ++ r :: p) → qI9 P N (dsOf ops) wt h r (gF e0 p) := by
          intro p2
          induction p2 with
          | nil => exact fun hp => hp.1 (by rw [hri]; exact hDi)
          | cons q p2 ih => exact fun hp => ih hp.2
        exact this p2 I.pend
      obtain ⟨hne, hgw, hfv, hnw⟩ := hpend
      have pw1 : ∀ q ∈ p, qF9 ops bef q.tri r.tri := by
        intro q hq
        have := pw
        rw [I.split, List.pairwise_append] at this
        have := this.1
        rw [List.pairwise_reverse, List.pairwise_map, List.pairwise_append] at this
        exact (List.pairwise_cons.1 this.2.1).1 q hq
      have pw2 : ∀ q ∈ p2, qF9 ops bef r.tri q.tri := by
        intro q hq
        have := pw
        rw [I.split, List.pairwise_append] at this
        have := this.1
        rw [List.pairwise_reverse, List.pairwise_map, List.pairwise_append] at this
        exact this.2.2 q hq r (by simp)
      have hlook : ∀ t, t ∈ o.looksAt ops → lk (jY e0 (DD listed) (p2 ++ r :: p)) t = lk (gF e0 p) t := by
        intro t ht
        rw [qN2 (fun q hq hqd => ?_)]
        · simp only [jY]
          rw [if_neg (by rw [hri, hDi]; simp)]
          refine qA9 fun q hq hqd => ?_
          have := (pw1 q hq).2.1 t hqd (.inl (by simp only [Rec.tri]; rw [hro]; exact ht))
          exact hbef _ (by simpa [Rec.tri, hri] using this)
        · have := (pw2 q hq).2.2.1 t hqd (by simp only [Rec.tri]; rw [hro]; exact ht)
          simp only [Rec.tri, hri] at this
          cases hq0 : DD listed q.i with
          | false => rfl
          | true => have := I.closed _ hq0 _ this; rw [hDi] at this; cases this
      have hnd2 : ((p2 ++ r :: p).map (·.i)).Nodup := by
        have := nd
        rw [I.split, List.map_append, List.nodup_append] at this
        have := this.1
        rw [List.map_reverse, (List.reverse_perm _).nodup_iff, List.map_map] at this
        exact this
      have hcs : ∀ t, lk (jY e0 (DD (listed.setIfInBounds i true)) (p2 ++ r :: p)) t = lk (uH (jY e0 (DD listed) (p2 ++ r :: p)) o.dst r.v) t := by
        intro t
        rw [hD', ← hri, ← hro]
        refine cur_set hnd2 (by rw [hri]; exact hDi) (fun q hq d hd hqd => ?_)
        have := (pw2 q hq).2.1 d hd (.inr hqd)
        simp only [Rec.tri, hri] at this
        cases hq0 : DD listed q.i with
        | false => rfl
        | true => have := I.closed _ hq0 _ this; rw [hDi] at this; cases this
      have hpend' : ∀ (pp : List Rec), qF8 P N (dsOf ops) wt h e0 (DD listed) pp → qF8 P N (dsOf ops) wt h e0 (DD (listed.setIfInBounds i true)) pp := by
        intro pp
        induction pp with
        | nil => exact fun _ => trivial
        | cons q pp ih =>
          rintro ⟨h1, h2⟩
          refine ⟨fun hq => h1 ?_, ih h2⟩
          rw [hD'] at hq
          simp only at hq
          split at hq
          · cases hq
          · exact hq
      have hinp : ∀ k, DD (listed.setIfInBounds i true) k = true → ∃ x ∈ p2 ++ r :: p, x.i = k := by
        intro k hk
        rw [hD'] at hk
        simp only at hk
        split at hk
        · rename_i hki; exact ⟨r, by simp, by rw [hki]; exact hri⟩
        · exact I.inpre k hk
      have hwant : Region.wanted o (yielded ops a.tmps) = r.w := by
        refine qS0 I.rel ?_
        rw [qS1 hlook, ← hro]; exact hgw
      rw [hwant]
      cases hw : r.w with
      | true =>
        simp only [if_true]
        refine .inl (pU hG I.sim I.rel hopsOk (K := fun v' h' => v' = r.v ∧ h' = h) ?_ ?_)
        · rw [qS3 o.op (zE6 hlook), ← hro]
          exact (hfv hw).1
        · rintro v v' φ' h' w' p1 p3 p4 p5 ⟨rfl, rfl⟩
          refine finish _ w' ⟨p2 ++ r :: p, l2, wt, h', φ', ⟨I.split, hinp, hclosed', I.vc, I.hd, p3, ?_, by rw [jN]; exact I.defers, I.ext.trans p1, I.below.trans p5, hpend' _ I.pend⟩⟩
          exact ((I.rel.mono p1).put hoOk.1 p4).eq hcs
      | false =>
        simp only [Bool.false_eq_true, if_false]
        refine finish _ w ⟨p2 ++ r :: p, l2, wt, h, φ, ⟨I.split, hinp, hclosed', I.vc, I.hd, I.sim, ?_, by rw [jN]; exact I.defers, I.ext, I.below, hpend' _ I.pend⟩⟩
        have := hnw hw
        exact (I.rel.put (v := r.v) hoOk.1 (by rw [this]; exact VR.ud _)).eq hcs
    · -- it is the next that changes memory
      have hil : ∃ x ∈ l, x.1 = i := ok.all i (by rw [← hsz]; exact hlt)
      obtain ⟨x, hx, hxi⟩ := hil
      have hx2 : x ∈ l2 := by
        rw [I.split, List.mem_append] at hx
        rcases hx with hx | hx
        · simp only [List.mem_reverse, List.mem_map] at hx
          obtain ⟨r, hr, rfl⟩ := hx
          exact absurd ⟨r, hr, hxi⟩ hin
        · exact hx
      cases hl : l2 with
      | nil => rw [hl] at hx2; cases hx2
      | cons y r =>
        have hyeff := I.hd y r hl
        have pwl2 := pw
        rw [I.split, hl, List.pairwise_append] at pwl2
        have hpre_y : ∀ q ∈ pre, qF9 ops bef q.tri y := fun q hq => pwl2.2.2 q.tri (by simp; exact ⟨q, hq, rfl⟩) y (by simp)
        have hxy : x = y := by
          rw [hl] at hx2
          cases hx2 with
          | head => rfl
          | tail _ hm =>
            exfalso
            have := ((List.pairwise_cons.1 pwl2.2.1).1 x hm).2.2.2.1 hyeff
            rw [hxi] at this
            have hyD := hbef _ this
            obtain ⟨q, hq, hqi⟩ := I.inpre _ hyD
            have := nd
            rw [I.split, hl, List.map_append, List.nodup_append] at this
            exact this.2.2 q.i (by simp; exact ⟨q, hq, rfl⟩) y.1 (by simp) hqi
        subst hxy
        obtain ⟨xi, xo, un⟩ := x
        simp only at hxi
        subst hxi
        have hxo : xo = o := by
          have := ok.are _ hx
          simp only [ho, Option.some.injEq] at this
          exact this.symm
        subst hxo
        have hlook : ∀ t, t ∈ xo.looksAt ops → lk (jY e0 (DD listed) pre) t = lk (gF e0 pre) t := by
          intro t ht
          refine qA9 fun q hq hqd => ?_
          exact hbef _ ((hpre_y q hq).2.1 t hqd (.inl ht))
        have hlookd : ∀ t, xo.dst = some t → lk (jY e0 (DD listed) pre) t = lk (gF e0 pre) t := by
          intro t ht
          refine qA9 fun q hq hqd => ?_
          exact hbef _ ((hpre_y q hq).2.1 t hqd (.inr ht))
        have vc := I.vc
        rw [hl] at vc
        unfold sI at vc
        obtain ⟨wd, hgw, vc⟩ := vc
        have hwant : Region.wanted xo (yielded ops a.tmps) = wd := by
          refine qS0 I.rel ?_
          rw [qS1 hlook]; exact hgw
        rw [hwant]
        have hnipre : ∀ q ∈ pre, q.i ≠ xi := fun q hq hqi => hin ⟨q, hq, hqi⟩
        have next : ∀ (v : Value) (v' : Value) (φ' : Fm) (h' : GH) (w' : World), Ext φ φ' → Sim N φ' h' w' → VR φ' v v' → Below N w w' → (wd = true → chk P h' wt un) → (wd = false → h' = h) → sI P N (dsOf ops) r wt K (uH (gF e0 pre) xo.dst v) h' →
            qC2 P X ops QQ fuel (listed.setIfInBounds xi true) (a.put xo.dst v') w' := by
          intro v v' φ' h' w' p1 p3 p4 p5 hchk hsame hvc
          have hcurpre : jY e0 (DD (listed.setIfInBounds xi true)) pre = jY e0 (DD listed) pre := zL1 fun q hq => by rw [hD']; simp [hnipre q hq]
          have hrel : Rel φ' nt (jY e0 (DD (listed.setIfInBounds xi true)) (⟨xi, xo, un, v, wd⟩ :: pre)) (a.put xo.dst v').tmps := by
            simp only [jY]
            rw [if_pos (by rw [hD']; simp), hcurpre]
            exact (I.rel.mono p1).put hoOk.1 p4
          have hpendpre : ∀ (pp : List Rec), (∀ q ∈ pp, q.i ≠ xi ∧ qF9 ops bef q.tri (xi, xo, un)) → qF8 P N (dsOf ops) wt h e0 (DD listed) pp → qF8 P N (dsOf ops) wt h' e0 (DD (listed.setIfInBounds xi true)) pp := by
            intro pp
            induction pp with
            | nil => exact fun _ _ => trivial
            | cons q pp ih =>
              rintro hq ⟨h1, h2⟩
              refine ⟨fun hqD => ?_, ih (fun x hx => hq x (by simp [hx])) h2⟩
              rw [hD'] at hqD
              simp only [if_neg (hq q (by simp)).1] at hqD
              obtain ⟨k1, k2, k3, k4⟩ := h1 hqD
              refine ⟨k1, k2, fun hw => ?_, k4⟩
              obtain ⟨k5, k6⟩ := k3 hw
              refine ⟨?_, k6⟩
              cases hwd : wd with
              | false => rw [hsame hwd]; exact k5
              | true =>
                cases hrv : rvOf (gF e0 pp) q.v q.o.op with
                | none => exact fv_any k1 hrv k5
                | some rv =>
                  rcases (hq q (by simp)).2.2.2.2.2 hyeff k1 with hno | hb | hun
                  · simp only [Rec.tri] at hno
                    rw [hno] at hrv; cases hrv
                  · have := hbef _ hb
                    simp only [Rec.tri] at this
                    rw [hqD] at this; cases this
                  · exact fv_read hrv (chk_of (hchk hwd) hun (k6 rv hrv))
          have hin' : ∀ k, DD (listed.setIfInBounds xi true) k = true → ∃ x ∈ (⟨xi, xo, un, v, wd⟩ : Rec) :: pre, x.i = k := by
            intro k hk
            rw [hD'] at hk
            simp only at hk
            split at hk
            · rename_i hki; exact ⟨_, List.mem_cons_self .., hki.symm⟩
            · obtain ⟨q, hq, hqk⟩ := I.inpre k hk; exact ⟨q, by simp [hq], hqk⟩
          have hsplit : l = ((((⟨xi, xo, un, v, wd⟩ : Rec) :: pre).map Rec.tri).reverse ++ r) := by
            rw [I.split, hl]; simp [Rec.tri]
          have hpend1 : qF8 P N (dsOf ops) wt h' e0 (DD (listed.setIfInBounds xi true)) (⟨xi, xo, un, v, wd⟩ :: pre) :=
            ⟨fun hh => by rw [hD'] at hh; simp at hh, hpendpre pre (fun q hq => ⟨hnipre q hq, hpre_y q hq⟩) I.pend⟩
          obtain ⟨pre', l2', wt', q1, q2, q3, q4, q5, q6⟩ := zA0 (a := a.put xo.dst v') h' r _ wt hsplit nd hin' hvc hrel hpend1
          exact finish _ w' ⟨pre', l2', wt', h', φ', ⟨q1, q2, hclosed', q3, q4, p3, q5, by rw [jN]; exact I.defers, I.ext.trans p1, I.below.trans p5, q6⟩⟩
        cases hwd : wd with
        | true =>
          subst hwd
          simp only [if_true]
          simp only [if_true, hyeff] at vc
          refine .inl (pU hG I.sim I.rel hopsOk (K := fun v h' => chk P h' wt un ∧ sI P N (dsOf ops) r wt K (uH (gF e0 pre) xo.dst v) h') ?_ ?_)
          · rw [qS3 xo.op (zE6 hlook)]; exact vc
          · rintro v v' φ' h' w' p1 p3 p4 p5 ⟨k1, k2⟩
            exact next v v' φ' h' w' p1 p3 p4 p5 (fun _ => k1) (fun hh => by cases hh) k2
        | false =>
          subst hwd
          simp only [Bool.false_eq_true, if_false] at vc ⊢
          exact next UD undef φ h w (Ext.refl _) I.sim (VR.ud _) (Below.refl _ _) (fun hh => by cases hh) (fun _ => rfl) vc
end
def qY (ops : Array Oper) : List (Nat × List Nat) → List (Nat × Oper × List Nat)
  | [] => []
  | (i, un) :: r => match ops[i]? with
    | some o => (i, o, un) :: qY ops r
    | none => qY ops r
def qO6 (bf : List Nat) (i j : Nat) : Bool := (bf.getD i 0).testBit j
def isRd : Op → Bool
  | .load .. | .convert .. | .slice .. | .lookup .. => true
  | .call c => match c.callee with | .builtin .len => true | _ => false
  | _ => false
theorem zR2 {op : Op} (h : isRd op = false) (e : Env) (v : Value) : rvOf e v op = none := by
  cases op
  case call c =>
    obtain ⟨callee, args, ats⟩ := c
    simp only [isRd] at h
    simp only [rvOf]
    unfold rvLen
    split
    · simp at h
    · rfl
  all_goals first | rfl | cases h
structure OpI where
  i : Nat
  dst : Option Tmp
  looks : List Tmp
  eff : Bool
  rd : Bool
  un : List Nat
def opI (ops : Array Oper) (x : Nat × Oper × List Nat) : OpI := ⟨x.1, x.2.1.dst, x.2.1.looksAt ops, qL x.2.1.op, isRd x.2.1.op, x.2.2⟩
def pairB (bf : List Nat) (x y : OpI) : Bool :=
  let b := qO6 bf y.i x.i
  !(qO6 bf x.i y.i) &&
  (match x.dst with | some d => b || !(y.looks.contains d || y.dst == some d) | none => true) &&
  (match y.dst with | some d => b || !(x.looks.contains d) | none => true) &&
  (!x.eff || b) &&
  (!y.eff || x.eff || !x.rd || b || y.un.contains x.i)
def qV8 (bf : List Nat) : List OpI → Bool
  | [] => true
  | x :: r => r.all (pairB bf x) && qV8 bf r
def qW0 : List Nat → Bool
  | [] => true
  | x :: r => !(r.contains x) && qW0 r
def edgesB (ops : Array Oper) (xs : List (Nat × Nat)) (bf : List Nat) : Bool :=
  ops.toList.zipIdx.all fun (o, i) => decide (bf.getD i 0 < 2 ^ ops.size) &&
    o.after.all (fun e => !(Region.binds .any e) || decide (e.on < i)) &&
    (List.range ops.size).all fun j => !(qO6 bf i j) || (o.after.any (fun e => Region.binds .any e && (e.on == j || qO6 bf e.on j)) || xs.any fun p => p.2 == i && (p.1 == j || qO6 bf p.1 j))
def qH2 (ops : Array Oper) (xs : List (Nat × Nat)) (σ : List (Nat × List Nat)) (bf : List Nat) : Bool :=
  let l := qY ops σ
  qW0 (l.map (·.1)) && (List.range ops.size).all (fun i => (l.map (·.1)).contains i) && edgesB ops xs bf && qV8 bf (l.map (opI ops))
def drawB (ops : Array Oper) (σ : List (Nat × List Nat)) (bf : List Nat) : Bool := qH2 ops [] σ bf
def qJ8 (xs : List (Nat × Nat)) (k i : Nat) : Bool := xs.any fun p => p.1 == k && p.2 == i
theorem lQ : ∀ {l : List Nat}, qW0 l = true → l.Nodup
  | [], _ => List.nodup_nil
  | x :: r, h => by
    simp only [qW0, Bool.and_eq_true, Bool.not_eq_true', List.contains_eq_mem, decide_eq_false_iff_not] at h
    exact List.nodup_cons.2 ⟨h.1, lQ h.2⟩
theorem lP {ops : Array Oper} {bf : List Nat} : ∀ {l : List (Nat × Oper × List Nat)}, qV8 bf (l.map (opI ops)) = true → l.Pairwise (qF9 ops (qO6 bf))
  | [], _ => List.Pairwise.nil
  | x :: r, h => by
    simp only [List.map_cons, qV8, Bool.and_eq_true, List.all_eq_true, List.mem_map, forall_exists_index, and_imp, forall_apply_eq_imp_iff₂] at h
    refine List.Pairwise.cons (fun y hy => ?_) (lP h.2)
    have := h.1 y hy
    simp only [pairB, opI, Bool.and_eq_true, Bool.not_eq_true'] at this
    obtain ⟨⟨⟨⟨h1, h2⟩, h3⟩, h4⟩, h5⟩ := this
    refine ⟨h1, fun d hd hor => ?_, fun d hd hin => ?_, fun he => ?_, fun he hne => ?_⟩
    · rw [hd] at h2
      simp only [Bool.or_eq_true, Bool.not_eq_true', Bool.or_eq_false_iff] at h2
      rcases h2 with h2 | ⟨h2, h2'⟩
      · exact h2
      · rcases hor with hor | hor
        · rw [List.contains_eq_mem, decide_eq_false_iff_not] at h2; exact absurd hor h2
        · rw [hor] at h2'; simp at h2'
    · rw [hd] at h3
      simp only [Bool.or_eq_true, Bool.not_eq_true'] at h3
      rcases h3 with h3 | h3
      · exact h3
      · rw [List.contains_eq_mem, decide_eq_false_iff_not] at h3; exact absurd hin h3
    · simp only [Bool.or_eq_true, Bool.not_eq_true'] at h4
      rcases h4 with h4 | h4
      · rw [he] at h4; cases h4
      · exact h4
    · simp only [Bool.or_eq_true, Bool.not_eq_true'] at h5
      rcases h5 with (((h5 | h5) | h5) | h5) | h5
      · rw [he] at h5; cases h5
      · rw [hne] at h5; cases h5
      · exact .inl (zR2 h5)
      · exact .inr (.inl h5)
      · exact .inr (.inr (by simpa using h5))
theorem qV6 {ops : Array Oper} : ∀ {σ : List (Nat × List Nat)} (x : Nat × Oper × List Nat), x ∈ qY ops σ → ops[x.1]? = some x.2.1
  | [], x, h => by cases h
  | (i, un) :: r, x, h => by
    simp only [qY] at h
    split at h
    · rename_i o ho
      cases h with
      | head => exact ho
      | tail _ hm => exact qV6 x hm
    · exact qV6 x h
theorem zF2 {ops : Array Oper} {xs : List (Nat × Nat)} {σ : List (Nat × List Nat)} {bf : List Nat} (h : qH2 ops xs σ bf = true) : DrawOk ops (qJ8 xs) (qY ops σ) (qO6 bf) := by
  simp only [qH2, Bool.and_eq_true] at h
  obtain ⟨⟨⟨h1, h2⟩, h3⟩, h4⟩ := h
  have he : ∀ i o, ops[i]? = some o → bf.getD i 0 < 2 ^ ops.size ∧ (∀ e ∈ o.after, Region.binds .any e = true → e.on < i) ∧ (∀ j, j < ops.size → qO6 bf i j = true → (∃ e ∈ o.after, Region.binds .any e = true ∧ (e.on = j ∨ qO6 bf e.on j = true)) ∨ ∃ k, qJ8 xs k i = true ∧ (k = j ∨ qO6 bf k j = true)) := by
    intro i o ho
    simp only [edgesB, List.all_eq_true] at h3
    have hm : (o, i) ∈ ops.toList.zipIdx := by
      rw [List.mem_zipIdx_iff_getElem?]
      simpa using ho
    have := h3 (o, i) hm
    simp only [Bool.and_eq_true, decide_eq_true_eq] at this
    obtain ⟨⟨h5, h6⟩, h7⟩ := this
    refine ⟨h5, fun e he hb => ?_, fun j hj hb => ?_⟩
    · have := Array.all_eq_true_iff_forall_mem.1 h6 e he
      simp only [hb, Bool.not_true, Bool.false_or, decide_eq_true_eq] at this
      exact this
    · have := (List.all_eq_true.1 h7) j (List.mem_range.2 hj)
      simp only [hb, Bool.not_true, Bool.false_or] at this
      rw [Bool.or_eq_true] at this
      rcases this with this | this
      · obtain ⟨e, he, h8⟩ := Array.any_eq_true'.1 this
        simp only [Bool.and_eq_true, Bool.or_eq_true, beq_iff_eq] at h8
        exact .inl ⟨e, he, h8⟩
      · obtain ⟨p, hp, h8⟩ := List.any_eq_true.1 this
        simp only [Bool.and_eq_true, Bool.or_eq_true, beq_iff_eq] at h8
        exact .inr ⟨p.1, List.any_eq_true.2 ⟨p, hp, by simp [h8.1]⟩, h8.2⟩
  refine ⟨fun x hx => qV6 x hx, fun i hi => ?_, lQ h1, fun i o ho j hj => ?_, fun i o ho => (he i o ho).2.1, lP h4⟩
  · have := (List.all_eq_true.1 h2) i (List.mem_range.2 hi)
    simp only [List.contains_eq_mem, decide_eq_true_eq, List.mem_map] at this
    exact this
  · obtain ⟨h5, _, h7⟩ := he i o ho
    refine h7 j ?_ hj
    rcases Nat.lt_or_ge j ops.size with hlt | hge
    · exact hlt
    · exfalso
      have : (bf.getD i 0).testBit j = false := Nat.testBit_lt_two_pow (Nat.lt_of_lt_of_le h5 (Nat.pow_le_pow_right (by omega) hge))
      simp only [qO6] at hj
      rw [this] at hj; cases hj
theorem qC1 (ro : Option Nat) {P : Program} {Q : Exit → Act → World → Prop} {id : Nat} {ops : Array Oper} {a : Act} {w : World} (hnd : ops.all qL1 = true) (hq : ¬ LetsOut Q) (hm : P.follows .mixedOrders = true)
    (h : ∀ l, ∃ X, qF7 X (Array.replicate ops.size false) l ∧ qC2 P X ops Q ops.size (Array.replicate ops.size false) a { w with drawn := w.drawn + 1 }) : (Code.region id ops true).wpIn (FW ro) 0 P Q a w :=
  draw_in ro hnd hq fun t => by
    simp only [Region.schedule, hm, Bool.true_or, if_true]
    obtain ⟨X, h1, h2⟩ := h (Region.linearise.go .any ops ops.size t (Array.replicate ops.size false) [])
    exact qU4 ops.size t _ a _ h2 h1
theorem qL7 {P : Program} {N nt : Nat} {Q : GQ} {e : Env} {h : GH} {id : Nat} {ops : Array Oper} (hm : P.follows .mixedOrders = true) {I : Type} (xs : I → List (Nat × Nat)) (σ : I → List (Nat × List Nat)) (bf : I → List Nat) (hc : ∀ i, qH2 ops (xs i) (σ i) (bf i) = true)
    (hx : ∀ l, ∃ i, qF7 (qJ8 (xs i)) (Array.replicate ops.size false) l)
    (g : ∀ i, sI P N (dsOf ops) (qY ops (σ i)) [] (Q .normal) e h) : GW P N nt (.region id ops true) Q e h := by
  intro ok hG φ w a s r B hd ro _
  simp only [qV, Bool.and_eq_true] at ok
  obtain ⟨ok, ok2⟩ := ok
  refine qC1 ro ok2 Lift.stay hm fun l => ?_
  obtain ⟨i, hi⟩ := hx l
  have dok := zF2 (hc i)
  refine ⟨qJ8 (xs i), hi, ?_⟩
  refine zK9 (K := Q .normal) (e0 := e) (φ0 := φ) (w0 := w) (dl := a.defers) hG dok (fun i o ho => Array.all_eq_true_iff_forall_mem.1 ok o (Array.mem_of_getElem? ho)) ?_ ops.size _ a _ (by simp) (by simp) ?_
  · exact fun e' h' φ' a' w' k p1 p2 p3 p4 p5 => ⟨.normal, e', h', φ', rfl, by rw [p4]; exact hd.below p5, p1, p2, p3, p5, k⟩
  · have hD : DD (Array.replicate ops.size false) = fun _ => false := by
      funext i
      simp only [DD, Array.getD_eq_getD_getElem?, Array.getElem?_replicate]
      split <;> rfl
    obtain ⟨pre, l2, wt, q1, q2, q3, q4, q5, q6⟩ := zA0 (listed := Array.replicate ops.size false) (a := a) (φ := φ) (nt := nt) (K := Q .normal) (e0 := e) h (qY ops (σ i)) [] [] (by simp) dok.nd (fun i hi => (by rw [hD] at hi; cases hi)) (g i) r trivial
    exact ⟨pre, l2, wt, h, φ, ⟨q1, q2, (fun i hi => by rw [hD] at hi; cases hi), q3, q4, s.drew, q5, rfl, Ext.refl _, (Below.refl N w).drew, q6⟩⟩
theorem gw_draw {P : Program} {N nt : Nat} {Q : GQ} {e : Env} {h : GH} {id : Nat} {ops : Array Oper} (σ : List (Nat × List Nat)) (bf : List Nat) (hm : P.follows .mixedOrders = true) (hc : drawB ops σ bf = true)
    (g : sI P N (dsOf ops) (qY ops σ) [] (Q .normal) e h) : GW P N nt (.region id ops true) Q e h :=
  qL7 hm (I := Unit) (fun _ => []) (fun _ => σ) (fun _ => bf) (fun _ => hc) (fun l => ⟨(), zN1 _⟩) (fun _ => g)
theorem lF (A B : Nat) : qJ8 [(A, B)] = xOf A B := by
  funext k i
  simp only [qJ8, List.any_cons, List.any_nil, Bool.or_false, xOf]
  rw [Bool.eq_iff_iff]
  simp only [Bool.and_eq_true, beq_iff_eq]
  exact ⟨fun ⟨a, b⟩ => ⟨a.symm, b.symm⟩, fun ⟨a, b⟩ => ⟨a.symm, b.symm⟩⟩
theorem lX {P : Program} {N nt : Nat} {Q : GQ} {e : Env} {h : GH} {id : Nat} {ops : Array Oper} (A B : Nat) (σ : List (Nat × List Nat)) (bf : List Nat) (σ' : List (Nat × List Nat)) (bf' : List Nat) (hm : P.follows .mixedOrders = true)
    (hne : (decide (A ≠ B) && decide (A < ops.size) && decide (B < ops.size)) = true) (hc : qH2 ops [(A, B)] σ bf = true) (hc' : qH2 ops [(B, A)] σ' bf' = true)
    (g : sI P N (dsOf ops) (qY ops σ) [] (Q .normal) e h) (g' : sI P N (dsOf ops) (qY ops σ') [] (Q .normal) e h) : GW P N nt (.region id ops true) Q e h := by
  simp only [Bool.and_eq_true, decide_eq_true_eq] at hne
  refine qL7 hm (I := Bool) (fun b => if b then [(A, B)] else [(B, A)]) (fun b => if b then σ else σ') (fun b => if b then bf else bf') (fun b => by cases b <;> assumption) (fun l => ?_) (fun b => by cases b <;> assumption)
  rcases qC6 hne.1.1 l (Array.replicate ops.size false) (by simpa using hne.1.2) (by simpa using hne.2) with r | r
  · exact ⟨true, by simpa [lF] using r⟩
  · exact ⟨false, by simpa [lF] using r⟩
theorem zE {P : Program} {N nt : Nat} {Q : GQ} {e : Env} {h : GH} {id : Nat} {ops : Array Oper} (tb : Nat → List (Nat × List Nat) × List Nat) (hm : P.follows .mixedOrders = true) (hc : drawB ops (tb id).1 (tb id).2 = true)
    (g : sI P N (dsOf ops) (qY ops (tb id).1) [] (Q .normal) e h) : GW P N nt (.region id ops true) Q e h := gw_draw _ _ hm hc g
def kdrF (P : Program) (N : Nat) (ds : List (Option Tmp)) (r : List (Nat × Oper × List Nat)) (wt : List (Nat × RV)) (i : Nat) (op : Op) (K : Env → GH → Prop) (e : Env) (d : Option Tmp) (v : Value) (h : GH) : Prop := sI P N ds r (wput wt i (rvOf e v op)) K (uH e d v) h
def kdrE (P : Program) (N : Nat) (ds : List (Option Tmp)) (r : List (Nat × Oper × List Nat)) (wt : List (Nat × RV)) (un : List Nat) (K : Env → GH → Prop) (e : Env) (d : Option Tmp) (v : Value) (h : GH) : Prop := chk P h wt un ∧ sI P N ds r wt K (uH e d v) h
def qD5 (b : Bool) (P : Program) (N : Nat) (ds : List (Option Tmp)) (r : List (Nat × Oper × List Nat)) (wt : List (Nat × RV)) (i : Nat) (op : Op) (un : List Nat) (K : Env → GH → Prop) (e : Env) (d : Option Tmp) (h : GH) : Prop :=
  if b = true then qN P N e h (kdrE P N ds r wt un K e d) op else qN P N e h (kdrF P N ds r wt i op K e d) op
def lC (y : Option Bool) (w : Bool) (P : Program) (N : Nat) (ds : List (Option Tmp)) (r : List (Nat × Oper × List Nat)) (wt : List (Nat × RV)) (i : Nat) (op : Op) (un : List Nat) (K : Env → GH → Prop) (e : Env) (d : Option Tmp) (h : GH) : Prop :=
  ∃ b, y = some b ∧ (if b = w then qD5 (qL op) P N ds r wt i op un K e d h else sI P N ds r wt K (uH e d UD) h)
section
variable (P : Program) (N : Nat) (ds : List (Option Tmp)) (r : List (Nat × Oper × List Nat)) (wt : List (Nat × RV)) (i : Nat) (un : List Nat) (K : Env → GH → Prop) (e : Env) (h : GH) (d : Option Tmp) (op : Op) (ty : TypeId) (pos : String) (after : Array Edge)
theorem gdr_nil : sI P N ds [] wt K e h = K e h := by unfold sI; rfl
theorem gdr_none : sI P N ds ((i, ⟨d, op, ty, pos, after, none⟩, un) :: r) wt K e h = qD5 (qL op) P N ds r wt i op un K e d h := by
  rw [sI]; simp only [gwd, Option.some.injEq, exists_eq_left', if_true]; rfl
theorem gdr_some (j : Nat) (w : Bool) : sI P N ds ((i, ⟨d, op, ty, pos, after, some (j, w)⟩, un) :: r) wt K e h = lC (qC ds e j w) w P N ds r wt i op un K e d h := by
  rw [sI]
  apply propext
  simp only [gwd, Option.map_eq_some_iff, lC]
  constructor
  · rintro ⟨wd, ⟨b, h1, rfl⟩, h2⟩
    refine ⟨b, h1, ?_⟩
    by_cases hb : b = w
    · rw [if_pos hb]; rw [if_pos (by simp [hb])] at h2; exact h2
    · rw [if_neg hb]; rw [if_neg (by simp [hb])] at h2; exact h2
  · rintro ⟨b, h1, h2⟩
    refine ⟨b == w, ⟨b, h1, rfl⟩, ?_⟩
    by_cases hb : b = w
    · rw [if_pos hb] at h2; rw [if_pos (by simp [hb])]; exact h2
    · rw [if_neg hb] at h2; rw [if_neg (by simp [hb])]; exact h2
theorem gdrO_t : qD5 true P N ds r wt i op un K e d h = qN P N e h (kdrE P N ds r wt un K e d) op := by simp [qD5]
theorem gdrO_f : qD5 false P N ds r wt i op un K e d h = qN P N e h (kdrF P N ds r wt i op K e d) op := by simp [qD5]
theorem gdrW_tt : lC (some true) true P N ds r wt i op un K e d h = qD5 (qL op) P N ds r wt i op un K e d h := by simp [lC]
theorem gdrW_ff : lC (some false) false P N ds r wt i op un K e d h = qD5 (qL op) P N ds r wt i op un K e d h := by simp [lC]
theorem gdrW_tf : lC (some true) false P N ds r wt i op un K e d h = sI P N ds r wt K (uH e d UD) h := by simp [lC]
theorem gdrW_ft : lC (some false) true P N ds r wt i op un K e d h = sI P N ds r wt K (uH e d UD) h := by simp [lC]
theorem eput_s (j : Nat) (v : Value) : uH e (some j) v = (j, v) :: e := rfl
theorem eput_n (v : Value) : uH e none v = e := rfl
theorem kdrF_ap (v : Value) : kdrF P N ds r wt i op K e d v h = sI P N ds r (wput wt i (rvOf e v op)) K (uH e d v) h := rfl
theorem kdrE_ap (v : Value) : kdrE P N ds r wt un K e d v h = (chk P h wt un ∧ sI P N ds r wt K (uH e d v) h) := rfl
theorem wput_n : wput wt i none = wt := rfl
theorem wput_s (rv : RV) : wput wt i (some rv) = (i, rv) :: wt := rfl
theorem chk_n : chk P h wt [] = True := rfl
theorem chk_c (j : Nat) (l : List Nat) : chk P h wt (j :: l) = (zL2 P h (wlk wt j) ∧ chk P h wt l) := rfl
theorem chk1_n : zL2 P h none = True := rfl
theorem chk1_s (rv : RV) : zL2 P h (some rv) = rdv P h rv := rfl
end
theorem yF {h : GH} {k : Nat} {B : GB} (hk : h k = some B) {o n : Nat} {cs : List Value} (hc : (B.cells.drop o).take n = cs) (hl : cs.length = n) : wA h ⟨k, o, none⟩ n = some cs := by
  unfold wA
  split
  · rename_i h0; rw [h0] at hl; rw [List.eq_nil_of_length_eq_zero hl]
  · simp only [hk]
    rw [if_pos, hc]
    rw [← hc] at hl
    simp at hl
    omega
theorem zI9 {P : Program} {h : GH} {k : Nat} {B : GB} (hk : h k = some B) {t o n : Nat} {v : Value} (hz : vG P t = some (false, n)) (hc : B.cells[o]? = some v) : wZ P t h (.pointer (some ⟨k, o, none⟩)) = some v := by
  have : wA h ⟨k, o, none⟩ 1 = some [v] := by
    refine yF hk ?_ rfl
    obtain ⟨h1, h2⟩ := List.getElem?_eq_some_iff.1 hc
    rw [List.drop_eq_getElem_cons h1, h2]
    rfl
  simp only [wZ, hz, this]
  rfl
theorem zR7 {P : Program} {h : GH} {k : Nat} {B : GB} (hk : h k = some B) {t n : Nat} (hz : vG P t = some (true, n)) (hc : B.cells.length = n) : wZ P t h (.pointer (some ⟨k, 0, none⟩)) = some (.agg B.cells.toArray) := by
  have : wA h ⟨k, 0, none⟩ n = some B.cells := yF hk (by rw [List.drop_zero, ← hc, List.take_length]) hc
  simp only [wZ, hz, this]
  rfl
end Go.Gh
