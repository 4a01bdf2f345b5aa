/- A framework of this claim's proof, part 10. One operation of a region, and the triple of a call. No statement of the claim stands here. -/
import Derived.Test.YtlobmpkfdnifpaaGh9
namespace Go.Gh
open Go Go.RowKit
set_option linter.unusedVariables false
set_option linter.unusedSimpArgs false

/-! ## Temporaries -/

abbrev Env := List (Nat × Value)
/-- What is known of a temporary. -/
def lk : Env → Nat → Value
  | [], _ => U
  | (i, v) :: r, j => if i = j then v else lk r j

def ev (e : Env) : Operand → Value
  | .tmp i => lk e i
  | .const v => v
  | .global g => .pointer (some ⟨g, 0, none⟩)
  | .func f => .func (.func f) #[] #[]

/-- The operand may stand: a constant without a place, a variable that there is. -/
def opdOk (G : Nat) : Operand → Bool
  | .const v => clo v
  | .global g => decide (g < G)
  | _ => true

structure Rel (φ : Fm) (nt : Nat) (e : Env) (tmps : Array Value) : Prop where
  size : tmps.size = nt
  get : ∀ i, VR φ (lk e i) (tmps.getD i undef)

theorem Rel.mono {φ φ' : Fm} {nt : Nat} {e : Env} {t : Array Value} (h : Rel φ nt e t) (x : Ext φ φ') : Rel φ' nt e t := ⟨h.size, fun i => (h.get i).mono x⟩

def eput (e : Env) (d : Option Tmp) (v : Value) : Env := match d with | some i => (i, v) :: e | none => e

def dstOk (nt : Nat) : Option Tmp → Bool | some d => decide (d < nt) | none => true

theorem Rel.put {φ : Fm} {nt : Nat} {e : Env} {a : Act} (h : Rel φ nt e a.tmps) {d : Option Tmp} (hd : dstOk nt d = true) {v v' : Value} (hv : VR φ v v') : Rel φ nt (eput e d v) (a.put d v').tmps := by
  cases d with
  | none => exact h
  | some d =>
    simp only [dstOk, decide_eq_true_eq] at hd
    refine ⟨by simp [Act.put, h.size], fun i => ?_⟩
    simp only [eput, lk, Act.put]
    by_cases hi : d = i
    · subst hi
      have : d < a.tmps.size := by rw [h.size]; exact hd
      simp [this, hv]
    · rw [if_neg hi]
      have := h.get i
      rw [Array.getD_eq_getD_getElem?] at this ⊢
      rw [Array.getElem?_setIfInBounds_ne hi]
      exact this

theorem Rel.ev {P : Program} {N : Nat} {φ : Fm} {h : GH} {w : World} (s : Sim N φ h w) (hG : P.globals.size ≤ N) {nt : Nat} {e : Env} {a : Act} (r : Rel φ nt e a.tmps) {x : Operand} (hx : opdOk P.globals.size x = true) : VR φ (ev e x) (a.eval x) := by
  cases x with
  | tmp i => exact r.get i
  | const v => exact clo_refl hx
  | global g =>
    simp only [opdOk, decide_eq_true_eq] at hx
    exact .ptr ⟨rfl, rfl, _, s.ini g (by omega), rfl, by simp⟩
  | func f => exact .func .nil .nil

/-! ## Calls -/

/-- A function with a body, that runs as any. -/
def gfn (P : Program) (f : FuncId) : Bool :=
  match P.funcs[f]? with
  | some fn => fn.body.isSome && !(fn.name == "runtime.NumGoroutine")
  | none => false

/-- THE TRIPLE: called so, in such a memory, the function returns, and goes on as told. -/
def GTri (P : Program) (N : Nat) (f : FuncId) (args : List Value) (h : GH) (Q : Value → GH → Prop) : Prop :=
  P.globals.size ≤ N → ∀ φ w (args' : Array Value), Sim N φ h w → VRs φ args args'.toList →
    (gfn P f = true ∧ Calls P f args' w fun e w' => ∃ v v' φ' h', e = .returned v' ∧ Ext φ φ' ∧ Sim N φ' h' w' ∧ VR φ' v v' ∧ Below N w w' ∧ Q v h') ∨
    (∃ v v' φ' h' w', (callFunc f args').run P w = .ok (.value v') w' ∧ Ext φ φ' ∧ Sim N φ' h' w' ∧ VR φ' v v' ∧ Below N w w' ∧ Q v h')

theorem GTri.mono {P : Program} {N : Nat} {f : FuncId} {args : List Value} {h : GH} {Q Q' : Value → GH → Prop} (g : GTri P N f args h Q) (hq : ∀ v h', Q v h' → Q' v h') : GTri P N f args h Q' := by
  intro hG φ w args' s ha
  rcases g hG φ w args' s ha with ⟨h1, h2⟩ | ⟨v, v', φ', h', w', h1, h2, h3, h4, h5, h6⟩
  · refine .inl ⟨h1, h2.mono ?_⟩
    rintro e w' ⟨v, v', φ', h', r1, r2, r3, r4, r5, r6⟩
    exact ⟨v, v', φ', h', r1, r2, r3, r4, r5, hq _ _ r6⟩
  · exact .inr ⟨v, v', φ', h', w', h1, h2, h3, h4, h5, hq _ _ h6⟩

/-! ## One operation -/

def notInt : TypeDesc → Bool | .int _ => false | _ => true

def gzero (P : Program) (t : TypeId) : Option (List Value) :=
  match P.info? t with
  | some i => match i.zero with
    | some z => if clo z = true then some (vcells z) else none
    | none => none
  | none => none

def isInt : Value → Bool | .int _ _ => true | _ => false

/-- Memory, if there is one. -/
def optH (o : Option GH) (K : Value → GH → Prop) : Prop := ∃ h2, o = some h2 ∧ K U h2
theorem optH_some (h : GH) (K : Value → GH → Prop) : optH (some h) K = K U h := by simp [optH]
/-- A new variable. -/
def gNewP (h : GH) (cs : List Value) (K : Value → GH → Prop) : Prop := ∀ k, h k = none → K (.pointer (some ⟨k, 0, none⟩)) (hset h k ⟨cs, 0, true, false⟩)
def gAllocO (o : Option (List Value)) (h : GH) (K : Value → GH → Prop) : Prop := ∃ z, o = some z ∧ gNewP h z K
theorem gAllocO_some (z : List Value) (h : GH) (K : Value → GH → Prop) : gAllocO (some z) h K = gNewP h z K := by simp [gAllocO]
def gBoxP (h : GH) (cs : List Value) (K : Value → GH → Prop) : Prop := cs.all isCell = true ∧ gNewP h cs K
def gPick (c a b : Value) : Option Value := match c with | .bool t => some (if t = true then a else b) | _ => none
/-- The function that a pointer's method is. -/
def gMeth (P : Program) (t : TypeId) (n : String) : Option FuncId := match P.info? t with
  | some i => match i.methods.find? (·.name == n) with
    | some m => match m.path.toList, m.func, P.underlying t with
      | [], some (f, true), some (.pointer _) => some f
      | _, _, _ => none
    | none => none
  | none => none
theorem gMeth_call {P : Program} {t : TypeId} {n : String} {f : FuncId} {v : Value} {w : World} (h1 : ∀ k, (method (k + 1) t v n).run P w = .ok (f, v) w) (h2 : ∀ k, (nilAhead (k + 1) t v n).run P w = .ok (some false) w) :
    (∀ args, (callMethod (.iface t v) n args).run P w = (callFunc f (#[v] ++ args)).run P w) ∧ (nilAhead (P.types.size + Made.depth) t v n).run P w = .ok (some false) w := by
  have hd : P.types.size + Made.depth = (P.types.size + 99) + 1 := rfl
  refine ⟨fun args => ?_, by rw [hd]; exact h2 _⟩
  simp only [callMethod, Sem.run_bind, run_program, Result.andThen_ok]
  rw [hd, h1]
  rfl
theorem gMeth_sound {P : Program} {t : TypeId} {n : String} {f : FuncId} (hm : gMeth P t n = some f) (v : Value) (w : World) :
    (∀ args, (callMethod (.iface t v) n args).run P w = (callFunc f (#[v] ++ args)).run P w) ∧ (nilAhead (P.types.size + Made.depth) t v n).run P w = .ok (some false) w := by
  unfold gMeth at hm
  split at hm
  case h_2 => cases hm
  rename_i i hi
  split at hm
  case h_2 => cases hm
  rename_i m hf
  split at hm
  case h_2 => cases hm
  rename_i f' e0 hp hfu hu
  cases hm
  exact gMeth_call (fun k => by simp [method, typeInfo, hi, hf, hp, hfu, follow, receiverAt, run_underlying hu, Place.get]) (fun k => by simp [nilAhead, typeInfo, hi, hf, hp, hfu, followBlind])
def gNilM (P : Program) (n : String) (a b : List Value) : Option Value := match a, b with
  | .iface t v :: r, b => match gMeth P t n with
    | some _ => some (.func (.method n) (.iface t v :: r).toArray b.toArray)
    | none => none
  | _, _ => none
def gNil (P : Program) (x : Value) : Option Value := match x with
  | .pointer (some a) => some (.pointer (some a))
  | .func (.func f) a b => some (.func (.func f) a b)
  | .func (.method n) a b => gNilM P n a.toList b.toList
  | .iface t v => some (.iface t v)
  | _ => none
def notIface (P : Program) (t : TypeId) : Bool := match P.underlying t with | some (.interface _) => false | some _ => true | none => false
def gIfc (P : Program) (t : TypeId) (x : Value) : Option Value := if notIface P t = true then some (.iface t x) else none
def gConvO (P : Program) (s d : TypeId) (h : GH) (x : Value) : Option Value := if (P.underlying s).isSome = true then gConv P s d h x else none
def gIndexO (P : Program) (t : TypeId) (x i : Value) : Option Value := match i with | .int _ n => gIndex P t x n | _ => none
def gIndexVO (P : Program) (t : TypeId) (x i : Value) : Option Value := match i with | .int _ n => gIndexV P t x n | _ => none
def gMakeV (P : Program) (t : TypeId) (h : GH) (l c : Value) (K : Value → GH → Prop) : Prop := match l, c with | .int _ l, .int _ c => gMake P t h l c K | _, _ => False
def gMinV (x : Value) (r : List Value) : Option Value := if isInt x = true then gMin x r else none
def gMaxV (x : Value) (r : List Value) : Option Value := if isInt x = true then gMax x r else none
theorem wrap_small {x : Int} (h1 : 0 ≤ x) (h2 : x ≤ 9223372036854775807) : IntKind.i64.wrap x = x := by
  simp [IntKind.wrap, IntKind.signed, IntKind.bits]
  split <;> omega
theorem run_append_zeros {P : Program} (w : World) (t u ty e : TypeId) (ik kx : IntKind) (i : TypeInfo) (z : Value) (ht : P.underlying t = some (.slice e)) (hu : P.underlying u = some (.int ik)) (hi : P.info? e = some i) (hz : i.zero = some z)
    (m : Nat) (hm : 0 < m) (h63 : m ≤ 9223372036854775807) (hb : m * i.bytes ≤ 140737488355328) (hpos : 0 < i.size) :
    (Builtin.append_ #[t, u] ty #[.slice none 0 0, .int kx m]).run P w = .ok (.slice (some ⟨w.heap.size, 0, none⟩) m (grownCap w m 0 e))
      (w.drew.alloc (.cells ((Builtin.zeroCells z.cells m).toList ++ (Builtin.zeroCells z.cells (grownCap w m 0 e - m)).toList).toArray e)) := by
  have hw : IntKind.i64.wrap (m : Int) = m := wrap_small (by omega) (by omega)
  have h0 : ¬ ((m : Int) < 0) := by omega
  have h1 : ¬ (281474976710656 < (m : Int) * (i.bytes : Int)) := by
    rw [← Int.natCast_mul]
    omega
  have hn : ¬ (0 + m ≤ 0) := by omega
  have hn2 : ¬ m = 0 := by omega
  have hn3 : ¬ ((m : Int) ≤ 0) := by omega
  have hmx : max (m : Int) 0 = m := by omega
  have hs2 : ¬ i.size = 0 := by omega
  have hmz : ¬ (m = 0 ∨ i.size = 0) := by omega
  have h63' : ¬ (9223372036854775807 < (m : Int)) := by omega
  have hfit := growslice_fits (need := m) (old := 0) hm hb
  have h48' : ¬ (281474976710656 < Builtin.nextslicecap m 0 * i.bytes) := by omega
  simp [Builtin.append_, run_underlying ht, run_underlying hu, sizeOf, typeInfo, zeroValue, hi, hz, asInt, asIntOf, hw, h0, h1, hn2, hn3, hmx, hs2, hmz, h63', h48', Question.forced, newRow, grownCap, Builtin.firstCells]
  rw [if_neg (by rw [Nat.mul_eq_zero]; omega)]
  congr 2
  congr 1
  apply Array.ext'
  simp

def gAppendZ (P : Program) (t u : TypeId) (h : GH) (s x : Value) (K : Value → GH → Prop) : Prop :=
  ∃ ik kx e es by_ z m, P.underlying u = some (.int ik) ∧ gel P t = some (e, es, by_, z) ∧ clo z = true ∧ s = .slice none 0 0 ∧ x = .int kx (Int.ofNat m) ∧ 0 < m ∧ m ≤ maxLen ∧ m * by_ ≤ 140737488355328 ∧
    ∀ k, h k = none → K (.slice (some ⟨k, 0, none⟩) m (2 * m)) (hset h k ⟨zeros z (m * es), es, true, true⟩)
theorem gAppendZ_sound {P : Program} {N : Nat} {φ : Fm} {h : GH} {w : World} (hs : Sim N φ h w) {t u ty : TypeId} {s s' x x' : Value} (hvs : VR φ s s') (hvx : VR φ x x') {K : Value → GH → Prop} (g : gAppendZ P t u h s x K) :
    Yes P N φ w (Builtin.append_ #[t, u] ty #[s', x']) K := by
  obtain ⟨ik, kx, e, es, by_, z, m, hu, hel, hz, rfl, rfl, hm, hml, hb, k⟩ := g
  obtain ⟨ht, i, hi, hsize, hbytes, hzero, hzs, hpos⟩ := gel_sound hel
  subst hsize
  cases hvs
  cases hvx
  have hml' : m ≤ 9223372036854775807 := by simp only [maxLen] at hml; omega
  have hr := run_append_zeros (P := P) w t u ty e ik kx i z ht hu hi hzero m hm hml' (by rw [hbytes]; exact hb) hpos
  have hzc : (Builtin.zeroCells z.cells m).toList = zeros z (m * i.size) := by
    simp only [Builtin.zeroCells, zeros, madeCells, hzs]
  rw [hzc] at hr
  have hv : VRs φ (zeros z (m * i.size)) (zeros z (m * i.size)) := cloCells_refl (zeros_clo hz (by omega) _)
  obtain ⟨φ', v, h', r1, r2, r3, r4, r5⟩ := gApp_new (P := P) hs (fun _ => True) (fun _ _ _ => trivial) (K := K) t e i.size 0 0 m hzs hv (by simp [zeros_length]) (by omega) (fun k' hk _ => by simpa using k k' hk)
  simp only [Nat.zero_add] at r2 r3 r4
  exact ⟨_, _, φ', v, h', hr, r1, r2, r3, r4, r5⟩

def gAppendX (P : Program) (t u : TypeId) (h : GH) (s x : Value) (K : Value → GH → Prop) : Prop :=
  (∃ du e es by_ z m xs, P.underlying u = some du ∧ notInt du = true ∧ gel P t = some (e, es, by_, z) ∧ gSrc h es x = some (m, xs) ∧ gAppend P t h s m xs K) ∨ gAppendZ P t u h s x K
def gCopyX (P : Program) (t : TypeId) (h : GH) (d x : Value) (K : Value → GH → Prop) : Prop := ∃ n h2, gCopy P t h d x = some (n, h2) ∧ K (goInt n) h2

def gBlt (P : Program) (b : Builtin) (ats : List TypeId) (args : List Value) (h : GH) (K : Value → GH → Prop) : Prop :=
  match b, ats, args with
  | .len, [t], [x] => optK ((gLen P t x).map (.int .i64)) h K
  | .cap, [t], [x] => optK ((gCap P t x).map (.int .i64)) h K
  | .min, _, x :: r => optK (gMinV x r) h K
  | .max, _, x :: r => optK (gMaxV x r) h K
  | .append, [t, u], [s, x] => gAppendX P t u h s x K
  | .copy, [t, _], [d, x] => gCopyX P t h d x K
  | _, _, _ => False

def gExtract (x : Value) (i : Nat) : Option Value := match x with | .tuple vs => vs[i]? | _ => none

def gInvoke (P : Program) (N : Nat) (x : Value) (n : String) (args : List Value) (h : GH) (K : Value → GH → Prop) : Prop :=
  match x with
  | .iface t v => match gMeth P t n with
    | some f => GTri P N f (v :: args) h K
    | none => False
  | _ => False
def gCallV (P : Program) (N : Nat) (f : Value) (args : List Value) (h : GH) (K : Value → GH → Prop) : Prop :=
  match f with
  | .func (.func g) a b => GTri P N g (a.toList ++ args ++ b.toList) h K
  | _ => False

/-- A block of ours gets a mark behind its last cell: from now on it is no more written. -/
theorem Sim.mark {N : Nat} {φ : Fm} {h : GH} {w w' : World} (s : Sim N φ h w) {k : Nat} {B : GB} {f : Fx} (hk : h k = some B) (hf : φ k = some f) (hw : B.wr = true) (hsz : w'.heap.size = w.heap.size)
    (hne : ∀ j, j ≠ f.b → w'.heap[j]? = w.heap[j]?) (hc : ∀ a : Addr, a.block = f.b → w'.cell? a = w.cell? a) : Sim N φ (hset h k ⟨B.cells, B.es, false, false⟩) w' := by
  have apart : ∀ j B' f', j ≠ k → h j = some B' → φ j = some f' → f'.b ≠ f.b := fun j B' f' hj h1 h2 e => by
    have := (s.sep k j B B' f f' (Ne.symm hj) hk h1 hf h2 e.symm).1
    rw [hw] at this; cases this
  refine ⟨s.ini, by rw [hsz]; exact s.big, s.fin, fun j B' hj => ?_, ?_, fun j g hj => by rw [hsz]; exact s.rng j g hj⟩
  · by_cases hjk : j = k
    · subst hjk
      rw [hset_same] at hj; cases hj
      obtain ⟨g, h1, h2⟩ := s.dom j B hk
      rw [hf] at h1; cases h1
      exact ⟨f, hf, ⟨by rw [hsz]; exact h2.lt, fun i v hv => by rw [hc _ rfl]; exact h2.cell i v hv, h2.es, fun hh => by simp at hh, fun hh => by simp at hh, fun hh => by simp at hh, fun hh => by simp at hh⟩⟩
    · rw [hset_ne _ _ hjk] at hj
      obtain ⟨g, h1, h2⟩ := s.dom j B' hj
      exact ⟨g, h1, h2.mono (Ext.refl _) (by omega) (hne _ (apart j B' g hjk hj h1))⟩
  · intro j j' B1 B2 f1 f2 hn h1 h2 p1 p2 hb
    by_cases hj : j = k
    · subst hj
      rw [hf] at p1; cases p1
      rw [hset_ne _ _ (Ne.symm hn)] at h2
      exact absurd hb.symm (apart j' B2 f2 (Ne.symm hn) h2 p2)
    · by_cases hj' : j' = k
      · subst hj'
        rw [hf] at p2; cases p2
        rw [hset_ne _ _ hj] at h1
        exact absurd hb (apart j B1 f1 hj h1 p1)
      · rw [hset_ne _ _ hj] at h1; rw [hset_ne _ _ hj'] at h2
        exact s.sep j j' B1 B2 f1 f2 hn h1 h2 p1 p2 hb

def gMark (P : Program) (t d : TypeId) (h : GH) (x : Value) (K : Value → GH → Prop) : Prop :=
  t = d ∧ ∃ e a n c B, x = .slice (some a) n c ∧ n ≠ 0 ∧ P.underlying t = some (.slice e) ∧ P.underlying e = some (.int .u8) ∧ h a.block = some B ∧ B.wr = true ∧ K x (hset h a.block ⟨B.cells, B.es, false, false⟩)
theorem freeze_block (w : World) (a : Addr) (k : Nat) (j : Nat) (h : j ≠ a.block) : (w.freeze a k).heap[j]? = w.heap[j]? := by
  unfold World.freeze
  split
  · rfl
  · simp only [Array.getElem?_modify]
    rw [if_neg (Ne.symm h)]
theorem freeze_size (w : World) (a : Addr) (k : Nat) : (w.freeze a k).heap.size = w.heap.size := by
  unfold World.freeze
  split
  · rfl
  · simp
theorem freeze_cell (w : World) (a : Addr) (k : Nat) (b : Addr) : (w.freeze a k).cell? b = w.cell? b := by
  by_cases hb : b.block = a.block
  · unfold World.freeze
    split
    · rfl
    · simp only [World.cell?, Array.getElem?_modify, hb, if_true]
      cases w.heap[a.block]? with
      | none => rfl
      | some o => cases o <;> rfl
  · exact World.cell?_of_block (w := w) (freeze_block w a k _ hb)
theorem gMark_sound {P : Program} {N : Nat} {φ : Fm} {h : GH} {w : World} (s : Sim N φ h w) {t d : TypeId} {x x' : Value} (hx : VR φ x x') {K : Value → GH → Prop} (g : gMark P t d h x K) : Yes P N φ w (convert t d x') K := by
  obtain ⟨rfl, e, a, n, c, B, rfl, hn, ht, he, hB, hw, k⟩ := g
  cases hx with
  | slice ha hc hl =>
  rename_i a' c'
  have ha' : AR φ a a' := by
    rcases ha with ha | h0
    · exact ha
    · omega
  obtain ⟨q1, q2, f, q3, q4, q5⟩ := ha'
  obtain ⟨f', r1, r2⟩ := s.dom _ _ hB
  rw [q3] at r1; cases r1
  have hN := r2.nz (.inl hw)
  have hrun : ∃ w', (convert t t (.slice (some a') n c')).run P w = .ok (.slice (some a') n c') w' ∧ w'.heap.size = w.heap.size ∧ (∀ j, j ≠ f.b → w'.heap[j]? = w.heap[j]?) ∧ (∀ b : Addr, w'.cell? b = w.cell? b) ∧ w'.os = w.os ∧ w'.tape = w.tape ∧ w'.output = w.output := by
    cases hsh : w.shape? a'.block with
    | none => exact ⟨w, by simp [convert, run_underlying ht, run_underlying he, markStringish, hsh], rfl, fun _ _ => rfl, fun _ => rfl, rfl, rfl, rfl⟩
    | some p =>
      obtain ⟨el, m⟩ := p
      refine ⟨w.freeze ⟨a'.block, m, none⟩ 1, by simp [convert, run_underlying ht, run_underlying he, markStringish, hsh], freeze_size _ _ _, fun j hj => freeze_block _ _ _ _ (by show j ≠ a'.block; rw [q4]; exact hj), fun b => freeze_cell _ _ _ b, ?_, ?_, ?_⟩ <;> (unfold World.freeze; split <;> rfl)
  obtain ⟨w', e1, e2, e3, e4, e5, e6, e7⟩ := hrun
  exact ⟨_, w', φ, _, _, e1, Ext.refl _, s.mark hB q3 hw e2 e3 (fun b _ => e4 b), .slice (.inl ⟨q1, q2, f, q3, q4, q5⟩) hc hl,
    ⟨e5, e6, e7, by omega, fun j hj => e3 j (by omega)⟩, k⟩

def gConvK (P : Program) (t d : TypeId) (h : GH) (x : Value) (K : Value → GH → Prop) : Prop := if t = d then gMark P t d h x K else optK (gConvO P t d h x) h K

def gop (P : Program) (N : Nat) (e : Env) (h : GH) (K : Value → GH → Prop) : Op → Prop
  | .move x => K (ev e x) h
  | .assign x => K (ev e x) h
  | .pick c a b => optK (gPick (ev e c) (ev e a) (ev e b)) h K
  | .alloc t => gAllocO (gzero P t) h K
  | .box _ x => gBoxP h (vcells (ev e x)) K
  | .build t ps => optK (gBuild P t (ps.toList.map fun p => (p.1, ev e p.2))) h K
  | .buildSlice t n ps => gBuildSlice P t h n (ps.toList.map fun p => (p.1, ev e p.2)) K
  | .load t a => optK (gLoad P t h (ev e a)) h K
  | .store t a x => optH (gStore P t h (ev e a) (ev e x)) K
  | .nilCheck x => optK (gNil P (ev e x)) h K
  | .binOp op t x y _ => gBin P op t (isC x || isC y) (ev e x) (ev e y) h K
  | .unOp op _ x => optK (gUn op (ev e x)) h K
  | .convert s d x => gConvK P s d h (ev e x) K
  | .makeInterface t x => optK (gIfc P t (ev e x)) h K
  | .makeFunc fn f c => K (.func fn (f.map (ev e)) (c.map (ev e))) h
  | .makeSlice t l c => gMakeV P t h (ev e l) (ev e c) K
  | .slice t x lo hi mx => optK (gSlice P t h (ev e x) (lo.map (ev e)) (hi.map (ev e)) (mx.map (ev e))) h K
  | .fieldAddr t x f => optK (gField P t (ev e x) f) h K
  | .field t x f => optK (gFieldV P t (ev e x) f) h K
  | .indexAddr t x i => optK (gIndexO P t (ev e x) (ev e i)) h K
  | .index t x i => optK (gIndexVO P t (ev e x) (ev e i)) h K
  | .extract x i => optK (gExtract (ev e x) i) h K
  | .call c => match c.callee with
    | .value f => gCallV P N (ev e f) (c.args.toList.map (ev e)) h K
    | .builtin b => gBlt P b c.argTypes.toList (c.args.toList.map (ev e)) h K
    | .invoke x n => gInvoke P N (ev e x) n (c.args.toList.map (ev e)) h K
  | _ => False

theorem wp_value {P : Program} {o : Oper} {a : Act} {w w' : World} {next : Act → World → Prop} {Q : Exit → Act → World → Prop} {v' : Value} (hr : (execOp a.eval o).run P w = .ok (.value v') w') (hn : next (a.put o.dst v') w') : o.wp P a w next Q := by
  unfold Oper.wp; rw [hr]; exact hn

theorem VRs.evs {P : Program} {N : Nat} {φ : Fm} {h : GH} {w : World} (s : Sim N φ h w) (hG : P.globals.size ≤ N) {nt : Nat} {e : Env} {a : Act} (r : Rel φ nt e a.tmps) : ∀ (l : List Operand), (∀ x ∈ l, opdOk P.globals.size x = true) → VRs φ (l.map (ev e)) (l.map a.eval)
  | [], _ => .nil
  | x :: l, hl => .cons (r.ev s hG (hl x (by simp))) (VRs.evs s hG r l fun y hy => hl y (by simp [hy]))
theorem VRq.evs {P : Program} {N : Nat} {φ : Fm} {h : GH} {w : World} (s : Sim N φ h w) (hG : P.globals.size ≤ N) {nt : Nat} {e : Env} {a : Act} (r : Rel φ nt e a.tmps) : ∀ (l : List (Nat × Operand)), (∀ x ∈ l, opdOk P.globals.size x.2 = true) → VRq φ (l.map fun p => (p.1, ev e p.2)) (l.map fun p => (p.1, a.eval p.2))
  | [], _ => .nil
  | x :: l, hl => .cons (r.ev s hG (hl x (by simp))) (VRq.evs s hG r l fun y hy => hl y (by simp [hy]))
theorem vro_evs {P : Program} {N : Nat} {φ : Fm} {h : GH} {w : World} (s : Sim N φ h w) (hG : P.globals.size ≤ N) {nt : Nat} {e : Env} {a : Act} (r : Rel φ nt e a.tmps) : ∀ (x : Option Operand), (∀ y, x = some y → opdOk P.globals.size y = true) → VRo φ (x.map (ev e)) (x.map a.eval)
  | none, _ => .none
  | some x, hl => .some (r.ev s hG (hl x rfl))

theorem gBlt_sound {P : Program} {N : Nat} {φ : Fm} {h : GH} {w : World} (s : Sim N φ h w) {b : Builtin} {ats : Array TypeId} {args : List Value} {args' : Array Value} (hv : VRs φ args args'.toList) {K : Value → GH → Prop} (g : gBlt P b ats.toList args h K) (ty : TypeId) (cs : Array Bool) :
    ∃ v v' φ' h' w', (builtin b ats ty cs args').run P w = .ok (.value v') w' ∧ Ext φ φ' ∧ Sim N φ' h' w' ∧ VR φ' v v' ∧ Below N w w' ∧ K v h' := by
  obtain ⟨ats⟩ := ats
  obtain ⟨args'⟩ := args'
  simp only at hv g
  unfold gBlt at g
  split at g
  · obtain ⟨v, e0, k⟩ := g
    simp only [Option.map_eq_some_iff] at e0
    obtain ⟨n, e1, rfl⟩ := e0
    cases hv with
    | cons hx hv =>
    cases hv
    exact ⟨_, _, φ, h, w, by simp [builtin, gLen_sound (P := P) hx e1], Ext.refl _, s, .int _ _, Below.refl _ _, k⟩
  · obtain ⟨v, e0, k⟩ := g
    simp only [Option.map_eq_some_iff] at e0
    obtain ⟨n, e1, rfl⟩ := e0
    cases hv with
    | cons hx hv =>
    cases hv
    exact ⟨_, _, φ, h, w, by simp [builtin, gCap_sound (P := P) hx e1], Ext.refl _, s, .int _ _, Below.refl _ _, k⟩
  · obtain ⟨v, e0, k⟩ := g
    unfold gMinV at e0
    split at e0
    case isFalse => cases e0
    rename_i hi
    have e1 := e0
    cases hv with
    | cons hx hv =>
    rename_i x' l'
    obtain ⟨h1, k2, a2, rfl⟩ := gMin_sound (P := P) w hx hv e1 (by rename_i x r; cases x <;> simp [isInt] at hi ⊢)
    exact ⟨_, _, φ, h, w, by simp [builtin, Builtin.min_, h1], Ext.refl _, s, .int _ _, Below.refl _ _, k⟩
  · obtain ⟨v, e0, k⟩ := g
    unfold gMaxV at e0
    split at e0
    case isFalse => cases e0
    rename_i hi
    have e1 := e0
    cases hv with
    | cons hx hv =>
    rename_i x' l'
    obtain ⟨h1, k2, a2, rfl⟩ := gMax_sound (P := P) w hx hv e1 (by rename_i x r; cases x <;> simp [isInt] at hi ⊢)
    exact ⟨_, _, φ, h, w, by simp [builtin, Builtin.max_, h1], Ext.refl _, s, .int _ _, Below.refl _ _, k⟩
  · cases hv with
    | cons hx hv =>
    cases hv with
    | cons hy hv =>
    cases hv
    rcases g with ⟨du, e, es, by_, z, m, xs, hu, hni, hel, hsrc, ga⟩ | g
    case inr =>
      obtain ⟨v', w', φ', v, h', r1, r2, r3, r4, r5, r6⟩ := gAppendZ_sound (P := P) s (ty := ty) hx hy g
      exact ⟨v, v', φ', h', w', by simp [builtin, r1], r2, r3, r4, r5, r6⟩
    obtain ⟨v', w', φ', v, h', r1, r2, r3, r4, r5, r6⟩ := gAppend_sound (P := P) s (ty := ty) hu (fun k hk => by subst hk; cases hni) hx hy hsrc (fun e2 es2 b2 z2 h2 => by rw [hel] at h2; cases h2; rfl) ga
    exact ⟨v, v', φ', h', w', by simp [builtin, r1], r2, r3, r4, r5, r6⟩
  · rename_i t u d x
    obtain ⟨n, h2, e1, k⟩ := g
    cases hv with
    | cons hx hv =>
    cases hv with
    | cons hy hv =>
    cases hv
    obtain ⟨w', r1, r2, r3⟩ := gCopy_sound (P := P) s (u := u) (ty := ty) hx hy e1
    exact ⟨_, _, φ, h2, w', by simp [builtin, r1, goInt], Ext.refl _, r2, .int _ _, r3, k⟩
  · exact g.elim

theorem callFunc_enter {P : Program} {g : FuncId} (q1 : gfn P g = true) (A : Array Value) (w : World) : (callFunc g A).run P w = .ok (.enter g A) w := by
  unfold gfn at q1
  split at q1
  case h_2 => cases q1
  rename_i fn hfn
  simp only [Bool.and_eq_true, Bool.not_eq_true', beq_eq_false_iff_ne, ne_eq] at q1
  obtain ⟨c, hc⟩ := Option.isSome_iff_exists.1 q1.1
  simp [callFunc, hfn, q1.2, hc]

theorem gop_sound {P : Program} {N : Nat} (hG : P.globals.size ≤ N) {φ : Fm} {h : GH} {w : World} (s : Sim N φ h w) {nt : Nat} {e : Env} {a : Act} (r : Rel φ nt e a.tmps) {o : Oper}
    (hok : ∀ x ∈ o.op.operands, opdOk P.globals.size x = true) {K : Value → GH → Prop} (g : gop P N e h K o.op) {next : Act → World → Prop} {Q : Exit → Act → World → Prop}
    (hn : ∀ v v' φ' h' w', Ext φ φ' → Sim N φ' h' w' → VR φ' v v' → Below N w w' → K v h' → next (a.put o.dst v') w') : o.wp P a w next Q := by
  obtain ⟨dst, op, type, pos, after, guard⟩ := o
  have same : ∀ v v', VR φ v v' → K v h → next (a.put dst v') w := fun v v' hv k => hn v v' φ h w (Ext.refl _) s hv (Below.refl _ _) k
  cases op <;> simp only [gop] at g <;> simp only [Op.operands] at hok
  case move x => exact wp_value (by simp [execOp]) (same _ _ (r.ev s hG (hok x (by simp))) g)
  case assign x => exact wp_value (by simp [execOp]) (same _ _ (r.ev s hG (hok x (by simp))) g)
  case pick c x y =>
    obtain ⟨v0, e0, k⟩ := g
    unfold gPick at e0
    split at e0
    case h_2 => cases e0
    rename_i t e1
    cases e0
    have hc := r.ev s hG (hok c (by simp))
    rw [e1] at hc
    have hx := r.ev s hG (hok x (by simp))
    have hy := r.ev s hG (hok y (by simp))
    have hcv : a.eval c = .bool t := by generalize a.eval c = z at hc; cases hc; rfl
    cases t
    · exact wp_value (v' := a.eval y) (by simp [execOp, hcv, asBool]) (same _ _ (by simpa using hy) k)
    · exact wp_value (v' := a.eval x) (by simp [execOp, hcv, asBool]) (same _ _ (by simpa using hx) k)
  case alloc t =>
    obtain ⟨z, e1, k⟩ := g
    unfold gzero at e1
    split at e1
    case h_2 => cases e1
    rename_i i hi
    split at e1
    case h_2 => cases e1
    rename_i z' hz
    split at e1
    case isFalse => cases e1
    rename_i hclo
    cases e1
    rw [← vcells_eq] at k
    obtain ⟨v', w', φ', v, h', r1, r2, r3, r4, r5, r6⟩ := gAlloc_sound (P := P) (K := K) s t hi hz (clo_refl hclo) (cloCells_isCell (clo_cells hclo)) k (.tuple #[])
    exact wp_value (by simp [execOp, r1]) (hn _ _ _ _ _ r2 r3 r4 r5 r6)
  case box t x =>
    obtain ⟨hc, k⟩ := g
    rw [← vcells_eq] at hc k
    obtain ⟨v', w', φ', v, h', r1, r2, r3, r4, r5, r6⟩ := gBox_sound (P := P) (K := K) s (r.ev s hG (hok x (by simp))) hc t k
    exact wp_value (by simp [execOp, r1]) (hn _ _ _ _ _ r2 r3 r4 r5 r6)
  case build t ps =>
    obtain ⟨v, e1, k⟩ := g
    have hq : VRq φ (ps.toList.map fun p => (p.1, ev e p.2)) (ps.map fun p => (p.1, a.eval p.2)).toList := by
      rw [Array.toList_map]
      exact VRq.evs s hG r _ fun x hx => hok x.2 (by simp; exact ⟨x.1, by simpa using hx⟩)
    obtain ⟨v', r1, r2⟩ := gBuild_sound (P := P) hq e1 w
    exact wp_value (by simp [execOp, r1]) (same _ _ r2 k)
  case buildSlice t n ps =>
    have hq : VRq φ (ps.toList.map fun p => (p.1, ev e p.2)) (ps.map fun p => (p.1, a.eval p.2)).toList := by
      rw [Array.toList_map]
      exact VRq.evs s hG r _ fun x hx => hok x.2 (by simp; exact ⟨x.1, by simpa using hx⟩)
    obtain ⟨v', w', φ', v, h', r1, r2, r3, r4, r5, r6⟩ := gBuildSlice_sound (P := P) s hq g
    exact wp_value (by simp [execOp, r1]) (hn _ _ _ _ _ r2 r3 r4 r5 r6)
  case load t x =>
    obtain ⟨v, e1, k⟩ := g
    obtain ⟨v', r1, r2⟩ := gLoad_sound (P := P) s (r.ev s hG (hok x (by simp))) e1
    exact wp_value (by simp [execOp, r1]) (same _ _ r2 k)
  case store t x y =>
    obtain ⟨h2, e1, k⟩ := g
    obtain ⟨w', r1, r2, r3⟩ := gStore_sound (P := P) s (r.ev s hG (hok x (by simp))) (r.ev s hG (hok y (by simp))) e1
    have : (execOp a.eval { dst, op := .store t x y, type, pos, after, guard }).run P w = .ok .skip w' := by simp [execOp, r1]
    unfold Oper.wp
    rw [this]
    exact hn U undef φ h2 w' (Ext.refl _) r2 (VR.u _ _) r3 k
  case nilCheck x =>
    have hx := r.ev s hG (hok x (by simp))
    obtain ⟨v0, e0, g⟩ := g
    unfold gNil at e0
    split at e0
    · rename_i ad hx'
      cases e0
      rw [hx'] at hx
      generalize hz : a.eval x = z at hx
      cases hx with
      | ptr ha => exact wp_value (by simp [execOp, hz]) (same _ _ (.ptr ha) g)
    · rename_i f fa fb hx'
      cases e0
      rw [hx'] at hx
      generalize hz : a.eval x = z at hx
      cases hx with
      | func h1 h2 => exact wp_value (by simp [execOp, hz]) (same _ _ (.func h1 h2) g)
    · rename_i n fa fb hx'
      unfold gNilM at e0
      split at e0
      case h_2 => cases e0
      rename_i t v rr ha
      split at e0
      case h_2 => cases e0
      rename_i f hf
      cases e0
      rw [hx'] at hx
      generalize hz : a.eval x = z at hx
      cases hx with
      | func h1 h2 =>
      rename_i fa' fb'
      rw [ha] at h1
      obtain ⟨fa'⟩ := fa'
      simp only at h1
      cases h1 with
      | cons h3 h4 =>
      cases h3 with
      | iface h5 =>
      rename_i l' v'
      refine wp_value (v' := .func (.method n) (.iface t v' :: l').toArray fb') ?_ (same _ _ (.func (.cons (.iface h5) h4) (by simpa using h2)) g)
      simp [execOp, hz, (gMeth_sound hf v' w).2]
    · rename_i t v hx'
      cases e0
      rw [hx'] at hx
      generalize hz : a.eval x = z at hx
      cases hx with
      | iface h1 => exact wp_value (by simp [execOp, hz]) (same _ _ (.iface h1) g)
    · cases e0
  case binOp op t x y ty =>
    have hx := r.ev s hG (hok x (by simp))
    have hy := r.ev s hG (hok y (by simp))
    obtain ⟨v, r1, k, r2⟩ := gBin_sound (P := P) (op := op) (t := t) hx hy g w
    refine wp_value (v' := v) ?_ (same _ _ (r2 φ) k)
    simp only [Sem.run_bind] at r1
    simp only [execOp, Sem.run_bind, r1, Result.andThen_ok, Sem.run_pure]
  case unOp op t x =>
    obtain ⟨v, e1, k⟩ := g
    obtain ⟨r1, r2⟩ := gUn_sound (P := P) (r.ev s hG (hok x (by simp))) e1 w
    exact wp_value (by simp [execOp, r1]) (same _ _ (r2 φ) k)
  case convert sr d x =>
    unfold gConvK at g
    split at g
    · obtain ⟨v', w', φ', v, h', r1, r2, r3, r4, r5, r6⟩ := gMark_sound (P := P) s (r.ev s hG (hok x (by simp))) g
      exact wp_value (by simp [execOp, r1]) (hn v v' φ' h' w' r2 r3 r4 r5 r6)
    obtain ⟨v, e0, k⟩ := g
    unfold gConvO at e0
    split at e0
    case isFalse => cases e0
    rename_i hs
    have e1 := e0
    obtain ⟨r1, r2⟩ := gConv_sound (P := P) s (r.ev s hG (hok x (by simp))) hs e1
    exact wp_value (by simp [execOp, r1]) (same _ _ (r2 φ) k)
  case makeInterface t x =>
    obtain ⟨v0, e0, k⟩ := g
    unfold gIfc at e0
    split at e0
    case isFalse => cases e0
    rename_i h1
    cases e0
    refine wp_value (v' := .iface t (a.eval x)) ?_ (same _ _ (.iface (r.ev s hG (hok x (by simp)))) k)
    unfold notIface at h1
    cases hu : P.underlying t with
    | none => simp [hu] at h1
    | some d => cases d <;> simp_all [execOp, Instr.makeInterface, run_underlying hu]
  case makeFunc fn f c =>
    refine wp_value (v' := .func fn (f.map a.eval) (c.map a.eval)) (by simp [execOp, Instr.makeFunc]) (same _ _ (.func ?_ ?_) g)
    · simp only [Array.toList_map]
      exact VRs.evs s hG r _ fun x hx => hok x (by simp; exact .inl (by simpa using hx))
    · simp only [Array.toList_map]
      exact VRs.evs s hG r _ fun x hx => hok x (by simp; exact .inr (by simpa using hx))
  case makeSlice t l c =>
    unfold gMakeV at g
    split at g
    case h_2 => exact g.elim
    rename_i kl l' kc c' e1 e2
    have gm := g
    have hl := r.ev s hG (hok l (by simp))
    have hc := r.ev s hG (hok c (by simp))
    rw [e1] at hl; rw [e2] at hc
    generalize hz : a.eval l = z at hl
    generalize hz2 : a.eval c = z2 at hc
    cases hl; cases hc
    obtain ⟨v', w', φ', v, h', r1, r2, r3, r4, r5, r6⟩ := gMake_sound (P := P) s (kl := kl) (kc := kc) gm
    exact wp_value (by simp [execOp, hz, hz2, r1]) (hn _ _ _ _ _ r2 r3 r4 r5 r6)
  case slice t x lo hi mx =>
    obtain ⟨v, e1, k⟩ := g
    obtain ⟨v', r1, r2⟩ := gSlice_sound (P := P) s (r.ev s hG (hok x (by simp)))
      (vro_evs s hG r lo fun y hy => hok y (by subst hy; simp)) (vro_evs s hG r hi fun y hy => hok y (by subst hy; simp)) (vro_evs s hG r mx fun y hy => hok y (by subst hy; simp)) e1
    exact wp_value (by simp [execOp, r1]) (same _ _ r2 k)
  case fieldAddr t x f =>
    obtain ⟨v, e1, k⟩ := g
    obtain ⟨v', r1, r2⟩ := gField_sound (P := P) s (r.ev s hG (hok x (by simp))) f e1
    exact wp_value (by simp [execOp, r1]) (same _ _ r2 k)
  case field t x f =>
    obtain ⟨v, e1, k⟩ := g
    obtain ⟨v', r1, r2⟩ := gFieldV_sound (P := P) (r.ev s hG (hok x (by simp))) e1 w
    exact wp_value (by simp [execOp, r1]) (same _ _ r2 k)
  case indexAddr t x i =>
    obtain ⟨v, e1, k⟩ := g
    unfold gIndexO at e1
    split at e1
    case h_2 => cases e1
    rename_i ki n e0
    have hi := r.ev s hG (hok i (by simp))
    rw [e0] at hi
    generalize hz : a.eval i = z at hi
    cases hi
    obtain ⟨v', r1, r2⟩ := gIndex_sound (P := P) s (r.ev s hG (hok x (by simp))) ki n e1
    exact wp_value (by simp [execOp, hz, r1]) (same _ _ r2 k)
  case index t x i =>
    obtain ⟨v, e1, k⟩ := g
    unfold gIndexVO at e1
    split at e1
    case h_2 => cases e1
    rename_i ki n e0
    have hi := r.ev s hG (hok i (by simp))
    rw [e0] at hi
    generalize hz : a.eval i = z at hi
    cases hi
    obtain ⟨v', r1, r2⟩ := gIndexV_sound (P := P) (r.ev s hG (hok x (by simp))) (k := ki) e1 w
    exact wp_value (by simp [execOp, hz, r1]) (same _ _ r2 k)
  case extract x i =>
    obtain ⟨v, e1, k⟩ := g
    have hx := r.ev s hG (hok x (by simp))
    unfold gExtract at e1
    split at e1
    case h_2 => cases e1
    rename_i vs hvs
    rw [hvs] at hx
    generalize hz : a.eval x = z at hx
    cases hx with
    | tuple ht =>
    obtain ⟨v', p1, p2⟩ := ht.get i v (by simpa using e1)
    simp only [Array.getElem?_toList] at p1
    exact wp_value (by simp [execOp, hz, Instr.extract, p1]) (same _ _ p2 k)
  case call c =>
    obtain ⟨callee, args, ats⟩ := c
    have hargs : VRs φ (args.toList.map (ev e)) (args.map a.eval).toList := by
      rw [Array.toList_map]
      exact VRs.evs s hG r _ fun x hx => hok x (by simp [Call.operands]; exact .inr (by simpa using hx))
    cases callee with
    | value f =>
      simp only at g
      unfold gCallV at g
      split at g
      case h_2 => exact g.elim
      rename_i g0 fa fb e1
      have gt := g
      have hf := r.ev s hG (hok f (by simp [Call.operands]))
      rw [e1] at hf
      generalize hz : a.eval f = z at hf
      cases hf with
      | func h1 h2 =>
      rename_i fa' fb'
      have hall : VRs φ (fa.toList ++ args.toList.map (ev e) ++ fb.toList) (fa' ++ args.map a.eval ++ fb').toList := by
        simp only [Array.toList_append]
        exact (h1.append hargs).append h2
      have hex : ∀ rr, (callFunc g0 (fa' ++ args.map a.eval ++ fb')).run P w = rr → (execOp a.eval { dst, op := .call { callee := .value f, args, argTypes := ats }, type, pos, after, guard }).run P w = rr := by
        intro rr hr
        rw [Array.append_assoc] at hr
        simp [execOp, resolve, Deferred.ofValue, hz, invoke, hr]
      rcases gt hG φ w _ s hall with ⟨q1, q2⟩ | ⟨v, v', φ', h', w', q1, q2, q3, q4, q5, q6⟩
      · have hcf := callFunc_enter q1 (fa' ++ args.map a.eval ++ fb') w
        unfold Oper.wp
        rw [hex _ hcf]
        show Calls P g0 _ w _
        refine q2.mono ?_
        rintro e' w' ⟨v, v', φ', h', rfl, p2, p3, p4, p5, p6⟩
        exact hn v v' φ' h' w' p2 p3 p4 p5 p6
      · exact wp_value (hex _ q1) (hn v v' φ' h' w' q2 q3 q4 q5 q6)
    | builtin b =>
      simp only at g
      obtain ⟨v, v', φ', h', w', q1, q2, q3, q4, q5, q6⟩ := gBlt_sound (P := P) s hargs g type (args.map fun | .const _ => true | _ => false)
      refine wp_value (v' := v') ?_ (hn v v' φ' h' w' q2 q3 q4 q5 q6)
      simp only [execOp, resolve, Sem.run_bind, Sem.run_pure, Result.andThen_ok, invoke]
      exact q1
    | invoke x n =>
      simp only at g
      unfold gInvoke at g
      split at g
      case h_2 => exact g.elim
      rename_i t v e1
      split at g
      case h_2 => exact g.elim
      rename_i g0 hm
      have gt := g
      have hf := r.ev s hG (hok x (by simp [Call.operands]))
      rw [e1] at hf
      generalize hz : a.eval x = z at hf
      cases hf with
      | iface h1 =>
      rename_i v'
      have hall : VRs φ (v :: args.toList.map (ev e)) (#[v'] ++ args.map a.eval).toList := by
        simp only [Array.toList_append, List.cons_append, List.nil_append]
        exact .cons h1 hargs
      have hex : ∀ rr, (callFunc g0 (#[v'] ++ args.map a.eval)).run P w = rr → (execOp a.eval { dst, op := .call { callee := .invoke x n, args, argTypes := ats }, type, pos, after, guard }).run P w = rr := by
        intro rr hr
        have h0 : (#[Value.iface t v'] ++ Array.map a.eval args)[0]? = some (Value.iface t v') := by simp [Array.getElem?_append]
        have h1 : (#[Value.iface t v'] ++ Array.map a.eval args).extract 1 (#[Value.iface t v'] ++ Array.map a.eval args).size = Array.map a.eval args := by apply Array.ext'; simp [List.take_of_length_le]
        simp only [execOp, resolve, hz, invoke, Sem.run_bind, Sem.run_pure, Result.andThen_ok, h0, h1]
        rw [(gMeth_sound hm v' w).1, hr]
      rcases gt hG φ w _ s hall with ⟨q1, q2⟩ | ⟨v, v', φ', h', w', q1, q2, q3, q4, q5, q6⟩
      · have hcf := callFunc_enter q1 (#[v'] ++ args.map a.eval) w
        unfold Oper.wp
        rw [hex _ hcf]
        show Calls P g0 _ w _
        refine q2.mono ?_
        rintro e' w' ⟨v, v', φ', h', rfl, p2, p3, p4, p5, p6⟩
        exact hn v v' φ' h' w' p2 p3 p4 p5 p6
      · exact wp_value (hex _ q1) (hn v v' φ' h' w' q2 q3 q4 q5 q6)
  all_goals exact g.elim

end Go.Gh
