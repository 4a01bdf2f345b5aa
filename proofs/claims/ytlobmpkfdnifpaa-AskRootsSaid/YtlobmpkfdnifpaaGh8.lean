/- A framework of this claim's proof, part 8. Operators and conversions. No statement of the claim stands here. -/
import Derived.Test.YtlobmpkfdnifpaaGh7
namespace Go.Gh
open Go Go.RowKit
set_option linter.unusedVariables false
set_option linter.unusedSimpArgs false

/-! ## Arithmetic and comparisons -/

def gInt (op : BinOp) (k : IntKind) (a : Int) (k' : IntKind) (b : Int) (h : GH) (K : Value → GH → Prop) : Prop :=
  match op with
  | .shl => 0 ≤ b ∧ K (.int k (k.wrap (a * 2 ^ min b.toNat k.bits))) h
  | .shr => 0 ≤ b ∧ K (.int k (a.fdiv (2 ^ min b.toNat k.bits))) h
  | .add => k = k' ∧ K (.int k (k.wrap (a + b))) h
  | .sub => k = k' ∧ K (.int k (k.wrap (a - b))) h
  | .mul => k = k' ∧ K (.int k (k.wrap (a * b))) h
  | .quo => k = k' ∧ b ≠ 0 ∧ K (.int k (k.wrap (a.tdiv b))) h
  | .rem => k = k' ∧ b ≠ 0 ∧ K (.int k (a.tmod b)) h
  | .and => k = k' ∧ K (.int k (bits .and k a b)) h
  | .or => k = k' ∧ K (.int k (bits .or k a b)) h
  | .xor => k = k' ∧ K (.int k (bits .xor k a b)) h
  | .andNot => k = k' ∧ K (.int k (bits .andNot k a b)) h
  | .eql => k = k' ∧ K (.bool (a == b)) h
  | .neq => k = k' ∧ K (.bool (a != b)) h
  | .lss => k = k' ∧ K (.bool (decide (a < b))) h
  | .leq => k = k' ∧ K (.bool (decide (a ≤ b))) h
  | .gtr => k = k' ∧ K (.bool (decide (a > b))) h
  | .geq => k = k' ∧ K (.bool (decide (a ≥ b))) h

theorem gInt_sound {P : Program} {op : BinOp} {t : TypeId} {k k' : IntKind} {a b : Int} {h : GH} {K : Value → GH → Prop} (g : gInt op k a k' b h K) (w : World) :
    ∃ v, (binOp op t (.int k a) (.int k' b)).run P w = .ok v w ∧ K v h ∧ (∀ φ, VR φ v v) := by
  cases op <;> simp only [gInt] at g
  case shl => exact ⟨_, by simp [binOp, Op.shift, Int.not_lt.2 g.1], g.2, fun _ => .int _ _⟩
  case shr => exact ⟨_, by simp [binOp, Op.shift, Int.not_lt.2 g.1], g.2, fun _ => .int _ _⟩
  case quo => obtain ⟨rfl, g1, g2⟩ := g; exact ⟨_, by simp [binOp, Op.intDiv, g1], g2, fun _ => .int _ _⟩
  case rem => obtain ⟨rfl, g1, g2⟩ := g; exact ⟨_, by simp [binOp, Op.intDiv, g1], g2, fun _ => .int _ _⟩
  case add => obtain ⟨rfl, g⟩ := g; exact ⟨_, by simp [binOp, Op.intArith], g, fun _ => .int _ _⟩
  case sub => obtain ⟨rfl, g⟩ := g; exact ⟨_, by simp [binOp, Op.intArith], g, fun _ => .int _ _⟩
  case mul => obtain ⟨rfl, g⟩ := g; exact ⟨_, by simp [binOp, Op.intArith], g, fun _ => .int _ _⟩
  case and => obtain ⟨rfl, g⟩ := g; exact ⟨_, by simp [binOp, Op.intBits, bits], g, fun _ => .int _ _⟩
  case or => obtain ⟨rfl, g⟩ := g; exact ⟨_, by simp [binOp, Op.intBits, bits], g, fun _ => .int _ _⟩
  case xor => obtain ⟨rfl, g⟩ := g; exact ⟨_, by simp [binOp, Op.intBits, bits], g, fun _ => .int _ _⟩
  case andNot => obtain ⟨rfl, g⟩ := g; exact ⟨_, by simp [binOp, Op.intBits, bits], g, fun _ => .int _ _⟩
  case eql => obtain ⟨rfl, g⟩ := g; exact ⟨_, by simp [binOp, Op.intCmp], g, fun _ => .bool _⟩
  case neq => obtain ⟨rfl, g⟩ := g; exact ⟨_, by simp [binOp, Op.intCmp], g, fun _ => .bool _⟩
  case lss => obtain ⟨rfl, g⟩ := g; exact ⟨_, by simp [binOp, Op.intCmp], g, fun _ => .bool _⟩
  case leq => obtain ⟨rfl, g⟩ := g; exact ⟨_, by simp [binOp, Op.intCmp], g, fun _ => .bool _⟩
  case gtr => obtain ⟨rfl, g⟩ := g; exact ⟨_, by simp [binOp, Op.intCmp], g, fun _ => .bool _⟩
  case geq => obtain ⟨rfl, g⟩ := g; exact ⟨_, by simp [binOp, Op.intCmp], g, fun _ => .bool _⟩

def gStrOp (op : BinOp) (x y : ByteArray) (h : GH) (K : Value → GH → Prop) : Prop :=
  match op with
  | .add => x.size + y.size ≤ 9223372036854775807 ∧ K (.string (x ++ y)) h
  | .eql => K (.bool (x.toList == y.toList)) h
  | .neq => K (.bool (!(x.toList == y.toList))) h
  | .lss => K (.bool (Op.bytesLess x.toList y.toList)) h
  | .leq => K (.bool (Op.bytesLess x.toList y.toList || x.toList == y.toList)) h
  | .gtr => K (.bool (!(Op.bytesLess x.toList y.toList || x.toList == y.toList))) h
  | .geq => K (.bool (!(Op.bytesLess x.toList y.toList))) h
  | _ => False

theorem gStrOp_sound {P : Program} {op : BinOp} {t : TypeId} {x y : ByteArray} {h : GH} {K : Value → GH → Prop} (g : gStrOp op x y h K) (w : World) :
    ∃ v, (binOp op t (.string x) (.string y)).run P w = .ok v w ∧ K v h ∧ (∀ φ, VR φ v v) := by
  cases op <;> simp only [gStrOp] at g <;> try exact g.elim
  case add =>
    refine ⟨_, ?_, g.2, fun _ => .string _⟩
    have h9 : (x.size : Int) + (y.size : Int) ≤ 9223372036854775807 := by omega
    have h8 : ¬ ((9223372036854775807 : Int) < (x.size : Int) + (y.size : Int)) := by omega
    simp [binOp, Op.stringOp, h8]
  all_goals exact ⟨_, by simp [binOp, Op.stringOp], g, fun _ => .bool _⟩

/-- A type whose values are held against each other cell by cell, no nil of an interface among them. -/
def eqOk (P : Program) (t : TypeId) : Bool := !(P.eqGuardType P.depth t) && !(P.stoodInHeld t)

def gEq0 (P : Program) (t : TypeId) (x y : Value) : Option Bool :=
  match P.underlying t, x, y with
  | some (.int _), .int k a, .int k' b => if k = k' then some (a == b) else none
  | some .bool, .bool a, .bool b => some (a == b)
  | some .string, .string a, .string b => some (a.toList == b.toList)
  | _, _, _ => none

def gEqFs (P : Program) (xs ys : Array Value) : List Field → Option Bool
  | [] => some true
  | f :: r =>
    if f.name = "_" then none else
    match gsz P f.type, xs[f.offset]?, ys[f.offset]? with
    | some (false, _), some x, some y => match gEq0 P f.type x y, gEqFs P xs ys r with
      | some b, some c => some (b && c)
      | _, _ => none
    | _, _, _ => none

def gEq (P : Program) (t : TypeId) (cst : Bool) (x y : Value) : Option Bool :=
  match P.underlying t, x, y with
  | some .bool, .bool a, .bool b => some (a == b)
  | some (.pointer _), .pointer none, .pointer b => some b.isNone
  | some (.pointer _), .pointer (some _), .pointer none => some false
  | some (.slice _), .slice none _ _, .slice b _ _ => some b.isNone
  | some (.slice _), .slice (some _) _ _, .slice none _ _ => some false
  | some (.interface _), .nilIface, .nilIface => if cst then some true else none
  | some (.interface _), .nilIface, .iface _ _ => some false
  | some (.interface _), .iface _ _, .nilIface => some false
  | some (.func _ _ _), .nilFunc, .nilFunc => some true
  | some (.func _ _ _), .nilFunc, .func _ _ _ => some false
  | some (.func _ _ _), .func _ _ _, .nilFunc => some false
  | some (.struct fs), .agg xs, .agg ys => if eqOk P t = true then gEqFs P xs ys fs.toList else none
  | _, _, _ => none

theorem gEq0_sound {P : Program} {φ : Fm} {t : TypeId} {x y x' y' : Value} (hx : VR φ x x') (hy : VR φ y y') {b : Bool} (e : gEq0 P t x y = some b) (d : Nat) (w : World) : (Op.equalIn (d + 1) t x' y').run P w = .ok b w := by
  unfold gEq0 at e
  split at e
  · split at e
    case isFalse => cases e
    rename_i hu hk
    subst hk
    cases e; cases hx; cases hy
    exact run_equalIn_int w d t _ _ _ _ hu
  · rename_i hu
    cases e; cases hx; cases hy
    exact run_equalIn_bool' w d t _ _ hu
  · rename_i hu
    cases e; cases hx; cases hy
    exact run_equalIn_string w d t _ _ hu
  · cases e

theorem run_part_cell {P : Program} {t : TypeId} {n : Nat} (hz : gsz P t = some (false, n)) (cs : Array Value) (o : Nat) {v : Value} (hv : cs[o]? = some v) (w : World) : (part t cs o).run P w = .ok v w := by
  simp [part, (gsz_sound hz w).1, hv]

theorem gEqFs_sound {P : Program} {φ : Fm} {xs ys xs' ys' : Array Value} (hx : VRs φ xs.toList xs'.toList) (hy : VRs φ ys.toList ys'.toList) (d : Nat) (w : World) :
    ∀ (fs : List Field) (b : Bool), gEqFs P xs ys fs = some b → (Op.eqFields (d + 1) xs' ys' fs).run P w = .ok b w
  | [], b, e => by
    simp only [gEqFs, Option.some.injEq] at e
    subst e
    simp [Op.eqFields]
  | f :: r, b, e => by
    simp only [gEqFs] at e
    split at e
    · cases e
    rename_i hn
    split at e
    case h_2 => cases e
    rename_i x1 x2 x3 sz x y hz hxo hyo
    split at e
    case h_2 => cases e
    rename_i z1 z2 b1 c h1 h2
    cases e
    obtain ⟨x', p1, p2⟩ := hx.get f.offset x (by simpa using hxo)
    obtain ⟨y', q1, q2⟩ := hy.get f.offset y (by simpa using hyo)
    have ih := gEqFs_sound hx hy d w r c h2
    have r0 := gEq0_sound (P := P) p2 q2 h1 d w
    have rx := run_part_cell (P := P) hz xs' f.offset (by simpa using p1) w
    have ry := run_part_cell (P := P) hz ys' f.offset (by simpa using q1) w
    simp only [Op.eqFields, ne_eq, hn, not_false_eq_true, if_true, Sem.run_bind, rx, ry, r0, Result.andThen_ok]
    cases b1 <;> simp [ih]

theorem deep' {P : Program} {t : TypeId} {x y : Value} {r : Result Bool} {w : World} (n : Nat) (h : (Op.equalIn (n + 1) t x y).run P w = r) (hn : n = 9999 := by rfl) : (Op.equal t x y).run P w = r := by subst hn; exact h
theorem deep {P : Program} {t : TypeId} {x y : Value} {b : Bool} {w : World} (h : ∀ d : Nat, (Op.equalIn (d + 1) t x y).run P w = .ok b w) : (Op.equal t x y).run P w = .ok b w := h 9999

theorem gEq_sound {P : Program} {φ : Fm} {t : TypeId} {cst : Bool} {x y x' y' : Value} (hx : VR φ x x') (hy : VR φ y y') {b : Bool} (e : gEq P t cst x y = some b) (w : World) :
    (Op.equal t x' y').run P w = .ok b w ∧ (∀ op ox oy, (cst = true → (ox matches .const _) ∨ (oy matches .const _)) → (eqGuard op t ox oy x' y').run P w = .ok () w) ∧ (∀ k n, x' ≠ .int k n) ∧ (∀ s, x' ≠ .string s) ∧ (∀ k n, x' ≠ .float k n) ∧ (∀ k n m, x' ≠ .complex k n m) := by
  unfold gEq at e
  have triv : ∀ (op : BinOp) (ox oy : Operand), (∀ a b, ¬ (x' = .agg a ∧ y' = .agg b)) → ¬ (x' = .nilIface ∧ y' = .nilIface) → (eqGuard op t ox oy x' y').run P w = .ok () w := by
    intro op ox oy h1 h2
    unfold eqGuard
    cases op <;> simp [Sem.run_bind] <;> (split <;> simp_all)
  split at e
  · rename_i hu; cases e; cases hx; cases hy
    exact ⟨deep fun d => by simp [Op.equalIn, run_underlying hu], fun _ _ _ _ => triv _ _ _ (by simp) (by simp), by simp, by simp, by simp, by simp⟩
  · rename_i hu; cases e; cases hx
    cases hy with
    | pnil => exact ⟨deep fun d => by simp [Op.equalIn, run_underlying hu], fun _ _ _ _ => triv _ _ _ (by simp) (by simp), by simp, by simp, by simp, by simp⟩
    | ptr ha => exact ⟨deep fun d => by simp [Op.equalIn, run_underlying hu], fun _ _ _ _ => triv _ _ _ (by simp) (by simp), by simp, by simp, by simp, by simp⟩
  · rename_i hu; cases e; cases hx; cases hy
    exact ⟨deep fun d => by simp [Op.equalIn, run_underlying hu], fun _ _ _ _ => triv _ _ _ (by simp) (by simp), by simp, by simp, by simp, by simp⟩
  · rename_i hu; cases e; cases hx
    cases hy with
    | snil => exact ⟨deep fun d => by simp [Op.equalIn, run_underlying hu], fun _ _ _ _ => triv _ _ _ (by simp) (by simp), by simp, by simp, by simp, by simp⟩
    | slice => exact ⟨deep fun d => by simp [Op.equalIn, run_underlying hu], fun _ _ _ _ => triv _ _ _ (by simp) (by simp), by simp, by simp, by simp, by simp⟩
  · rename_i hu; cases e; cases hx; cases hy
    exact ⟨deep fun d => by simp [Op.equalIn, run_underlying hu], fun _ _ _ _ => triv _ _ _ (by simp) (by simp), by simp, by simp, by simp, by simp⟩
  · rename_i hu
    split at e
    case isFalse => cases e
    rename_i hc
    cases e; cases hx; cases hy
    refine ⟨deep fun d => by simp [Op.equalIn, run_underlying hu], fun op ox oy h => ?_, by simp, by simp, by simp, by simp⟩
    have := h hc
    unfold eqGuard
    rcases this with h | h
    · split at h
      case h_2 => cases h
      cases op <;> simp [Sem.run_bind]
    · split at h
      case h_2 => cases h
      cases op <;> simp [Sem.run_bind]
  · rename_i hu; cases e; cases hx; cases hy
    exact ⟨deep fun d => by simp [Op.equalIn, run_underlying hu], fun _ _ _ _ => triv _ _ _ (by simp) (by simp), by simp, by simp, by simp, by simp⟩
  · rename_i hu; cases e; cases hx; cases hy
    exact ⟨deep fun d => by simp [Op.equalIn, run_underlying hu], fun _ _ _ _ => triv _ _ _ (by simp) (by simp), by simp, by simp, by simp, by simp⟩
  · rename_i hu; cases e; cases hx; cases hy
    exact ⟨deep fun d => by simp [Op.equalIn, run_underlying hu], fun _ _ _ _ => triv _ _ _ (by simp) (by simp), by simp, by simp, by simp, by simp⟩
  · rename_i hu; cases e; cases hx; cases hy
    exact ⟨deep fun d => by simp [Op.equalIn, run_underlying hu], fun _ _ _ _ => triv _ _ _ (by simp) (by simp), by simp, by simp, by simp, by simp⟩
  · rename_i hu; cases e; cases hx; cases hy
    exact ⟨deep fun d => by simp [Op.equalIn, run_underlying hu], fun _ _ _ _ => triv _ _ _ (by simp) (by simp), by simp, by simp, by simp, by simp⟩
  · rename_i fs xs ys hu
    split at e
    case isFalse => cases e
    rename_i hc
    simp only [eqOk, Bool.and_eq_true, Bool.not_eq_true'] at hc
    cases hx with
    | agg hx =>
    rename_i xs'
    cases hy with
    | agg hy =>
    rename_i ys'
    have hf : P.fieldsOf t = fs := by simp [Program.fieldsOf, hu]
    refine ⟨?_, fun op ox oy _ => ?_, by simp, by simp, by simp, by simp⟩
    · have := run_equalIn_struct (P := P) w 9999 t xs' ys' (by rw [hf]; exact hu) hc.2
      refine deep' 9999 ?_
      rw [this, hf]
      exact gEqFs_sound hx hy 9998 w _ _ e
    · unfold eqGuard
      cases op <;> simp [Sem.run_bind, hc.1]
  · cases e

/-- A value, if there is one. -/
def optK (o : Option Value) (h : GH) (K : Value → GH → Prop) : Prop := ∃ v, o = some v ∧ K v h
theorem optK_some (v : Value) (h : GH) (K : Value → GH → Prop) : optK (some v) h K = K v h := by simp [optK]

def gBin (P : Program) (op : BinOp) (t : TypeId) (cst : Bool) (x y : Value) (h : GH) (K : Value → GH → Prop) : Prop :=
  match x, y with
  | .int k a, .int k' b => gInt op k a k' b h K
  | .string a, .string b => gStrOp op a b h K
  | x, y => match op with
    | .eql => optK ((gEq P t cst x y).map .bool) h K
    | .neq => optK ((gEq P t cst x y).map fun b => .bool !b) h K
    | _ => False

theorem binOp_eql {P : Program} {w : World} {t : TypeId} {x y : Value} {b : Bool} (h : (Op.equal t x y).run P w = .ok b w) (h1 : ∀ k n, x ≠ .int k n) (h2 : ∀ s, x ≠ .string s) (h3 : ∀ k n, x ≠ .float k n) (h4 : ∀ k n m, x ≠ .complex k n m) :
    (binOp .eql t x y).run P w = .ok (.bool b) w ∧ (binOp .neq t x y).run P w = .ok (.bool (!b)) w := by
  cases x <;> first | exact absurd rfl (h1 _ _) | exact absurd rfl (h2 _) | exact absurd rfl (h3 _ _) | exact absurd rfl (h4 _ _ _) | skip
  all_goals
    simp only [binOp]
    simp [h]

def isC : Operand → Bool | .const _ => true | _ => false

theorem gBin_sound {P : Program} {φ : Fm} {op : BinOp} {t : TypeId} {ox oy : Operand} {x y x' y' : Value} (hx : VR φ x x') (hy : VR φ y y') {h : GH} {K : Value → GH → Prop} (g : gBin P op t (isC ox || isC oy) x y h K) (w : World) :
    ∃ v, ((do eqGuard op t ox oy x' y'; binOp op t x' y') : Sem Value).run P w = .ok v w ∧ K v h ∧ (∀ φ, VR φ v v) := by
  unfold gBin at g
  have gI : ∀ (k k' : IntKind) (a b : Int), (eqGuard op t ox oy (.int k a) (.int k' b)).run P w = .ok () w := by
    intro k k' a b
    unfold eqGuard
    cases op <;> simp [Sem.run_bind]
  have gS : ∀ (a b : ByteArray), (eqGuard op t ox oy (.string a) (.string b)).run P w = .ok () w := by
    intro a b
    unfold eqGuard
    cases op <;> simp [Sem.run_bind]
  split at g
  · cases hx; cases hy
    obtain ⟨v, h1, h2, h3⟩ := gInt_sound (P := P) (t := t) g w
    exact ⟨v, by simp [Sem.run_bind, gI, h1], h2, h3⟩
  · cases hx; cases hy
    obtain ⟨v, h1, h2, h3⟩ := gStrOp_sound (P := P) (t := t) g w
    exact ⟨v, by simp [Sem.run_bind, gS, h1], h2, h3⟩
  · have key : ∀ b, gEq P t (isC ox || isC oy) x y = some b →
        (∀ op, (eqGuard op t ox oy x' y').run P w = .ok () w) ∧ (binOp .eql t x' y').run P w = .ok (.bool b) w ∧ (binOp .neq t x' y').run P w = .ok (.bool (!b)) w := by
      intro b e
      obtain ⟨h1, h2, h3, h4, h5, h6⟩ := gEq_sound (P := P) hx hy e w
      obtain ⟨h7, h8⟩ := binOp_eql h1 h3 h4 h5 h6
      exact ⟨fun op => h2 op ox oy (by cases ox <;> cases oy <;> simp [isC]), h7, h8⟩
    split at g
    · obtain ⟨v, e0, k⟩ := g
      simp only [Option.map_eq_some_iff] at e0
      obtain ⟨b, e, rfl⟩ := e0
      obtain ⟨h1, h2, h3⟩ := key b e
      exact ⟨.bool b, by simp [Sem.run_bind, h1, h2], k, fun _ => .bool _⟩
    · obtain ⟨v, e0, k⟩ := g
      simp only [Option.map_eq_some_iff] at e0
      obtain ⟨b, e, rfl⟩ := e0
      obtain ⟨h1, h2, h3⟩ := key b e
      exact ⟨.bool (!b), by simp [Sem.run_bind, h1, h3], k, fun _ => .bool _⟩
    · exact g.elim

def gUn (op : UnOp) (x : Value) : Option Value :=
  match op, x with
  | .neg, .int k n => some (.int k (k.wrap (0 - n)))
  | .xor, .int k n => some (.int k (bits .xor k (if k.signed then -1 else k.max) n))
  | .not, .bool b => some (.bool !b)
  | _, _ => none

theorem gUn_sound {P : Program} {φ : Fm} {op : UnOp} {x x' v : Value} (hx : VR φ x x') (e : gUn op x = some v) (w : World) : (Op.unary op x').run P w = .ok v w ∧ (∀ φ, VR φ v v) := by
  unfold gUn at e
  split at e
  · cases e; cases hx; exact ⟨by simp [Op.unary, Op.intArith], fun _ => .int _ _⟩
  · cases e; cases hx; exact ⟨by simp [Op.unary, Op.intBits, bits], fun _ => .int _ _⟩
  · cases e; cases hx; exact ⟨by simp [Op.unary], fun _ => .bool _⟩
  · cases e

/-- Conversions. -/
def gConv (P : Program) (src dst : TypeId) (h : GH) (x : Value) : Option Value :=
  match P.underlying dst, x with
  | some (.int k), .int _ n => some (.int k (k.wrap n))
  | some .string, .string s => some (.string s)
  | some .string, .slice a n c => match P.underlying src with
    | some (.slice e) => match P.underlying e with
      | some (.int .u8) => (gStr h (.slice a n c)).map .string
      | _ => none
    | _ => none
  | _, _ => none

theorem gConv_sound {P : Program} {N : Nat} {φ : Fm} {h : GH} {w : World} (s : Sim N φ h w) {src dst : TypeId} {x x' v : Value} (hx : VR φ x x') (hsrc : (P.underlying src).isSome = true) (e : gConv P src dst h x = some v) :
    (convert src dst x').run P w = .ok v w ∧ (∀ φ, VR φ v v) := by
  obtain ⟨d, hd⟩ := Option.isSome_iff_exists.1 hsrc
  unfold gConv at e
  split at e
  · rename_i hu; cases e; cases hx
    exact ⟨by cases d <;> simp [convert, run_underlying hu, run_underlying hd, Conv.intToInt], fun _ => .int _ _⟩
  · rename_i hu; cases e; cases hx
    exact ⟨by cases d <;> simp [convert, run_underlying hu, run_underlying hd], fun _ => .string _⟩
  · rename_i a n c hu
    split at e
    case h_2 => cases e
    rename_i el hsl
    split at e
    case h_2 => cases e
    rename_i hel
    simp only [Option.map_eq_some_iff] at e
    obtain ⟨b, e1, rfl⟩ := e
    have h1 := gStr_sound (P := P) s hx e1
    refine ⟨?_, fun _ => .string _⟩
    obtain ⟨a', n', c', rfl⟩ : ∃ a' n' c', x' = .slice a' n' c' := by cases hx <;> exact ⟨_, _, _, rfl⟩
    rw [run_convert_bytes_string w src dst el a' n' c' hsl hel hu, h1]
  · cases e

end Go.Gh
