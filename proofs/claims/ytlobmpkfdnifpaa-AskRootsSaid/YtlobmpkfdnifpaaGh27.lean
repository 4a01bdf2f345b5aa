/- A framework of this claim's proof, part 27. The steps' equations, bundled. No statement of the claim stands here. -/
import Derived.Test.YtlobmpkfdnifpaaGh26
namespace Go.Gh
open Go Go.RowKit
set_option linter.unusedVariables false
set_option linter.unusedSimpArgs false

/-- The equations of a step. -/
theorem stp :
  (∀ (P : Program) (N : Nat) (ds : List (Option Tmp)) (K : Env → GH → Prop) (e : Env) (h : GH), gops P N ds [] K e h = K e h) ∧
  (∀ (P : Program) (N : Nat) (ds : List (Option Tmp)) (r : List Oper) (K : Env → GH → Prop) (e : Env) (h : GH) (d : Option Tmp) (op : Op) (ty : TypeId) (pos : String) (after : Array Edge), gops P N ds ({ dst := d, op := op, type := ty, pos := pos, after := after, guard := none } :: r) K e h = gop P N e h (kops P N ds r K e d) op) ∧
  (∀ (P : Program) (N : Nat) (ds : List (Option Tmp)) (r : List Oper) (K : Env → GH → Prop) (e : Env) (h : GH) (d : Option Tmp) (op : Op) (ty : TypeId) (pos : String) (after : Array Edge) (j : Nat) (w : Bool), gops P N ds ({ dst := d, op := op, type := ty, pos := pos, after := after, guard := some (j, w) } :: r) K e h = wantK (gyield ds e j w) w P N ds r K e h d op) ∧
  (∀ (P : Program) (N : Nat) (ds : List (Option Tmp)) (r : List Oper) (K : Env → GH → Prop) (e : Env) (h : GH) (i : Nat) (v : Value), kops P N ds r K e (some i) v h = gops P N ds r K ((i, v) :: e) h) ∧
  (∀ (P : Program) (N : Nat) (ds : List (Option Tmp)) (r : List Oper) (K : Env → GH → Prop) (e : Env) (h : GH) (v : Value), kops P N ds r K e none v h = gops P N ds r K e h) ∧
  (∀ (v : Value) (h : GH) (K : Value → GH → Prop), optK (some v) h K = K v h) ∧
  (∀ (next : Env → GH → Prop) (Q : GQ) (e : Env) (h : GH), thenQ next Q GX.normal e h = next e h) ∧
  (∀ (next : Env → GH → Prop) (Q : GQ) (e : Env) (h : GH), thenQ next Q GX.ret e h = Q GX.ret e h) ∧
  (∀ (next : Env → GH → Prop) (Q : GQ) (i : Nat) (e : Env) (h : GH), thenQ next Q (GX.exit i) e h = Q (GX.exit i) e h) ∧
  (∀ (id : Nat) (Q : GQ) (e : Env) (h : GH), blockQ id Q GX.normal e h = Q GX.normal e h) ∧
  (∀ (id : Nat) (Q : GQ) (e : Env) (h : GH), blockQ id Q GX.ret e h = Q GX.ret e h) ∧
  (∀ (id i : Nat) (Q : GQ) (e : Env) (h : GH), blockQ id Q (GX.exit i) e h = if i = id then Q GX.normal e h else Q (GX.exit i) e h) ∧
  (∀ {P : Program} {res : Array ResultVar} {Q : Value → GH → Prop} {e : Env} {h : GH}, retQ P res Q GX.ret e h = gretK P e h res.toList Q) ∧
  (∀ {P : Program} {res : Array ResultVar} {Q : Value → GH → Prop} {e : Env} {h : GH}, retQ P res Q GX.normal e h = gretK P e h res.toList Q) ∧
  (∀ {P : Program} {Q : Value → GH → Prop} {e : Env} {h : GH}, gretK P e h [] Q = Q (Value.tuple #[]) h) ∧
  (∀ {P : Program} {Q : Value → GH → Prop} {e : Env} {h : GH} (t : Nat), gretK P e h [ResultVar.tmp t] Q = Q (lk e t) h) ∧
  (∀ {P : Program} {Q : Value → GH → Prop} {e : Env} {h : GH} (t u : Nat), gretK P e h [ResultVar.tmp t, ResultVar.tmp u] Q = Q (Value.tuple #[lk e t, lk e u]) h) ∧
  (∀ {P : Program} {Q : Value → GH → Prop} {e : Env} {h : GH} (t u v : Nat), gretK P e h [ResultVar.tmp t, ResultVar.tmp u, ResultVar.tmp v] Q = Q (Value.tuple #[lk e t, lk e u, lk e v]) h) ∧
  (∀ {P : Program} {Q : Value → GH → Prop} {e : Env} {h : GH} (a ty : Nat), gretK P e h [ResultVar.cell a ty] Q = optK (gLoad P ty h (lk e a)) h Q) ∧
  (∀ {P : Program} {Q : Value → GH → Prop} {e : Env} {h : GH} (a ty t : Nat), gretK P e h [ResultVar.cell a ty, ResultVar.tmp t] Q = optK (Option.map (fun v => Value.tuple #[v, lk e t]) (gLoad P ty h (lk e a))) h Q) ∧
  (∀ {P : Program} {Q : Value → GH → Prop} {e : Env} {h : GH} (a ty t u : Nat), gretK P e h [ResultVar.cell a ty, ResultVar.tmp t, ResultVar.tmp u] Q = optK (Option.map (fun v => Value.tuple #[v, lk e t, lk e u]) (gLoad P ty h (lk e a))) h Q) ∧
  (∀ (X Y : Prop), gifK (Value.bool true) X Y = X) ∧
  (∀ (X Y : Prop), gifK (Value.bool false) X Y = Y) ∧
  (∀ (P : Program) (N : Nat) (ds : List (Option Tmp)) (r : List Oper) (K : Env → GH → Prop) (e : Env) (h : GH) (d : Option Tmp) (op : Op), wantK (some true) true P N ds r K e h d op = gop P N e h (kops P N ds r K e d) op) ∧
  (∀ (P : Program) (N : Nat) (ds : List (Option Tmp)) (r : List Oper) (K : Env → GH → Prop) (e : Env) (h : GH) (d : Option Tmp) (op : Op), wantK (some false) false P N ds r K e h d op = gop P N e h (kops P N ds r K e d) op) ∧
  (∀ (P : Program) (N : Nat) (ds : List (Option Tmp)) (r : List Oper) (K : Env → GH → Prop) (e : Env) (h : GH) (d : Option Tmp) (op : Op), wantK (some true) false P N ds r K e h d op = kops P N ds r K e d UD h) ∧
  (∀ (P : Program) (N : Nat) (ds : List (Option Tmp)) (r : List Oper) (K : Env → GH → Prop) (e : Env) (h : GH) (d : Option Tmp) (op : Op), wantK (some false) true P N ds r K e h d op = kops P N ds r K e d UD h) ∧
  (∀ (z : List Value) (h : GH) (K : Value → GH → Prop), gAllocO (some z) h K = gNewP h z K) ∧
  (∀ (h : GH) (K : Value → GH → Prop), optH (some h) K = K U h) ∧
  (∀ {α : Type} {β : Type} (a : α) (f : α → β), Option.map f (some a) = some (f a)) ∧
  (∀ {α : Type} {β : Type} (f : α → β), Option.map f none = none) ∧
  (∀ {α : Type} {a b : α}, (some a).getD b = a) ∧
  (∀ {α : Type} (val val_1 : α), (some val = some val_1) = (val = val_1)) ∧
  (∀ {α : Type} {a : α} {i : Nat} {l : List α}, (a :: l)[i + 1]? = l[i]?) ∧
  (∀ {α : Type} {a : α} {l : List α}, (a :: l)[0]? = some a) ∧
  (∀ {α : Type} {a : α} {as : List α}, (a :: as).length = as.length + 1) ∧
  (∀ {α : Type}, (([] : List α)).length = 0) ∧
  (∀ {α : Type} {a : α} {as bs : List α}, a :: as ++ bs = a :: (as ++ bs)) ∧
  (∀ {α : Type} (as : List α), [] ++ as = as) ∧
  (∀ {α : Type} (as : List α), as ++ [] = as) ∧
  (∀ {α : Type} {xs ys : Array α}, (xs ++ ys).toList = xs.toList ++ ys.toList) ∧
  (∀ {α : Type} {l : List α} {start stop : Nat}, l.toArray.extract start stop = (l.extract start stop).toArray) ∧
  (∀ {α : Type} {l : List α} {start stop : Nat}, l.extract start stop = List.take (stop - start) (List.drop start l)) ∧
  (∀ {α : Type} {a : α} {l : List α} {i : Nat}, List.drop (i + 1) (a :: l) = List.drop i l) ∧
  (∀ {α : Type} {l : List α}, List.drop 0 l = l) ∧
  (∀ {α : Type} {a : α} {as : List α} {i : Nat}, List.take (i + 1) (a :: as) = a :: List.take i as) ∧
  (∀ {α : Type} {l : List α}, List.take 0 l = []) ∧
  (∀ {α : Type} {x : α} {xs : List α} {a : α}, (x :: xs).set 0 a = a :: xs) ∧
  (∀ {α : Type} {x : α} {xs : List α} {i : Nat} {a : α}, (x :: xs).set (i + 1) a = x :: xs.set i a) ∧
  (∀ (h : Decidable True), decide True = true) ∧
  (∀ (h : Decidable False), decide False = false) ∧
  (∀ (p : Prop), (p ∧ p) = p) ∧
  (∀ {P : Program} {t e : TypeId}, P.underlying t = some (TypeDesc.slice e) → ∀ (a : Option Addr) (n c : Nat), gLen P t (Value.slice a n c) = some ↑n) ∧
  (∀ {P : Program} {t e : TypeId}, P.underlying t = some (TypeDesc.slice e) → ∀ (cst : Bool) (a : Option Addr) (n c : Nat), gEq P t cst (Value.slice a n c) (Value.slice none 0 0) = some a.isNone) ∧
  (∀ {P : Program} {t : TypeId}, P.underlying t = some TypeDesc.bool → ∀ (c a b : Bool), gEq P t c (Value.bool a) (Value.bool b) = some (a == b)) ∧
  (∀ {P : Program} {t e : TypeId}, P.underlying t = some (TypeDesc.pointer e) → ∀ (c : Bool) (a : Addr), gEq P t c (Value.pointer (some a)) (Value.pointer none) = some false) ∧
  (∀ {P : Program} {t e : TypeId}, P.underlying t = some (TypeDesc.pointer e) → ∀ (c : Bool) (a : Option Addr), gEq P t c (Value.pointer none) (Value.pointer a) = some a.isNone) ∧
  (∀ (elem elem_1 : TypeId), (TypeDesc.slice elem = TypeDesc.slice elem_1) = (elem = elem_1)) ∧
  (∀ (elem elem_1 : TypeId), (TypeDesc.pointer elem = TypeDesc.pointer elem_1) = (elem = elem_1)) ∧
  (∀ {x : Int}, -9223372036854775808 ≤ x → x ≤ 9223372036854775807 → IntKind.i64.wrap x = x) ∧
  (∀ {x : Int}, 0 ≤ x → x ≤ 255 → IntKind.u8.wrap x = x) ∧
  (∀ {x : Int}, 0 ≤ x → x ≤ 4294967295 → IntKind.u32.wrap x = x) ∧
  (∀ {x : Int}, 0 ≤ x → x ≤ 18446744073709551615 → IntKind.u64.wrap x = x) ∧
  (∀ (p : Prop), (True ∧ p) = p) ∧
  (∀ (p : Prop), (p ∧ True) = p) ∧
  ((false = true) = False) ∧
  (∀ {α : Type} (a : α), a = a ↔ True) ∧
  ((!true) = false) ∧
  ((!false) = true) ∧
  (∀ (b : Bool), (b || false) = b) ∧
  (∀ (b : Bool), (false || b) = b) ∧
  (∀ (b : Bool), (true && b) = b) ∧
  (∀ (b : Bool), (b && true) = b) :=
  ⟨@gops_nil, @gops_none, @gops_some, @kops_ap, @kops_no, @optK_some, @thenQ_n, @thenQ_r, @thenQ_x, @blockQ_n, @blockQ_r, @blockQ_x, @retQ_r, @retQ_n, @gret_0, @gret_1, @gret_2, @gret_3, @gret_c, @gret_c1, @gret_c2, @gif_t, @gif_f, @want_tt, @want_ff, @want_tf, @want_ft, @gAllocO_some, @optH_some, @Option.map_some, @Option.map_none, @Option.getD_some, @Option.some.injEq, @List.getElem?_cons_succ, @List.getElem?_cons_zero, @List.length_cons, @List.length_nil, @List.cons_append, @List.nil_append, @List.append_nil, @Array.toList_append, @List.extract_toArray, @List.extract_eq_take_drop, @List.drop_succ_cons, @List.drop_zero, @List.take_succ_cons, @List.take_zero, @List.set_cons_zero, @List.set_cons_succ, @decide_true, @decide_false, @and_self, @gLen_s, @gEq_nil, @gEq_bool, @gEq_pp, @gEq_pn, @TypeDesc.slice.injEq, @TypeDesc.pointer.injEq, @Gh.wrap64, @wrapu8, @wrapu32, @wrapu64, @true_and, @and_true, @Bool.false_eq_true, @eq_self_iff_true, @Bool.not_true, @Bool.not_false, @Bool.or_false, @Bool.false_or, @Bool.true_and, @Bool.and_true⟩
/-- Those of a region that draws its order. -/
theorem stq :
  (∀ (P : Program) (N : Nat) (ds : List (Option Tmp)) (wt : List (Nat × RV)) (K : Env → GH → Prop) (e : Env) (h : GH), gdr P N ds [] wt K e h = K e h) ∧
  (∀ (P : Program) (N : Nat) (ds : List (Option Tmp)) (r : List (Nat × Oper × List Nat)) (wt : List (Nat × RV)) (i : Nat) (un : List Nat) (K : Env → GH → Prop) (e : Env) (h : GH) (d : Option Tmp) (op : Op) (ty : TypeId) (pos : String) (after : Array Edge), gdr P N ds ((i, { dst := d, op := op, type := ty, pos := pos, after := after, guard := none }, un) :: r) wt K e h = gdrO (isEff op) P N ds r wt i op un K e d h) ∧
  (∀ (P : Program) (N : Nat) (ds : List (Option Tmp)) (r : List (Nat × Oper × List Nat)) (wt : List (Nat × RV)) (i : Nat) (un : List Nat) (K : Env → GH → Prop) (e : Env) (h : GH) (d : Option Tmp) (op : Op) (ty : TypeId) (pos : String) (after : Array Edge) (j : Nat) (w : Bool), gdr P N ds ((i, { dst := d, op := op, type := ty, pos := pos, after := after, guard := some (j, w) }, un) :: r) wt K e h = gdrW (gyield ds e j w) w P N ds r wt i op un K e d h) ∧
  (∀ (P : Program) (N : Nat) (ds : List (Option Tmp)) (r : List (Nat × Oper × List Nat)) (wt : List (Nat × RV)) (i : Nat) (un : List Nat) (K : Env → GH → Prop) (e : Env) (h : GH) (d : Option Tmp) (op : Op), gdrO true P N ds r wt i op un K e d h = gop P N e h (kdrE P N ds r wt un K e d) op) ∧
  (∀ (P : Program) (N : Nat) (ds : List (Option Tmp)) (r : List (Nat × Oper × List Nat)) (wt : List (Nat × RV)) (i : Nat) (un : List Nat) (K : Env → GH → Prop) (e : Env) (h : GH) (d : Option Tmp) (op : Op), gdrO false P N ds r wt i op un K e d h = gop P N e h (kdrF P N ds r wt i op K e d) op) ∧
  (∀ (P : Program) (N : Nat) (ds : List (Option Tmp)) (r : List (Nat × Oper × List Nat)) (wt : List (Nat × RV)) (i : Nat) (un : List Nat) (K : Env → GH → Prop) (e : Env) (h : GH) (d : Option Tmp) (op : Op), gdrW (some true) true P N ds r wt i op un K e d h = gdrO (isEff op) P N ds r wt i op un K e d h) ∧
  (∀ (P : Program) (N : Nat) (ds : List (Option Tmp)) (r : List (Nat × Oper × List Nat)) (wt : List (Nat × RV)) (i : Nat) (un : List Nat) (K : Env → GH → Prop) (e : Env) (h : GH) (d : Option Tmp) (op : Op), gdrW (some false) false P N ds r wt i op un K e d h = gdrO (isEff op) P N ds r wt i op un K e d h) ∧
  (∀ (P : Program) (N : Nat) (ds : List (Option Tmp)) (r : List (Nat × Oper × List Nat)) (wt : List (Nat × RV)) (i : Nat) (un : List Nat) (K : Env → GH → Prop) (e : Env) (h : GH) (d : Option Tmp) (op : Op), gdrW (some true) false P N ds r wt i op un K e d h = gdr P N ds r wt K (eput e d UD) h) ∧
  (∀ (P : Program) (N : Nat) (ds : List (Option Tmp)) (r : List (Nat × Oper × List Nat)) (wt : List (Nat × RV)) (i : Nat) (un : List Nat) (K : Env → GH → Prop) (e : Env) (h : GH) (d : Option Tmp) (op : Op), gdrW (some false) true P N ds r wt i op un K e d h = gdr P N ds r wt K (eput e d UD) h) ∧
  (∀ (e : Env) (j : Nat) (v : Value), eput e (some j) v = (j, v) :: e) ∧
  (∀ (e : Env) (v : Value), eput e none v = e) ∧
  (∀ (P : Program) (N : Nat) (ds : List (Option Tmp)) (r : List (Nat × Oper × List Nat)) (wt : List (Nat × RV)) (i : Nat) (K : Env → GH → Prop) (e : Env) (h : GH) (d : Option Tmp) (op : Op) (v : Value), kdrF P N ds r wt i op K e d v h = gdr P N ds r (wput wt i (rvOf e v op)) K (eput e d v) h) ∧
  (∀ (P : Program) (N : Nat) (ds : List (Option Tmp)) (r : List (Nat × Oper × List Nat)) (wt : List (Nat × RV)) (un : List Nat) (K : Env → GH → Prop) (e : Env) (h : GH) (d : Option Tmp) (v : Value), kdrE P N ds r wt un K e d v h = (chk P h wt un ∧ gdr P N ds r wt K (eput e d v) h)) ∧
  (∀ (wt : List (Nat × RV)) (i : Nat), wput wt i none = wt) ∧
  (∀ (wt : List (Nat × RV)) (i : Nat) (rv : RV), wput wt i (some rv) = (i, rv) :: wt) ∧
  (∀ (P : Program) (wt : List (Nat × RV)) (h : GH), chk P h wt [] = True) ∧
  (∀ (P : Program) (wt : List (Nat × RV)) (h : GH) (j : Nat) (l : List Nat), chk P h wt (j :: l) = (chk1 P h (wlk wt j) ∧ chk P h wt l)) ∧
  (∀ (P : Program) (h : GH), chk1 P h none = True) ∧
  (∀ (P : Program) (h : GH) (rv : RV), chk1 P h (some rv) = rdv P h rv) :=
  ⟨@gdr_nil, @gdr_none, @gdr_some, @gdrO_t, @gdrO_f, @gdrW_tt, @gdrW_ff, @gdrW_tf, @gdrW_ft, @eput_s, @eput_n, @kdrF_ap, @kdrE_ap, @wput_n, @wput_s, @chk_n, @chk_c, @chk1_n, @chk1_s⟩
/-- What a branch says. -/
theorem hpr :
  (∀ {p : Prop} [inst : Decidable p], (decide p = true) = p) ∧
  (∀ {p : Prop} {x : Decidable p}, decide p = false ↔ ¬p) ∧
  (∀ (b : Bool), ((!b) = true) = (b = false)) ∧
  (∀ (b : Bool), ((!b) = false) = (b = true)) ∧
  (∀ {α : Type} [inst : BEq α] [LawfulBEq α] {a b : α}, (a == b) = true ↔ a = b) ∧
  (∀ {α : Type} [inst : BEq α] [LawfulBEq α] {a b : α}, (a != b) = true ↔ ¬ a = b) ∧
  (∀ {α : Type} [inst : BEq α] [LawfulBEq α] {a b : α}, (a == b) = false ↔ ¬ a = b) ∧
  (∀ {α : Type} [inst : BEq α] [LawfulBEq α] {a b : α}, (a != b) = false ↔ a = b) ∧
  (∀ {x y : Int}, x ≥ y ↔ y ≤ x) ∧
  (∀ {x y : Int}, x > y ↔ y < x) :=
  ⟨decide_eq_true_eq, decide_eq_false_iff_not, Bool.not_eq_true', Bool.not_eq_false', beq_iff_eq, bne_iff_ne, beq_eq_false_iff_ne, bne_eq_false_iff_eq, ge_iff_le, gt_iff_lt⟩
end Go.Gh
