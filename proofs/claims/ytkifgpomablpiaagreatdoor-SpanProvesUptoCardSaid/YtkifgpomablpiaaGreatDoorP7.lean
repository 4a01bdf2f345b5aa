/- Parts of this claim's proof, 7. No statement of the claim stands here. -/
import Derived.Test.YtkifgpomablpiaaGreatDoorP6
import Derived.Lib.BytesEntry
import Derived.Lib.Bytealg
import Derived.Laws.Externs
namespace Go.Gh
open Go Go.RowKit
set_option linter.unusedVariables false
set_option linter.unusedSimpArgs false
theorem bv_vrs {φ : Fm} : ∀ {l : List UInt8} {cs : List Value}, VRs φ (l.map bv) cs → cs = l.map bv
  | [], _, .nil => rfl
  | b :: l, _, .cons h hs => by
    cases h
    rw [bv_vrs hs]; rfl
theorem RB.bytesOf {P : Program} {N : Nat} {φ : Fm} {h : GH} {w : World} (s : Sim N φ h w) {v v' : Value} {l : List UInt8} (r : RB h v l) (hv : VR φ v v') : (Extern.Bytes.bytesOf v').run P w = .ok (qI6 l) w := by
  rcases r with ⟨c, rfl, rfl⟩ | ⟨ad, c, rfl, h2, h3⟩
  · cases hv; rfl
  · cases hv with
    | slice ha hc hn =>
    rename_i a' c'
    have hx : ∀ j x, (l.map fun b : UInt8 => (b.toNat : Int))[j]? = some x → w.cell? (a'.add j) = some (.int .u8 x) := by
      intro j x hj
      rcases ha with ha | h0
      · obtain ⟨cs', q1, q2, q3⟩ := jB s ha h2
        have e := bv_vrs q1
        subst e
        simp only [List.getElem?_map, Option.map_eq_some_iff] at hj
        obtain ⟨b, hb, rfl⟩ := hj
        exact q3 j (bv b) (by simp [hb])
      · have : l.length = 0 := by omega
        have : l = [] := List.eq_nil_of_length_eq_zero this
        subst this; simp at hj
    have hr := Lib.run_loadBytesX (P := P) (w := w) (l.map fun b : UInt8 => (b.toNat : Int)) a' .empty hx
    simp only [List.length_map] at hr
    simp only [Extern.Bytes.bytesOf, hr]
    congr 1
    simp [qI6, Lib.bytesOf, List.map_map, Function.comp_def]
theorem qB0 : ∀ l m : List UInt8, Lib.compareBytes l m = if Op.bytesLess l m = true then -1 else if Op.bytesLess m l = true then 1 else 0
  | [], [] => by simp [Lib.compareBytes, Op.bytesLess]
  | [], _ :: _ => by simp [Lib.compareBytes, Op.bytesLess]
  | _ :: _, [] => by simp [Lib.compareBytes, Op.bytesLess]
  | a :: l, b :: m => by
    simp only [Lib.compareBytes, Op.bytesLess, qB0 l m]
    by_cases h1 : a < b
    · simp [h1]
    · by_cases h2 : b < a
      · have : a ≠ b := fun e => by subst e; exact h1 h2
        simp [h1, h2, this]
      · have : a = b := UInt8.le_antisymm (UInt8.not_lt.1 h2) (UInt8.not_lt.1 h1)
        subst this
        simp
theorem qR6 : ∀ l m : List UInt8, (!(Op.bytesLess l m || l == m)) = Op.bytesLess m l
  | [], [] => by simp [Op.bytesLess]
  | [], _ :: _ => by simp [Op.bytesLess]
  | _ :: _, [] => by simp [Op.bytesLess]
  | a :: l, b :: m => by
    have ih := qR6 l m
    simp only [Op.bytesLess, List.cons_beq_cons, ← ih]
    by_cases h1 : a < b
    · have h2 : ¬ b < a := fun h => absurd (UInt8.lt_trans h1 h) (UInt8.lt_irrefl _)
      have h3 : (b == a) = false := by simp; rintro rfl; exact absurd h1 (UInt8.lt_irrefl _)
      simp [h1, h2, h3]
    · by_cases h2 : b < a
      · have h3 : (a == b) = false := by simp; rintro rfl; exact h1 h2
        simp [h1, h2, h3]
      · have : a = b := UInt8.le_antisymm (UInt8.not_lt.1 h2) (UInt8.not_lt.1 h1)
        subst this
        simp [UInt8.lt_irrefl]
theorem mark_g {P : Program} {t e : TypeId} {h : GH} {k n c : Nat} {B : GB} {K : Value → GH → Prop} (ht : P.underlying t = some (.slice e)) (he : P.underlying e = some (.int .u8)) (hk : h k = some B) (hw : B.wr = true) (hn : n ≠ 0)
    (g : ∀ h', h' k = some ⟨B.cells, B.es, false, false⟩ → (∀ j, j ≠ k → h' j = h j) → K (.slice (some ⟨k, 0, none⟩) n c) h') : zO1 P t t h (.slice (some ⟨k, 0, none⟩) n c) K :=
  ⟨rfl, e, _, n, c, B, rfl, hn, ht, he, hk, hw, g _ (zP _ _ _) (fun j hj => zT _ _ hj)⟩
theorem tab_at {T : List UInt8} {f : Nat → Nat} {x : UInt8} (h : ((List.range 256).all fun n => T[n]? == some (UInt8.ofNat (f n))) = true) : T[x.toNat]? = some (UInt8.ofNat (f x.toNat)) := by
  rw [List.all_eq_true] at h
  simpa using h x.toNat (by simpa using x.toNat_lt)
theorem qU2 (l : List UInt8) : (qI6 l).toList = l := by simp [qI6, ByteArray.toList_eq]
theorem gtri_cmp {P : Program} {N : Nat} {f : FuncId} {fn : Func} (hf : P.funcs[f]? = some fn) (hname : (fn.name == "runtime.NumGoroutine") = false) (hb : fn.body.isNone = true) (hn : Extern.findNext fn = none) (he : Extern.find fn = some Extern.BytealgCompare.compare)
    {h : GH} {v u : Value} {l m : List UInt8} (r1 : RB h v l) (r2 : RB h u m) : GTri P N f [v, u] h fun x h' => x = .int .i64 (Lib.compareBytes l m) ∧ h' = h := by
  intro hG φ w args' s ha
  refine .inr ?_
  obtain ⟨args'⟩ := args'
  cases ha with
  | cons h1 ha =>
  cases ha with
  | cons h2 ha =>
  cases ha
  rename_i v' u'
  refine ⟨_, _, φ, h, w, ?_, Ext.refl _, s, .int .i64 (Lib.compareBytes l m), Below.refl _ _, rfl, rfl⟩
  rw [run_callFunc_extern hf hname hb hn he]
  have e : Extern.BytealgCompare.compare #[v', u'] = (do pure (goInt (Extern.BytealgCompare.cmp (← Extern.Bytes.bytesOf v') (← Extern.Bytes.bytesOf u')))) := rfl
  show ((Extern.BytealgCompare.compare #[v', u']).run P w).andThen _ = _
  rw [e]
  simp [r1.bytesOf s h1, r2.bytesOf s h2, Lib.cmp_eq, qI6, goInt]
theorem RB.len_eq {h : GH} {a : Option Addr} {n c : Nat} {l : List UInt8} (r : RB h (.slice a n c) l) : n = l.length := by
  obtain ⟨a', c', h1, _⟩ := r.form
  cases h1; rfl
theorem xR {P : Program} {N nt : Nat} {Q : GQ} {e : Env} {h : GH} {α : Type} {c : Code} (fix : List Nat) (V : α → Env) (I : Nat → α → GH → Prop) (n0 : Nat) (a0 : α)
    (hV : ∀ p ∈ V a0, lk e p.1 = p.2) (h0 : I n0 a0 h)
    (round : ∀ n a h', I n a h' → GW P N nt c (rN (fun e' h'' => ∃ m a', m < n ∧ (∀ p ∈ V a' ++ fix.map (fun t => (t, lk e t)), lk e' p.1 = p.2) ∧ I m a' h'') Q) (V a ++ fix.map fun t => (t, lk e t)) h') :
    GW P N nt (.loop c) Q e h := by
  refine qW6 (fun n e' h' => ∃ a, e' = V a ++ fix.map (fun t => (t, lk e t)) ∧ I n a h') n0 (e0 := V a0 ++ fix.map (fun t => (t, lk e t))) (pD fun p hp => ?_) ⟨a0, rfl, h0⟩ ?_
  · rcases List.mem_append.1 hp with hp | hp
    · exact hV p hp
    · obtain ⟨t, _, rfl⟩ := List.mem_map.1 hp
      rfl
  · rintro n e' h' ⟨a, rfl, hI⟩
    refine (round n a h' hI).mono fun x e2 h2 hq => ?_
    cases x with
    | normal =>
      obtain ⟨m, a', h1, h2, h3⟩ := hq
      exact ⟨m, _, h1, pD h2, a', rfl, h3⟩
    | exit i => exact hq
    | ret => exact hq
def NV (h : GH) (k n : Nat) : Prop := n = 0 ∨ ∃ B, h k = some B ∧ (B.es ≠ 0 ∨ B.wr = false)
theorem NV.hc {h h' : GH} (x : HC h h') {k n : Nat} (v : NV h k n) : NV h' k n := by
  rcases v with v | ⟨B, h1, h2⟩
  · exact .inl v
  · obtain ⟨B', h3, _, h4, h5⟩ := x k B h1
    refine .inr ⟨B', h3, ?_⟩
    rcases h2 with h2 | h2
    · exact .inl (by rw [h4]; exact h2)
    · right
      cases hw : B'.wr
      · rfl
      · rw [h5 hw] at h2; cases h2
def RL {α : Type} (es : Nat) (R : GH → List Value → α → Prop) (h : GH) (v : Value) (l : List α) : Prop :=
  (∃ c, v = .slice none 0 c ∧ l = []) ∨ ∃ ad c cs, v = .slice (some ad) l.length c ∧ wA h ad (l.length * es) = some cs ∧ 2 * l.length ≤ c ∧ (∀ i x, l[i]? = some x → R h ((cs.drop (i * es)).take es) x) ∧ NV h ad.block (l.length * es)
theorem RL.hcR {α : Type} {es : Nat} {R : GH → List Value → α → Prop} {h h' : GH} {v : Value} {l : List α} (r : RL es R h v l) (x : HC h h') (hR : ∀ cs x, R h cs x → R h' cs x) : RL es R h' v l := by
  rcases r with r | ⟨ad, c, cs, h1, h2, h3, h4, h5⟩
  · exact .inl r
  · exact .inr ⟨ad, c, cs, h1, lY x h2, h3, fun i x hx => hR _ _ (h4 i x hx), h5.hc x⟩
theorem RL.form {α : Type} {es : Nat} {R : GH → List Value → α → Prop} {h : GH} {v : Value} {l : List α} (r : RL es R h v l) : ∃ a c, v = .slice a l.length c ∧ (a = none → l = []) := by
  rcases r with ⟨c, rfl, rfl⟩ | ⟨ad, c, cs, rfl, h2, h3, _, _⟩
  · exact ⟨none, c, rfl, fun _ => rfl⟩
  · exact ⟨some ad, c, rfl, fun h => by cases h⟩
theorem RL.nil {α : Type} {es : Nat} {R : GH → List Value → α → Prop} (h : GH) : RL es R h (.slice none 0 0) [] := .inl ⟨0, rfl, rfl⟩
theorem RL.at {α : Type} {P : Program} {es : Nat} {R : GH → List Value → α → Prop} {h : GH} {v : Value} {l : List α} (r : RL es R h v l) {t e : TypeId} {b : Bool} (ht : P.underlying t = some (.slice e)) (he : vG P e = some (b, es)) {i : Nat} {x : α} (hx : l[i]? = some x) :
    ∃ ad cs, zJ P t v i = some (.pointer (some ad)) ∧ wA h ad es = some cs ∧ R h cs x := by
  have hlt := (List.getElem?_eq_some_iff.1 hx).1
  rcases r with ⟨c, rfl, rfl⟩ | ⟨ad, c, cs, rfl, h2, h3, h4, _⟩
  · simp at hlt
  · refine ⟨⟨ad.block, ad.off + i * es, none⟩, (cs.drop (i * es)).take es, ?_, ?_, h4 i x hx⟩
    · simp only [zJ, ht, he]
      rw [if_pos (by omega)]
      simp
    · have hle : i * es + es ≤ l.length * es := by
        have := Nat.mul_le_mul_right es (show i + 1 ≤ l.length by omega)
        rw [Nat.add_mul, Nat.one_mul] at this; exact this
      by_cases h0 : es = 0
      · subst h0; simp [wA]
      have hs := tR h2 (i * es) es hle
      have hsp : ad.spot = none := by
        unfold wA at h2
        rw [if_neg (by omega)] at h2
        split at h2
        · assumption
        · cases h2
      rw [hsp] at hs
      exact hs
def HX (k : Nat) (h h' : GH) : Prop := ∀ j B, j ≠ k → h j = some B → h' j = some B
theorem HX.refl (k : Nat) (h : GH) : HX k h h := fun _ _ _ e => e
theorem HX.trans {k : Nat} {a b c : GH} (x : HX k a b) (y : HX k b c) : HX k a c := fun j B n e => y j B n (x j B n e)
theorem HS.hx {a b : GH} (s : HS a b) (k : Nat) : HX k a b := fun j B _ e => s j B e
theorem HX.hs {k : Nat} {a b c : GH} (x : HX k a b) (s : HS b c) : HX k a c := x.trans (s.hx k)
theorem HX.new {k : Nat} {h a b : GH} (x : HX k a b) (s : HS h a) (n : h k = none) : HS h b := fun j B e => x j B (fun e' => by rw [e', n] at e; cases e) (s j B e)
def vO : Value → Bool | .int .u8 _ => false | _ => true
theorem zB5 {k : Nat} {h h' : GH} (x : HX k h h') {ad : Addr} {n : Nat} {cs : List Value} (hne : n = 0 ∨ ad.block ≠ k) (e : wA h ad n = some cs) : wA h' ad n = some cs := by
  unfold wA at e ⊢
  split at e
  · rename_i h0; rw [if_pos h0]; exact e
  · rename_i h0
    rw [if_neg h0]
    split at e
    case h_2 => cases e
    rename_i B hs hB
    have := x _ _ (hne.resolve_left h0) hB
    rw [hs, this]
    exact e
theorem qD2 {h : GH} {ad : Addr} {n : Nat} {cs : List Value} {B : GB} (e : wA h ad n = some cs) (hn : n ≠ 0) (hB : h ad.block = some B) : ∀ v ∈ cs, v ∈ B.cells := by
  unfold wA at e
  rw [if_neg hn, hB] at e
  split at e
  case h_2 => cases e
  rename_i B' hs hB'
  cases hB'
  split at e
  case isFalse => cases e
  cases e
  intro v hv
  exact List.mem_of_mem_drop (List.mem_of_mem_take hv)
theorem RB.hx {k : Nat} {h h' : GH} {v : Value} {l : List UInt8} (r : RB h v l) {B : GB} (m : h k = some B) (hB : B.cells.all vO = true) (x : HX k h h') : RB h' v l := by
  rcases r with r | ⟨ad, c, h1, h2, h3⟩
  · exact .inl r
  · refine .inr ⟨ad, c, h1, zB5 x ?_ h2, h3⟩
    by_cases h0 : l.length = 0
    · exact .inl h0
    · right
      intro e
      rw [← e] at m
      have hb : bv (l[0]'(by omega)) ∈ B.cells := qD2 h2 h0 m _ (List.mem_map.2 ⟨_, List.getElem_mem _, rfl⟩)
      rw [List.all_eq_true] at hB
      have := hB _ hb
      simp [vO, bv] at this
theorem RL.hxR {α : Type} {es : Nat} {R : GH → List Value → α → Prop} {k : Nat} {h h' : GH} {v : Value} {l : List α} (r : RL es R h v l) {B : GB} (m : h k = some B) (hB : B.es = 0 ∧ B.wr = true) (x : HX k h h') (hR : ∀ cs x, R h cs x → R h' cs x) : RL es R h' v l := by
  rcases r with r | ⟨ad, c, cs, h1, h2, h3, h4, h5⟩
  · exact .inl r
  · have hne : l.length * es = 0 ∨ ad.block ≠ k := by
      rcases h5 with h5 | ⟨B', h6, h7⟩
      · exact .inl h5
      · right
        rintro rfl
        rw [m] at h6; cases h6
        rcases h7 with h7 | h7
        · exact h7 hB.1
        · rw [hB.2] at h7; cases h7
    refine .inr ⟨ad, c, cs, h1, zB5 x hne h2, h3, fun i x hx => hR _ _ (h4 i x hx), ?_⟩
    rcases h5 with h5 | ⟨B', h6, h7⟩
    · exact .inl h5
    · rcases hne with hne | hne
      · exact .inl hne
      · exact .inr ⟨B', x _ _ hne h6, h7⟩
end Go.Gh
namespace Go.Gh
open Go Go.RowKit Go.ChangeShapes Go.WideShapes Go.ChangeAt
set_option linter.unusedVariables false
set_option linter.unusedSimpArgs false
inductive Ty
  | i (k : IntKind)
  | b
  | bs
  | sl (t : Ty)
  | fnil
  | fcons (t : Ty) (r : Ty)
  | no (n : Nat)
def Ty.den : Ty → Type
  | .i _ => Int
  | .b => Bool
  | .bs => List UInt8
  | .sl t => List t.den
  | .fnil => Unit
  | .fcons t r => t.den × r.den
  | .no _ => Empty
def Ty.size : Ty → Nat
  | .fnil => 0
  | .fcons t r => t.size + r.size
  | .no n => n
  | _ => 1
def Odd (v : Value) : Prop := (∃ c, v = .slice none 0 c) ∨ ∃ ad n c, v = .slice (some ad) n c ∧ c % 2 = 1
def Ty.R : (t : Ty) → GH → List Value → t.den → Prop
  | .i k, _, cs, (n : Int) => cs = [.int k n] ∧ (Lit.int k n).wf = true
  | .b, _, cs, (x : Bool) => cs = [.bool x]
  | .bs, h, cs, (l : List UInt8) => ∃ v, cs = [v] ∧ RB h v l ∧ Odd v
  | .sl t, h, cs, (l : List t.den) => ∃ v, cs = [v] ∧ RL t.size t.R h v l ∧ Odd v
  | .fnil, _, cs, _ => cs = []
  | .fcons t r, h, cs, (x, y) => ∃ c1 c2, cs = c1 ++ c2 ∧ c1.length = t.size ∧ t.R h c1 x ∧ r.R h c2 y
  | .no _, _, _, _ => False
def Ty.bulk : (t : Ty) → t.den → Nat
  | .i _, _ => 1
  | .b, _ => 1
  | .bs, (l : List UInt8) => l.length + 1
  | .sl t, (l : List t.den) => (l.map t.bulk).sum + 1
  | .fnil, _ => 0
  | .fcons t r, (x, y) => t.bulk x + r.bulk y
  | .no _, _ => 0
def Ty.low : Ty → Bool
  | .sl t => t.low
  | .fcons t r => t.low && r.low
  | .no _ => false
  | _ => true
def Ty.safe : Ty → Nat → Prop
  | .sl t, f => t.safe (f - 1)
  | .fcons t r, f => t.safe (f - 1) ∧ r.safe f
  | .no _, f => f = 0
  | _, _ => True
theorem Ty.low.safe : ∀ {t : Ty}, t.low = true → ∀ f, t.safe f
  | .i _, _, _ => trivial
  | .b, _, _ => trivial
  | .bs, _, _ => trivial
  | .fnil, _, _ => trivial
  | .sl t, h, f => Ty.low.safe (t := t) h (f - 1)
  | .fcons t r, h, f => by
    simp only [Ty.low, Bool.and_eq_true] at h
    exact ⟨Ty.low.safe h.1 _, Ty.low.safe h.2 _⟩
  | .no _, h, _ => by cases h
def Ty.chk (P : Program) : Ty → TypeId ⊕ (List Field × Nat) → Bool
  | .i k, .inl t => (match P.underlying t with | some (.int k') => decide (k' = k) | _ => false) && P.cellsOf t == 1
  | .b, .inl t => (match P.underlying t with | some .bool => true | _ => false) && P.cellsOf t == 1
  | .bs, .inl t => (match P.underlying t with | some (.slice e) => (match P.underlying e with | some (.int .u8) => true | _ => false) && P.cellsOf e == 1 && decide (0 < P.bytesOf e) | _ => false) && P.cellsOf t == 1
  | .sl a, .inl t => (match P.underlying t with | some (.slice e) => a.chk P (.inl e) && P.cellsOf e == a.size && decide (0 < a.size) && decide (0 < P.bytesOf e) | _ => false) && P.cellsOf t == 1
  | .fnil, .inl t => (match P.underlying t with | some (.struct fs) => fs.toList.isEmpty && P.cellsOf t == 0 | _ => false)
  | .fcons a r, .inl t => (match P.underlying t with
    | some (.struct fs) => (match fs.toList with | f :: fs => f.offset == 0 && P.cellsOf f.type == a.size && a.chk P (.inl f.type) && r.chk P (.inr (fs, 0 + a.size)) | [] => false) && P.cellsOf t == a.size + r.size
    | _ => false)
  | .fnil, .inr x => x.1.isEmpty
  | .fcons a r, .inr x => (match x.1 with | f :: fs => f.offset == x.2 && P.cellsOf f.type == a.size && a.chk P (.inl f.type) && r.chk P (.inr (fs, x.2 + a.size)) | [] => false)
  | .no n, .inl t => P.cellsOf t == n
  | _, .inr _ => false
def Ty.ok (P : Program) (T : Ty) (t : TypeId) : Bool := T.chk P (.inl t)
def Ty.okF (P : Program) (T : Ty) (fs : List Field) (o : Nat) : Bool := T.chk P (.inr (fs, o))
section
variable (P : Program) (t : TypeId)
theorem Ty.ok_i (k : IntKind) : Ty.ok P (.i k) t = ((match P.underlying t with | some (.int k') => decide (k' = k) | _ => false) && P.cellsOf t == 1) := rfl
theorem Ty.ok_b : Ty.ok P .b t = ((match P.underlying t with | some .bool => true | _ => false) && P.cellsOf t == 1) := rfl
theorem Ty.ok_bs : Ty.ok P .bs t = ((match P.underlying t with | some (.slice e) => (match P.underlying e with | some (.int .u8) => true | _ => false) && P.cellsOf e == 1 && decide (0 < P.bytesOf e) | _ => false) && P.cellsOf t == 1) := rfl
theorem Ty.ok_sl (a : Ty) : Ty.ok P (.sl a) t = ((match P.underlying t with | some (.slice e) => a.ok P e && P.cellsOf e == a.size && decide (0 < a.size) && decide (0 < P.bytesOf e) | _ => false) && P.cellsOf t == 1) := rfl
theorem Ty.ok_fnil : Ty.ok P .fnil t = (match P.underlying t with | some (.struct fs) => Ty.okF P .fnil fs.toList 0 && P.cellsOf t == 0 | _ => false) := rfl
theorem Ty.ok_fcons (a r : Ty) : Ty.ok P (.fcons a r) t = (match P.underlying t with | some (.struct fs) => Ty.okF P (.fcons a r) fs.toList 0 && P.cellsOf t == a.size + r.size | _ => false) := rfl
theorem Ty.okF_nil (a r : Ty) (o : Nat) : Ty.okF P (.fcons a r) [] o = false := rfl
theorem Ty.okF_cons (a r : Ty) (f : Field) (fs : List Field) (o : Nat) : Ty.okF P (.fcons a r) (f :: fs) o = (f.offset == o && P.cellsOf f.type == a.size && Ty.ok P a f.type && Ty.okF P r fs (o + a.size)) := rfl
theorem Ty.okF_no (n : Nat) (fs : List Field) (o : Nat) : Ty.okF P (.no n) fs o = false := rfl
theorem Ty.okF_i (k : IntKind) (fs : List Field) (o : Nat) : Ty.okF P (.i k) fs o = false := rfl
theorem Ty.okF_b (fs : List Field) (o : Nat) : Ty.okF P .b fs o = false := rfl
theorem Ty.okF_bs (fs : List Field) (o : Nat) : Ty.okF P .bs fs o = false := rfl
theorem Ty.okF_sl (a : Ty) (fs : List Field) (o : Nat) : Ty.okF P (.sl a) fs o = false := rfl
end
theorem RB.odd_up {W : World} {a : Addr} {n c : Nat} (hl : n ≤ c) (hc : c = 0 ∨ ∃ v, W.cell? a = some v) : qQ3 W.heap.size (.slice (some a) n c) = .slice (some a) n (2 * c + 1) := by
  simp only [qQ3]
  rw [if_pos]
  refine ⟨hl, ?_⟩
  rcases hc with h | ⟨v, h⟩
  · exact .inr h
  · obtain ⟨h1, h2, _⟩ := qN5 h
    exact .inl ⟨h1, h2⟩
theorem qF6 (a : Addr) : a.add 0 = a := by simp [Addr.add]
theorem add_add (a : Addr) (i j : Nat) : (a.add i).add j = a.add (i + j) := by
  obtain ⟨b, o, s⟩ := a
  unfold Addr.add
  by_cases hi : i = 0 <;> by_cases hj : j = 0 <;> simp [hi, hj, Nat.add_assoc]
theorem qN0 {α : Type} {n : Nat} : ∀ (l : List (List α)), (∀ x ∈ l, x.length = n) → ∀ i x, l[i]? = some x → (l.flatten.drop (i * n)).take n = x
  | [], _, i, x, h => by simp at h
  | y :: l, hl, 0, x, h => by
    simp at h; subst h
    have := hl y (by simp)
    simp [List.take_append_of_le_length, ← this]
  | y :: l, hl, i + 1, x, h => by
    have hy := hl y (by simp)
    simp at h
    have ih := qN0 l (fun x hx => hl x (by simp [hx])) i x h
    rw [List.flatten_cons, Nat.add_mul, Nat.one_mul, Nat.add_comm, ← List.drop_drop, ← hy, List.drop_left]
    rw [hy]; exact ih
theorem qM9 {α : Type} {n : Nat} : ∀ (l : List (List α)), (∀ x ∈ l, x.length = n) → l.flatten.length = l.length * n
  | [], _ => by simp
  | y :: l, hl => by
    rw [List.flatten_cons, List.length_append, hl y (by simp), qM9 l fun x hx => hl x (by simp [hx]), List.length_cons, Nat.add_mul]
    omega
theorem flat_at {α : Type} {n : Nat} (l : List (List α)) (hl : ∀ x ∈ l, x.length = n) (q : Nat) (v : α) (h : l.flatten[q]? = some v) : ∃ x, l[q / n]? = some x ∧ x[q % n]? = some v := by
  have hq := (List.getElem?_eq_some_iff.1 h).1
  rw [qM9 l hl] at hq
  have hn : 0 < n := by
    rcases Nat.eq_zero_or_pos n with h | h
    · subst h; simp at hq
    · exact h
  have hlt : q / n < l.length := by
    rw [Nat.div_lt_iff_lt_mul hn]; exact hq
  refine ⟨l[q / n], List.getElem?_eq_getElem hlt, ?_⟩
  have := qN0 l hl (q / n) _ (List.getElem?_eq_getElem hlt)
  rw [← this, List.getElem?_take, if_pos (Nat.mod_lt _ hn), List.getElem?_drop]
  have e : q / n * n + q % n = q := by rw [Nat.mul_comm]; exact Nat.div_add_mod q n
  rw [e]; exact h
def Ty.fits : (t : Ty) → t.den → Prop
  | .i _, _ => True
  | .b, _ => True
  | .bs, (l : List UInt8) => l.length ≤ 140737488351232
  | .sl t, (l : List t.den) => l.length ≤ 140737488351232 ∧ ∀ x ∈ l, t.fits x
  | .fnil, _ => True
  | .fcons t r, (x, y) => t.fits x ∧ r.fits y
  | .no _, _ => True
structure BulkOk {H : Type} (B : DataW H → Nat) (A : List (DataW H) → Nat) : Prop where
  lit : ∀ l, 1 ≤ B (.lit l)
  nil : 1 ≤ B .nil
  slice : ∀ es sp, B (.slice es sp) = A es + A sp + 1
  agg : ∀ ps, B (.agg ps) = A ps + 1
  anil : A [] = 0
  acons : ∀ d r, A (d :: r) = B d + A r
theorem BulkOk.sum {H : Type} {B : DataW H → Nat} {A : List (DataW H) → Nat} (k : BulkOk B A) : ∀ l, A l = (l.map B).sum
  | [] => by rw [k.anil]; rfl
  | d :: r => by rw [k.acons, k.sum r]; rfl
theorem sum_le {α β : Type} (f : α → Nat) (g : β → Nat) : ∀ (l : List α) (m : List β), l.length = m.length → (∀ (i : Nat) x y, l[i]? = some x → m[i]? = some y → f x ≤ g y) → (l.map f).sum ≤ (m.map g).sum
  | [], m, h, _ => by simp
  | x :: l, [], h, _ => by simp at h
  | x :: l, y :: m, h, hh => by
    simp only [List.map_cons, List.sum_cons]
    have h1 := hh 0 x y rfl rfl
    have h2 := sum_le f g l m (by simpa using h) (fun i a b ha hb => hh (i + 1) a b (by simpa using ha) (by simpa using hb))
    omega
theorem qH3 {α β : Type} {p : Nat → α → β → Prop} : ∀ (l : List α) (o : Nat), (∀ (i : Nat) x, l[i]? = some x → ∃ y, p (o + i) x y) → ∃ m : List β, m.length = l.length ∧ ∀ (i : Nat) x y, l[i]? = some x → m[i]? = some y → p (o + i) x y
  | [], o, _ => ⟨[], rfl, fun i x y h => by simp at h⟩
  | x :: l, o, h => by
    obtain ⟨y, hy⟩ := h 0 x rfl
    obtain ⟨m, h1, h2⟩ := qH3 l (o + 1) (p := p) (fun i a ha => by
      obtain ⟨y, hy⟩ := h (i + 1) a (by simpa using ha)
      exact ⟨y, by rwa [show o + 1 + i = o + (i + 1) by omega]⟩)
    refine ⟨y :: m, by simp [h1], fun i a b ha hb => ?_⟩
    cases i with
    | zero => simp at ha hb; subst ha; subst hb; exact hy
    | succ i =>
      have := h2 i a b (by simpa using ha) (by simpa using hb)
      rwa [show o + 1 + i = o + (i + 1) by omega] at this
section
variable {H : Type} {enc : TypeId × Value → H} {P : Program} {W : World} {base : Nat}
def Owed (P : Program) (W : World) (T : Ty) (t : TypeId) (cs : List Value) (d : DataW H) (y : T.den) : Prop :=
  T.R (h0 W) (cs.map (qQ3 W.heap.size)) y ∧ cs.length = T.size ∧ (∀ B A, BulkOk B A → T.bulk y ≤ B d) ∧ ((∀ n ∈ d.weights P t, n ≤ reachBytes) → T.fits y)
theorem pC {P : Program} {e : TypeId} : ∀ {l : List (DataW H)} {d : DataW H}, d ∈ l → ∀ n ∈ d.weights P e, n ∈ DataW.weightsAll P e l
  | [], d, h, n, hn => by simp at h
  | x :: l, d, h, n, hn => by
    unfold DataW.weightsAll
    rcases List.mem_cons.1 h with rfl | h
    · exact List.mem_append_left _ hn
    · exact List.mem_append_right _ (pC h n hn)
theorem h0_nv {ad : Addr} {n : Nat} {cs : List Value} (e : wA (h0 W) ad n = some cs) {m : Nat} (hm : m = n := by simp [*]) : NV (h0 W) ad.block m := by
  subst hm
  unfold wA at e
  split at e
  · rename_i h0; exact .inl h0
  · split at e
    case h_2 => cases e
    rename_i B hs hB
    refine .inr ⟨B, hB, .inr ?_⟩
    unfold h0 at hB
    split at hB
    · cases hB; rfl
    · cases hB
theorem h0_bytes {n : Nat} {a : Addr} {zs : List Int} (hn : n ≤ zs.length) (hw : ∀ q ∈ zs, (Lit.int .u8 q).wf = true) (hcell : ∀ i, i < zs.length → W.cell? (a.add i) = some (.int .u8 (zs.getD i 0))) :
    wA (h0 W) a n = some (((zs.take n).map ofI).map bv) := by
  have := qW5 (W := W) (a := a) ((zs.take n).map fun q => Value.int .u8 q) (fun i v hv => by
    simp only [List.getElem?_map, Option.map_eq_some_iff] at hv
    obtain ⟨q, hq, rfl⟩ := hv
    have hi : i < n := by
      rcases Nat.lt_or_ge i n with h | h
      · exact h
      · rw [List.getElem?_eq_none (by simp; omega)] at hq; cases hq
    rw [List.getElem?_take_of_lt hi] at hq
    rw [hcell i (by omega)]
    simp [hq])
  rw [List.length_map] at this
  have hl2 : (zs.take n).length = n := by simp; omega
  rw [hl2] at this
  rw [this]
  simp only [List.map_map]
  congr 1
  apply List.map_congr_left
  intro q hq
  exact (bv_ofI (hw q (List.mem_of_mem_take hq))).symm
mutual
theorem qK7 : ∀ (T : Ty) (t : TypeId) (fuel : Nat) (cs : List Value) (x : DataW H × List MemPlace), T.ok P t = true → T.safe fuel → DataW.trod enc P W base (fun _ => true) true fuel t cs = some x → ∃ y : T.den, Owed P W T t cs x.1 y
  | .i k, t, fuel, cs, x, ok, sf, h => by
    simp only [Ty.ok_i, Ty.ok_b, Ty.ok_bs, Ty.ok_sl, Bool.and_eq_true, beq_iff_eq] at ok
    obtain ⟨ok1, ok2⟩ := ok
    split at ok1
    case h_2 => cases ok1
    rename_i k' hu
    obtain rfl : k' = k := by simpa using ok1
    obtain ⟨n, rfl, rfl, hw⟩ := DataW.trod_int hu h
    exact ⟨n, ⟨by simp [qQ3], hw⟩, rfl, fun B A k => k.lit _, fun _ => trivial⟩
  | .b, t, fuel, cs, x, ok, sf, h => by
    simp only [Ty.ok_i, Ty.ok_b, Ty.ok_bs, Ty.ok_sl, Bool.and_eq_true, beq_iff_eq] at ok
    obtain ⟨ok1, ok2⟩ := ok
    split at ok1
    case h_2 => cases ok1
    rename_i hu
    obtain ⟨b, rfl, rfl⟩ := DataW.trod_bool hu h
    exact ⟨b, by simp [Ty.R, qQ3], rfl, fun B A k => k.lit _, fun _ => trivial⟩
  | .bs, t, fuel, cs, x, ok, sf, h => by
    simp only [Ty.ok_i, Ty.ok_b, Ty.ok_bs, Ty.ok_sl, Bool.and_eq_true, beq_iff_eq] at ok
    obtain ⟨ok1, ok2⟩ := ok
    split at ok1
    case h_2 => cases ok1
    rename_i e hu
    simp only [Bool.and_eq_true, beq_iff_eq, decide_eq_true_eq] at ok1
    obtain ⟨⟨ok1, hc⟩, hb⟩ := ok1
    split at ok1
    case h_2 => cases ok1
    rename_i he
    rcases open_ints hu he hc h with ⟨rfl, rfl⟩ | ⟨a, n, c, zs, rfl, _, hl, hm, hz, rfl, hcell, hwz⟩
    · exact ⟨[], ⟨_, rfl, .inl ⟨1, rfl, rfl⟩, .inl ⟨1, rfl⟩⟩, rfl, fun B A k => k.nil, fun _ => by simp [Ty.fits]⟩
    · simp only [if_true] at hz
      have hlen : ((zs.take n).map ofI).length = n := by simp; omega
      have hup := RB.odd_up (W := W) (a := a) hl (by
        rcases Nat.eq_zero_or_pos c with h | h
        · exact .inl h
        · exact .inr ⟨_, by have := hcell 0 (by omega); rwa [qF6] at this⟩)
      have hg := h0_bytes (W := W) (a := a) (n := n) (by omega) hwz hcell
      refine ⟨(zs.take n).map ofI, ⟨.slice (some a) n (2 * c + 1), by simp [hup], .inr ⟨a, 2 * c + 1, by rw [hlen], by rw [hlen]; exact hg, by omega⟩, .inr ⟨_, _, _, rfl, by omega⟩⟩, rfl, fun B A k => ?_, fun hw => ?_⟩
      · simp only [k.slice, Ty.bulk]
        rw [k.sum]
        have : ∀ l : List Int, l.length ≤ ((lits (H := H) .u8 l).map B).sum := fun l => by
          induction l with
          | nil => simp
          | cons z l ih =>
            have := k.lit (.int .u8 z)
            simp only [lits, List.map_cons, List.sum_cons, List.length_cons] at ih ⊢
            omega
        have := this (zs.take n)
        show ((zs.take n).map ofI).length + 1 ≤ _
        rw [List.length_map]
        omega
      · have h1 := hw ((zs.take n).length * P.bytesOf e + (zs.drop n).length * P.bytesOf e) (by
          unfold DataW.weights
          rw [hu]
          simp only [lits, List.length_map, Nat.add_mul]
          exact List.mem_cons_self)
        have h2 : (zs.take n).length * 1 ≤ (zs.take n).length * P.bytesOf e := Nat.mul_le_mul_left _ hb
        simp only [reachBytes] at h1
        show ((zs.take n).map ofI).length ≤ _
        rw [List.length_map]
        omega
  | .sl a, t, fuel, cs, x, ok, sf, h => by
    simp only [Ty.ok_i, Ty.ok_b, Ty.ok_bs, Ty.ok_sl, Bool.and_eq_true, beq_iff_eq] at ok
    obtain ⟨ok1, ok2⟩ := ok
    split at ok1
    case h_2 => cases ok1
    rename_i e hu
    simp only [Bool.and_eq_true, beq_iff_eq, decide_eq_true_eq] at ok1
    obtain ⟨⟨⟨ok1, hc⟩, h0⟩, hb⟩ := ok1
    rcases DataW.trod_slice hu h with ⟨rfl, rfl⟩ | ⟨ad, n, c, elems, rest, m, rfl, rfl, rfl, _, hl, hm, hlen, hel, hsp, _⟩
    · exact ⟨[], ⟨_, rfl, .inl ⟨1, rfl, rfl⟩, .inl ⟨1, rfl⟩⟩, rfl, fun B A k => by simpa [Ty.bulk] using k.nil, fun _ => by simp [Ty.fits]⟩
    · obtain ⟨hr1, hr2⟩ := hsp rfl
      rw [hc] at hel hr2
      obtain ⟨L, hL1, hL2⟩ := qH3 (p := fun i (x : DataW H × List MemPlace) (q : List Value × a.den) => W.cells? base (ad.add (i * a.size)) a.size = some q.1 ∧ Owed P W a e q.1 x.1 q.2) elems 0 (fun i x hx => by
        rw [Nat.zero_add]
        have hi := (List.getElem?_eq_some_iff.1 hx).1
        have h1 := hel i (by omega)
        rw [hx, Option.bind_eq_some_iff] at h1
        obtain ⟨ce, hce, htr⟩ := h1
        obtain ⟨y, hy⟩ := qK7 a e m ce x ok1 sf htr
        exact ⟨(ce, y), hce, hy⟩)
      simp only [Nat.zero_add] at hL2
      have hcl : ∀ q ∈ L.map (·.1), q.length = a.size := fun q hq => by
        obtain ⟨z, hz, rfl⟩ := List.mem_map.1 hq
        obtain ⟨i, hi⟩ := List.getElem?_of_mem hz
        have hlt := (List.getElem?_eq_some_iff.1 hi).1
        exact (World.cells?_some (hL2 i _ _ (List.getElem?_eq_getElem (by omega)) hi).1).2.1
      have hup := RB.odd_up (W := W) (a := ad) hl (by
        rcases Nat.eq_zero_or_pos c with h | h
        · exact .inl h
        · right
          have : ∃ i cs0, W.cells? base (ad.add (i * a.size)) a.size = some cs0 ∧ i = 0 := by
            rcases Nat.eq_zero_or_pos n with hn | hn
            · subst hn
              have h1 := hr2 0 (by omega)
              have hlt : 0 < rest.length := by omega
              rw [List.getElem?_eq_getElem hlt, Option.bind_eq_some_iff] at h1
              obtain ⟨ce, hce, _⟩ := h1
              exact ⟨0, ce, by simpa using hce, rfl⟩
            · have h1 := hel 0 hn
              have hlt : 0 < elems.length := by omega
              rw [List.getElem?_eq_getElem hlt, Option.bind_eq_some_iff] at h1
              obtain ⟨ce, hce, _⟩ := h1
              exact ⟨0, ce, hce, rfl⟩
          obtain ⟨i, cs0, hcs, rfl⟩ := this
          obtain ⟨_, hcl, hcg⟩ := World.cells?_some hcs
          have := hcg 0 h0
          rw [Nat.zero_mul, qF6, qF6, List.getElem?_eq_getElem (by omega)] at this
          exact ⟨_, this⟩)
      have hfl := qM9 (L.map (·.1)) hcl
      rw [List.length_map, hL1, hlen] at hfl
      have hg := qW5 (W := W) (a := ad) (L.map (·.1)).flatten (fun q v hv => by
        obtain ⟨cs0, h1, h2⟩ := flat_at _ hcl q v hv
        rw [List.getElem?_map, Option.map_eq_some_iff] at h1
        obtain ⟨z, hz, rfl⟩ := h1
        have hlt := (List.getElem?_eq_some_iff.1 hz).1
        have h3 := (World.cells?_some (hL2 _ _ _ (List.getElem?_eq_getElem (by omega)) hz).1).2.2 (q % a.size) (Nat.mod_lt _ h0)
        rw [add_add, Nat.mul_comm, Nat.div_add_mod] at h3
        rw [h3, h2])
      rw [hfl] at hg
      refine ⟨L.map (·.2), ⟨.slice (some ad) n (2 * c + 1), by simp [hup], .inr ⟨ad, 2 * c + 1, _, by rw [List.length_map, hL1, hlen], by rw [List.length_map, hL1, hlen]; exact hg, by rw [List.length_map]; omega, fun i y hy => ?_, h0_nv hg⟩, .inr ⟨_, _, _, rfl, by omega⟩⟩, rfl, fun B A k => ?_, fun hw => ?_⟩
      · rw [List.getElem?_map, Option.map_eq_some_iff] at hy
        obtain ⟨z, hz, rfl⟩ := hy
        have hlt := (List.getElem?_eq_some_iff.1 hz).1
        have h1 := (hL2 i _ _ (List.getElem?_eq_getElem (by omega)) hz).2.1
        rw [← List.map_drop, ← List.map_take, qN0 _ hcl i z.1 (by simp [hz])]
        exact h1
      · show ((L.map Prod.snd).map a.bulk).sum + 1 ≤ _
        rw [k.slice, k.sum, List.map_map]
        show _ ≤ ((elems.map Prod.fst).map B).sum + _ + 1
        rw [List.map_map]
        have := sum_le (a.bulk ∘ Prod.snd) (B ∘ Prod.fst) L elems hL1 (fun i q x hq hx => (hL2 i x q hx hq).2.2.2.1 B A k)
        omega
      · have h1 := hw ((elems.length + rest.length) * P.bytesOf e) (by
          unfold DataW.weights
          rw [hu]
          simp only [List.length_map]
          exact List.mem_cons_self)
        have h2 : (elems.length + rest.length) * 1 ≤ (elems.length + rest.length) * P.bytesOf e := Nat.mul_le_mul_left _ hb
        simp only [reachBytes] at h1
        refine ⟨by rw [List.length_map]; omega, fun y hy => ?_⟩
        obtain ⟨z, hz, rfl⟩ := List.mem_map.1 hy
        obtain ⟨i, hi⟩ := List.getElem?_of_mem hz
        have hlt := (List.getElem?_eq_some_iff.1 hi).1
        refine (hL2 i _ _ (List.getElem?_eq_getElem (by omega)) hi).2.2.2.2 fun n hn => hw n ?_
        unfold DataW.weights
        rw [hu]
        refine List.mem_cons_of_mem _ (List.mem_append_left _ (pC (List.mem_map.2 ⟨_, List.getElem_mem (by omega), rfl⟩) n hn))
  | .fnil, t, fuel, cs, x, ok, sf, h => by
    simp only [Ty.ok_fnil, Ty.ok_fcons] at ok
    split at ok
    case h_2 => cases ok
    rename_i fs hu
    simp only [Bool.and_eq_true, beq_iff_eq] at ok
    obtain ⟨xs, n, rfl, rfl, hl, hlen, hf⟩ := DataW.trod_struct hu h
    obtain ⟨y, h1, h2, h3⟩ := pE .fnil fs.toList 0 n cs xs ok.1 sf (by rw [hl, ok.2]; rfl) (by simpa using hlen) (fun i f hi => hf i f (by simpa using hi))
    refine ⟨y, by simpa using h1, by rw [hl, ok.2]; rfl, fun B A k => by have := h2 B A k; rw [k.agg]; omega, fun hw => h3 fun n hn => hw n ?_⟩
    unfold DataW.weights
    rw [hu]; exact hn
  | .fcons a r, t, fuel, cs, x, ok, sf, h => by
    simp only [Ty.ok_fnil, Ty.ok_fcons] at ok
    split at ok
    case h_2 => cases ok
    rename_i fs hu
    simp only [Bool.and_eq_true, beq_iff_eq] at ok
    obtain ⟨xs, n, rfl, rfl, hl, hlen, hf⟩ := DataW.trod_struct hu h
    obtain ⟨y, h1, h2, h3⟩ := pE (.fcons a r) fs.toList 0 n cs xs ok.1 sf (by rw [hl, ok.2, Nat.zero_add]; rfl) (by simpa using hlen) (fun i f hi => hf i f (by simpa using hi))
    refine ⟨y, by simpa using h1, by rw [hl, ok.2]; rfl, fun B A k => by have := h2 B A k; rw [k.agg]; omega, fun hw => h3 fun n hn => hw n ?_⟩
    unfold DataW.weights
    rw [hu]; exact hn
  | .no m, t, fuel, cs, x, ok, sf, h => by
    obtain rfl : fuel = 0 := sf
    simp [DataW.trod] at h
termination_by T => (SizeOf.sizeOf T, 1)
theorem pE : ∀ (T : Ty) (fs : List Field) (o n : Nat) (cs : List Value) (xs : List (DataW H × List MemPlace)), Ty.okF P T fs o = true → T.safe (n + 1) → cs.length = o + T.size → xs.length = fs.length →
    (∀ (i : Nat) f, fs[i]? = some f → DataW.trod enc P W base (fun _ => true) true n f.type ((cs.drop f.offset).take (P.cellsOf f.type)) = xs[i]?) →
    ∃ y : T.den, T.R (h0 W) ((cs.drop o).map (qQ3 W.heap.size)) y ∧ (∀ B A, BulkOk B A → T.bulk y ≤ A (xs.map (·.1))) ∧ ((∀ n ∈ DataW.weightsEach P (fs.map (·.type)) (xs.map (·.1)), n ≤ reachBytes) → T.fits y)
  | .fnil, fs, o, n, cs, xs, ok, sf, hl, hx, hf => by
    refine ⟨(), ?_, fun B A k => Nat.zero_le _, fun _ => trivial⟩
    show List.map _ (List.drop o cs) = []
    rw [List.drop_eq_nil_of_le (by simp only [hl, Ty.size]; omega)]
    rfl
  | .fcons a r, fs, o, n, cs, xs, ok, sf, hl, hx, hf => by
    match fs, xs, hx with
    | [], _, _ => simp [Ty.okF_nil] at ok
    | f :: fs, x :: xs, hx =>
      simp only [Ty.okF_cons, Bool.and_eq_true, beq_iff_eq] at ok
      obtain ⟨⟨⟨o1, o2⟩, o3⟩, o4⟩ := ok
      have hl : cs.length = o + (a.size + r.size) := hl
      have h1 := hf 0 f rfl
      rw [o1, o2] at h1
      obtain ⟨y, hy1, hy2, hy3, hy4⟩ := qK7 a f.type n _ x o3 sf.1 (by simpa using h1)
      obtain ⟨z, hz1, hz2, hz3⟩ := pE r fs (o + a.size) n cs xs o4 sf.2 (by omega) (by simpa using hx) (fun i f hi => by simpa using hf (i + 1) f (by simpa using hi))
      refine ⟨(y, z), ⟨_, _, ?_, ?_, hy1, hz1⟩, fun B A k => ?_, fun hw => ⟨hy4 fun n hn => hw n ?_, hz3 fun n hn => hw n ?_⟩⟩
      · rw [← List.map_append, ← List.drop_drop, List.take_append_drop]
      · rw [List.length_map]; exact hy2
      · have h1 := hy3 B A k
        have h2 := hz2 B A k
        simp only [List.map_cons, k.acons]
        show a.bulk y + r.bulk z ≤ _
        omega
      · simp only [List.map_cons, DataW.weightsEach]
        exact List.mem_append_left _ hn
      · simp only [List.map_cons, DataW.weightsEach]
        exact List.mem_append_right _ hn
  | .i k, fs, o, n, cs, xs, ok, _, _, _, _ => by simp [Ty.okF_i, Ty.okF_b, Ty.okF_bs, Ty.okF_sl] at ok
  | .b, fs, o, n, cs, xs, ok, _, _, _, _ => by simp [Ty.okF_i, Ty.okF_b, Ty.okF_bs, Ty.okF_sl] at ok
  | .bs, fs, o, n, cs, xs, ok, _, _, _, _ => by simp [Ty.okF_i, Ty.okF_b, Ty.okF_bs, Ty.okF_sl] at ok
  | .sl a, fs, o, n, cs, xs, ok, _, _, _, _ => by simp [Ty.okF_i, Ty.okF_b, Ty.okF_bs, Ty.okF_sl] at ok
  | .no m, fs, o, n, cs, xs, ok, _, _, _, _ => by simp [Ty.okF_no] at ok
termination_by T => (SizeOf.sizeOf T, 0)
end
theorem zQ6 (T : Nat → Ty) {t : TypeId} {v : Value} {d : DataW H} {ps : List MemPlace} {r : Reach} {b0 : Nat} (ok : ∀ n, (T n).ok P t = true) (sf : ∀ n, (T n).safe n) (h : DataW.Trod enc P W base (fun _ => true) true t v d ps) (hok : Value.okWide P W r b0 t v) :
    ∃ (n : Nat) (y : (T n).den), (T n).R (h0 W) (vcells (up W.heap.size v)) y ∧ (∀ B A, BulkOk B A → (T n).bulk y ≤ B d) ∧ ((∀ n ∈ d.weights P t, n ≤ reachBytes) → (T n).fits y) := by
  obtain ⟨fuel, hf⟩ := h
  obtain ⟨y, h1, h2, h3, h4⟩ := qK7 (T fuel) t fuel _ _ (ok fuel) (sf fuel) hf
  refine ⟨fuel, y, ?_, h3, h4⟩
  have : vcells (up W.heap.size v) = v.cells.toList.map (qQ3 W.heap.size) := by
    cases v <;> try rfl
    all_goals simp only [up, Value.cells, List.map]
    all_goals unfold qQ3
    all_goals (try rfl)
    all_goals (repeat' split) <;> rfl
  rw [this]; exact h1
theorem zA8 (T : Ty) {t : TypeId} {v : Value} {d : DataW H} {ps : List MemPlace} {r : Reach} {b0 : Nat} (ok : T.ok P t = true) (h : DataW.Trod enc P W base (fun _ => true) true t v d ps) (hok : Value.okWide P W r b0 t v) (lw : T.low = true := by rfl) :
    ∃ y : T.den, T.R (h0 W) (vcells (up W.heap.size v)) y ∧ (∀ B A, BulkOk B A → T.bulk y ≤ B d) ∧ ((∀ n ∈ d.weights P t, n ≤ reachBytes) → T.fits y) := by
  obtain ⟨_, y, h⟩ := zQ6 (fun _ => T) (fun _ => ok) (fun n => Ty.low.safe lw n) h hok
  exact ⟨y, h⟩
end
end Go.Gh
namespace Go.Gh
open Go Go.RowKit
set_option linter.unusedVariables false
set_option linter.unusedSimpArgs false
def OWN (h0 h : GH) (v : Value) (l : List UInt8) : Prop :=
  (v = .slice none 0 0 ∧ l = []) ∨ (∃ a, v = .slice (some a) 0 1 ∧ l = []) ∨
  ∃ k c, v = .slice (some ⟨k, 0, none⟩) l.length c ∧ c % 2 = 0 ∧ 2 * l.length ≤ c ∧ l ≠ [] ∧ h k = some ⟨l.map bv, 1, true, true⟩ ∧ h0 k = none
theorem OWN.nil (h0 h : GH) : OWN h0 h (.slice none 0 0) [] := .inl ⟨rfl, rfl⟩
theorem OWN.rb {h0 h : GH} {v : Value} {l : List UInt8} (o : OWN h0 h v l) : RB h v l := by
  rcases o with ⟨rfl, rfl⟩ | ⟨a, rfl, rfl⟩ | ⟨k, c, rfl, _, h2, _, h3, _⟩
  · exact RB.nil h
  · exact .inr ⟨a, 1, rfl, by simp [wA], by simp⟩
  · exact .inr ⟨⟨k, 0, none⟩, c, rfl, yF h3 (by rw [List.drop_zero]; exact List.take_of_length_le (by simp)) (by simp), h2⟩
theorem OWN.hs {h0 h h' : GH} {v : Value} {l : List UInt8} (o : OWN h0 h v l) (s : HS h h') : OWN h0 h' v l := by
  rcases o with o | o | ⟨k, c, h1, h2, h3, h4, h5, h6⟩
  · exact .inl o
  · exact .inr (.inl o)
  · exact .inr (.inr ⟨k, c, h1, h2, h3, h4, s _ _ h5, h6⟩)
theorem OWN.form {h0 h : GH} {v : Value} {l : List UInt8} (o : OWN h0 h v l) : ∃ a c, v = .slice a l.length c := by
  obtain ⟨a, c, h, _⟩ := o.rb.form
  exact ⟨a, c, h⟩
def HV (h h' : GH) : Prop := ∀ j B, h j = some B → B.es ≠ 1 → h' j = some B
theorem HV.refl (h : GH) : HV h h := fun _ _ e _ => e
theorem HS.hv {a b : GH} (x : HS a b) : HV a b := fun j B e _ => x j B e
theorem xW {P : Program} {t u e : Nat} {z : Value} {du : TypeDesc} {h0 h : GH} {s x : Value} {l l2 : List UInt8} {K : Value → GH → Prop} (hel : tF P t = some (e, 1, 1, z)) (hu : P.underlying u = some du) (hni : mY du = true)
    (hs0 : HS h0 h) (o : OWN h0 h s l) (hsrc : mR h 1 x = some (l2.length, l2.map bv)) (hsz : l.length + l2.length ≤ 140737488355328)
    (k : ∀ v h', HS h0 h' → HV h h' → OWN h0 h' v (l ++ l2) → K v h') : gN P t u h s x K := by
  refine .inl ⟨du, e, 1, 1, z, l2.length, l2.map bv, hu, hni, hel, hsrc, e, 1, 1, z, hel, by simp, rJ _, ?_⟩
  rcases o with ⟨rfl, rfl⟩ | ⟨a, rfl, rfl⟩ | ⟨k0, c, rfl, h1, h2, h3, h4, h5⟩
  · simp only
    by_cases hm : l2.length = 0
    · have : l2 = [] := List.eq_nil_of_length_eq_zero hm
      subst this
      exact .inl ⟨rfl, k _ h hs0 (HV.refl h) (.inl ⟨rfl, rfl⟩)⟩
    · have hsz' : l2.length ≤ 140737488355328 := by simpa using hsz
      refine .inr ⟨by omega, by simp only [maxLen]; omega, by omega, fun k0 hk0 => ?_⟩
      have hS := HS.new hk0 ⟨l2.map bv, 1, true, true⟩
      exact k _ _ (hs0.trans hS) hS.hv (.inr (.inr ⟨k0, _, rfl, by omega, by simp, by rintro e; simp at e; subst e; simp at hm, by rw [zP]; rfl, hs0.none_of hk0⟩))
  · simp only
    by_cases hm : l2.length = 0
    · have : l2 = [] := List.eq_nil_of_length_eq_zero hm
      subst this
      exact .inl ⟨rfl, k _ h hs0 (HV.refl h) (.inr (.inl ⟨a, rfl, rfl⟩))⟩
    · have hsz' : l2.length ≤ 140737488355328 := by simpa using hsz
      refine .inr ⟨by omega, by simp only [maxLen]; omega, by omega, .inl ⟨[], by simp [wA], by first | trivial | omega, by first | omega | simp; omega, fun k0 hk0 => ?_⟩⟩
      have hS := HS.new hk0 ⟨[] ++ l2.map bv, 1, true, true⟩
      exact k _ _ (hs0.trans hS) hS.hv (.inr (.inr ⟨k0, 2 * (0 + l2.length), by simp, by omega, by simp, by rintro e; simp at e; subst e; simp at hm, by rw [zP]; rfl, hs0.none_of hk0⟩))
  · simp only
    by_cases hm : l2.length = 0
    · have : l2 = [] := List.eq_nil_of_length_eq_zero hm
      subst this
      refine .inl ⟨rfl, k _ h hs0 (HV.refl h) (.inr (.inr ⟨k0, c, by simp, h1, by simpa using h2, by simpa using h3, by simpa using h4, h5⟩))⟩
    · refine .inr ⟨by omega, by simp only [maxLen]; omega, by omega, .inr (.inr ⟨_, h4, by simp, h1, rfl, rfl, by simp, .inl fun k1 hk1 hne => ?_⟩)⟩
      refine k _ _ (fun j B hj => ?_) (fun j B hj hn => ?_) (.inr (.inr ⟨k1, _, by simp only [List.length_append]; rfl, by omega, by simp, by simp [h3], by rw [zP]; simp, hs0.none_of hk1⟩))
      · have hj' := hs0 j B hj
        have : j ≠ k0 := fun e => by subst e; rw [h5] at hj; cases hj
        have h6 : j ≠ k1 := fun e => by subst e; rw [hk1] at hj'; cases hj'
        rw [zT _ _ h6, sN _ this]; exact hj'
      · have : j ≠ k0 := fun e => by subst e; rw [h4] at hj; cases hj; exact hn rfl
        have h6 : j ≠ k1 := fun e => by subst e; rw [hk1] at hj; cases hj
        rw [zT _ _ h6, sN _ this]; exact hj
theorem mX {P : Program} {t e es by_ : Nat} {z : Value} {h : GH} {K : Value → GH → Prop} (hel : tF P t = some (e, es, by_, z)) (hz : zH2 z = true) (g : K (.slice (some ⟨0, 0, none⟩) 0 1) h) : gC P t h 0 [] K :=
  ⟨e, es, by_, z, uT z (0 * es), hel, hz, by omega, rfl, by
    have := jU z (0 * es)
    rw [Nat.zero_mul] at this ⊢
    rw [List.eq_nil_of_length_eq_zero this]; rfl, fun _ => g, fun hh => absurd rfl hh⟩
theorem RB.isnil {h : GH} {a : Option Addr} {n c : Nat} {l : List UInt8} (r : RB h (.slice a n c) l) (ha : a.isNone = true) : l = [] := by
  obtain ⟨a', c', h1, h2⟩ := r.form
  cases h1
  exact h2 (by cases a <;> simp_all)
theorem mk_g {P : Program} {t e es by_ : Nat} {z : Value} {h : GH} {n : Nat} {K : Value → GH → Prop} (hel : tF P t = some (e, es, by_, z)) (hz : zH2 z = true) (hn : by_ * n ≤ 281474976710656) (hn2 : n ≤ 9223372036854775807)
    (g : ∀ k h', h' k = some ⟨uT z (n * es), es, true, false⟩ → HS h h' → (∀ j, j ≠ k → h' j = h j) → h k = none → K (.slice (some ⟨k, 0, none⟩) n (2 * n + 1)) h') : zC6 P t h (n : Int) (n : Int) K := by
  refine ⟨e, es, by_, z, hel, hz, by omega, by omega, ?_, by omega, fun k hk => ?_⟩
  · rw [← Int.natCast_mul]; omega
  · rw [Int.toNat_natCast]
    exact g k _ (zP _ _ _) (HS.new hk _) (fun j hj => zT _ _ hj) hk
theorem zB3 {P : Program} {t e : Nat} {h : GH} {n : Nat} {K : Value → GH → Prop} (hel : tF P t = some (e, 1, 1, .int .u8 0)) (hn : n ≤ 281474976710656)
    (g : ∀ k h', h' k = some ⟨(List.replicate n 0).map bv, 1, true, false⟩ → HS h h' → (∀ j, j ≠ k → h' j = h j) → h k = none → K (.slice (some ⟨k, 0, none⟩) n (2 * n + 1)) h') : zC6 P t h (n : Int) (n : Int) K := by
  refine mk_g hel rfl (by omega) (by omega) fun k h' m s f hk => g k h' ?_ s f hk
  rw [m, wD _ rfl, Nat.mul_one, List.map_replicate]; rfl
theorem RB.first {h : GH} {v : Value} {l : List UInt8} (r : RB h v l) {n : Nat} (hn : n ≤ l.length) : qD7 h 1 n v = some ((l.take n).map bv) ∧ qD6 v = some l.length := by
  rcases r with ⟨c, rfl, rfl⟩ | ⟨ad, c, rfl, h2, h3⟩
  · simp at hn
    subst hn
    exact ⟨by simp [qD7], rfl⟩
  · refine ⟨?_, rfl⟩
    have := tR h2 0 n (by omega)
    simpa [qD7, List.map_take] using this
theorem copy_g {P : Program} {t e by_ : Nat} {z : Value} {h : GH} {k m c : Nat} {tl : Bool} {b l : List UInt8} {x : Value} {K : Value → GH → Prop} (hel : tF P t = some (e, 1, by_, z)) (hk : h k = some ⟨b.map bv, 1, true, tl⟩) (hm : m = b.length) (r : RB h x l)
    (g : ∀ h', h' k = some ⟨(l.take m ++ b.drop l.length).map bv, 1, true, tl⟩ → (∀ j, j ≠ k → h' j = h j) → K (goInt ((min l.length m : Nat) : Int)) h') : qY1 P t h (.slice (some ⟨k, 0, none⟩) m c) x K := by
  subst hm
  obtain ⟨h1, h2⟩ := r.first (n := min l.length b.length) (by omega)
  by_cases h0 : min l.length b.length = 0
  · refine ⟨0, h, ?_, ?_⟩
    · simp only [qM4, hel, h2, h1]
      rw [if_pos (rJ _)]
      simp [h0, kQ]
    · have := g h (by
        rw [hk]
        have : l.take b.length ++ b.drop l.length = b := by
          rcases Nat.eq_zero_or_pos l.length with hl | hl
          · rw [List.eq_nil_of_length_eq_zero hl]; simp
          · have hb : b = [] := List.eq_nil_of_length_eq_zero (by omega)
            subst hb; simp
        rw [this]) (fun _ _ => rfl)
      rwa [h0] at this
  · refine ⟨min l.length b.length, yB h k ⟨(l.take b.length ++ b.drop l.length).map bv, 1, true, tl⟩, ?_, g _ (zP _ _ _) (fun j hj => zT _ _ hj)⟩
    have e1 : (l.take (min l.length b.length)).map bv = (l.take b.length).map bv := by
      congr 1
      rw [List.take_eq_take_iff]; omega
    simp only [qM4, hel, h2, h1]
    rw [if_pos (rJ _), e1]
    have hl : ((l.take b.length).map bv).length = min l.length b.length := by simp; omega
    simp only [kQ, hk, hl]
    rw [if_neg h0, if_pos ⟨by trivial, by simp; omega⟩]
    simp only [Option.map_some, jE, List.take_zero, List.nil_append, Nat.zero_add, hl]
    congr 2
    congr 1
    rw [List.map_append, List.map_drop, List.map_take]
    congr 1
    rcases Nat.le_total l.length b.length with hh | hh
    · rw [Nat.min_eq_left hh]
    · rw [Nat.min_eq_right hh, List.drop_eq_nil_of_le (by simp), List.drop_eq_nil_of_le (by simp; omega)]
theorem qH7 {P : Program} {t e : Nat} {h : GH} {x : UInt8} {K : Value → GH → Prop} (hel : tF P t = some (e, 1, 1, .int .u8 0))
    (g : ∀ k h', RB h' (.slice (some ⟨k, 0, none⟩) 1 3) [x] → HS h h' → (∀ j, j ≠ k → h' j = h j) → h k = none → K (.slice (some ⟨k, 0, none⟩) 1 3) h') : gC P t h 1 [(0, .int .u8 (x.toNat : Int))] K :=
  fJ (cs := [x].map bv) hel rfl (by decide) (by decide) (by rw [wD _ rfl]; rfl) rfl fun k h' m s f n => g k h' (yN m rfl) s f n
theorem gEq_bool {P : Program} {t : TypeId} (hu : P.underlying t = some .bool) (c a b : Bool) : qX9 P t c (.bool a) (.bool b) = some (a == b) := by simp [qX9, hu]
theorem gEq_pp {P : Program} {t e : TypeId} (hu : P.underlying t = some (.pointer e)) (c : Bool) (a : Addr) : qX9 P t c (.pointer (some a)) (.pointer none) = some false := by simp [qX9, hu]
theorem gEq_pn {P : Program} {t e : TypeId} (hu : P.underlying t = some (.pointer e)) (c : Bool) (a : Option Addr) : qX9 P t c (.pointer none) (.pointer a) = some a.isNone := by simp [qX9, hu]
theorem kR {P : Program} {t e es : Nat} {b : Bool} {k n c i : Nat} (ht : P.underlying t = some (.slice e)) (he : vG P e = some (b, es)) (hi : i < n) : zJ P t (.slice (some ⟨k, 0, none⟩) n c) (i : Int) = some (.pointer (some ⟨k, i * es, none⟩)) := by
  simp only [zJ, ht, he]
  rw [if_pos (by omega)]
  simp
theorem set_bv (b : List UInt8) (i : Nat) (x : UInt8) : (b.map bv).set i (bv x) = (b.set i x).map bv := by rw [List.map_set]
end Go.Gh
namespace Go.Gh
open Go Go.RowKit Go.ChangeShapes Go.WideShapes Go.ChangeAt
set_option linter.unusedVariables false
set_option linter.unusedSimpArgs false
section
variable {H : Type} {enc : TypeId × Value → H} {P : Program} {W : World} {base b0 : Nat} {t : TypeId} {v : Value} {d : DataW H} {ps : List MemPlace} {r : Reach}
theorem qK0 (N : Nat) (a : Option Addr) (n c : Nat) : vcells (up N (.slice a n c)) = [up N (.slice a n c)] := by
  simp only [up]
  unfold qQ3
  repeat' split
  all_goals rfl
theorem arg_sl (T : Ty) (ok : Ty.ok P (.sl T) t = true) (h : DataW.Trod enc P W base (fun _ => true) true t v d ps) (hok : Value.okWide P W r b0 t v) (lw : T.low = true := by rfl) :
    ∃ (l : List T.den) (a : Option Addr) (c : Nat), up W.heap.size v = .slice a l.length c ∧ RL T.size T.R (h0 W) (.slice a l.length c) l ∧ Odd (.slice a l.length c) ∧ (∀ B A, BulkOk B A → (l.map T.bulk).sum + 1 ≤ B d) ∧ ((∀ n ∈ d.weights P t, n ≤ reachBytes) → Ty.fits (.sl T) l) := by
  obtain ⟨l, ⟨u, h1, h2, h3⟩, h4, h5⟩ := zA8 (.sl T) ok h hok lw
  simp only [Ty.ok_bs, Ty.ok_sl, Bool.and_eq_true] at ok
  have ok1 := ok.1
  split at ok1
  case h_2 => cases ok1
  rename_i e hu
  obtain ⟨a', n', c', rfl⟩ := okWide_slice hu hok
  rw [qK0] at h1
  have e1 : up W.heap.size (.slice a' n' c') = u := by simpa using h1
  obtain ⟨a, c, rfl, _⟩ := h2.form
  exact ⟨l, a, c, e1, h2, h3, h4, h5⟩
theorem arg_st (T : Ty) {fs : Array Field} (hu : P.underlying t = some (.struct fs)) (ok : T.ok P t = true) (h : DataW.Trod enc P W base (fun _ => true) true t v d ps) (hok : Value.okWide P W r b0 t v) (lw : T.low = true := by rfl) :
    ∃ (y : T.den) (cs : List Value), up W.heap.size v = .agg cs.toArray ∧ T.R (h0 W) cs y ∧ (∀ B A, BulkOk B A → T.bulk y ≤ B d) ∧ ((∀ n ∈ d.weights P t, n ≤ reachBytes) → T.fits y) := by
  obtain ⟨y, h1, h4, h5⟩ := zA8 T ok h hok lw
  have : ∃ c : Array Value, v = .agg c := by
    simp only [Value.okWide, hu] at hok
    obtain ⟨cs, h, _⟩ := hok
    exact ⟨cs, h⟩
  obtain ⟨c, rfl⟩ := this
  exact ⟨y, _, rfl, by simpa [vcells, up] using h1, h4, h5⟩
end
theorem RL.map {α β : Type} {es : Nat} {R : GH → List Value → α → Prop} {R' : GH → List Value → β → Prop} {h : GH} {v : Value} {l : List α} (r : RL es R h v l) (f : α → β) (hf : ∀ cs x, R h cs x → R' h cs (f x)) : RL es R' h v (l.map f) := by
  rcases r with ⟨c, h1, rfl⟩ | ⟨ad, c, cs, h1, h2, h3, h4, h5⟩
  · exact .inl ⟨c, h1, rfl⟩
  · refine .inr ⟨ad, c, cs, by simpa using h1, by simpa using h2, by simpa using h3, fun i x hx => ?_, by simpa using h5⟩
    rw [List.getElem?_map, Option.map_eq_some_iff] at hx
    obtain ⟨y, hy, rfl⟩ := hx
    exact hf _ _ (h4 i y hy)
theorem bits_u64 {a b : Nat} (ha : a < 18446744073709551616) (hb : b < 18446744073709551616) : bits .and .u64 (a : Int) (b : Int) = ((a &&& b : Nat) : Int) ∧ bits .or .u64 (a : Int) (b : Int) = ((a ||| b : Nat) : Int) ∧ bits .xor .u64 (a : Int) (b : Int) = ((a ^^^ b : Nat) : Int) := by
  have h1 : a &&& b < 2 ^ 64 := Nat.and_lt_two_pow _ (by omega)
  have h2 : a ||| b < 2 ^ 64 := Nat.or_lt_two_pow (by omega) (by omega)
  have h3 : a ^^^ b < 2 ^ 64 := Nat.xor_lt_two_pow (by omega) (by omega)
  have e1 : a % 18446744073709551616 = a := Nat.mod_eq_of_lt (by omega)
  have e2 : b % 18446744073709551616 = b := Nat.mod_eq_of_lt (by omega)
  have q1 : (BitVec.ofNat 64 a &&& BitVec.ofNat 64 b).toNat = a &&& b := by simp only [BitVec.toNat_and, BitVec.toNat_ofNat, Nat.reducePow, e1, e2]
  have q2 : (BitVec.ofNat 64 a ||| BitVec.ofNat 64 b).toNat = a ||| b := by simp only [BitVec.toNat_or, BitVec.toNat_ofNat, Nat.reducePow, e1, e2]
  have q3 : (BitVec.ofNat 64 a ^^^ BitVec.ofNat 64 b).toNat = a ^^^ b := by simp only [BitVec.toNat_xor, BitVec.toNat_ofNat, Nat.reducePow, e1, e2]
  simp only [bits, IntKind.bits, BitVec.ofInt_natCast]
  refine ⟨?_, ?_, ?_⟩
  · show IntKind.wrap .u64 ((BitVec.ofNat 64 a &&& BitVec.ofNat 64 b).toNat : Int) = _
    rw [q1]; apply fK <;> omega
  · show IntKind.wrap .u64 ((BitVec.ofNat 64 a ||| BitVec.ofNat 64 b).toNat : Int) = _
    rw [q2]; apply fK <;> omega
  · show IntKind.wrap .u64 ((BitVec.ofNat 64 a ^^^ BitVec.ofNat 64 b).toNat : Int) = _
    rw [q3]; apply fK <;> omega
end Go.Gh
namespace Go.Gh
open Go Go.RowKit
set_option linter.unusedVariables false
set_option linter.unusedSimpArgs false
def OWNC (es : Nat) (h0 h : GH) (v : Value) (n : Nat) (cs : List Value) : Prop :=
  (v = .slice none 0 0 ∧ n = 0 ∧ cs = []) ∨ (∃ a, v = .slice (some a) 0 1 ∧ n = 0 ∧ cs = []) ∨
  ∃ k c, v = .slice (some ⟨k, 0, none⟩) n c ∧ c % 2 = 0 ∧ 2 * n ≤ c ∧ n ≠ 0 ∧ cs.length = n * es ∧ h k = some ⟨cs, es, true, true⟩ ∧ h0 k = none
theorem OWNC.nil (es : Nat) (h0 h : GH) : OWNC es h0 h (.slice none 0 0) 0 [] := .inl ⟨rfl, rfl, rfl⟩
theorem OWNC.form {es : Nat} {h0 h : GH} {v : Value} {n : Nat} {cs : List Value} (o : OWNC es h0 h v n cs) : ∃ a c, v = .slice a n c := by
  rcases o with ⟨rfl, rfl, _⟩ | ⟨a, rfl, rfl, _⟩ | ⟨k, c, rfl, _⟩
  · exact ⟨_, _, rfl⟩
  · exact ⟨_, _, rfl⟩
  · exact ⟨_, _, rfl⟩
theorem OWNC.len {es : Nat} {h0 h : GH} {v : Value} {n : Nat} {cs : List Value} (o : OWNC es h0 h v n cs) : cs.length = n * es := by
  rcases o with ⟨_, rfl, rfl⟩ | ⟨a, _, rfl, rfl⟩ | ⟨k, c, _, _, _, _, h, _⟩
  · simp
  · simp
  · exact h
theorem OWNC.weak {es : Nat} {a b h : GH} {v : Value} {n : Nat} {cs : List Value} (s : HS a b) (o : OWNC es b h v n cs) : OWNC es a h v n cs := by
  rcases o with o | o | ⟨k, c, h1, h2, h3, h4, h5, h6, h7⟩
  · exact .inl o
  · exact .inr (.inl o)
  · exact .inr (.inr ⟨k, c, h1, h2, h3, h4, h5, h6, s.none_of h7⟩)
theorem OWNC.hs {es : Nat} {h0 h h' : GH} {v : Value} {n : Nat} {cs : List Value} (o : OWNC es h0 h v n cs) (s : HS h h') : OWNC es h0 h' v n cs := by
  rcases o with o | o | ⟨k, c, h1, h2, h3, h4, h5, h6, h7⟩
  · exact .inl o
  · exact .inr (.inl o)
  · exact .inr (.inr ⟨k, c, h1, h2, h3, h4, h5, s _ _ h6, h7⟩)
theorem OWNC.read {es : Nat} {h0 h : GH} {a : Option Addr} {m c n : Nat} {cs : List Value} (o : OWNC es h0 h (.slice a m c) n cs) :
    m = n ∧ ((a = none ∧ n = 0 ∧ cs = []) ∨ ∃ ad, a = some ad ∧ wA h ad (n * es) = some cs ∧ 2 * n ≤ c ∧ NV h ad.block (n * es)) := by
  rcases o with ⟨e, rfl, rfl⟩ | ⟨a, e, rfl, rfl⟩ | ⟨k, c, e, h1, h2, h3, h4, h5, h6⟩
  · cases e; exact ⟨rfl, .inl ⟨rfl, rfl, rfl⟩⟩
  · cases e; exact ⟨rfl, .inr ⟨_, rfl, by simp [wA], by omega, .inl (by simp)⟩⟩
  · cases e
    refine ⟨rfl, .inr ⟨_, rfl, yF h5 (by rw [List.drop_zero]; exact List.take_of_length_le (by show cs.length ≤ _; omega)) h4, h2, ?_⟩⟩
    by_cases he : es = 0
    · exact .inl (by subst he; simp)
    · exact .inr ⟨_, h5, .inl he⟩
theorem OWNC.rl {α : Type} {es : Nat} {R : GH → List Value → α → Prop} {h0 h : GH} {v : Value} {l : List α} {cs : List Value} (o : OWNC es h0 h v l.length cs) (hR : ∀ (i : Nat) x, l[i]? = some x → R h ((cs.drop (i * es)).take es) x) : RL es R h v l := by
  obtain ⟨a, c, rfl⟩ := o.form
  obtain ⟨_, h1⟩ := o.read
  rcases h1 with ⟨rfl, h2, _⟩ | ⟨ad, rfl, h2, h3, h4⟩
  · have : l = [] := List.eq_nil_of_length_eq_zero h2
    subst this
    exact .inl ⟨c, rfl, rfl⟩
  · exact .inr ⟨ad, c, cs, rfl, h2, h3, hR, h4⟩
theorem gG {P : Program} {t u e es by_ : Nat} {z : Value} {du : TypeDesc} {h0 h : GH} {s x : Value} {n m : Nat} {cs xs : List Value} {K : Value → GH → Prop} (hel : tF P t = some (e, es, by_, z)) (hu : P.underlying u = some du) (hni : mY du = true)
    (hs0 : HS h0 h) (o : OWNC es h0 h s n cs) (hsrc : mR h es x = some (m, xs)) (hxl : xs.length = m * es) (hcell : xs.all zK = true) (hsz : (n + m) * by_ ≤ 140737488355328) (hml : n + m ≤ maxLen)
    (k : ∀ v h', HS h0 h' → (∀ j B, h j = some B → (j = j → ∀ kb c, s = .slice (some ⟨kb, 0, none⟩) n c → n ≠ 0 → h kb = some ⟨cs, es, true, true⟩ → j ≠ kb) → h' j = some B) → OWNC es h0 h' v (n + m) (cs ++ xs) → K v h') : gN P t u h s x K := by
  refine .inl ⟨du, e, es, by_, z, m, xs, hu, hni, hel, hsrc, e, es, by_, z, hel, hxl, hcell, ?_⟩
  rcases o with ⟨rfl, rfl, rfl⟩ | ⟨a, rfl, rfl, rfl⟩ | ⟨k0, c, rfl, h1, h2, h3, hcl, h4, h5⟩
  · simp only
    by_cases hm : m = 0
    · subst hm
      have : xs = [] := List.eq_nil_of_length_eq_zero (by simpa using hxl)
      subst this
      exact .inl ⟨rfl, k _ h hs0 (fun j B e _ => e) (.inl ⟨rfl, rfl, rfl⟩)⟩
    · refine .inr ⟨by omega, by omega, by simpa using hsz, fun k0 hk0 => ?_⟩
      have hS := HS.new hk0 ⟨xs, es, true, true⟩
      exact k _ _ (hs0.trans hS) (fun j B e _ => hS j B e) (.inr (.inr ⟨k0, 2 * m, by simp, by omega, by omega, by omega, by simpa using hxl, by rw [zP]; rfl, hs0.none_of hk0⟩))
  · simp only
    by_cases hm : m = 0
    · subst hm
      have : xs = [] := List.eq_nil_of_length_eq_zero (by simpa using hxl)
      subst this
      exact .inl ⟨rfl, k _ h hs0 (fun j B e _ => e) (.inr (.inl ⟨a, rfl, rfl, rfl⟩))⟩
    · refine .inr ⟨by omega, hml, hsz, .inl ⟨[], by simp [wA], by first | trivial | omega, by first | omega | (simp; omega), fun k0 hk0 => ?_⟩⟩
      have hS := HS.new hk0 ⟨[] ++ xs, es, true, true⟩
      exact k _ _ (hs0.trans hS) (fun j B e _ => hS j B e) (.inr (.inr ⟨k0, 2 * (0 + m), by simp, by omega, by omega, by omega, by simpa using hxl, by simp [zP], hs0.none_of hk0⟩))
  · simp only
    by_cases hm : m = 0
    · subst hm
      have : xs = [] := List.eq_nil_of_length_eq_zero (by simpa using hxl)
      subst this
      exact .inl ⟨rfl, k _ h hs0 (fun j B e _ => e) (.inr (.inr ⟨k0, c, by simp, h1, by omega, by omega, by simpa using hcl, by simpa using h4, h5⟩))⟩
    · refine .inr ⟨by omega, hml, hsz, .inr (.inr ⟨_, h4, by simp, h1, rfl, rfl, by simpa using hcl.symm, .inl fun k1 hk1 hne => ?_⟩)⟩
      refine k _ _ (fun j B hj => ?_) (fun j B hj hn => ?_) (.inr (.inr ⟨k1, 2 * (n + m), rfl, by omega, by omega, by omega, by rw [List.length_append, hcl, hxl, Nat.add_mul], by rw [zP]; simp, hs0.none_of hk1⟩))
      · have hj' := hs0 j B hj
        have : j ≠ k0 := fun e => by subst e; rw [h5] at hj; cases hj
        have h6 : j ≠ k1 := fun e => by subst e; rw [hk1] at hj'; cases hj'
        rw [zT _ _ h6, sN _ this]; exact hj'
      · have : j ≠ k0 := hn rfl _ _ rfl h3 h4
        have h6 : j ≠ k1 := fun e => by subst e; rw [hk1] at hj; cases hj
        rw [zT _ _ h6, sN _ this]; exact hj
theorem qH1 {h h' : GH} {s : Value} {n es : Nat} {cs : List Value} (fr : ∀ j B, h j = some B → (j = j → ∀ kb c, s = .slice (some ⟨kb, 0, none⟩) n c → n ≠ 0 → h kb = some ⟨cs, es, true, true⟩ → j ≠ kb) → h' j = some B) {j : Nat} {B : GB} (hj : h j = some B) (he : B.es ≠ es) : h' j = some B :=
  fr j B hj fun _ kb c _ _ hk e => by rw [e, hk] at hj; cases hj; exact he rfl
theorem fr_rb {h h' : GH} {s : Value} {n es : Nat} {cs : List Value} (fr : ∀ j B, h j = some B → (j = j → ∀ kb c, s = .slice (some ⟨kb, 0, none⟩) n c → n ≠ 0 → h kb = some ⟨cs, es, true, true⟩ → j ≠ kb) → h' j = some B) (hc : cs.all vO = true) {v : Value} {l : List UInt8} (r : RB h v l) : RB h' v l := by
  rcases r with r | ⟨ad, c, h1, h2, h3⟩
  · exact .inl r
  · refine .inr ⟨ad, c, h1, ?_, h3⟩
    by_cases h0 : l.length = 0
    · rw [h0] at h2 ⊢; simp only [wA, if_true] at h2 ⊢; exact h2
    · have h2' := h2
      unfold wA at h2
      rw [if_neg h0] at h2
      split at h2
      case h_2 => cases h2
      rename_i B hs hB
      have := fr _ B hB fun _ kb c _ _ hk e => by
        rw [e, hk] at hB; cases hB
        have hb : bv (l[0]'(by omega)) ∈ cs := qD2 h2' h0 (by rw [e]; exact hk) _ (List.mem_map.2 ⟨_, List.getElem_mem _, rfl⟩)
        rw [List.all_eq_true] at hc
        have := hc _ hb
        simp [vO, bv] at this
      unfold wA
      rw [if_neg h0, hs, this]
      exact h2
theorem qL4 : ∀ (l cs pre : List Value) , l.length = cs.length → vY (pre ++ cs) pre.length l = pre ++ l
  | [], cs, pre, h => by
    have : cs = [] := List.eq_nil_of_length_eq_zero h.symm
    subst this; simp [vY]
  | v :: l, [], pre, h => by simp at h
  | v :: l, c :: cs, pre, h => by
    have ih := qL4 l cs (pre ++ [v]) (by simpa using h)
    simp only [vY]
    have e : (pre ++ c :: cs).set pre.length v = (pre ++ [v]) ++ cs := by simp
    rw [e]
    simpa using ih
theorem qO4 {P : Program} {t e es by_ : Nat} {z : Value} {h : GH} {x : Value} {K : Value → GH → Prop} (hel : tF P t = some (e, es, by_, z)) (hz : zH2 z = true) (hl : (vcells x).length = es) (he : es ≤ 16777216) (h0 : es ≠ 0) (hc : (vcells x).all zK = true)
    (g : ∀ k h', mR h' es (.slice (some ⟨k, 0, none⟩) 1 3) = some (1, vcells x) → HS h h' → (∀ j, j ≠ k → h' j = h j) → h k = none → K (.slice (some ⟨k, 0, none⟩) 1 3) h') : gC P t h 1 [(0, x)] K := by
  refine fJ (cs := vcells x) hel hz (by omega) (by decide) ?_ hc fun k h' m s f n => g k h' ?_ s f n
  · have hzl := jU z (1 * es)
    have hp : (Shape.elems es).pl 0 = some (0, es) := by simp [Shape.pl]
    simp only [xZ, hp]
    have := qL4 (vcells x) (uT z (1 * es)) [] (by rw [hzl, hl, Nat.one_mul])
    simp only [List.nil_append, List.length_nil] at this
    rw [this, hzl, Nat.one_mul]
    simp [hl, hc]
  · have := yF m (o := 0) (n := 1 * es) (cs := vcells x) (by rw [List.drop_zero, Nat.one_mul, ← hl]; exact List.take_length) (by rw [hl, Nat.one_mul])
    simp only [mR, this]; rfl
theorem zC9 {P : Program} {t n e : Nat} {cs : Array Value} {i : Nat} (hu : P.underlying t = some (.array n e)) (he : vG P e = some (false, 1)) (hi : i < n) : qA P t (.agg cs) (i : Int) = cs[i]? := by
  simp only [qA, hu, he]
  rw [if_pos (by omega)]
  simp [qF, he]
def Mk (p : Prop) : Prop := p
theorem qJ {p : Prop} (h : Mk p) : p := h
theorem qI {p : Prop} (h : p) : Mk p := h
theorem qP :
  (∀ (P : Program) (N : Nat) (ds : List (Option Tmp)) (K : Env → GH → Prop) (e : Env) (h : GH), fE P N ds [] K e h = K e h) ∧
  (∀ (P : Program) (N : Nat) (ds : List (Option Tmp)) (r : List Oper) (K : Env → GH → Prop) (e : Env) (h : GH) (d : Option Tmp) (op : Op) (ty : TypeId) (pos : String) (after : Array Edge), fE P N ds ({ dst := d, op := op, type := ty, pos := pos, after := after, guard := none } :: r) K e h = qN P N e h (fX P N ds r K e d) op) ∧
  (∀ (P : Program) (N : Nat) (ds : List (Option Tmp)) (r : List Oper) (K : Env → GH → Prop) (e : Env) (h : GH) (d : Option Tmp) (op : Op) (ty : TypeId) (pos : String) (after : Array Edge) (j : Nat) (w : Bool), fE P N ds ({ dst := d, op := op, type := ty, pos := pos, after := after, guard := some (j, w) } :: r) K e h = gX (qC ds e j w) w P N ds r K e h d op) ∧
  (∀ (P : Program) (N : Nat) (ds : List (Option Tmp)) (r : List Oper) (K : Env → GH → Prop) (e : Env) (h : GH) (i : Nat) (v : Value), fX P N ds r K e (some i) v h = fE P N ds r K ((i, v) :: e) h) ∧
  (∀ (P : Program) (N : Nat) (ds : List (Option Tmp)) (r : List Oper) (K : Env → GH → Prop) (e : Env) (h : GH) (v : Value), fX P N ds r K e none v h = fE P N ds r K e h) ∧
  (∀ (v : Value) (h : GH) (K : Value → GH → Prop), uQ (some v) h K = K v h) ∧
  (∀ (next : Env → GH → Prop) (Q : GQ) (e : Env) (h : GH), rN next Q GX.normal e h = next e h) ∧
  (∀ (next : Env → GH → Prop) (Q : GQ) (e : Env) (h : GH), rN next Q GX.ret e h = Q GX.ret e h) ∧
  (∀ (next : Env → GH → Prop) (Q : GQ) (i : Nat) (e : Env) (h : GH), rN next Q (GX.exit i) e h = Q (GX.exit i) e h) ∧
  (∀ (id : Nat) (Q : GQ) (e : Env) (h : GH), tE id Q GX.normal e h = Q GX.normal e h) ∧
  (∀ (id : Nat) (Q : GQ) (e : Env) (h : GH), tE id Q GX.ret e h = Q GX.ret e h) ∧
  (∀ (id i : Nat) (Q : GQ) (e : Env) (h : GH), tE id Q (GX.exit i) e h = if i = id then Q GX.normal e h else Q (GX.exit i) e h) ∧
  (∀ {P : Program} {res : Array ResultVar} {Q : Value → GH → Prop} {e : Env} {h : GH}, zH6 P res Q GX.ret e h = uO P e h res.toList Q) ∧
  (∀ {P : Program} {res : Array ResultVar} {Q : Value → GH → Prop} {e : Env} {h : GH}, zH6 P res Q GX.normal e h = uO P e h res.toList Q) ∧
  (∀ {P : Program} {Q : Value → GH → Prop} {e : Env} {h : GH}, uO P e h [] Q = Q (Value.tuple #[]) h) ∧
  (∀ {P : Program} {Q : Value → GH → Prop} {e : Env} {h : GH} (t : Nat), uO P e h [ResultVar.tmp t] Q = Q (lk e t) h) ∧
  (∀ {P : Program} {Q : Value → GH → Prop} {e : Env} {h : GH} (t u : Nat), uO P e h [ResultVar.tmp t, ResultVar.tmp u] Q = Q (Value.tuple #[lk e t, lk e u]) h) ∧
  (∀ {P : Program} {Q : Value → GH → Prop} {e : Env} {h : GH} (t u v : Nat), uO P e h [ResultVar.tmp t, ResultVar.tmp u, ResultVar.tmp v] Q = Q (Value.tuple #[lk e t, lk e u, lk e v]) h) ∧
  (∀ {P : Program} {Q : Value → GH → Prop} {e : Env} {h : GH} (a ty : Nat), uO P e h [ResultVar.cell a ty] Q = uQ (wZ P ty h (lk e a)) h Q) ∧
  (∀ {P : Program} {Q : Value → GH → Prop} {e : Env} {h : GH} (a ty t : Nat), uO P e h [ResultVar.cell a ty, ResultVar.tmp t] Q = uQ (Option.map (fun v => Value.tuple #[v, lk e t]) (wZ P ty h (lk e a))) h Q) ∧
  (∀ {P : Program} {Q : Value → GH → Prop} {e : Env} {h : GH} (a ty t u : Nat), uO P e h [ResultVar.cell a ty, ResultVar.tmp t, ResultVar.tmp u] Q = uQ (Option.map (fun v => Value.tuple #[v, lk e t, lk e u]) (wZ P ty h (lk e a))) h Q) ∧
  (∀ (X Y : Prop), qW8 (Value.bool true) X Y = X) ∧
  (∀ (X Y : Prop), qW8 (Value.bool false) X Y = Y) ∧
  (∀ (P : Program) (N : Nat) (ds : List (Option Tmp)) (r : List Oper) (K : Env → GH → Prop) (e : Env) (h : GH) (d : Option Tmp) (op : Op), gX (some true) true P N ds r K e h d op = qN P N e h (fX P N ds r K e d) op) ∧
  (∀ (P : Program) (N : Nat) (ds : List (Option Tmp)) (r : List Oper) (K : Env → GH → Prop) (e : Env) (h : GH) (d : Option Tmp) (op : Op), gX (some false) false P N ds r K e h d op = qN P N e h (fX P N ds r K e d) op) ∧
  (∀ (P : Program) (N : Nat) (ds : List (Option Tmp)) (r : List Oper) (K : Env → GH → Prop) (e : Env) (h : GH) (d : Option Tmp) (op : Op), gX (some true) false P N ds r K e h d op = fX P N ds r K e d UD h) ∧
  (∀ (P : Program) (N : Nat) (ds : List (Option Tmp)) (r : List Oper) (K : Env → GH → Prop) (e : Env) (h : GH) (d : Option Tmp) (op : Op), gX (some false) true P N ds r K e h d op = fX P N ds r K e d UD h) ∧
  (∀ (z : List Value) (h : GH) (K : Value → GH → Prop), qJ3 (some z) h K = zC2 h z K) ∧
  (∀ (h : GH) (K : Value → GH → Prop), qV9 (some h) K = K U h) ∧
  (∀ {α : Type} {β : Type} (a : α) (f : α → β), Option.map f (some a) = some (f a)) ∧
  (∀ {α : Type} {β : Type} (f : α → β), Option.map f none = none) ∧
  (∀ {α : Type} {a b : α}, (some a).getD b = a) ∧
  (∀ {α : Type} (val val_1 : α), (some val = some val_1) = (val = val_1)) ∧
  (∀ {α : Type} {a : α} {i : Nat} {l : List α}, (a :: l)[i + 1]? = l[i]?) ∧
  (∀ {α : Type} {a : α} {l : List α}, (a :: l)[0]? = some a) ∧
  (∀ {α : Type} {a : α} {as : List α}, (a :: as).length = as.length + 1) ∧
  (∀ {α : Type}, (([] : List α)).length = 0) ∧
  (∀ {α : Type} {a : α} {as bs : List α}, a :: as ++ bs = a :: (as ++ bs)) ∧
  (∀ {α : Type} (as : List α), [] ++ as = as) ∧
  (∀ {α : Type} (as : List α), as ++ [] = as) ∧
  (∀ {α : Type} {xs ys : Array α}, (xs ++ ys).toList = xs.toList ++ ys.toList) ∧
  (∀ {α : Type} {l : List α} {start stop : Nat}, l.toArray.extract start stop = (l.extract start stop).toArray) ∧
  (∀ {α : Type} {l : List α} {start stop : Nat}, l.extract start stop = List.take (stop - start) (List.drop start l)) ∧
  (∀ {α : Type} {a : α} {l : List α} {i : Nat}, List.drop (i + 1) (a :: l) = List.drop i l) ∧
  (∀ {α : Type} {l : List α}, List.drop 0 l = l) ∧
  (∀ {α : Type} {a : α} {as : List α} {i : Nat}, List.take (i + 1) (a :: as) = a :: List.take i as) ∧
  (∀ {α : Type} {l : List α}, List.take 0 l = []) ∧
  (∀ {α : Type} {x : α} {xs : List α} {a : α}, (x :: xs).set 0 a = a :: xs) ∧
  (∀ {α : Type} {x : α} {xs : List α} {i : Nat} {a : α}, (x :: xs).set (i + 1) a = x :: xs.set i a) ∧
  (∀ (h : Decidable True), decide True = true) ∧
  (∀ (h : Decidable False), decide False = false) ∧
  (∀ (p : Prop), (p ∧ p) = p) ∧
  (∀ {P : Program} {t e : TypeId}, P.underlying t = some (TypeDesc.slice e) → ∀ (a : Option Addr) (n c : Nat), zS1 P t (Value.slice a n c) = some ↑n) ∧
  (∀ {P : Program} {t e : TypeId}, P.underlying t = some (TypeDesc.slice e) → ∀ (cst : Bool) (a : Option Addr) (n c : Nat), qX9 P t cst (Value.slice a n c) (Value.slice none 0 0) = some a.isNone) ∧
  (∀ {P : Program} {t : TypeId}, P.underlying t = some TypeDesc.bool → ∀ (c a b : Bool), qX9 P t c (Value.bool a) (Value.bool b) = some (a == b)) ∧
  (∀ {P : Program} {t e : TypeId}, P.underlying t = some (TypeDesc.pointer e) → ∀ (c : Bool) (a : Addr), qX9 P t c (Value.pointer (some a)) (Value.pointer none) = some false) ∧
  (∀ {P : Program} {t e : TypeId}, P.underlying t = some (TypeDesc.pointer e) → ∀ (c : Bool) (a : Option Addr), qX9 P t c (Value.pointer none) (Value.pointer a) = some a.isNone) ∧
  (∀ (elem elem_1 : TypeId), (TypeDesc.slice elem = TypeDesc.slice elem_1) = (elem = elem_1)) ∧
  (∀ (elem elem_1 : TypeId), (TypeDesc.pointer elem = TypeDesc.pointer elem_1) = (elem = elem_1)) ∧
  (∀ {x : Int}, -9223372036854775808 ≤ x → x ≤ 9223372036854775807 → IntKind.i64.wrap x = x) ∧
  (∀ {x : Int}, 0 ≤ x → x ≤ 255 → IntKind.u8.wrap x = x) ∧
  (∀ {x : Int}, 0 ≤ x → x ≤ 4294967295 → IntKind.u32.wrap x = x) ∧
  (∀ {x : Int}, 0 ≤ x → x ≤ 18446744073709551615 → IntKind.u64.wrap x = x) ∧
  (∀ (p : Prop), (True ∧ p) = p) ∧
  (∀ (p : Prop), (p ∧ True) = p) ∧
  ((false = true) = False) ∧
  (∀ {α : Type} (a : α), a = a ↔ True) ∧
  ((!true) = false) ∧
  ((!false) = true) ∧
  (∀ (b : Bool), (b || false) = b) ∧
  (∀ (b : Bool), (false || b) = b) ∧
  (∀ (b : Bool), (true && b) = b) ∧
  (∀ (b : Bool), (b && true) = b) :=
  ⟨@qL9, @qD4, @qD3, @kops_ap, @kops_no, @zQ7, @jV, @thenQ_r, @thenQ_x, @blockQ_n, @blockQ_r, @blockQ_x, @retQ_r, @retQ_n, @gret_0, @gret_1, @gret_2, @gret_3, @uW, @dN, @gret_c2, @gif_t, @gif_f, @want_tt, @want_ff, @want_tf, @want_ft, @qY4, @zQ8, @Option.map_some, @Option.map_none, @Option.getD_some, @Option.some.injEq, @List.getElem?_cons_succ, @List.getElem?_cons_zero, @List.length_cons, @List.length_nil, @List.cons_append, @List.nil_append, @List.append_nil, @Array.toList_append, @List.extract_toArray, @List.extract_eq_take_drop, @List.drop_succ_cons, @List.drop_zero, @List.take_succ_cons, @List.take_zero, @List.set_cons_zero, @List.set_cons_succ, @decide_true, @decide_false, @and_self, @gLen_s, @gEq_nil, @gEq_bool, @gEq_pp, @gEq_pn, @TypeDesc.slice.injEq, @TypeDesc.pointer.injEq, @Gh.wrap64, @sJ, @qI7, @fK, @true_and, @and_true, @Bool.false_eq_true, @eq_self_iff_true, @Bool.not_true, @Bool.not_false, @Bool.or_false, @Bool.false_or, @Bool.true_and, @Bool.and_true⟩
theorem zC :
  (∀ (P : Program) (N : Nat) (ds : List (Option Tmp)) (wt : List (Nat × RV)) (K : Env → GH → Prop) (e : Env) (h : GH), sI P N ds [] wt K e h = K e h) ∧
  (∀ (P : Program) (N : Nat) (ds : List (Option Tmp)) (r : List (Nat × Oper × List Nat)) (wt : List (Nat × RV)) (i : Nat) (un : List Nat) (K : Env → GH → Prop) (e : Env) (h : GH) (d : Option Tmp) (op : Op) (ty : TypeId) (pos : String) (after : Array Edge), sI P N ds ((i, { dst := d, op := op, type := ty, pos := pos, after := after, guard := none }, un) :: r) wt K e h = qD5 (qL op) P N ds r wt i op un K e d h) ∧
  (∀ (P : Program) (N : Nat) (ds : List (Option Tmp)) (r : List (Nat × Oper × List Nat)) (wt : List (Nat × RV)) (i : Nat) (un : List Nat) (K : Env → GH → Prop) (e : Env) (h : GH) (d : Option Tmp) (op : Op) (ty : TypeId) (pos : String) (after : Array Edge) (j : Nat) (w : Bool), sI P N ds ((i, { dst := d, op := op, type := ty, pos := pos, after := after, guard := some (j, w) }, un) :: r) wt K e h = lC (qC ds e j w) w P N ds r wt i op un K e d h) ∧
  (∀ (P : Program) (N : Nat) (ds : List (Option Tmp)) (r : List (Nat × Oper × List Nat)) (wt : List (Nat × RV)) (i : Nat) (un : List Nat) (K : Env → GH → Prop) (e : Env) (h : GH) (d : Option Tmp) (op : Op), qD5 true P N ds r wt i op un K e d h = qN P N e h (kdrE P N ds r wt un K e d) op) ∧
  (∀ (P : Program) (N : Nat) (ds : List (Option Tmp)) (r : List (Nat × Oper × List Nat)) (wt : List (Nat × RV)) (i : Nat) (un : List Nat) (K : Env → GH → Prop) (e : Env) (h : GH) (d : Option Tmp) (op : Op), qD5 false P N ds r wt i op un K e d h = qN P N e h (kdrF P N ds r wt i op K e d) op) ∧
  (∀ (P : Program) (N : Nat) (ds : List (Option Tmp)) (r : List (Nat × Oper × List Nat)) (wt : List (Nat × RV)) (i : Nat) (un : List Nat) (K : Env → GH → Prop) (e : Env) (h : GH) (d : Option Tmp) (op : Op), lC (some true) true P N ds r wt i op un K e d h = qD5 (qL op) P N ds r wt i op un K e d h) ∧
  (∀ (P : Program) (N : Nat) (ds : List (Option Tmp)) (r : List (Nat × Oper × List Nat)) (wt : List (Nat × RV)) (i : Nat) (un : List Nat) (K : Env → GH → Prop) (e : Env) (h : GH) (d : Option Tmp) (op : Op), lC (some false) false P N ds r wt i op un K e d h = qD5 (qL op) P N ds r wt i op un K e d h) ∧
  (∀ (P : Program) (N : Nat) (ds : List (Option Tmp)) (r : List (Nat × Oper × List Nat)) (wt : List (Nat × RV)) (i : Nat) (un : List Nat) (K : Env → GH → Prop) (e : Env) (h : GH) (d : Option Tmp) (op : Op), lC (some true) false P N ds r wt i op un K e d h = sI P N ds r wt K (uH e d UD) h) ∧
  (∀ (P : Program) (N : Nat) (ds : List (Option Tmp)) (r : List (Nat × Oper × List Nat)) (wt : List (Nat × RV)) (i : Nat) (un : List Nat) (K : Env → GH → Prop) (e : Env) (h : GH) (d : Option Tmp) (op : Op), lC (some false) true P N ds r wt i op un K e d h = sI P N ds r wt K (uH e d UD) h) ∧
  (∀ (e : Env) (j : Nat) (v : Value), uH e (some j) v = (j, v) :: e) ∧
  (∀ (e : Env) (v : Value), uH e none v = e) ∧
  (∀ (P : Program) (N : Nat) (ds : List (Option Tmp)) (r : List (Nat × Oper × List Nat)) (wt : List (Nat × RV)) (i : Nat) (K : Env → GH → Prop) (e : Env) (h : GH) (d : Option Tmp) (op : Op) (v : Value), kdrF P N ds r wt i op K e d v h = sI P N ds r (wput wt i (rvOf e v op)) K (uH e d v) h) ∧
  (∀ (P : Program) (N : Nat) (ds : List (Option Tmp)) (r : List (Nat × Oper × List Nat)) (wt : List (Nat × RV)) (un : List Nat) (K : Env → GH → Prop) (e : Env) (h : GH) (d : Option Tmp) (v : Value), kdrE P N ds r wt un K e d v h = (chk P h wt un ∧ sI P N ds r wt K (uH e d v) h)) ∧
  (∀ (wt : List (Nat × RV)) (i : Nat), wput wt i none = wt) ∧
  (∀ (wt : List (Nat × RV)) (i : Nat) (rv : RV), wput wt i (some rv) = (i, rv) :: wt) ∧
  (∀ (P : Program) (wt : List (Nat × RV)) (h : GH), chk P h wt [] = True) ∧
  (∀ (P : Program) (wt : List (Nat × RV)) (h : GH) (j : Nat) (l : List Nat), chk P h wt (j :: l) = (zL2 P h (wlk wt j) ∧ chk P h wt l)) ∧
  (∀ (P : Program) (h : GH), zL2 P h none = True) ∧
  (∀ (P : Program) (h : GH) (rv : RV), zL2 P h (some rv) = rdv P h rv) :=
  ⟨@gdr_nil, @gdr_none, @gdr_some, @gdrO_t, @gdrO_f, @gdrW_tt, @gdrW_ff, @gdrW_tf, @gdrW_ft, @eput_s, @eput_n, @kdrF_ap, @kdrE_ap, @wput_n, @wput_s, @chk_n, @chk_c, @chk1_n, @chk1_s⟩
theorem qO :
  (∀ (P : Program) (op : BinOp) (t : TypeId) (cst : Bool) (h : GH) (K : Value → GH → Prop) (k : IntKind) (a : Int) (k' : IntKind) (b : Int), gBin P op t cst (Value.int k a) (Value.int k' b) h K = gInt op k a k' b h K) ∧
  (∀ (P : Program) (op : BinOp) (t : TypeId) (cst : Bool) (h : GH) (K : Value → GH → Prop) (a b : ByteArray), gBin P op t cst (Value.string a) (Value.string b) h K = gStrOp op a b h K) ∧
  (∀ (P : Program) (t : TypeId) (cst : Bool) (x y : Value) (h : GH) (K : Value → GH → Prop), (∀ (k : IntKind) (a : Int) (k' : IntKind) (b : Int), x = Value.int k a → y = Value.int k' b → False) → (∀ (a b : ByteArray), x = Value.string a → y = Value.string b → False) → gBin P BinOp.eql t cst x y h K = uQ (Option.map Value.bool (qX9 P t cst x y)) h K) ∧
  (∀ (P : Program) (t : TypeId) (cst : Bool) (x y : Value) (h : GH) (K : Value → GH → Prop), (∀ (k : IntKind) (a : Int) (k' : IntKind) (b : Int), x = Value.int k a → y = Value.int k' b → False) → (∀ (a b : ByteArray), x = Value.string a → y = Value.string b → False) → gBin P BinOp.neq t cst x y h K = uQ (Option.map (fun b => Value.bool !b) (qX9 P t cst x y)) h K) ∧
  (∀ (k : IntKind) (a : Int) (k' : IntKind) (b : Int) (h : GH) (K : Value → GH → Prop), gInt BinOp.shl k a k' b h K = (0 ≤ b ∧ K (Value.int k (k.wrap (a * 2 ^ min b.toNat k.bits))) h)) ∧
  (∀ (k : IntKind) (a : Int) (k' : IntKind) (b : Int) (h : GH) (K : Value → GH → Prop), gInt BinOp.shr k a k' b h K = (0 ≤ b ∧ K (Value.int k (a.fdiv (2 ^ min b.toNat k.bits))) h)) ∧
  (∀ (k : IntKind) (a : Int) (k' : IntKind) (b : Int) (h : GH) (K : Value → GH → Prop), gInt BinOp.add k a k' b h K = (k = k' ∧ K (Value.int k (k.wrap (a + b))) h)) ∧
  (∀ (k : IntKind) (a : Int) (k' : IntKind) (b : Int) (h : GH) (K : Value → GH → Prop), gInt BinOp.sub k a k' b h K = (k = k' ∧ K (Value.int k (k.wrap (a - b))) h)) ∧
  (∀ (k : IntKind) (a : Int) (k' : IntKind) (b : Int) (h : GH) (K : Value → GH → Prop), gInt BinOp.mul k a k' b h K = (k = k' ∧ K (Value.int k (k.wrap (a * b))) h)) ∧
  (∀ (k : IntKind) (a : Int) (k' : IntKind) (b : Int) (h : GH) (K : Value → GH → Prop), gInt BinOp.quo k a k' b h K = (k = k' ∧ b ≠ 0 ∧ K (Value.int k (k.wrap (a.tdiv b))) h)) ∧
  (∀ (k : IntKind) (a : Int) (k' : IntKind) (b : Int) (h : GH) (K : Value → GH → Prop), gInt BinOp.rem k a k' b h K = (k = k' ∧ b ≠ 0 ∧ K (Value.int k (a.tmod b)) h)) ∧
  (∀ (k : IntKind) (a : Int) (k' : IntKind) (b : Int) (h : GH) (K : Value → GH → Prop), gInt BinOp.and k a k' b h K = (k = k' ∧ K (Value.int k (bits BinOp.and k a b)) h)) ∧
  (∀ (k : IntKind) (a : Int) (k' : IntKind) (b : Int) (h : GH) (K : Value → GH → Prop), gInt BinOp.or k a k' b h K = (k = k' ∧ K (Value.int k (bits BinOp.or k a b)) h)) ∧
  (∀ (k : IntKind) (a : Int) (k' : IntKind) (b : Int) (h : GH) (K : Value → GH → Prop), gInt BinOp.xor k a k' b h K = (k = k' ∧ K (Value.int k (bits BinOp.xor k a b)) h)) ∧
  (∀ (k : IntKind) (a : Int) (k' : IntKind) (b : Int) (h : GH) (K : Value → GH → Prop), gInt BinOp.andNot k a k' b h K = (k = k' ∧ K (Value.int k (bits BinOp.andNot k a b)) h)) ∧
  (∀ (k : IntKind) (a : Int) (k' : IntKind) (b : Int) (h : GH) (K : Value → GH → Prop), gInt BinOp.eql k a k' b h K = (k = k' ∧ K (Value.bool (a == b)) h)) ∧
  (∀ (k : IntKind) (a : Int) (k' : IntKind) (b : Int) (h : GH) (K : Value → GH → Prop), gInt BinOp.neq k a k' b h K = (k = k' ∧ K (Value.bool (a != b)) h)) ∧
  (∀ (k : IntKind) (a : Int) (k' : IntKind) (b : Int) (h : GH) (K : Value → GH → Prop), gInt BinOp.lss k a k' b h K = (k = k' ∧ K (Value.bool (decide (a < b))) h)) ∧
  (∀ (k : IntKind) (a : Int) (k' : IntKind) (b : Int) (h : GH) (K : Value → GH → Prop), gInt BinOp.leq k a k' b h K = (k = k' ∧ K (Value.bool (decide (a ≤ b))) h)) ∧
  (∀ (k : IntKind) (a : Int) (k' : IntKind) (b : Int) (h : GH) (K : Value → GH → Prop), gInt BinOp.gtr k a k' b h K = (k = k' ∧ K (Value.bool (decide (a > b))) h)) ∧
  (∀ (k : IntKind) (a : Int) (k' : IntKind) (b : Int) (h : GH) (K : Value → GH → Prop), gInt BinOp.geq k a k' b h K = (k = k' ∧ K (Value.bool (decide (a ≥ b))) h)) ∧
  (∀ (x y : ByteArray) (h : GH) (K : Value → GH → Prop), gStrOp BinOp.add x y h K = (x.size + y.size ≤ 9223372036854775807 ∧ K (Value.string (x ++ y)) h)) ∧
  (∀ (x y : ByteArray) (h : GH) (K : Value → GH → Prop), gStrOp BinOp.eql x y h K = K (Value.bool (x.toList == y.toList)) h) ∧
  (∀ (x y : ByteArray) (h : GH) (K : Value → GH → Prop), gStrOp BinOp.neq x y h K = K (Value.bool !x.toList == y.toList) h) ∧
  (∀ (x y : ByteArray) (h : GH) (K : Value → GH → Prop), gStrOp BinOp.lss x y h K = K (Value.bool (Op.bytesLess x.toList y.toList)) h) ∧
  (∀ (x y : ByteArray) (h : GH) (K : Value → GH → Prop), gStrOp BinOp.leq x y h K = K (Value.bool (Op.bytesLess x.toList y.toList || x.toList == y.toList)) h) ∧
  (∀ (x y : ByteArray) (h : GH) (K : Value → GH → Prop), gStrOp BinOp.gtr x y h K = K (Value.bool !(Op.bytesLess x.toList y.toList || x.toList == y.toList)) h) ∧
  (∀ (x y : ByteArray) (h : GH) (K : Value → GH → Prop), gStrOp BinOp.geq x y h K = K (Value.bool !Op.bytesLess x.toList y.toList) h) ∧
  (∀ (k : IntKind) (n : Int), gUn UnOp.neg (Value.int k n) = some (Value.int k (k.wrap (0 - n)))) ∧
  (∀ (k : IntKind) (n : Int), gUn UnOp.xor (Value.int k n) = some (Value.int k (bits BinOp.xor k (if k.signed = true then -1 else k.max) n))) ∧
  (∀ (b : Bool), gUn UnOp.not (Value.bool b) = some (Value.bool !b)) ∧
  (∀ (a b : Value) (t : Bool), gPick (Value.bool t) a b = some (if t = true then a else b)) ∧
  (∀ (P : Program) (a : Addr), gNil P (Value.pointer (some a)) = some (Value.pointer (some a))) ∧
  (∀ (P : Program) (f : FuncId) (a b : Array Value), gNil P (Value.func (Fn.func f) a b) = some (Value.func (Fn.func f) a b)) ∧
  (∀ (P : Program) (n : String) (a b : Array Value), gNil P (Value.func (Fn.method n) a b) = qG P n a.toList b.toList) ∧
  (∀ (P : Program) (t : TypeId) (v : Value), gNil P (Value.iface t v) = some (Value.iface t v)) ∧
  (∀ (i : Nat) (vs : Array Value), gExtract (Value.tuple vs) i = vs[i]?) ∧
  (∀ (P : Program) (t : TypeId) (x : Value), gIfc P t x = if qX P t = true then some (Value.iface t x) else none) ∧
  (∀ (P : Program) (t d : TypeId) (h : GH) (x : Value) (K : Value → GH → Prop), gConvK P t d h x K = if t = d then zO1 P t d h x K else uQ (uA P t d h x) h K) ∧
  (∀ (P : Program) (t : TypeId) (x : Value) (k : IntKind) (n : Int), gIndexO P t x (Value.int k n) = zJ P t x n) ∧
  (∀ (P : Program) (t : TypeId) (x : Value) (k : IntKind) (n : Int), gIndexVO P t x (Value.int k n) = qA P t x n) ∧
  (∀ (P : Program) (t : TypeId) (h : GH) (K : Value → GH → Prop) (k : IntKind) (l_2 : Int) (k_1 : IntKind) (c_2 : Int), gMakeV P t h (Value.int k l_2) (Value.int k_1 c_2) K = zC6 P t h l_2 c_2 K) ∧
  (∀ (x : Value) (r : List Value), gMinV x r = if isInt x = true then gMin x r else none) ∧
  (∀ (x : Value) (r : List Value), gMaxV x r = if isInt x = true then gMax x r else none) ∧
  (∀ (k : IntKind) (n : Int), isInt (Value.int k n) = true) ∧
  (∀ (x : Value), gMin x [] = some x) ∧
  (∀ (r : List Value) (k : IntKind) (a : Int) (k_1 : IntKind) (b : Int), gMin (Value.int k a) (Value.int k_1 b :: r) = gMin (Value.int k (if b < a then b else a)) r) ∧
  (∀ (x : Value), gMax x [] = some x) ∧
  (∀ (r : List Value) (k : IntKind) (a : Int) (k_1 : IntKind) (b : Int), gMax (Value.int k a) (Value.int k_1 b :: r) = gMax (Value.int k (if b > a then b else a)) r) ∧
  (∀ (P : Program) (h : GH) (K : Value → GH → Prop) (t : TypeId) (x : Value), gBlt P Builtin.len [t] [x] h K = uQ (Option.map (Value.int IntKind.i64) (qE P t h x)) h K) ∧
  (∀ (P : Program) (h : GH) (K : Value → GH → Prop) (t : TypeId) (x : Value), gBlt P Builtin.cap [t] [x] h K = uQ (Option.map (Value.int IntKind.i64) (zS3 P t x)) h K) ∧
  (∀ (P : Program) (ats : List TypeId) (h : GH) (K : Value → GH → Prop) (x_1 : Value) (r : List Value), gBlt P Builtin.min ats (x_1 :: r) h K = uQ (gMinV x_1 r) h K) ∧
  (∀ (P : Program) (ats : List TypeId) (h : GH) (K : Value → GH → Prop) (x_1 : Value) (r : List Value), gBlt P Builtin.max ats (x_1 :: r) h K = uQ (gMaxV x_1 r) h K) ∧
  (∀ (P : Program) (h : GH) (K : Value → GH → Prop) (t u : TypeId) (s x : Value), gBlt P Builtin.append [t, u] [s, x] h K = gN P t u h s x K) ∧
  (∀ (P : Program) (h : GH) (K : Value → GH → Prop) (t head : TypeId) (d x : Value), gBlt P Builtin.copy [t, head] [d, x] h K = qY1 P t h d x K) ∧
  (∀ (P : Program) (N : Nat) (args : List Value) (h : GH) (K : Value → GH → Prop) (g : FuncId) (a b : Array Value), gCallV P N (Value.func (Fn.func g) a b) args h K = GTri P N g (a.toList ++ args ++ b.toList) h K) ∧
  (∀ (cs : Array Value), vcells (Value.agg cs) = cs.toList) ∧
  (∀ (x : Value), (∀ (cs : Array Value), x = Value.agg cs → False) → vcells x = [x]) ∧
  (∀ (x : Nat), aenv x [] = []) ∧
  (∀ (x : Nat) (v : Value) (r : List Value), aenv x (v :: r) = (x, v) :: aenv (x + 1) r) ∧
  (∀ (x : Nat), lk [] x = U) ∧
  (∀ (x i : Nat) (v : Value) (r : List (Nat × Value)), lk ((i, v) :: r) x = if i = x then v else lk r x) ∧
  (∀ (e : Env) (i : Tmp), ev e (Operand.tmp i) = lk e i) ∧
  (∀ (e : Env) (v : Value), ev e (Operand.const v) = v) ∧
  (∀ (e : Env) (g : Nat), ev e (Operand.global g) = Value.pointer (some { block := g, off := 0 })) ∧
  (∀ (e : Env) (f : FuncId), ev e (Operand.func f) = Value.func (Fn.func f) #[] #[]) ∧
  (∀ {α : Type} {l : List α} {i : Nat}, l.toArray[i]? = l[i]?) ∧
  (∀ {α β : Type} {f : α → β} {xs : Array α}, (xs.map f).toList = xs.toList.map f) ∧
  (∀ {α β : Type} {f : α → β}, List.map f [] = []) ∧
  (∀ {α β : Type} {f : α → β} {a : α} {l : List α}, List.map f (a :: l) = f a :: List.map f l) :=
  ⟨@gBin.eq_1, @gBin.eq_2, @gBin.eq_3, @gBin.eq_4, @gInt.eq_1, @gInt.eq_2, @gInt.eq_3, @gInt.eq_4, @gInt.eq_5, @gInt.eq_6, @gInt.eq_7, @gInt.eq_8, @gInt.eq_9, @gInt.eq_10, @gInt.eq_11, @gInt.eq_12, @gInt.eq_13, @gInt.eq_14, @gInt.eq_15, @gInt.eq_16, @gInt.eq_17, @gStrOp.eq_1, @gStrOp.eq_2, @gStrOp.eq_3, @gStrOp.eq_4, @gStrOp.eq_5, @gStrOp.eq_6, @gStrOp.eq_7, @gUn.eq_1, @gUn.eq_2, @gUn.eq_3, @gPick.eq_1, @gNil.eq_1, @gNil.eq_2, @gNil.eq_3, @gNil.eq_4, @gExtract.eq_1, @gIfc.eq_1, @gConvK.eq_1, @gIndexO.eq_1, @gIndexVO.eq_1, @gMakeV.eq_1, @gMinV.eq_1, @gMaxV.eq_1, @isInt.eq_1, @gMin.eq_1, @gMin.eq_2, @gMax.eq_1, @gMax.eq_2, @gBlt.eq_1, @gBlt.eq_2, @gBlt.eq_3, @gBlt.eq_4, @gBlt.eq_5, @gBlt.eq_6, @gCallV.eq_1, @vcells.eq_1, @vcells.eq_2, @aenv.eq_1, @aenv.eq_2, @lk.eq_1, @lk.eq_2, @ev.eq_1, @ev.eq_2, @ev.eq_3, @ev.eq_4, @List.getElem?_toArray, @Array.toList_map, @List.map_nil, @List.map_cons⟩
theorem qZ :
  (∀ (e : Env) (v : Value) (t : TypeId) (x_1 i : Operand) (ok : Bool), rvOf e v (Op.lookup t x_1 i ok) = some (RV.look t (ev e x_1) (ev e i) ok v)) ∧
  (∀ (e : Env) (v : Value) (c : Call), rvOf e v (Op.call c) = rvLen v c.callee c.argTypes.toList (List.map (ev e) c.args.toList)) ∧
  (∀ (e : Env) (v : Value) (t : TypeId) (a : Operand), rvOf e v (Op.load t a) = some (RV.load t (ev e a) v)) ∧
  (∀ (e : Env) (v : Value) (s d : TypeId) (x_1 : Operand), rvOf e v (Op.convert s d x_1) = if s = d then none else some (RV.conv s d (ev e x_1) v)) ∧
  (∀ (e : Env) (v : Value) (t : TypeId) (x_1 : Operand) (lo hi mx : Option Operand), rvOf e v (Op.slice t x_1 lo hi mx) = some (RV.slc t (ev e x_1) (Option.map (ev e) lo) (Option.map (ev e) hi) (Option.map (ev e) mx) v)) ∧
  (∀ (e : Env) (v : Value) (x : Op), (∀ (t : TypeId) (x_1 i : Operand) (ok : Bool), x = Op.lookup t x_1 i ok → False) → (∀ (c : Call), x = Op.call c → False) → (∀ (t : TypeId) (a : Operand), x = Op.load t a → False) → (∀ (s d : TypeId) (x_1 : Operand), x = Op.convert s d x_1 → False) → (∀ (t : TypeId) (x_1 : Operand) (lo hi mx : Option Operand), x = Op.slice t x_1 lo hi mx → False) → rvOf e v x = none) ∧
  (∀ (v : Value) (t : TypeId) (x_3 : Value), rvLen v (Callee.builtin Builtin.len) [t] [x_3] = some (RV.len t x_3 v)) ∧
  (∀ (v : Value) (x : Callee) (x_1 : List TypeId) (x_2 : List Value), (∀ (t : TypeId) (x_3 : Value), x = Callee.builtin Builtin.len → x_1 = [t] → x_2 = [x_3] → False) → rvLen v x x_1 x_2 = none) ∧
  (∀ (wt : List (Nat × RV)) (i : Nat) (r : RV), wput wt i (some r) = (i, r) :: wt) ∧
  (∀ (wt : List (Nat × RV)) (i : Nat), wput wt i none = wt) ∧
  (∀ (x : Nat), wlk [] x = none) ∧
  (∀ (x i : Nat) (v : RV) (r : List (Nat × RV)), wlk ((i, v) :: r) x = if i = x then some v else wlk r x) ∧
  (∀ (P : Program) (h : GH) (t : TypeId) (x_1 v : Value), rdv P h (RV.load t x_1 v) = (wZ P t h x_1 = some v)) ∧
  (∀ (P : Program) (h : GH) (s d : TypeId) (x_1 v : Value), rdv P h (RV.conv s d x_1 v) = (uA P s d h x_1 = some v)) ∧
  (∀ (P : Program) (h : GH) (t : TypeId) (x_1 : Value) (lo hi mx : Option Value) (v : Value), rdv P h (RV.slc t x_1 lo hi mx v) = (vW P t h x_1 lo hi mx = some v)) ∧
  (∀ (P : Program) (h : GH) (t : TypeId) (x_1 key : Value) (ok : Bool) (v : Value), rdv P h (RV.look t x_1 key ok v) = (qA2 P t h x_1 key ok = some v)) ∧
  (∀ (P : Program) (h : GH) (t : TypeId) (x_1 v : Value), rdv P h (RV.len t x_1 v) = (Option.map (Value.int IntKind.i64) (qE P t h x_1) = some v)) ∧
  (∀ (ops : Array Oper), dsOf ops = List.map (fun x => x.dst) ops.toList) :=
  ⟨@rvOf.eq_1, @rvOf.eq_2, @rvOf.eq_3, @rvOf.eq_4, @rvOf.eq_5, @rvOf.eq_6, @rvLen.eq_1, @rvLen.eq_2, @wput.eq_1, @wput.eq_2, @wlk.eq_1, @wlk.eq_2, @rdv.eq_1, @rdv.eq_2, @rdv.eq_3, @rdv.eq_4, @rdv.eq_5, @dsOf.eq_1⟩
theorem qQ : type_of% @Int.cast_ofNat_Int := @Int.cast_ofNat_Int
section
variable {P : Program} {N nt : Nat}
variable {Q : GQ} {e : Env} {h : GH} {ops : Array Oper} {l : List Oper}
theorem qB9 {p : Oper → Bool} {l : List Oper} (h : l.all p = true) (m : Nat) : (l.take m).all p = true ∧ (l.drop m).all p = true := by
  rw [← List.take_append_drop m l, List.all_append, Bool.and_eq_true] at h
  exact h
end
end Go.Gh
