/- Parts of this claim's proof, 3. No statement of the claim stands here. -/
import Derived.Test.YtkifgpomablpiaaGreatDoorP2
import Derived.MapKept
import Derived.Maps.RangeRun
namespace Go.Gh
open Go Go.RowKit
set_option linter.unusedVariables false
set_option linter.unusedSimpArgs false
def mok : List Value → Bool
  | [] => true
  | .string _ :: _ :: r => mok r
  | _ => false
def lS (s : ByteArray) : List Value → Option Value
  | .string k :: v :: r => if (s == k) = true then some v else lS s r
  | _ => none
def qI2 (s : ByteArray) (x : Value) : List Value → List Value
  | .string k :: v :: r => if (s == k) = true then .string s :: x :: r else .string k :: v :: qI2 s x r
  | l => [.string s, x] ++ l
def yP (h : GH) (x : Value) : Option (List Value) :=
  match x with
  | .map none => some []
  | .map (some k) => match h (k + 1) with
    | some B => match B.cells with
      | .chan (some 1) :: l => if mok l = true then some l else none
      | _ => none
    | none => none
  | _ => none
def gzv (P : Program) (t : TypeId) : Option Value :=
  match P.info? t with
  | some i => match i.zero with
    | some z => if zH2 z = true then some z else none
    | none => none
  | none => none
def qV5 (P : Program) (t : TypeId) : Option TypeId :=
  match P.underlying t with
  | some (.map kt et) => match P.underlying kt with
    | some .string => some et
    | _ => none
  | _ => none
theorem lN {P : Program} {t et : TypeId} (h : qV5 P t = some et) : ∃ kt, P.underlying t = some (.map kt et) ∧ P.underlying kt = some .string := by
  unfold qV5 at h
  split at h
  · rename_i kt et' hu
    split at h
    · rename_i hk; cases h; exact ⟨kt, hu, hk⟩
    · cases h
  · cases h
theorem gL {N : Nat} {φ : Fm} {h : GH} {w : World} (s : Sim N φ h w) {k : Nat} {l : List Value} (e : yP h (.map (some k)) = some l) {f : Fx} (hf : φ k = some f) :
    mok l = true ∧ ∃ es ck, w.heap[f.b]? = some (Obj.map es ck) ∧ VRs φ l (sU es.toList) ∧ N ≤ f.b ∧ (∀ e ∈ es.toList, e.born < ck) ∧ ∃ B, h (k + 1) = some B ∧ B.cells = MM :: l ∧ es.toList.Pairwise fun x y => MapEntry.born x < MapEntry.born y := by
  unfold yP at e
  simp only at e
  split at e
  case h_2 => cases e
  rename_i B hB
  split at e
  case h_2 => cases e
  rename_i l' hl
  split at e
  case isFalse => cases e
  rename_i hm
  cases e
  obtain ⟨_, j, g, q1, q2, q3, q4⟩ := s.mm.mdom _ B hB (by unfold fM; rw [hl]; rfl)
  obtain rfl : k = j := by omega
  rw [hf] at q2; cases q2
  rw [hl] at q4
  obtain ⟨es, ck, q4, q5, q6, q7⟩ := q4
  exact ⟨hm, es, ck, q4, q5, q3.1, q6, B, hB, hl, q7⟩
theorem qF0 {φ : Fm} (s : ByteArray) : ∀ (l : List Value) (es : List MapEntry) (n : Nat), VRs φ l (sU es) → mok l = true →
    (∀ v, lS s l = some v → ∃ i v', Instr.findNow .string (.string s) es n = some (some (n + i, v')) ∧ VR φ v v' ∧ i < es.length ∧ VRs φ (qI2 s .nilFunc l) (sU (es.modify i fun e => { e with key := .string s, val := .nilFunc })) ∧ ∀ x x', VR φ x x' → VRs φ (qI2 s x l) (sU (es.modify i fun e => { e with key := .string s, val := x' }))) ∧
    (lS s l = none → Instr.findNow .string (.string s) es n = some none ∧ ∀ x x' b, VR φ x x' → VRs φ (qI2 s x l) (sU (es ++ [⟨.string s, x', b⟩])))
  | [], [], n, _, _ => ⟨fun v h => (by cases h), fun _ => ⟨rfl, fun x x' b hx => .cons (.string s) (.cons hx .nil)⟩⟩
  | [], e :: es, n, h, _ => by simp only [sU] at h; cases h
  | v :: l, [], n, h, _ => by simp only [sU] at h; cases h
  | [v], e :: es, n, h, hm => by simp only [sU] at h; cases h with | cons a b => cases b
  | k :: v :: l, e :: es, n, h, hm => by
    cases k with
    | string k =>
      simp only [sU] at h
      cases h with
      | cons h1 h2 =>
      cases h2 with
      | cons h2 h3 =>
      have hk : e.key = .string k := by generalize e.key = z at h1; cases h1; rfl
      obtain ⟨i1, i2⟩ := qF0 s l es (n + 1) h3 (by simpa [mok] using hm)
      by_cases hs : (s == k) = true
      · refine ⟨fun v0 hv => ?_, fun hn => ?_⟩
        · rw [lS, if_pos hs] at hv; cases hv
          refine ⟨0, e.val, ?_, h2, by simp, ?_, fun x x' hx => ?_⟩
          · simp [Instr.findNow, Instr.sameNow, hk, hs]
          · rw [qI2, if_pos hs]; exact .cons (.string s) (.cons .nilFunc h3)
          · rw [qI2, if_pos hs]; exact .cons (.string s) (.cons hx h3)
        · rw [lS, if_pos hs] at hn; cases hn
      · refine ⟨fun v0 hv => ?_, fun hn => ?_⟩
        · rw [lS, if_neg hs] at hv
          obtain ⟨i, v', a1, a2, a3, a4, a5⟩ := i1 v0 hv
          refine ⟨i + 1, v', ?_, a2, by simpa using a3, ?_, fun x x' hx => ?_⟩
          · simp only [Instr.findNow, Instr.sameNow, hk]
            have : (s == k) = false := by simpa using hs
            rw [this]
            simp only
            rw [a1, show n + 1 + i = n + (i + 1) by omega]
          · rw [qI2, if_neg hs]; exact .cons h1 (.cons h2 a4)
          · rw [qI2, if_neg hs]; exact .cons h1 (.cons h2 (a5 x x' hx))
        · rw [lS, if_neg hs] at hn
          obtain ⟨a1, a2⟩ := i2 hn
          refine ⟨?_, fun x x' b hx => ?_⟩
          · simp only [Instr.findNow, Instr.sameNow, hk]
            have : (s == k) = false := by simpa using hs
            rw [this]
            simp only
            exact a1
          · rw [qI2, if_neg hs]; exact .cons h1 (.cons h2 (a2 x x' b hx))
    | _ => simp [mok] at hm
theorem zO8 (s : ByteArray) : ∀ (es : List MapEntry) (n : Nat) {i : Nat} {v : Value}, Instr.findNow .string (.string s) es n = some (some (i, v)) → n ≤ i
  | [], n, i, v, h => by simp [Instr.findNow] at h
  | e :: es, n, i, v, h => by
    simp only [Instr.findNow] at h
    split at h
    · simp only [Option.some.injEq, Prod.mk.injEq] at h; omega
    · have := zO8 s es (n + 1) h; omega
    · cases h
theorem zE5 (s : ByteArray) : ∀ (es : List MapEntry) (n i : Nat) {v : Value}, Instr.findNow .string (.string s) es n = some (some (n + i, v)) → ∀ (hi : i < es.length), ∃ s', es[i].key = .string s' ∧ (s == s') = true
  | [], n, i, v, h, hi => by simp at hi
  | e :: es, n, i, v, h, hi => by
    simp only [Instr.findNow] at h
    split at h
    · rename_i hs
      simp only [Option.some.injEq, Prod.mk.injEq] at h
      obtain rfl : i = 0 := by omega
      cases hk : e.key with
      | string b => rw [hk] at hs; exact ⟨b, by simpa using hk, by simpa [Instr.sameNow] using hs⟩
      | _ => rw [hk] at hs; simp [Instr.sameNow] at hs
    · rename_i hs
      cases i with
      | zero =>
        have := zO8 s es (n + 1) h
        omega
      | succ i =>
        have h' : Instr.findNow .string (.string s) es (n + 1) = some (some (n + 1 + i, v)) := by rw [h, show n + 1 + i = n + (i + 1) by omega]
        obtain ⟨s', e1, e2⟩ := zE5 s es (n + 1) i h' (by simpa using hi)
        exact ⟨s', by simpa using e1, e2⟩
    · cases h
def qA2 (P : Program) (t : TypeId) (h : GH) (x key : Value) (ok : Bool) : Option Value :=
  match qV5 P t, key with
  | some et, .string s => match yP h x with
    | some l => match lS s l with
      | some v => some (if ok = true then .tuple #[v, .bool true] else v)
      | none => match gzv P et with
        | some z => some (if ok = true then .tuple #[z, .bool false] else z)
        | none => none
    | none => none
  | _, _ => none
theorem qD0 {P : Program} {t : TypeId} {z : Value} (h : gzv P t = some z) (w : World) : (zeroValue t).run P w = .ok z w ∧ ∀ φ, VR φ z z := by
  unfold gzv at h
  split at h
  case h_2 => cases h
  rename_i i hi
  split at h
  case h_2 => cases h
  rename_i z' hz
  split at h
  case isFalse => cases h
  rename_i hc
  cases h
  exact ⟨by simp [zeroValue, typeInfo, hi, hz], fun φ => qN3 hc⟩
theorem uV {P : Program} {kt : TypeId} (hk : P.underlying kt = some .string) (e : Bool) (n : Nat) (s : ByteArray) (w : World) : (Instr.checkKey e (n + 1) kt (.string s)).run P w = .ok () w := by
  simp [Instr.checkKey, run_underlying hk]
theorem kK {P : Program} {kt : TypeId} (hk : P.underlying kt = some .string) (s : ByteArray) (es : List MapEntry) {r : Option (Nat × Value)} (h : Instr.findNow .string (.string s) es 0 = some r) (w : World) : (Instr.findKey kt (.string s) es).run P w = .ok r w := by
  simp [Instr.findKey, run_underlying hk, h]
theorem qP4 {P : Program} {N : Nat} {φ : Fm} {h : GH} {w : World} (s : Sim N φ h w) {t : TypeId} {x x' key key' v : Value} (hx : VR φ x x') (hkey : VR φ key key') {ok : Bool} (e : qA2 P t h x key ok = some v) :
    ∃ v', (Instr.lookup t x' key' ok).run P w = .ok v' w ∧ VR φ v v' := by
  unfold qA2 at e
  split at e
  case h_2 => cases e
  rename_i et sk hsm
  obtain ⟨kt, hu, hk⟩ := lN hsm
  split at e
  case h_2 => cases e
  rename_i l hl
  cases hkey
  have done : ∀ (es : Array MapEntry), VRs φ l (sU es.toList) → mok l = true → (∀ {r : Option (Nat × Value)}, Instr.findNow .string (.string sk) es.toList 0 = some r → ∀ v', (match r with | some (_, v) => some (v, true) | none => (gzv P et).map fun z => (z, false)) = some v' → (Instr.lookup t x' (.string sk) ok).run P w = .ok (if ok = true then .tuple #[v'.1, .bool v'.2] else v'.1) w) → ∃ v', (Instr.lookup t x' (.string sk) ok).run P w = .ok v' w ∧ VR φ v v' := by
    intro es hv hm run
    obtain ⟨i1, i2⟩ := qF0 sk l es.toList 0 hv hm
    split at e
    · rename_i v0 hf
      cases e
      obtain ⟨i, v', a1, a2, _⟩ := i1 _ hf
      refine ⟨_, run a1 (v', true) rfl, ?_⟩
      cases ok
      · exact a2
      · exact .tuple (.cons a2 (.cons (.bool true) .nil))
    · rename_i hf
      split at e
      case h_2 => cases e
      rename_i z hz
      cases e
      obtain ⟨a1, _⟩ := i2 hf
      refine ⟨_, run a1 (z, false) (by rw [hz]; rfl), ?_⟩
      have hzz := (qD0 hz w).2 φ
      cases ok
      · exact hzz
      · exact .tuple (.cons hzz (.cons (.bool false) .nil))
  cases hx with
  | any v => simp [yP] at hl
  | mnil =>
    have : l = [] := by simpa [yP] using hl.symm
    subst this
    refine done #[] .nil rfl fun {r} hr v' hv' => ?_
    simp only [Instr.findNow, Option.some.injEq] at hr
    subst hr
    simp only [Option.map_eq_some_iff] at hv'
    obtain ⟨z, hz, rfl⟩ := hv'
    simp [Instr.lookup, run_underlying hu, uV hk, Instr.findKey, run_underlying hk, Instr.findNow, (qD0 hz w).1]
  | map hf =>
    obtain ⟨hm, es, ck, h1, h2, _⟩ := gL s hl hf
    refine done es h2 hm fun {r} hr v' hv' => ?_
    have hg : (getObj _).run P w = .ok (.map es ck) w := MapKept.run_getObj_map h1
    cases r with
    | some p =>
      obtain ⟨i, v0⟩ := p
      simp only [Option.some.injEq] at hv'
      subst hv'
      simp [Instr.lookup, run_underlying hu, hg, uV hk, kK hk sk es.toList hr]
    | none =>
      simp only [Option.map_eq_some_iff] at hv'
      obtain ⟨z, hz, rfl⟩ := hv'
      simp [Instr.lookup, run_underlying hu, hg, uV hk, kK hk sk es.toList hr, (qD0 hz w).1]
  | bool b => simp [yP] at hl
  | int k n => simp [yP] at hl
  | string s => simp [yP] at hl
  | pnil => simp [yP] at hl
  | ptr h => simp [yP] at hl
  | snil c => simp [yP] at hl
  | slice h hc hn => simp [yP] at hl
  | func hf hc => simp [yP] at hl
  | nilFunc => simp [yP] at hl
  | iface h => simp [yP] at hl
  | nilIface => simp [yP] at hl
  | agg h => simp [yP] at hl
  | tuple h => simp [yP] at hl
def putMap (w : World) (r : Nat) (es : Array MapEntry) (ck : Nat) : World := { w with heap := w.heap.setIfInBounds r (Obj.map es ck) }
theorem rR (w : World) (r : Nat) (es : Array MapEntry) (ck : Nat) : (putMap w r es ck).heap.size = w.heap.size := by simp [putMap]
theorem fC (w : World) (r : Nat) (es : Array MapEntry) (ck : Nat) {j : Nat} (h : j ≠ r) : (putMap w r es ck).heap[j]? = w.heap[j]? := by
  simp [putMap, Array.getElem?_setIfInBounds, Ne.symm h]
theorem pF {w : World} {r : Nat} (es : Array MapEntry) (ck : Nat) (h : r < w.heap.size) : (putMap w r es ck).heap[r]? = some (Obj.map es ck) := by
  simp [putMap, h]
theorem rS {w : World} {r : Nat} {es0 : Array MapEntry} {ck0 : Nat} (h : w.heap[r]? = some (Obj.map es0 ck0)) (es : Array MapEntry) (ck : Nat) (a : Addr) : (putMap w r es ck).cell? a = w.cell? a ∧ (putMap w r es ck).frozen? a = w.frozen? a := by
  have hlt := dM h
  by_cases ha : a.block = r
  · have h1 := pF (w := w) es ck hlt
    constructor
    · unfold World.cell?; rw [ha, h1, h]
    · unfold World.frozen?; rw [ha, h1, h]
  · have h1 := fC w r es ck ha
    constructor
    · unfold World.cell?; rw [h1]
    · unfold World.frozen?; rw [h1]
theorem Blk.put {N : Nat} {φ : Fm} {B : GB} {f : Fx} {w : World} {r : Nat} {es0 : Array MapEntry} {ck0 : Nat} (h : w.heap[r]? = some (Obj.map es0 ck0)) (es : Array MapEntry) (ck : Nat) (b : Blk N φ B f w) : Blk N φ B f (putMap w r es ck) where
  lt := by rw [rR]; exact b.lt
  cell i v hv := by rw [(rS h es ck _).1]; exact b.cell i v hv
  es := b.es
  nz := b.nz
  wrf hw i hi := by rw [(rS h es ck _).2]; exact b.wrf hw i hi
  tlf ht j h1 h2 := by rw [(rS h es ck _).1, (rS h es ck _).2]; exact b.tlf ht j h1 h2
  tll := b.tll
theorem SeenR.born {el el' : List MapEntry} {sn : Array Nat} {seen : List Value} (x : SeenR el sn seen) (hl : el'.length = el.length) (hb : ∀ i : Nat, (el'[i]?).map MapEntry.born = (el[i]?).map MapEntry.born) : SeenR el' sn seen := by
  obtain ⟨is, h1, h2, h3⟩ := x
  exact ⟨is, h1, fun i hi => by rw [hl]; exact h2 i hi, by rw [h3]; exact List.map_congr_left fun i _ => by rw [hb i]⟩
theorem MO.put {φ : Fm} {w : World} {b r : Nat} {l : List Value} {es0 es : Array MapEntry} {ck0 ck : Nat} (m : MO φ w b l) (hne : b ≠ r) (h0 : w.heap[r]? = some (Obj.map es0 ck0)) (hpw : es.toList.Pairwise fun x y => MapEntry.born x < MapEntry.born y)
    (hgr : es0.size ≤ es.size ∧ (es.size = es0.size → ck = ck0 ∧ ∀ i : Nat, (es.toList[i]?).map MapEntry.born = (es0.toList[i]?).map MapEntry.born)) : MO φ (putMap w r es ck) b l := by
  unfold MO at m ⊢
  split at m
  · obtain ⟨es1, ck1, q1, q2⟩ := m
    exact ⟨es1, ck1, by rw [fC _ _ _ _ hne]; exact q1, q2⟩
  · obtain ⟨f2, es1, ck1, since, sn, last, q1, q2, q3, q4, q5, q6⟩ := m
    by_cases hf : f2.b = r
    · subst hf
      rw [h0] at q2
      cases q2
      refine ⟨f2, es, ck, since, sn, last, q1, pF es ck (dM h0), by rw [fC _ _ _ _ hne]; exact q3, q4, by omega, fun he => ?_⟩
      have hs : es.size = es0.size := by omega
      obtain ⟨e1, e2⟩ := hgr.2 hs
      obtain ⟨z1, z2, z3, z4⟩ := q6 (by omega)
      refine ⟨by rw [e1]; exact z1, fun e he => ?_, hpw, z4.born (by simpa using hs) e2⟩
      obtain ⟨i, hi⟩ := List.mem_iff_getElem?.1 he
      have := e2 i
      rw [hi] at this
      simp only [Option.map_some] at this
      obtain ⟨e0, h1, h2⟩ := Option.map_eq_some_iff.1 this.symm
      rw [← h2]
      exact z2 e0 (List.mem_of_getElem? h1)
    · exact ⟨f2, es1, ck1, since, sn, last, q1, by rw [fC _ _ _ _ hf]; exact q2, by rw [fC _ _ _ _ hne]; exact q3, q4, q5, q6⟩
  · exact m.elim
theorem Sim.putMap {N : Nat} {φ : Fm} {h : GH} {w : World} (s : Sim N φ h w) {k : Nat} {f : Fx} (hf : φ k = some f) {B : GB} (hB : h (k + 1) = some B) (hm : fM B = true) {es0 : Array MapEntry} {ck0 : Nat} (h0 : w.heap[f.b]? = some (Obj.map es0 ck0))
    {l : List Value} {es : Array MapEntry} {ck : Nat} (hv : VRs φ l (sU es.toList)) (hb : ∀ e ∈ es.toList, e.born < ck) (hpw : es.toList.Pairwise fun x y => MapEntry.born x < MapEntry.born y) (hgr : es0.size ≤ es.size ∧ (es.size = es0.size → ck = ck0 ∧ ∀ i : Nat, (es.toList[i]?).map MapEntry.born = (es0.toList[i]?).map MapEntry.born)) : Sim N φ (yB h (k + 1) { B with cells := MM :: l }) (putMap w f.b es ck) := by
  have hlt := dM h0
  obtain ⟨⟨hk0, htl⟩, j, g, q1, q2, q3, q4⟩ := s.mm.mdom _ B hB hm
  obtain rfl : k = j := by omega
  rw [hf] at q2; cases q2
  have hm' : fM { B with cells := MM :: l } = true := rfl
  refine ⟨s.ini, by rw [rR]; exact s.big, s.fin, fun j C hj hmc => ?_, ?_, fun j g hj => by rw [rR]; exact s.rng j g hj, ?_⟩
  · by_cases hjk : j = k + 1
    · subst hjk; rw [zP] at hj; cases hj; rw [hm'] at hmc; cases hmc
    · rw [zT _ _ hjk] at hj
      obtain ⟨g, p1, p2⟩ := s.dom j C hj hmc
      exact ⟨g, p1, p2.put h0 es ck⟩
  · intro j j' B1 B2 f1 f2 hn p1 p2 r1 r2 hbb
    have n1 : j ≠ k + 1 := fun e => by subst e; rw [hk0] at r1; cases r1
    have n2 : j' ≠ k + 1 := fun e => by subst e; rw [hk0] at r2; cases r2
    rw [zT _ _ n1] at p1; rw [zT _ _ n2] at p2
    exact s.sep j j' B1 B2 f1 f2 hn p1 p2 r1 r2 hbb
  · have old : ∀ j C, yB h (k + 1) { B with cells := MM :: l } j = some C → fM C = true → ∃ C0, h j = some C0 ∧ fM C0 = true := fun j C hj hmc => by
      by_cases hjk : j = k + 1
      · subst hjk; exact ⟨B, hB, hm⟩
      · rw [zT _ _ hjk] at hj; exact ⟨C, hj, hmc⟩
    refine ⟨fun j C hj hmc => ?_, fun j j' C C' f1 f2 hn hj hj' hmc hmc' p p' => ?_, ?_⟩
    · by_cases hjk : j = k + 1
      · subst hjk; rw [zP] at hj; cases hj
        exact ⟨⟨hk0, htl⟩, k, f, rfl, hf, q3, es, ck, pF es ck hlt, hv, hb, hpw⟩
      · rw [zT _ _ hjk] at hj
        obtain ⟨z0, i, g, z1, z2, z3, z4⟩ := s.mm.mdom j C hj hmc
        have hne : g.b ≠ f.b := s.mm.msep i k C B g f (by omega) (by rw [← z1]; exact hj) hB hmc hm z2 hf
        exact ⟨z0, i, g, z1, z2, z3, z4.put hne h0 hpw hgr⟩
    · obtain ⟨C0, y1, y2⟩ := old _ C hj hmc
      obtain ⟨C0', y1', y2'⟩ := old _ C' hj' hmc'
      exact s.mm.msep j j' C0 C0' f1 f2 hn y1 y1' y2 y2' p p'
    · obtain ⟨n, hn⟩ := s.mm.mfin
      refine ⟨n, fun j C hj hb => ?_⟩
      cases hmc : fM C with
      | false => rfl
      | true =>
        obtain ⟨C0, y1, y2⟩ := old j C hb hmc
        have := hn j C0 hj y1
        rw [y2] at this; cases this
theorem Sim.putO {N : Nat} {φ : Fm} {h : GH} {w : World} (s : Sim N φ h w) {k : Nat} {f : Fx} (hf : φ k = some f) {B : GB} (hB : h (k + 1) = some B) (hm : fM B = true) {o0 o1 : Obj} (h0 : w.heap[f.b]? = some o0) (ho0 : mQ o0 = true) (ho1 : mQ o1 = true)
    {l : List Value} (hm' : fM { B with cells := l } = true) (hown : MO φ (ChangeMaps.setBlock w f.b o1) f.b l) (hoth : ∀ b l, b ≠ f.b → MO φ w b l → MO φ (ChangeMaps.setBlock w f.b o1) b l) : Sim N φ (yB h (k + 1) { B with cells := l }) (ChangeMaps.setBlock w f.b o1) := by
  have hlt := dM h0
  have hsz : (ChangeMaps.setBlock w f.b o1).heap.size = w.heap.size := by simp [ChangeMaps.setBlock]
  have hne : ∀ j, j ≠ f.b → (ChangeMaps.setBlock w f.b o1).heap[j]? = w.heap[j]? := fun j hj => by simp [ChangeMaps.setBlock, Array.getElem?_setIfInBounds, Ne.symm hj]
  have hsm : (ChangeMaps.setBlock w f.b o1).heap[f.b]? = some o1 := by simp [ChangeMaps.setBlock, hlt]
  have hcell : ∀ a : Addr, (ChangeMaps.setBlock w f.b o1).cell? a = w.cell? a ∧ (ChangeMaps.setBlock w f.b o1).frozen? a = w.frozen? a := fun a => by
    by_cases ha : a.block = f.b
    · constructor
      · unfold World.cell?; rw [ha, hsm, h0]; cases o0 <;> simp [mQ] at ho0 <;> cases o1 <;> simp [mQ] at ho1 <;> rfl
      · unfold World.frozen?; rw [ha, hsm, h0]; cases o0 <;> simp [mQ] at ho0 <;> cases o1 <;> simp [mQ] at ho1 <;> rfl
    · constructor
      · unfold World.cell?; rw [hne _ ha]
      · unfold World.frozen?; rw [hne _ ha]
  have hblk : ∀ {B : GB} {g : Fx}, Blk N φ B g w → Blk N φ B g (ChangeMaps.setBlock w f.b o1) := fun {B g} b =>
    ⟨by rw [hsz]; exact b.lt, fun i v hv => by rw [(hcell _).1]; exact b.cell i v hv, b.es, b.nz, fun hw i hi => by rw [(hcell _).2]; exact b.wrf hw i hi, fun ht j h1 h2 => by rw [(hcell _).1, (hcell _).2]; exact b.tlf ht j h1 h2, b.tll⟩
  obtain ⟨⟨hk0, htl⟩, j, g, q1, q2, q3, q4⟩ := s.mm.mdom _ B hB hm
  obtain rfl : k = j := by omega
  rw [hf] at q2; cases q2
  refine ⟨s.ini, by rw [hsz]; exact s.big, s.fin, fun j C hj hmc => ?_, ?_, fun j g hj => by rw [hsz]; exact s.rng j g hj, ?_⟩
  · by_cases hjk : j = k + 1
    · subst hjk; rw [zP] at hj; cases hj; rw [hm'] at hmc; cases hmc
    · rw [zT _ _ hjk] at hj
      obtain ⟨g, p1, p2⟩ := s.dom j C hj hmc
      exact ⟨g, p1, hblk p2⟩
  · intro j j' B1 B2 f1 f2 hn p1 p2 r1 r2 hbb
    have n1 : j ≠ k + 1 := fun e => by subst e; rw [hk0] at r1; cases r1
    have n2 : j' ≠ k + 1 := fun e => by subst e; rw [hk0] at r2; cases r2
    rw [zT _ _ n1] at p1; rw [zT _ _ n2] at p2
    exact s.sep j j' B1 B2 f1 f2 hn p1 p2 r1 r2 hbb
  · have old : ∀ j C, yB h (k + 1) { B with cells := l } j = some C → fM C = true → ∃ C0, h j = some C0 ∧ fM C0 = true := fun j C hj hmc => by
      by_cases hjk : j = k + 1
      · subst hjk; exact ⟨B, hB, hm⟩
      · rw [zT _ _ hjk] at hj; exact ⟨C, hj, hmc⟩
    refine ⟨fun j C hj hmc => ?_, fun j j' C C' f1 f2 hn hj hj' hmc hmc' p p' => ?_, ?_⟩
    · by_cases hjk : j = k + 1
      · subst hjk; rw [zP] at hj; cases hj
        exact ⟨⟨hk0, htl⟩, k, f, rfl, hf, q3, hown⟩
      · rw [zT _ _ hjk] at hj
        obtain ⟨z0, i, g, z1, z2, z3, z4⟩ := s.mm.mdom j C hj hmc
        have hne : g.b ≠ f.b := s.mm.msep i k C B g f (by omega) (by rw [← z1]; exact hj) hB hmc hm z2 hf
        exact ⟨z0, i, g, z1, z2, z3, hoth _ _ hne z4⟩
    · obtain ⟨C0, y1, y2⟩ := old _ C hj hmc
      obtain ⟨C0', y1', y2'⟩ := old _ C' hj' hmc'
      exact s.mm.msep j j' C0 C0' f1 f2 hn y1 y1' y2 y2' p p'
    · obtain ⟨n, hn⟩ := s.mm.mfin
      refine ⟨n, fun j C hj hb => ?_⟩
      cases hmc : fM C with
      | false => rfl
      | true =>
        obtain ⟨C0, y1, y2⟩ := old j C hb hmc
        have := hn j C0 hj y1
        rw [y2] at this; cases this
theorem qB8 {N : Nat} {w : World} {r : Nat} (hr : N ≤ r) {es0 : Array MapEntry} {ck0 : Nat} (h0 : w.heap[r]? = some (Obj.map es0 ck0)) (es : Array MapEntry) (ck : Nat) : Below N w (putMap w r es ck) :=
  ⟨rfl, rfl, rfl, by rw [rR]; exact Nat.le_refl _, fun j hj => fC _ _ _ _ (by omega), Nat.le_refl _, fun k o e l => by
    rw [fC _ _ _ _ (fun q => by rw [q, h0] at e; cases e; simp [zA2] at l)]; exact e⟩
def zO2 (P : Program) (t : TypeId) (h : GH) (m key x : Value) (K : Value → GH → Prop) : Prop :=
  ∃ et s k l B, qV5 P t = some et ∧ key = .string s ∧ m = .map (some k) ∧ yP h m = some l ∧ h (k + 1) = some B ∧ B.wr = true ∧ K U (yB h (k + 1) { B with cells := MM :: qI2 s x l })
theorem qP3 {P : Program} {N : Nat} {φ : Fm} {h : GH} {w : World} (s : Sim N φ h w) {t : TypeId} {m m' key key' x x' : Value} (hm : VR φ m m') (hkey : VR φ key key') (hx : VR φ x x') {K : Value → GH → Prop} (g : zO2 P t h m key x K) :
    ∃ w' h', (Instr.mapUpdate t m' key' x').run P w = .ok () w' ∧ Sim N φ h' w' ∧ Below N w w' ∧ K U h' := by
  obtain ⟨et, sk, k, l, B, hsm, rfl, rfl, hl, hB, _, hK⟩ := g
  obtain ⟨kt, hu, hk⟩ := lN hsm
  cases hkey
  cases hm with
  | map hf =>
  obtain ⟨hmk, es, ck, h1, h2, h3, h4, B', hB', hc, hpw⟩ := gL s hl hf
  rw [hB] at hB'; cases hB'
  have hmB : fM B = true := by unfold fM; rw [hc]; rfl
  obtain ⟨i1, i2⟩ := qF0 sk l es.toList 0 h2 hmk
  have hg : (getObj _).run P w = .ok (Obj.map es ck) w := MapKept.run_getObj_map h1
  cases hfd : lS sk l with
  | some v0 =>
    obtain ⟨i, v', a1, _, a3, _, a5⟩ := i1 _ hfd
    rw [Nat.zero_add] at a1
    have hfk := kK hk sk es.toList a1 w
    have hi : es[i]? = some es.toList[i] := by rw [← Array.getElem?_toList]; exact List.getElem?_eq_getElem a3
    have hkey : ∃ s', es.toList[i].key = .string s' ∧ (sk == s') = true := zE5 sk es.toList 0 i (by rw [Nat.zero_add]; exact a1) a3
    obtain ⟨s', e1, e2⟩ := hkey
    refine ⟨putMap w _ (es.modify i fun e => { e with key := .string sk, val := x' }) ck, _, ?_, s.putMap hf hB hmB h1 (l := qI2 sk x l) ?_ ?_ ?_ ?_, qB8 h3 h1 _ _, hK⟩
    · have e3 : (es[i]?).map (·.key) = some (.string s') := by rw [hi]; show some es.toList[i].key = _; rw [e1]
      have e4 : s' = sk := ((MapKept.bytes_beq _ _).1 e2).symm
      have e5 : (sk == sk) = true := (MapKept.bytes_beq _ _).2 rfl
      simp [e5, Instr.mapUpdate, run_underlying hu, hg, uV hk, hfk, e3, e4, Instr.keyThatStays, Instr.sameBits, MapKept.run_setObj_map _ h1, putMap]
    · rw [Array.toList_modify]; exact a5 x x' hx
    · intro e he
      rw [Array.toList_modify] at he
      obtain ⟨e0, he0, hb0⟩ : ∃ e0 ∈ es.toList, e0.born = e.born := by
        obtain ⟨q, hq⟩ := List.getElem?_of_mem he
        rw [List.getElem?_modify] at hq
        split at hq
        · cases he' : es.toList[q]? with
          | none => rw [he'] at hq; cases hq
          | some e0 =>
            rw [he'] at hq
            cases hq
            exact ⟨e0, List.mem_of_getElem? he', rfl⟩
        · cases he' : es.toList[q]? with
          | none => rw [he'] at hq; cases hq
          | some e0 =>
            rw [he'] at hq
            cases hq
            exact ⟨e0, List.mem_of_getElem? he', rfl⟩
      rw [← hb0]; exact h4 _ he0
    · have hbm : ∀ (l : List MapEntry) (i : Nat), (l.modify i fun e => { e with key := .string sk, val := x' }).map MapEntry.born = l.map MapEntry.born := fun l i => by
        apply List.ext_getElem?
        intro q
        simp only [List.getElem?_map, List.getElem?_modify]
        split <;> cases l[q]? <;> rfl
      rw [Array.toList_modify]
      have := (List.pairwise_map (f := fun e : MapEntry => e.born) (R := fun a b => a < b)).2 hpw
      rw [← hbm es.toList i] at this
      exact (List.pairwise_map (f := fun e : MapEntry => e.born) (R := fun a b => a < b)).1 this
    · refine ⟨by simp, fun _ => ⟨rfl, fun q => ?_⟩⟩
      rw [Array.toList_modify, List.getElem?_modify]
      split <;> cases es.toList[q]? <;> rfl
  | none =>
    obtain ⟨a1, a2⟩ := i2 hfd
    refine ⟨putMap w _ (es.push ⟨.string sk, x', ck⟩) (ck + 1), _, ?_, s.putMap hf hB hmB h1 (l := qI2 sk x l) ?_ ?_ ?_ ?_, qB8 h3 h1 _ _, hK⟩
    · simp [Instr.mapUpdate, run_underlying hu, hg, uV hk, kK hk sk es.toList a1, MapKept.run_setObj_map _ h1, putMap]
    · rw [Array.toList_push]; exact a2 x x' ck hx
    · intro e he
      rw [Array.toList_push] at he
      rcases List.mem_append.1 he with he | he
      · have := h4 e he; omega
      · obtain rfl := List.mem_singleton.1 he
        exact Nat.lt_succ_self _
    · rw [Array.toList_push, List.pairwise_append]
      refine ⟨hpw, List.pairwise_singleton _ _, fun a ha b hb => ?_⟩
      obtain rfl := List.mem_singleton.1 hb
      exact h4 a ha
    · exact ⟨by simp, fun e => by simp at e⟩
def zC5 (h : GH) (K : Value → GH → Prop) : Prop := ∀ k, h k = none → h (k + 1) = none → K (.map (some k)) (yB h (k + 1) ⟨[MM], 0, true, false⟩)
theorem Sim.newM {N : Nat} {φ : Fm} {h : GH} {w : World} (s : Sim N φ h w) {o : Obj} {B : GB} (hBm : fM B = true) (hBt : B.tl = false) (hmo : ∀ φ', Ext φ φ' → MO φ' (w.alloc o) w.heap.size B.cells) :
    ∃ k φ', h k = none ∧ h (k + 1) = none ∧ Ext φ φ' ∧ Sim N φ' (yB h (k + 1) B) (w.alloc o) ∧ φ' k = some ⟨w.heap.size, 0, 0, 0⟩ ∧ Below N w (w.alloc o) := by
  obtain ⟨n, hn⟩ := s.fin
  obtain ⟨m, hm⟩ := s.mm.mfin
  have nn : ∀ q, max (max n m) N ≤ q → φ q = none ∧ h q = none := fun q hq => by
    have h0 : φ q = none := hn _ (by omega)
    refine ⟨h0, ?_⟩
    cases hk : h q with
    | none => rfl
    | some B =>
      obtain ⟨f, h1, _⟩ := s.dom _ B hk (hm _ B (by omega) hk)
      rw [h0] at h1; cases h1
  obtain ⟨k, hk⟩ : ∃ k, k = max (max n m) N := ⟨_, rfl⟩
  obtain ⟨p1, p2⟩ := nn k (by omega)
  obtain ⟨p3, p4⟩ := nn (k + 1) (by omega)
  have e := kI ⟨w.heap.size, 0, 0, 0⟩ p1
  have hsz : (w.alloc (o)).heap.size = w.heap.size + 1 := by simp
  have hold : ∀ j, j < w.heap.size → (w.alloc (o)).heap[j]? = w.heap[j]? := fun j hj => Below.heap_alloc _ _ _ hj
  refine ⟨k, _, p2, p4, e, ?_, vH _ k ⟨w.heap.size, 0, 0, 0⟩, sW s.big _⟩
  refine ⟨fun j hj => ?_, by rw [hsz]; have := s.big; omega, ⟨max n (k + 1), fun j hj => ?_⟩, fun j C hj hmc => ?_, ?_, fun j g hj => ?_, ?_⟩
  · rw [vL _ _ (by omega)]; exact s.ini j hj
  · rw [vL _ _ (by omega)]; exact hn j (by omega)
  · have hjk : j ≠ k + 1 := fun e => by subst e; rw [zP] at hj; cases hj; rw [hBm] at hmc; cases hmc
    rw [zT _ _ hjk] at hj
    obtain ⟨g, z1, z2⟩ := s.dom j C hj hmc
    exact ⟨g, e _ _ z1, z2.mono e (by rw [hsz]; omega) (hold _ z2.lt)⟩
  · intro j j' B1 B2 f1 f2 hne h1 h2 r1 r2 hbb
    have key : ∀ j (C : GB) (f : Fx), yB h (k + 1) B j = some C → qI4 φ k ⟨w.heap.size, 0, 0, 0⟩ j = some f → h j = some C ∧ φ j = some f := fun j C f z1 z2 => by
      have n1 : j ≠ k + 1 := fun e => by rw [e, vL _ _ (by omega), p3] at z2; cases z2
      rw [zT _ _ n1] at z1
      have n2 : j ≠ k := fun e => by rw [e, p2] at z1; cases z1
      rw [vL _ _ n2] at z2
      exact ⟨z1, z2⟩
    obtain ⟨y1, y2⟩ := key j B1 f1 h1 r1
    obtain ⟨y3, y4⟩ := key j' B2 f2 h2 r2
    exact s.sep j j' B1 B2 f1 f2 hne y1 y3 y2 y4 hbb
  · by_cases hjk : j = k
    · subst hjk; rw [vH] at hj; cases hj; rw [hsz]; exact Nat.lt_succ_self _
    · rw [vL _ _ hjk] at hj
      have := s.rng j g hj
      rw [hsz]; omega
  · have hmow : ∀ (r : Nat) ob, mQ ob = true → w.heap[r]? = some ob → (w.alloc (o)).heap[r]? = some ob := fun r ob _ hr => by rw [hold _ (dM hr)]; exact hr
    refine ⟨fun j C hj hmc => ?_, fun j j' C C' f1 f2 hn1 hj hj' hmc hmc' q q' => ?_, max m (k + 2), fun j C hj hb => ?_⟩
    · by_cases hjk : j = k + 1
      · subst hjk; rw [zP] at hj; cases hj
        exact ⟨⟨by rw [vL _ _ (by omega)]; exact p3, hBt⟩, k, _, rfl, vH _ _ _, ⟨s.big, rfl⟩, hmo _ e⟩
      · rw [zT _ _ hjk] at hj
        obtain ⟨⟨z0, z0'⟩, i, g, z1, z2, z3, z4⟩ := s.mm.mdom j C hj hmc
        have hjk2 : j ≠ k := fun e => by subst e; rw [p2] at hj; cases hj
        exact ⟨⟨by rw [vL _ _ hjk2]; exact z0, z0'⟩, i, g, z1, e _ _ z2, z3, z4.mono e hmow⟩
    · have key : ∀ j (C : GB) (f : Fx), j ≠ k → yB h (k + 1) B (j + 1) = some C → fM C = true → qI4 φ k ⟨w.heap.size, 0, 0, 0⟩ j = some f → h (j + 1) = some C ∧ φ j = some f ∧ f.b < w.heap.size := fun j C f hjk hj hmc q => by
        rw [zT _ _ (by omega)] at hj
        rw [vL _ _ hjk] at q
        exact ⟨hj, q, s.rng j f q⟩
      by_cases hj1 : j = k
      · subst hj1
        rw [vH] at q; cases q
        have := (key j' C' f2 (Ne.symm hn1) hj' hmc' q').2.2
        show w.heap.size ≠ f2.b
        omega
      · by_cases hj2 : j' = k
        · subst hj2
          rw [vH] at q'; cases q'
          have := (key j C f1 hj1 hj hmc q).2.2
          show f1.b ≠ w.heap.size
          omega
        · obtain ⟨y1, y2, _⟩ := key j C f1 hj1 hj hmc q
          obtain ⟨y3, y4, _⟩ := key j' C' f2 hj2 hj' hmc' q'
          exact s.mm.msep j j' C C' f1 f2 hn1 y1 y3 hmc hmc' y2 y4
    · rw [zT _ _ (by omega)] at hb
      exact hm j C (by omega) hb
theorem qM3 {N : Nat} {φ : Fm} {h : GH} {w : World} (s : Sim N φ h w) {K : Value → GH → Prop} (g : zC5 h K) :
    ∃ φ' h' v, Ext φ φ' ∧ Sim N φ' h' (w.alloc (Obj.map #[] 0)) ∧ VR φ' v (.map (some w.heap.size)) ∧ Below N w (w.alloc (Obj.map #[] 0)) ∧ K v h' := by
  obtain ⟨k, φ', p2, p4, e, s', hk, hb⟩ := s.newM (o := Obj.map #[] 0) (B := ⟨[MM], 0, true, false⟩) rfl rfl fun φ' _ => ⟨#[], 0, by unfold World.alloc; simp, .nil, by simp, by simp⟩
  exact ⟨φ', _, _, e, s', .map hk, hb, g k p2 p4⟩
def gLenM (P : Program) (t : TypeId) (h : GH) (x : Value) : Option Int :=
  match P.underlying t with
  | some (.map _ _) => (yP h x).map fun l => ((l.length / 2 : Nat) : Int)
  | _ => none
theorem mF : ∀ es : List MapEntry, (sU es).length = 2 * es.length
  | [] => rfl
  | e :: es => by simp only [sU, List.length_cons, mF es]; omega
theorem zC8 {P : Program} {N : Nat} {φ : Fm} {h : GH} {w : World} (s : Sim N φ h w) {t ty : TypeId} {x x' : Value} (hx : VR φ x x') {n : Int} (e : gLenM P t h x = some n) : (Builtin.len_ #[t] ty #[x']).run P w = .ok (.int .i64 n) w := by
  unfold gLenM at e
  split at e
  case h_2 => cases e
  rename_i kt et hu
  obtain ⟨l, hl, rfl⟩ := Option.map_eq_some_iff.1 e
  cases hx with
  | mnil =>
    have : l = [] := by simpa [yP] using hl.symm
    subst this
    simp [Builtin.len_, run_underlying hu, goInt]
  | map hf =>
    obtain ⟨_, es, ck, h1, h2, _⟩ := gL s hl hf
    have hlen : l.length / 2 = es.size := by
      rw [h2.length, mF, Array.length_toList]; omega
    simp [Builtin.len_, run_underlying hu, MapKept.run_getObj_map h1, goInt, hlen]
  | _ => simp [yP] at hl
def gRange (P : Program) (t : TypeId) (h : GH) (x : Value) (K : Value → GH → Prop) : Prop :=
  ∃ kt et j l, P.underlying t = some (.map kt et) ∧ x = .map (some j) ∧ yP h x = some l ∧ ∀ i, h i = none → h (i + 1) = none → K (.pointer (some ⟨i, 0, none⟩)) (yB h (i + 1) ⟨[IT, .map (some j), .int .i64 ((l.length / 2 : Nat) : Int)], 0, true, false⟩)
theorem qX4 {P : Program} {N : Nat} {φ : Fm} {h : GH} {w : World} (s : Sim N φ h w) {t : TypeId} {x x' : Value} (hx : VR φ x x') {K : Value → GH → Prop} (g : gRange P t h x K) :
    ∃ φ' h' v v' w', (Instr.range t x').run P w = .ok v' w' ∧ Ext φ φ' ∧ Sim N φ' h' w' ∧ VR φ' v v' ∧ Below N w w' ∧ K v h' := by
  obtain ⟨kt, et, j, l, hu, rfl, hl, k⟩ := g
  cases hx with
  | map hf =>
  rename_i f
  obtain ⟨hmk, es, ck, h1, h2, h3, h4, B, hB, hc, hpw⟩ := gL s hl hf
  have hlen : l.length / 2 = es.size := by rw [h2.length, mF, Array.length_toList]; omega
  obtain ⟨i, φ', p2, p4, e, s', hk, hb⟩ := s.newM (o := Obj.mapIter (some f.b) ck #[] ck) (B := ⟨[IT, .map (some j), .int .i64 ((l.length / 2 : Nat) : Int)], 0, true, false⟩) rfl rfl fun φ' e =>
    ⟨f, es, ck, ck, #[], ck, e _ _ hf, by rw [Below.heap_alloc _ _ _ (dM h1)]; exact h1, by unfold World.alloc; simp, Nat.le_refl _, by rw [hlen]; exact Int.le_refl _, fun _ => ⟨rfl, h4, hpw, [], rfl, by simp, rfl⟩⟩
  exact ⟨φ', _, _, _, _, run_range_map w t kt et f.b es ck hu h1, e, s', .ptr ⟨rfl, rfl, _, hk, rfl, rfl⟩, hb, k i p2 p4⟩
def zN9 (h : GH) (it : Value) (K : Value → GH → Prop) : Prop :=
  ∃ (i j n0 : Nat) (seen : List Value) (B : GB) (l : List Value), it = .pointer (some ⟨i, 0, none⟩) ∧ h (i + 1) = some B ∧ B.cells = IT :: .map (some j) :: .int .i64 (n0 : Int) :: seen ∧ yP h (.map (some j)) = some l ∧ l.length = 2 * n0 ∧
    ((∀ q : Nat, q < n0 → Value.int .i64 (q : Int) ∈ seen) → K (.tuple #[.bool false]) h) ∧
    (∀ (q : Nat) key v, q < n0 → ¬ Value.int .i64 (q : Int) ∈ seen → l[2 * q]? = some key → l[2 * q + 1]? = some v → K (.tuple #[.bool true, key, v]) (yB h (i + 1) { B with cells := B.cells ++ [.int .i64 (q : Int)] }))
theorem qE9 : ∀ (es : List MapEntry) (q : Nat) (e : MapEntry), es[q]? = some e → (sU es)[2 * q]? = some e.key ∧ (sU es)[2 * q + 1]? = some e.val
  | [], q, e, h => by simp at h
  | x :: es, 0, e, h => by simp at h; subst h; exact ⟨rfl, rfl⟩
  | x :: es, q + 1, e, h => by
    obtain ⟨h1, h2⟩ := qE9 es q e (by simpa using h)
    simp only [sU]
    rw [show 2 * (q + 1) = 2 * q + 1 + 1 by omega, show 2 * q + 1 + 1 + 1 = (2 * q + 1) + 1 + 1 by omega]
    simp only [List.getElem?_cons_succ]
    exact ⟨h1, h2⟩
theorem zT9 {el : List MapEntry} (hp : el.Pairwise fun x y => MapEntry.born x < MapEntry.born y) {i q : Nat} {e e' : MapEntry} (h1 : el[i]? = some e) (h2 : el[q]? = some e') (hb : e.born = e'.born) : i = q := by
  rw [List.pairwise_iff_getElem] at hp
  obtain ⟨a1, a2⟩ := List.getElem?_eq_some_iff.1 h1
  obtain ⟨b1, b2⟩ := List.getElem?_eq_some_iff.1 h2
  rcases Nat.lt_trichotomy i q with h | h | h
  · have := hp i q a1 b1 h; rw [a2, b2] at this; omega
  · exact h
  · have := hp q i b1 a1 h; rw [a2, b2] at this; omega
theorem SeenR.has {el : List MapEntry} {sn : Array Nat} {seen : List Value} (x : SeenR el sn seen) (hp : el.Pairwise fun x y => MapEntry.born x < MapEntry.born y) {q : Nat} {e : MapEntry} (h : el[q]? = some e) : sn.contains e.born = true ↔ Value.int .i64 (q : Int) ∈ seen := by
  obtain ⟨is, h1, h2, h3⟩ := x
  rw [Array.contains_iff_mem, ← Array.mem_toList_iff, h3, h1]
  constructor
  · intro hm
    obtain ⟨i, hi, hb⟩ := List.mem_map.1 hm
    obtain ⟨e', he'⟩ : ∃ e', el[i]? = some e' := ⟨_, List.getElem?_eq_getElem (h2 i hi)⟩
    rw [he'] at hb
    simp only [Option.map_some, Option.getD_some] at hb
    have := zT9 hp he' h hb
    subst this
    exact List.mem_map.2 ⟨i, hi, rfl⟩
  · intro hm
    obtain ⟨i, hi, hb⟩ := List.mem_map.1 hm
    have : i = q := by simp at hb; omega
    subst this
    exact List.mem_map.2 ⟨i, hi, by rw [h]; rfl⟩
theorem gIter {N : Nat} {φ : Fm} {h : GH} {w : World} (s : Sim N φ h w) {i j n0 : Nat} {seen : List Value} {B : GB} {l : List Value} (hB : h (i + 1) = some B) (hc : B.cells = IT :: .map (some j) :: .int .i64 (n0 : Int) :: seen) (hl : yP h (.map (some j)) = some l) (hn : l.length = 2 * n0) {f : Fx} (hf : φ i = some f) :
    f.o = 0 ∧ N ≤ f.b ∧ ∃ f2 es ck since sn, φ j = some f2 ∧ w.heap[f2.b]? = some (Obj.map es ck) ∧ w.heap[f.b]? = some (Obj.mapIter (some f2.b) since sn ck) ∧ since ≤ ck ∧ VRs φ l (sU es.toList) ∧ es.size = n0 ∧ (∀ e ∈ es.toList, e.born < since) ∧ (es.toList.Pairwise fun x y => MapEntry.born x < MapEntry.born y) ∧ SeenR es.toList sn seen := by
  have hm : fM B = true := by unfold fM; rw [hc]; rfl
  obtain ⟨_, j', g, q1, q2, q3, q4⟩ := s.mm.mdom _ B hB hm
  obtain rfl : i = j' := by omega
  rw [hf] at q2; cases q2
  rw [hc] at q4
  obtain ⟨f2, es, ck, since, sn, last, z1, z2, z3, z4, z5, z6⟩ := q4
  obtain ⟨_, es', ck', y1, y2, _⟩ := gL s hl z1
  rw [z2] at y1
  cases y1
  have hsz : es.size = n0 := by
    have h1 : l.length = 2 * es.size := by rw [y2.length, mF, Array.length_toList]
    omega
  obtain ⟨x1, x2, x3, x4⟩ := z6 (by omega)
  subst x1
  exact ⟨q3.2, q3.1, f2, es, ck, since, sn, z1, z2, z3, z4, y2, hsz, x2, x3, x4⟩
theorem zC1 {P : Program} {N : Nat} {φ : Fm} {h : GH} {w : World} (s : Sim N φ h w) {ty : TypeId} {it it' : Value} (hx : VR φ it it') {K : Value → GH → Prop} (g : zN9 h it K) :
    ∃ h' v v' w', (Instr.next it' false ty).run P w = .ok v' w' ∧ Sim N φ h' w' ∧ VR φ v v' ∧ Below N w w' ∧ K v h' := by
  obtain ⟨i, j, n0, seen, B, l, rfl, hB, hc, hl, hn, k1, k2⟩ := g
  cases hx with
  | ptr ha =>
  rename_i a'
  obtain ⟨_, q2, f, q3, q4, q5⟩ := ha
  obtain ⟨ho, hN, f2, es, ck, since, sn, z1, z2, z3, z4, z5, z6, z7, z8, z9⟩ := gIter s hB hc hl hn q3
  have ea : a' = ⟨f.b, 0, none⟩ := by
    rw [kJ q2, q4, q5, ho]; simp
  subst ea
  rcases run_next_at (P := P) w ty f.b f2.b since ck sn es ck z3 z2 z7 z4 with ⟨h0, hrun⟩ | ⟨e, he, w1, hal, hrun⟩
  · refine ⟨h, _, _, w, hrun, s, .tuple (.cons (.bool false) .nil), Below.refl _ _, k1 fun q hq => ?_⟩
    obtain ⟨e, he⟩ : ∃ e, es.toList[q]? = some e := ⟨_, List.getElem?_eq_getElem (by rw [Array.length_toList]; omega)⟩
    refine (z9.has z8 he).1 ?_
    cases hcn : sn.contains e.born with
    | true => rfl
    | false =>
      have hm : e ∈ (leftOf es sn).toList := by
        unfold leftOf
        rw [Array.mem_toList_iff, Array.mem_filter]
        exact ⟨Array.mem_toList_iff.1 (List.mem_of_getElem? he), by rw [hcn]; rfl⟩
      have : (leftOf es sn).toList.length = 0 := by rw [Array.length_toList]; exact h0
      rw [List.eq_nil_of_length_eq_zero this] at hm
      simp at hm
  · obtain ⟨hem, hes⟩ := mem_left he
    obtain ⟨q, hq⟩ := List.mem_iff_getElem?.1 hem
    have hql : q < n0 := by have := (List.getElem?_eq_some_iff.1 hq).1; rw [Array.length_toList] at this; omega
    have hns : ¬ Value.int .i64 (q : Int) ∈ seen := fun hm => by have := (z9.has z8 hq).2 hm; rw [hes] at this; cases this
    obtain ⟨fk, fv⟩ := qE9 es.toList q e hq
    obtain ⟨key, hkey⟩ : ∃ key, l[2 * q]? = some key := ⟨_, List.getElem?_eq_getElem (by omega)⟩
    obtain ⟨v, hv⟩ : ∃ v, l[2 * q + 1]? = some v := ⟨_, List.getElem?_eq_getElem (by omega)⟩
    obtain ⟨key', y1, y2⟩ := z5.get _ _ hkey
    obtain ⟨v', y3, y4⟩ := z5.get _ _ hv
    rw [fk] at y1; cases y1
    rw [fv] at y3; cases y3
    have s1 : Sim N φ h w1 := by
      rcases hal with e | e
      · rw [e]; exact s
      · rw [e]; exact s.drew
    have z2' : w1.heap[f2.b]? = some (Obj.map es ck) := by rcases hal with rfl | rfl <;> exact z2
    have z3' : w1.heap[f.b]? = some (Obj.mapIter (some f2.b) since sn ck) := by rcases hal with rfl | rfl <;> exact z3
    have hm : fM B = true := by unfold fM; rw [hc]; rfl
    have hne : f2.b ≠ f.b := fun e => by rw [e, z3'] at z2'; cases z2'
    have hlt := dM z3'
    have hsm : (ChangeMaps.setBlock w1 f.b (Obj.mapIter (some f2.b) since (sn.push e.born) ck)).heap[f.b]? = some (Obj.mapIter (some f2.b) since (sn.push e.born) ck) := by simp [ChangeMaps.setBlock, hlt]
    have hot : ∀ b, b ≠ f.b → (ChangeMaps.setBlock w1 f.b (Obj.mapIter (some f2.b) since (sn.push e.born) ck)).heap[b]? = w1.heap[b]? := fun b hb => by simp [ChangeMaps.setBlock, Array.getElem?_setIfInBounds, Ne.symm hb]
    have seen' : SeenR es.toList (sn.push e.born) (seen ++ [.int .i64 (q : Int)]) := by
      obtain ⟨is, x1, x2, x3⟩ := z9
      refine ⟨is ++ [q], by rw [x1]; simp, fun i hi => ?_, by rw [Array.toList_push, x3, List.map_append, List.map_singleton, hq]; rfl⟩
      rcases List.mem_append.1 hi with hi | hi
      · exact x2 i hi
      · obtain rfl := List.mem_singleton.1 hi; exact (List.getElem?_eq_some_iff.1 hq).1
    refine ⟨_, _, _, _, hrun, s1.putO q3 hB hm z3' rfl rfl (l := B.cells ++ [.int .i64 (q : Int)]) ?_ ?_ ?_, .tuple (.cons (.bool true) (.cons y2 (.cons y4 .nil))), ?_, k2 q key v hql hns hkey hv⟩
    · unfold fM; simp only [hc]; rfl
    · rw [hc]
      exact ⟨f2, es, ck, since, _, ck, z1, by rw [hot _ hne]; exact z2', hsm, z4, by omega, fun _ => ⟨rfl, z7, z8, seen'⟩⟩
    · intro b l' hb m
      unfold MO at m ⊢
      split at m
      · obtain ⟨es1, ck1, p1, p2⟩ := m
        exact ⟨es1, ck1, by rw [hot _ hb]; exact p1, p2⟩
      · obtain ⟨g2, es1, ck1, since1, sn1, last1, p1, p2, p3, p4⟩ := m
        have hg : g2.b ≠ f.b := fun e => by rw [e, z3'] at p2; cases p2
        exact ⟨g2, es1, ck1, since1, sn1, last1, p1, by rw [hot _ hg]; exact p2, by rw [hot _ hb]; exact p3, p4⟩
      · exact m.elim
    · have hw1 : ∀ b : Nat, w1.heap[b]? = w.heap[b]? := by rcases hal with e | e <;> rw [e] <;> exact fun _ => rfl
      have hs1 : w1.heap.size = w.heap.size := by rcases hal with e | e <;> rw [e] <;> rfl
      refine ⟨?_, ?_, ?_, ?_, fun b hb => ?_, ?_, fun b o e l => ?_⟩
      · rcases hal with e | e <;> rw [e] <;> rfl
      · rcases hal with e | e <;> rw [e] <;> rfl
      · rcases hal with e | e <;> rw [e] <;> rfl
      · have : (ChangeMaps.setBlock w1 f.b (Obj.mapIter (some f2.b) since (sn.push e.born) ck)).heap.size = w1.heap.size := by simp [ChangeMaps.setBlock]
        omega
      · rw [hot b (by omega)]; exact hw1 b
      · rcases hal with e | e
        · rw [e]; exact Nat.le_refl _
        · rw [e]; exact Nat.le_succ _
      · rw [hot b (fun q => by rw [q, ← hw1, z3'] at e; cases e; simp [zA2] at l), hw1]; exact e
def gEntry (h : GH) (it : Value) (K : Value → GH → Prop) : Prop :=
  ∃ (i j n0 q : Nat) (seen : List Value) (B : GB) (l : List Value) (key v : Value), it = .pointer (some ⟨i, 0, none⟩) ∧ h (i + 1) = some B ∧ B.cells = IT :: .map (some j) :: .int .i64 (n0 : Int) :: (seen ++ [.int .i64 (q : Int)]) ∧ yP h (.map (some j)) = some l ∧ l.length = 2 * n0 ∧
    l[2 * q]? = some key ∧ l[2 * q + 1]? = some v ∧ K (.tuple #[key, v]) h
theorem qY0 {P : Program} {N : Nat} {φ : Fm} {h : GH} {w : World} (s : Sim N φ h w) {it it' : Value} (hx : VR φ it it') {K : Value → GH → Prop} (g : gEntry h it K) :
    ∃ v v', (Instr.entry it').run P w = .ok v' w ∧ VR φ v v' ∧ K v h := by
  obtain ⟨i, j, n0, q, seen, B, l, key, v, rfl, hB, hc, hl, hn, hkey, hv, k⟩ := g
  cases hx with
  | ptr ha =>
  rename_i a'
  obtain ⟨_, q2, f, q3, q4, q5⟩ := ha
  obtain ⟨ho, hN, f2, es, ck, since, sn, z1, z2, z3, z4, z5, z6, z7, z8, z9⟩ := gIter s hB hc hl hn q3
  have ea : a' = ⟨f.b, 0, none⟩ := by
    rw [kJ q2, q4, q5, ho]; simp
  subst ea
  obtain ⟨is, x1, x2, x3⟩ := z9
  have hql : q < n0 := by have := (List.getElem?_eq_some_iff.1 hkey).1; omega
  obtain ⟨e, he⟩ : ∃ e, es.toList[q]? = some e := ⟨_, List.getElem?_eq_getElem (by rw [Array.length_toList]; omega)⟩
  have hsn : ∃ sn' : Array Nat, sn = sn'.push e.born := by
    have hl1 : is.map (fun i : Nat => Value.int .i64 (i : Int)) = seen ++ [.int .i64 (q : Int)] := x1.symm
    obtain ⟨is1, is2, e1, e2, e3⟩ := List.map_eq_append_iff.1 hl1
    obtain ⟨q', rfl, e4⟩ := List.map_eq_singleton_iff.1 e3
    have : q' = q := by simp at e4; omega
    subst this
    refine ⟨(is1.map fun i => ((es.toList[i]?).map MapEntry.born).getD 0).toArray, Array.toList_inj.1 ?_⟩
    rw [x3, e1, List.map_append, List.map_singleton, he, Array.toList_push]
    rfl
  obtain ⟨sn', rfl⟩ := hsn
  obtain ⟨fk, fv⟩ := qE9 es.toList q e he
  obtain ⟨key', y1, y2⟩ := z5.get _ _ hkey
  obtain ⟨v', y3, y4⟩ := z5.get _ _ hv
  rw [fk] at y1; cases y1
  rw [fv] at y3; cases y3
  refine ⟨_, _, run_entry_at w f.b f2.b since sn' es ck e z3 z2 (List.mem_of_getElem? he) ?_, .tuple (.cons y2 (.cons y4 .nil)), k⟩
  unfold List.Nodup
  rw [List.pairwise_map]
  exact z8.imp fun h => by omega
abbrev Env := List (Nat × Value)
def lk : Env → Nat → Value
  | [], _ => U
  | (i, v) :: r, j => if i = j then v else lk r j
def ev (e : Env) : Operand → Value
  | .tmp i => lk e i
  | .const v => v
  | .global g => .pointer (some ⟨g, 0, none⟩)
  | .func f => .func (.func f) #[] #[]
def tN (G : Nat) : Operand → Bool
  | .const v => zH2 v
  | .global g => decide (g < G)
  | _ => true
structure Rel (φ : Fm) (nt : Nat) (e : Env) (tmps : Array Value) : Prop where
  size : tmps.size = nt
  get : ∀ i, VR φ (lk e i) (tmps.getD i undef)
theorem Rel.mono {φ φ' : Fm} {nt : Nat} {e : Env} {t : Array Value} (h : Rel φ nt e t) (x : Ext φ φ') : Rel φ' nt e t := ⟨h.size, fun i => (h.get i).mono x⟩
def uH (e : Env) (d : Option Tmp) (v : Value) : Env := match d with | some i => (i, v) :: e | none => e
def zF1 (nt : Nat) : Option Tmp → Bool | some d => decide (d < nt) | none => true
theorem Rel.put {φ : Fm} {nt : Nat} {e : Env} {a : Act} (h : Rel φ nt e a.tmps) {d : Option Tmp} (hd : zF1 nt d = true) {v v' : Value} (hv : VR φ v v') : Rel φ nt (uH e d v) (a.put d v').tmps := by
  cases d with
  | none => exact h
  | some d =>
    simp only [zF1, decide_eq_true_eq] at hd
    refine ⟨by simp [Act.put, h.size], fun i => ?_⟩
    simp only [uH, lk, Act.put]
    by_cases hi : d = i
    · subst hi
      have : d < a.tmps.size := by rw [h.size]; exact hd
      simp [this, hv]
    · rw [if_neg hi]
      have := h.get i
      rw [Array.getD_eq_getD_getElem?] at this ⊢
      rw [Array.getElem?_setIfInBounds_ne hi]
      exact this
theorem Rel.ev {P : Program} {N : Nat} {φ : Fm} {h : GH} {w : World} (s : Sim N φ h w) (hG : P.globals.size ≤ N) {nt : Nat} {e : Env} {a : Act} (r : Rel φ nt e a.tmps) {x : Operand} (hx : tN P.globals.size x = true) : VR φ (ev e x) (a.eval x) := by
  cases x with
  | tmp i => exact r.get i
  | const v => exact qN3 hx
  | global g =>
    simp only [tN, decide_eq_true_eq] at hx
    exact .ptr ⟨rfl, rfl, _, s.ini g (by omega), rfl, by simp⟩
  | func f => exact .func .nil .nil
def vC (P : Program) (f : FuncId) : Bool :=
  match P.funcs[f]? with
  | some fn => fn.body.isSome && !(fn.name == "runtime.NumGoroutine")
  | none => false
def GTri (P : Program) (N : Nat) (f : FuncId) (args : List Value) (h : GH) (Q : Value → GH → Prop) : Prop :=
  P.globals.size ≤ N → ∀ φ w (args' : Array Value), Sim N φ h w → VRs φ args args'.toList →
    (vC P f = true ∧ Calls P f args' w fun e w' => ∃ v v' φ' h', e = .returned v' ∧ Ext φ φ' ∧ Sim N φ' h' w' ∧ VR φ' v v' ∧ Below N w w' ∧ Q v h') ∨
    (∃ v v' φ' h' w', (callFunc f args').run P w = .ok (.value v') w' ∧ Ext φ φ' ∧ Sim N φ' h' w' ∧ VR φ' v v' ∧ Below N w w' ∧ Q v h')
theorem GTri.mono {P : Program} {N : Nat} {f : FuncId} {args : List Value} {h : GH} {Q Q' : Value → GH → Prop} (g : GTri P N f args h Q) (hq : ∀ v h', Q v h' → Q' v h') : GTri P N f args h Q' := by
  intro hG φ w args' s ha
  rcases g hG φ w args' s ha with ⟨h1, h2⟩ | ⟨v, v', φ', h', w', h1, h2, h3, h4, h5, h6⟩
  · refine .inl ⟨h1, h2.mono ?_⟩
    rintro e w' ⟨v, v', φ', h', r1, r2, r3, r4, r5, r6⟩
    exact ⟨v, v', φ', h', r1, r2, r3, r4, r5, hq _ _ r6⟩
  · exact .inr ⟨v, v', φ', h', w', h1, h2, h3, h4, h5, hq _ _ h6⟩
def mY : TypeDesc → Bool | .int _ => false | _ => true
def zV (P : Program) (t : TypeId) : Option (List Value) :=
  match P.info? t with
  | some i => match i.zero with
    | some z => if zH2 z = true then some (vcells z) else none
    | none => none
  | none => none
def isInt : Value → Bool | .int _ _ => true | _ => false
def qV9 (o : Option GH) (K : Value → GH → Prop) : Prop := ∃ h2, o = some h2 ∧ K U h2
theorem zQ8 (h : GH) (K : Value → GH → Prop) : qV9 (some h) K = K U h := by simp [qV9]
def zC2 (h : GH) (cs : List Value) (K : Value → GH → Prop) : Prop := ∀ k, h k = none → K (.pointer (some ⟨k, 0, none⟩)) (yB h k ⟨cs, 0, true, false⟩)
def qJ3 (o : Option (List Value)) (h : GH) (K : Value → GH → Prop) : Prop := ∃ z, o = some z ∧ zC2 h z K
theorem qY4 (z : List Value) (h : GH) (K : Value → GH → Prop) : qJ3 (some z) h K = zC2 h z K := by simp [qJ3]
def gBoxP (h : GH) (cs : List Value) (K : Value → GH → Prop) : Prop := cs.all zK = true ∧ zC2 h cs K
def gPick (c a b : Value) : Option Value := match c with | .bool t => some (if t = true then a else b) | _ => none
def zO0 (P : Program) (t : TypeId) (n : String) : Option FuncId := match P.info? t with
  | some i => match i.methods.find? (·.name == n) with
    | some m => match m.path.toList, m.func, P.underlying t with
      | [], some (f, true), some (.pointer _) => some f
      | _, _, _ => none
    | none => none
  | none => none
theorem zJ4 {P : Program} {t : TypeId} {n : String} {f : FuncId} {v : Value} {w : World} (h1 : ∀ k, (method (k + 1) t v n).run P w = .ok (f, v) w) (h2 : ∀ k, (nilAhead (k + 1) t v n).run P w = .ok (some false) w) :
    (∀ args, (callMethod (.iface t v) n args).run P w = (callFunc f (#[v] ++ args)).run P w) ∧ (nilAhead (P.types.size + Made.depth) t v n).run P w = .ok (some false) w := by
  have hd : P.types.size + Made.depth = (P.types.size + 99) + 1 := rfl
  refine ⟨fun args => ?_, by rw [hd]; exact h2 _⟩
  simp only [callMethod, Sem.run_bind, run_program, Result.andThen_ok]
  rw [hd, h1]
  rfl
theorem qG7 {P : Program} {t : TypeId} {n : String} {f : FuncId} (hm : zO0 P t n = some f) (v : Value) (w : World) :
    (∀ args, (callMethod (.iface t v) n args).run P w = (callFunc f (#[v] ++ args)).run P w) ∧ (nilAhead (P.types.size + Made.depth) t v n).run P w = .ok (some false) w := by
  unfold zO0 at hm
  split at hm
  case h_2 => cases hm
  rename_i i hi
  split at hm
  case h_2 => cases hm
  rename_i m hf
  split at hm
  case h_2 => cases hm
  rename_i f' e0 hp hfu hu
  cases hm
  exact zJ4 (fun k => by simp [method, typeInfo, hi, hf, hp, hfu, follow, receiverAt, run_underlying hu, Place.get]) (fun k => by simp [nilAhead, typeInfo, hi, hf, hp, hfu, followBlind])
def qG (P : Program) (n : String) (a b : List Value) : Option Value := match a, b with
  | .iface t v :: r, b => match zO0 P t n with
    | some _ => some (.func (.method n) (.iface t v :: r).toArray b.toArray)
    | none => none
  | _, _ => none
def gNil (P : Program) (x : Value) : Option Value := match x with
  | .pointer (some a) => some (.pointer (some a))
  | .func (.func f) a b => some (.func (.func f) a b)
  | .func (.method n) a b => qG P n a.toList b.toList
  | .iface t v => some (.iface t v)
  | _ => none
def qX (P : Program) (t : TypeId) : Bool := match P.underlying t with | some (.interface _) => false | some _ => true | none => false
def gIfc (P : Program) (t : TypeId) (x : Value) : Option Value := if qX P t = true then some (.iface t x) else none
def uA (P : Program) (s d : TypeId) (h : GH) (x : Value) : Option Value := if (P.underlying s).isSome = true then sY P s d h x else none
def gIndexO (P : Program) (t : TypeId) (x i : Value) : Option Value := match i with | .int _ n => zJ P t x n | _ => none
def gIndexVO (P : Program) (t : TypeId) (x i : Value) : Option Value := match i with | .int _ n => qA P t x n | _ => none
def gMakeV (P : Program) (t : TypeId) (h : GH) (l c : Value) (K : Value → GH → Prop) : Prop := match l, c with | .int _ l, .int _ c => zC6 P t h l c K | _, _ => False
def gMinV (x : Value) (r : List Value) : Option Value := if isInt x = true then gMin x r else none
def gMaxV (x : Value) (r : List Value) : Option Value := if isInt x = true then gMax x r else none
theorem zH4 {x : Int} (h1 : 0 ≤ x) (h2 : x ≤ 9223372036854775807) : IntKind.i64.wrap x = x := by
  simp [IntKind.wrap, IntKind.signed, IntKind.bits]
  split <;> omega
theorem qC5 {P : Program} (w : World) (t u ty e : TypeId) (ik kx : IntKind) (i : TypeInfo) (z : Value) (ht : P.underlying t = some (.slice e)) (hu : P.underlying u = some (.int ik)) (hi : P.info? e = some i) (hz : i.zero = some z)
    (m : Nat) (hm : 0 < m) (h63 : m ≤ 9223372036854775807) (hb : m * i.bytes ≤ 140737488355328) (hpos : 0 < i.size) :
    (Builtin.append_ #[t, u] ty #[.slice none 0 0, .int kx m]).run P w = .ok (.slice (some ⟨w.heap.size, 0, none⟩) m (grownCap w m 0 e))
      (w.drew.alloc (.cells ((Builtin.zeroCells z.cells m).toList ++ (Builtin.zeroCells z.cells (grownCap w m 0 e - m)).toList).toArray e)) := by
  have hw : IntKind.i64.wrap (m : Int) = m := zH4 (by omega) (by omega)
  have h0 : ¬ ((m : Int) < 0) := by omega
  have h1 : ¬ (281474976710656 < (m : Int) * (i.bytes : Int)) := by
    rw [← Int.natCast_mul]
    omega
  have hn : ¬ (0 + m ≤ 0) := by omega
  have hn2 : ¬ m = 0 := by omega
  have hn3 : ¬ ((m : Int) ≤ 0) := by omega
  have hmx : max (m : Int) 0 = m := by omega
  have hs2 : ¬ i.size = 0 := by omega
  have hmz : ¬ (m = 0 ∨ i.size = 0) := by omega
  have h63' : ¬ (9223372036854775807 < (m : Int)) := by omega
  have hfit := growslice_fits (need := m) (old := 0) hm hb
  have h48' : ¬ (281474976710656 < Builtin.nextslicecap m 0 * i.bytes) := by omega
  simp [Builtin.append_, run_underlying ht, run_underlying hu, sizeOf, typeInfo, zeroValue, hi, hz, asInt, asIntOf, hw, h0, h1, hn2, hn3, hmx, hs2, hmz, h63', h48', Question.forced, newRow, grownCap, Builtin.firstCells]
  rw [if_neg (by rw [Nat.mul_eq_zero]; omega)]
  congr 2
  congr 1
  apply Array.ext'
  simp
def zD5 (P : Program) (t u : TypeId) (h : GH) (s x : Value) (K : Value → GH → Prop) : Prop :=
  ∃ ik kx e es by_ z m, P.underlying u = some (.int ik) ∧ tF P t = some (e, es, by_, z) ∧ zH2 z = true ∧ s = .slice none 0 0 ∧ x = .int kx (Int.ofNat m) ∧ 0 < m ∧ m ≤ maxLen ∧ m * by_ ≤ 140737488355328 ∧
    ∀ k, h k = none → K (.slice (some ⟨k, 0, none⟩) m (2 * m)) (yB h k ⟨uT z (m * es), es, true, true⟩)
theorem qM5 {P : Program} {N : Nat} {φ : Fm} {h : GH} {w : World} (hs : Sim N φ h w) {t u ty : TypeId} {s s' x x' : Value} (hvs : VR φ s s') (hvx : VR φ x x') {K : Value → GH → Prop} (g : zD5 P t u h s x K) :
    Yes P N φ w (Builtin.append_ #[t, u] ty #[s', x']) K := by
  obtain ⟨ik, kx, e, es, by_, z, m, hu, hel, hz, rfl, rfl, hm, hml, hb, k⟩ := g
  obtain ⟨ht, i, hi, hsize, hbytes, hzero, hzs, hpos⟩ := tU hel
  subst hsize
  cases hvs
  cases hvx
  have hml' : m ≤ 9223372036854775807 := by simp only [maxLen] at hml; omega
  have hr := qC5 (P := P) w t u ty e ik kx i z ht hu hi hzero m hm hml' (by rw [hbytes]; exact hb) hpos
  have hzc : (Builtin.zeroCells z.cells m).toList = uT z (m * i.size) := by
    simp only [Builtin.zeroCells, uT, madeCells, hzs]
  rw [hzc] at hr
  have hv : VRs φ (uT z (m * i.size)) (uT z (m * i.size)) := uS (qC0 hz (by omega) _)
  obtain ⟨φ', v, h', r1, r2, r3, r4, r5⟩ := pL (P := P) hs (fun _ => True) (fun _ _ _ => trivial) (K := K) t e i.size 0 0 m hzs hv (by simp [jU]) (by omega) (fun k' hk _ => by simpa using k k' hk)
  simp only [Nat.zero_add] at r2 r3 r4
  exact ⟨_, _, φ', v, h', hr, r1, r2, r3, r4, r5⟩
def gN (P : Program) (t u : TypeId) (h : GH) (s x : Value) (K : Value → GH → Prop) : Prop :=
  (∃ du e es by_ z m xs, P.underlying u = some du ∧ mY du = true ∧ tF P t = some (e, es, by_, z) ∧ mR h es x = some (m, xs) ∧ zO6 P t h s m xs K) ∨ zD5 P t u h s x K
def qY1 (P : Program) (t : TypeId) (h : GH) (d x : Value) (K : Value → GH → Prop) : Prop := ∃ n h2, qM4 P t h d x = some (n, h2) ∧ K (goInt n) h2
def qE (P : Program) (t : TypeId) (h : GH) (x : Value) : Option Int := match zS1 P t x with
  | some n => some n
  | none => gLenM P t h x
theorem zC7 {P : Program} {N : Nat} {φ : Fm} {h : GH} {w : World} (s : Sim N φ h w) {t ty : TypeId} {x x' : Value} (hx : VR φ x x') {n : Int} (e : qE P t h x = some n) : (Builtin.len_ #[t] ty #[x']).run P w = .ok (.int .i64 n) w := by
  unfold qE at e
  split at e
  · rename_i m hm; cases e; exact zJ5 hx hm w
  · exact zC8 s hx e
def gBlt (P : Program) (b : Builtin) (ats : List TypeId) (args : List Value) (h : GH) (K : Value → GH → Prop) : Prop :=
  match b, ats, args with
  | .len, [t], [x] => uQ ((qE P t h x).map (.int .i64)) h K
  | .cap, [t], [x] => uQ ((zS3 P t x).map (.int .i64)) h K
  | .min, _, x :: r => uQ (gMinV x r) h K
  | .max, _, x :: r => uQ (gMaxV x r) h K
  | .append, [t, u], [s, x] => gN P t u h s x K
  | .copy, [t, _], [d, x] => qY1 P t h d x K
  | _, _, _ => False
def gExtract (x : Value) (i : Nat) : Option Value := match x with | .tuple vs => vs[i]? | _ => none
def zO3 (P : Program) (N : Nat) (x : Value) (n : String) (args : List Value) (h : GH) (K : Value → GH → Prop) : Prop :=
  match x with
  | .iface t v => match zO0 P t n with
    | some f => GTri P N f (v :: args) h K
    | none => False
  | _ => False
def gCallV (P : Program) (N : Nat) (f : Value) (args : List Value) (h : GH) (K : Value → GH → Prop) : Prop :=
  match f with
  | .func (.func g) a b => GTri P N g (a.toList ++ args ++ b.toList) h K
  | _ => False
theorem Sim.mark {N : Nat} {φ : Fm} {h : GH} {w w' : World} (s : Sim N φ h w) {k : Nat} {B : GB} {f : Fx} (hk : h k = some B) (hf : φ k = some f) (hw : B.wr = true) (hsz : w'.heap.size = w.heap.size)
    (hne : ∀ j, j ≠ f.b → w'.heap[j]? = w.heap[j]?) (hc : ∀ a : Addr, a.block = f.b → w'.cell? a = w.cell? a) (hmap : ∀ o, mQ o = true → w.heap[f.b]? = some o → w'.heap[f.b]? = some o) : Sim N φ (yB h k ⟨B.cells, B.es, false, false⟩) w' := by
  have apart : ∀ j B' f', j ≠ k → h j = some B' → φ j = some f' → f'.b ≠ f.b := fun j B' f' hj h1 h2 e => by
    have := (s.sep k j B B' f f' (Ne.symm hj) hk h1 hf h2 e.symm).1
    rw [hw] at this; cases this
  refine ⟨s.ini, by rw [hsz]; exact s.big, s.fin, fun j B' hj hm => ?_, ?_, fun j g hj => by rw [hsz]; exact s.rng j g hj, ?_⟩
  · by_cases hjk : j = k
    · subst hjk
      rw [zP] at hj; cases hj
      have h2 := s.domf hk hf
      exact ⟨f, hf, ⟨by rw [hsz]; exact h2.lt, fun i v hv => by rw [hc _ rfl]; exact h2.cell i v hv, h2.es, fun hh => by simp at hh, fun hh => by simp at hh, fun hh => by simp at hh, fun hh => by simp at hh⟩⟩
    · rw [zT _ _ hjk] at hj
      obtain ⟨g, h1, h2⟩ := s.dom j B' hj hm
      exact ⟨g, h1, h2.mono (Ext.refl _) (by omega) (hne _ (apart j B' g hjk hj h1))⟩
  · intro j j' B1 B2 f1 f2 hn h1 h2 p1 p2 hb
    by_cases hj : j = k
    · subst hj
      rw [hf] at p1; cases p1
      rw [zT _ _ (Ne.symm hn)] at h2
      exact absurd hb.symm (apart j' B2 f2 (Ne.symm hn) h2 p2)
    · by_cases hj' : j' = k
      · subst hj'
        rw [hf] at p2; cases p2
        rw [zT _ _ hj] at h1
        exact absurd hb (apart j B1 f1 hj h1 p1)
      · rw [zT _ _ hj] at h1; rw [zT _ _ hj'] at h2
        exact s.sep j j' B1 B2 f1 f2 hn h1 h2 p1 p2 hb
  · have hbk := s.domf hk hf
    have old : ∀ j C, yB h k ⟨B.cells, B.es, false, false⟩ j = some C → fM C = true → h j = some C := fun j C hj hm => by
      by_cases hjk : j = k
      · subst hjk; rw [zP] at hj; cases hj
        have := hbk.noM
        unfold fM at hm this
        simp only at hm
        rw [hm] at this; cases this
      · rw [zT _ _ hjk] at hj; exact hj
    refine s.mm.step (Ext.refl _) (fun j C hj hm => ⟨C, old j C hj hm, rfl, id⟩) (fun j C hj hm => (s.mm.mdom j C (old j C hj hm) hm).1.1) fun r o ho hr => ?_
    by_cases hrb : r = f.b
    · subst hrb; exact hmap o ho hr
    · rw [hne r hrb]; exact hr
def zO1 (P : Program) (t d : TypeId) (h : GH) (x : Value) (K : Value → GH → Prop) : Prop :=
  t = d ∧ ∃ e a n c B, x = .slice (some a) n c ∧ n ≠ 0 ∧ P.underlying t = some (.slice e) ∧ P.underlying e = some (.int .u8) ∧ h a.block = some B ∧ B.wr = true ∧ K x (yB h a.block ⟨B.cells, B.es, false, false⟩)
theorem qA8 (w : World) (a : Addr) (k : Nat) (j : Nat) (h : j ≠ a.block) : (w.freeze a k).heap[j]? = w.heap[j]? := by
  unfold World.freeze
  split
  · rfl
  · simp only [Array.getElem?_modify]
    rw [if_neg (Ne.symm h)]
theorem zK6 (w : World) (a : Addr) (k : Nat) {r : Nat} {o : Obj} (ho : mQ o = true) (h : w.heap[r]? = some o) : (w.freeze a k).heap[r]? = some o := by
  unfold World.freeze
  split
  · exact h
  · simp only [Array.getElem?_modify]
    split
    · rw [h]; cases o <;> simp [mQ] at ho <;> rfl
    · exact h
theorem zK7 (w : World) (a : Addr) (k : Nat) {r : Nat} {o : Obj} (ho : zA2 o = true) (h : w.heap[r]? = some o) : (w.freeze a k).heap[r]? = some o := by
  unfold World.freeze
  split
  · exact h
  · simp only [Array.getElem?_modify]
    split
    · rw [h]; cases o <;> simp [zA2] at ho <;> rfl
    · exact h
theorem zE3 (w : World) (a : Addr) (k : Nat) : (w.freeze a k).heap.size = w.heap.size := by
  unfold World.freeze
  split
  · rfl
  · simp
theorem zE4 (w : World) (a : Addr) (k : Nat) (b : Addr) : (w.freeze a k).cell? b = w.cell? b := by
  by_cases hb : b.block = a.block
  · unfold World.freeze
    split
    · rfl
    · simp only [World.cell?, Array.getElem?_modify, hb, if_true]
      cases w.heap[a.block]? with
      | none => rfl
      | some o => cases o <;> rfl
  · exact World.cell?_of_block (w := w) (qA8 w a k _ hb)
theorem zC3 {P : Program} {N : Nat} {φ : Fm} {h : GH} {w : World} (s : Sim N φ h w) {t d : TypeId} {x x' : Value} (hx : VR φ x x') {K : Value → GH → Prop} (g : zO1 P t d h x K) : Yes P N φ w (convert t d x') K := by
  obtain ⟨rfl, e, a, n, c, B, rfl, hn, ht, he, hB, hw, k⟩ := g
  cases hx with
  | slice ha hc hl =>
  rename_i a' c'
  have ha' : AR φ a a' := by
    rcases ha with ha | h0
    · exact ha
    · omega
  obtain ⟨q1, q2, f, q3, q4, q5⟩ := ha'
  have r2 := s.domf hB q3
  have hN := r2.nz (.inl hw)
  have hrun : ∃ w', (convert t t (.slice (some a') n c')).run P w = .ok (.slice (some a') n c') w' ∧ w'.heap.size = w.heap.size ∧ (∀ j, j ≠ f.b → w'.heap[j]? = w.heap[j]?) ∧ (∀ b : Addr, w'.cell? b = w.cell? b) ∧ w'.os = w.os ∧ w'.tape = w.tape ∧ w'.output = w.output ∧ (∀ (r : Nat) o, mQ o = true → w.heap[r]? = some o → w'.heap[r]? = some o) ∧ w'.drawn = w.drawn ∧ (∀ (r : Nat) o, w.heap[r]? = some o → zA2 o = true → w'.heap[r]? = some o) := by
    cases hsh : w.shape? a'.block with
    | none => exact ⟨w, by simp [convert, run_underlying ht, run_underlying he, markStringish, hsh], rfl, fun _ _ => rfl, fun _ => rfl, rfl, rfl, rfl, fun _ _ _ h => h, rfl, fun _ _ h _ => h⟩
    | some p =>
      obtain ⟨el, m⟩ := p
      refine ⟨w.freeze ⟨a'.block, m, none⟩ 1, by simp [convert, run_underlying ht, run_underlying he, markStringish, hsh], zE3 _ _ _, fun j hj => qA8 _ _ _ _ (by show j ≠ a'.block; rw [q4]; exact hj), fun b => zE4 _ _ _ b, ?_, ?_, ?_, fun r o ho hr => zK6 _ _ _ ho hr, ?_, fun r o hr ho => zK7 _ _ _ ho hr⟩ <;> (unfold World.freeze; split <;> rfl)
  obtain ⟨w', e1, e2, e3, e4, e5, e6, e7, e8, e9, e10⟩ := hrun
  exact ⟨_, w', φ, _, _, e1, Ext.refl _, s.mark hB q3 hw e2 e3 (fun b _ => e4 b) (fun o ho hr => e8 _ o ho hr), .slice (.inl ⟨q1, q2, f, q3, q4, q5⟩) hc hl,
    ⟨e5, e6, e7, by omega, fun j hj => e3 j (by omega), by omega, e10⟩, k⟩
def gConvK (P : Program) (t d : TypeId) (h : GH) (x : Value) (K : Value → GH → Prop) : Prop := if t = d then zO1 P t d h x K else uQ (uA P t d h x) h K
def qN (P : Program) (N : Nat) (e : Env) (h : GH) (K : Value → GH → Prop) : Op → Prop
  | .move x => K (ev e x) h
  | .assign x => K (ev e x) h
  | .pick c a b => uQ (gPick (ev e c) (ev e a) (ev e b)) h K
  | .alloc t => qJ3 (zV P t) h K
  | .box _ x => gBoxP h (vcells (ev e x)) K
  | .build t ps => uQ (xP P t (ps.toList.map fun p => (p.1, ev e p.2))) h K
  | .buildSlice t n ps => gC P t h n (ps.toList.map fun p => (p.1, ev e p.2)) K
  | .load t a => uQ (wZ P t h (ev e a)) h K
  | .store t a x => qV9 (dI P t h (ev e a) (ev e x)) K
  | .nilCheck x => uQ (gNil P (ev e x)) h K
  | .binOp op t x y _ => gBin P op t (isC x || isC y) (ev e x) (ev e y) h K
  | .unOp op _ x => uQ (gUn op (ev e x)) h K
  | .convert s d x => gConvK P s d h (ev e x) K
  | .makeInterface t x => uQ (gIfc P t (ev e x)) h K
  | .makeFunc fn f c => K (.func fn (f.map (ev e)) (c.map (ev e))) h
  | .makeSlice t l c => gMakeV P t h (ev e l) (ev e c) K
  | .slice t x lo hi mx => uQ (vW P t h (ev e x) (lo.map (ev e)) (hi.map (ev e)) (mx.map (ev e))) h K
  | .fieldAddr t x f => uQ (qD P t (ev e x) f) h K
  | .field t x f => uQ (qX8 P t (ev e x) f) h K
  | .indexAddr t x i => uQ (gIndexO P t (ev e x) (ev e i)) h K
  | .index t x i => uQ (gIndexVO P t (ev e x) (ev e i)) h K
  | .extract x i => uQ (gExtract (ev e x) i) h K
  | .makeMap _ none => zC5 h K
  | .lookup t x i ok => uQ (qA2 P t h (ev e x) (ev e i) ok) h K
  | .mapUpdate t m k x => zO2 P t h (ev e m) (ev e k) (ev e x) K
  | .range t x => gRange P t h (ev e x) K
  | .next x false => zN9 h (ev e x) K
  | .entry x => gEntry h (ev e x) K
  | .call c => match c.callee with
    | .value f => gCallV P N (ev e f) (c.args.toList.map (ev e)) h K
    | .builtin b => gBlt P b c.argTypes.toList (c.args.toList.map (ev e)) h K
    | .invoke x n => zO3 P N (ev e x) n (c.args.toList.map (ev e)) h K
  | _ => False
theorem xN {P : Program} {o : Oper} {a : Act} {w w' : World} {next : Act → World → Prop} {Q : Exit → Act → World → Prop} {v' : Value} (hr : (execOp a.eval o).run P w = .ok (.value v') w') (hn : next (a.put o.dst v') w') : o.wp P a w next Q := by
  unfold Oper.wp; rw [hr]; exact hn
theorem VRs.evs {P : Program} {N : Nat} {φ : Fm} {h : GH} {w : World} (s : Sim N φ h w) (hG : P.globals.size ≤ N) {nt : Nat} {e : Env} {a : Act} (r : Rel φ nt e a.tmps) : ∀ (l : List Operand), (∀ x ∈ l, tN P.globals.size x = true) → VRs φ (l.map (ev e)) (l.map a.eval)
  | [], _ => .nil
  | x :: l, hl => .cons (r.ev s hG (hl x (by simp))) (VRs.evs s hG r l fun y hy => hl y (by simp [hy]))
theorem VRq.evs {P : Program} {N : Nat} {φ : Fm} {h : GH} {w : World} (s : Sim N φ h w) (hG : P.globals.size ≤ N) {nt : Nat} {e : Env} {a : Act} (r : Rel φ nt e a.tmps) : ∀ (l : List (Nat × Operand)), (∀ x ∈ l, tN P.globals.size x.2 = true) → VRq φ (l.map fun p => (p.1, ev e p.2)) (l.map fun p => (p.1, a.eval p.2))
  | [], _ => .nil
  | x :: l, hl => .cons (r.ev s hG (hl x (by simp))) (VRq.evs s hG r l fun y hy => hl y (by simp [hy]))
theorem qU7 {P : Program} {N : Nat} {φ : Fm} {h : GH} {w : World} (s : Sim N φ h w) (hG : P.globals.size ≤ N) {nt : Nat} {e : Env} {a : Act} (r : Rel φ nt e a.tmps) : ∀ (x : Option Operand), (∀ y, x = some y → tN P.globals.size y = true) → VRo φ (x.map (ev e)) (x.map a.eval)
  | none, _ => .none
  | some x, hl => .some (r.ev s hG (hl x rfl))
theorem zK0 {P : Program} {N : Nat} {φ : Fm} {h : GH} {w : World} (s : Sim N φ h w) {b : Builtin} {ats : Array TypeId} {args : List Value} {args' : Array Value} (hv : VRs φ args args'.toList) {K : Value → GH → Prop} (g : gBlt P b ats.toList args h K) (ty : TypeId) (cs : Array Bool) :
    ∃ v v' φ' h' w', (builtin b ats ty cs args').run P w = .ok (.value v') w' ∧ Ext φ φ' ∧ Sim N φ' h' w' ∧ VR φ' v v' ∧ Below N w w' ∧ K v h' := by
  obtain ⟨ats⟩ := ats
  obtain ⟨args'⟩ := args'
  simp only at hv g
  unfold gBlt at g
  split at g
  · obtain ⟨v, e0, k⟩ := g
    simp only [Option.map_eq_some_iff] at e0
    obtain ⟨n, e1, rfl⟩ := e0
    cases hv with
    | cons hx hv =>
    cases hv
    exact ⟨_, _, φ, h, w, by simp [builtin, zC7 (P := P) s hx e1], Ext.refl _, s, .int _ _, Below.refl _ _, k⟩
  · obtain ⟨v, e0, k⟩ := g
    simp only [Option.map_eq_some_iff] at e0
    obtain ⟨n, e1, rfl⟩ := e0
    cases hv with
    | cons hx hv =>
    cases hv
    exact ⟨_, _, φ, h, w, by simp [builtin, zJ8 (P := P) hx e1], Ext.refl _, s, .int _ _, Below.refl _ _, k⟩
  · obtain ⟨v, e0, k⟩ := g
    unfold gMinV at e0
    split at e0
    case isFalse => cases e0
    rename_i hi
    have e1 := e0
    cases hv with
    | cons hx hv =>
    rename_i x' l'
    obtain ⟨h1, k2, a2, rfl⟩ := qM1 (P := P) w hx hv e1 (by rename_i x r; cases x <;> simp [isInt] at hi ⊢)
    exact ⟨_, _, φ, h, w, by simp [builtin, Builtin.min_, h1], Ext.refl _, s, .int _ _, Below.refl _ _, k⟩
  · obtain ⟨v, e0, k⟩ := g
    unfold gMaxV at e0
    split at e0
    case isFalse => cases e0
    rename_i hi
    have e1 := e0
    cases hv with
    | cons hx hv =>
    rename_i x' l'
    obtain ⟨h1, k2, a2, rfl⟩ := qM2 (P := P) w hx hv e1 (by rename_i x r; cases x <;> simp [isInt] at hi ⊢)
    exact ⟨_, _, φ, h, w, by simp [builtin, Builtin.max_, h1], Ext.refl _, s, .int _ _, Below.refl _ _, k⟩
  · cases hv with
    | cons hx hv =>
    cases hv with
    | cons hy hv =>
    cases hv
    rcases g with ⟨du, e, es, by_, z, m, xs, hu, hni, hel, hsrc, ga⟩ | g
    case inr =>
      obtain ⟨v', w', φ', v, h', r1, r2, r3, r4, r5, r6⟩ := qM5 (P := P) s (ty := ty) hx hy g
      exact ⟨v, v', φ', h', w', by simp [builtin, r1], r2, r3, r4, r5, r6⟩
    obtain ⟨v', w', φ', v, h', r1, r2, r3, r4, r5, r6⟩ := qP7 (P := P) s (ty := ty) hu (fun k hk => by subst hk; cases hni) hx hy hsrc (fun e2 es2 b2 z2 h2 => by rw [hel] at h2; cases h2; rfl) ga
    exact ⟨v, v', φ', h', w', by simp [builtin, r1], r2, r3, r4, r5, r6⟩
  · rename_i t u d x
    obtain ⟨n, h2, e1, k⟩ := g
    cases hv with
    | cons hx hv =>
    cases hv with
    | cons hy hv =>
    cases hv
    obtain ⟨w', r1, r2, r3⟩ := zD1 (P := P) s (u := u) (ty := ty) hx hy e1
    exact ⟨_, _, φ, h2, w', by simp [builtin, r1, goInt], Ext.refl _, r2, .int _ _, r3, k⟩
  · exact g.elim
theorem gQ {P : Program} {g : FuncId} (q1 : vC P g = true) (A : Array Value) (w : World) : (callFunc g A).run P w = .ok (.enter g A) w := by
  unfold vC at q1
  split at q1
  case h_2 => cases q1
  rename_i fn hfn
  simp only [Bool.and_eq_true, Bool.not_eq_true', beq_eq_false_iff_ne, ne_eq] at q1
  obtain ⟨c, hc⟩ := Option.isSome_iff_exists.1 q1.1
  simp [callFunc, hfn, q1.2, hc]
theorem pU {P : Program} {N : Nat} (hG : P.globals.size ≤ N) {φ : Fm} {h : GH} {w : World} (s : Sim N φ h w) {nt : Nat} {e : Env} {a : Act} (r : Rel φ nt e a.tmps) {o : Oper}
    (hok : ∀ x ∈ o.op.operands, tN P.globals.size x = true) {K : Value → GH → Prop} (g : qN P N e h K o.op) {next : Act → World → Prop} {Q : Exit → Act → World → Prop}
    (hn : ∀ v v' φ' h' w', Ext φ φ' → Sim N φ' h' w' → VR φ' v v' → Below N w w' → K v h' → next (a.put o.dst v') w') : o.wp P a w next Q := by
  obtain ⟨dst, op, type, pos, after, guard⟩ := o
  have same : ∀ v v', VR φ v v' → K v h → next (a.put dst v') w := fun v v' hv k => hn v v' φ h w (Ext.refl _) s hv (Below.refl _ _) k
  cases op <;> simp only [qN] at g <;> simp only [Op.operands] at hok
  case move x => exact xN (by simp [execOp]) (same _ _ (r.ev s hG (hok x (by simp))) g)
  case assign x => exact xN (by simp [execOp]) (same _ _ (r.ev s hG (hok x (by simp))) g)
  case pick c x y =>
    obtain ⟨v0, e0, k⟩ := g
    unfold gPick at e0
    split at e0
    case h_2 => cases e0
    rename_i t e1
    cases e0
    have hc := r.ev s hG (hok c (by simp))
    rw [e1] at hc
    have hx := r.ev s hG (hok x (by simp))
    have hy := r.ev s hG (hok y (by simp))
    have hcv : a.eval c = .bool t := by generalize a.eval c = z at hc; cases hc; rfl
    cases t
    · exact xN (v' := a.eval y) (by simp [execOp, hcv, asBool]) (same _ _ (by simpa using hy) k)
    · exact xN (v' := a.eval x) (by simp [execOp, hcv, asBool]) (same _ _ (by simpa using hx) k)
  case alloc t =>
    obtain ⟨z, e1, k⟩ := g
    unfold zV at e1
    split at e1
    case h_2 => cases e1
    rename_i i hi
    split at e1
    case h_2 => cases e1
    rename_i z' hz
    split at e1
    case isFalse => cases e1
    rename_i hclo
    cases e1
    rw [← vM] at k
    obtain ⟨v', w', φ', v, h', r1, r2, r3, r4, r5, r6⟩ := qY3 (P := P) (K := K) s t hi hz (qN3 hclo) (qI5 (mI hclo)) k (.tuple #[])
    exact xN (by simp [execOp, r1]) (hn _ _ _ _ _ r2 r3 r4 r5 r6)
  case box t x =>
    obtain ⟨hc, k⟩ := g
    rw [← vM] at hc k
    obtain ⟨v', w', φ', v, h', r1, r2, r3, r4, r5, r6⟩ := zJ9 (P := P) (K := K) s (r.ev s hG (hok x (by simp))) hc t k
    exact xN (by simp [execOp, r1]) (hn _ _ _ _ _ r2 r3 r4 r5 r6)
  case build t ps =>
    obtain ⟨v, e1, k⟩ := g
    have hq : VRq φ (ps.toList.map fun p => (p.1, ev e p.2)) (ps.map fun p => (p.1, a.eval p.2)).toList := by
      rw [Array.toList_map]
      exact VRq.evs s hG r _ fun x hx => hok x.2 (by simp; exact ⟨x.1, by simpa using hx⟩)
    obtain ⟨v', r1, r2⟩ := qY2 (P := P) hq e1 w
    exact xN (by simp [execOp, r1]) (same _ _ r2 k)
  case buildSlice t n ps =>
    have hq : VRq φ (ps.toList.map fun p => (p.1, ev e p.2)) (ps.map fun p => (p.1, a.eval p.2)).toList := by
      rw [Array.toList_map]
      exact VRq.evs s hG r _ fun x hx => hok x.2 (by simp; exact ⟨x.1, by simpa using hx⟩)
    obtain ⟨v', w', φ', v, h', r1, r2, r3, r4, r5, r6⟩ := qA3 (P := P) s hq g
    exact xN (by simp [execOp, r1]) (hn _ _ _ _ _ r2 r3 r4 r5 r6)
  case load t x =>
    obtain ⟨v, e1, k⟩ := g
    obtain ⟨v', r1, r2⟩ := qG8 (P := P) s (r.ev s hG (hok x (by simp))) e1
    exact xN (by simp [execOp, r1]) (same _ _ r2 k)
  case store t x y =>
    obtain ⟨h2, e1, k⟩ := g
    obtain ⟨w', r1, r2, r3⟩ := qX2 (P := P) s (r.ev s hG (hok x (by simp))) (r.ev s hG (hok y (by simp))) e1
    have : (execOp a.eval { dst, op := .store t x y, type, pos, after, guard }).run P w = .ok .skip w' := by simp [execOp, r1]
    unfold Oper.wp
    rw [this]
    exact hn U undef φ h2 w' (Ext.refl _) r2 (VR.u _ _) r3 k
  case nilCheck x =>
    have hx := r.ev s hG (hok x (by simp))
    obtain ⟨v0, e0, g⟩ := g
    unfold gNil at e0
    split at e0
    · rename_i ad hx'
      cases e0
      rw [hx'] at hx
      generalize hz : a.eval x = z at hx
      cases hx with
      | ptr ha => exact xN (by simp [execOp, hz]) (same _ _ (.ptr ha) g)
    · rename_i f fa fb hx'
      cases e0
      rw [hx'] at hx
      generalize hz : a.eval x = z at hx
      cases hx with
      | func h1 h2 => exact xN (by simp [execOp, hz]) (same _ _ (.func h1 h2) g)
    · rename_i n fa fb hx'
      unfold qG at e0
      split at e0
      case h_2 => cases e0
      rename_i t v rr ha
      split at e0
      case h_2 => cases e0
      rename_i f hf
      cases e0
      rw [hx'] at hx
      generalize hz : a.eval x = z at hx
      cases hx with
      | func h1 h2 =>
      rename_i fa' fb'
      rw [ha] at h1
      obtain ⟨fa'⟩ := fa'
      simp only at h1
      cases h1 with
      | cons h3 h4 =>
      cases h3 with
      | iface h5 =>
      rename_i l' v'
      refine xN (v' := .func (.method n) (.iface t v' :: l').toArray fb') ?_ (same _ _ (.func (.cons (.iface h5) h4) (by simpa using h2)) g)
      simp [execOp, hz, (qG7 hf v' w).2]
    · rename_i t v hx'
      cases e0
      rw [hx'] at hx
      generalize hz : a.eval x = z at hx
      cases hx with
      | iface h1 => exact xN (by simp [execOp, hz]) (same _ _ (.iface h1) g)
    · cases e0
  case binOp op t x y ty =>
    have hx := r.ev s hG (hok x (by simp))
    have hy := r.ev s hG (hok y (by simp))
    obtain ⟨v, r1, k, r2⟩ := zK1 (P := P) (op := op) (t := t) hx hy g w
    refine xN (v' := v) ?_ (same _ _ (r2 φ) k)
    simp only [Sem.run_bind] at r1
    simp only [execOp, Sem.run_bind, r1, Result.andThen_ok, Sem.run_pure]
  case unOp op t x =>
    obtain ⟨v, e1, k⟩ := g
    obtain ⟨r1, r2⟩ := zR9 (P := P) (r.ev s hG (hok x (by simp))) e1 w
    exact xN (by simp [execOp, r1]) (same _ _ (r2 φ) k)
  case convert sr d x =>
    unfold gConvK at g
    split at g
    · obtain ⟨v', w', φ', v, h', r1, r2, r3, r4, r5, r6⟩ := zC3 (P := P) s (r.ev s hG (hok x (by simp))) g
      exact xN (by simp [execOp, r1]) (hn v v' φ' h' w' r2 r3 r4 r5 r6)
    obtain ⟨v, e0, k⟩ := g
    unfold uA at e0
    split at e0
    case isFalse => cases e0
    rename_i hs
    have e1 := e0
    obtain ⟨r1, r2⟩ := zD2 (P := P) s (r.ev s hG (hok x (by simp))) hs e1
    exact xN (by simp [execOp, r1]) (same _ _ (r2 φ) k)
  case makeInterface t x =>
    obtain ⟨v0, e0, k⟩ := g
    unfold gIfc at e0
    split at e0
    case isFalse => cases e0
    rename_i h1
    cases e0
    refine xN (v' := .iface t (a.eval x)) ?_ (same _ _ (.iface (r.ev s hG (hok x (by simp)))) k)
    unfold qX at h1
    cases hu : P.underlying t with
    | none => simp [hu] at h1
    | some d => cases d <;> simp_all [execOp, Instr.makeInterface, run_underlying hu]
  case makeFunc fn f c =>
    refine xN (v' := .func fn (f.map a.eval) (c.map a.eval)) (by simp [execOp, Instr.makeFunc]) (same _ _ (.func ?_ ?_) g)
    · simp only [Array.toList_map]
      exact VRs.evs s hG r _ fun x hx => hok x (by simp; exact .inl (by simpa using hx))
    · simp only [Array.toList_map]
      exact VRs.evs s hG r _ fun x hx => hok x (by simp; exact .inr (by simpa using hx))
  case makeSlice t l c =>
    unfold gMakeV at g
    split at g
    case h_2 => exact g.elim
    rename_i kl l' kc c' e1 e2
    have gm := g
    have hl := r.ev s hG (hok l (by simp))
    have hc := r.ev s hG (hok c (by simp))
    rw [e1] at hl; rw [e2] at hc
    generalize hz : a.eval l = z at hl
    generalize hz2 : a.eval c = z2 at hc
    cases hl; cases hc
    obtain ⟨v', w', φ', v, h', r1, r2, r3, r4, r5, r6⟩ := zC4 (P := P) s (kl := kl) (kc := kc) gm
    exact xN (by simp [execOp, hz, hz2, r1]) (hn _ _ _ _ _ r2 r3 r4 r5 r6)
  case slice t x lo hi mx =>
    obtain ⟨v, e1, k⟩ := g
    obtain ⟨v', r1, r2⟩ := qX3 (P := P) s (r.ev s hG (hok x (by simp)))
      (qU7 s hG r lo fun y hy => hok y (by subst hy; simp)) (qU7 s hG r hi fun y hy => hok y (by subst hy; simp)) (qU7 s hG r mx fun y hy => hok y (by subst hy; simp)) e1
    exact xN (by simp [execOp, r1]) (same _ _ r2 k)
  case fieldAddr t x f =>
    obtain ⟨v, e1, k⟩ := g
    obtain ⟨v', r1, r2⟩ := qX7 (P := P) s (r.ev s hG (hok x (by simp))) f e1
    exact xN (by simp [execOp, r1]) (same _ _ r2 k)
  case field t x f =>
    obtain ⟨v, e1, k⟩ := g
    obtain ⟨v', r1, r2⟩ := qP6 (P := P) (r.ev s hG (hok x (by simp))) e1 w
    exact xN (by simp [execOp, r1]) (same _ _ r2 k)
  case indexAddr t x i =>
    obtain ⟨v, e1, k⟩ := g
    unfold gIndexO at e1
    split at e1
    case h_2 => cases e1
    rename_i ki n e0
    have hi := r.ev s hG (hok i (by simp))
    rw [e0] at hi
    generalize hz : a.eval i = z at hi
    cases hi
    obtain ⟨v', r1, r2⟩ := qX6 (P := P) s (r.ev s hG (hok x (by simp))) ki n e1
    exact xN (by simp [execOp, hz, r1]) (same _ _ r2 k)
  case index t x i =>
    obtain ⟨v, e1, k⟩ := g
    unfold gIndexVO at e1
    split at e1
    case h_2 => cases e1
    rename_i ki n e0
    have hi := r.ev s hG (hok i (by simp))
    rw [e0] at hi
    generalize hz : a.eval i = z at hi
    cases hi
    obtain ⟨v', r1, r2⟩ := qP5 (P := P) (r.ev s hG (hok x (by simp))) (k := ki) e1 w
    exact xN (by simp [execOp, hz, r1]) (same _ _ r2 k)
  case extract x i =>
    obtain ⟨v, e1, k⟩ := g
    have hx := r.ev s hG (hok x (by simp))
    unfold gExtract at e1
    split at e1
    case h_2 => cases e1
    rename_i vs hvs
    rw [hvs] at hx
    generalize hz : a.eval x = z at hx
    cases hx with
    | tuple ht =>
    obtain ⟨v', p1, p2⟩ := ht.get i v (by simpa using e1)
    simp only [Array.getElem?_toList] at p1
    exact xN (by simp [execOp, hz, Instr.extract, p1]) (same _ _ p2 k)
  case makeMap t rs =>
    cases rs with
    | some x => exact g.elim
    | none =>
    obtain ⟨φ', h', v, r1, r2, r3, r4, r5⟩ := qM3 s g
    exact xN (by simp [execOp, Instr.makeMap]) (hn _ _ _ _ _ r1 r2 r3 r4 r5)
  case lookup t x i ok =>
    obtain ⟨v, e1, k⟩ := g
    obtain ⟨v', r1, r2⟩ := qP4 (P := P) s (r.ev s hG (hok x (by simp))) (r.ev s hG (hok i (by simp))) e1
    exact xN (by simp [execOp, r1]) (same _ _ r2 k)
  case mapUpdate t m k x =>
    obtain ⟨w', h', r1, r2, r3, r4⟩ := qP3 (P := P) s (r.ev s hG (hok m (by simp))) (r.ev s hG (hok k (by simp))) (r.ev s hG (hok x (by simp))) g
    have : (execOp a.eval { dst, op := .mapUpdate t m k x, type, pos, after, guard }).run P w = .ok .skip w' := by simp [execOp, r1]
    unfold Oper.wp
    rw [this]
    exact hn U undef φ h' w' (Ext.refl _) r2 (VR.u _ _) r3 r4
  case range t x =>
    obtain ⟨φ', h', v, v', w', r1, r2, r3, r4, r5, r6⟩ := qX4 (P := P) s (r.ev s hG (hok x (by simp))) g
    exact xN (by simp [execOp, r1]) (hn _ _ _ _ _ r2 r3 r4 r5 r6)
  case next x b =>
    cases b with
    | true => exact g.elim
    | false =>
    obtain ⟨h', v, v', w', r1, r3, r4, r5, r6⟩ := zC1 (P := P) (ty := type) s (r.ev s hG (hok x (by simp))) g
    exact xN (by simp [execOp, r1]) (hn _ _ _ _ _ (Ext.refl _) r3 r4 r5 r6)
  case entry x =>
    obtain ⟨v, v', r1, r2, r3⟩ := qY0 (P := P) s (r.ev s hG (hok x (by simp))) g
    exact xN (by simp [execOp, r1]) (same _ _ r2 r3)
  case call c =>
    obtain ⟨callee, args, ats⟩ := c
    have hargs : VRs φ (args.toList.map (ev e)) (args.map a.eval).toList := by
      rw [Array.toList_map]
      exact VRs.evs s hG r _ fun x hx => hok x (by simp [Call.operands]; exact .inr (by simpa using hx))
    cases callee with
    | value f =>
      simp only at g
      unfold gCallV at g
      split at g
      case h_2 => exact g.elim
      rename_i g0 fa fb e1
      have gt := g
      have hf := r.ev s hG (hok f (by simp [Call.operands]))
      rw [e1] at hf
      generalize hz : a.eval f = z at hf
      cases hf with
      | func h1 h2 =>
      rename_i fa' fb'
      have hall : VRs φ (fa.toList ++ args.toList.map (ev e) ++ fb.toList) (fa' ++ args.map a.eval ++ fb').toList := by
        simp only [Array.toList_append]
        exact (h1.append hargs).append h2
      have hex : ∀ rr, (callFunc g0 (fa' ++ args.map a.eval ++ fb')).run P w = rr → (execOp a.eval { dst, op := .call { callee := .value f, args, argTypes := ats }, type, pos, after, guard }).run P w = rr := by
        intro rr hr
        rw [Array.append_assoc] at hr
        simp [execOp, resolve, Deferred.ofValue, hz, invoke, hr]
      rcases gt hG φ w _ s hall with ⟨q1, q2⟩ | ⟨v, v', φ', h', w', q1, q2, q3, q4, q5, q6⟩
      · have hcf := gQ q1 (fa' ++ args.map a.eval ++ fb') w
        unfold Oper.wp
        rw [hex _ hcf]
        show Calls P g0 _ w _
        refine q2.mono ?_
        rintro e' w' ⟨v, v', φ', h', rfl, p2, p3, p4, p5, p6⟩
        exact hn v v' φ' h' w' p2 p3 p4 p5 p6
      · exact xN (hex _ q1) (hn v v' φ' h' w' q2 q3 q4 q5 q6)
    | builtin b =>
      simp only at g
      obtain ⟨v, v', φ', h', w', q1, q2, q3, q4, q5, q6⟩ := zK0 (P := P) s hargs g type (args.map fun | .const _ => true | _ => false)
      refine xN (v' := v') ?_ (hn v v' φ' h' w' q2 q3 q4 q5 q6)
      simp only [execOp, resolve, Sem.run_bind, Sem.run_pure, Result.andThen_ok, invoke]
      exact q1
    | invoke x n =>
      simp only at g
      unfold zO3 at g
      split at g
      case h_2 => exact g.elim
      rename_i t v e1
      split at g
      case h_2 => exact g.elim
      rename_i g0 hm
      have gt := g
      have hf := r.ev s hG (hok x (by simp [Call.operands]))
      rw [e1] at hf
      generalize hz : a.eval x = z at hf
      cases hf with
      | iface h1 =>
      rename_i v'
      have hall : VRs φ (v :: args.toList.map (ev e)) (#[v'] ++ args.map a.eval).toList := by
        simp only [Array.toList_append, List.cons_append, List.nil_append]
        exact .cons h1 hargs
      have hex : ∀ rr, (callFunc g0 (#[v'] ++ args.map a.eval)).run P w = rr → (execOp a.eval { dst, op := .call { callee := .invoke x n, args, argTypes := ats }, type, pos, after, guard }).run P w = rr := by
        intro rr hr
        have h0 : (#[Value.iface t v'] ++ Array.map a.eval args)[0]? = some (Value.iface t v') := by simp [Array.getElem?_append]
        have h1 : (#[Value.iface t v'] ++ Array.map a.eval args).extract 1 (#[Value.iface t v'] ++ Array.map a.eval args).size = Array.map a.eval args := by apply Array.ext'; simp [List.take_of_length_le]
        simp only [execOp, resolve, hz, invoke, Sem.run_bind, Sem.run_pure, Result.andThen_ok, h0, h1]
        rw [(qG7 hm v' w).1, hr]
      rcases gt hG φ w _ s hall with ⟨q1, q2⟩ | ⟨v, v', φ', h', w', q1, q2, q3, q4, q5, q6⟩
      · have hcf := gQ q1 (#[v'] ++ args.map a.eval) w
        unfold Oper.wp
        rw [hex _ hcf]
        show Calls P g0 _ w _
        refine q2.mono ?_
        rintro e' w' ⟨v, v', φ', h', rfl, p2, p3, p4, p5, p6⟩
        exact hn v v' φ' h' w' p2 p3 p4 p5 p6
      · exact xN (hex _ q1) (hn v v' φ' h' w' q2 q3 q4 q5 q6)
  all_goals exact g.elim
end Go.Gh
