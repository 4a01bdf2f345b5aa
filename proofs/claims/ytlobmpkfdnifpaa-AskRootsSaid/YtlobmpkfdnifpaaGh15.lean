/- A framework of this claim's proof, part 15. Where a law begins and ends. No statement of the claim stands here. -/
import Derived.Test.YtlobmpkfdnifpaaGh14
import Derived.OpenShut
import Derived.ShutString
import Derived.ChangeOld
import Derived.Below
import Derived.SizedLaws
import Derived.JoinedCond
import Derived.Deep.CondSized
namespace Go.Gh
open Go Go.RowKit Go.ChangeShapes Go.WideShapes Go.ChangeAt
set_option linter.unusedVariables false
set_option linter.unusedSimpArgs false

/-! ## Where a law begins: the ghost memory of what came in -/

def upc (N : Nat) : Value → Value
  | .bool b => .bool b
  | .int k n => .int k n
  | .string s => .string s
  | .pointer none => .pointer none
  | .pointer (some a) => if a.spot = none ∧ a.block < N then .pointer (some a) else U
  | .slice none 0 0 => .slice none 0 1
  | .slice (some a) n c => if n ≤ c ∧ ((a.spot = none ∧ a.block < N) ∨ c = 0) then .slice (some a) n (2 * c + 1) else U
  | .nilFunc => .nilFunc
  | .nilIface => .nilIface
  | _ => U
def up (N : Nat) : Value → Value
  | .agg c => .agg (c.toList.map (upc N)).toArray
  | v => upc N v

theorem upc_vr {N : Nat} {φ : Fm} (hφ : ∀ k, k < N → φ k = some ⟨k, 0, 0, 0⟩) (v : Value) : VR φ (upc N v) v := by
  unfold upc
  split
  · exact .bool _
  · exact .int _ _
  · exact .string _
  · exact .pnil
  · rename_i a
    split
    · rename_i h
      exact .ptr ⟨h.1, h.1, _, hφ _ h.2, rfl, by simp⟩
    · exact .any _
  · exact .snil _
  · rename_i a n c
    split
    · rename_i h
      refine .slice ?_ ⟨fun _ => by omega, fun h2 => by omega⟩ h.1
      rcases h.2 with h2 | h2
      · exact .inl ⟨h2.1, h2.1, _, hφ _ h2.2, rfl, by simp⟩
      · exact .inr h2
    · exact .any _
  · exact .nilFunc
  · exact .nilIface
  · exact .any _
theorem upcs_vr {N : Nat} {φ : Fm} (hφ : ∀ k, k < N → φ k = some ⟨k, 0, 0, 0⟩) : ∀ l : List Value, VRs φ (l.map (upc N)) l
  | [] => .nil
  | v :: l => .cons (upc_vr hφ v) (upcs_vr hφ l)
theorem up_vr {N : Nat} {φ : Fm} (hφ : ∀ k, k < N → φ k = some ⟨k, 0, 0, 0⟩) (v : Value) : VR φ (up N v) v := by
  unfold up
  split
  · rename_i c
    exact .agg (by simpa using upcs_vr hφ c.toList)
  · exact upc_vr hφ v
theorem ups_vr {N : Nat} {φ : Fm} (hφ : ∀ k, k < N → φ k = some ⟨k, 0, 0, 0⟩) : ∀ l : List Value, VRs φ (l.map (up N)) l
  | [] => .nil
  | v :: l => .cons (up_vr hφ v) (ups_vr hφ l)

def h0 (W : World) : GH := fun k => match W.heap[k]? with
  | some (.cells c _ _) => some ⟨c.toList.map (upc W.heap.size), 0, false, false⟩
  | _ => none
def φ0 (N : Nat) : Fm := fun k => if k < N then some ⟨k, 0, 0, 0⟩ else none
theorem φ0_lt {N k : Nat} (h : k < N) : φ0 N k = some ⟨k, 0, 0, 0⟩ := by simp [φ0, h]

theorem h0_sim (W : World) : Sim W.heap.size (φ0 W.heap.size) (h0 W) W where
  ini k hk := φ0_lt hk
  big := Nat.le_refl _
  fin := ⟨W.heap.size, fun k hk => by simp [φ0]; omega⟩
  dom k B hk := by
    unfold h0 at hk
    split at hk
    · rename_i c t fz hh
      have hlt : k < W.heap.size := by
        rcases Nat.lt_or_ge k W.heap.size with h | h
        · exact h
        · rw [Array.getElem?_eq_none h] at hh; cases hh
      cases hk
      refine ⟨_, φ0_lt hlt, ⟨hlt, fun i v hv => ?_, rfl, fun h => by simp at h, fun h => by simp at h, fun h => by simp at h, fun h => by simp at h⟩⟩
      simp only [List.getElem?_map, Option.map_eq_some_iff] at hv
      obtain ⟨u, hu, rfl⟩ := hv
      refine ⟨u, ?_, upc_vr (fun k hk => φ0_lt hk) u⟩
      simp only [World.cell?, hh, Nat.zero_add]
      simpa using hu
    · cases hk
  sep k k' B B' f f' hne hk hk' hf hf' hb := by
    unfold φ0 at hf hf'
    split at hf <;> split at hf' <;> simp_all
    subst hf; subst hf'
    exact absurd hb hne
  rng k f hf := by
    unfold φ0 at hf
    split at hf
    · cases hf; assumption
    · cases hf

/-- FROM A TRIPLE TO THE CALL. -/
theorem GTri.calls {P : Program} {W : World} {f : FuncId} {args : Array Value} (hG : P.globals.size ≤ W.heap.size) (hf : gfn P f = true) (g : GTri P W.heap.size f (args.toList.map (up W.heap.size)) (h0 W) fun v _ => v = .bool true) :
    Calls P f args W fun e W' => e = .returned (.bool true) ∧ Below W.heap.size W W' := by
  rcases g hG _ W args (h0_sim W) (ups_vr (fun k hk => φ0_lt hk) _) with ⟨_, h⟩ | ⟨v, v', φ', h', w', h1, _⟩
  · refine h.mono ?_
    rintro e w' ⟨v, v', φ', h', rfl, _, _, hv, hb, rfl⟩
    cases hv
    exact ⟨rfl, hb⟩
  · rw [callFunc_enter hf] at h1
    cases h1

/-! ## What the arguments read as -/

theorem cell_obj {W : World} {a : Addr} {v : Value} (h : W.cell? a = some v) : a.spot = none ∧ a.block < W.heap.size ∧ ∃ c t fz, W.heap[a.block]? = some (.cells c t fz) ∧ c[a.off]? = some v := by
  unfold World.cell? at h
  split at h
  · rename_i c t fz hh
    split at h
    · cases h
    · rename_i hs
      refine ⟨by simpa using hs, ?_, c, t, fz, hh, h⟩
      rcases Nat.lt_or_ge a.block W.heap.size with h | h
      · exact h
      · rw [Array.getElem?_eq_none h] at hh; cases hh
  · cases h

theorem h0_read {W : World} {a : Addr} (xs : List Value) (hx : ∀ (i : Nat) v, xs[i]? = some v → W.cell? (a.add i) = some v) : gread (h0 W) a xs.length = some (xs.map (upc W.heap.size)) := by
  cases xs with
  | nil => simp [gread]
  | cons x r =>
    have h1 := hx 0 x rfl
    obtain ⟨b, o, s⟩ := a
    have hs : s = none := by
      have := World.cell?_spot h1
      simpa [Addr.add] using this
    subst hs
    simp only [add_none] at hx h1
    obtain ⟨_, _, c, t, fz, hh, hc⟩ := cell_obj h1
    simp only [Nat.add_zero] at hc
    simp only at hh
    have hB : h0 W b = some ⟨c.toList.map (upc W.heap.size), 0, false, false⟩ := by simp [h0, hh]
    have hall : ∀ i, i < (x :: r).length → c[o + i]? = (x :: r)[i]? := fun i hi => by
      have e : (x :: r)[i]? = some (x :: r)[i] := by simp [hi]
      obtain ⟨_, _, c', t', fz', hh', hc'⟩ := cell_obj (hx i _ e)
      simp only at hh' hc'
      rw [hh] at hh'
      cases hh'
      rw [hc', e]
    refine gread_lit hB ?_ (by simp)
    apply List.ext_getElem?
    intro i
    by_cases hi : i < (x :: r).length
    · rw [List.getElem?_take_of_lt hi]
      simp only [List.getElem?_drop, List.getElem?_map, Array.getElem?_toList]
      rw [hall i hi]
    · rw [List.getElem?_take_eq_none (by omega), List.getElem?_eq_none (by simp at hi ⊢; omega)]

def ofI (n : Int) : UInt8 := UInt8.ofNat n.toNat
theorem bv_ofI {n : Int} (h : (Lit.int .u8 n).wf = true) : bv (ofI n) = .int .u8 n := by
  have := bounds_u8 h
  simp only [bv, ofI, UInt8.toNat_ofNat', Nat.reducePow]
  congr 1
  omega

section
variable {H : Type} {enc : TypeId × Value → H} {P : Program} {W : World} {b0 base : Nat} {t : TypeId} {v : Value} {d : DataW H} {ps : List MemPlace} {r : Reach}

/-- Bytes that came in, with their form. -/
theorem arg_bytes {e : TypeId} (hu : P.underlying t = some (.slice e)) (he : P.underlying e = some (.int .u8)) (hc : P.cellsOf e = 1)
    (h : DataW.Trod enc P W base (fun _ => true) true t v d ps) (hok : Value.okWide P W r b0 t v) :
    ∃ l : List UInt8, RB (h0 W) (up W.heap.size v) l ∧ (l = [] ∨ ∃ es sp, d = .slice es sp ∧ es.length = l.length) := by
  obtain ⟨a, n, c, rfl⟩ := okWide_slice hu hok
  obtain ⟨fuel, hf⟩ := h
  rcases open_ints hu he hc hf with ⟨hcs, _⟩ | ⟨x, l, c, zs, hcs, _, hl, hm, hz, hx, hcell, hwz⟩
  · simp [Value.cells] at hcs
    obtain ⟨rfl, rfl, rfl⟩ := hcs
    exact ⟨[], .inl ⟨1, rfl, rfl⟩, .inl rfl⟩
  · simp [Value.cells] at hcs
    obtain ⟨rfl, rfl, rfl⟩ := hcs
    simp only [if_true] at hz
    have hlen : ((zs.take n).map ofI).length = n := by simp; omega
    refine ⟨(zs.take n).map ofI, .inr ?_, .inr ⟨_, _, (Prod.mk.inj hx).1, by simp [lits]⟩⟩
    have hup : up W.heap.size (.slice (some x) n c) = .slice (some x) n (2 * c + 1) := by
      simp only [up, upc]
      rw [if_pos]
      refine ⟨hl, ?_⟩
      cases c with
      | zero => exact .inr rfl
      | succ c =>
        left
        have := hcell 0 (by omega)
        obtain ⟨h1, h2, _⟩ := cell_obj this
        exact ⟨by simpa [Addr.add] using h1, by simpa [Addr.add] using h2⟩
    refine ⟨x, 2 * c + 1, by rw [hlen]; exact hup, ?_, by omega⟩
    have := h0_read (W := W) (a := x) ((zs.take n).map fun q => Value.int .u8 q) (fun i v hv => by
      simp only [List.getElem?_map, Option.map_eq_some_iff] at hv
      obtain ⟨q, hq, rfl⟩ := hv
      have hi : i < n := by
        rcases Nat.lt_or_ge i n with h | h
        · exact h
        · rw [List.getElem?_eq_none (by simp; omega)] at hq; cases hq
      rw [List.getElem?_take_of_lt hi] at hq
      rw [hcell i (by omega)]
      simp [hq])
    rw [List.length_map] at this
    rw [hlen]
    have hl2 : (zs.take n).length = n := by simp; omega
    rw [hl2] at this
    rw [this]
    simp only [List.map_map]
    congr 1
    apply List.map_congr_left
    intro q hq
    exact (bv_ofI (hwz q (List.mem_of_mem_take hq))).symm

/-- The same, with the slice's form. -/
theorem arg_form {e : TypeId} (hu : P.underlying t = some (.slice e)) (he : P.underlying e = some (.int .u8)) (hc : P.cellsOf e = 1)
    (h : DataW.Trod enc P W base (fun _ => true) true t v d ps) (hok : Value.okWide P W r b0 t v) :
    ∃ (l : List UInt8) (a : Option Addr) (c : Nat), up W.heap.size v = .slice a l.length c ∧ RB (h0 W) (.slice a l.length c) l ∧ (a.isNone = true ∨ c % 2 = 1) ∧ (l = [] ∨ ∃ es sp, d = .slice es sp ∧ es.length = l.length) := by
  obtain ⟨l, h1, h2⟩ := arg_bytes hu he hc h hok
  obtain ⟨a, c, h3, h4⟩ := h1.form
  refine ⟨l, a, c, h3, by rw [← h3]; exact h1, ?_, h2⟩
  obtain ⟨a', n, c', rfl⟩ := okWide_slice hu hok
  cases a' with
  | none =>
    have e : up W.heap.size (.slice none n c') = .slice none 0 1 ∨ up W.heap.size (.slice none n c') = U := by
      simp only [up]
      unfold upc
      split <;> first | exact .inr rfl | exact .inl rfl | (rename_i hh; cases hh) | skip
      all_goals simp_all
    rcases e with e | e
    · rw [e] at h3
      injection h3 with h3
      subst h3
      exact .inl rfl
    · rw [e] at h3
      cases h3
  | some a' =>
    simp only [up, upc] at h3
    split at h3
    · simp only [Value.slice.injEq] at h3
      exact .inr (by omega)
    · simp [U] at h3

def intFields (P : Program) (t : TypeId) (k : IntKind) (n : Nat) : Bool :=
  match P.underlying t with
  | some (.struct fs) => fs.size == n && P.cellsOf t == n && (List.range n).all fun i => match fs[i]? with
    | some f => f.offset == i && P.cellsOf f.type == 1 && (match P.underlying f.type with | some (.int k') => decide (k' = k) | _ => false)
    | none => false
  | _ => false

/-- A struct of integers that came in. -/
theorem arg_ints {k : IntKind} {n : Nat} (hi : intFields P t k n = true) (h : DataW.Trod enc P W base (fun _ => true) true t v d ps) (hok : Value.okWide P W r b0 t v) :
    ∃ ns : List Int, ns.length = n ∧ v = .agg (ns.map (Value.int k)).toArray ∧ ∀ x ∈ ns, (Lit.int k x).wf = true := by
  unfold intFields at hi
  split at hi
  · rename_i fs hu
    simp only [Bool.and_eq_true, beq_iff_eq, List.all_eq_true, List.mem_range] at hi
    obtain ⟨⟨h1, h2⟩, h3⟩ := hi
    simp only [Value.okWide, hu] at hok
    obtain ⟨cs, rfl, hcs, _⟩ := hok
    obtain ⟨fuel, hf⟩ := h
    obtain ⟨xs, m, _, _, hl, hxl, hfi⟩ := DataW.trod_struct hu hf
    simp only [Value.cells] at hl hfi
    have hall : ∀ i, i < n → ∃ q, cs.toList[i]? = some (.int k q) ∧ (Lit.int k q).wf = true := fun i hin => by
      have := h3 i hin
      split at this
      · rename_i f hff
        simp only [Bool.and_eq_true, beq_iff_eq] at this
        obtain ⟨⟨g1, g2⟩, g3⟩ := this
        split at g3
        · rename_i k' hk'
          simp only [decide_eq_true_eq] at g3
          subst g3
          have hh := hfi i f hff
          rw [g1, g2] at hh
          have hx : xs[i]? = some xs[i] := by simp [hxl, h1, hin]
          rw [hx] at hh
          obtain ⟨q, hq, _, hw⟩ := DataW.trod_int hk' hh
          refine ⟨q, ?_, hw⟩
          have : ((cs.toList.drop i).take 1)[0]? = some (.int k' q) := by rw [hq]; rfl
          simpa [List.getElem?_take, List.getElem?_drop] using this
        · cases g3
      · cases this
    have hsz : cs.toList.length = n := by simpa [h2] using hl
    have : ∀ (l : List Value), (∀ i, i < l.length → ∃ q, l[i]? = some (.int k q) ∧ (Lit.int k q).wf = true) → ∃ ns : List Int, ns.length = l.length ∧ l = ns.map (Value.int k) ∧ ∀ x ∈ ns, (Lit.int k x).wf = true := by
      intro l
      induction l with
      | nil => exact fun _ => ⟨[], rfl, rfl, fun x hx => by cases hx⟩
      | cons x l ih =>
        intro hx
        obtain ⟨q, hq, hw⟩ := hx 0 (by simp)
        simp at hq
        subst hq
        obtain ⟨ns, e1, e2, e3⟩ := ih fun i hi => by simpa using hx (i + 1) (by simpa using hi)
        refine ⟨q :: ns, by simp [e1], by simp [e2], fun y hy => ?_⟩
        rcases List.mem_cons.1 hy with rfl | hy
        · exact hw
        · exact e3 y hy
    obtain ⟨ns, e1, e2, e3⟩ := this cs.toList fun i hi => hall i (by omega)
    exact ⟨ns, by omega, by rw [← e2], e3⟩
  · cases hi

theorem up_ints (N : Nat) (k : IntKind) (ns : List Int) : up N (.agg (ns.map (Value.int k)).toArray) = .agg (ns.map (Value.int k)).toArray := by
  simp [up, List.map_map, Function.comp_def, upc]

end

/-! ## How a law ends -/

theorem trodAll_back {H : Type} {enc : TypeId × Value → H} {P : Program} {W W' : World} (hl : laidOutB P = true) (bel : Below W.heap.size W W') : ∀ {ts : List TypeId} {vs : List Value} {ds : List (DataW H)} {ps : List MemPlace},
    ts.all (fun t => P.readableRec t && decide (t < P.types.size)) = true → DataW.TrodAll enc P W 0 (fun _ => true) true ts vs ds ps → (∀ x ∈ ps, x.block < W.heap.size) →
    DataW.TrodAll enc P W' 0 (fun b => decide (b < W.heap.size)) true ts vs ds ps
  | [], [], [], ps, _, h, _ => h
  | t :: ts, v :: vs, d :: ds, ps, ht, ⟨p, q, h1, h2, e⟩, hlt => by
    simp only [List.all_cons, Bool.and_eq_true, decide_eq_true_eq] at ht
    subst e
    exact ⟨p, q, Below.trod hl ht.1.1 ht.1.2 h1 bel (fun x hx => hlt x (by simp [hx])), trodAll_back hl bel (by simpa using ht.2) h2 (fun x hx => hlt x (by simp [hx])), rfl⟩
  | [], _ :: _, _, _, _, h, _ => by simp [DataW.TrodAll] at h
  | [], [], _ :: _, _, _, h, _ => by simp [DataW.TrodAll] at h
  | _ :: _, [], _, _, _, h, _ => by simp [DataW.TrodAll] at h
  | _ :: _, _ :: _, [], _, _, h, _ => by simp [DataW.TrodAll] at h

def roomG (P : Program) : Bool := P.globals.size == 0 || (((begin P (fun _ _ => 0) default).world.heap[P.globals.size - 1]?).bind Obj.row?).isSome
theorem roomG_le {P : Program} (h : roomG P = true) {w : World} (hs : w.ShapedOpen P) : P.globals.size ≤ w.heap.size := by
  unfold roomG at h
  simp only [Bool.or_eq_true, beq_iff_eq] at h
  rcases h with h | h
  · omega
  · obtain ⟨⟨z, t⟩, hz⟩ := Option.isSome_iff_exists.1 h
    by_cases h0 : P.globals.size = 0
    · omega
    · obtain ⟨cs, hc, _⟩ := hs.1 _ z t (by omega) hz
      have : P.globals.size - 1 < w.heap.size := by
        rcases Nat.lt_or_ge (P.globals.size - 1) w.heap.size with h | h
        · exact h
        · rw [Array.getElem?_eq_none h] at hc; cases hc
      omega

section
variable {H : Type} {enc : TypeId × Value → H}

/-- THE LAW's LAST STEP: it returned true, and below its first block nothing has turned. -/
theorem law_post {P : Program} {fn : Func} {s : ChangeSpec} {W W' : World} {args : Array Value} {ds gs : List (DataW H)} {before : List MemPlace} {rt : TypeId}
    (hl : laidOutB P = true) (hr : fn.params.toList.all (fun t => P.readableRec t && decide (t < P.types.size)) = true) (hrt : fn.resultTypes = #[rt]) (hb : P.underlying rt = some .bool) (hv : s.vars = [])
    (hs : ∀ ds : List (DataW H), ds.length = fn.params.size → s.fn H ds = { results := [.lit (.bool true)], args := ds })
    (hW : DataW.Whole enc P fn.params.toList s.vars false W args.toList ds gs before) (bel : Below W.heap.size W W') : s.post enc P fn false true false false W args (.bool true) W' := by
  have hW' := hW
  obtain ⟨p, q, hA, hV, rfl, hfz, hnd⟩ := hW
  rw [hv] at hV
  obtain ⟨rfl, rfl⟩ := trodVars_none hV
  have hlen : ∀ {ts : List TypeId} {vs : List Value} {ds : List (DataW H)} {ps : List MemPlace}, DataW.TrodAll enc P W 0 (fun _ => true) true ts vs ds ps → ds.length = ts.length := by
    intro ts
    induction ts with
    | nil => intro vs ds ps h; obtain ⟨_, rfl, _⟩ := trodAll_nil h; rfl
    | cons t ts ih => intro vs ds ps h; obtain ⟨_, _, _, _, _, _, _, rfl, _, _, h2⟩ := trodAll_cons h; simp [ih h2]
  have hL := hlen hA
  have e := hs (ds ++ []) (by simpa using hL)
  refine ⟨ds, [], p ++ [], [], p, [], hW', ?_, ?_, ?_, bel.frame _, fun h => by cases h⟩
  · rw [e, hrt]
    exact trodAll_mk1 (shut_bool hb _)
  · rw [e]
    simpa using trodAll_back hl bel hr hA (fun x hx => by simpa using hW'.lt x (by simpa using hx))
  · rw [e, hv]; rfl

/-- THE FIRST FORM. -/
theorem lift_said {C : Checked} {os : Os} {f : FuncId} {fn : Func} {s : ChangeSpec} {conds : List PathCond} {rt : TypeId}
    (hl : laidOutB C.prog = true) (hg : roomG C.prog = true) (hr : fn.params.toList.all (fun t => C.prog.readableRec t && decide (t < C.prog.types.size)) = true) (hrt : fn.resultTypes = #[rt]) (hb : C.prog.underlying rt = some .bool) (hv : s.vars = [])
    (hs : ∀ ds : List (DataW H), ds.length = fn.params.size → s.fn H ds = { results := [.lit (.bool true)], args := ds })
    (own : ownKnob C.prog.godebug = none) (started : os.Started) (noInit : C.prog.inits.idxOf? f = none) (hfn : C.prog.funcs[f]? = some fn)
    (witness : ∃ (w : World) (tape : Tape) (i : Input), w.os = os ∧ (w.forCall tape i).Shaped C.prog ∧ i.vars = [] ∧ Input.okWide C.prog (w.forCall tape i) .any w.heap.size f i ∧
      s.pre6 enc C.prog fn conds false (w.forCall tape i).memory i.args ∧ ({} : Assume).holds C.prog (lone (Frame.enter C.prog f i.args .normal) [] (w.forCall tape i)))
    (contract : ∀ (W : World) (base : Nat) (args : Array Value) (ds : List (DataW H)) (before : List MemPlace), C.prog.globals.size ≤ W.heap.size →
      (∀ (j : Nat) t v, fn.params[j]? = some t → args[j]? = some v → Value.okWide C.prog W .any base t v) →
      DataW.TrodAll enc C.prog W 0 (fun _ => true) true fn.params.toList args.toList ds before →
      (DataW.weightsEach C.prog (fn.params.toList ++ s.plain.varTypes C.prog) (ds ++ [])).all (· ≤ reachBytes) = true →
      Calls C.prog f args W fun e W' => e = .returned (.bool true) ∧ Below W.heap.size W W') :
    ReturnsInHanded {} C os f .any (s.pre6 enc C.prog fn conds false) (s.post enc C.prog fn false true false false) := by
  refine returnsInHanded_of_calls own started noInit witness ?_
  intro w tape i _ hsh _ hok hpre hholds
  obtain ⟨_, _, _, fn', hfn', _, _, _, _, hval⟩ := hok
  have e : fn' = fn := Option.some.inj (hfn'.symm.trans hfn)
  subst e
  obtain ⟨⟨ds, gs, before, hw, hc⟩, hz⟩ := hpre
  have hw' := DataW.Whole.of_heap (w' := w.forCall tape i) (by rfl) hw
  have hz' := hz.weights hw
  have hw2 := hw'
  obtain ⟨p, q, hA, hV, rfl, hfz, hnd⟩ := hw'
  rw [hv] at hV
  obtain ⟨rfl, rfl⟩ := trodVars_none hV
  refine (contract (w.forCall tape i) w.heap.size i.args ds p (roomG_le hg hsh) hval hA hz').mono fun e W' ⟨he, hbel⟩ => ?_
  subst he
  exact ChangeSpec.post_blind (law_post hl hr hrt hb hv hs hw2 hbel)

/-- THE SECOND FORM. -/
theorem lift_upto {C : Checked} {os : Os} {f : FuncId} {fn : Func} {s : ChangeSpec} {so : OpenSpec} {k : (H : Type) → List (DataW H) → Bool} (hso : so = { OpenSpec.ofChange s with cond := some k }) {F : Stop.Interp} {conds : List PathCond} {rt : TypeId}
    (hl : laidOutB C.prog = true) (hg : roomG C.prog = true) (hr : fn.params.toList.all (fun t => C.prog.readableRec t && decide (t < C.prog.types.size)) = true) (hrt : fn.resultTypes = #[rt]) (hb : C.prog.underlying rt = some .bool) (hv : s.vars = [])
    (hs : ∀ ds : List (DataW H), ds.length = fn.params.size → s.fn H ds = { results := [.lit (.bool true)], args := ds })
    (own : ownKnob C.prog.godebug = none) (started : os.Started) (noInit : C.prog.inits.idxOf? f = none) (hfn : C.prog.funcs[f]? = some fn)
    (witness : ∃ (w : World) (tape : Tape) (i : Input), w.os = os ∧ (w.forCall tape i).Shaped C.prog ∧ i.vars = [] ∧ Input.okWide C.prog (w.forCall tape i) .any w.heap.size f i ∧
      so.pre6 enc C.prog fn conds false (w.forCall tape i).memory i.args ∧ ({} : Assume).holds C.prog (lone (Frame.enter C.prog f i.args .normal) [] (w.forCall tape i)))
    (contract : ∀ (W : World) (base : Nat) (args : Array Value) (ds : List (DataW H)) (before : List MemPlace), C.prog.globals.size ≤ W.heap.size →
      (∀ (j : Nat) t v, fn.params[j]? = some t → args[j]? = some v → Value.okWide C.prog W .any base t v) →
      DataW.TrodAll enc C.prog W 0 (fun _ => true) true fn.params.toList args.toList ds before →
      k H (ds ++ []) = true →
      Calls C.prog f args W fun e W' => e = .returned (.bool true) ∧ Below W.heap.size W W') :
    ReturnsInHanded {} C os f .any (so.pre6 enc C.prog fn conds false) ((so.at F).post enc C.prog fn false true false false) := by
  subst hso
  refine returnsInHanded_of_calls own started noInit witness ?_
  intro w tape i _ hsh _ hok hpre hholds
  obtain ⟨_, _, _, fn', hfn', _, _, _, _, hval⟩ := hok
  have e : fn' = fn := Option.some.inj (hfn'.symm.trans hfn)
  subst e
  obtain ⟨ds, gs, before, hw, hc, hkk⟩ := (OpenSpec.pre_some rfl conds false _ _).1 hpre.1
  have hw' := DataW.Whole.of_heap (w' := w.forCall tape i) (by rfl) hw
  have hw2 := hw'
  obtain ⟨p, q, hA, hV, rfl, hfz, hnd⟩ := hw'
  have hV' : DataW.TrodVars enc C.prog (w.forCall tape i) (fun _ => true) s.vars gs q := hV
  rw [hv] at hV'
  obtain ⟨rfl, rfl⟩ := trodVars_none hV'
  refine (contract (w.forCall tape i) w.heap.size i.args ds p (roomG_le hg hsh) hval hA hkk).mono fun e W' ⟨he, hbel⟩ => ?_
  subst he
  exact ChangeSpec.post_blind (law_post (s := s) hl hr hrt hb hv hs hw2 hbel)
end

end Go.Gh
