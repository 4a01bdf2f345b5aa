/- Requests that come in. -/
import Derived.Test.YtlobmpkfdnifpaaAsk2

namespace Go.Gh
open Go Go.Proofs Go.RowKit Go.ChangeShapes Go.WideShapes Go.ChangeAt
set_option linter.unusedVariables false
set_option linter.unusedSimpArgs false
set_option maxRecDepth 100000
set_option maxHeartbeats 1000000

abbrev bdTy : Ty := .fcons .bs (.fcons .bs .fnil)
abbrev askTy : Ty := .fcons (.i .i64) (.fcons .bs (.fcons (.i .i64) (.fcons (.i .i64) (.fcons (.i .i64) (.fcons .b (.fcons (.i .i64) (.fcons (.i .i64) (.fcons (.i .i64) (.fcons (.sl bdTy) .fnil)))))))))
theorem ask_ok : Ty.ok Try.prog askTy 38 = true := by kernel_rfl
theorem ask_un : ∃ fs, (Try.prog).underlying 38 = some (.struct fs) := ⟨_, Try.underlying38⟩
/-- A key of an identity. -/
def Bd (h : GH) (cs : List Value) (x : List UInt8 × List UInt8) : Prop := ∃ a n c b m d, cs = [.slice a n c, .slice b m d] ∧ RB h (.slice a n c) x.1 ∧ RB h (.slice b m d) x.2
theorem bd_R {h : GH} {cs : List Value} {x : bdTy.den} (r : bdTy.R h cs x) : Bd h cs (x.1, x.2.1) := by
  obtain ⟨y1, y2, y3⟩ := x
  obtain ⟨c1, c2, rfl, _, ⟨v, rfl, r1, _⟩, c3, c4, rfl, _, ⟨w, rfl, r2, _⟩, rfl⟩ := r
  obtain ⟨a, c, rfl, _⟩ := r1.form
  obtain ⟨b, d, rfl, _⟩ := r2.form
  exact ⟨_, _, _, _, _, _, rfl, r1, r2⟩
theorem bd_sum : ∀ (Y : List bdTy.den), ((Y.map fun x => ((x.1 : List UInt8), (x.2.1 : List UInt8))).map fun x => x.1.length + x.2.length + 2).sum = (Y.map (Ty.bulk bdTy)).sum
  | [] => rfl
  | x :: Y => by
    have ih := bd_sum Y
    have e : ∀ m n : Nat, m + n + 2 = (m + 1) + ((n + 1) + 0) := fun m n => by omega
    have k : ∀ {a b c d : Nat}, a = b → c = d → a + c = b + d := fun h1 h2 => by rw [h1, h2]
    exact (List.sum_cons).trans ((k (e (List.length x.1) (List.length x.2.1)) ih).trans (List.sum_cons).symm)
theorem ask_R {h : GH} {cs : List Value} {y : askTy.den} (r : askTy.R h cs y) : ∃ (q : Aq) (l : List UInt8) (L : List (List UInt8 × List UInt8)) (a b : Option Addr) (c d : Nat), cs = q.cs (.slice a l.length c) (.slice b L.length d) ∧ RB h (.slice a l.length c) l ∧ RL 2 Bd h (.slice b L.length d) L ∧
    (∀ n, askTy.bulk y ≤ n → l.length + (L.map fun x => x.1.length + x.2.length + 2).sum ≤ n) ∧ (askTy.fits y → l.length ≤ 140737488351232 ∧ L.length ≤ 140737488351232 ∧ ∀ x ∈ L, x.1.length ≤ 140737488351232 ∧ x.2.length ≤ 140737488351232) ∧
    ((Lit.int .i64 q.kd).wf = true ∧ (Lit.int .i64 q.fr).wf = true ∧ (Lit.int .i64 q.tu).wf = true ∧ (Lit.int .i64 q.tm).wf = true ∧ (Lit.int .i64 q.ep).wf = true ∧ (Lit.int .i64 q.ix).wf = true ∧ (Lit.int .i64 q.lm).wf = true) := by
  obtain ⟨y0, y1, y2, y3, y4, y5, y6, y7, y8, y9, y10⟩ := y
  obtain ⟨_, _, rfl, _, ⟨rfl, w0⟩, _, _, rfl, _, ⟨v, rfl, r1, _⟩, _, _, rfl, _, ⟨rfl, w2⟩, _, _, rfl, _, ⟨rfl, w3⟩, _, _, rfl, _, ⟨rfl, w4⟩, _, _, rfl, _, rfl, _, _, rfl, _, ⟨rfl, w6⟩, _, _, rfl, _, ⟨rfl, w7⟩, _, _, rfl, _, ⟨rfl, w8⟩, _, _, rfl, _, ⟨w, rfl, r9, _⟩, rfl⟩ := r
  obtain ⟨a, c, rfl, _⟩ := r1.form
  have r9' : RL 2 Bd h w (List.map (fun x : bdTy.den => (x.1, x.2.1)) y9) := RL.map (R' := Bd) r9 _ fun cs x hx => bd_R hx
  obtain ⟨b, d, rfl, _⟩ := r9'.form
  refine ⟨⟨y0, y2, y3, y4, y6, y7, y8, y5⟩, y1, List.map (fun x : bdTy.den => (x.1, x.2.1)) y9, a, b, c, d, rfl, r1, r9', ?_, ?_, w0, w2, w3, w4, w6, w7, w8⟩
  · intro n hn
    have : 1 + ((List.length y1 + 1) + (1 + (1 + (1 + (1 + (1 + (1 + (1 + (((List.map (Ty.bulk bdTy) y9).sum + 1) + 0))))))))) ≤ n := hn
    have h2 : List.length y1 + (List.map (Ty.bulk bdTy) y9).sum ≤ n := by
      generalize (List.map (Ty.bulk bdTy) y9).sum = S at this
      generalize List.length y1 = T at this
      clear hn
      omega
    exact Nat.le_trans (Nat.add_le_add_left (Nat.le_of_eq (bd_sum y9)) _) h2
  · intro hf
    obtain ⟨_, f1, _, _, _, _, _, _, _, f9, _⟩ := hf
    refine ⟨f1, ?_, fun x hx => ?_⟩
    · exact Nat.le_trans (Nat.le_of_eq (List.length_map _)) f9.1
    · obtain ⟨z, hz, rfl⟩ := List.mem_map.1 hx
      have := f9.2 z hz
      exact ⟨this.1, this.2.1⟩
theorem arg_ask {H : Type} {enc : TypeId × Value → H} {W : World} {base b0 : Nat} {v : Value} {d : DataW H} {ps : List MemPlace} {r : Reach} (h : DataW.Trod enc Try.prog W base (fun _ => true) true 38 v d ps) (hok : Value.okWide Try.prog W r b0 38 v) :
    ∃ (q : Aq) (l : List UInt8) (L : List (List UInt8 × List UInt8)) (a b : Option Addr) (c e : Nat), up W.heap.size v = q.v (.slice a l.length c) (.slice b L.length e) ∧ RB (h0 W) (.slice a l.length c) l ∧ RL 2 Bd (h0 W) (.slice b L.length e) L ∧
    (∀ B A, BulkOk B A → l.length + (L.map fun x => x.1.length + x.2.length + 2).sum ≤ B d) ∧ ((∀ n ∈ d.weights Try.prog 38, n ≤ reachBytes) → l.length ≤ 140737488351232 ∧ L.length ≤ 140737488351232 ∧ ∀ x ∈ L, x.1.length ≤ 140737488351232 ∧ x.2.length ≤ 140737488351232) ∧
    ((Lit.int .i64 q.kd).wf = true ∧ (Lit.int .i64 q.fr).wf = true ∧ (Lit.int .i64 q.tu).wf = true ∧ (Lit.int .i64 q.tm).wf = true ∧ (Lit.int .i64 q.ep).wf = true ∧ (Lit.int .i64 q.ix).wf = true ∧ (Lit.int .i64 q.lm).wf = true) := by
  obtain ⟨fs, hu⟩ := ask_un
  obtain ⟨y, cs, e1, R1, hb, hf⟩ := arg_st askTy hu ask_ok h hok
  obtain ⟨q, l, L, a, b, c, e, rfl, r1, r2, b1, f1, w1⟩ := ask_R R1
  exact ⟨q, l, L, a, b, c, e, e1, r1, r2, fun B A o => b1 _ (hb B A o), fun x => f1 (hf x), w1⟩
end Go.Gh
