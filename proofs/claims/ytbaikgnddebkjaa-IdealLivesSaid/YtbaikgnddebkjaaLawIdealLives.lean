/- The law IdealLives: its row, out of its triple. -/
import Derived.Test.YtbaikgnddebkjaaRows
import Derived.Test.YtbaikgnddebkjaaP14
import Derived.WalkKit
import Derived.ProofKit
import Derived.OpenShut
import Derived.JoinedCond
namespace Go.Proofs.Ytbaikgnddebkjaa.idealLives
open Go.ChangeShapes Go.WideShapes Go.ChangeAt Go.RowKit Go.Gh
open Go.ChangeMaps (open_string shut_string)
set_option linter.unusedVariables false
set_option linter.unusedSimpArgs false
theorem own : ownKnob Try.prog.godebug = none := by kernel_rfl
theorem laid : laidOutB Try.prog = true := by kernel_rfl
theorem room : roomG Try.prog = true := by kernel_rfl
set_option maxRecDepth 100000 in
theorem walk (H : Type) (enc : TypeId × Value → H) (W : World) (base : Nat) (args : Array Value) (ds : List (DataW H)) (before : List MemPlace) (hG : Try.prog.globals.size ≤ W.heap.size)
    (hval : ∀ (j : Nat) t v, Try.f8.params[j]? = some t → args[j]? = some v → Value.okWide Try.prog W .any base t v)
    (hA : DataW.TrodAll enc Try.prog W 0 (fun _ => true) true Try.f8.params.toList args.toList ds before)
    (hsz : (DataW.weightsEach Try.prog (Try.f8.params.toList ++ Rows.idealLivesSpec.plain.varTypes Try.prog) (ds ++ [])).all (· ≤ reachBytes) = true) :
    Calls Try.prog 8 args W fun e W' => e = .returned (.bool true) ∧ Go.RowKit.Below W.heap.size W W' := by
  rw [Try.params8] at hA hval hsz
  obtain ⟨v0, vs0, d0, ds0, p0, q0, hargs, rfl, rfl, h0, r0⟩ := trodAll_cons hA
  obtain ⟨v1, vs1, d1, ds1, p1, q1, rfl, rfl, rfl, h1, r1⟩ := trodAll_cons r0
  obtain ⟨v2, vs2, d2, ds2, p2, q2, rfl, rfl, rfl, h2, r2⟩ := trodAll_cons r1
  obtain ⟨v3, vs3, d3, ds3, p3, q3, rfl, rfl, rfl, h3, r3⟩ := trodAll_cons r2
  obtain ⟨rfl, rfl, rfl⟩ := trodAll_nil r3
  obtain rfl : args = #[v0, v1, v2, v3] := by cases args; simp_all
  clear hA
  have k0 := hval 0 65 v0 rfl rfl
  have k1 := hval 1 75 v1 rfl rfl
  have k2 := hval 2 75 v2 rfl rfl
  have k3 := hval 3 4 v3 rfl rfl
  refine GTri.calls hG gf8 ?_
  obtain ⟨_, hsz⟩ := wts_cons hsz
  obtain ⟨w1, hsz⟩ := wts_cons hsz
  obtain ⟨w2, hsz⟩ := wts_cons hsz
  obtain ⟨ns, hl, rfl, hw⟩ := arg_ints (k := .i64) (n := 8) (by kernel_rfl) h0 k0
  obtain ⟨l1, a1, c1, e1, R1, f1⟩ := arg_asks h1 k1
  obtain ⟨l2, a2, c2, e2, R2, f2⟩ := arg_asks h2 k2
  obtain ⟨b, rfl, rfl, rfl⟩ := open_bool Try.underlying4 k3 h3
  match ns, hl with
  | [x0, x1, x2, x3, x4, x5, x6, x7], _ =>
    have := c_IdealLives W.heap.size (Gh.h0 W) ⟨x0, x1, x2, x3, x4, x5, x6, x7⟩ R1 (f1 w1).1 (f1 w1).2 R2 (f2 w2).1 (f2 w2).2 b
    simp only [List.map, up_ints, e1, e2]
    exact this
set_option maxRecDepth 100000 in
theorem lifted (os : Os) (started : os.Started) (H : Type) (enc : TypeId × Value → H) :
    ReturnsInHanded {} Try.checked os 8 .any (Rows.idealLivesSpec.pre6 enc Try.prog Try.f8 Rows.idealLivesRow.domain false) (Rows.idealLivesSpec.post enc Try.prog Try.f8 false true false false) :=
  lift_said (C := Try.checked) (s := Rows.idealLivesSpec) laid room (by kernel_rfl) rfl Try.underlying4 rfl (fun ds h => by match ds, h with | [d0, d1, d2, d3], _ => rfl) own started (by kernel_rfl) Try.func8
    (ChangeSpec.witness6 (enc := enc) (C := Try.checked) false ⟨#[], #[.agg #[.int .i64 0, .int .i64 0, .int .i64 0, .int .i64 0, .int .i64 0, .int .i64 0, .int .i64 0, .int .i64 0], .slice none 0 0, .slice none 0 0, .bool false], []⟩ 8 (by kernel_rfl) (by kernel_rfl) (by kernel_rfl) (by kernel_rfl))
    (walk H enc)
theorem over : Rows.idealLivesRow.holds Try.pinned (OpenSpec.ofChange Rows.idealLivesSpec) :=
  OpenClaim.holds_of_wide 8 Try.f8 rfl rfl rfl rfl rfl rfl rfl ⟨rfl, rfl, rfl, rfl, rfl⟩ rfl rfl rfl rfl rfl (by kernel_rfl) Try.func8 (by kernel_rfl)
    (of_decide_eq_true (by kernel_rfl)) (by unfold Func.isWrapper; first | (rw [if_pos (by decide +kernel)]; kernel_rfl) | (rw [if_neg (by decide +kernel)]; exact ⟨rfl, rfl⟩))
    (fun os started H enc _ => lifted os started H enc)
theorem proved : Rows.IdealLivesSaid := over
end Go.Proofs.Ytbaikgnddebkjaa.idealLives
namespace Go.Proofs.Ytbaikgnddebkjaa
/-- The row, under a short name, for the claim. -/
theorem idealLives_holds : Rows.IdealLivesSaid := idealLives.proved
#print axioms idealLives_holds
end Go.Proofs.Ytbaikgnddebkjaa
