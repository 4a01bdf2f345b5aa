/- Contracts of bits and its reference: one bit, equality. -/
import Derived.Test.YtlobmpkfdnifpaaGh27
import Derived.Test.YtlobmpkfdnifpaaGhF
namespace Go.Gh
open Go Go.Proofs Go.RowKit
set_option linter.unusedVariables false
set_option linter.unusedSimpArgs false
set_option maxRecDepth 100000

theorem c_Equal (N : Nat) (h : GH) {a b : Option Addr} {n m c d : Nat} {l k : List UInt8} (r1 : RB h (.slice a n c) l) (r2 : RB h (.slice b m d) k) : GTri Try.prog N 11 [.slice a n c, .slice b m d] h fun v h' => v = .bool (l == k) ∧ h' = h := by
  refine gtri Try.func11 rfl gf11 ok11 (by simp [Try.ntmps11]) ?_
  repeat' (first | (with_reducible first | refine gw_seq ?_ | refine gw_block ?_) | ((first | (with_reducible first | refine gw_region ?_ | refine gw_if ?_ | refine gw_skip ?_ | refine gw_exit ?_ | refine gw_ret ?_) | ((with_reducible first | refine gif_b (fun hb => ?_) (fun hb => ?_) | refine want_t (fun hb => ?_) (fun hb => ?_) | refine want_f (fun hb => ?_) (fun hb => ?_)) <;> (try simp only [hb]))) <;> try simp only [List.map, gop, ev, lk, aenv, gyield, gBin, gInt, gStrOp, gUn, gPick, gNil, gExtract, gIfc, gConvK, gIndexO, gIndexVO, gMakeV, gMinV, gMaxV, isInt, gMin, gMax, gBlt, gCallV, gInvoke, gNilM, vcells, gField, gIndexV, gPart, reduceIte, Nat.reduceAdd, Nat.reduceSub, Nat.reduceMul, Nat.reduceLT, Nat.reduceLeDiff, Nat.reduceEqDiff, Nat.reduceBEq, Int.reduceLT, Int.reduceLE, Int.reduceGT, Int.reduceGE, Int.reduceEq, Int.reduceNe, Int.reduceAdd, Int.reduceSub, Int.reduceMul, Int.reduceNeg, Int.reduceToNat, Int.reduceBEq, Int.reduceBNe, Int.cast_ofNat_Int, List.getElem?_toArray, stp, Try.underlying22, Try.underlying5, Try.underlying9, el22, ni22, ni5, ni9, sz22, sz5, sz9, zr22, zr5, zr9, rs11, r1.conv Try.underlying22 Try.underlying5 Try.underlying9, r2.conv Try.underlying22 Try.underlying5 Try.underlying9, bstr_eq]))

end Go.Gh
