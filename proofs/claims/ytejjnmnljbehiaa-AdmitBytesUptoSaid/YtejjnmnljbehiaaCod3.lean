/- The codec's reader, step by step. -/
import Derived.Test.YtejjnmnljbehiaaCod2

namespace Go.Gh
open Go Go.Proofs Go.RowKit
set_option linter.unusedVariables false
set_option linter.unusedSimpArgs false
set_option maxRecDepth 100000

/-- A reader: what is left, and the first error. -/
structure St where
  b : List UInt8
  e : Int
def St.fail (s : St) (e : Int) : St := if s.e = 0 then ⟨[], e⟩ else s
def St.ok (s : St) (so : Bool) (e : Int) : St := if so = true then s else s.fail e
def St.take (s : St) (n : Nat) : List UInt8 × St :=
  if (s.ok (decide (n ≤ s.b.length)) 3).e = 0 then (s.b.take n, ⟨s.b.drop n, 0⟩) else ([], s.ok (decide (n ≤ s.b.length)) 3)
theorem St.ok_t (s : St) (e : Int) : s.ok true e = s := rfl
theorem St.ok_f (s : St) (e : Int) : s.ok false e = s.fail e := rfl
theorem St.ok_0 {s : St} {so : Bool} {e : Int} (he : e ≠ 0) (h : (s.ok so e).e = 0) : so = true ∧ s.e = 0 := by
  cases so
  · simp only [St.ok_f, St.fail] at h
    split at h
    · exact absurd h he
    · contradiction
  · exact ⟨rfl, h⟩
theorem St.take_0 {s : St} {n : Nat} (h : (s.take n).2.e = 0) : s.e = 0 ∧ n ≤ s.b.length ∧ s.take n = (s.b.take n, ⟨s.b.drop n, 0⟩) := by
  unfold St.take at h ⊢
  split at h
  · rename_i h1
    obtain ⟨h2, h3⟩ := St.ok_0 (by decide) h1
    refine ⟨h3, by simpa using h2, ?_⟩
    rw [if_pos h1]
  · contradiction
theorem St.take_len (s : St) (n : Nat) : (s.take n).1.length ≤ n ∧ (s.take n).2.b.length ≤ s.b.length := by
  unfold St.take
  split
  · simp; omega
  · refine ⟨by simp, ?_⟩
    simp only [St.ok, St.fail]
    split
    · omega
    · split
      · simp
      · omega

/-- It may be sliced. -/
def SL (h : GH) (v : Value) : Prop := ∀ ad n c, v = .slice (some ad) n c → n = 0 ∨ c % 2 = 1 ∨ esOk h ad 1 = true
theorem SL.nil (h : GH) (n c : Nat) : SL h (.slice none n c) := fun _ _ _ e => by cases e
theorem SL.hs {h h' : GH} {v : Value} (s : SL h v) (x : HS h h') : SL h' v := fun ad n c e => by
  rcases s ad n c e with h1 | h1 | h1
  · exact .inl h1
  · exact .inr (.inl h1)
  · right; right
    unfold esOk at h1 ⊢
    split at h1
    · rename_i B hB
      rw [x _ _ hB]; exact h1
    · cases h1
theorem SL.hx {k : Nat} {h h' : GH} {v : Value} (s : SL h v) {B : GB} (m : h k = some B) (hB : B.es = 0) (x : HX k h h') : SL h' v := fun ad n c e => by
  rcases s ad n c e with h1 | h1 | h1
  · exact .inl h1
  · exact .inr (.inl h1)
  · right; right
    unfold esOk at h1 ⊢
    split at h1
    · rename_i B' hB'
      have hne : ad.block ≠ k := fun e => by
        rw [e, m] at hB'; cases hB'
        rw [hB] at h1; simp at h1
      rw [x _ _ hne hB']; exact h1
    · cases h1
theorem OWN.sl {h0 h : GH} {v : Value} {l : List UInt8} (o : OWN h0 h v l) : SL h v := by
  rcases o with ⟨rfl, _⟩ | ⟨a, rfl, _⟩ | ⟨k, c, rfl, h1, h2, _, h3, _⟩
  · exact SL.nil _ _ _
  · intro ad n c e; cases e; exact .inl rfl
  · intro ad n c e
    cases e
    exact .inr (.inr (by simp [esOk, h3]))
/-- The first bytes of it, with no more room. -/
theorem RB.cut3 {P : Program} {h : GH} {a : Option Addr} {c n : Nat} {l : List UInt8} (r : RB h (.slice a n c) l) {t e : TypeId} {b : Bool} (ht : P.underlying t = some (.slice e)) (he : gsz P e = some (b, 1)) {hi : Nat} (h1 : hi ≤ l.length) (k : IntKind) :
    ∃ a' c', gSlice P t h (.slice a n c) none (some (.int k hi)) (some (.int k hi)) = some (.slice a' hi c') ∧ RB h (.slice a' hi c') (l.take hi) ∧ SL h (.slice a' hi c') ∧ (a'.isNone = a.isNone) := by
  rcases r with ⟨c2, hv, rfl⟩ | ⟨ad, c2, hv, h2, h3⟩
  · cases hv
    simp at h1
    subst h1
    exact ⟨none, 0, by simp [gSlice, ht, he, gHigh, gLow, gBound], .inl ⟨0, rfl, by simp⟩, SL.nil _ _ _, rfl⟩
  · cases hv
    have hl : (l.take hi).length = hi := by simp; omega
    refine ⟨some ⟨ad.block, ad.off, ad.spot⟩, 2 * hi + 1, ?_, .inr ⟨⟨ad.block, ad.off, ad.spot⟩, 2 * hi + 1, by rw [hl], ?_, by omega⟩, fun ad n c e => by cases e; exact .inr (.inl (by omega)), rfl⟩
    · have hb : 0 ≤ (hi : Int) ∧ (hi : Int) ≤ ((max l.length (c / 2) : Nat) : Int) := ⟨by omega, by omega⟩
      have hb2 : 0 ≤ (hi : Int) ∧ (hi : Int) ≤ (hi : Int) := ⟨by omega, by omega⟩
      simp [gSlice, ht, he, gHigh, gBound, hb, gLow]
    · rw [hl]
      have := gread_sub h2 0 hi (by omega)
      simpa [List.map_take] using this
/-- What is behind. -/
theorem RB.behind {P : Program} {h : GH} {a : Option Addr} {c n : Nat} {l : List UInt8} (r : RB h (.slice a n c) l) (s : SL h (.slice a n c)) {t e : TypeId} {b : Bool} (ht : P.underlying t = some (.slice e)) (he : gsz P e = some (b, 1)) {lo : Nat} (h1 : lo ≤ l.length) (k : IntKind) :
    ∃ a' c', gSlice P t h (.slice a n c) (some (.int k lo)) none none = some (.slice a' (l.drop lo).length c') ∧ RB h (.slice a' (l.drop lo).length c') (l.drop lo) ∧ SL h (.slice a' (l.drop lo).length c') := by
  rcases r with ⟨c2, hv, rfl⟩ | ⟨ad, c2, hv, h2, h3⟩
  · cases hv
    simp at h1
    subst h1
    exact ⟨none, 0, by simp [gSlice, ht, he, gHigh, gLow, gBound], .inl ⟨0, by simp, by simp⟩, SL.nil _ _ _⟩
  · cases hv
    refine ⟨some ⟨ad.block, ad.off + lo, ad.spot⟩, c - 2 * lo, ?_, .inr ⟨⟨ad.block, ad.off + lo, ad.spot⟩, c - 2 * lo, rfl, ?_, by simp; omega⟩, fun ad' n' c' e => ?_⟩
    · have hb : 0 ≤ (lo : Int) ∧ (lo : Int) ≤ (l.length : Int) := ⟨by omega, by omega⟩
      have hc : c % 2 = 1 ∨ lo = 0 ∨ esOk h ad 1 = true := by
        rcases s _ _ _ rfl with h | h | h
        · exact .inr (.inl (by omega))
        · exact .inl h
        · exact .inr (.inr h)
      simp only [gSlice, ht, he, gHigh, gBound, gLow, hb, and_self, if_true, Nat.le_max_left, hc, Nat.mul_one, Int.toNat_natCast, List.length_drop]
    · rw [List.length_drop]
      have := gread_sub h2 lo (l.length - lo) (by omega)
      rw [this, List.map_drop, List.take_of_length_le (by simp)]
    · cases e
      rcases s _ _ _ rfl with h | h | h
      · exact .inl (by rw [List.length_drop]; omega)
      · exact .inr (.inl (by omega))
      · exact .inr (.inr h)

/-- A reader in memory. -/
def RD (h : GH) (k : Nat) (s : St) : Prop := ∃ a c, h k = some ⟨[.bool true, .slice a s.b.length c, .int .i64 s.e], 0, true, false⟩ ∧ RB h (.slice a s.b.length c) s.b ∧ SL h (.slice a s.b.length c)
theorem RD.hs {h h' : GH} {k : Nat} {s : St} (r : RD h k s) (x : HS h h') : RD h' k s := by
  obtain ⟨a, c, h1, h2, h3⟩ := r
  exact ⟨a, c, x _ _ h1, h2.hs x, h3.hs x⟩

theorem c_none (N : Nat) (h : GH) {k : Nat} {s : St} (r : RD h k s) : GTri Try.prog N 81 [.pointer (some ⟨k, 0, none⟩)] h fun v h' => v = .bool false ∧ h' = h := by
  obtain ⟨a, c, m, _, _⟩ := r
  refine gtri Try.func81 rfl gf81 ok81 (by simp [Try.ntmps81]) ?_
  repeat' (first | (with_reducible first | refine gw_seq ?_ | refine gw_block ?_) | ((first | (with_reducible first | refine gw_region ?_ | refine gw_if ?_ | refine gw_skip ?_ | refine gw_exit ?_ | refine gw_ret ?_) | ((with_reducible first | refine gif_b (fun hb => ?_) (fun hb => ?_) | refine want_t (fun hb => ?_) (fun hb => ?_) | refine want_f (fun hb => ?_) (fun hb => ?_)) <;> (try simp only [hb]) <;> (try simp only [hpr] at hb))) <;> try simp only [List.map, gop, ev, lk, aenv, gyield, gBin, gInt, gStrOp, gUn, gPick, gNil, gExtract, gIfc, gConvK, gIndexO, gIndexVO, gMakeV, gMinV, gMaxV, isInt, gMin, gMax, gBlt, gCallV, vcells, gField, gIndexV, gPart, reduceIte, Nat.reduceAdd, Nat.reduceSub, Nat.reduceMul, Nat.reduceLT, Nat.reduceLeDiff, Nat.reduceEqDiff, Nat.reduceBEq, Int.reduceLT, Int.reduceLE, Int.reduceGT, Int.reduceGE, Int.reduceEq, Int.reduceNe, Int.reduceAdd, Int.reduceSub, Int.reduceMul, Int.reduceNeg, Int.reduceToNat, Int.reduceBEq, Int.reduceBNe, Int.cast_ofNat_Int, List.getElem?_toArray, stp, Try.underlying24, Try.underlying29, Try.underlying4, Try.underlying44, Try.underlying46, el29, fo46_0, fo46_1, fo46_2, ni24, ni29, ni4, ni44, ni46, sh46, sz24, sz29, sz4, sz44, sz46, zr24, zr29, zr4, zr44, zr46, rs81, gNil, gUn, gload1 m sz4]))
theorem c_ok (N : Nat) (h : GH) {k : Nat} {s : St} (r : RD h k s) (so : Bool) (e : Int) : GTri Try.prog N 80 [.pointer (some ⟨k, 0, none⟩), .bool so, .int .i64 e] h fun v h' => v = .bool ((s.ok so e).e == 0) ∧ RD h' k (s.ok so e) ∧ HX k h h' := by
  have rn := c_none N h r
  obtain ⟨a, c, m, rb, sl⟩ := r
  refine gtri Try.func80 rfl gf80 ok80 (by simp [Try.ntmps80]) ?_
  cases so
  · by_cases he : s.e = 0
    · have d : (s.e == 0) = true := by simpa using he
      repeat' (first | (with_reducible first | refine gw_seq ?_ | refine gw_block ?_) | ((first | (with_reducible first | refine gw_region ?_ | refine gw_if ?_ | refine gw_skip ?_ | refine gw_exit ?_ | refine gw_ret ?_) | ((with_reducible first | refine gif_b (fun hb => ?_) (fun hb => ?_) | refine want_t (fun hb => ?_) (fun hb => ?_) | refine want_f (fun hb => ?_) (fun hb => ?_)) <;> (try simp only [hb]) <;> (try simp only [hpr] at hb)) | ((refine GTri.mono rn ?_); rintro _ _ ⟨rfl, hh9⟩; replace hh9 := hh9.symm; subst hh9)) <;> try simp only [List.map, gop, ev, lk, aenv, gyield, gBin, gInt, gStrOp, gUn, gPick, gNil, gExtract, gIfc, gConvK, gIndexO, gIndexVO, gMakeV, gMinV, gMaxV, isInt, gMin, gMax, gBlt, gCallV, vcells, gField, gIndexV, gPart, reduceIte, Nat.reduceAdd, Nat.reduceSub, Nat.reduceMul, Nat.reduceLT, Nat.reduceLeDiff, Nat.reduceEqDiff, Nat.reduceBEq, Int.reduceLT, Int.reduceLE, Int.reduceGT, Int.reduceGE, Int.reduceEq, Int.reduceNe, Int.reduceAdd, Int.reduceSub, Int.reduceMul, Int.reduceNeg, Int.reduceToNat, Int.reduceBEq, Int.reduceBNe, Int.cast_ofNat_Int, List.getElem?_toArray, stp, Try.underlying24, Try.underlying29, Try.underlying4, Try.underlying44, Try.underlying46, Try.underlying5, el29, fo46_0, fo46_1, fo46_2, ni24, ni29, ni4, ni44, ni46, ni5, sh46, sz24, sz29, sz4, sz44, sz46, sz5, zr24, zr29, zr4, zr44, zr46, zr5, rs80, gNil, gUn, gload1 m sz24, d]))
      refine st_one m sz24 rfl (by simp) rfl rfl fun h1 m1 f1 => ?_
      (try simp only [List.map, gop, ev, lk, aenv, gyield, gBin, gInt, gStrOp, gUn, gPick, gNil, gExtract, gIfc, gConvK, gIndexO, gIndexVO, gMakeV, gMinV, gMaxV, isInt, gMin, gMax, gBlt, gCallV, vcells, gField, gIndexV, gPart, reduceIte, Nat.reduceAdd, Nat.reduceSub, Nat.reduceMul, Nat.reduceLT, Nat.reduceLeDiff, Nat.reduceEqDiff, Nat.reduceBEq, Int.reduceLT, Int.reduceLE, Int.reduceGT, Int.reduceGE, Int.reduceEq, Int.reduceNe, Int.reduceAdd, Int.reduceSub, Int.reduceMul, Int.reduceNeg, Int.reduceToNat, Int.reduceBEq, Int.reduceBNe, Int.cast_ofNat_Int, List.getElem?_toArray, stp, Try.underlying24, Try.underlying29, Try.underlying4, Try.underlying44, Try.underlying46, Try.underlying5, el29, fo46_0, fo46_1, fo46_2, ni24, ni29, ni4, ni44, ni46, ni5, sh46, sz24, sz29, sz4, sz44, sz46, sz5, zr24, zr29, zr4, zr44, zr46, zr5, rs80, gNil]); repeat' (first | (with_reducible first | refine gw_seq ?_ | refine gw_block ?_) | ((first | (with_reducible first | refine gw_region ?_ | refine gw_if ?_ | refine gw_skip ?_ | refine gw_exit ?_ | refine gw_ret ?_) | ((with_reducible first | refine gif_b (fun hb => ?_) (fun hb => ?_) | refine want_t (fun hb => ?_) (fun hb => ?_) | refine want_f (fun hb => ?_) (fun hb => ?_)) <;> (try simp only [hb]) <;> (try simp only [hpr] at hb)) | ((refine GTri.mono rn ?_); rintro _ _ ⟨rfl, hh9⟩; replace hh9 := hh9.symm; subst hh9)) <;> try simp only [List.map, gop, ev, lk, aenv, gyield, gBin, gInt, gStrOp, gUn, gPick, gNil, gExtract, gIfc, gConvK, gIndexO, gIndexVO, gMakeV, gMinV, gMaxV, isInt, gMin, gMax, gBlt, gCallV, vcells, gField, gIndexV, gPart, reduceIte, Nat.reduceAdd, Nat.reduceSub, Nat.reduceMul, Nat.reduceLT, Nat.reduceLeDiff, Nat.reduceEqDiff, Nat.reduceBEq, Int.reduceLT, Int.reduceLE, Int.reduceGT, Int.reduceGE, Int.reduceEq, Int.reduceNe, Int.reduceAdd, Int.reduceSub, Int.reduceMul, Int.reduceNeg, Int.reduceToNat, Int.reduceBEq, Int.reduceBNe, Int.cast_ofNat_Int, List.getElem?_toArray, stp, Try.underlying24, Try.underlying29, Try.underlying4, Try.underlying44, Try.underlying46, Try.underlying5, el29, fo46_0, fo46_1, fo46_2, ni24, ni29, ni4, ni44, ni46, ni5, sh46, sz24, sz29, sz4, sz44, sz46, sz5, zr24, zr29, zr4, zr44, zr46, zr5, rs80, gNil]))
      refine st_one m1 sz29 rfl (by simp) rfl rfl fun h2 m2 f2 => ?_
      have x : HX k h h2 := fun j B n e => by rw [f2 j n, f1 j n]; exact e
      (try simp only [List.map, gop, ev, lk, aenv, gyield, gBin, gInt, gStrOp, gUn, gPick, gNil, gExtract, gIfc, gConvK, gIndexO, gIndexVO, gMakeV, gMinV, gMaxV, isInt, gMin, gMax, gBlt, gCallV, vcells, gField, gIndexV, gPart, reduceIte, Nat.reduceAdd, Nat.reduceSub, Nat.reduceMul, Nat.reduceLT, Nat.reduceLeDiff, Nat.reduceEqDiff, Nat.reduceBEq, Int.reduceLT, Int.reduceLE, Int.reduceGT, Int.reduceGE, Int.reduceEq, Int.reduceNe, Int.reduceAdd, Int.reduceSub, Int.reduceMul, Int.reduceNeg, Int.reduceToNat, Int.reduceBEq, Int.reduceBNe, Int.cast_ofNat_Int, List.getElem?_toArray, stp, Try.underlying24, Try.underlying29, Try.underlying4, Try.underlying44, Try.underlying46, Try.underlying5, el29, fo46_0, fo46_1, fo46_2, ni24, ni29, ni4, ni44, ni46, ni5, sh46, sz24, sz29, sz4, sz44, sz46, sz5, zr24, zr29, zr4, zr44, zr46, zr5, rs80, gNil, gUn, gload1 m2 sz24]); repeat' (first | (with_reducible first | refine gw_seq ?_ | refine gw_block ?_) | ((first | (with_reducible first | refine gw_region ?_ | refine gw_if ?_ | refine gw_skip ?_ | refine gw_exit ?_ | refine gw_ret ?_) | ((with_reducible first | refine gif_b (fun hb => ?_) (fun hb => ?_) | refine want_t (fun hb => ?_) (fun hb => ?_) | refine want_f (fun hb => ?_) (fun hb => ?_)) <;> (try simp only [hb]) <;> (try simp only [hpr] at hb))) <;> try simp only [List.map, gop, ev, lk, aenv, gyield, gBin, gInt, gStrOp, gUn, gPick, gNil, gExtract, gIfc, gConvK, gIndexO, gIndexVO, gMakeV, gMinV, gMaxV, isInt, gMin, gMax, gBlt, gCallV, vcells, gField, gIndexV, gPart, reduceIte, Nat.reduceAdd, Nat.reduceSub, Nat.reduceMul, Nat.reduceLT, Nat.reduceLeDiff, Nat.reduceEqDiff, Nat.reduceBEq, Int.reduceLT, Int.reduceLE, Int.reduceGT, Int.reduceGE, Int.reduceEq, Int.reduceNe, Int.reduceAdd, Int.reduceSub, Int.reduceMul, Int.reduceNeg, Int.reduceToNat, Int.reduceBEq, Int.reduceBNe, Int.cast_ofNat_Int, List.getElem?_toArray, stp, Try.underlying24, Try.underlying29, Try.underlying4, Try.underlying44, Try.underlying46, Try.underlying5, el29, fo46_0, fo46_1, fo46_2, ni24, ni29, ni4, ni44, ni46, ni5, sh46, sz24, sz29, sz4, sz44, sz46, sz5, zr24, zr29, zr4, zr44, zr46, zr5, rs80, gNil, gUn, gload1 m2 sz24]))
      rw [St.ok_f, St.fail, if_pos he]
      exact ⟨rfl, ⟨none, 0, m2, RB.nil _, SL.nil _ _ _⟩, x⟩
    · have d : (s.e == 0) = false := by simpa using he
      repeat' (first | (with_reducible first | refine gw_seq ?_ | refine gw_block ?_) | ((first | (with_reducible first | refine gw_region ?_ | refine gw_if ?_ | refine gw_skip ?_ | refine gw_exit ?_ | refine gw_ret ?_) | ((with_reducible first | refine gif_b (fun hb => ?_) (fun hb => ?_) | refine want_t (fun hb => ?_) (fun hb => ?_) | refine want_f (fun hb => ?_) (fun hb => ?_)) <;> (try simp only [hb]) <;> (try simp only [hpr] at hb)) | ((refine GTri.mono rn ?_); rintro _ _ ⟨rfl, hh9⟩; replace hh9 := hh9.symm; subst hh9)) <;> try simp only [List.map, gop, ev, lk, aenv, gyield, gBin, gInt, gStrOp, gUn, gPick, gNil, gExtract, gIfc, gConvK, gIndexO, gIndexVO, gMakeV, gMinV, gMaxV, isInt, gMin, gMax, gBlt, gCallV, vcells, gField, gIndexV, gPart, reduceIte, Nat.reduceAdd, Nat.reduceSub, Nat.reduceMul, Nat.reduceLT, Nat.reduceLeDiff, Nat.reduceEqDiff, Nat.reduceBEq, Int.reduceLT, Int.reduceLE, Int.reduceGT, Int.reduceGE, Int.reduceEq, Int.reduceNe, Int.reduceAdd, Int.reduceSub, Int.reduceMul, Int.reduceNeg, Int.reduceToNat, Int.reduceBEq, Int.reduceBNe, Int.cast_ofNat_Int, List.getElem?_toArray, stp, Try.underlying24, Try.underlying29, Try.underlying4, Try.underlying44, Try.underlying46, Try.underlying5, el29, fo46_0, fo46_1, fo46_2, ni24, ni29, ni4, ni44, ni46, ni5, sh46, sz24, sz29, sz4, sz44, sz46, sz5, zr24, zr29, zr4, zr44, zr46, zr5, rs80, gNil, gUn, gload1 m sz24, d]))
      rw [St.ok_f, St.fail, if_neg he]
      exact ⟨by rw [d], ⟨a, c, m, rb, sl⟩, HX.refl _ _⟩
  · repeat' (first | (with_reducible first | refine gw_seq ?_ | refine gw_block ?_) | ((first | (with_reducible first | refine gw_region ?_ | refine gw_if ?_ | refine gw_skip ?_ | refine gw_exit ?_ | refine gw_ret ?_) | ((with_reducible first | refine gif_b (fun hb => ?_) (fun hb => ?_) | refine want_t (fun hb => ?_) (fun hb => ?_) | refine want_f (fun hb => ?_) (fun hb => ?_)) <;> (try simp only [hb]) <;> (try simp only [hpr] at hb)) | ((refine GTri.mono rn ?_); rintro _ _ ⟨rfl, hh9⟩; replace hh9 := hh9.symm; subst hh9)) <;> try simp only [List.map, gop, ev, lk, aenv, gyield, gBin, gInt, gStrOp, gUn, gPick, gNil, gExtract, gIfc, gConvK, gIndexO, gIndexVO, gMakeV, gMinV, gMaxV, isInt, gMin, gMax, gBlt, gCallV, vcells, gField, gIndexV, gPart, reduceIte, Nat.reduceAdd, Nat.reduceSub, Nat.reduceMul, Nat.reduceLT, Nat.reduceLeDiff, Nat.reduceEqDiff, Nat.reduceBEq, Int.reduceLT, Int.reduceLE, Int.reduceGT, Int.reduceGE, Int.reduceEq, Int.reduceNe, Int.reduceAdd, Int.reduceSub, Int.reduceMul, Int.reduceNeg, Int.reduceToNat, Int.reduceBEq, Int.reduceBNe, Int.cast_ofNat_Int, List.getElem?_toArray, stp, Try.underlying24, Try.underlying29, Try.underlying4, Try.underlying44, Try.underlying46, Try.underlying5, el29, fo46_0, fo46_1, fo46_2, ni24, ni29, ni4, ni44, ni46, ni5, sh46, sz24, sz29, sz4, sz44, sz46, sz5, zr24, zr29, zr4, zr44, zr46, zr5, rs80, gNil, gUn, gload1 m sz24]))
    exact ⟨rfl, ⟨a, c, m, rb, sl⟩, HX.refl _ _⟩

theorem RD.form {h : GH} {k : Nat} {s : St} (r : RD h k s) : ∃ a c, h k = some ⟨[.bool true, .slice a s.b.length c, .int .i64 s.e], 0, true, false⟩ ∧ RB h (.slice a s.b.length c) s.b ∧ SL h (.slice a s.b.length c) := r
theorem c_take (N : Nat) (h : GH) {k : Nat} {s : St} (r : RD h k s) (n : Nat) (hb : s.b.length ≤ 140737488355328) : GTri Try.prog N 79 [.pointer (some ⟨k, 0, none⟩), .int .i64 n] h fun v h' => RD h' k (s.take n).2 ∧ HX k h h' ∧ ∃ a c, v = .slice a (s.take n).1.length c ∧ RB h' (.slice a (s.take n).1.length c) (s.take n).1 ∧ (¬ (s.take n).2.e = 0 → a = none) := by
  have rn := c_none N h r
  obtain ⟨a, c, m, rb, sl⟩ := r.form
  have dn : decide ((n : Int) ≤ (s.b.length : Int)) = decide (n ≤ s.b.length) := by simp
  refine gtri Try.func79 rfl gf79 ok79 (by simp [Try.ntmps79]) ?_
  repeat' (first | (with_reducible first | refine gw_seq ?_ | refine gw_block ?_) | ((first | (with_reducible first | refine gw_region ?_ | refine gw_if ?_ | refine gw_skip ?_ | refine gw_exit ?_ | refine gw_ret ?_) | ((with_reducible first | refine gif_b (fun hb => ?_) (fun hb => ?_) | refine want_t (fun hb => ?_) (fun hb => ?_) | refine want_f (fun hb => ?_) (fun hb => ?_)) <;> (try simp only [hb]) <;> (try simp only [hpr] at hb)) | ((refine GTri.mono rn ?_); rintro _ _ ⟨rfl, hh9⟩; replace hh9 := hh9.symm; subst hh9)) <;> try simp only [List.map, gop, ev, lk, aenv, gyield, gBin, gInt, gStrOp, gUn, gPick, gNil, gExtract, gIfc, gConvK, gIndexO, gIndexVO, gMakeV, gMinV, gMaxV, isInt, gMin, gMax, gBlt, gCallV, vcells, gField, gIndexV, gPart, reduceIte, Nat.reduceAdd, Nat.reduceSub, Nat.reduceMul, Nat.reduceLT, Nat.reduceLeDiff, Nat.reduceEqDiff, Nat.reduceBEq, Int.reduceLT, Int.reduceLE, Int.reduceGT, Int.reduceGE, Int.reduceEq, Int.reduceNe, Int.reduceAdd, Int.reduceSub, Int.reduceMul, Int.reduceNeg, Int.reduceToNat, Int.reduceBEq, Int.reduceBNe, Int.cast_ofNat_Int, List.getElem?_toArray, stp, Try.underlying24, Try.underlying29, Try.underlying3, Try.underlying4, Try.underlying44, Try.underlying46, Try.underlying5, el29, fo46_0, fo46_1, fo46_2, ni24, ni29, ni3, ni4, ni44, ni46, ni5, sh46, sz24, sz29, sz3, sz4, sz44, sz46, sz5, zr24, zr29, zr3, zr4, zr44, zr46, zr5, rs79, gNil, gUn, gload1 m sz29, dn]))
  refine (c_ok N h r (decide (n ≤ s.b.length)) 3).mono ?_
  rintro _ h1 ⟨rfl, r1, x1⟩
  by_cases he : (s.ok (decide (n ≤ s.b.length)) 3).e = 0
  · have d : ((s.ok (decide (n ≤ s.b.length)) 3).e == 0) = true := by simpa using he
    obtain ⟨h2, h3⟩ := St.ok_0 (by decide) he
    have hle : n ≤ s.b.length := by simpa using h2
    have et : s.take n = (s.b.take n, ⟨s.b.drop n, 0⟩) := by unfold St.take; rw [if_pos he]
    rw [h2, St.ok_t] at r1
    obtain ⟨a1, c1, m1, rb1, sl1⟩ := r1
    obtain ⟨a2, c2, q2, rb2, sl2, nn⟩ := rb1.cut3 Try.underlying29 sz5 hle .i64
    obtain ⟨a3, c3, q3, rb3, sl3⟩ := rb1.behind sl1 Try.underlying29 sz5 hle .i64
    (try simp only [List.map, gop, ev, lk, aenv, gyield, gBin, gInt, gStrOp, gUn, gPick, gNil, gExtract, gIfc, gConvK, gIndexO, gIndexVO, gMakeV, gMinV, gMaxV, isInt, gMin, gMax, gBlt, gCallV, vcells, gField, gIndexV, gPart, reduceIte, Nat.reduceAdd, Nat.reduceSub, Nat.reduceMul, Nat.reduceLT, Nat.reduceLeDiff, Nat.reduceEqDiff, Nat.reduceBEq, Int.reduceLT, Int.reduceLE, Int.reduceGT, Int.reduceGE, Int.reduceEq, Int.reduceNe, Int.reduceAdd, Int.reduceSub, Int.reduceMul, Int.reduceNeg, Int.reduceToNat, Int.reduceBEq, Int.reduceBNe, Int.cast_ofNat_Int, List.getElem?_toArray, stp, Try.underlying24, Try.underlying29, Try.underlying3, Try.underlying4, Try.underlying44, Try.underlying46, Try.underlying5, el29, fo46_0, fo46_1, fo46_2, ni24, ni29, ni3, ni4, ni44, ni46, ni5, sh46, sz24, sz29, sz3, sz4, sz44, sz46, sz5, zr24, zr29, zr3, zr4, zr44, zr46, zr5, rs79, d, gUn, gNil, gload1 m1 sz29, q2, q3]); repeat' (first | (with_reducible first | refine gw_seq ?_ | refine gw_block ?_) | ((first | (with_reducible first | refine gw_region ?_ | refine gw_if ?_ | refine gw_skip ?_ | refine gw_exit ?_ | refine gw_ret ?_) | ((with_reducible first | refine gif_b (fun hb => ?_) (fun hb => ?_) | refine want_t (fun hb => ?_) (fun hb => ?_) | refine want_f (fun hb => ?_) (fun hb => ?_)) <;> (try simp only [hb]) <;> (try simp only [hpr] at hb))) <;> try simp only [List.map, gop, ev, lk, aenv, gyield, gBin, gInt, gStrOp, gUn, gPick, gNil, gExtract, gIfc, gConvK, gIndexO, gIndexVO, gMakeV, gMinV, gMaxV, isInt, gMin, gMax, gBlt, gCallV, vcells, gField, gIndexV, gPart, reduceIte, Nat.reduceAdd, Nat.reduceSub, Nat.reduceMul, Nat.reduceLT, Nat.reduceLeDiff, Nat.reduceEqDiff, Nat.reduceBEq, Int.reduceLT, Int.reduceLE, Int.reduceGT, Int.reduceGE, Int.reduceEq, Int.reduceNe, Int.reduceAdd, Int.reduceSub, Int.reduceMul, Int.reduceNeg, Int.reduceToNat, Int.reduceBEq, Int.reduceBNe, Int.cast_ofNat_Int, List.getElem?_toArray, stp, Try.underlying24, Try.underlying29, Try.underlying3, Try.underlying4, Try.underlying44, Try.underlying46, Try.underlying5, el29, fo46_0, fo46_1, fo46_2, ni24, ni29, ni3, ni4, ni44, ni46, ni5, sh46, sz24, sz29, sz3, sz4, sz44, sz46, sz5, zr24, zr29, zr3, zr4, zr44, zr46, zr5, rs79, d, gUn, gNil, gload1 m1 sz29, q2, q3]))
    refine st_one m1 sz29 rfl (by simp) rfl rfl fun h4 m4 f4 => ?_
    have x4 : HX k h1 h4 := fun j B n e => by rw [f4 j n]; exact e
    (try simp only [List.map, gop, ev, lk, aenv, gyield, gBin, gInt, gStrOp, gUn, gPick, gNil, gExtract, gIfc, gConvK, gIndexO, gIndexVO, gMakeV, gMinV, gMaxV, isInt, gMin, gMax, gBlt, gCallV, vcells, gField, gIndexV, gPart, reduceIte, Nat.reduceAdd, Nat.reduceSub, Nat.reduceMul, Nat.reduceLT, Nat.reduceLeDiff, Nat.reduceEqDiff, Nat.reduceBEq, Int.reduceLT, Int.reduceLE, Int.reduceGT, Int.reduceGE, Int.reduceEq, Int.reduceNe, Int.reduceAdd, Int.reduceSub, Int.reduceMul, Int.reduceNeg, Int.reduceToNat, Int.reduceBEq, Int.reduceBNe, Int.cast_ofNat_Int, List.getElem?_toArray, stp, Try.underlying24, Try.underlying29, Try.underlying3, Try.underlying4, Try.underlying44, Try.underlying46, Try.underlying5, el29, fo46_0, fo46_1, fo46_2, ni24, ni29, ni3, ni4, ni44, ni46, ni5, sh46, sz24, sz29, sz3, sz4, sz44, sz46, sz5, zr24, zr29, zr3, zr4, zr44, zr46, zr5, rs79]); repeat' (first | (with_reducible first | refine gw_seq ?_ | refine gw_block ?_) | ((first | (with_reducible first | refine gw_region ?_ | refine gw_if ?_ | refine gw_skip ?_ | refine gw_exit ?_ | refine gw_ret ?_) | ((with_reducible first | refine gif_b (fun hb => ?_) (fun hb => ?_) | refine want_t (fun hb => ?_) (fun hb => ?_) | refine want_f (fun hb => ?_) (fun hb => ?_)) <;> (try simp only [hb]) <;> (try simp only [hpr] at hb))) <;> try simp only [List.map, gop, ev, lk, aenv, gyield, gBin, gInt, gStrOp, gUn, gPick, gNil, gExtract, gIfc, gConvK, gIndexO, gIndexVO, gMakeV, gMinV, gMaxV, isInt, gMin, gMax, gBlt, gCallV, vcells, gField, gIndexV, gPart, reduceIte, Nat.reduceAdd, Nat.reduceSub, Nat.reduceMul, Nat.reduceLT, Nat.reduceLeDiff, Nat.reduceEqDiff, Nat.reduceBEq, Int.reduceLT, Int.reduceLE, Int.reduceGT, Int.reduceGE, Int.reduceEq, Int.reduceNe, Int.reduceAdd, Int.reduceSub, Int.reduceMul, Int.reduceNeg, Int.reduceToNat, Int.reduceBEq, Int.reduceBNe, Int.cast_ofNat_Int, List.getElem?_toArray, stp, Try.underlying24, Try.underlying29, Try.underlying3, Try.underlying4, Try.underlying44, Try.underlying46, Try.underlying5, el29, fo46_0, fo46_1, fo46_2, ni24, ni29, ni3, ni4, ni44, ni46, ni5, sh46, sz24, sz29, sz3, sz4, sz44, sz46, sz5, zr24, zr29, zr3, zr4, zr44, zr46, zr5, rs79]))
    rw [et]
    have hl : (s.b.take n).length = n := by simp; omega
    rw [h3] at m4
    refine ⟨⟨a3, c3, m4, rb3.hx m1 rfl x4, sl3.hx m1 rfl x4⟩, x1.trans x4, a2, c2, by rw [hl], by rw [hl]; exact rb2.hx m1 rfl x4, fun hh => absurd rfl hh⟩
  · have d : ((s.ok (decide (n ≤ s.b.length)) 3).e == 0) = false := by simpa using he
    have et : s.take n = ([], s.ok (decide (n ≤ s.b.length)) 3) := by unfold St.take; rw [if_neg he]
    (try simp only [List.map, gop, ev, lk, aenv, gyield, gBin, gInt, gStrOp, gUn, gPick, gNil, gExtract, gIfc, gConvK, gIndexO, gIndexVO, gMakeV, gMinV, gMaxV, isInt, gMin, gMax, gBlt, gCallV, vcells, gField, gIndexV, gPart, reduceIte, Nat.reduceAdd, Nat.reduceSub, Nat.reduceMul, Nat.reduceLT, Nat.reduceLeDiff, Nat.reduceEqDiff, Nat.reduceBEq, Int.reduceLT, Int.reduceLE, Int.reduceGT, Int.reduceGE, Int.reduceEq, Int.reduceNe, Int.reduceAdd, Int.reduceSub, Int.reduceMul, Int.reduceNeg, Int.reduceToNat, Int.reduceBEq, Int.reduceBNe, Int.cast_ofNat_Int, List.getElem?_toArray, stp, Try.underlying24, Try.underlying29, Try.underlying3, Try.underlying4, Try.underlying44, Try.underlying46, Try.underlying5, el29, fo46_0, fo46_1, fo46_2, ni24, ni29, ni3, ni4, ni44, ni46, ni5, sh46, sz24, sz29, sz3, sz4, sz44, sz46, sz5, zr24, zr29, zr3, zr4, zr44, zr46, zr5, rs79, d, gUn]); repeat' (first | (with_reducible first | refine gw_seq ?_ | refine gw_block ?_) | ((first | (with_reducible first | refine gw_region ?_ | refine gw_if ?_ | refine gw_skip ?_ | refine gw_exit ?_ | refine gw_ret ?_) | ((with_reducible first | refine gif_b (fun hb => ?_) (fun hb => ?_) | refine want_t (fun hb => ?_) (fun hb => ?_) | refine want_f (fun hb => ?_) (fun hb => ?_)) <;> (try simp only [hb]) <;> (try simp only [hpr] at hb))) <;> try simp only [List.map, gop, ev, lk, aenv, gyield, gBin, gInt, gStrOp, gUn, gPick, gNil, gExtract, gIfc, gConvK, gIndexO, gIndexVO, gMakeV, gMinV, gMaxV, isInt, gMin, gMax, gBlt, gCallV, vcells, gField, gIndexV, gPart, reduceIte, Nat.reduceAdd, Nat.reduceSub, Nat.reduceMul, Nat.reduceLT, Nat.reduceLeDiff, Nat.reduceEqDiff, Nat.reduceBEq, Int.reduceLT, Int.reduceLE, Int.reduceGT, Int.reduceGE, Int.reduceEq, Int.reduceNe, Int.reduceAdd, Int.reduceSub, Int.reduceMul, Int.reduceNeg, Int.reduceToNat, Int.reduceBEq, Int.reduceBNe, Int.cast_ofNat_Int, List.getElem?_toArray, stp, Try.underlying24, Try.underlying29, Try.underlying3, Try.underlying4, Try.underlying44, Try.underlying46, Try.underlying5, el29, fo46_0, fo46_1, fo46_2, ni24, ni29, ni3, ni4, ni44, ni46, ni5, sh46, sz24, sz29, sz3, sz4, sz44, sz46, sz5, zr24, zr29, zr3, zr4, zr44, zr46, zr5, rs79, d, gUn]))
    rw [et]
    exact ⟨r1, x1, none, 0, rfl, RB.nil _, fun _ => rfl⟩
end Go.Gh
