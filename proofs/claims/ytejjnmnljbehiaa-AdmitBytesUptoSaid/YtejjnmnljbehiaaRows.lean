/-
  No cell of these rows narrows 'for every input' (looked for: loops, veiled, ifaces, maps, wideKeys, modest, calm, conditions, laid).
  DERIVED. THE GIVEN ROWS OF THIS SEAT. 14 by the template 'for every input the law returns true; each argument reads behind the call as it read before'; 0 by the template 'total and deterministic' (their statements: YtejjnmnljbehiaaTotals.lean).
  GIVEN WITH THE SEED: the statements are not yours to turn. If you find one false, say at which input.
  Laid BY PROGRAM, IN A SANDBOX (cutbox-rows.mjs): the forced cells as the released guide's own fill.sh prints them over the translation 679dc718901f2ded… (all of the seat's roots in one cut). By AI agents, Wed Nov 11 2026. No macro, syntax, notation, axiom, sorry.
-/
import Derived.Test.YtejjnmnljbehiaaChecked
import GoSem.Claim
import GoSem.ClaimJoined
import GoSem.ClaimMapViews
import Derived.JoinedTies
import Derived.KernelRfl
namespace Go.Proofs.Ytejjnmnljbehiaa
/- THE CELL 'sum', in the pinned program and in every row, IS THE sha256 OF THE DUMP (.gsa) THAT YtejjnmnljbehiaaProg.lean LOADS. Nothing in Lean hashes anything: it is a label: what it is worth is what the hold of that sum in a sandbox is worth. -/
noncomputable def Try.pinned : Pinned := { name := "ytejjnmnljbehiaa", sum := "679dc718901f2dedb95ae60834bc81c08be250a73acf0864f7763a268f5ee491", checked := Try.checked }
namespace Rows
def none {H : Type} : Left H := { results := [], args := [] }

/-- 'annalslaw15.AdmitNeeds': WHATEVER THE INPUT: true; the input reads as it did. -/
def admitNeedsSpec : ChangeSpec := { name := "admitNeeds", fn := fun _ => fun
  | [d] => { results := [.lit (.bool true)], args := [d] }
  | _ => none }
def admitNeedsRow : OpenClaim := { program := "ytejjnmnljbehiaa", sum := "679dc718901f2dedb95ae60834bc81c08be250a73acf0864f7763a268f5ee491", func := "annals/annalslaw15.AdmitNeeds", spec := "admitNeeds", apart := false }
def AdmitNeedsSaid : Prop := admitNeedsRow.holds Try.pinned (OpenSpec.ofChange admitNeedsSpec)

/-- ITS FALSE NEIGHBOUR: 'it returns false'. Refute it at one input. -/
def admitNeedsWrong : ChangeSpec := { name := "admitNeeds", fn := fun _ => fun
  | [d] => { results := [.lit (.bool false)], args := [d] }
  | _ => none }
def AdmitNeedsWrongFalsely : Prop := admitNeedsRow.holds Try.pinned (OpenSpec.ofChange admitNeedsWrong)

/-- 'annalslaw03.BitsKeys': WHATEVER THE INPUT: true; the input reads as it did. -/
def bitsKeysSpec : ChangeSpec := { name := "bitsKeys", fn := fun _ => fun
  | [d1, d2, d3, d4] => { results := [.lit (.bool true)], args := [d1, d2, d3, d4] }
  | _ => none }
def bitsKeysRow : OpenClaim := { program := "ytejjnmnljbehiaa", sum := "679dc718901f2dedb95ae60834bc81c08be250a73acf0864f7763a268f5ee491", func := "annals/annalslaw03.BitsKeys", spec := "bitsKeys", inPlace := ["internal/bytealg.Compare"], apart := false }
def BitsKeysSaid : Prop := bitsKeysRow.holds Try.pinned (OpenSpec.ofChange bitsKeysSpec)

/-- ITS FALSE NEIGHBOUR: 'it returns false'. Refute it at one input. -/
def bitsKeysWrong : ChangeSpec := { name := "bitsKeys", fn := fun _ => fun
  | [d1, d2, d3, d4] => { results := [.lit (.bool false)], args := [d1, d2, d3, d4] }
  | _ => none }
def BitsKeysWrongFalsely : Prop := bitsKeysRow.holds Try.pinned (OpenSpec.ofChange bitsKeysWrong)

/-- 'annalslaw15.AdmitCheck': WHATEVER THE INPUT: true; the input reads as it did. -/
def admitCheckSpec : ChangeSpec := { name := "admitCheck", fn := fun _ => fun
  | [d] => { results := [.lit (.bool true)], args := [d] }
  | _ => none }
def admitCheckRow : OpenClaim := { program := "ytejjnmnljbehiaa", sum := "679dc718901f2dedb95ae60834bc81c08be250a73acf0864f7763a268f5ee491", func := "annals/annalslaw15.AdmitCheck", spec := "admitCheck", apart := false }
def AdmitCheckSaid : Prop := admitCheckRow.holds Try.pinned (OpenSpec.ofChange admitCheckSpec)

/-- ITS FALSE NEIGHBOUR: 'it returns false'. Refute it at one input. -/
def admitCheckWrong : ChangeSpec := { name := "admitCheck", fn := fun _ => fun
  | [d] => { results := [.lit (.bool false)], args := [d] }
  | _ => none }
def AdmitCheckWrongFalsely : Prop := admitCheckRow.holds Try.pinned (OpenSpec.ofChange admitCheckWrong)

/-- 'annalslaw03.BitsApart': WHATEVER THE INPUT: true; the input reads as it did. -/
def bitsApartSpec : ChangeSpec := { name := "bitsApart", fn := fun _ => fun
  | [d1, d2] => { results := [.lit (.bool true)], args := [d1, d2] }
  | _ => none }
def bitsApartRow : OpenClaim := { program := "ytejjnmnljbehiaa", sum := "679dc718901f2dedb95ae60834bc81c08be250a73acf0864f7763a268f5ee491", func := "annals/annalslaw03.BitsApart", spec := "bitsApart", inPlace := ["internal/bytealg.Compare"], apart := false }
def BitsApartSaid : Prop := bitsApartRow.holds Try.pinned (OpenSpec.ofChange bitsApartSpec)

/-- ITS FALSE NEIGHBOUR: 'it returns false'. Refute it at one input. -/
def bitsApartWrong : ChangeSpec := { name := "bitsApart", fn := fun _ => fun
  | [d1, d2] => { results := [.lit (.bool false)], args := [d1, d2] }
  | _ => none }
def BitsApartWrongFalsely : Prop := bitsApartRow.holds Try.pinned (OpenSpec.ofChange bitsApartWrong)

/-- 'annalslaw04.CodecPuts': WHATEVER THE INPUT: true; the input reads as it did. -/
def codecPutsSpec : ChangeSpec := { name := "codecPuts", fn := fun _ => fun
  | [d1, d2, d3, d4] => { results := [.lit (.bool true)], args := [d1, d2, d3, d4] }
  | _ => none }
def codecPutsRow : OpenClaim := { program := "ytejjnmnljbehiaa", sum := "679dc718901f2dedb95ae60834bc81c08be250a73acf0864f7763a268f5ee491", func := "annals/annalslaw04.CodecPuts", spec := "codecPuts", apart := false }
def CodecPutsSaid : Prop := codecPutsRow.holds Try.pinned (OpenSpec.ofChange codecPutsSpec)

/-- ITS FALSE NEIGHBOUR: 'it returns false'. Refute it at one input. -/
def codecPutsWrong : ChangeSpec := { name := "codecPuts", fn := fun _ => fun
  | [d1, d2, d3, d4] => { results := [.lit (.bool false)], args := [d1, d2, d3, d4] }
  | _ => none }
def CodecPutsWrongFalsely : Prop := codecPutsRow.holds Try.pinned (OpenSpec.ofChange codecPutsWrong)

/-- 'annalslaw03.BitsShorter': WHATEVER THE INPUT: true; the input reads as it did. -/
def bitsShorterSpec : ChangeSpec := { name := "bitsShorter", fn := fun _ => fun
  | [d1, d2, d3] => { results := [.lit (.bool true)], args := [d1, d2, d3] }
  | _ => none }
def bitsShorterRow : OpenClaim := { program := "ytejjnmnljbehiaa", sum := "679dc718901f2dedb95ae60834bc81c08be250a73acf0864f7763a268f5ee491", func := "annals/annalslaw03.BitsShorter", spec := "bitsShorter", apart := false }
def BitsShorterSaid : Prop := bitsShorterRow.holds Try.pinned (OpenSpec.ofChange bitsShorterSpec)

/-- ITS FALSE NEIGHBOUR: 'it returns false'. Refute it at one input. -/
def bitsShorterWrong : ChangeSpec := { name := "bitsShorter", fn := fun _ => fun
  | [d1, d2, d3] => { results := [.lit (.bool false)], args := [d1, d2, d3] }
  | _ => none }
def BitsShorterWrongFalsely : Prop := bitsShorterRow.holds Try.pinned (OpenSpec.ofChange bitsShorterWrong)

/-- 'annalslaw03.BitsSide': WHATEVER THE INPUT: true; the input reads as it did. -/
def bitsSideSpec : ChangeSpec := { name := "bitsSide", fn := fun _ => fun
  | [d1, d2, d3] => { results := [.lit (.bool true)], args := [d1, d2, d3] }
  | _ => none }
def bitsSideRow : OpenClaim := { program := "ytejjnmnljbehiaa", sum := "679dc718901f2dedb95ae60834bc81c08be250a73acf0864f7763a268f5ee491", func := "annals/annalslaw03.BitsSide", spec := "bitsSide", apart := false }
def BitsSideSaid : Prop := bitsSideRow.holds Try.pinned (OpenSpec.ofChange bitsSideSpec)

/-- ITS FALSE NEIGHBOUR: 'it returns false'. Refute it at one input. -/
def bitsSideWrong : ChangeSpec := { name := "bitsSide", fn := fun _ => fun
  | [d1, d2, d3] => { results := [.lit (.bool false)], args := [d1, d2, d3] }
  | _ => none }
def BitsSideWrongFalsely : Prop := bitsSideRow.holds Try.pinned (OpenSpec.ofChange bitsSideWrong)

/-- 'annalslaw03.BitsFirst': WHATEVER THE INPUT: true; the input reads as it did. -/
def bitsFirstSpec : ChangeSpec := { name := "bitsFirst", fn := fun _ => fun
  | [d1, d2, d3] => { results := [.lit (.bool true)], args := [d1, d2, d3] }
  | _ => none }
def bitsFirstRow : OpenClaim := { program := "ytejjnmnljbehiaa", sum := "679dc718901f2dedb95ae60834bc81c08be250a73acf0864f7763a268f5ee491", func := "annals/annalslaw03.BitsFirst", spec := "bitsFirst", apart := false }
def BitsFirstSaid : Prop := bitsFirstRow.holds Try.pinned (OpenSpec.ofChange bitsFirstSpec)

/-- ITS FALSE NEIGHBOUR: 'it returns false'. Refute it at one input. -/
def bitsFirstWrong : ChangeSpec := { name := "bitsFirst", fn := fun _ => fun
  | [d1, d2, d3] => { results := [.lit (.bool false)], args := [d1, d2, d3] }
  | _ => none }
def BitsFirstWrongFalsely : Prop := bitsFirstRow.holds Try.pinned (OpenSpec.ofChange bitsFirstWrong)

/-- 'annalslaw04.CodecNobody': WHATEVER THE INPUT: true; the input reads as it did. -/
def codecNobodySpec : ChangeSpec := { name := "codecNobody", fn := fun _ => fun
  | [d] => { results := [.lit (.bool true)], args := [d] }
  | _ => none }
def codecNobodyRow : OpenClaim := { program := "ytejjnmnljbehiaa", sum := "679dc718901f2dedb95ae60834bc81c08be250a73acf0864f7763a268f5ee491", func := "annals/annalslaw04.CodecNobody", spec := "codecNobody", apart := false }
def CodecNobodySaid : Prop := codecNobodyRow.holds Try.pinned (OpenSpec.ofChange codecNobodySpec)

/-- ITS FALSE NEIGHBOUR: 'it returns false'. Refute it at one input. -/
def codecNobodyWrong : ChangeSpec := { name := "codecNobody", fn := fun _ => fun
  | [d] => { results := [.lit (.bool false)], args := [d] }
  | _ => none }
def CodecNobodyWrongFalsely : Prop := codecNobodyRow.holds Try.pinned (OpenSpec.ofChange codecNobodyWrong)

/-- 'annalslaw04.CodecBack': WHATEVER THE INPUT: true; the input reads as it did. -/
def codecBackSpec : ChangeSpec := { name := "codecBack", fn := fun _ => fun
  | [d1, d2, d3, d4] => { results := [.lit (.bool true)], args := [d1, d2, d3, d4] }
  | _ => none }
def codecBackRow : OpenClaim := { program := "ytejjnmnljbehiaa", sum := "679dc718901f2dedb95ae60834bc81c08be250a73acf0864f7763a268f5ee491", func := "annals/annalslaw04.CodecBack", spec := "codecBack", apart := false }
def CodecBackSaid : Prop := codecBackRow.holds Try.pinned (OpenSpec.ofChange codecBackSpec)

/-- ITS FALSE NEIGHBOUR: 'it returns false'. Refute it at one input. -/
def codecBackWrong : ChangeSpec := { name := "codecBack", fn := fun _ => fun
  | [d1, d2, d3, d4] => { results := [.lit (.bool false)], args := [d1, d2, d3, d4] }
  | _ => none }
def CodecBackWrongFalsely : Prop := codecBackRow.holds Try.pinned (OpenSpec.ofChange codecBackWrong)

/-- 'annalslaw04.CodecOnce': WHATEVER THE INPUT: true; the input reads as it did. -/
def codecOnceSpec : ChangeSpec := { name := "codecOnce", fn := fun _ => fun
  | [d] => { results := [.lit (.bool true)], args := [d] }
  | _ => none }
def codecOnceRow : OpenClaim := { program := "ytejjnmnljbehiaa", sum := "679dc718901f2dedb95ae60834bc81c08be250a73acf0864f7763a268f5ee491", func := "annals/annalslaw04.CodecOnce", spec := "codecOnce", apart := false }
def CodecOnceSaid : Prop := codecOnceRow.holds Try.pinned (OpenSpec.ofChange codecOnceSpec)

/-- ITS FALSE NEIGHBOUR: 'it returns false'. Refute it at one input. -/
def codecOnceWrong : ChangeSpec := { name := "codecOnce", fn := fun _ => fun
  | [d] => { results := [.lit (.bool false)], args := [d] }
  | _ => none }
def CodecOnceWrongFalsely : Prop := codecOnceRow.holds Try.pinned (OpenSpec.ofChange codecOnceWrong)

/-- 'annalslaw04.CodecReads': WHATEVER THE INPUT: true; the input reads as it did. -/
def codecReadsSpec : ChangeSpec := { name := "codecReads", fn := fun _ => fun
  | [d1, d2] => { results := [.lit (.bool true)], args := [d1, d2] }
  | _ => none }
def codecReadsRow : OpenClaim := { program := "ytejjnmnljbehiaa", sum := "679dc718901f2dedb95ae60834bc81c08be250a73acf0864f7763a268f5ee491", func := "annals/annalslaw04.CodecReads", spec := "codecReads", apart := false }
def CodecReadsSaid : Prop := codecReadsRow.holds Try.pinned (OpenSpec.ofChange codecReadsSpec)

/-- ITS FALSE NEIGHBOUR: 'it returns false'. Refute it at one input. -/
def codecReadsWrong : ChangeSpec := { name := "codecReads", fn := fun _ => fun
  | [d1, d2] => { results := [.lit (.bool false)], args := [d1, d2] }
  | _ => none }
def CodecReadsWrongFalsely : Prop := codecReadsRow.holds Try.pinned (OpenSpec.ofChange codecReadsWrong)

/-- 'annalslaw15.AdmitBack': WHATEVER THE INPUT: true; the input reads as it did. -/
def admitBackSpec : ChangeSpec := { name := "admitBack", fn := fun _ => fun
  | [d1, d2] => { results := [.lit (.bool true)], args := [d1, d2] }
  | _ => none }
def admitBackRow : OpenClaim := { program := "ytejjnmnljbehiaa", sum := "679dc718901f2dedb95ae60834bc81c08be250a73acf0864f7763a268f5ee491", func := "annals/annalslaw15.AdmitBack", spec := "admitBack", apart := false }
def AdmitBackSaid : Prop := admitBackRow.holds Try.pinned (OpenSpec.ofChange admitBackSpec)

/-- ITS FALSE NEIGHBOUR: 'it returns false'. Refute it at one input. -/
def admitBackWrong : ChangeSpec := { name := "admitBack", fn := fun _ => fun
  | [d1, d2] => { results := [.lit (.bool false)], args := [d1, d2] }
  | _ => none }
def AdmitBackWrongFalsely : Prop := admitBackRow.holds Try.pinned (OpenSpec.ofChange admitBackWrong)

/-- 'annalslaw15.AdmitBytes': WHATEVER THE INPUT: true; the input reads as it did. -/
def admitBytesSpec : ChangeSpec := { name := "admitBytes", fn := fun _ => fun
  | [d1, d2] => { results := [.lit (.bool true)], args := [d1, d2] }
  | _ => none }
def admitBytesRow : OpenClaim := { program := "ytejjnmnljbehiaa", sum := "679dc718901f2dedb95ae60834bc81c08be250a73acf0864f7763a268f5ee491", func := "annals/annalslaw15.AdmitBytes", spec := "admitBytes", apart := false }
def AdmitBytesSaid : Prop := admitBytesRow.holds Try.pinned (OpenSpec.ofChange admitBytesSpec)

/-- ITS FALSE NEIGHBOUR: 'it returns false'. Refute it at one input. -/
def admitBytesWrong : ChangeSpec := { name := "admitBytes", fn := fun _ => fun
  | [d1, d2] => { results := [.lit (.bool false)], args := [d1, d2] }
  | _ => none }
def AdmitBytesWrongFalsely : Prop := admitBytesRow.holds Try.pinned (OpenSpec.ofChange admitBytesWrong)

/- THE SECOND FORM. 'bulk': how many values and letters a reading holds, each counted each time it is reached (what is shared counts as often as it is met; a slice's spare places count too). A statement '..UptoSaid' is the law's where the arguments, and the package variables that the reading takes, are together of bulk at most 1048576: NARROWER than '..Said'. Prove '..Said' where nothing that the law and all that it calls make is longer than what came in: it says more and counts as full. Else prove '..UptoSaid'. A law counts once. -/
mutual
def uptoBulk {H : Type} : DataW H → Nat
  | .lit (.string bytes) => bytes.length + 1
  | .lit _ => 1
  | .nil => 1
  | .ptr d => uptoBulk d + 1
  | .slice elems spare => uptoBulkAll elems + uptoBulkAll spare + 1
  | .agg parts => uptoBulkAll parts + 1
  | .iface _ d => uptoBulk d + 1
  | .map entries => uptoBulkEntries entries + 1
  | .held _ => 1
def uptoBulkAll {H : Type} : List (DataW H) → Nat
  | [] => 0
  | d :: r => uptoBulk d + uptoBulkAll r
def uptoBulkEntries {H : Type} : List (Lit × DataW H) → Nat
  | [] => 0
  | x :: r => uptoBulkEntry x + uptoBulkEntries r
def uptoBulkEntry {H : Type} : Lit × DataW H → Nat
  | (.string bytes, d) => bytes.length + uptoBulk d + 1
  | (_, d) => uptoBulk d + 1
 end
def uptoSmall : (H : Type) → List (DataW H) → Bool := fun _ ds => decide (uptoBulkAll ds ≤ 1048576)
def OpenSpec.upto (s : _root_.Go.ChangeSpec) : _root_.Go.OpenSpec := { _root_.Go.OpenSpec.ofChange s with cond := some uptoSmall }

/-- 'annalslaw15.AdmitNeeds', WHERE WHAT IT READS IS OF BULK AT MOST 1048576: true; the input reads as it did. -/
def admitNeedsUptoRow : OpenClaim := { program := "ytejjnmnljbehiaa", sum := "679dc718901f2dedb95ae60834bc81c08be250a73acf0864f7763a268f5ee491", func := "annals/annalslaw15.AdmitNeeds", spec := "admitNeeds", apart := false, narrowed := true }
def AdmitNeedsUptoSaid : Prop := admitNeedsUptoRow.holds Try.pinned (OpenSpec.upto admitNeedsSpec)

/-- 'annalslaw03.BitsKeys', WHERE WHAT IT READS IS OF BULK AT MOST 1048576: true; the input reads as it did. -/
def bitsKeysUptoRow : OpenClaim := { program := "ytejjnmnljbehiaa", sum := "679dc718901f2dedb95ae60834bc81c08be250a73acf0864f7763a268f5ee491", func := "annals/annalslaw03.BitsKeys", spec := "bitsKeys", inPlace := ["internal/bytealg.Compare"], apart := false, narrowed := true }
def BitsKeysUptoSaid : Prop := bitsKeysUptoRow.holds Try.pinned (OpenSpec.upto bitsKeysSpec)

/-- 'annalslaw15.AdmitCheck', WHERE WHAT IT READS IS OF BULK AT MOST 1048576: true; the input reads as it did. -/
def admitCheckUptoRow : OpenClaim := { program := "ytejjnmnljbehiaa", sum := "679dc718901f2dedb95ae60834bc81c08be250a73acf0864f7763a268f5ee491", func := "annals/annalslaw15.AdmitCheck", spec := "admitCheck", apart := false, narrowed := true }
def AdmitCheckUptoSaid : Prop := admitCheckUptoRow.holds Try.pinned (OpenSpec.upto admitCheckSpec)

/-- 'annalslaw03.BitsApart', WHERE WHAT IT READS IS OF BULK AT MOST 1048576: true; the input reads as it did. -/
def bitsApartUptoRow : OpenClaim := { program := "ytejjnmnljbehiaa", sum := "679dc718901f2dedb95ae60834bc81c08be250a73acf0864f7763a268f5ee491", func := "annals/annalslaw03.BitsApart", spec := "bitsApart", inPlace := ["internal/bytealg.Compare"], apart := false, narrowed := true }
def BitsApartUptoSaid : Prop := bitsApartUptoRow.holds Try.pinned (OpenSpec.upto bitsApartSpec)

/-- 'annalslaw04.CodecPuts', WHERE WHAT IT READS IS OF BULK AT MOST 1048576: true; the input reads as it did. -/
def codecPutsUptoRow : OpenClaim := { program := "ytejjnmnljbehiaa", sum := "679dc718901f2dedb95ae60834bc81c08be250a73acf0864f7763a268f5ee491", func := "annals/annalslaw04.CodecPuts", spec := "codecPuts", apart := false, narrowed := true }
def CodecPutsUptoSaid : Prop := codecPutsUptoRow.holds Try.pinned (OpenSpec.upto codecPutsSpec)

/-- 'annalslaw03.BitsShorter', WHERE WHAT IT READS IS OF BULK AT MOST 1048576: true; the input reads as it did. -/
def bitsShorterUptoRow : OpenClaim := { program := "ytejjnmnljbehiaa", sum := "679dc718901f2dedb95ae60834bc81c08be250a73acf0864f7763a268f5ee491", func := "annals/annalslaw03.BitsShorter", spec := "bitsShorter", apart := false, narrowed := true }
def BitsShorterUptoSaid : Prop := bitsShorterUptoRow.holds Try.pinned (OpenSpec.upto bitsShorterSpec)

/-- 'annalslaw03.BitsSide', WHERE WHAT IT READS IS OF BULK AT MOST 1048576: true; the input reads as it did. -/
def bitsSideUptoRow : OpenClaim := { program := "ytejjnmnljbehiaa", sum := "679dc718901f2dedb95ae60834bc81c08be250a73acf0864f7763a268f5ee491", func := "annals/annalslaw03.BitsSide", spec := "bitsSide", apart := false, narrowed := true }
def BitsSideUptoSaid : Prop := bitsSideUptoRow.holds Try.pinned (OpenSpec.upto bitsSideSpec)

/-- 'annalslaw03.BitsFirst', WHERE WHAT IT READS IS OF BULK AT MOST 1048576: true; the input reads as it did. -/
def bitsFirstUptoRow : OpenClaim := { program := "ytejjnmnljbehiaa", sum := "679dc718901f2dedb95ae60834bc81c08be250a73acf0864f7763a268f5ee491", func := "annals/annalslaw03.BitsFirst", spec := "bitsFirst", apart := false, narrowed := true }
def BitsFirstUptoSaid : Prop := bitsFirstUptoRow.holds Try.pinned (OpenSpec.upto bitsFirstSpec)

/-- 'annalslaw04.CodecNobody', WHERE WHAT IT READS IS OF BULK AT MOST 1048576: true; the input reads as it did. -/
def codecNobodyUptoRow : OpenClaim := { program := "ytejjnmnljbehiaa", sum := "679dc718901f2dedb95ae60834bc81c08be250a73acf0864f7763a268f5ee491", func := "annals/annalslaw04.CodecNobody", spec := "codecNobody", apart := false, narrowed := true }
def CodecNobodyUptoSaid : Prop := codecNobodyUptoRow.holds Try.pinned (OpenSpec.upto codecNobodySpec)

/-- 'annalslaw04.CodecBack', WHERE WHAT IT READS IS OF BULK AT MOST 1048576: true; the input reads as it did. -/
def codecBackUptoRow : OpenClaim := { program := "ytejjnmnljbehiaa", sum := "679dc718901f2dedb95ae60834bc81c08be250a73acf0864f7763a268f5ee491", func := "annals/annalslaw04.CodecBack", spec := "codecBack", apart := false, narrowed := true }
def CodecBackUptoSaid : Prop := codecBackUptoRow.holds Try.pinned (OpenSpec.upto codecBackSpec)

/-- 'annalslaw04.CodecOnce', WHERE WHAT IT READS IS OF BULK AT MOST 1048576: true; the input reads as it did. -/
def codecOnceUptoRow : OpenClaim := { program := "ytejjnmnljbehiaa", sum := "679dc718901f2dedb95ae60834bc81c08be250a73acf0864f7763a268f5ee491", func := "annals/annalslaw04.CodecOnce", spec := "codecOnce", apart := false, narrowed := true }
def CodecOnceUptoSaid : Prop := codecOnceUptoRow.holds Try.pinned (OpenSpec.upto codecOnceSpec)

/-- 'annalslaw04.CodecReads', WHERE WHAT IT READS IS OF BULK AT MOST 1048576: true; the input reads as it did. -/
def codecReadsUptoRow : OpenClaim := { program := "ytejjnmnljbehiaa", sum := "679dc718901f2dedb95ae60834bc81c08be250a73acf0864f7763a268f5ee491", func := "annals/annalslaw04.CodecReads", spec := "codecReads", apart := false, narrowed := true }
def CodecReadsUptoSaid : Prop := codecReadsUptoRow.holds Try.pinned (OpenSpec.upto codecReadsSpec)

/-- 'annalslaw15.AdmitBack', WHERE WHAT IT READS IS OF BULK AT MOST 1048576: true; the input reads as it did. -/
def admitBackUptoRow : OpenClaim := { program := "ytejjnmnljbehiaa", sum := "679dc718901f2dedb95ae60834bc81c08be250a73acf0864f7763a268f5ee491", func := "annals/annalslaw15.AdmitBack", spec := "admitBack", apart := false, narrowed := true }
def AdmitBackUptoSaid : Prop := admitBackUptoRow.holds Try.pinned (OpenSpec.upto admitBackSpec)

/-- 'annalslaw15.AdmitBytes', WHERE WHAT IT READS IS OF BULK AT MOST 1048576: true; the input reads as it did. -/
def admitBytesUptoRow : OpenClaim := { program := "ytejjnmnljbehiaa", sum := "679dc718901f2dedb95ae60834bc81c08be250a73acf0864f7763a268f5ee491", func := "annals/annalslaw15.AdmitBytes", spec := "admitBytes", apart := false, narrowed := true }
def AdmitBytesUptoSaid : Prop := admitBytesUptoRow.holds Try.pinned (OpenSpec.upto admitBytesSpec)

end Rows
end Go.Proofs.Ytejjnmnljbehiaa
