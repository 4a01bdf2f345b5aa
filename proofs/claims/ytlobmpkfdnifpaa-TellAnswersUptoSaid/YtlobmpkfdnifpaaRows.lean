/-
  No cell of these rows narrows 'for every input' (looked for: loops, veiled, ifaces, maps, wideKeys, modest, calm, conditions, laid).
  DERIVED. THE GIVEN ROWS OF THIS SEAT. 4 by the template 'for every input the law returns true; each argument reads behind the call as it read before'; 0 by the template 'total and deterministic' (their statements: YtlobmpkfdnifpaaTotals.lean).
  GIVEN WITH THE SEED: the statements are not yours to turn. If you find one false, say at which input.
  Laid BY PROGRAM, IN A SANDBOX (cutbox-rows.mjs): the forced cells as the released guide's own fill.sh prints them over the translation 418f7c3dfc055a74… (all of the seat's roots in one cut). By AI agents, Wed Nov 11 2026. No macro, syntax, notation, axiom, sorry.
-/
import Derived.Test.YtlobmpkfdnifpaaChecked
import GoSem.Claim
import GoSem.ClaimJoined
import GoSem.ClaimMapViews
import Derived.JoinedTies
import Derived.KernelRfl
namespace Go.Proofs.Ytlobmpkfdnifpaa
/- THE CELL 'sum', in the pinned program and in every row, IS THE sha256 OF THE DUMP (.gsa) THAT YtlobmpkfdnifpaaProg.lean LOADS. Nothing in Lean hashes anything: it is a label: what it is worth is what the hold of that sum in a sandbox is worth. -/
noncomputable def Try.pinned : Pinned := { name := "ytlobmpkfdnifpaa", sum := "418f7c3dfc055a743820dd0b487606dbb7ab0d045d4880bf78dc0b2206547c7e", checked := Try.checked }
namespace Rows
def none {H : Type} : Left H := { results := [], args := [] }

/-- 'annalslaw26.TellAnswers': WHATEVER THE INPUT: true; the input reads as it did. -/
def tellAnswersSpec : ChangeSpec := { name := "tellAnswers", fn := fun _ => fun
  | [d1, d2, d3] => { results := [.lit (.bool true)], args := [d1, d2, d3] }
  | _ => none }
def tellAnswersRow : OpenClaim := { program := "ytlobmpkfdnifpaa", sum := "418f7c3dfc055a743820dd0b487606dbb7ab0d045d4880bf78dc0b2206547c7e", func := "annals/annalslaw26.TellAnswers", spec := "tellAnswers", apart := false }
def TellAnswersSaid : Prop := tellAnswersRow.holds Try.pinned (OpenSpec.ofChange tellAnswersSpec)

/-- ITS FALSE NEIGHBOUR: 'it returns false'. Refute it at one input. -/
def tellAnswersWrong : ChangeSpec := { name := "tellAnswers", fn := fun _ => fun
  | [d1, d2, d3] => { results := [.lit (.bool false)], args := [d1, d2, d3] }
  | _ => none }
def TellAnswersWrongFalsely : Prop := tellAnswersRow.holds Try.pinned (OpenSpec.ofChange tellAnswersWrong)

/-- 'annalslaw25.AskRoots': WHATEVER THE INPUT: true; the input reads as it did. -/
def askRootsSpec : ChangeSpec := { name := "askRoots", fn := fun _ => fun
  | [d] => { results := [.lit (.bool true)], args := [d] }
  | _ => none }
def askRootsRow : OpenClaim := { program := "ytlobmpkfdnifpaa", sum := "418f7c3dfc055a743820dd0b487606dbb7ab0d045d4880bf78dc0b2206547c7e", func := "annals/annalslaw25.AskRoots", spec := "askRoots", unfollowed := true, recurses := true, apart := false }
def AskRootsSaid : Prop := askRootsRow.holds Try.pinned (OpenSpec.ofChange askRootsSpec)

/-- ITS FALSE NEIGHBOUR: 'it returns false'. Refute it at one input. -/
def askRootsWrong : ChangeSpec := { name := "askRoots", fn := fun _ => fun
  | [d] => { results := [.lit (.bool false)], args := [d] }
  | _ => none }
def AskRootsWrongFalsely : Prop := askRootsRow.holds Try.pinned (OpenSpec.ofChange askRootsWrong)

/-- 'annalslaw25.AskBack': WHATEVER THE INPUT: true; the input reads as it did. -/
def askBackSpec : ChangeSpec := { name := "askBack", fn := fun _ => fun
  | [d1, d2] => { results := [.lit (.bool true)], args := [d1, d2] }
  | _ => none }
def askBackRow : OpenClaim := { program := "ytlobmpkfdnifpaa", sum := "418f7c3dfc055a743820dd0b487606dbb7ab0d045d4880bf78dc0b2206547c7e", func := "annals/annalslaw25.AskBack", spec := "askBack", unfollowed := true, recurses := true, apart := false }
def AskBackSaid : Prop := askBackRow.holds Try.pinned (OpenSpec.ofChange askBackSpec)

/-- ITS FALSE NEIGHBOUR: 'it returns false'. Refute it at one input. -/
def askBackWrong : ChangeSpec := { name := "askBack", fn := fun _ => fun
  | [d1, d2] => { results := [.lit (.bool false)], args := [d1, d2] }
  | _ => none }
def AskBackWrongFalsely : Prop := askBackRow.holds Try.pinned (OpenSpec.ofChange askBackWrong)

/-- 'annalslaw25.AskBytes': WHATEVER THE INPUT: true; the input reads as it did. -/
def askBytesSpec : ChangeSpec := { name := "askBytes", fn := fun _ => fun
  | [d1, d2] => { results := [.lit (.bool true)], args := [d1, d2] }
  | _ => none }
def askBytesRow : OpenClaim := { program := "ytlobmpkfdnifpaa", sum := "418f7c3dfc055a743820dd0b487606dbb7ab0d045d4880bf78dc0b2206547c7e", func := "annals/annalslaw25.AskBytes", spec := "askBytes", unfollowed := true, recurses := true, apart := false }
def AskBytesSaid : Prop := askBytesRow.holds Try.pinned (OpenSpec.ofChange askBytesSpec)

/-- ITS FALSE NEIGHBOUR: 'it returns false'. Refute it at one input. -/
def askBytesWrong : ChangeSpec := { name := "askBytes", fn := fun _ => fun
  | [d1, d2] => { results := [.lit (.bool false)], args := [d1, d2] }
  | _ => none }
def AskBytesWrongFalsely : Prop := askBytesRow.holds Try.pinned (OpenSpec.ofChange askBytesWrong)

/- THE SECOND FORM. 'bulk': how many values and letters a reading holds, each counted each time it is reached (what is shared counts as often as it is met; a slice's spare places count too). A statement '..UptoSaid' is the law's where the arguments, and the package variables that the reading takes, are together of bulk at most 1048576: NARROWER than '..Said'. Prove '..Said' where nothing that the law and all that it calls make is longer than what came in: it says more and counts as full. Else prove '..UptoSaid'. A law counts once. -/
mutual
def uptoBulk {H : Type} : DataW H → Nat
  | .lit (.string bytes) => bytes.length + 1
  | .lit _ => 1
  | .nil => 1
  | .ptr d => uptoBulk d + 1
  | .slice elems spare => uptoBulkAll elems + uptoBulkAll spare + 1
  | .agg parts => uptoBulkAll parts + 1
  | .iface _ d => uptoBulk d + 1
  | .map entries => uptoBulkEntries entries + 1
  | .held _ => 1
def uptoBulkAll {H : Type} : List (DataW H) → Nat
  | [] => 0
  | d :: r => uptoBulk d + uptoBulkAll r
def uptoBulkEntries {H : Type} : List (Lit × DataW H) → Nat
  | [] => 0
  | x :: r => uptoBulkEntry x + uptoBulkEntries r
def uptoBulkEntry {H : Type} : Lit × DataW H → Nat
  | (.string bytes, d) => bytes.length + uptoBulk d + 1
  | (_, d) => uptoBulk d + 1
 end
def uptoSmall : (H : Type) → List (DataW H) → Bool := fun _ ds => decide (uptoBulkAll ds ≤ 1048576)
def OpenSpec.upto (s : _root_.Go.ChangeSpec) : _root_.Go.OpenSpec := { _root_.Go.OpenSpec.ofChange s with cond := some uptoSmall }

/-- 'annalslaw26.TellAnswers', WHERE WHAT IT READS IS OF BULK AT MOST 1048576: true; the input reads as it did. -/
def tellAnswersUptoRow : OpenClaim := { program := "ytlobmpkfdnifpaa", sum := "418f7c3dfc055a743820dd0b487606dbb7ab0d045d4880bf78dc0b2206547c7e", func := "annals/annalslaw26.TellAnswers", spec := "tellAnswers", apart := false, narrowed := true }
def TellAnswersUptoSaid : Prop := tellAnswersUptoRow.holds Try.pinned (OpenSpec.upto tellAnswersSpec)

/-- 'annalslaw25.AskRoots', WHERE WHAT IT READS IS OF BULK AT MOST 1048576: true; the input reads as it did. -/
def askRootsUptoRow : OpenClaim := { program := "ytlobmpkfdnifpaa", sum := "418f7c3dfc055a743820dd0b487606dbb7ab0d045d4880bf78dc0b2206547c7e", func := "annals/annalslaw25.AskRoots", spec := "askRoots", unfollowed := true, recurses := true, apart := false, narrowed := true }
def AskRootsUptoSaid : Prop := askRootsUptoRow.holds Try.pinned (OpenSpec.upto askRootsSpec)

/-- 'annalslaw25.AskBack', WHERE WHAT IT READS IS OF BULK AT MOST 1048576: true; the input reads as it did. -/
def askBackUptoRow : OpenClaim := { program := "ytlobmpkfdnifpaa", sum := "418f7c3dfc055a743820dd0b487606dbb7ab0d045d4880bf78dc0b2206547c7e", func := "annals/annalslaw25.AskBack", spec := "askBack", unfollowed := true, recurses := true, apart := false, narrowed := true }
def AskBackUptoSaid : Prop := askBackUptoRow.holds Try.pinned (OpenSpec.upto askBackSpec)

/-- 'annalslaw25.AskBytes', WHERE WHAT IT READS IS OF BULK AT MOST 1048576: true; the input reads as it did. -/
def askBytesUptoRow : OpenClaim := { program := "ytlobmpkfdnifpaa", sum := "418f7c3dfc055a743820dd0b487606dbb7ab0d045d4880bf78dc0b2206547c7e", func := "annals/annalslaw25.AskBytes", spec := "askBytes", unfollowed := true, recurses := true, apart := false, narrowed := true }
def AskBytesUptoSaid : Prop := askBytesUptoRow.holds Try.pinned (OpenSpec.upto askBytesSpec)

end Rows
end Go.Proofs.Ytlobmpkfdnifpaa
