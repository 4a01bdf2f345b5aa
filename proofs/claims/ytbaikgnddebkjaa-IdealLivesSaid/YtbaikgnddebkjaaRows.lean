/-
  No cell of these rows narrows 'for every input' (looked for: loops, veiled, ifaces, maps, wideKeys, modest, calm, conditions, laid).
  DERIVED. THE GIVEN ROWS OF THIS SEAT. 9 by the template 'for every input the law returns true; each argument reads behind the call as it read before'; 0 by the template 'total and deterministic' (their statements: YtbaikgnddebkjaaTotals.lean).
  GIVEN WITH THE SEED: the statements are not yours to turn. If you find one false, say at which input.
  Laid BY PROGRAM, IN A SANDBOX (cutbox-rows.mjs): the forced cells as the released guide's own fill.sh prints them over the translation df17b48c375bdbf9… (all of the seat's roots in one cut). By AI agents, Wed Nov 11 2026. No macro, syntax, notation, axiom, sorry.
-/
import Derived.Test.YtbaikgnddebkjaaChecked
import GoSem.Claim
import GoSem.ClaimJoined
import GoSem.ClaimMapViews
import Derived.JoinedTies
import Derived.KernelRfl
namespace Go.Proofs.Ytbaikgnddebkjaa
/- THE CELL 'sum', in the pinned program and in every row, IS THE sha256 OF THE DUMP (.gsa) THAT YtbaikgnddebkjaaProg.lean LOADS. Nothing in Lean hashes anything: it is a label: what it is worth is what the hold of that sum in a sandbox is worth. -/
noncomputable def Try.pinned : Pinned := { name := "ytbaikgnddebkjaa", sum := "df17b48c375bdbf9dfa1122fb274495ba6c72136bd3f6dc70d581338f3a57e3b", checked := Try.checked }
namespace Rows
def none {H : Type} : Left H := { results := [], args := [] }

/-- 'annalslaw33.VersionsStays': WHATEVER THE INPUT: true; the input reads as it did. -/
def versionsStaysSpec : ChangeSpec := { name := "versionsStays", fn := fun _ => fun
  | [d1, d2, d3] => { results := [.lit (.bool true)], args := [d1, d2, d3] }
  | _ => none }
def versionsStaysRow : OpenClaim := { program := "ytbaikgnddebkjaa", sum := "df17b48c375bdbf9dfa1122fb274495ba6c72136bd3f6dc70d581338f3a57e3b", func := "annals/annalslaw33.VersionsStays", spec := "versionsStays", unfollowed := true, recurses := true, apart := false }
def VersionsStaysSaid : Prop := versionsStaysRow.holds Try.pinned (OpenSpec.ofChange versionsStaysSpec)

/-- ITS FALSE NEIGHBOUR: 'it returns false'. Refute it at one input. -/
def versionsStaysWrong : ChangeSpec := { name := "versionsStays", fn := fun _ => fun
  | [d1, d2, d3] => { results := [.lit (.bool false)], args := [d1, d2, d3] }
  | _ => none }
def VersionsStaysWrongFalsely : Prop := versionsStaysRow.holds Try.pinned (OpenSpec.ofChange versionsStaysWrong)

/-- 'annalslaw33.VersionsNobody': WHATEVER THE INPUT: true; the input reads as it did. -/
def versionsNobodySpec : ChangeSpec := { name := "versionsNobody", fn := fun _ => fun
  | [d] => { results := [.lit (.bool true)], args := [d] }
  | _ => none }
def versionsNobodyRow : OpenClaim := { program := "ytbaikgnddebkjaa", sum := "df17b48c375bdbf9dfa1122fb274495ba6c72136bd3f6dc70d581338f3a57e3b", func := "annals/annalslaw33.VersionsNobody", spec := "versionsNobody", inPlace := ["internal/bytealg.Compare"], unfollowed := true, recurses := true, apart := false }
def VersionsNobodySaid : Prop := versionsNobodyRow.holds Try.pinned (OpenSpec.ofChange versionsNobodySpec)

/-- ITS FALSE NEIGHBOUR: 'it returns false'. Refute it at one input. -/
def versionsNobodyWrong : ChangeSpec := { name := "versionsNobody", fn := fun _ => fun
  | [d] => { results := [.lit (.bool false)], args := [d] }
  | _ => none }
def VersionsNobodyWrongFalsely : Prop := versionsNobodyRow.holds Try.pinned (OpenSpec.ofChange versionsNobodyWrong)

/-- 'annalslaw33.VersionsLives': WHATEVER THE INPUT: true; the input reads as it did. -/
def versionsLivesSpec : ChangeSpec := { name := "versionsLives", fn := fun _ => fun
  | [d1, d2] => { results := [.lit (.bool true)], args := [d1, d2] }
  | _ => none }
def versionsLivesRow : OpenClaim := { program := "ytbaikgnddebkjaa", sum := "df17b48c375bdbf9dfa1122fb274495ba6c72136bd3f6dc70d581338f3a57e3b", func := "annals/annalslaw33.VersionsLives", spec := "versionsLives", inPlace := ["internal/bytealg.Compare"], unfollowed := true, recurses := true, apart := false }
def VersionsLivesSaid : Prop := versionsLivesRow.holds Try.pinned (OpenSpec.ofChange versionsLivesSpec)

/-- ITS FALSE NEIGHBOUR: 'it returns false'. Refute it at one input. -/
def versionsLivesWrong : ChangeSpec := { name := "versionsLives", fn := fun _ => fun
  | [d1, d2] => { results := [.lit (.bool false)], args := [d1, d2] }
  | _ => none }
def VersionsLivesWrongFalsely : Prop := versionsLivesRow.holds Try.pinned (OpenSpec.ofChange versionsLivesWrong)

/-- 'annalslaw33.VersionsWhole': WHATEVER THE INPUT: true; the input reads as it did. -/
def versionsWholeSpec : ChangeSpec := { name := "versionsWhole", fn := fun _ => fun
  | [d1, d2] => { results := [.lit (.bool true)], args := [d1, d2] }
  | _ => none }
def versionsWholeRow : OpenClaim := { program := "ytbaikgnddebkjaa", sum := "df17b48c375bdbf9dfa1122fb274495ba6c72136bd3f6dc70d581338f3a57e3b", func := "annals/annalslaw33.VersionsWhole", spec := "versionsWhole", inPlace := ["internal/bytealg.Compare"], unfollowed := true, recurses := true, apart := false }
def VersionsWholeSaid : Prop := versionsWholeRow.holds Try.pinned (OpenSpec.ofChange versionsWholeSpec)

/-- ITS FALSE NEIGHBOUR: 'it returns false'. Refute it at one input. -/
def versionsWholeWrong : ChangeSpec := { name := "versionsWhole", fn := fun _ => fun
  | [d1, d2] => { results := [.lit (.bool false)], args := [d1, d2] }
  | _ => none }
def VersionsWholeWrongFalsely : Prop := versionsWholeRow.holds Try.pinned (OpenSpec.ofChange versionsWholeWrong)

/-- 'annalslaw16.IdealStays': WHATEVER THE INPUT: true; the input reads as it did. -/
def idealStaysSpec : ChangeSpec := { name := "idealStays", fn := fun _ => fun
  | [d1, d2, d3] => { results := [.lit (.bool true)], args := [d1, d2, d3] }
  | _ => none }
def idealStaysRow : OpenClaim := { program := "ytbaikgnddebkjaa", sum := "df17b48c375bdbf9dfa1122fb274495ba6c72136bd3f6dc70d581338f3a57e3b", func := "annals/annalslaw16.IdealStays", spec := "idealStays", inPlace := ["internal/bytealg.Compare"], unfollowed := true, recurses := true, apart := false }
def IdealStaysSaid : Prop := idealStaysRow.holds Try.pinned (OpenSpec.ofChange idealStaysSpec)

/-- ITS FALSE NEIGHBOUR: 'it returns false'. Refute it at one input. -/
def idealStaysWrong : ChangeSpec := { name := "idealStays", fn := fun _ => fun
  | [d1, d2, d3] => { results := [.lit (.bool false)], args := [d1, d2, d3] }
  | _ => none }
def IdealStaysWrongFalsely : Prop := idealStaysRow.holds Try.pinned (OpenSpec.ofChange idealStaysWrong)

/-- 'annalslaw16.IdealLives': WHATEVER THE INPUT: true; the input reads as it did. -/
def idealLivesSpec : ChangeSpec := { name := "idealLives", fn := fun _ => fun
  | [d1, d2, d3, d4] => { results := [.lit (.bool true)], args := [d1, d2, d3, d4] }
  | _ => none }
def idealLivesRow : OpenClaim := { program := "ytbaikgnddebkjaa", sum := "df17b48c375bdbf9dfa1122fb274495ba6c72136bd3f6dc70d581338f3a57e3b", func := "annals/annalslaw16.IdealLives", spec := "idealLives", inPlace := ["internal/bytealg.Compare"], unfollowed := true, recurses := true, apart := false }
def IdealLivesSaid : Prop := idealLivesRow.holds Try.pinned (OpenSpec.ofChange idealLivesSpec)

/-- ITS FALSE NEIGHBOUR: 'it returns false'. Refute it at one input. -/
def idealLivesWrong : ChangeSpec := { name := "idealLives", fn := fun _ => fun
  | [d1, d2, d3, d4] => { results := [.lit (.bool false)], args := [d1, d2, d3, d4] }
  | _ => none }
def IdealLivesWrongFalsely : Prop := idealLivesRow.holds Try.pinned (OpenSpec.ofChange idealLivesWrong)

/-- 'annalslaw16.IdealNobody': WHATEVER THE INPUT: true; the input reads as it did. -/
def idealNobodySpec : ChangeSpec := { name := "idealNobody", fn := fun _ => fun
  | [d] => { results := [.lit (.bool true)], args := [d] }
  | _ => none }
def idealNobodyRow : OpenClaim := { program := "ytbaikgnddebkjaa", sum := "df17b48c375bdbf9dfa1122fb274495ba6c72136bd3f6dc70d581338f3a57e3b", func := "annals/annalslaw16.IdealNobody", spec := "idealNobody", inPlace := ["internal/bytealg.Compare"], unfollowed := true, recurses := true, apart := false }
def IdealNobodySaid : Prop := idealNobodyRow.holds Try.pinned (OpenSpec.ofChange idealNobodySpec)

/-- ITS FALSE NEIGHBOUR: 'it returns false'. Refute it at one input. -/
def idealNobodyWrong : ChangeSpec := { name := "idealNobody", fn := fun _ => fun
  | [d] => { results := [.lit (.bool false)], args := [d] }
  | _ => none }
def IdealNobodyWrongFalsely : Prop := idealNobodyRow.holds Try.pinned (OpenSpec.ofChange idealNobodyWrong)

/-- 'annalslaw16.IdealDiffs': WHATEVER THE INPUT: true; the input reads as it did. -/
def idealDiffsSpec : ChangeSpec := { name := "idealDiffs", fn := fun _ => fun
  | [d1, d2, d3, d4] => { results := [.lit (.bool true)], args := [d1, d2, d3, d4] }
  | _ => none }
def idealDiffsRow : OpenClaim := { program := "ytbaikgnddebkjaa", sum := "df17b48c375bdbf9dfa1122fb274495ba6c72136bd3f6dc70d581338f3a57e3b", func := "annals/annalslaw16.IdealDiffs", spec := "idealDiffs", inPlace := ["internal/bytealg.Compare"], unfollowed := true, recurses := true, apart := false }
def IdealDiffsSaid : Prop := idealDiffsRow.holds Try.pinned (OpenSpec.ofChange idealDiffsSpec)

/-- ITS FALSE NEIGHBOUR: 'it returns false'. Refute it at one input. -/
def idealDiffsWrong : ChangeSpec := { name := "idealDiffs", fn := fun _ => fun
  | [d1, d2, d3, d4] => { results := [.lit (.bool false)], args := [d1, d2, d3, d4] }
  | _ => none }
def IdealDiffsWrongFalsely : Prop := idealDiffsRow.holds Try.pinned (OpenSpec.ofChange idealDiffsWrong)

/-- 'annalslaw16.IdealFeeds': WHATEVER THE INPUT: true; the input reads as it did. -/
def idealFeedsSpec : ChangeSpec := { name := "idealFeeds", fn := fun _ => fun
  | [d1, d2, d3] => { results := [.lit (.bool true)], args := [d1, d2, d3] }
  | _ => none }
def idealFeedsRow : OpenClaim := { program := "ytbaikgnddebkjaa", sum := "df17b48c375bdbf9dfa1122fb274495ba6c72136bd3f6dc70d581338f3a57e3b", func := "annals/annalslaw16.IdealFeeds", spec := "idealFeeds", inPlace := ["internal/bytealg.Compare"], unfollowed := true, recurses := true, apart := false }
def IdealFeedsSaid : Prop := idealFeedsRow.holds Try.pinned (OpenSpec.ofChange idealFeedsSpec)

/-- ITS FALSE NEIGHBOUR: 'it returns false'. Refute it at one input. -/
def idealFeedsWrong : ChangeSpec := { name := "idealFeeds", fn := fun _ => fun
  | [d1, d2, d3] => { results := [.lit (.bool false)], args := [d1, d2, d3] }
  | _ => none }
def IdealFeedsWrongFalsely : Prop := idealFeedsRow.holds Try.pinned (OpenSpec.ofChange idealFeedsWrong)

/- THE SECOND FORM. 'bulk': how many values and letters a reading holds, each counted each time it is reached (what is shared counts as often as it is met; a slice's spare places count too). A statement '..UptoSaid' is the law's where the arguments, and the package variables that the reading takes, are together of bulk at most 1048576: NARROWER than '..Said'. Prove '..Said' where nothing that the law and all that it calls make is longer than what came in: it says more and counts as full. Else prove '..UptoSaid'. A law counts once. -/
mutual
def uptoBulk {H : Type} : DataW H → Nat
  | .lit (.string bytes) => bytes.length + 1
  | .lit _ => 1
  | .nil => 1
  | .ptr d => uptoBulk d + 1
  | .slice elems spare => uptoBulkAll elems + uptoBulkAll spare + 1
  | .agg parts => uptoBulkAll parts + 1
  | .iface _ d => uptoBulk d + 1
  | .map entries => uptoBulkEntries entries + 1
  | .held _ => 1
def uptoBulkAll {H : Type} : List (DataW H) → Nat
  | [] => 0
  | d :: r => uptoBulk d + uptoBulkAll r
def uptoBulkEntries {H : Type} : List (Lit × DataW H) → Nat
  | [] => 0
  | x :: r => uptoBulkEntry x + uptoBulkEntries r
def uptoBulkEntry {H : Type} : Lit × DataW H → Nat
  | (.string bytes, d) => bytes.length + uptoBulk d + 1
  | (_, d) => uptoBulk d + 1
 end
def uptoSmall : (H : Type) → List (DataW H) → Bool := fun _ ds => decide (uptoBulkAll ds ≤ 1048576)
def OpenSpec.upto (s : _root_.Go.ChangeSpec) : _root_.Go.OpenSpec := { _root_.Go.OpenSpec.ofChange s with cond := some uptoSmall }

/-- 'annalslaw33.VersionsStays', WHERE WHAT IT READS IS OF BULK AT MOST 1048576: true; the input reads as it did. -/
def versionsStaysUptoRow : OpenClaim := { program := "ytbaikgnddebkjaa", sum := "df17b48c375bdbf9dfa1122fb274495ba6c72136bd3f6dc70d581338f3a57e3b", func := "annals/annalslaw33.VersionsStays", spec := "versionsStays", unfollowed := true, recurses := true, apart := false, narrowed := true }
def VersionsStaysUptoSaid : Prop := versionsStaysUptoRow.holds Try.pinned (OpenSpec.upto versionsStaysSpec)

/-- 'annalslaw33.VersionsNobody', WHERE WHAT IT READS IS OF BULK AT MOST 1048576: true; the input reads as it did. -/
def versionsNobodyUptoRow : OpenClaim := { program := "ytbaikgnddebkjaa", sum := "df17b48c375bdbf9dfa1122fb274495ba6c72136bd3f6dc70d581338f3a57e3b", func := "annals/annalslaw33.VersionsNobody", spec := "versionsNobody", inPlace := ["internal/bytealg.Compare"], unfollowed := true, recurses := true, apart := false, narrowed := true }
def VersionsNobodyUptoSaid : Prop := versionsNobodyUptoRow.holds Try.pinned (OpenSpec.upto versionsNobodySpec)

/-- 'annalslaw33.VersionsLives', WHERE WHAT IT READS IS OF BULK AT MOST 1048576: true; the input reads as it did. -/
def versionsLivesUptoRow : OpenClaim := { program := "ytbaikgnddebkjaa", sum := "df17b48c375bdbf9dfa1122fb274495ba6c72136bd3f6dc70d581338f3a57e3b", func := "annals/annalslaw33.VersionsLives", spec := "versionsLives", inPlace := ["internal/bytealg.Compare"], unfollowed := true, recurses := true, apart := false, narrowed := true }
def VersionsLivesUptoSaid : Prop := versionsLivesUptoRow.holds Try.pinned (OpenSpec.upto versionsLivesSpec)

/-- 'annalslaw33.VersionsWhole', WHERE WHAT IT READS IS OF BULK AT MOST 1048576: true; the input reads as it did. -/
def versionsWholeUptoRow : OpenClaim := { program := "ytbaikgnddebkjaa", sum := "df17b48c375bdbf9dfa1122fb274495ba6c72136bd3f6dc70d581338f3a57e3b", func := "annals/annalslaw33.VersionsWhole", spec := "versionsWhole", inPlace := ["internal/bytealg.Compare"], unfollowed := true, recurses := true, apart := false, narrowed := true }
def VersionsWholeUptoSaid : Prop := versionsWholeUptoRow.holds Try.pinned (OpenSpec.upto versionsWholeSpec)

/-- 'annalslaw16.IdealStays', WHERE WHAT IT READS IS OF BULK AT MOST 1048576: true; the input reads as it did. -/
def idealStaysUptoRow : OpenClaim := { program := "ytbaikgnddebkjaa", sum := "df17b48c375bdbf9dfa1122fb274495ba6c72136bd3f6dc70d581338f3a57e3b", func := "annals/annalslaw16.IdealStays", spec := "idealStays", inPlace := ["internal/bytealg.Compare"], unfollowed := true, recurses := true, apart := false, narrowed := true }
def IdealStaysUptoSaid : Prop := idealStaysUptoRow.holds Try.pinned (OpenSpec.upto idealStaysSpec)

/-- 'annalslaw16.IdealLives', WHERE WHAT IT READS IS OF BULK AT MOST 1048576: true; the input reads as it did. -/
def idealLivesUptoRow : OpenClaim := { program := "ytbaikgnddebkjaa", sum := "df17b48c375bdbf9dfa1122fb274495ba6c72136bd3f6dc70d581338f3a57e3b", func := "annals/annalslaw16.IdealLives", spec := "idealLives", inPlace := ["internal/bytealg.Compare"], unfollowed := true, recurses := true, apart := false, narrowed := true }
def IdealLivesUptoSaid : Prop := idealLivesUptoRow.holds Try.pinned (OpenSpec.upto idealLivesSpec)

/-- 'annalslaw16.IdealNobody', WHERE WHAT IT READS IS OF BULK AT MOST 1048576: true; the input reads as it did. -/
def idealNobodyUptoRow : OpenClaim := { program := "ytbaikgnddebkjaa", sum := "df17b48c375bdbf9dfa1122fb274495ba6c72136bd3f6dc70d581338f3a57e3b", func := "annals/annalslaw16.IdealNobody", spec := "idealNobody", inPlace := ["internal/bytealg.Compare"], unfollowed := true, recurses := true, apart := false, narrowed := true }
def IdealNobodyUptoSaid : Prop := idealNobodyUptoRow.holds Try.pinned (OpenSpec.upto idealNobodySpec)

/-- 'annalslaw16.IdealDiffs', WHERE WHAT IT READS IS OF BULK AT MOST 1048576: true; the input reads as it did. -/
def idealDiffsUptoRow : OpenClaim := { program := "ytbaikgnddebkjaa", sum := "df17b48c375bdbf9dfa1122fb274495ba6c72136bd3f6dc70d581338f3a57e3b", func := "annals/annalslaw16.IdealDiffs", spec := "idealDiffs", inPlace := ["internal/bytealg.Compare"], unfollowed := true, recurses := true, apart := false, narrowed := true }
def IdealDiffsUptoSaid : Prop := idealDiffsUptoRow.holds Try.pinned (OpenSpec.upto idealDiffsSpec)

/-- 'annalslaw16.IdealFeeds', WHERE WHAT IT READS IS OF BULK AT MOST 1048576: true; the input reads as it did. -/
def idealFeedsUptoRow : OpenClaim := { program := "ytbaikgnddebkjaa", sum := "df17b48c375bdbf9dfa1122fb274495ba6c72136bd3f6dc70d581338f3a57e3b", func := "annals/annalslaw16.IdealFeeds", spec := "idealFeeds", inPlace := ["internal/bytealg.Compare"], unfollowed := true, recurses := true, apart := false, narrowed := true }
def IdealFeedsUptoSaid : Prop := idealFeedsUptoRow.holds Try.pinned (OpenSpec.upto idealFeedsSpec)

end Rows
end Go.Proofs.Ytbaikgnddebkjaa
