/-
  DERIVED. GIVEN WITH THE SEED: THE CARDS: each row of YtlobmpkfdnifpaaDoorRows.lean that lists a variable, with what it lists TIED to the program's text (the seventh form; the later family's looks); each row that meets fmt, with fmt's text TOLD by the authors' own Lean function (tested against real Go, not proved from fmt's source: count such statements apart). THE CARD IS WHAT COUNTS. Prove the row's statement (the work); the ties are given (YtlobmpkfdnifpaaDoorTie.lean); close each card by the builder's one call (the guide's Derived/Test/ToyasCard.lean, 'card_holds'). Laid BY PROGRAM, IN A SANDBOX (cutbox-door.mjs). By AI agents, Wed Nov 11 2026. No macro, syntax, notation, axiom, sorry.
-/
import Derived.Test.YtlobmpkfdnifpaaDoorRows
import GoSem.ClaimSeven
namespace Go.Proofs.YtlobmpkfdnifpaaDoor
namespace Rows

/-- THE TIED CARD OF 'annalslaw26.TellReplies'. -/
def tellRepliesCard : Claim7 := { stood := { row := tellRepliesRow, standIns := [], harness := (true, "4c85ef84b4bc21430d342c2088fea8f0dc48eee5c6e804bc6fced71a5e98d60a"), looks := false }, kinds := [], alts := [], laidByText := true, laidKinds := [.data, .data], laidTests := true, laidLooks := .later }
def TellRepliesCardSaid : Prop := Claim7.holds Tryd.pinned (.plain (OpenSpec.ofChange tellRepliesSpec)) tellRepliesCard

/-- THE SECOND FORM's CARD OF 'annalslaw26.TellReplies'. -/
def tellRepliesUptoCard : Claim7 := { stood := { row := tellRepliesUptoRow, standIns := [], harness := (true, "4c85ef84b4bc21430d342c2088fea8f0dc48eee5c6e804bc6fced71a5e98d60a"), looks := false }, kinds := [], alts := [], laidByText := true, laidKinds := [.data, .data], laidTests := true, laidLooks := .later }
def TellRepliesUptoCardSaid : Prop := Claim7.holds Tryd.pinned (.plain (OpenSpec.upto tellRepliesSpec)) tellRepliesUptoCard
end Rows
end Go.Proofs.YtlobmpkfdnifpaaDoor
