/-
  DERIVED. GIVEN WITH THE SEED: THE CARDS: each row of YtkifgpomablpiaaGreatDoorRows.lean that lists a variable, with what it lists TIED to the program's text (the seventh form; the later family's looks); each row that meets fmt, with fmt's text TOLD by the authors' own Lean function (tested against real Go, not proved from fmt's source: count such statements apart). THE CARD IS WHAT COUNTS. Prove the row's statement (the work); the ties are given (YtkifgpomablpiaaGreatDoorTie.lean); close each card by the builder's one call (the guide's Derived/Test/ToyasCard.lean, 'card_holds'). Laid BY PROGRAM, IN A SANDBOX (cutbox-door.mjs). By AI agents, Wed Nov 11 2026. No macro, syntax, notation, axiom, sorry.
-/
import Derived.Test.YtkifgpomablpiaaGreatDoorRows
import GoSem.ClaimSeven
namespace Go.Proofs.YtkifgpomablpiaaGreatDoor
namespace Rows

/-- THE TIED CARD OF 'annalslaw17.PathOne'. -/
def pathOneCard : Claim7 := { stood := { row := pathOneRow, standIns := [], harness := (true, "9ce2265b8ffe1bccd6196fbc0d7c48a9365779d181a4e45f25927296a92c0545"), looks := true }, kinds := [], alts := [], laidByText := true, laidKinds := [.data, .data], laidTests := true, laidLooks := .later }
def PathOneCardSaid : Prop := Claim7.holds Tryz.pinned (.plain (OpenSpec.ofChange pathOneSpec)) pathOneCard

/-- THE TIED CARD OF 'annalslaw17.PathProves'. -/
def pathProvesCard : Claim7 := { stood := { row := pathProvesRow, standIns := [], harness := (true, "9ce2265b8ffe1bccd6196fbc0d7c48a9365779d181a4e45f25927296a92c0545"), looks := true }, kinds := [], alts := [], laidByText := true, laidKinds := [.data, .data], laidTests := true, laidLooks := .later }
def PathProvesCardSaid : Prop := Claim7.holds Tryz.pinned (.plain (OpenSpec.ofChange pathProvesSpec)) pathProvesCard

/-- THE TIED CARD OF 'annalslaw18.SpanProves'. -/
def spanProvesCard : Claim7 := { stood := { row := spanProvesRow, standIns := [], harness := (true, "9ce2265b8ffe1bccd6196fbc0d7c48a9365779d181a4e45f25927296a92c0545"), looks := true }, kinds := [], alts := [], laidByText := true, laidKinds := [.data, .data], laidTests := true, laidLooks := .later }
def SpanProvesCardSaid : Prop := Claim7.holds Tryz.pinned (.plain (OpenSpec.ofChange spanProvesSpec)) spanProvesCard

/-- THE TIED CARD OF 'annalslaw18.SpanOne'. -/
def spanOneCard : Claim7 := { stood := { row := spanOneRow, standIns := [], harness := (true, "9ce2265b8ffe1bccd6196fbc0d7c48a9365779d181a4e45f25927296a92c0545"), looks := true }, kinds := [], alts := [], laidByText := true, laidKinds := [.data, .data], laidTests := true, laidLooks := .later }
def SpanOneCardSaid : Prop := Claim7.holds Tryz.pinned (.plain (OpenSpec.ofChange spanOneSpec)) spanOneCard

/-- THE SECOND FORM's CARD OF 'annalslaw17.PathOne'. -/
def pathOneUptoCard : Claim7 := { stood := { row := pathOneUptoRow, standIns := [], harness := (true, "9ce2265b8ffe1bccd6196fbc0d7c48a9365779d181a4e45f25927296a92c0545"), looks := true }, kinds := [], alts := [], laidByText := true, laidKinds := [.data, .data], laidTests := true, laidLooks := .later }
def PathOneUptoCardSaid : Prop := Claim7.holds Tryz.pinned (.plain (OpenSpec.upto pathOneSpec)) pathOneUptoCard

/-- THE SECOND FORM's CARD OF 'annalslaw17.PathProves'. -/
def pathProvesUptoCard : Claim7 := { stood := { row := pathProvesUptoRow, standIns := [], harness := (true, "9ce2265b8ffe1bccd6196fbc0d7c48a9365779d181a4e45f25927296a92c0545"), looks := true }, kinds := [], alts := [], laidByText := true, laidKinds := [.data, .data], laidTests := true, laidLooks := .later }
def PathProvesUptoCardSaid : Prop := Claim7.holds Tryz.pinned (.plain (OpenSpec.upto pathProvesSpec)) pathProvesUptoCard

/-- THE SECOND FORM's CARD OF 'annalslaw18.SpanProves'. -/
def spanProvesUptoCard : Claim7 := { stood := { row := spanProvesUptoRow, standIns := [], harness := (true, "9ce2265b8ffe1bccd6196fbc0d7c48a9365779d181a4e45f25927296a92c0545"), looks := true }, kinds := [], alts := [], laidByText := true, laidKinds := [.data, .data], laidTests := true, laidLooks := .later }
def SpanProvesUptoCardSaid : Prop := Claim7.holds Tryz.pinned (.plain (OpenSpec.upto spanProvesSpec)) spanProvesUptoCard

/-- THE SECOND FORM's CARD OF 'annalslaw18.SpanOne'. -/
def spanOneUptoCard : Claim7 := { stood := { row := spanOneUptoRow, standIns := [], harness := (true, "9ce2265b8ffe1bccd6196fbc0d7c48a9365779d181a4e45f25927296a92c0545"), looks := true }, kinds := [], alts := [], laidByText := true, laidKinds := [.data, .data], laidTests := true, laidLooks := .later }
def SpanOneUptoCardSaid : Prop := Claim7.holds Tryz.pinned (.plain (OpenSpec.upto spanOneSpec)) spanOneUptoCard
end Rows
end Go.Proofs.YtkifgpomablpiaaGreatDoor
