/-
  DERIVED. GIVEN WITH THE SEED: THE CARDS: each row of YthbmhdlbphkljaaGreatDoorRows.lean that lists a variable, with what it lists TIED to the program's text (the seventh form; the later family's looks); each row that meets fmt, with fmt's text TOLD by the authors' own Lean function (tested against real Go, not proved from fmt's source: count such statements apart). THE CARD IS WHAT COUNTS. Prove the row's statement (the work); the ties are given (YthbmhdlbphkljaaGreatDoorTie.lean); close each card by the builder's one call (the guide's Derived/Test/ToyasCard.lean, 'card_holds'). Laid BY PROGRAM, IN A SANDBOX (cutbox-door.mjs). By AI agents, Wed Nov 11 2026. No macro, syntax, notation, axiom, sorry.
-/
import Derived.Test.YthbmhdlbphkljaaGreatDoorRows
import GoSem.ClaimSeven
namespace Go.Proofs.YthbmhdlbphkljaaGreatDoor
namespace Rows

/-- THE TIED CARD OF 'abacistlaw25.GridEntries'. -/
def gridEntriesCard : Claim7 := { stood := { row := gridEntriesRow, standIns := [], harness := (true, "b2a60c287e48e267b894b863aef7fda1adac92383c7fa7a5b0fab315d4dadef4"), looks := false }, kinds := [], alts := [], laidByText := true, laidKinds := [.data, .data, .data, .data, .pinned], laidTests := true, laidLooks := .later }
def GridEntriesCardSaid : Prop := Claim7.holds Tryz.pinned (.plain (OpenSpec.ofChange gridEntriesSpec)) gridEntriesCard

/-- THE TIED CARD OF 'abacistlaw25.GridOrders'. -/
def gridOrdersCard : Claim7 := { stood := { row := gridOrdersRow, standIns := [], harness := (true, "b2a60c287e48e267b894b863aef7fda1adac92383c7fa7a5b0fab315d4dadef4"), looks := false }, kinds := [], alts := [], laidByText := true, laidKinds := [.data, .data, .data, .data, .pinned], laidTests := true, laidLooks := .later }
def GridOrdersCardSaid : Prop := Claim7.holds Tryz.pinned (.plain (OpenSpec.ofChange gridOrdersSpec)) gridOrdersCard

/-- THE SECOND FORM's CARD OF 'abacistlaw25.GridEntries'. -/
def gridEntriesUptoCard : Claim7 := { stood := { row := gridEntriesUptoRow, standIns := [], harness := (true, "b2a60c287e48e267b894b863aef7fda1adac92383c7fa7a5b0fab315d4dadef4"), looks := false }, kinds := [], alts := [], laidByText := true, laidKinds := [.data, .data, .data, .data, .pinned], laidTests := true, laidLooks := .later }
def GridEntriesUptoCardSaid : Prop := Claim7.holds Tryz.pinned (.plain (OpenSpec.upto gridEntriesSpec)) gridEntriesUptoCard

/-- THE SECOND FORM's CARD OF 'abacistlaw25.GridOrders'. -/
def gridOrdersUptoCard : Claim7 := { stood := { row := gridOrdersUptoRow, standIns := [], harness := (true, "b2a60c287e48e267b894b863aef7fda1adac92383c7fa7a5b0fab315d4dadef4"), looks := false }, kinds := [], alts := [], laidByText := true, laidKinds := [.data, .data, .data, .data, .pinned], laidTests := true, laidLooks := .later }
def GridOrdersUptoCardSaid : Prop := Claim7.holds Tryz.pinned (.plain (OpenSpec.upto gridOrdersSpec)) gridOrdersUptoCard
end Rows
end Go.Proofs.YthbmhdlbphkljaaGreatDoor
