/-
  DERIVED. GIVEN WITH THE SEED: THE CARDS: each row of YtghaibhkgbccjaaGreatDoorRows.lean that lists a variable, with what it lists TIED to the program's text (the seventh form; the later family's looks); each row that meets fmt, with fmt's text TOLD by the authors' own Lean function (tested against real Go, not proved from fmt's source: count such statements apart). THE CARD IS WHAT COUNTS. Prove the row's statement (the work); the ties are given (YtghaibhkgbccjaaGreatDoorTie.lean); close each card by the builder's one call (the guide's Derived/Test/ToyasCard.lean, 'card_holds'). Laid BY PROGRAM, IN A SANDBOX (cutbox-door.mjs). By AI agents, Wed Nov 11 2026. No macro, syntax, notation, axiom, sorry.
-/
import Derived.Test.YtghaibhkgbccjaaGreatDoorRows
import GoSem.ClaimSeven
namespace Go.Proofs.YtghaibhkgbccjaaGreatDoor
namespace Rows

/-- THE TIED CARD OF 'abacistlaw41.HistoryNil'. -/
def historyNilCard : Claim7 := { stood := { row := historyNilRow, standIns := [], harness := (true, "c66a6f975fc8fd56ea9e933c102075f55e1e4817d7e797f501978924a1f0b130"), looks := false }, kinds := [], alts := [], laidByText := true, laidKinds := [.data, .data, .data, .data, .pinned], laidTests := true, laidLooks := .later }
def HistoryNilCardSaid : Prop := Claim7.holds Tryz.pinned (.plain (OpenSpec.ofChange historyNilSpec)) historyNilCard

/-- THE SECOND FORM's CARD OF 'abacistlaw41.HistoryNil'. -/
def historyNilUptoCard : Claim7 := { stood := { row := historyNilUptoRow, standIns := [], harness := (true, "c66a6f975fc8fd56ea9e933c102075f55e1e4817d7e797f501978924a1f0b130"), looks := false }, kinds := [], alts := [], laidByText := true, laidKinds := [.data, .data, .data, .data, .pinned], laidTests := true, laidLooks := .later }
def HistoryNilUptoCardSaid : Prop := Claim7.holds Tryz.pinned (.plain (OpenSpec.upto historyNilSpec)) historyNilUptoCard
end Rows
end Go.Proofs.YtghaibhkgbccjaaGreatDoor
