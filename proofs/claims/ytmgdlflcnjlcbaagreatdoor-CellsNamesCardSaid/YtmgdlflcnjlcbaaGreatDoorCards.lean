/-
  DERIVED. GIVEN WITH THE SEED: THE CARDS: each row of YtmgdlflcnjlcbaaGreatDoorRows.lean that lists a variable, with what it lists TIED to the program's text (the seventh form; the later family's looks); each row that meets fmt, with fmt's text TOLD by the authors' own Lean function (tested against real Go, not proved from fmt's source: count such statements apart). THE CARD IS WHAT COUNTS. Prove the row's statement (the work); the ties are given (YtmgdlflcnjlcbaaGreatDoorTie.lean); close each card by the builder's one call (the guide's Derived/Test/ToyasCard.lean, 'card_holds'). Laid BY PROGRAM, IN A SANDBOX (cutbox-door.mjs). By AI agents, Wed Nov 11 2026. No macro, syntax, notation, axiom, sorry.
-/
import Derived.Test.YtmgdlflcnjlcbaaGreatDoorRows
import GoSem.ClaimSeven
namespace Go.Proofs.YtmgdlflcnjlcbaaGreatDoor
namespace Rows

/-- THE TIED CARD OF 'planispherelaw30.CellsNames'. -/
def cellsNamesCard : Claim7 := { stood := { row := cellsNamesRow, standIns := [], harness := (true, "67d7eaf3f68f6924aed2c876c875cfbef3b4a242c5fbca85d5f2a9c03f583b78"), looks := true }, kinds := [], alts := [], laidByText := true, laidKinds := [.data, .pinned], laidTests := true, laidLooks := .later }
def CellsNamesCardSaid : Prop := Claim7.holds Tryz.pinned (.plain (OpenSpec.ofChange cellsNamesSpec)) cellsNamesCard

/-- THE SECOND FORM's CARD OF 'planispherelaw30.CellsNames'. -/
def cellsNamesUptoCard : Claim7 := { stood := { row := cellsNamesUptoRow, standIns := [], harness := (true, "67d7eaf3f68f6924aed2c876c875cfbef3b4a242c5fbca85d5f2a9c03f583b78"), looks := true }, kinds := [], alts := [], laidByText := true, laidKinds := [.data, .pinned], laidTests := true, laidLooks := .later }
def CellsNamesUptoCardSaid : Prop := Claim7.holds Tryz.pinned (.plain (OpenSpec.upto cellsNamesSpec)) cellsNamesUptoCard
end Rows
end Go.Proofs.YtmgdlflcnjlcbaaGreatDoor
