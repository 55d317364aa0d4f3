/-
  DERIVED. GIVEN WITH THE SEED: THE CARDS: each row of YtnabkmkkmkbkfaaGreatDoorRows.lean that lists a variable, with what it lists TIED to the program's text (the seventh form; the later family's looks); each row that meets fmt, with fmt's text TOLD by the authors' own Lean function (tested against real Go, not proved from fmt's source: count such statements apart). THE CARD IS WHAT COUNTS. Prove the row's statement (the work); the ties are given (YtnabkmkkmkbkfaaGreatDoorTie.lean); close each card by the builder's one call (the guide's Derived/Test/ToyasCard.lean, 'card_holds'). Laid BY PROGRAM, IN A SANDBOX (cutbox-door.mjs). By AI agents, Wed Nov 11 2026. No macro, syntax, notation, axiom, sorry.
-/
import Derived.Test.YtnabkmkkmkbkfaaGreatDoorRows
import GoSem.ClaimSeven
namespace Go.Proofs.YtnabkmkkmkbkfaaGreatDoor
namespace Rows

/-- THE TIED CARD OF 'planispherelaw24.SiteNames'. -/
def siteNamesCard : Claim7 := { stood := { row := siteNamesRow, standIns := [], harness := (true, "d2978409887439d2407963003fbdab781707e60b282c74349711f0e48f6ecf9f"), looks := true }, kinds := [], alts := [], laidByText := true, laidKinds := [.data, .pinned], laidTests := true, laidLooks := .later }
def SiteNamesCardSaid : Prop := Claim7.holds Tryz.pinned (.plain (OpenSpec.ofChange siteNamesSpec)) siteNamesCard

/-- THE SECOND FORM's CARD OF 'planispherelaw24.SiteNames'. -/
def siteNamesUptoCard : Claim7 := { stood := { row := siteNamesUptoRow, standIns := [], harness := (true, "d2978409887439d2407963003fbdab781707e60b282c74349711f0e48f6ecf9f"), looks := true }, kinds := [], alts := [], laidByText := true, laidKinds := [.data, .pinned], laidTests := true, laidLooks := .later }
def SiteNamesUptoCardSaid : Prop := Claim7.holds Tryz.pinned (.plain (OpenSpec.upto siteNamesSpec)) siteNamesUptoCard
end Rows
end Go.Proofs.YtnabkmkkmkbkfaaGreatDoor
