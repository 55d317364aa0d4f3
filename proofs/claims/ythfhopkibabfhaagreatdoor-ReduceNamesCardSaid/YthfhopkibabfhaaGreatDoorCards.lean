/-
  DERIVED. GIVEN WITH THE SEED: THE CARDS: each row of YthfhopkibabfhaaGreatDoorRows.lean that lists a variable, with what it lists TIED to the program's text (the seventh form; the later family's looks); each row that meets fmt, with fmt's text TOLD by the authors' own Lean function (tested against real Go, not proved from fmt's source: count such statements apart). THE CARD IS WHAT COUNTS. Prove the row's statement (the work); the ties are given (YthfhopkibabfhaaGreatDoorTie.lean); close each card by the builder's one call (the guide's Derived/Test/ToyasCard.lean, 'card_holds'). Laid BY PROGRAM, IN A SANDBOX (cutbox-door.mjs). By AI agents, Wed Nov 11 2026. No macro, syntax, notation, axiom, sorry.
-/
import Derived.Test.YthfhopkibabfhaaGreatDoorRows
import GoSem.ClaimSeven
namespace Go.Proofs.YthfhopkibabfhaaGreatDoor
namespace Rows

/-- THE TIED CARD OF 'planispherelaw25.ReduceNames'. -/
def reduceNamesCard : Claim7 := { stood := { row := reduceNamesRow, standIns := [], harness := (true, "19ace14d68cf7eb09bbfc35c74f82a37d42c1d3774c395d34f0e85174b73f26d"), looks := true }, kinds := [], alts := [], laidByText := true, laidKinds := [.data, .data, .data, .data], laidTests := true, laidLooks := .later }
def ReduceNamesCardSaid : Prop := Claim7.holds Tryz.pinned (.plain (OpenSpec.ofChange reduceNamesSpec)) reduceNamesCard

/-- THE SECOND FORM's CARD OF 'planispherelaw25.ReduceNames'. -/
def reduceNamesUptoCard : Claim7 := { stood := { row := reduceNamesUptoRow, standIns := [], harness := (true, "19ace14d68cf7eb09bbfc35c74f82a37d42c1d3774c395d34f0e85174b73f26d"), looks := true }, kinds := [], alts := [], laidByText := true, laidKinds := [.data, .data, .data, .data], laidTests := true, laidLooks := .later }
def ReduceNamesUptoCardSaid : Prop := Claim7.holds Tryz.pinned (.plain (OpenSpec.upto reduceNamesSpec)) reduceNamesUptoCard
end Rows
end Go.Proofs.YthfhopkibabfhaaGreatDoor
