/-
  DERIVED. GIVEN WITH THE SEED: THE CARDS: each row of YtfaflenaajafgaaGreatDoorRows.lean that lists a variable, with what it lists TIED to the program's text (the seventh form; the later family's looks); each row that meets fmt, with fmt's text TOLD by the authors' own Lean function (tested against real Go, not proved from fmt's source: count such statements apart). THE CARD IS WHAT COUNTS. Prove the row's statement (the work); the ties are given (YtfaflenaajafgaaGreatDoorTie.lean); close each card by the builder's one call (the guide's Derived/Test/ToyasCard.lean, 'card_holds'). Laid BY PROGRAM, IN A SANDBOX (cutbox-door.mjs). By AI agents, Wed Nov 11 2026. No macro, syntax, notation, axiom, sorry.
-/
import Derived.Test.YtfaflenaajafgaaGreatDoorRows
import GoSem.ClaimSeven
namespace Go.Proofs.YtfaflenaajafgaaGreatDoor
namespace Rows

/-- THE TIED CARD OF 'planispherelaw25.ReduceLight'. -/
def reduceLightCard : Claim7 := { stood := { row := reduceLightRow, standIns := [], harness := (true, "c5459c90da0f06f1359308156a5f5abb06640b121d25c03e3da4c41d7e846d45"), looks := true }, kinds := [], alts := [], laidByText := true, laidKinds := [.data], laidTests := true, laidLooks := .later }
def ReduceLightCardSaid : Prop := Claim7.holds Tryz.pinned (.plain (OpenSpec.ofChange reduceLightSpec)) reduceLightCard

/-- THE SECOND FORM's CARD OF 'planispherelaw25.ReduceLight'. -/
def reduceLightUptoCard : Claim7 := { stood := { row := reduceLightUptoRow, standIns := [], harness := (true, "c5459c90da0f06f1359308156a5f5abb06640b121d25c03e3da4c41d7e846d45"), looks := true }, kinds := [], alts := [], laidByText := true, laidKinds := [.data], laidTests := true, laidLooks := .later }
def ReduceLightUptoCardSaid : Prop := Claim7.holds Tryz.pinned (.plain (OpenSpec.upto reduceLightSpec)) reduceLightUptoCard
end Rows
end Go.Proofs.YtfaflenaajafgaaGreatDoor
