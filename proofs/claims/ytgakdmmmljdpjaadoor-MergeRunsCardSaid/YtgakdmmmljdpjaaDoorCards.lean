/-
  DERIVED. GIVEN WITH THE SEED: THE CARDS: each row of YtgakdmmmljdpjaaDoorRows.lean that lists a variable, with what it lists TIED to the program's text (the seventh form; the later family's looks); each row that meets fmt, with fmt's text TOLD by the authors' own Lean function (tested against real Go, not proved from fmt's source: count such statements apart). THE CARD IS WHAT COUNTS. Prove the row's statement (the work); the ties are given (YtgakdmmmljdpjaaDoorTie.lean); close each card by the builder's one call (the guide's Derived/Test/ToyasCard.lean, 'card_holds'). Laid BY PROGRAM, IN A SANDBOX (cutbox-door.mjs). By AI agents, Wed Nov 11 2026. No macro, syntax, notation, axiom, sorry.
-/
import Derived.Test.YtgakdmmmljdpjaaDoorRows
import GoSem.ClaimSeven
namespace Go.Proofs.YtgakdmmmljdpjaaDoor
namespace Rows

/-- THE TIED CARD OF 'planispherelaw41.MergeApplies'. -/
def mergeAppliesCard : Claim7 := { stood := { row := mergeAppliesRow, standIns := [], harness := (true, "b28cc4a234fc7c383bd42b9b5f7d4e425b70887cab9b5ce3da3221e733787fae"), looks := true }, kinds := [], alts := [], laidByText := true, laidKinds := [.widerDeep], laidTests := true, laidLooks := .later }
def MergeAppliesCardSaid : Prop := Claim7.holds Tryd.pinned (.plain (OpenSpec.ofChange mergeAppliesSpec)) mergeAppliesCard

/-- THE TIED CARD OF 'planispherelaw41.MergeOrder'. -/
def mergeOrderCard : Claim7 := { stood := { row := mergeOrderRow, standIns := [], harness := (true, "b28cc4a234fc7c383bd42b9b5f7d4e425b70887cab9b5ce3da3221e733787fae"), looks := true }, kinds := [], alts := [], laidByText := true, laidKinds := [.widerDeep], laidTests := true, laidLooks := .later }
def MergeOrderCardSaid : Prop := Claim7.holds Tryd.pinned (.plain (OpenSpec.ofChange mergeOrderSpec)) mergeOrderCard

/-- THE TIED CARD OF 'planispherelaw41.MergeApart'. -/
def mergeApartCard : Claim7 := { stood := { row := mergeApartRow, standIns := [], harness := (true, "b28cc4a234fc7c383bd42b9b5f7d4e425b70887cab9b5ce3da3221e733787fae"), looks := true }, kinds := [], alts := [], laidByText := true, laidKinds := [.widerDeep], laidTests := true, laidLooks := .later }
def MergeApartCardSaid : Prop := Claim7.holds Tryd.pinned (.plain (OpenSpec.ofChange mergeApartSpec)) mergeApartCard

/-- THE TIED CARD OF 'planispherelaw41.MergeUndo'. -/
def mergeUndoCard : Claim7 := { stood := { row := mergeUndoRow, standIns := [], harness := (true, "b28cc4a234fc7c383bd42b9b5f7d4e425b70887cab9b5ce3da3221e733787fae"), looks := true }, kinds := [], alts := [], laidByText := true, laidKinds := [.widerDeep], laidTests := true, laidLooks := .later }
def MergeUndoCardSaid : Prop := Claim7.holds Tryd.pinned (.plain (OpenSpec.ofChange mergeUndoSpec)) mergeUndoCard

/-- THE TIED CARD OF 'planispherelaw41.MergeRuns'. -/
def mergeRunsCard : Claim7 := { stood := { row := mergeRunsRow, standIns := [], harness := (true, "b28cc4a234fc7c383bd42b9b5f7d4e425b70887cab9b5ce3da3221e733787fae"), looks := true }, kinds := [], alts := [], laidByText := true, laidKinds := [.widerDeep], laidTests := true, laidLooks := .later }
def MergeRunsCardSaid : Prop := Claim7.holds Tryd.pinned (.plain (OpenSpec.ofChange mergeRunsSpec)) mergeRunsCard

/-- THE TIED CARD OF 'planispherelaw41.MergeJoined'. -/
def mergeJoinedCard : Claim7 := { stood := { row := mergeJoinedRow, standIns := [], harness := (true, "b28cc4a234fc7c383bd42b9b5f7d4e425b70887cab9b5ce3da3221e733787fae"), looks := true }, kinds := [], alts := [], laidByText := true, laidKinds := [.widerDeep], laidTests := true, laidLooks := .later }
def MergeJoinedCardSaid : Prop := Claim7.holds Tryd.pinned (.plain (OpenSpec.ofChange mergeJoinedSpec)) mergeJoinedCard

/-- THE TIED CARD OF 'planispherelaw41.MergeNames'. -/
def mergeNamesCard : Claim7 := { stood := { row := mergeNamesRow, standIns := [], harness := (true, "b28cc4a234fc7c383bd42b9b5f7d4e425b70887cab9b5ce3da3221e733787fae"), looks := true }, kinds := [], alts := [], laidByText := true, laidKinds := [.widerDeep], laidTests := true, laidLooks := .later }
def MergeNamesCardSaid : Prop := Claim7.holds Tryd.pinned (.plain (OpenSpec.ofChange mergeNamesSpec)) mergeNamesCard

/-- THE SECOND FORM's CARD OF 'planispherelaw41.MergeApplies'. -/
def mergeAppliesUptoCard : Claim7 := { stood := { row := mergeAppliesUptoRow, standIns := [], harness := (true, "b28cc4a234fc7c383bd42b9b5f7d4e425b70887cab9b5ce3da3221e733787fae"), looks := true }, kinds := [], alts := [], laidByText := true, laidKinds := [.widerDeep], laidTests := true, laidLooks := .later }
def MergeAppliesUptoCardSaid : Prop := Claim7.holds Tryd.pinned (.plain (OpenSpec.upto mergeAppliesSpec)) mergeAppliesUptoCard

/-- THE SECOND FORM's CARD OF 'planispherelaw41.MergeOrder'. -/
def mergeOrderUptoCard : Claim7 := { stood := { row := mergeOrderUptoRow, standIns := [], harness := (true, "b28cc4a234fc7c383bd42b9b5f7d4e425b70887cab9b5ce3da3221e733787fae"), looks := true }, kinds := [], alts := [], laidByText := true, laidKinds := [.widerDeep], laidTests := true, laidLooks := .later }
def MergeOrderUptoCardSaid : Prop := Claim7.holds Tryd.pinned (.plain (OpenSpec.upto mergeOrderSpec)) mergeOrderUptoCard

/-- THE SECOND FORM's CARD OF 'planispherelaw41.MergeApart'. -/
def mergeApartUptoCard : Claim7 := { stood := { row := mergeApartUptoRow, standIns := [], harness := (true, "b28cc4a234fc7c383bd42b9b5f7d4e425b70887cab9b5ce3da3221e733787fae"), looks := true }, kinds := [], alts := [], laidByText := true, laidKinds := [.widerDeep], laidTests := true, laidLooks := .later }
def MergeApartUptoCardSaid : Prop := Claim7.holds Tryd.pinned (.plain (OpenSpec.upto mergeApartSpec)) mergeApartUptoCard

/-- THE SECOND FORM's CARD OF 'planispherelaw41.MergeUndo'. -/
def mergeUndoUptoCard : Claim7 := { stood := { row := mergeUndoUptoRow, standIns := [], harness := (true, "b28cc4a234fc7c383bd42b9b5f7d4e425b70887cab9b5ce3da3221e733787fae"), looks := true }, kinds := [], alts := [], laidByText := true, laidKinds := [.widerDeep], laidTests := true, laidLooks := .later }
def MergeUndoUptoCardSaid : Prop := Claim7.holds Tryd.pinned (.plain (OpenSpec.upto mergeUndoSpec)) mergeUndoUptoCard

/-- THE SECOND FORM's CARD OF 'planispherelaw41.MergeRuns'. -/
def mergeRunsUptoCard : Claim7 := { stood := { row := mergeRunsUptoRow, standIns := [], harness := (true, "b28cc4a234fc7c383bd42b9b5f7d4e425b70887cab9b5ce3da3221e733787fae"), looks := true }, kinds := [], alts := [], laidByText := true, laidKinds := [.widerDeep], laidTests := true, laidLooks := .later }
def MergeRunsUptoCardSaid : Prop := Claim7.holds Tryd.pinned (.plain (OpenSpec.upto mergeRunsSpec)) mergeRunsUptoCard

/-- THE SECOND FORM's CARD OF 'planispherelaw41.MergeJoined'. -/
def mergeJoinedUptoCard : Claim7 := { stood := { row := mergeJoinedUptoRow, standIns := [], harness := (true, "b28cc4a234fc7c383bd42b9b5f7d4e425b70887cab9b5ce3da3221e733787fae"), looks := true }, kinds := [], alts := [], laidByText := true, laidKinds := [.widerDeep], laidTests := true, laidLooks := .later }
def MergeJoinedUptoCardSaid : Prop := Claim7.holds Tryd.pinned (.plain (OpenSpec.upto mergeJoinedSpec)) mergeJoinedUptoCard

/-- THE SECOND FORM's CARD OF 'planispherelaw41.MergeNames'. -/
def mergeNamesUptoCard : Claim7 := { stood := { row := mergeNamesUptoRow, standIns := [], harness := (true, "b28cc4a234fc7c383bd42b9b5f7d4e425b70887cab9b5ce3da3221e733787fae"), looks := true }, kinds := [], alts := [], laidByText := true, laidKinds := [.widerDeep], laidTests := true, laidLooks := .later }
def MergeNamesUptoCardSaid : Prop := Claim7.holds Tryd.pinned (.plain (OpenSpec.upto mergeNamesSpec)) mergeNamesUptoCard
end Rows
end Go.Proofs.YtgakdmmmljdpjaaDoor
