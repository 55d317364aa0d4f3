/-
  NARROWER THAN 'FOR EVERY INPUT', by the rows' own cells (each row's printed sentence says how): MergeApplies: laid · MergeOrder: laid · MergeApart: laid · MergeUndo: laid · MergeRuns: laid · MergeJoined: laid · MergeNames: laid.
  DERIVED. THE GIVEN ROWS OF THIS SEAT. 7 by the template 'for every input the law returns true; each argument reads behind the call as it read before'; 0 by the template 'total and deterministic' (their statements: YtgakdmmmljdpjaaDoorTotals.lean).
  GIVEN WITH THE SEED: the statements are not yours to turn. If you find one false, say at which input.
  Laid BY PROGRAM, IN A SANDBOX (cutbox-rows.mjs): the forced cells as the released guide's own fill.sh prints them over the translation 01e783a38d576b2c… (all of the seat's roots in one cut). By AI agents, Wed Nov 11 2026. No macro, syntax, notation, axiom, sorry.
-/
import Derived.Test.YtgakdmmmljdpjaaDoorChecked
import GoSem.Claim
import GoSem.ClaimJoined
import GoSem.ClaimMapViews
import Derived.JoinedTies
import Derived.KernelRfl
namespace Go.Proofs.YtgakdmmmljdpjaaDoor
/- THE CELL 'sum', in the pinned program and in every row, IS THE sha256 OF THE DUMP (.gsa) THAT YtgakdmmmljdpjaaDoorProg.lean LOADS. Nothing in Lean hashes anything: it is a label: what it is worth is what the hold of that sum in a sandbox is worth. -/
noncomputable def Tryd.pinned : Pinned := { name := "ytgakdmmmljdpjaadoor", sum := "01e783a38d576b2caf4644913adc5df416198da439e4d80dbd2c98ef3ac902cf", checked := Tryd.checked }
namespace Rows
def none {H : Type} : Left H := { results := [], args := [] }

/- WHAT THE LISTED PACKAGE-LEVEL VARIABLES READ AS WHEN THE CALL BEGINS. Each datum BY PROGRAM (the guide's laid-datum.mjs) off the statement by which the dump's own 'gosem.cut.vars' lays the variable. In a bare row this is a premise. The card (YtgakdmmmljdpjaaDoorCards.lean) ties it to the program's text. -/
def laid_planisphere_desig_orders {H : Type} : DataW H := .agg [.lit (.int .i32 65), .lit (.int .i32 66), .lit (.int .i32 67), .lit (.int .i32 68), .lit (.int .i32 69), .lit (.int .i32 70), .lit (.int .i32 71), .lit (.int .i32 72), .lit (.int .i32 74), .lit (.int .i32 75), .lit (.int .i32 76), .lit (.int .i32 77), .lit (.int .i32 78), .lit (.int .i32 79), .lit (.int .i32 80), .lit (.int .i32 81), .lit (.int .i32 82), .lit (.int .i32 83), .lit (.int .i32 84), .lit (.int .i32 85), .lit (.int .i32 86), .lit (.int .i32 87), .lit (.int .i32 88), .lit (.int .i32 89), .lit (.int .i32 90)]

/-- 'planispherelaw41.MergeApplies': WHATEVER THE INPUT: true; the input reads as it did. -/
def mergeAppliesSpec : ChangeSpec := { name := "mergeApplies", fn := fun _ => fun
  | [d1, d2] => { results := [.lit (.bool true)], args := [d1, d2] }
  | _ => none }
def mergeAppliesRow : OpenClaim := { program := "ytgakdmmmljdpjaadoor", sum := "01e783a38d576b2caf4644913adc5df416198da439e4d80dbd2c98ef3ac902cf", func := "planisphere/planispherelaw41.MergeApplies", spec := "mergeApplies", unfollowed := true, recurses := true, named := ["planisphere/desig.orders"], plainKeys := false, apart := false, laid := [("planisphere/desig.orders", laid_planisphere_desig_orders)] }
def MergeAppliesSaid : Prop := mergeAppliesRow.holds Tryd.pinned (OpenSpec.ofChange mergeAppliesSpec)

/-- ITS FALSE NEIGHBOUR: 'it returns false'. Refute it at one input. -/
def mergeAppliesWrong : ChangeSpec := { name := "mergeApplies", fn := fun _ => fun
  | [d1, d2] => { results := [.lit (.bool false)], args := [d1, d2] }
  | _ => none }
def MergeAppliesWrongFalsely : Prop := mergeAppliesRow.holds Tryd.pinned (OpenSpec.ofChange mergeAppliesWrong)

/-- 'planispherelaw41.MergeOrder': WHATEVER THE INPUT: true; the input reads as it did. -/
def mergeOrderSpec : ChangeSpec := { name := "mergeOrder", fn := fun _ => fun
  | [d1, d2] => { results := [.lit (.bool true)], args := [d1, d2] }
  | _ => none }
def mergeOrderRow : OpenClaim := { program := "ytgakdmmmljdpjaadoor", sum := "01e783a38d576b2caf4644913adc5df416198da439e4d80dbd2c98ef3ac902cf", func := "planisphere/planispherelaw41.MergeOrder", spec := "mergeOrder", unfollowed := true, recurses := true, named := ["planisphere/desig.orders"], plainKeys := false, apart := false, laid := [("planisphere/desig.orders", laid_planisphere_desig_orders)] }
def MergeOrderSaid : Prop := mergeOrderRow.holds Tryd.pinned (OpenSpec.ofChange mergeOrderSpec)

/-- ITS FALSE NEIGHBOUR: 'it returns false'. Refute it at one input. -/
def mergeOrderWrong : ChangeSpec := { name := "mergeOrder", fn := fun _ => fun
  | [d1, d2] => { results := [.lit (.bool false)], args := [d1, d2] }
  | _ => none }
def MergeOrderWrongFalsely : Prop := mergeOrderRow.holds Tryd.pinned (OpenSpec.ofChange mergeOrderWrong)

/-- 'planispherelaw41.MergeApart': WHATEVER THE INPUT: true; the input reads as it did. -/
def mergeApartSpec : ChangeSpec := { name := "mergeApart", fn := fun _ => fun
  | [d] => { results := [.lit (.bool true)], args := [d] }
  | _ => none }
def mergeApartRow : OpenClaim := { program := "ytgakdmmmljdpjaadoor", sum := "01e783a38d576b2caf4644913adc5df416198da439e4d80dbd2c98ef3ac902cf", func := "planisphere/planispherelaw41.MergeApart", spec := "mergeApart", unfollowed := true, recurses := true, named := ["planisphere/desig.orders"], plainKeys := false, apart := false, laid := [("planisphere/desig.orders", laid_planisphere_desig_orders)] }
def MergeApartSaid : Prop := mergeApartRow.holds Tryd.pinned (OpenSpec.ofChange mergeApartSpec)

/-- ITS FALSE NEIGHBOUR: 'it returns false'. Refute it at one input. -/
def mergeApartWrong : ChangeSpec := { name := "mergeApart", fn := fun _ => fun
  | [d] => { results := [.lit (.bool false)], args := [d] }
  | _ => none }
def MergeApartWrongFalsely : Prop := mergeApartRow.holds Tryd.pinned (OpenSpec.ofChange mergeApartWrong)

/-- 'planispherelaw41.MergeUndo': WHATEVER THE INPUT: true; the input reads as it did. -/
def mergeUndoSpec : ChangeSpec := { name := "mergeUndo", fn := fun _ => fun
  | [d1, d2] => { results := [.lit (.bool true)], args := [d1, d2] }
  | _ => none }
def mergeUndoRow : OpenClaim := { program := "ytgakdmmmljdpjaadoor", sum := "01e783a38d576b2caf4644913adc5df416198da439e4d80dbd2c98ef3ac902cf", func := "planisphere/planispherelaw41.MergeUndo", spec := "mergeUndo", unfollowed := true, recurses := true, named := ["planisphere/desig.orders"], plainKeys := false, apart := false, laid := [("planisphere/desig.orders", laid_planisphere_desig_orders)] }
def MergeUndoSaid : Prop := mergeUndoRow.holds Tryd.pinned (OpenSpec.ofChange mergeUndoSpec)

/-- ITS FALSE NEIGHBOUR: 'it returns false'. Refute it at one input. -/
def mergeUndoWrong : ChangeSpec := { name := "mergeUndo", fn := fun _ => fun
  | [d1, d2] => { results := [.lit (.bool false)], args := [d1, d2] }
  | _ => none }
def MergeUndoWrongFalsely : Prop := mergeUndoRow.holds Tryd.pinned (OpenSpec.ofChange mergeUndoWrong)

/-- 'planispherelaw41.MergeRuns': WHATEVER THE INPUT: true; the input reads as it did. -/
def mergeRunsSpec : ChangeSpec := { name := "mergeRuns", fn := fun _ => fun
  | [d1, d2] => { results := [.lit (.bool true)], args := [d1, d2] }
  | _ => none }
def mergeRunsRow : OpenClaim := { program := "ytgakdmmmljdpjaadoor", sum := "01e783a38d576b2caf4644913adc5df416198da439e4d80dbd2c98ef3ac902cf", func := "planisphere/planispherelaw41.MergeRuns", spec := "mergeRuns", unfollowed := true, recurses := true, named := ["planisphere/desig.orders"], plainKeys := false, apart := false, laid := [("planisphere/desig.orders", laid_planisphere_desig_orders)] }
def MergeRunsSaid : Prop := mergeRunsRow.holds Tryd.pinned (OpenSpec.ofChange mergeRunsSpec)

/-- ITS FALSE NEIGHBOUR: 'it returns false'. Refute it at one input. -/
def mergeRunsWrong : ChangeSpec := { name := "mergeRuns", fn := fun _ => fun
  | [d1, d2] => { results := [.lit (.bool false)], args := [d1, d2] }
  | _ => none }
def MergeRunsWrongFalsely : Prop := mergeRunsRow.holds Tryd.pinned (OpenSpec.ofChange mergeRunsWrong)

/-- 'planispherelaw41.MergeJoined': WHATEVER THE INPUT: true; the input reads as it did. -/
def mergeJoinedSpec : ChangeSpec := { name := "mergeJoined", fn := fun _ => fun
  | [d1, d2, d3] => { results := [.lit (.bool true)], args := [d1, d2, d3] }
  | _ => none }
def mergeJoinedRow : OpenClaim := { program := "ytgakdmmmljdpjaadoor", sum := "01e783a38d576b2caf4644913adc5df416198da439e4d80dbd2c98ef3ac902cf", func := "planisphere/planispherelaw41.MergeJoined", spec := "mergeJoined", unfollowed := true, recurses := true, named := ["planisphere/desig.orders"], plainKeys := false, apart := false, laid := [("planisphere/desig.orders", laid_planisphere_desig_orders)] }
def MergeJoinedSaid : Prop := mergeJoinedRow.holds Tryd.pinned (OpenSpec.ofChange mergeJoinedSpec)

/-- ITS FALSE NEIGHBOUR: 'it returns false'. Refute it at one input. -/
def mergeJoinedWrong : ChangeSpec := { name := "mergeJoined", fn := fun _ => fun
  | [d1, d2, d3] => { results := [.lit (.bool false)], args := [d1, d2, d3] }
  | _ => none }
def MergeJoinedWrongFalsely : Prop := mergeJoinedRow.holds Tryd.pinned (OpenSpec.ofChange mergeJoinedWrong)

/-- 'planispherelaw41.MergeNames': WHATEVER THE INPUT: true; the input reads as it did. -/
def mergeNamesSpec : ChangeSpec := { name := "mergeNames", fn := fun _ => fun
  | [] => { results := [.lit (.bool true)], args := [] }
  | _ => none }
def mergeNamesRow : OpenClaim := { program := "ytgakdmmmljdpjaadoor", sum := "01e783a38d576b2caf4644913adc5df416198da439e4d80dbd2c98ef3ac902cf", func := "planisphere/planispherelaw41.MergeNames", spec := "mergeNames", unfollowed := true, recurses := true, named := ["planisphere/desig.orders"], plainKeys := false, apart := false, laid := [("planisphere/desig.orders", laid_planisphere_desig_orders)] }
def MergeNamesSaid : Prop := mergeNamesRow.holds Tryd.pinned (OpenSpec.ofChange mergeNamesSpec)

/-- ITS FALSE NEIGHBOUR: 'it returns false'. Refute it at one input. -/
def mergeNamesWrong : ChangeSpec := { name := "mergeNames", fn := fun _ => fun
  | [] => { results := [.lit (.bool false)], args := [] }
  | _ => none }
def MergeNamesWrongFalsely : Prop := mergeNamesRow.holds Tryd.pinned (OpenSpec.ofChange mergeNamesWrong)

/- THE SECOND FORM. 'bulk': how many values and letters a reading holds, each counted each time it is reached (what is shared counts as often as it is met; a slice's spare places count too). A statement '..UptoSaid' is the law's where the arguments, and the package variables that the reading takes, are together of bulk at most 1048576: NARROWER than '..Said'. Prove '..Said' where nothing that the law and all that it calls make is longer than what came in: it says more and counts as full. Else prove '..UptoSaid'. A law counts once. -/
mutual
def uptoBulk {H : Type} : DataW H → Nat
  | .lit (.string bytes) => bytes.length + 1
  | .lit _ => 1
  | .nil => 1
  | .ptr d => uptoBulk d + 1
  | .slice elems spare => uptoBulkAll elems + uptoBulkAll spare + 1
  | .agg parts => uptoBulkAll parts + 1
  | .iface _ d => uptoBulk d + 1
  | .map entries => uptoBulkEntries entries + 1
  | .held _ => 1
def uptoBulkAll {H : Type} : List (DataW H) → Nat
  | [] => 0
  | d :: r => uptoBulk d + uptoBulkAll r
def uptoBulkEntries {H : Type} : List (Lit × DataW H) → Nat
  | [] => 0
  | x :: r => uptoBulkEntry x + uptoBulkEntries r
def uptoBulkEntry {H : Type} : Lit × DataW H → Nat
  | (.string bytes, d) => bytes.length + uptoBulk d + 1
  | (_, d) => uptoBulk d + 1
 end
def uptoSmall : (H : Type) → List (DataW H) → Bool := fun _ ds => decide (uptoBulkAll ds ≤ 1048576)
def OpenSpec.upto (s : _root_.Go.ChangeSpec) : _root_.Go.OpenSpec := { _root_.Go.OpenSpec.ofChange s with cond := some uptoSmall }

/-- 'planispherelaw41.MergeApplies', WHERE WHAT IT READS IS OF BULK AT MOST 1048576: true; the input reads as it did. -/
def mergeAppliesUptoRow : OpenClaim := { program := "ytgakdmmmljdpjaadoor", sum := "01e783a38d576b2caf4644913adc5df416198da439e4d80dbd2c98ef3ac902cf", func := "planisphere/planispherelaw41.MergeApplies", spec := "mergeApplies", unfollowed := true, recurses := true, named := ["planisphere/desig.orders"], plainKeys := false, apart := false, laid := [("planisphere/desig.orders", laid_planisphere_desig_orders)], narrowed := true }
def MergeAppliesUptoSaid : Prop := mergeAppliesUptoRow.holds Tryd.pinned (OpenSpec.upto mergeAppliesSpec)

/-- 'planispherelaw41.MergeOrder', WHERE WHAT IT READS IS OF BULK AT MOST 1048576: true; the input reads as it did. -/
def mergeOrderUptoRow : OpenClaim := { program := "ytgakdmmmljdpjaadoor", sum := "01e783a38d576b2caf4644913adc5df416198da439e4d80dbd2c98ef3ac902cf", func := "planisphere/planispherelaw41.MergeOrder", spec := "mergeOrder", unfollowed := true, recurses := true, named := ["planisphere/desig.orders"], plainKeys := false, apart := false, laid := [("planisphere/desig.orders", laid_planisphere_desig_orders)], narrowed := true }
def MergeOrderUptoSaid : Prop := mergeOrderUptoRow.holds Tryd.pinned (OpenSpec.upto mergeOrderSpec)

/-- 'planispherelaw41.MergeApart', WHERE WHAT IT READS IS OF BULK AT MOST 1048576: true; the input reads as it did. -/
def mergeApartUptoRow : OpenClaim := { program := "ytgakdmmmljdpjaadoor", sum := "01e783a38d576b2caf4644913adc5df416198da439e4d80dbd2c98ef3ac902cf", func := "planisphere/planispherelaw41.MergeApart", spec := "mergeApart", unfollowed := true, recurses := true, named := ["planisphere/desig.orders"], plainKeys := false, apart := false, laid := [("planisphere/desig.orders", laid_planisphere_desig_orders)], narrowed := true }
def MergeApartUptoSaid : Prop := mergeApartUptoRow.holds Tryd.pinned (OpenSpec.upto mergeApartSpec)

/-- 'planispherelaw41.MergeUndo', WHERE WHAT IT READS IS OF BULK AT MOST 1048576: true; the input reads as it did. -/
def mergeUndoUptoRow : OpenClaim := { program := "ytgakdmmmljdpjaadoor", sum := "01e783a38d576b2caf4644913adc5df416198da439e4d80dbd2c98ef3ac902cf", func := "planisphere/planispherelaw41.MergeUndo", spec := "mergeUndo", unfollowed := true, recurses := true, named := ["planisphere/desig.orders"], plainKeys := false, apart := false, laid := [("planisphere/desig.orders", laid_planisphere_desig_orders)], narrowed := true }
def MergeUndoUptoSaid : Prop := mergeUndoUptoRow.holds Tryd.pinned (OpenSpec.upto mergeUndoSpec)

/-- 'planispherelaw41.MergeRuns', WHERE WHAT IT READS IS OF BULK AT MOST 1048576: true; the input reads as it did. -/
def mergeRunsUptoRow : OpenClaim := { program := "ytgakdmmmljdpjaadoor", sum := "01e783a38d576b2caf4644913adc5df416198da439e4d80dbd2c98ef3ac902cf", func := "planisphere/planispherelaw41.MergeRuns", spec := "mergeRuns", unfollowed := true, recurses := true, named := ["planisphere/desig.orders"], plainKeys := false, apart := false, laid := [("planisphere/desig.orders", laid_planisphere_desig_orders)], narrowed := true }
def MergeRunsUptoSaid : Prop := mergeRunsUptoRow.holds Tryd.pinned (OpenSpec.upto mergeRunsSpec)

/-- 'planispherelaw41.MergeJoined', WHERE WHAT IT READS IS OF BULK AT MOST 1048576: true; the input reads as it did. -/
def mergeJoinedUptoRow : OpenClaim := { program := "ytgakdmmmljdpjaadoor", sum := "01e783a38d576b2caf4644913adc5df416198da439e4d80dbd2c98ef3ac902cf", func := "planisphere/planispherelaw41.MergeJoined", spec := "mergeJoined", unfollowed := true, recurses := true, named := ["planisphere/desig.orders"], plainKeys := false, apart := false, laid := [("planisphere/desig.orders", laid_planisphere_desig_orders)], narrowed := true }
def MergeJoinedUptoSaid : Prop := mergeJoinedUptoRow.holds Tryd.pinned (OpenSpec.upto mergeJoinedSpec)

/-- 'planispherelaw41.MergeNames', WHERE WHAT IT READS IS OF BULK AT MOST 1048576: true; the input reads as it did. -/
def mergeNamesUptoRow : OpenClaim := { program := "ytgakdmmmljdpjaadoor", sum := "01e783a38d576b2caf4644913adc5df416198da439e4d80dbd2c98ef3ac902cf", func := "planisphere/planispherelaw41.MergeNames", spec := "mergeNames", unfollowed := true, recurses := true, named := ["planisphere/desig.orders"], plainKeys := false, apart := false, laid := [("planisphere/desig.orders", laid_planisphere_desig_orders)], narrowed := true }
def MergeNamesUptoSaid : Prop := mergeNamesUptoRow.holds Tryd.pinned (OpenSpec.upto mergeNamesSpec)

end Rows
end Go.Proofs.YtgakdmmmljdpjaaDoor
