/-
  No cell of these rows narrows 'for every input' (looked for: loops, veiled, ifaces, maps, wideKeys, modest, calm, conditions, laid).
  DERIVED. THE GIVEN ROWS OF THIS SEAT. 5 by the template 'for every input the law returns true; each argument reads behind the call as it read before'; 0 by the template 'total and deterministic' (their statements: YtipfobacinmoiaaGreatTotals.lean).
  GIVEN WITH THE SEED: the statements are not yours to turn. If you find one false, say at which input.
  Laid BY PROGRAM, IN A SANDBOX (cutbox-rows.mjs): the forced cells as the released guide's own fill.sh prints them over the translation d1534443f70f8418… (all of the seat's roots in one cut). By AI agents, Wed Nov 11 2026. No macro, syntax, notation, axiom, sorry.
-/
import Derived.Test.YtipfobacinmoiaaGreatChecked
import GoSem.Claim
import GoSem.ClaimJoined
import GoSem.ClaimMapViews
import Derived.JoinedTies
import Derived.KernelRfl
namespace Go.Proofs.YtipfobacinmoiaaGreat
/- THE CELL 'sum', in the pinned program and in every row, IS THE sha256 OF THE DUMP (.gsa) THAT YtipfobacinmoiaaGreatProg.lean LOADS. Nothing in Lean hashes anything: it is a label: what it is worth is what the hold of that sum in a sandbox is worth. -/
noncomputable def Tryz.pinned : Pinned := { name := "ytipfobacinmoiaagreat", sum := "d1534443f70f8418f52b82c2862787e972a8c6672ad664b0b7692a93edbbcac2", checked := Tryz.checked }
namespace Rows
def none {H : Type} : Left H := { results := [], args := [] }

/-- 'planispherelaw13.DetectSplits': WHATEVER THE INPUT: true; the input reads as it did. -/
def detectSplitsSpec : ChangeSpec := { name := "detectSplits", fn := fun _ => fun
  | [d1, d2, d3, d4, d5, d6] => { results := [.lit (.bool true)], args := [d1, d2, d3, d4, d5, d6] }
  | _ => none }
def detectSplitsRow : OpenClaim := { program := "ytipfobacinmoiaagreat", sum := "d1534443f70f8418f52b82c2862787e972a8c6672ad664b0b7692a93edbbcac2", func := "planisphere/planispherelaw13.DetectSplits", spec := "detectSplits", unfollowed := true, recurses := true, apart := false }
def DetectSplitsSaid : Prop := detectSplitsRow.holds Tryz.pinned (OpenSpec.ofChange detectSplitsSpec)

/-- ITS FALSE NEIGHBOUR: 'it returns false'. Refute it at one input. -/
def detectSplitsWrong : ChangeSpec := { name := "detectSplits", fn := fun _ => fun
  | [d1, d2, d3, d4, d5, d6] => { results := [.lit (.bool false)], args := [d1, d2, d3, d4, d5, d6] }
  | _ => none }
def DetectSplitsWrongFalsely : Prop := detectSplitsRow.holds Tryz.pinned (OpenSpec.ofChange detectSplitsWrong)

/-- 'planispherelaw13.DetectWhole': WHATEVER THE INPUT: true; the input reads as it did. -/
def detectWholeSpec : ChangeSpec := { name := "detectWhole", fn := fun _ => fun
  | [d1, d2, d3, d4] => { results := [.lit (.bool true)], args := [d1, d2, d3, d4] }
  | _ => none }
def detectWholeRow : OpenClaim := { program := "ytipfobacinmoiaagreat", sum := "d1534443f70f8418f52b82c2862787e972a8c6672ad664b0b7692a93edbbcac2", func := "planisphere/planispherelaw13.DetectWhole", spec := "detectWhole", unfollowed := true, recurses := true, apart := false }
def DetectWholeSaid : Prop := detectWholeRow.holds Tryz.pinned (OpenSpec.ofChange detectWholeSpec)

/-- ITS FALSE NEIGHBOUR: 'it returns false'. Refute it at one input. -/
def detectWholeWrong : ChangeSpec := { name := "detectWhole", fn := fun _ => fun
  | [d1, d2, d3, d4] => { results := [.lit (.bool false)], args := [d1, d2, d3, d4] }
  | _ => none }
def DetectWholeWrongFalsely : Prop := detectWholeRow.holds Tryz.pinned (OpenSpec.ofChange detectWholeWrong)

/-- 'planispherelaw13.DetectDivides': WHATEVER THE INPUT: true; the input reads as it did. -/
def detectDividesSpec : ChangeSpec := { name := "detectDivides", fn := fun _ => fun
  | [d1, d2, d3, d4] => { results := [.lit (.bool true)], args := [d1, d2, d3, d4] }
  | _ => none }
def detectDividesRow : OpenClaim := { program := "ytipfobacinmoiaagreat", sum := "d1534443f70f8418f52b82c2862787e972a8c6672ad664b0b7692a93edbbcac2", func := "planisphere/planispherelaw13.DetectDivides", spec := "detectDivides", unfollowed := true, recurses := true, apart := false }
def DetectDividesSaid : Prop := detectDividesRow.holds Tryz.pinned (OpenSpec.ofChange detectDividesSpec)

/-- ITS FALSE NEIGHBOUR: 'it returns false'. Refute it at one input. -/
def detectDividesWrong : ChangeSpec := { name := "detectDivides", fn := fun _ => fun
  | [d1, d2, d3, d4] => { results := [.lit (.bool false)], args := [d1, d2, d3, d4] }
  | _ => none }
def DetectDividesWrongFalsely : Prop := detectDividesRow.holds Tryz.pinned (OpenSpec.ofChange detectDividesWrong)

/-- 'planispherelaw13.DetectMore': WHATEVER THE INPUT: true; the input reads as it did. -/
def detectMoreSpec : ChangeSpec := { name := "detectMore", fn := fun _ => fun
  | [d1, d2, d3, d4, d5] => { results := [.lit (.bool true)], args := [d1, d2, d3, d4, d5] }
  | _ => none }
def detectMoreRow : OpenClaim := { program := "ytipfobacinmoiaagreat", sum := "d1534443f70f8418f52b82c2862787e972a8c6672ad664b0b7692a93edbbcac2", func := "planisphere/planispherelaw13.DetectMore", spec := "detectMore", unfollowed := true, recurses := true, apart := false }
def DetectMoreSaid : Prop := detectMoreRow.holds Tryz.pinned (OpenSpec.ofChange detectMoreSpec)

/-- ITS FALSE NEIGHBOUR: 'it returns false'. Refute it at one input. -/
def detectMoreWrong : ChangeSpec := { name := "detectMore", fn := fun _ => fun
  | [d1, d2, d3, d4, d5] => { results := [.lit (.bool false)], args := [d1, d2, d3, d4, d5] }
  | _ => none }
def DetectMoreWrongFalsely : Prop := detectMoreRow.holds Tryz.pinned (OpenSpec.ofChange detectMoreWrong)

/-- 'planispherelaw13.DetectMoved': WHATEVER THE INPUT: true; the input reads as it did. -/
def detectMovedSpec : ChangeSpec := { name := "detectMoved", fn := fun _ => fun
  | [d1, d2, d3, d4, d5, d6] => { results := [.lit (.bool true)], args := [d1, d2, d3, d4, d5, d6] }
  | _ => none }
def detectMovedRow : OpenClaim := { program := "ytipfobacinmoiaagreat", sum := "d1534443f70f8418f52b82c2862787e972a8c6672ad664b0b7692a93edbbcac2", func := "planisphere/planispherelaw13.DetectMoved", spec := "detectMoved", unfollowed := true, recurses := true, apart := false }
def DetectMovedSaid : Prop := detectMovedRow.holds Tryz.pinned (OpenSpec.ofChange detectMovedSpec)

/-- ITS FALSE NEIGHBOUR: 'it returns false'. Refute it at one input. -/
def detectMovedWrong : ChangeSpec := { name := "detectMoved", fn := fun _ => fun
  | [d1, d2, d3, d4, d5, d6] => { results := [.lit (.bool false)], args := [d1, d2, d3, d4, d5, d6] }
  | _ => none }
def DetectMovedWrongFalsely : Prop := detectMovedRow.holds Tryz.pinned (OpenSpec.ofChange detectMovedWrong)

/- THE SECOND FORM. 'bulk': how many values and letters a reading holds, each counted each time it is reached (what is shared counts as often as it is met; a slice's spare places count too). A statement '..UptoSaid' is the law's where the arguments, and the package variables that the reading takes, are together of bulk at most 1048576: NARROWER than '..Said'. Prove '..Said' where nothing that the law and all that it calls make is longer than what came in: it says more and counts as full. Else prove '..UptoSaid'. A law counts once. -/
mutual
def uptoBulk {H : Type} : DataW H → Nat
  | .lit (.string bytes) => bytes.length + 1
  | .lit _ => 1
  | .nil => 1
  | .ptr d => uptoBulk d + 1
  | .slice elems spare => uptoBulkAll elems + uptoBulkAll spare + 1
  | .agg parts => uptoBulkAll parts + 1
  | .iface _ d => uptoBulk d + 1
  | .map entries => uptoBulkEntries entries + 1
  | .held _ => 1
def uptoBulkAll {H : Type} : List (DataW H) → Nat
  | [] => 0
  | d :: r => uptoBulk d + uptoBulkAll r
def uptoBulkEntries {H : Type} : List (Lit × DataW H) → Nat
  | [] => 0
  | x :: r => uptoBulkEntry x + uptoBulkEntries r
def uptoBulkEntry {H : Type} : Lit × DataW H → Nat
  | (.string bytes, d) => bytes.length + uptoBulk d + 1
  | (_, d) => uptoBulk d + 1
 end
def uptoSmall : (H : Type) → List (DataW H) → Bool := fun _ ds => decide (uptoBulkAll ds ≤ 1048576)
def OpenSpec.upto (s : _root_.Go.ChangeSpec) : _root_.Go.OpenSpec := { _root_.Go.OpenSpec.ofChange s with cond := some uptoSmall }

/-- 'planispherelaw13.DetectSplits', WHERE WHAT IT READS IS OF BULK AT MOST 1048576: true; the input reads as it did. -/
def detectSplitsUptoRow : OpenClaim := { program := "ytipfobacinmoiaagreat", sum := "d1534443f70f8418f52b82c2862787e972a8c6672ad664b0b7692a93edbbcac2", func := "planisphere/planispherelaw13.DetectSplits", spec := "detectSplits", unfollowed := true, recurses := true, apart := false, narrowed := true }
def DetectSplitsUptoSaid : Prop := detectSplitsUptoRow.holds Tryz.pinned (OpenSpec.upto detectSplitsSpec)

/-- 'planispherelaw13.DetectWhole', WHERE WHAT IT READS IS OF BULK AT MOST 1048576: true; the input reads as it did. -/
def detectWholeUptoRow : OpenClaim := { program := "ytipfobacinmoiaagreat", sum := "d1534443f70f8418f52b82c2862787e972a8c6672ad664b0b7692a93edbbcac2", func := "planisphere/planispherelaw13.DetectWhole", spec := "detectWhole", unfollowed := true, recurses := true, apart := false, narrowed := true }
def DetectWholeUptoSaid : Prop := detectWholeUptoRow.holds Tryz.pinned (OpenSpec.upto detectWholeSpec)

/-- 'planispherelaw13.DetectDivides', WHERE WHAT IT READS IS OF BULK AT MOST 1048576: true; the input reads as it did. -/
def detectDividesUptoRow : OpenClaim := { program := "ytipfobacinmoiaagreat", sum := "d1534443f70f8418f52b82c2862787e972a8c6672ad664b0b7692a93edbbcac2", func := "planisphere/planispherelaw13.DetectDivides", spec := "detectDivides", unfollowed := true, recurses := true, apart := false, narrowed := true }
def DetectDividesUptoSaid : Prop := detectDividesUptoRow.holds Tryz.pinned (OpenSpec.upto detectDividesSpec)

/-- 'planispherelaw13.DetectMore', WHERE WHAT IT READS IS OF BULK AT MOST 1048576: true; the input reads as it did. -/
def detectMoreUptoRow : OpenClaim := { program := "ytipfobacinmoiaagreat", sum := "d1534443f70f8418f52b82c2862787e972a8c6672ad664b0b7692a93edbbcac2", func := "planisphere/planispherelaw13.DetectMore", spec := "detectMore", unfollowed := true, recurses := true, apart := false, narrowed := true }
def DetectMoreUptoSaid : Prop := detectMoreUptoRow.holds Tryz.pinned (OpenSpec.upto detectMoreSpec)

/-- 'planispherelaw13.DetectMoved', WHERE WHAT IT READS IS OF BULK AT MOST 1048576: true; the input reads as it did. -/
def detectMovedUptoRow : OpenClaim := { program := "ytipfobacinmoiaagreat", sum := "d1534443f70f8418f52b82c2862787e972a8c6672ad664b0b7692a93edbbcac2", func := "planisphere/planispherelaw13.DetectMoved", spec := "detectMoved", unfollowed := true, recurses := true, apart := false, narrowed := true }
def DetectMovedUptoSaid : Prop := detectMovedUptoRow.holds Tryz.pinned (OpenSpec.upto detectMovedSpec)

end Rows
end Go.Proofs.YtipfobacinmoiaaGreat
