/- A slice that is lent or owned, as a Bool says. -/
import Derived.Test.YtlddnbhcgaodhaaGreatSL20
set_option linter.unusedVariables false
set_option linter.unusedSimpArgs false
namespace Go.SL
open Go
section
variable {T : Type} {enc : T → List Value} {sz : Nat} {l : List T} {w w0 : World} {X : Nat → Prop} {B M M' : List Asr} {v : Value} {e : TypeId} {i j : Nat} {c : Bool} {p : Asr}
theorem St.rdEither (hS : St w0 w X B M) (hi : M[i]? = some (condA c (slE e sz enc v l))) (hj : B[j]? = some (condA (!c) (rdE sz enc v l))) : rdEOK (hp w) sz enc v l := by
  cases c with
  | true => exact hS.rdS (j := i) (by simpa [condA] using hi)
  | false => exact hS.rdB (j := j) (by simpa [condA] using hj)
/-- an empty entry among the lent ones -/
theorem St.empB (hS : St w0 w X B M) : St w0 w X (empA :: B) M := ⟨hS.os, hS.tape, hS.output, hS.size, hS.old, hS.sep, fun q hq => by
  rcases List.mem_cons.1 hq with rfl | hq
  · exact ⟨trivial, fun b hb => hb.elim⟩
  · exact hS.bor q hq⟩
/-- a lent entry told twice -/
theorem St.dupB (hS : St w0 w X B M) (hj : B[j]? = some p) : St w0 w X (p :: B) M := ⟨hS.os, hS.tape, hS.output, hS.size, hS.old, hS.sep, fun q hq => by
  rcases List.mem_cons.1 hq with rfl | hq
  · exact hS.bor _ (List.mem_of_getElem? hj)
  · exact hS.bor q hq⟩
end
end Go.SL
