/- A slice that is lent or owned, as a Bool says. -/
import Derived.Test.YtipfobacinmoiaaGreatSL20
set_option linter.unusedVariables false
set_option linter.unusedSimpArgs false
namespace Go.SL
open Go
section
variable {T:Type} {enc:T→List Value} {sz:Nat} {l:List T} {w w0:World} {X:Nat→Prop} {B M M':List Asr} {v:Value} {e:TypeId} {i j:Nat} {c:Bool} {p:Asr}
end
end Go.SL
