/- A guarded operation whose guard holds, as one without a guard. -/
import Derived.Test.YtmgmoedcpndppaaSL22
set_option linter.unusedVariables false
set_option linter.unusedSimpArgs false
namespace Go.SL
open Go
section
variable {r:Option Nat} {P:Program} {Q:Exit→Act→World→Prop} {ops:Array Oper} {i:Nat} {rest:List Nat} {a:Act} {w:World} {n:Nat} {ds:List Deferred} {L:List (Nat × Value)}
  {op:Op} {ty:TypeId} {pos:String} {af:Array Edge} {dst:Option Tmp}
end
end Go.SL
