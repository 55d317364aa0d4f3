/- x[:n:n] at the slice's own length, and append to it: a new block always. -/
import Derived.Test.YtipfobacinmoiaaGreatSL19
import Derived.ArgAppend
set_option linter.unusedVariables false
set_option linter.unusedSimpArgs false
namespace Go.SL
open Go
def vfull:Value→Value
  | .slice A n _=>.slice A n n
  | _=>undef
section
variable {T:Type} {enc:T→List Value} {sz:Nat} {l m:List T}
variable {r:Option Nat} {P:Program} {Q:Exit→Act→World→Prop} {ops:Array Oper} {i:Nat} {rest:List Nat} {a:Act} {w w0 w':World} {n:Nat} {ds:List Deferred} {L:List (Nat × Value)}
  {d:Nat} {op:Op} {ty t e:TypeId} {pos:String} {af:Array Edge} {v u z:Value} {X:Nat→Prop} {B M M':List Asr} {x y hi mx:Operand} {b o j jj N by_ c:Nat} {k k':IntKind} {cs:Array Value} {zz:Nat × Nat}
end
end Go.SL
