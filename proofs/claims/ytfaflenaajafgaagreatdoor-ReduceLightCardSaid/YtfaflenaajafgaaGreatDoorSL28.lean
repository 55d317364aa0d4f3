/- Two entries that are the call's own. -/
import Derived.Test.YtfaflenaajafgaaGreatDoorSLz
set_option linter.unusedVariables false
set_option linter.unusedSimpArgs false
namespace Go.SL
open Go
section
variable {w0 w w':World} {X X':Nat→Prop} {B M N:List Asr} {A1 A2:Asr} {i j:Nat}
end
end Go.SL
