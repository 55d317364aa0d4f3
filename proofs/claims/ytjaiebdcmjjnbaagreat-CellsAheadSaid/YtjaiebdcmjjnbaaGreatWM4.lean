/- What the models of the package wide give: division, greatest common divisors. -/
import Derived.Test.YtjaiebdcmjjnbaaGreatWM3
set_option linter.unusedVariables false
set_option linter.unusedSimpArgs false
namespace Go.Proofs.YtjaiebdcmjjnbaaGreat
open Go Go.SL
section
variable {F:Nat} (hF:4300000000≤F)
include hF
end
end Go.Proofs.YtjaiebdcmjjnbaaGreat
