/- What the models of the package wide give: Cmp, Add, Neg, division by one limb. -/
import Derived.Test.YtjaiebdcmjjnbaaGreatWM1
set_option linter.unusedVariables false
set_option linter.unusedSimpArgs false
namespace Go.Proofs.YtjaiebdcmjjnbaaGreat
open Go Go.SL
section
variable {F:Nat} (hF:4300000000≤F)
include hF
omit hF in
theorem Is_len_le {a b:List Int} {z z':Int} (ha:Is a z) (hb:Is b z') (h:z'≤z):b.length≤a.length:=hb.len (Int.lt_of_le_of_lt h ha.lt)
end
end Go.Proofs.YtjaiebdcmjjnbaaGreat
