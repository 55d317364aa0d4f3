/- CatalogNames, reckoned. -/
import Derived.Test.YtkcenfbohbikjaaGreatLF
set_option linter.unusedVariables false
set_option linter.unusedSimpArgs false
namespace Go.Proofs.YtkcenfbohbikjaaGreat
open Go Go.SL Go.RX
def nW:FuncId→Bool:=fun _=>false
theorem cn_pure:Pure0 Tryz.prog 3 (.bool true):=pure0_of (kp:=nW) (Sm:=smL) (wrF:=nW) (F:=1000) (m:=50) smL_ok (isTrueA_ans (by kernel_rfl))
end Go.Proofs.YtkcenfbohbikjaaGreat
