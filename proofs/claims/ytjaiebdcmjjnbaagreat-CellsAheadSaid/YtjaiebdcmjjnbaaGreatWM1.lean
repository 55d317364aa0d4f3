/- What the models of the package wide give: trim, made, check, From, times, Mul. -/
import Derived.Test.YtjaiebdcmjjnbaaGreatWad
import Derived.Test.YtjaiebdcmjjnbaaGreatWideNum
set_option linter.unusedVariables false
set_option linter.unusedSimpArgs false
namespace Go.Proofs.YtjaiebdcmjjnbaaGreat
open Go Go.SL
theorem ixn {T:Type} {l:List T} {i:Nat} {x:T} (h:l[i]? = some x):idx l (i:Int)=some x:=by
  unfold idx; rw [if_pos (by omega)]; simpa using h
theorem lsub0 {T:Type} (l:List T) (k:Nat):lsub l 0 (k:Int)=l.take k:=by simp [lsub]
theorem wS {i:Nat} (h:i≤1000000):IntKind.i64.wrap ((i:Int)+1)=((i+1:Nat):Int):=by rw [i64_of (by omega)]; omega
theorem wP {i:Nat} (h:i≤1000000):IntKind.i64.wrap (((i+1:Nat):Int)-1)=(i:Int):=by rw [i64_of (by omega)]; omega
theorem u32_id {x:Int} (h:0≤x∧x<4294967296):IntKind.u32.wrap x=x:=by rw [IntKind.wrap_u32]; omega
theorem u32w (x:Int):IntKind.u32.wrap x=x % 4294967296:=IntKind.wrap_u32 x
theorem fd32 (x:Int):Int.fdiv x (2^32)=x/4294967296:=by rw [fdiv_pow]; rfl
section
variable {F:Nat} (hF:4300000000≤F)
include hF
end
end Go.Proofs.YtjaiebdcmjjnbaaGreat
