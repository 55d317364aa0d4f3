/- What the models of the package wide give: shifts, and division by many limbs. -/
import Derived.Test.YtjaiebdcmjjnbaaGreatWM2
set_option linter.unusedVariables false
set_option linter.unusedSimpArgs false
namespace Go.Proofs.YtjaiebdcmjjnbaaGreat
open Go Go.SL
theorem two_pow_pos (s:Nat):(1:Int)≤2^s:=by
  induction s with
  | zero=>decide
  | succ s ih=>rw [Int.pow_succ]; omega
theorem two_pow_le {s t:Nat} (h:s≤t):(2:Int)^s≤2^t:=by
  obtain ⟨k,rfl⟩:=Nat.le.dest h
  rw [Int.pow_add]
  have h1:=two_pow_pos s
  have:=Int.mul_le_mul_of_nonneg_left (c:=(2:Int)^s) (two_pow_pos k) (by omega)
  omega
theorem two_pow_split (s:Nat) (h:s≤32):(2:Int)^s*2^(32-s)=4294967296:=by
  rw [← Int.pow_add,show s+(32-s)=32 by omega]; decide
section
variable {F:Nat} (hF:4300000000≤F)
include hF
end
end Go.Proofs.YtjaiebdcmjjnbaaGreat
