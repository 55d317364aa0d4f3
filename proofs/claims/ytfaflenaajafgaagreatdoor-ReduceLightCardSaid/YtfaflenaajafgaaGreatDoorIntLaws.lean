/- Plain laws of the words: wraps, bits, products of two words. -/
import Derived.Test.YtfaflenaajafgaaGreatDoorSL16
import Derived.Laws.Bits64
set_option linter.unusedVariables false
set_option linter.unusedSimpArgs false
namespace Go.SL
open Go
theorem u64w (x:Int):IntKind.u64.wrap x=x % 18446744073709551616:=IntKind.wrap_u64 x
theorem i64w (x:Int):IntKind.i64.wrap x=(x+9223372036854775808) % 18446744073709551616-9223372036854775808:=IntKind.wrap_i64 x
theorem u64_id {x:Int} (h:0≤x∧x<18446744073709551616):IntKind.u64.wrap x=x:=by rw [u64w]; omega
theorem i64_of {x:Int} (h:-9223372036854775808≤x∧x≤9223372036854775807):IntKind.i64.wrap x=x:=by rw [i64w]; omega
theorem u64_rng (x:Int):0≤IntKind.u64.wrap x∧IntKind.u64.wrap x<18446744073709551616:=by rw [u64w]; omega
theorem fdiv_pow (x:Int) (n:Nat):Int.fdiv x (2^n)=x/2^n:=Int.fdiv_eq_ediv_of_nonneg _ (Int.le_of_lt (Int.pow_pos (by decide)))
theorem mul32 {a b:Int} (ha:0≤a∧a<4294967296) (hb:0≤b∧b<4294967296):0≤a*b∧a*b≤18446744065119617025:=by
  refine ⟨Int.mul_nonneg ha.1 hb.1,?_⟩
  have h1:a*b≤4294967295*b:=Int.mul_le_mul_of_nonneg_right (by omega) hb.1
  omega
end Go.SL
