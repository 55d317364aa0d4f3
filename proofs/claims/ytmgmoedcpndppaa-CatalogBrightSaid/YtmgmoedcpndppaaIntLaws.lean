/- Plain laws of the words: wraps, bits, products of two words. -/
import Derived.Test.YtmgmoedcpndppaaSL16
import Derived.Laws.Bits64
set_option linter.unusedVariables false
set_option linter.unusedSimpArgs false
namespace Go.SL
open Go
theorem u64w (x:Int):IntKind.u64.wrap x=x % 18446744073709551616:=IntKind.wrap_u64 x
theorem i64w (x:Int):IntKind.i64.wrap x=(x+9223372036854775808) % 18446744073709551616-9223372036854775808:=IntKind.wrap_i64 x
theorem u64_id {x:Int} (h:0≤x∧x<18446744073709551616):IntKind.u64.wrap x=x:=by rw [u64w]; omega
theorem i64_of {x:Int} (h:-9223372036854775808≤x∧x≤9223372036854775807):IntKind.i64.wrap x=x:=by rw [i64w]; omega
theorem u64_rng (x:Int):0≤IntKind.u64.wrap x∧IntKind.u64.wrap x<18446744073709551616:=by rw [u64w]; omega
theorem i64_rng (x:Int):-9223372036854775808≤IntKind.i64.wrap x∧IntKind.i64.wrap x≤9223372036854775807:=by rw [i64w]; omega
theorem fdiv_pow (x:Int) (n:Nat):Int.fdiv x (2^n)=x/2^n:=Int.fdiv_eq_ediv_of_nonneg _ (Int.le_of_lt (Int.pow_pos (by decide)))
theorem and32 {x:Int} (h:0≤x∧x<18446744073709551616):bitand .u64 x 4294967295=x % 4294967296:=by
  obtain ⟨n,rfl⟩:=Int.eq_ofNat_of_zero_le h.1
  have hn:n<18446744073709551616:=by omega
  have e1:(BitVec.ofInt (IntKind.bits .u64) (n:Int)).toNat=n:=by
    show (BitVec.ofInt 64 (n:Int)).toNat=n
    rw [BitVec.toNat_ofInt]
    omega
  have e2:(BitVec.ofInt (IntKind.bits .u64) (4294967295:Int)).toNat=2^32-1:=by rfl
  unfold bitand
  rw [BitVec.toNat_and,e1,e2,Nat.and_two_pow_sub_one_eq_mod]
  rw [u64w]
  omega
theorem mul32 {a b:Int} (ha:0≤a∧a<4294967296) (hb:0≤b∧b<4294967296):0≤a*b∧a*b≤18446744065119617025:=by
  refine ⟨Int.mul_nonneg ha.1 hb.1,?_⟩
  have h1:a*b≤4294967295*b:=Int.mul_le_mul_of_nonneg_right (by omega) hb.1
  omega
theorem mul_words (x y:Int):x*y=(x/4294967296)*(y/4294967296)*18446744073709551616+((x/4294967296)*(y % 4294967296)+(x % 4294967296)*(y/4294967296))*4294967296+(x % 4294967296)*(y % 4294967296):=by
  have hx:x=4294967296*(x/4294967296)+x % 4294967296:=by omega
  have hy:y=4294967296*(y/4294967296)+y % 4294967296:=by omega
  generalize x/4294967296=a at *
  generalize x % 4294967296=b at *
  generalize y/4294967296=c at *
  generalize y % 4294967296=d at *
  subst hx hy
  grind
theorem mul64 {x y:Int} (hx:0≤x∧x<18446744073709551616) (hy:0≤y∧y<18446744073709551616) {w0 t w1:Int}
    (h0:w0=IntKind.u64.wrap ((bitand .u64 x 4294967295)*(bitand .u64 y 4294967295)))
    (ht:t=IntKind.u64.wrap ((IntKind.u64.wrap ((Int.fdiv x (2^32))*(bitand .u64 y 4294967295)))+(Int.fdiv w0 (2^32))))
    (h1:w1=IntKind.u64.wrap ((bitand .u64 t 4294967295)+(IntKind.u64.wrap ((bitand .u64 x 4294967295)*(Int.fdiv y (2^32)))))) :
    IntKind.u64.wrap ((IntKind.u64.wrap ((IntKind.u64.wrap ((Int.fdiv x (2^32))*(Int.fdiv y (2^32))))+(Int.fdiv t (2^32))))+(Int.fdiv w1 (2^32)))=x*y/18446744073709551616:=by
  have f32:∀ x:Int,Int.fdiv x (2^32)=x/4294967296:=fun x=>fdiv_pow x 32
  simp only [f32] at h0 ht h1 ⊢
  rw [and32 hx,and32 hy] at h0
  rw [and32 hy] at ht
  rw [and32 hx] at h1
  have hm:=mul_words x y
  have p00:=mul32 (a:=x % 4294967296) (b:=y % 4294967296) (by omega) (by omega)
  have p10:=mul32 (a:=x/4294967296) (b:=y % 4294967296) (by omega) (by omega)
  have p01:=mul32 (a:=x % 4294967296) (b:=y/4294967296) (by omega) (by omega)
  have p11:=mul32 (a:=x/4294967296) (b:=y/4294967296) (by omega) (by omega)
  generalize x*y=z at *
  generalize (x % 4294967296)*(y % 4294967296)=q00 at *
  generalize (x/4294967296)*(y % 4294967296)=q10 at *
  generalize (x % 4294967296)*(y/4294967296)=q01 at *
  generalize (x/4294967296)*(y/4294967296)=q11 at *
  rw [u64_id (x:=q00) (by omega)] at h0
  subst h0
  rw [u64_id (x:=q10) (by omega),u64_id (by omega)] at ht
  have htr:0≤t∧t<18446744073709551616:=by omega
  rw [and32 htr,u64_id (x:=q01) (by omega),u64_id (by omega)] at h1
  rw [u64_id (x:=q11) (by omega),u64_id (x:=q11+t/4294967296) (by omega),u64_id (by omega)]
  omega
end Go.SL
