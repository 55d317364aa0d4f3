/- Division of a number of two words by one of one word, as math/bits does it: the plain facts. -/
import Derived.Test.YtjaiebdcmjjnbaaGreatWideNum
set_option linter.unusedVariables false
set_option linter.unusedSimpArgs false
namespace Go.SL
open Go
structure KG (u1 u0 y1 y0 q r:Int):Prop where
  eq:q*y1+r=u1
  r0:0≤r
  ge:(u1*4294967296+u0)/(y1*4294967296+y0)≤q
  q1:q≤4294967297
section
variable {u1 u0 y1 y0 q r:Int} (hu0:0≤u0∧u0<4294967296) (hy1:2147483648≤y1∧y1<4294967296) (hy0:0≤y0∧y0<4294967296) (hu:0≤u1∧u1<y1*4294967296+y0)
include hu0 hy1 hy0 hu
omit hy1 hy0 in
theorem KG.rng:0≤(u1*4294967296+u0)/(y1*4294967296+y0)∧(u1*4294967296+u0)/(y1*4294967296+y0)<4294967296:=by
  constructor
  · exact Int.ediv_nonneg (by omega) (by omega)
  · exact Int.ediv_lt_of_lt_mul (by omega) (by omega)
theorem KG.start:KG u1 u0 y1 y0 (u1/y1) (u1 % y1):=by
  have h1:=Int.mul_ediv_add_emod u1 y1
  have h2:=Int.emod_nonneg u1 (show y1≠0 by omega)
  have hy:0<y1*4294967296+y0:=by omega
  refine ⟨by rw [Int.mul_comm]; exact h1,h2,?_,?_⟩
  ·
    have h3:=Int.emod_lt_of_pos u1 (show 0<y1 by omega)
    have h4:(u1*4294967296+u0)<(u1/y1+1)*(y1*4294967296+y0):=by
      have h5:u1+1≤(u1/y1+1)*y1:=by rw [Int.add_mul,Int.mul_comm (u1/y1)]; omega
      have h6:(u1+1)*4294967296≤(u1/y1+1)*y1*4294967296:=Int.mul_le_mul_of_nonneg_right h5 (by omega)
      have h7:0≤(u1/y1+1)*y0:=Int.mul_nonneg (by have:=Int.ediv_nonneg hu.1 (show 0≤y1 by omega); omega) hy0.1
      have h8:(u1/y1+1)*(y1*4294967296+y0)=(u1/y1+1)*y1*4294967296+(u1/y1+1)*y0:=by grind
      omega
    have:=Int.ediv_lt_of_lt_mul hy h4
    omega
  · have h3:u1<4294967298*y1:=by omega
    have:=Int.ediv_lt_of_lt_mul (show 0<y1 by omega) h3
    omega
omit hy1 in
theorem KG.less (h:KG u1 u0 y1 y0 q r) (hc:q≥4294967296∨q*y0>4294967296*r+u0):1≤q∧KG u1 u0 y1 y0 (q-1) (r+y1):=by
  have hr:=KG.rng hu0 hu
  have h1:(u1*4294967296+u0)/(y1*4294967296+y0)<q:=by
    rcases hc with hc | hc
    · omega
    · refine Int.ediv_lt_of_lt_mul (by omega) ?_
      have h2:=h.eq
      have h3:q*(y1*4294967296+y0)=q*y1*4294967296+q*y0:=by grind
      rw [h3]
      generalize q*y1=a at *
      generalize q*y0=b at *
      omega
  have h2:=h.eq
  refine ⟨by omega,⟨by rw [Int.sub_mul]; omega,by have:=h.r0; omega,by omega,by have:=h.q1; omega⟩⟩
omit hu0 hy1 hy0 in
theorem KG.done (h:KG u1 u0 y1 y0 q r) (hc:q*y0≤4294967296*r+u0):q=(u1*4294967296+u0)/(y1*4294967296+y0):=by
  refine Int.le_antisymm ?_ h.ge
  refine (Int.le_ediv_iff_mul_le (by omega)).2 ?_
  have h2:=h.eq
  have h3:q*(y1*4294967296+y0)=q*y1*4294967296+q*y0:=by grind
  rw [h3]
  generalize q*y1=a at *
  generalize q*y0=b at *
  omega
omit hy1 in
theorem KG.doneB (h:KG u1 u0 y1 y0 q r) (hq:q≤4294967296) (hb:4294967296≤r):q=(u1*4294967296+u0)/(y1*4294967296+y0):=by
  refine KG.done hu h ?_
  have h1:4294967296*4294967296≤4294967296*r:=Int.mul_le_mul_of_nonneg_left hb (by omega)
  have h2:q*y0≤4294967296*y0:=Int.mul_le_mul_of_nonneg_right hq hy0.1
  omega
end
end Go.SL
