/- Intervals: Scale and Add, exactly. -/
import Derived.Test.YtjaiebdcmjjnbaaGreatSP1
set_option linter.unusedVariables false
set_option linter.unusedSimpArgs false
namespace Go.Proofs.YtjaiebdcmjjnbaaGreat
open Go Go.SL
def cdiv (z d:Int):Int:=-((-z)/d)
theorem cdiv_of {n d:Int} (hd:0<d):cdiv n d=if n % d>0 then n/d+1 else n/d:=by
  unfold cdiv
  have h1:=Int.mul_ediv_add_emod n d
  have h2:=Int.emod_nonneg n (show d≠0 by omega)
  have h3:=Int.emod_lt_of_pos n hd
  by_cases h:n % d>0
  · rw [if_pos h]
    have:(-n)/d=-(n/d)-1:=(Int.ediv_emod_unique hd (r:=d-n % d)).2 ⟨by
      have e:d*(-(n/d)-1)=-(d*(n/d))-d:=by grind
      rw [e]; omega,by omega,by omega⟩ |>.1
    omega
  · rw [if_neg h]
    have:(-n)/d=-(n/d):=(Int.ediv_emod_unique hd (r:=0)).2 ⟨by
      have e:d*(-(n/d))=-(d*(n/d)):=by grind
      rw [e]; omega,by omega,by omega⟩ |>.1
    omega
theorem cdiv_bounds {z d:Int} (hd:0<d):z≤cdiv z d*d∧cdiv z d*d<z+d:=by
  unfold cdiv
  have h1:=Int.mul_ediv_add_emod (-z) d
  have h2:=Int.emod_nonneg (-z) (show d≠0 by omega)
  have h3:=Int.emod_lt_of_pos (-z) hd
  have e:-((-z)/d)*d=-(d*((-z)/d)):=by grind
  rw [e]; omega
theorem fdiv_bounds {z d:Int} (hd:0<d):z/d*d≤z∧z<z/d*d+d:=by
  have h1:=Int.mul_ediv_add_emod z d
  have h2:=Int.emod_nonneg z (show d≠0 by omega)
  have h3:=Int.emod_lt_of_pos z hd
  rw [Int.mul_comm (z/d) d]; omega
section
variable {F:Nat} (hF:8589934592≤F)
include hF
omit hF in
theorem hi_lt {n d:Int} (hn:0≤n∧n≤2305843009213693952*d) (hd:0<d):n/18446744073709551616<d:=by omega
theorem up_pos {n d:Int} (hn:0≤n∧n≤2305843009213693952*d) (hd:0<d∧d<9223372036854775808):(∀ rc,zds F rc (n/18446744073709551616) (n % 18446744073709551616) d=some (cdiv n d))∧zbl F (n/18446744073709551616) (n % 18446744073709551616) d=some (cdiv n d) ∧
    ∀ rc,zbJ F rc (n/18446744073709551616) (n % 18446744073709551616) d=some (n/d):=by
  have h1:=hi_lt hn hd.1
  have hq:0≤n/d∧n/d≤2305843009213693952:=⟨Int.ediv_nonneg hn.1 (by omega),by
    have:=Int.ediv_le_ediv hd.1 hn.2
    rw [Int.mul_ediv_cancel _ (by omega)] at this
    exact this⟩
  have h2:=Int.emod_nonneg n (show d≠0 by omega)
  have e0:IntKind.u64.wrap (n/18446744073709551616)=n/18446744073709551616:=u64_id (by omega)
  have eD:=div64 (F:=F) (hi:=n/18446744073709551616) (lo:=n % 18446744073709551616) (y:=d) hF ⟨by omega,h1⟩ (by omega) (by omega)
  have eN:n/18446744073709551616*18446744073709551616+n % 18446744073709551616=n:=by omega
  rw [eN] at eD
  have ec:=cdiv_of (n:=n) hd.1
  refine ⟨fun rc=>?_,?_,fun rc=>?_⟩
  · unfold zds zcG
    rw [if_neg (by omega),e0,if_neg (by omega),eD,Option.bind_some,ec]
    by_cases hr:n % d>0
    · rw [if_pos hr,if_pos (by simp; omega),u64_id (x:=n/d+1) (by omega),if_neg (by omega),i64_of (by omega)]; rfl
    · rw [if_neg hr,if_neg (by simp; omega),if_neg (by omega),i64_of (by omega)]; rfl
  · unfold zbl zcH
    rw [if_neg (by omega),e0,if_neg (by omega),eD,Option.bind_some,ec]
    by_cases hr:n % d>0
    · rw [if_pos hr,if_pos (by simp; omega),u64_id (x:=n/d+1) (by omega),if_neg (by omega),i64_of (by omega)]; rfl
    · rw [if_neg hr,if_neg (by simp; omega),if_neg (by omega),i64_of (by omega)]; rfl
  · unfold zbJ
    rw [if_neg (by omega),e0,if_neg (by omega),eD,Option.bind_some,if_neg (by omega),i64_of (by omega)]
    try rfl
omit hF in
theorem Tw_of {z d:Int} (hz:-(2305843009213693952*d)≤z∧z≤2305843009213693952*d) (hd:0<d∧d<9223372036854775808):Tw z:=by
  unfold Tw; omega
theorem down_spec {z d:Int} (hz:-(2305843009213693952*d)≤z∧z≤2305843009213693952*d) (hd:0<d∧d<9223372036854775808):zbK F (z/18446744073709551616) (z % 18446744073709551616) d=some (z/d):=by
  obtain ⟨k,rfl⟩:∃ k,F=k+1:=⟨F-1,by omega⟩
  unfold zbK
  show zbJ (k+1) (zcc (k+1) k) _ _ _=_
  by_cases h:z<0
  · have hp:=(up_pos hF (n:=-z) (d:=d) (by omega) hd).1 (zcc (k+1) k)
    unfold zbJ
    rw [if_pos (by omega),neg_spec (Tw_of hz hd),Option.bind_some]
    simp only [hp,Option.bind_some]
    have e:cdiv (-z) d=-(z/d):=by unfold cdiv; rw [Int.neg_neg]
    have hb:-2305843009213693952≤z/d:=by
      rw [Int.le_ediv_iff_mul_le hd.1]; omega
    have hb2:z/d≤0:=by
      have:=Int.ediv_le_ediv hd.1 (show z≤0 by omega)
      simpa using this
    rw [e,Int.zero_sub,Int.neg_neg,i64_of (by omega)]
  · exact (up_pos hF (n:=z) (d:=d) (by omega) hd).2.2 _
theorem up_spec {z d:Int} (hz:-(2305843009213693952*d)≤z∧z≤2305843009213693952*d) (hd:0<d∧d<9223372036854775808):zbl F (z/18446744073709551616) (z % 18446744073709551616) d=some (cdiv z d):=by
  by_cases h:z<0
  · have hp:=down_spec hF (z:=-z) (d:=d) (by omega) hd
    unfold zbl
    rw [if_pos (by omega),neg_spec (Tw_of hz hd),Option.bind_some]
    simp only [hp,Option.bind_some]
    have hb:(-z)/d≤2305843009213693952:=by
      have:=Int.ediv_le_ediv hd.1 (show -z≤2305843009213693952*d by omega)
      rw [Int.mul_ediv_cancel _ (by omega)] at this
      exact this
    have hb2:0≤(-z)/d:=Int.ediv_nonneg (by omega) (by omega)
    rw [Int.zero_sub,i64_of (by omega)]
    rfl
  · exact (up_pos hF (n:=z) (d:=d) (by omega) hd).2.1
omit hF in
theorem check1 {a b:Int} (h:a≤b∧-2305843009213693952≤a∧b≤2305843009213693952):zbW F a b=some 0:=by
  unfold zbW zdK
  rw [if_neg (by simp; omega)]
omit hF in
theorem check2 {a b c d:Int} (h:a≤b∧-2305843009213693952≤a∧b≤2305843009213693952) (h':c≤d∧-2305843009213693952≤c∧d≤2305843009213693952):zcp F a b c d=some 0:=by
  unfold zcp zdO
  rw [if_neg (by simp; omega),if_neg (by simp; omega)]
omit hF in
theorem made_ok {a b:Int} (h:-2305843009213693952≤a∧b≤2305843009213693952):zck F a b=some (a,b,0):=by
  unfold zck
  rw [if_neg (by simp; omega)]
theorem scale_spec {a b n d:Int} (hab:a≤b∧-2305843009213693952≤a∧b≤2305843009213693952) (hn:I64 n) (hd:0<d∧d<9223372036854775808) (h1:-(2305843009213693952*d)≤a*n∧a*n≤2305843009213693952*d) (h2:-(2305843009213693952*d)≤b*n∧b*n≤2305843009213693952*d) :
    za5 F a b n d=some ((if b*n<a*n then b*n else a*n)/d,cdiv (if a*n<b*n then b*n else a*n) d,0):=by
  unfold za5 zdR
  have ia:I64 a:=by unfold I64; omega
  have ib:I64 b:=by unfold I64; omega
  rw [check1 hab,Option.bind_some,if_neg (by simp),if_neg (by omega),times_spec ia hn,Option.bind_some,times_spec ib hn,Option.bind_some,if_neg (by omega),u64_id (x:=d) (by omega)]
  simp only [least_spec,greatest_spec,Option.bind_some]
  obtain ⟨L,hL⟩:∃ L,L=if b*n<a*n then b*n else a*n:=⟨_,rfl⟩
  obtain ⟨G,hG⟩:∃ G,G=if a*n<b*n then b*n else a*n:=⟨_,rfl⟩
  rw [← hL,← hG]
  have rL:-(2305843009213693952*d)≤L∧L≤2305843009213693952*d:=by rw [hL]; split <;> assumption
  have rG:-(2305843009213693952*d)≤G∧G≤2305843009213693952*d:=by rw [hG]; split <;> assumption
  rw [down_spec hF rL hd,Option.bind_some,up_spec hF rG hd,Option.bind_some]
  have b1:=fdiv_bounds (z:=L) hd.1
  have b2:=cdiv_bounds (z:=G) hd.1
  have b3:-2305843009213693952≤L/d:=(Int.le_ediv_iff_mul_le hd.1).2 (by omega)
  have b4:cdiv G d≤2305843009213693952:=by
    unfold cdiv
    have:-2305843009213693952≤(-G)/d:=(Int.le_ediv_iff_mul_le hd.1).2 (by omega)
    omega
  rw [made_ok ⟨b3,b4⟩,Option.bind_some]
omit hF in
theorem add_spec {a b c d:Int} (h:a≤b∧-2305843009213693952≤a∧b≤2305843009213693952) (h':c≤d∧-2305843009213693952≤c∧d≤2305843009213693952) (h1:-2305843009213693952≤a+c) (h2:b+d≤2305843009213693952):zfg F a b c d=some (a+c,b+d,0):=by
  unfold zfg
  rw [check2 h h',Option.bind_some,if_neg (by simp),i64_of (x:=a+c) (by omega),i64_of (x:=b+d) (by omega),made_ok ⟨h1,h2⟩,Option.bind_some]
end
end Go.Proofs.YtjaiebdcmjjnbaaGreat
