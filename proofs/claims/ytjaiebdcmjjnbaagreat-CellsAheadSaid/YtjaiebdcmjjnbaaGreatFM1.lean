/- What the models of the package frac give. -/
import Derived.Test.YtjaiebdcmjjnbaaGreatWM5
set_option linter.unusedVariables false
set_option linter.unusedSimpArgs false
namespace Go.SL
open Go
structure IsF (bn:Bool) (ln:List Int) (bd:Bool) (ld:List Int) (p q:Int):Prop where
  num:IsW bn ln p
  den:IsW bd ld q
  pos:0<q
  cop:Int.gcd p q=1
theorem mul_len {b b' c:Bool} {l l' r:List Int} {z z':Int} (h:IsW b l z) (h':IsW b' l' z') (hr:IsW c r (z*z')):r.length≤l.length+l'.length:=by
  refine hr.is.len ?_
  rw [BP_add,Int.natAbs_mul]
  have h1:=h.is.lt; have h2:=h'.is.lt
  push_cast
  have h3:=BP_pos l.length
  have h4:(z.natAbs:Int)*(z'.natAbs:Int)≤(z.natAbs:Int)*BP l'.length:=Int.mul_le_mul_of_nonneg_left (by omega) (by omega)
  have h5:((z.natAbs:Int)+1)*BP l'.length≤BP l.length*BP l'.length:=Int.mul_le_mul_of_nonneg_right (by omega) (by have:=BP_pos l'.length; omega)
  have h6:=BP_pos l'.length
  rw [Int.add_mul] at h5
  omega
theorem abs_len {b c:Bool} {l r:List Int} {z z':Int} (h:IsW b l z) (hr:IsW c r z') (hle:z'.natAbs≤z.natAbs):r.length≤l.length:=hr.is.len (Int.lt_of_le_of_lt (by omega) h.is.lt)
theorem DMx {z z' Q R:Int} (h:z=z'*Q+R∧((0≤R∧R<z')∨(z'<R∧R≤0))) (hd:z'∣z):R=0∧z=z'*Q:=by
  obtain ⟨h1,h2⟩:=h
  have hR:z'∣R:=by
    have:R=z-z'*Q:=by omega
    rw [this]
    exact Int.dvd_sub hd (Int.dvd_mul_right z' Q)
  have:R=0:=by
    rcases h2 with ⟨h3,h4⟩ | ⟨h3,h4⟩
    · have:=Int.emod_eq_of_lt h3 h4
      rw [Int.emod_eq_zero_of_dvd hR] at this
      exact this.symm
    · have h5:(-R) % (-z')=-R:=Int.emod_eq_of_lt (by omega) (by omega)
      have h6:(-z')∣(-R):=by rw [Int.neg_dvd,Int.dvd_neg]; exact hR
      rw [Int.emod_eq_zero_of_dvd h6] at h5
      omega
  exact ⟨this,by omega⟩
end Go.SL
namespace Go.Proofs.YtjaiebdcmjjnbaaGreat
open Go Go.SL
section
variable {F:Nat} (hF:4300000000≤F)
include hF
omit hF in
theorem one_len {b:Bool} {l:List Int} {z:Int} (h:IsW b l z) (hz:-18446744073709551616<z∧z<18446744073709551616):l.length≤2:=h.is.len (by
  have:BP 2=18446744073709551616:=by decide
  omega)
end
end Go.Proofs.YtjaiebdcmjjnbaaGreat
