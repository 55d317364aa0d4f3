/- What the models of the package frac give. -/
import Derived.Test.YtdcfjndokifgeaaWM5
set_option linter.unusedVariables false
set_option linter.unusedSimpArgs false
namespace Go.SL
open Go
structure IsF (bn:Bool) (ln:List Int) (bd:Bool) (ld:List Int) (p q:Int):Prop where
  num:IsW bn ln p
  den:IsW bd ld q
  pos:0<q
  cop:Int.gcd p q=1
theorem cmpI_self (a:Int):cmpI a a=0:=by unfold cmpI; rw [if_neg (by omega),if_neg (by omega)]
theorem mul_len {b b' c:Bool} {l l' r:List Int} {z z':Int} (h:IsW b l z) (h':IsW b' l' z') (hr:IsW c r (z*z')):r.length≤l.length+l'.length:=by
  refine hr.is.len ?_
  rw [BP_add,Int.natAbs_mul]
  have h1:=h.is.lt; have h2:=h'.is.lt
  push_cast
  have h3:=BP_pos l.length
  have h4:(z.natAbs:Int)*(z'.natAbs:Int)≤(z.natAbs:Int)*BP l'.length:=Int.mul_le_mul_of_nonneg_left (by omega) (by omega)
  have h5:((z.natAbs:Int)+1)*BP l'.length≤BP l.length*BP l'.length:=Int.mul_le_mul_of_nonneg_right (by omega) (by have:=BP_pos l'.length; omega)
  have h6:=BP_pos l'.length
  rw [Int.add_mul] at h5
  omega
theorem abs_len {b c:Bool} {l r:List Int} {z z':Int} (h:IsW b l z) (hr:IsW c r z') (hle:z'.natAbs≤z.natAbs):r.length≤l.length:=hr.is.len (Int.lt_of_le_of_lt (by omega) h.is.lt)
theorem DMx {z z' Q R:Int} (h:z=z'*Q+R∧((0≤R∧R<z')∨(z'<R∧R≤0))) (hd:z'∣z):R=0∧z=z'*Q:=by
  obtain ⟨h1,h2⟩:=h
  have hR:z'∣R:=by
    have:R=z-z'*Q:=by omega
    rw [this]
    exact Int.dvd_sub hd (Int.dvd_mul_right z' Q)
  have:R=0:=by
    rcases h2 with ⟨h3,h4⟩ | ⟨h3,h4⟩
    · have:=Int.emod_eq_of_lt h3 h4
      rw [Int.emod_eq_zero_of_dvd hR] at this
      exact this.symm
    · have h5:(-R) % (-z')=-R:=Int.emod_eq_of_lt (by omega) (by omega)
      have h6:(-z')∣(-R):=by rw [Int.neg_dvd,Int.dvd_neg]; exact hR
      rw [Int.emod_eq_zero_of_dvd h6] at h5
      omega
  exact ⟨this,by omega⟩
end Go.SL
namespace Go.Proofs.Ytdcfjndokifgeaa
open Go Go.SL
section
variable {F:Nat} (hF:4300000000≤F)
include hF
theorem f_one:∃ b l,m_frac_one F=some (b,l)∧IsW b l 1:=by
  obtain ⟨b,l,h1,h2⟩:=w_From hF (x:=1) (by omega)
  unfold m_frac_one
  rw [h1]
  exact ⟨b,l,rfl,h2⟩
omit hF in
theorem one_len {b:Bool} {l:List Int} {z:Int} (h:IsW b l z) (hz:-18446744073709551616<z∧z<18446744073709551616):l.length≤2:=h.is.len (by
  have:BP 2=18446744073709551616:=by decide
  omega)
theorem f_Check {bn:Bool} {ln:List Int} {bd:Bool} {ld:List Int} {p q:Int} (h:IsF bn ln bd ld p q) (hn:ln.length≤2000) (hd:ld.length≤2000):m_frac_Check F bn ln bd ld=some 0:=by
  unfold m_frac_Check m_frac_zero m_frac_same
  obtain ⟨g,h1,h2⟩:=w_Gcd hF h.num h.den hn hd
  rw [h.cop] at h2
  have hg:IsW false g 1:=IsW.ofNat h2
  have hgl:=one_len hg (by omega)
  obtain ⟨b1,l1,h3,h4⟩:=f_one hF
  have hl1:=one_len h4 (by omega)
  have hbd:bd=false:=by have:=h.den.neg; have:=h.pos; rw [h.den.neg]; simp; omega
  have hld:¬ (ld.length:Int)=0:=fun e=>by
    have:=h.den.pos.1 (List.length_eq_zero_iff.1 (by omega))
    have:=h.pos; omega
  rw [h1,Option.bind_some,if_neg (by simp),hbd,if_neg (by simp),Option.bind_some,if_neg (by simpa using hld),h3,Option.bind_some,w_Cmp hg h4 (by omega) (by omega),Option.bind_some,Option.bind_some,cmpI_self]
  rfl
theorem f_reduce {bn:Bool} {ln:List Int} {bd:Bool} {ld:List Int} {p q:Int} (h:IsW bn ln p) (h':IsW bd ld q) (hq:q≠0) (hn:ln.length≤2000) (hd:ld.length≤2000) :
    ∃ a b c d p' q',m_frac_reduce F bn ln bd ld=some (a,b,c,d)∧IsF a b c d p' q'∧p'*q=p*q'∧b.length≤ln.length∧d.length≤ld.length:=by
  unfold m_frac_reduce m_frac_must
  obtain ⟨g,h1,h2⟩:=w_Gcd hF h h' hn hd
  have hg:IsW false g ((Int.gcd p q:Nat):Int):=IsW.ofNat h2
  have hg0:0<Int.gcd p q:=Int.gcd_pos_iff.2 (.inr hq)
  have hgq:Int.gcd p q≤q.natAbs:=Nat.le_of_dvd (by omega) (Int.gcd_dvd_natAbs_right p q)
  have hgl:=abs_len h' hg (by rw [Int.natAbs_natCast]; exact hgq)
  rw [h1,Option.bind_some,if_neg (by simp),Option.bind_some]
  have key:∀ (b:Bool) (l:List Int) (G:Int),IsW b l G→l.length≤2000→G.natAbs=Int.gcd p q→(q<0↔G<0)→∃ a b' c d p' q',m_frac_reduce_j1 F bn ln bd ld b l=some (a,b',c,d)∧IsF a b' c d p' q'∧p'*q=p*q'∧b'.length≤ln.length∧d.length≤ld.length:=fun b l G hG hGl hGa hsg=>by
    unfold m_frac_reduce_j1
    have hG0:G≠0:=by omega
    obtain ⟨a1,b1,_,_,Q1,R1,g1,g2,_,g3⟩:=w_DivMod hF h hG hG0 hn hGl
    obtain ⟨a2,b2,_,_,Q2,R2,g4,g5,_,g6⟩:=w_DivMod hF h' hG hG0 hd hGl
    rw [g1,Option.bind_some,g4,Option.bind_some]
    have d1:G∣p:=by
      rw [← Int.natAbs_dvd,hGa]; exact Int.gcd_dvd_left ..
    have d2:G∣q:=by
      rw [← Int.natAbs_dvd,hGa]; exact Int.gcd_dvd_right ..
    obtain ⟨_,e1⟩:=DMx g3 d1
    obtain ⟨_,e2⟩:=DMx g6 d2
    have hQ2:0<Q2:=by
      rcases Int.lt_or_le 0 Q2 with h5 | h5
      · exact h5
      · exfalso
        rcases Int.lt_or_le 0 G with h6 | h6
        · have:G*Q2≤0:=Int.mul_nonpos_of_nonneg_of_nonpos (by omega) h5
          have:=hsg
          omega
        · have:0≤G*Q2:=Int.mul_nonneg_of_nonpos_of_nonpos h6 h5
          omega
    have hc:Int.gcd Q1 Q2=1:=by
      have h7:Int.gcd p q=G.natAbs*Int.gcd Q1 Q2:=by rw [e1,e2,Int.gcd_mul_left]
      rw [hGa] at h7
      have:Int.gcd p q*Int.gcd Q1 Q2=Int.gcd p q*1:=by omega
      exact Nat.eq_of_mul_eq_mul_left hg0 this
    have hrel:Q1*q=p*Q2:=by rw [e1,e2]; grind
    refine ⟨a1,b1,a2,b2,Q1,Q2,rfl,⟨g2,g5,hQ2,hc⟩,hrel,abs_len h g2 ?_,abs_len h' g5 ?_⟩
    · rw [e1,Int.natAbs_mul]; exact Nat.le_mul_of_pos_left _ (by omega)
    · rw [e2,Int.natAbs_mul]; exact Nat.le_mul_of_pos_left _ (by omega)
  by_cases hb:bd=true
  · rw [if_pos hb]
    obtain ⟨c,r,h3,h4⟩:=w_Neg hF hg (by omega)
    have hrl:=abs_len hg h4 (by omega)
    rw [h3,Option.bind_some,if_neg (by simp),Option.bind_some]
    refine key c r _ h4 (by omega) (by omega) ?_
    have:=h'.neg
    rw [hb] at this
    have:q<0:=by simpa using this.symm
    omega
  · rw [if_neg hb]
    refine key false g _ hg (by omega) (by rw [Int.natAbs_natCast]) ?_
    have:=h'.neg
    have hb':bd=false:=by simpa using hb
    rw [hb'] at this
    have:¬ q<0:=by simpa using this.symm
    omega
theorem f_Make {bn:Bool} {ln:List Int} {bd:Bool} {ld:List Int} {p q:Int} (h:IsW bn ln p) (h':IsW bd ld q) (hq:q≠0) (hn:ln.length≤2000) (hd:ld.length≤2000) :
    ∃ a b c d p' q',m_frac_Make F bn ln bd ld=some (a,b,c,d)∧IsF a b c d p' q'∧p'*q=p*q'∧b.length≤ln.length∧d.length≤ld.length:=by
  unfold m_frac_Make m_wide_Check m_frac_want m_frac_zero m_frac_Make_j1
  obtain ⟨a,b,c,d,p',q',h1,h2⟩:=f_reduce hF h h' hq hn hd
  have hl0:¬ (ld.length:Int)=0:=fun e=>hq (h'.pos.1 (List.length_eq_zero_iff.1 (by omega)))
  simp only [w_check1 h (show ln.length≤4096 by omega),w_check1 h' (show ld.length≤4096 by omega),Option.bind_some,ne_eq,not_true_eq_false,if_false,decide_eq_true_eq,hl0,h1]
  exact ⟨a,b,c,d,p',q',rfl,h2⟩
theorem f_Of {n d:Int} (hn:-9223372036854775808≤n∧n≤9223372036854775807) (hd:-9223372036854775808≤d∧d≤9223372036854775807) (h0:d≠0) :
    ∃ a b c e p q,m_frac_Of F n d=some (a,b,c,e)∧IsF a b c e p q∧p*d=n*q∧b.length≤2∧e.length≤2:=by
  unfold m_frac_Of
  obtain ⟨b1,l1,h1,h2⟩:=w_From hF hn
  obtain ⟨b2,l2,h3,h4⟩:=w_From hF hd
  have g1:=one_len h2 (by omega)
  have g2:=one_len h4 (by omega)
  obtain ⟨a,b,c,e,p,q,h5,h6,h7,h8,h9⟩:=f_Make hF h2 h4 h0 (by omega) (by omega)
  rw [h1,Option.bind_some,h3,Option.bind_some,h5,Option.bind_some]
  exact ⟨a,b,c,e,p,q,rfl,h6,h7,by omega,by omega⟩
end
end Go.Proofs.Ytdcfjndokifgeaa
