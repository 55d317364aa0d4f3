/- What the models of the reference of layer 2 (fractions) give, and the square of plan's reference. -/
import Derived.Test.YtjaiebdcmjjnbaaGreatRM5
set_option linter.unusedVariables false
set_option linter.unusedSimpArgs false
namespace Go.Proofs.YtjaiebdcmjjnbaaGreat
open Go Go.SL
section
variable {F:Nat} (hF:4300000000≤F)
include hF
theorem q_Whole {x:Int} (h:-9223372036854775808≤x∧x≤9223372036854775807):∃ a b c d,zaS F x=some (a,b,c,d)∧IsF a b c d x 1∧b.length≤2∧d.length≤2:=by
  obtain ⟨b1,l1,h1,h2⟩:=r_From hF h
  obtain ⟨b2,l2,h3,h4⟩:=r_From hF (x:=1) (by omega)
  unfold zaS
  rw [h1,Option.bind_some,h3]
  exact ⟨b1,l1,b2,l2,rfl,⟨h2,h4,by omega,Int.gcd_one_right ..⟩,one_len h2 (by omega),one_len h4 (by omega)⟩
theorem q_Check {bn:Bool} {ln:List Int} {bd:Bool} {ld:List Int} {p q:Int} (h:IsF bn ln bd ld p q) (hn:ln.length≤2000) (hd:ld.length≤2000):zdd F bn ln bd ld=some 0:=by
  unfold zdd zdB
  obtain ⟨g,h1,h2⟩:=r_Gcd hF h.num h.den hn hd
  rw [h.cop] at h2
  have hg:IsW false g 1:=IsW.ofNat h2
  have hgl:=one_len hg (by omega)
  obtain ⟨b1,l1,h3,h4⟩:=r_From hF (x:=1) (by omega)
  have hbd:bd=false:=by have:=h.pos; rw [h.den.neg]; simp; omega
  have hld:¬ (ld.length:Int)=0:=fun e=>by
    have:=h.den.pos.1 (List.length_eq_zero_iff.1 (by omega))
    have:=h.pos; omega
  rw [r_Check h.num (by omega),Option.bind_some,if_neg (by simp),r_Check h.den (by omega),Option.bind_some,hbd]
  rw [hbd] at h1
  rw [if_neg (by simpa using hld),h1,Option.bind_some,h3,Option.bind_some,r_Same hF hg h4 (by omega),Option.bind_some]
  simp
theorem q_both {bn:Bool} {ln:List Int} {bd:Bool} {ld:List Int} {p q:Int} {bn':Bool} {ln':List Int} {bd':Bool} {ld':List Int} {p' q':Int} (h:IsF bn ln bd ld p q) (h':IsF bn' ln' bd' ld' p' q') (k1:ln.length≤900) (k2:ld.length≤900) (k3:ln'.length≤900) (k4:ld'.length≤900) :
    zel F bn ln bd ld bn' ln' bd' ld'=some 0:=by
  unfold zel
  rw [q_Check hF h (by omega) (by omega),Option.bind_some,if_neg (by simp),q_Check hF h' (by omega) (by omega),Option.bind_some]
theorem q_Reduced {bn:Bool} {ln:List Int} {bd:Bool} {ld:List Int} {p q:Int} (h:IsW bn ln p) (h':IsW bd ld q) (hq:q≠0) (hn:ln.length≤2000) (hd:ld.length≤2000) :
    ∃ a b c d p' q',zbk F bn ln bd ld=some (a,b,c,d)∧IsF a b c d p' q'∧p'*q=p*q'∧b.length≤ln.length∧d.length≤ld.length:=by
  unfold zbk
  obtain ⟨g,h1,h2⟩:=r_Gcd hF h h' hn hd
  have hg:IsW false g ((Int.gcd p q:Nat):Int):=IsW.ofNat h2
  have hg0:0<Int.gcd p q:=Int.gcd_pos_iff.2 (.inr hq)
  have hgq:Int.gcd p q≤q.natAbs:=Nat.le_of_dvd (by omega) (Int.gcd_dvd_natAbs_right p q)
  have hgl:=abs_len h' hg (by rw [Int.natAbs_natCast]; exact hgq)
  rw [h1,Option.bind_some]
  have key:∀ (b:Bool) (l:List Int) (G:Int),IsW b l G→l.length≤2000→G.natAbs=Int.gcd p q→(q<0↔G<0)→∃ a b' c d p' q',zcg F bn ln bd ld b l=some (a,b',c,d)∧IsF a b' c d p' q'∧p'*q=p*q'∧b'.length≤ln.length∧d.length≤ld.length:=fun b l G hG hGl hGa hsg=>by
    unfold zcg
    have hG0:G≠0:=by omega
    obtain ⟨a1,b1,_,_,Q1,R1,g1,g2,_,g3⟩:=r_DivMod hF h hG hG0 hn hGl
    obtain ⟨a2,b2,_,_,Q2,R2,g4,g5,_,g6⟩:=r_DivMod hF h' hG hG0 hd hGl
    rw [g1,Option.bind_some,g4,Option.bind_some]
    have d1:G∣p:=by
      rw [← Int.natAbs_dvd,hGa]; exact Int.gcd_dvd_left ..
    have d2:G∣q:=by
      rw [← Int.natAbs_dvd,hGa]; exact Int.gcd_dvd_right ..
    obtain ⟨_,e1⟩:=DMx g3 d1
    obtain ⟨_,e2⟩:=DMx g6 d2
    have hQ2:0<Q2:=by
      rcases Int.lt_or_le 0 Q2 with h5 | h5
      · exact h5
      · exfalso
        rcases Int.lt_or_le 0 G with h6 | h6
        · have:G*Q2≤0:=Int.mul_nonpos_of_nonneg_of_nonpos (by omega) h5
          have:=hsg
          omega
        · have:0≤G*Q2:=Int.mul_nonneg_of_nonpos_of_nonpos h6 h5
          omega
    have hc:Int.gcd Q1 Q2=1:=by
      have h7:Int.gcd p q=G.natAbs*Int.gcd Q1 Q2:=by rw [e1,e2,Int.gcd_mul_left]
      rw [hGa] at h7
      have:Int.gcd p q*Int.gcd Q1 Q2=Int.gcd p q*1:=by omega
      exact Nat.eq_of_mul_eq_mul_left hg0 this
    have hrel:Q1*q=p*Q2:=by rw [e1,e2]; grind
    refine ⟨a1,b1,a2,b2,Q1,Q2,rfl,⟨g2,g5,hQ2,hc⟩,hrel,abs_len h g2 ?_,abs_len h' g5 ?_⟩
    · rw [e1,Int.natAbs_mul]; exact Nat.le_mul_of_pos_left _ (by omega)
    · rw [e2,Int.natAbs_mul]; exact Nat.le_mul_of_pos_left _ (by omega)
  by_cases hb:bd=true
  · rw [if_pos hb]
    obtain ⟨c,r,h3,h4⟩:=r_Neg hF hg (by omega)
    have hrl:=abs_len hg h4 (by omega)
    rw [h3,Option.bind_some]
    refine key c r _ h4 (by omega) (by omega) ?_
    have:=h'.neg
    rw [hb] at this
    have:q<0:=by simpa using this.symm
    omega
  · rw [if_neg hb]
    refine key false g _ hg (by omega) (by rw [Int.natAbs_natCast]) ?_
    have:=h'.neg
    have hb':bd=false:=by simpa using hb
    rw [hb'] at this
    have:¬ q<0:=by simpa using this.symm
    omega
theorem q_product {b1:Bool} {l1:List Int} {p1:Int} {b2:Bool} {l2:List Int} {p2:Int} {b3:Bool} {l3:List Int} {p3:Int} {b4:Bool} {l4:List Int} {p4:Int} (h1:IsW b1 l1 p1) (h2:IsW b2 l2 p2) (h3:IsW b3 l3 p3) (h4:IsW b4 l4 p4) (k1:l1.length≤900) (k2:l2.length≤900) (k3:l3.length≤900) (k4:l4.length≤900) (h0:p3*p4≠0) :
    ∃ a b c d P Q,zd8 F b1 l1 b2 l2 b3 l3 b4 l4=some (a,b,c,d,0)∧IsF a b c d P Q∧P*(p3*p4)=(p1*p2)*Q∧b.length≤l1.length+l2.length∧d.length≤l3.length+l4.length:=by
  unfold zd8
  obtain ⟨c1,r1,e1,e2⟩:=r_Mul hF h1 h2 (by omega) (by omega)
  obtain ⟨c2,r2,e3,e4⟩:=r_Mul hF h3 h4 (by omega) (by omega)
  have g1:=mul_len h1 h2 e2
  have g2:=mul_len h3 h4 e4
  obtain ⟨a,b,c,d,P,Q,h5,h6,h7,h8,h9⟩:=q_Reduced hF e2 e4 h0 (by omega) (by omega)
  rw [e1,Option.bind_some,e3,Option.bind_some,if_neg (by simp),h5,Option.bind_some]
  exact ⟨a,b,c,d,P,Q,rfl,h6,h7,by omega,by omega⟩
omit hF in
theorem add_len {b b' c:Bool} {l l' r:List Int} {z z':Int} (h:IsW b l z) (h':IsW b' l' z') (hr:IsW c r (z+z')):r.length≤l.length+l'.length+1:=by
  refine hr.is.len ?_
  have h1:=h.is.lt; have h2:=h'.is.lt
  have h3:=BP_mono (show l.length≤l.length+l'.length by omega)
  have h4:=BP_mono (show l'.length≤l.length+l'.length by omega)
  rw [BP_succ]
  omega
def DAY:Int:=86400000000
end
end Go.Proofs.YtjaiebdcmjjnbaaGreat
