/- The law PlanSpread of the models. -/
import Derived.Test.YtipedambeemdaaaRM6
import Derived.Test.YtipedambeemdaaaWM6
set_option linter.unusedVariables false
set_option linter.unusedSimpArgs false
namespace Go.Proofs.Ytipedambeemdaaa
open Go Go.SL
def ZZ (s r t:Int):Int:=(s*DAY)*(s*DAY)+(r*t)*(r*t)
structure SP (s r t n:Int):Prop where
  pos:0≤n
  up:ZZ s r t≤(n*DAY)*(n*DAY)
  low:0<n→((n-1)*DAY)*((n-1)*DAY)<ZZ s r t
def okS (s r t:Int):Prop:=(0≤s∧s≤10000000000)∧(0≤r∧r≤72000000000)∧(-8640000000000≤t∧t≤8640000000000)
theorem mul_bnd {a b A B:Int} (ha:0≤a∧a≤A) (hb:-B≤b∧b≤B):-(A*B)≤a*b∧a*b≤A*B:=by
  have h1:a*b≤a*B:=Int.mul_le_mul_of_nonneg_left hb.2 ha.1
  have h2:a*(-B)≤a*b:=Int.mul_le_mul_of_nonneg_left hb.1 ha.1
  have h3:a*B≤A*B:=Int.mul_le_mul_of_nonneg_right ha.2 (by omega)
  rw [Int.mul_neg] at h2
  omega
theorem sq_bnd {x M:Int} (h:-M≤x∧x≤M):0≤x*x∧x*x≤M*M:=by
  rcases Int.lt_or_le x 0 with h0 | h0
  · have e:x*x=(-x)*(-x):=by grind
    rw [e]
    exact ⟨Int.mul_nonneg (by omega) (by omega),Int.mul_le_mul (by omega) (by omega) (by omega) (by omega)⟩
  · exact ⟨Int.mul_nonneg (by omega) (by omega),Int.mul_le_mul (by omega) (by omega) (by omega) (by omega)⟩
theorem SP.mono {s r t n s' r' t' n':Int} (h:SP s r t n) (h':SP s' r' t' n') (hz:ZZ s r t≤ZZ s' r' t'):n≤n':=by
  rcases Int.lt_or_le n' n with h1 | h1
  · exfalso
    have h0:=h'.pos
    have h2:=h.low (by omega)
    have h3:=h'.up
    have hD:(0:Int)<DAY:=by decide
    have h4:=sq_mono (a:=n'*DAY) (b:=(n-1)*DAY) (Int.mul_nonneg h0 (by omega)) (Int.mul_le_mul_of_nonneg_right (by omega) (by omega))
    omega
  · exact h1
theorem SP.uniq {s r t n s' r' t' n':Int} (h:SP s r t n) (h':SP s' r' t' n') (hz:ZZ s r t=ZZ s' r' t'):n=n':=by
  have h1:=h.mono h' (by omega)
  have h2:=h'.mono h (by omega)
  omega
section
variable {F:Nat} (hF:4300000000≤F)
include hF
omit hF in
theorem keep0 (b:Bool) (l:List Int):m_plan_calc_keep_p F 0 b l 0=some 0:=rfl
theorem p_square {a b:Int} (ha:-9223372036854775808≤a∧a≤9223372036854775807) (hb:-9223372036854775808≤b∧b≤9223372036854775807):∃ c l,m_plan_calc_square_p F 0 a b=some (c,l,0)∧IsW c l ((a*b)*(a*b))∧l.length≤8:=by
  unfold m_plan_calc_square_p
  obtain ⟨b1,l1,h1,h2⟩:=w_From hF ha
  obtain ⟨b2,l2,h3,h4⟩:=w_From hF hb
  have g1:=one_len h2 (by omega)
  have g2:=one_len h4 (by omega)
  obtain ⟨b3,l3,h5,h6⟩:=w_Mul hF h2 h4 (by omega) (by omega)
  have g3:=mul_len h2 h4 h6
  obtain ⟨b4,l4,h7,h8⟩:=w_Mul hF h6 h6 (by omega) (by omega)
  have g4:=mul_len h6 h6 h8
  simp only [h1,h3,h5,h7,Option.bind_some,keep0]
  exact ⟨b4,l4,rfl,h8,by omega⟩
theorem p_Spread {s r t:Int} (h:okS s r t):∃ n,m_plan_Spread F s r t=some (n,0)∧SP s r t n:=by
  obtain ⟨hs,hr,ht⟩:=h
  have hD:DAY=86400000000:=rfl
  unfold m_plan_Spread
  rw [if_neg (by simp; omega)]
  obtain ⟨b1,l1,h1,i1,k1⟩:=p_square hF (a:=s) (b:=86400000000) (by omega) (by omega)
  obtain ⟨b2,l2,h2,i2,k2⟩:=p_square hF (a:=r) (b:=t) (by omega) (by omega)
  obtain ⟨b3,l3,h3,i3⟩:=w_Add hF i1 i2 (by omega) (by omega)
  have hrt:=mul_bnd hr ht
  have hs2:=sq_bnd (x:=s*86400000000) (M:=864000000000000000000) (by omega)
  have hr2:=sq_bnd (x:=r*t) (M:=622080000000000000000000) (by omega)
  have hz0:0≤ZZ s r t:=by unfold ZZ; rw [hD]; omega
  have hzB:ZZ s r t≤1000000000000000000000000*1000000000000000000000000:=by unfold ZZ; rw [hD]; omega
  have hi3:IsW b3 l3 (ZZ s r t):=i3
  generalize hZ:ZZ s r t=Z at *
  have hb3:b3=false:=by rw [hi3.neg]; simp; omega
  subst hb3
  have k3:l3.length≤5:=hi3.is.len (by
    have:BP 5=4294967296*4294967296*4294967296*4294967296*4294967296:=by decide
    omega)
  obtain ⟨m,hm1,hm2⟩:=isqrt_ex Z.toNat
  have q1:(m:Int)*m≤Z:=by
    have:((m*m:Nat):Int)≤Z:=by omega
    push_cast at this; exact this
  have q2:Z<((m:Int)+1)*(m+1):=by
    have:Z<(((m+1)*(m+1):Nat):Int):=by omega
    push_cast at this; exact this
  have hmB:(m:Int)≤1000000000000000000000000:=sq_le (by omega) (by omega)
  obtain ⟨b4,l4,h4,i4⟩:=w_Sqrt hF hi3 (by omega) (s:=(m:Int)) (by omega) q1 q2
  have k4:l4.length≤3:=i4.is.len (by
    have:BP 3=4294967296*4294967296*4294967296:=by decide
    omega)
  obtain ⟨b5,l5,h5,i5⟩:=w_Mul hF i4 i4 (by omega) (by omega)
  have k5:=mul_len i4 i4 i5
  have h6:=w_Cmp (F:=F) i5 hi3 (by omega) (by omega)
  simp only [h1,h2,h3,h4,h5,h6,Option.bind_some,keep0]
  have key:∀ (b:Bool) (l:List Int) (R:Int),IsW b l R→0≤R→R≤1000000000000000000000001→Z≤R*R→(0<R→(R-1)*(R-1)<Z)→∃ n,m_plan_Spread_j2 F 0 b l=some (n,0)∧0≤n∧Z≤(n*DAY)*(n*DAY)∧(0<n→((n-1)*DAY)*((n-1)*DAY)<Z):=fun b l R hR hR0 hRB hup hlow=>by
    unfold m_plan_Spread_j2
    have kR:l.length≤3:=hR.is.len (by
      have:BP 3=4294967296*4294967296*4294967296:=by decide
      omega)
    obtain ⟨c1,d1,e1,f1⟩:=w_From hF (x:=86400000000) (by omega)
    have g1:=one_len f1 (by omega)
    obtain ⟨c2,d2,c3,d3,Q,R1,e2,f2,f3,e3,e4⟩:=w_DivMod hF hR f1 (by omega) (by omega) (by omega)
    have k2:=f2.is; have k3:=f3.is
    have hR1:0≤R1∧R1<86400000000:=by omega
    have hQ:0≤Q∧Q≤100000000000000:=by omega
    have kd2:=one_len f2 (by omega)
    have kd3:=one_len f3 (by omega)
    simp only [e1,e2,Option.bind_some,keep0,w_Sign (F:=F) f3 (by omega)]
    have fin:∀ (b:Bool) (l:List Int) (n:Int),IsW b l n→(0≤n∧n≤100000000000001)→(R≤n*DAY)→(0<n→(n-1)*DAY<R)→∃ n,m_plan_Spread_j1 F 0 b l=some (n,0)∧0≤n∧Z≤(n*DAY)*(n*DAY)∧(0<n→((n-1)*DAY)*((n-1)*DAY)<Z):=fun b l n hn hnB hnu hnl=>by
      unfold m_plan_Spread_j1
      rw [if_neg (by simp),w_Int hF hn (by omega),Option.bind_some]
      refine ⟨n,rfl,hnB.1,?_,fun h0=>?_⟩
      · have:=sq_mono hR0 hnu
        omega
      · have h1:=hnl h0
        have h2:=sq_mono (a:=(n-1)*DAY) (b:=R-1) (Int.mul_nonneg (by omega) (by omega)) (by omega)
        have h3:0≤(n-1)*DAY:=Int.mul_nonneg (by omega) (by omega)
        have h4:=hlow (by omega)
        omega
    by_cases hc:0<R1
    · rw [if_pos (by unfold cmpI; rw [if_neg (by omega),if_pos (by omega)]; omega)]
      obtain ⟨c4,d4,e5,f4⟩:=w_From hF (x:=1) (by omega)
      have g4:=one_len f4 (by omega)
      obtain ⟨c5,d5,e6,f5⟩:=w_Add hF f2 f4 (by omega) (by omega)
      simp only [e5,e6,Option.bind_some,keep0]
      exact fin c5 d5 (Q+1) f5 (by omega) (by rw [hD]; omega) (fun _=>by rw [hD]; omega)
    · rw [if_neg (by unfold cmpI; rw [if_neg (by omega),if_neg (by omega)]; omega)]
      exact fin c2 d2 Q f2 (by omega) (by rw [hD]; omega) (fun _=>by rw [hD]; omega)
  by_cases hc:(m:Int)*m<Z
  · rw [if_pos (by unfold cmpI; rw [if_pos hc]; omega)]
    obtain ⟨c4,d4,e5,f4⟩:=w_From hF (x:=1) (by omega)
    have g4:=one_len f4 (by omega)
    obtain ⟨c5,d5,e6,f5⟩:=w_Add hF i4 f4 (by omega) (by omega)
    simp only [e5,e6,Option.bind_some,keep0]
    obtain ⟨n,g1,g2,g3,g4⟩:=key c5 d5 ((m:Int)+1) f5 (by omega) (by omega) (by omega) (fun _=>by rw [Int.add_sub_cancel]; exact hc)
    exact ⟨n,g1,⟨g2,by rw [hZ]; exact g3,by rw [hZ]; exact g4⟩⟩
  · rw [if_neg (by unfold cmpI; rw [if_neg hc]; split <;> omega)]
    obtain ⟨n,g1,g2,g3,g4⟩:=key b4 l4 (m:Int) i4 (by omega) (by omega) (by omega) (fun h0=>by
      have h1:(m:Int)*m=Z:=by omega
      have h2:((m:Int)-1)*(m-1)=m*m-2*m+1:=by grind
      omega)
    exact ⟨n,g1,⟨g2,by rw [hZ]; exact g3,by rw [hZ]; exact g4⟩⟩
omit hF in
theorem p_err {s r t:Int} (h:¬ okS s r t):m_plan_Spread F s r t=some (0,2):=by
  unfold m_plan_Spread
  rw [if_pos]
  unfold okS at h
  simp only [Bool.or_eq_true,decide_eq_true_eq]
  omega
theorem p_cmp {n s r t P Q:Int} {bn:Bool} {ln:List Int} {bd:Bool} {ld:List Int} (hn:-9223372036854775808≤n∧n≤9223372036854775807) (h:IsF bn ln bd ld P Q) (k1:ln.length≤60) (k2:ld.length≤60) (hP:P*(DAY*DAY)=(s*s*(DAY*DAY)+(r*t)*(r*t))*Q) :
    ∃ a b c d a' b' c' d' v,m_frac_Of F n 1=some (a,b,c,d)∧m_frac_Mul F a b c d a b c d=some (a',b',c',d')∧m_frac_Cmp F a' b' c' d' bn ln bd ld=some (v,0)∧(0≤v↔ZZ s r t≤(n*DAY)*(n*DAY)):=by
  obtain ⟨a,b,c,d,p,q,h1,f1,r1,g1,g2⟩:=f_Of hF (n:=n) (d:=1) hn (by omega) (by omega)
  obtain ⟨a',b',c',d',P2,Q2,h2,f2,r2,g3,g4⟩:=f_Mul hF f1 f1 (by omega) (by omega) (by omega) (by omega)
  have h3:=f_Cmp hF f2 h (by omega) (by omega) (by omega) (by omega)
  refine ⟨a,b,c,d,a',b',c',d',_,h1,h2,h3,?_⟩
  have hq:=f1.pos; have hQ2:=f2.pos; have hQ:=h.pos
  have hD:(0:Int)<DAY*DAY:=by decide
  have e1:P2=n*n*Q2:=by
    refine Int.eq_of_mul_eq_mul_right (show q*q≠0 from Int.mul_ne_zero (by omega) (by omega)) ?_
    rw [r2]
    rw [Int.mul_one] at r1
    rw [r1]; grind
  have e2:ZZ s r t*Q=P*(DAY*DAY):=by rw [hP]; unfold ZZ; generalize DAY=D; grind
  have e3:(n*DAY)*(n*DAY)*Q=n*n*Q*(DAY*DAY):=by generalize DAY=D; grind
  have e4:0≤cmpI (P2*Q) (P*Q2)↔P*Q2≤P2*Q:=by
    unfold cmpI
    split
    · omega
    · split <;> omega
  rw [e4,e1]
  have e5:n*n*Q2*Q=(n*n*Q)*Q2:=by grind
  rw [e5]
  constructor
  · intro h4
    have h5:P≤n*n*Q:=Int.le_of_mul_le_mul_right h4 hQ2
    have h6:P*(DAY*DAY)≤n*n*Q*(DAY*DAY):=Int.mul_le_mul_of_nonneg_right h5 (by omega)
    rw [← e2,← e3] at h6
    exact Int.le_of_mul_le_mul_right h6 hQ
  · intro h4
    have h5:ZZ s r t*Q≤(n*DAY)*(n*DAY)*Q:=Int.mul_le_mul_of_nonneg_right h4 (by omega)
    rw [e2,e3] at h5
    exact Int.mul_le_mul_of_nonneg_right (Int.le_of_mul_le_mul_right h5 hD) (by omega)
theorem spread_law (hal:m_law42_alive F=some true) {s r t e:Int} (h1:-9223372036854775808≤s∧s≤9223372036854775807) (h2:-9223372036854775808≤r∧r≤9223372036854775807) (h3:-9223372036854775808≤t∧t≤9223372036854775807):m_law42_PlanSpread F s r t e=some true:=by
  unfold m_law42_PlanSpread
  rw [hal,Option.bind_some]
  by_cases hok:okS s r t
  · obtain ⟨n,g1,g2⟩:=p_Spread hF hok
    obtain ⟨hs,hr,ht⟩:=hok
    have hn0:=g2.pos
    have hD:DAY=86400000000:=rfl
    have hzB:ZZ s r t≤1000000000000000000000000*1000000000000000000000000:=by
      have hrt:=mul_bnd hr ht
      have hs2:=sq_bnd (x:=s*86400000000) (M:=864000000000000000000) (by omega)
      have hr2:=sq_bnd (x:=r*t) (M:=622080000000000000000000) (by omega)
      unfold ZZ; rw [hD]; omega
    have hnB:n≤100000000000000:=by
      rcases Int.lt_or_le 0 n with h0 | h0
      · have h4:=g2.low h0
        have h5:(n-1)*DAY≤1000000000000000000000000:=sq_le (by omega) (by omega)
        rw [hD] at h5
        omega
      · omega
    rw [g1,Option.bind_some,if_neg (by simp)]
    obtain ⟨a,b,c,d,P,Q,e1,f1,r1,k1,k2⟩:=q_Square hF h1 h2 h3
    rw [e1,Option.bind_some]
    obtain ⟨a1,b1,c1,d1,a2,b2,c2,d2,v,e2,e3,e4,e5⟩:=p_cmp hF (n:=n) (by omega) f1 k1 k2 r1
    have hv:=e5.2 g2.up
    have hns:s≤n:=by
      rcases Int.lt_or_le n s with h0 | h0
      · exfalso
        have h4:=g2.up
        have h5:(s*DAY)*(s*DAY)≤ZZ s r t:=by
          unfold ZZ
          have:=(sq_bnd (x:=r*t) (M:=622080000000000000000000) (by have:=mul_bnd hr ht; omega)).1
          omega
        have h6:s*DAY≤n*DAY:=sq_le (Int.mul_nonneg hn0 (by omega)) (by omega)
        rw [hD] at h6
        omega
      · exact h0
    rw [e2,Option.bind_some,e3,Option.bind_some,e4,Option.bind_some,if_neg (by simp; omega)]
    have fin:m_law42_PlanSpread_j1 F s r t e true (n,0)=some true:=by
      unfold m_law42_PlanSpread_j1
      rw [i64_of (x:=0-t) (by omega)]
      obtain ⟨n',g3,g4⟩:=p_Spread hF (s:=s) (r:=r) (t:=0-t) ⟨hs,hr,by omega⟩
      have hz:ZZ s r (0-t)=ZZ s r t:=by unfold ZZ; generalize DAY=D; grind
      have hnn:=g4.uniq g2 hz
      subst hnn
      rw [g3,Option.bind_some]
      by_cases he:e<0∨e>1099511627776
      · rw [if_pos (by simpa using he)]; simp
      · rw [if_neg (by simpa using he),i64_of (x:=s+e) (by omega),i64_of (x:=r+e) (by omega)]
        have grow:∀ s' r':Int,s≤s'→r≤r'→∃ m k,m_plan_Spread F s' r' t=some (m,k)∧(k≠0∨n'≤m):=fun s' r' hs' hr'=>by
          by_cases hok:okS s' r' t
          · obtain ⟨m,g5,g6⟩:=p_Spread hF hok
            refine ⟨m,0,g5,.inr (g2.mono g6 ?_)⟩
            unfold ZZ
            have x1:=sq_mono (a:=s*DAY) (b:=s'*DAY) (Int.mul_nonneg hs.1 (by omega)) (Int.mul_le_mul_of_nonneg_right hs' (by omega))
            have x2:(r*t)*(r*t)≤(r'*t)*(r'*t):=by
              have y1:(r*t)*(r*t)=(r*r)*(t*t):=by grind
              have y2:(r'*t)*(r'*t)=(r'*r')*(t*t):=by grind
              rw [y1,y2]
              exact Int.mul_le_mul_of_nonneg_right (sq_mono hr.1 hr') (sq_bnd (x:=t) (M:=8640000000000) ht).1
            omega
          · exact ⟨0,2,p_err hok,.inl (by omega)⟩
        obtain ⟨m1,k1,g5,g6⟩:=grow (s+e) r (by omega) (by omega)
        obtain ⟨m2,k2,g7,g8⟩:=grow s (r+e) (by omega) (by omega)
        rw [g5,Option.bind_some,g7,Option.bind_some]
        simp only [Option.some.injEq,Bool.and_eq_true,Bool.or_eq_true,decide_eq_true_eq,ge_iff_le,true_and,and_true]
        exact ⟨g6,g8⟩
    by_cases h0:n>0
    · rw [if_pos h0,i64_of (x:=n-1) (by omega)]
      obtain ⟨a3,b3,c3,d3,a4,b4,c4,d4,v2,e6,e7,e8,e9⟩:=p_cmp hF (n:=n-1) (by omega) f1 k1 k2 r1
      have hv2:v2<0:=by
        have:=g2.low h0
        rcases Int.lt_or_le v2 0 with h | h
        · exact h
        · have:=e9.1 h; omega
      rw [e6,Option.bind_some,e7,Option.bind_some,e8,Option.bind_some,if_neg (by simp; omega)]
      exact fin
    · rw [if_neg h0]; exact fin
  · rw [p_err hok,Option.bind_some,if_pos (by simp)]
    rfl
end
end Go.Proofs.Ytipedambeemdaaa
