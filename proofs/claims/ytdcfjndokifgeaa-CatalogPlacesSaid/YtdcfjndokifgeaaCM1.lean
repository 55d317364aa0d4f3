/- What the models of frac.Add, frac.Round and of their references give; wide.Int and its reference for all numbers in range. -/
import Derived.Test.YtdcfjndokifgeaaRM6
set_option linter.unusedVariables false
set_option linter.unusedSimpArgs false
namespace Go.SL
open Go
def rnd (p q:Int):Int:=if q<2*(p % q)∨(2*(p % q)=q∧(p/q) % 2=1) then p/q+1 else p/q
theorem low_unique {p q p' q':Int} (hq:0<q) (hq':0<q') (hc:Int.gcd p q=1) (hc':Int.gcd p' q'=1) (h:p*q'=p'*q):p=p'∧q=q':=by
  have d1:q∣q':=by
    have h1:q∣q'*p:=by rw [Int.mul_comm,h]; exact Int.dvd_mul_left ..
    rw [← Int.dvd_mul_gcd_iff_dvd_mul,Int.gcd_comm,hc] at h1
    simpa using h1
  have d2:q'∣q:=by
    have h1:q'∣q*p':=by rw [Int.mul_comm,← h]; exact Int.dvd_mul_left ..
    rw [← Int.dvd_mul_gcd_iff_dvd_mul,Int.gcd_comm,hc'] at h1
    simpa using h1
  have e:q=q':=Int.le_antisymm (Int.le_of_dvd hq' d1) (Int.le_of_dvd hq d2)
  subst e
  exact ⟨Int.eq_of_mul_eq_mul_right (by omega) h,rfl⟩
theorem rnd_bound {p q:Int} (hq:0<q):(rnd p q-1)*q≤p∧p<(rnd p q+1)*q:=by
  have h1:=Int.mul_ediv_add_emod p q
  have h2:=Int.emod_nonneg p (show q≠0 by omega)
  have h3:=Int.emod_lt_of_pos p hq
  unfold rnd
  generalize p % q=R at *
  generalize p/q=Q at *
  split
  · rw [show (Q+1-1)*q=q*Q by rw [Int.mul_comm]; congr 1; omega,show (Q+1+1)*q=q*Q+2*q by grind]; omega
  · rw [show (Q-1)*q=q*Q-q by grind,show (Q+1)*q=q*Q+q by grind]; omega
theorem band1_32 {x:Int} (h:0≤x∧x<4294967296):bitand .u32 x 1=x % 2:=by
  rw [band32,BitVec.toNat_and]
  have e1:(BitVec.ofInt 32 x).toNat=x.toNat:=by
    rw [BitVec.toNat_ofInt]; omega
  have e2:(BitVec.ofInt 32 1).toNat=1:=rfl
  rw [e1,e2,Nat.and_one_is_mod]; omega
theorem par_head {x:Int} {t:List Int} {z:Int} {b:Bool} (h:IsW b (x::t) z):x % 2=z % 2:=by
  have:=h.is.val
  simp only [lval] at this
  omega
end Go.SL
namespace Go.Proofs.Ytdcfjndokifgeaa
open Go Go.SL
section
variable {F:Nat} (hF:4300000000≤F)
include hF
theorem f_cross {bn:Bool} {ln:List Int} {bd:Bool} {ld:List Int} {p q:Int} {bn':Bool} {ln':List Int} {bd':Bool} {ld':List Int} {p' q':Int} (h:IsF bn ln bd ld p q) (h':IsF bn' ln' bd' ld' p' q') (k1:ln.length≤400) (k2:ld.length≤400) (k3:ln'.length≤400) (k4:ld'.length≤400) :
    ∃ c r,m_frac_cross F bn ln bd ld bn' ln' bd' ld'=some (c,r)∧IsW c r (p*q')∧r.length≤ln.length+ld'.length:=by
  unfold m_frac_cross m_frac_must
  obtain ⟨c1,r1,e1,e2⟩:=w_Mul hF h.num h'.den (by omega) (by omega)
  have g1:=mul_len h.num h'.den e2
  rw [e1,Option.bind_some,if_neg (by simp),Option.bind_some]
  exact ⟨c1,r1,rfl,e2,g1⟩
theorem f_Add {bn:Bool} {ln:List Int} {bd:Bool} {ld:List Int} {p q:Int} {bn':Bool} {ln':List Int} {bd':Bool} {ld':List Int} {p' q':Int} (h:IsF bn ln bd ld p q) (h':IsF bn' ln' bd' ld' p' q') (k1:ln.length≤400) (k2:ld.length≤400) (k3:ln'.length≤400) (k4:ld'.length≤400) :
    ∃ a b c d P Q,m_frac_Add F bn ln bd ld bn' ln' bd' ld'=some (a,b,c,d)∧IsF a b c d P Q∧P*(q*q')=(p*q'+p'*q)*Q∧b.length≤ln.length+ld.length+ln'.length+ld'.length+1∧d.length≤ld.length+ld'.length:=by
  unfold m_frac_Add m_frac_both_Ffrac_Add_1 m_frac_Add_1 m_frac_want
  have h0:=Int.mul_pos h.pos h'.pos
  obtain ⟨c1,r1,e1,e2,g1⟩:=f_cross hF h h' k1 k2 k3 k4
  obtain ⟨c2,r2,e3,e4,g2⟩:=f_cross hF h' h k3 k4 k1 k2
  obtain ⟨c3,r3,e5,e6⟩:=w_Mul hF h.den h'.den (by omega) (by omega)
  have g3:=mul_len h.den h'.den e6
  obtain ⟨c4,r4,e7,e8⟩:=w_Add hF e2 e4 (by omega) (by omega)
  have g4:=add_len e2 e4 e8
  obtain ⟨a,b,c,d,P,Q,h5,h6,h7,h8,h9⟩:=f_reduce hF e8 e6 (by omega) (by omega) (by omega)
  rw [f_Check hF h (by omega) (by omega),Option.bind_some,if_neg (by simp),Option.bind_some,f_Check hF h' (by omega) (by omega),Option.bind_some,if_neg (by simp),Option.bind_some,e1,Option.bind_some,e3,Option.bind_some,e7,Option.bind_some]
  unfold m_frac_must
  rw [if_neg (by simp),Option.bind_some,e5,Option.bind_some,if_neg (by simp),Option.bind_some,Option.bind_some,h5,Option.bind_some,Option.bind_some]
  exact ⟨a,b,c,d,P,Q,rfl,h6,h7,by omega,by omega⟩
omit hF in
theorem div_of {p q Q R:Int} (hq:0<q) (h:DM p q Q R):p/q=Q∧p % q=R:=by
  obtain ⟨h1,h2⟩:=h
  have h3:0≤R∧R<q:=by omega
  exact (Int.ediv_emod_unique hq).2 ⟨by rw [h1,Int.add_comm,Int.mul_comm],h3.1,h3.2⟩
omit hF in
theorem div_len {b c:Bool} {l r:List Int} {p q:Int} (hq:0<q) (h:IsW b l p) (hr:IsW c r (p/q)):r.length≤l.length:=by
  refine abs_len h hr ?_
  have:=Int.natAbs_ediv_le_natAbs p q
  exact this
theorem f_Round {bn:Bool} {ln:List Int} {bd:Bool} {ld:List Int} {p q:Int} (h:IsF bn ln bd ld p q) (k1:ln.length≤900) (k2:ld.length≤900) :
    ∃ c r,m_frac_Round F bn ln bd ld=some (c,r)∧IsW c r (rnd p q):=by
  unfold m_frac_Round m_frac_want m_frac_zero
  have hq:=h.pos
  obtain ⟨b1,l1,b2,l2,Q,R,e1,e2,e3,e4⟩:=w_DivMod hF h.num h.den (by omega) (by omega) (by omega)
  obtain ⟨eQ,eR⟩:=div_of hq e4
  have g1:l1.length≤ln.length:=div_len hq h.num (eQ▸e2)
  have g2:l2.length≤ld.length:=abs_len h.den e3 (by have:=Int.emod_nonneg p (show q≠0 by omega); have:=Int.emod_lt_of_pos p hq; omega)
  obtain ⟨b3,l3,e5,e6⟩:=w_Add hF e3 e3 (by omega) (by omega)
  have g3:=add_len e3 e3 e6
  rw [f_Check hF h (by omega) (by omega),Option.bind_some,if_neg (by simp),Option.bind_some,e1,Option.bind_some,if_neg (by simp),Option.bind_some,e5,Option.bind_some]
  unfold m_frac_must
  rw [if_neg (by simp),Option.bind_some,w_Cmp e6 h.den (by omega) (by omega),Option.bind_some]
  have hup:∃ c r,m_frac_Round_j2 F (b1,l1,b2,l2,0) true=some (c,r)∧IsW c r (Q+1):=by
    unfold m_frac_Round_j2 m_frac_Round_j1 m_frac_must
    obtain ⟨b,l,o1,o2⟩:=f_one hF
    have ol:=one_len o2 (by omega)
    obtain ⟨c,r,o3,o4⟩:=w_Add hF e2 o2 (by omega) (by omega)
    rw [if_pos rfl,o1,Option.bind_some,o3,Option.bind_some,if_neg (by simp),Option.bind_some]
    exact ⟨c,r,rfl,o4⟩
  have hdn:∃ c r,m_frac_Round_j2 F (b1,l1,b2,l2,0) false=some (c,r)∧IsW c r Q:=by
    unfold m_frac_Round_j2 m_frac_Round_j1
    rw [if_neg (by simp)]
    exact ⟨b1,l1,rfl,e2⟩
  unfold rnd
  rw [eQ,eR]
  by_cases hgt:q<2*R
  · have hc:cmpI (R+R) q=1:=by unfold cmpI; rw [if_neg (by omega),if_pos (by omega)]
    rw [if_pos (show q<2*R∨_ from .inl hgt),hc,if_pos (by decide)]
    exact hup
  by_cases heq:2*R=q
  · have hc:cmpI (R+R) q=0:=by unfold cmpI; rw [if_neg (by omega),if_neg (by omega)]
    rw [hc,if_neg (by decide),if_pos rfl,Option.bind_some]
    match l1,e2 with
    | [],e2 =>
      have hQ:Q=0:=e2.pos.1 rfl
      unfold m_frac_Round_j4 m_frac_Round_j3
      rw [if_neg (by simp),if_neg (by omega)]
      exact hdn
    | x::t,e2 =>
      have hx:=e2.is.lim.head
      have hpar:=par_head e2
      unfold m_frac_Round_j4 m_frac_Round_j3
      rw [if_pos (by simp; omega),show idx (x::t) 0=some x from rfl,Option.bind_some,band1_32 hx,hpar]
      by_cases ho:Q % 2=1
      · rw [if_pos (.inr ⟨heq,ho⟩),ho]; exact hup
      · rw [if_neg (by omega),show decide (Q % 2=1)=false by simpa using ho]; exact hdn
  · have hc:cmpI (R+R) q=-1:=by unfold cmpI; rw [if_pos (by omega)]
    rw [hc,if_neg (by decide),if_neg (by decide),if_neg (by omega)]
    unfold m_frac_Round_j4 m_frac_Round_j3
    rw [if_neg (by simp)]
    exact hdn
theorem r_Sub {b b':Bool} {l l':List Int} {z z':Int} (h:IsW b l z) (h':IsW b' l' z') (hn:l.length≤2000) (hn':l'.length≤2000):∃ c r,m_ref01_Sub F b l b' l'=some (c,r,0)∧IsW c r (z-z'):=by
  unfold m_ref01_Sub
  have hm:IsW (!b'&&decide ((l'.length:Int)>0)) l' (-z'):=by
    refine ⟨by rw [Int.natAbs_neg]; exact h'.is,?_⟩
    have hp:=h'.pos
    rw [h'.neg]
    by_cases h0:z'=0
    · have:l'=[]:=hp.2 h0
      subst this; subst h0; rfl
    · have:l'≠[]:=fun e=>h0 (hp.1 e)
      have hl:0<l'.length:=List.length_pos_iff.2 this
      rw [show decide ((l'.length:Int)>0)=true by simp; omega,Bool.and_true]
      by_cases hz:z'<0
      · rw [show decide (z'<0)=true by simpa using hz]; symm; simp; omega
      · rw [show decide (z'<0)=false by simpa using hz]; symm; simp; omega
  obtain ⟨c,r,h1,h2⟩:=r_sum hF h hm hn hn'
  rw [r_both h (by omega) h' (by omega),Option.bind_some,if_neg (by simp),h1,Option.bind_some]
  exact ⟨c,r,rfl,by rw [Int.sub_eq_add_neg]; exact h2⟩
theorem r_Compared {b b':Bool} {l l':List Int} {z z':Int} (h:IsW b l z) (h':IsW b' l' z') (hn:l.length≤4000) (hn':l'.length≤4000):m_ref01_Compared F b l b' l'=some (cmpI z z'):=by
  unfold m_ref01_Compared
  have n1:=h.neg; have n2:=h'.neg
  by_cases hz:z<0 <;> by_cases hz':z'<0
  · rw [show b=true by rw [n1]; simpa using hz,show b'=true by rw [n2]; simpa using hz']
    rw [if_neg (by decide),if_pos rfl,r_compare hF h'.is h.is (by omega),Option.bind_some]
    unfold cmpI
    congr 1
    split <;> split <;> (try split) <;> omega
  · rw [show b=true by rw [n1]; simpa using hz,show b'=false by rw [n2]; simpa using hz']
    rw [if_pos (by decide),if_pos rfl]
    unfold cmpI; rw [if_pos (by omega)]
  · rw [show b=false by rw [n1]; simpa using hz,show b'=true by rw [n2]; simpa using hz']
    rw [if_pos (by decide),if_neg (by decide)]
    unfold cmpI; rw [if_neg (by omega),if_pos (by omega)]
  · rw [show b=false by rw [n1]; simpa using hz,show b'=false by rw [n2]; simpa using hz']
    rw [if_neg (by decide),if_neg (by decide),r_compare hF h.is h'.is (by omega),Option.bind_some]
    unfold cmpI
    congr 1
    split <;> split <;> (try split) <;> omega
theorem q_Make {bn:Bool} {ln:List Int} {bd:Bool} {ld:List Int} {p q:Int} (h:IsW bn ln p) (h':IsW bd ld q) (hq:q≠0) (hn:ln.length≤2000) (hd:ld.length≤2000) :
    ∃ a b c d p' q',m_ref02_Make F bn ln bd ld=some (a,b,c,d,0)∧IsF a b c d p' q'∧p'*q=p*q'∧b.length≤ln.length∧d.length≤ld.length:=by
  unfold m_ref02_Make m_ref02_Make_j1
  obtain ⟨a,b,c,d,p',q',h1,h2⟩:=q_Reduced hF h h' hq hn hd
  have hl0:¬ (ld.length:Int)=0:=fun e=>hq (h'.pos.1 (List.length_eq_zero_iff.1 (by omega)))
  rw [r_Check h (by omega),Option.bind_some,if_neg (by simp),r_Check h' (by omega),Option.bind_some,if_neg (by simp),if_neg hl0,h1,Option.bind_some]
  exact ⟨a,b,c,d,p',q',rfl,h2⟩
theorem q_Round {bn:Bool} {ln:List Int} {bd:Bool} {ld:List Int} {p q:Int} (h:IsF bn ln bd ld p q) (k1:ln.length≤900) (k2:ld.length≤900) :
    ∃ c r,m_ref02_Round F bn ln bd ld=some (c,r,0)∧IsW c r (rnd p q):=by
  unfold m_ref02_Round
  have hq:=h.pos
  obtain ⟨b1,l1,b2,l2,Q,R,e1,e2,e3,e4⟩:=r_DivMod hF h.num h.den (by omega) (by omega) (by omega)
  obtain ⟨eQ,eR⟩:=div_of hq e4
  have g1:l1.length≤ln.length:=div_len hq h.num (eQ▸e2)
  have g2:l2.length≤ld.length:=abs_len h.den e3 (by have:=Int.emod_nonneg p (show q≠0 by omega); have:=Int.emod_lt_of_pos p hq; omega)
  obtain ⟨b3,l3,e5,e6⟩:=r_Sub hF h.den e3 (by omega) (by omega)
  have hR:=Int.emod_nonneg p (show q≠0 by omega); have hR':=Int.emod_lt_of_pos p hq
  rw [eR] at hR hR'
  have g3:l3.length≤ld.length:=abs_len h.den e6 (by omega)
  rw [q_Check hF h (by omega) (by omega),Option.bind_some,if_neg (by simp),e1,Option.bind_some,if_neg (by simp),e5,Option.bind_some,r_Compared hF e3 e6 (by omega) (by omega),Option.bind_some]
  have hfin:∀ o:Bool,(o=true↔Q % 2=1)→∃ c r,m_ref02_Round_j1 F (cmpI R (q-R)) (b1,l1,b2,l2,0) o=some (c,r,0)∧IsW c r (rnd p q):=fun o ho=>by
    unfold m_ref02_Round_j1 rnd
    rw [eQ,eR]
    have hcond:((decide (cmpI R (q-R)>0)||(decide (cmpI R (q-R)=0)&&o))=true)↔(q<2*R∨(2*R=q∧Q % 2=1)):=by
      rw [Bool.or_eq_true,Bool.and_eq_true,decide_eq_true_iff,decide_eq_true_iff,ho]
      unfold cmpI
      split
      · constructor
        · rintro (h | ⟨h,_⟩) <;> omega
        · omega
      · split
        · constructor
          · intro _; omega
          · intro _; omega
        · constructor
          · rintro (h | ⟨_,h⟩) <;> omega
          · rintro (h | ⟨h,h'⟩)
            · omega
            · exact .inr ⟨rfl,h'⟩
    by_cases hh:q<2*R∨(2*R=q∧Q % 2=1)
    · rw [if_pos hh,if_pos (hcond.2 hh)]
      obtain ⟨b,l,o1,o2⟩:=r_From hF (x:=1) (by omega)
      have ol:=one_len o2 (by omega)
      obtain ⟨c,r,o3,o4⟩:=r_Add hF e2 o2 (by omega) (by omega)
      rw [o1,Option.bind_some,o3,Option.bind_some]
      exact ⟨c,r,rfl,o4⟩
    · rw [if_neg hh,if_neg (fun hc=>hh (hcond.1 hc))]
      exact ⟨b1,l1,rfl,e2⟩
  match l1,e2,hfin with
  | [],e2,hfin =>
    have hQ:Q=0:=e2.pos.1 rfl
    rw [if_neg (by simp)]
    exact hfin false (by simp; omega)
  | x::t,e2,hfin =>
    have hx:=e2.is.lim.head
    have hpar:=par_head e2
    rw [if_pos (by simp),show idx (x::t) 0=some x from rfl,Option.bind_some]
    refine hfin _ ?_
    rw [decide_eq_true_iff,Int.tmod_eq_emod_of_nonneg hx.1,hpar]
omit hF in
theorem two_len {b:Bool} {l:List Int} {z:Int} (h:IsW b l z) (hz:-9223372036854775808≤z∧z<9223372036854775808):l.length≤2:=one_len h (by omega)
omit hF in
theorem neg_back {z:Int} (hz:-9223372036854775808≤z∧z<0):IntKind.i64.wrap (IntKind.u64.wrap (0-(z.natAbs:Int)))=z:=by
  rw [u64w,i64w]; omega
theorem w_Int {b:Bool} {l:List Int} {z:Int} (h:IsW b l z) (hz:-9223372036854775808≤z∧z<9223372036854775808):m_wide_Int F b l=some (z,0):=by
  have hl2:l.length≤2:=two_len h hz
  have hzI:=h.is
  have hfin:m_wide_Int_j1 F b (z.natAbs:Int)=some (z,0):=by
    unfold m_wide_Int_j1
    by_cases h0:z<0
    · rw [show b=true by rw [h.neg]; simpa using h0,if_pos (by simp; omega),neg_back (by omega),Option.bind_some]
    · rw [show b=false by rw [h.neg]; simpa using h0,if_neg (by simp),if_pos (by simp; omega),i64_of (by omega)]
      congr 2; omega
  unfold m_wide_Int
  rw [w_check1 h (by omega),Option.bind_some,if_neg (by simp),if_neg (by omega)]
  obtain ⟨N,rfl⟩:∃ N,F=N+3:=⟨F-3,by omega⟩
  have eb:IntKind.bits .u64=64:=rfl
  match l,hzI,hl2 with
  | [],hzI,_ =>
    show m_wide_Int_b2 (N+3) [] b _ 0 0=_
    unfold m_wide_Int_b2
    rw [if_neg (by simp)]
    have:=hzI.val
    simp only [lval] at this
    rw [← this] at hfin; exact hfin
  | [x],hzI,_ =>
    have hv:=hzI.val
    simp only [lval,Int.mul_zero,Int.add_zero] at hv
    have bx:=hzI.lim.head
    show m_wide_Int_b2 (N+3) [x] b (m_wide_Int_l2 (N+3) [x] b (N+2)) 0 0=_
    unfold m_wide_Int_b2
    have e0:idx [x] 0=some x:=rfl
    have hor:=(bor_add (x:=x) (c:=0) 0 (by omega) (by decide) (by omega)).2
    rw [Int.add_zero] at hor
    rw [if_pos (by simp),e0,Option.bind_some,show IntKind.i64.wrap (32*0)=0 by decide,if_pos (by omega),eb,Int.toNat_zero,Nat.zero_min,u64_id (x:=x) (by omega),u64_id (x:=x*2^0) (by omega),hor,Option.bind_some,show IntKind.i64.wrap (0+1)=1 by decide,Int.pow_zero,Int.mul_one]
    show m_wide_Int_b2 (N+3) [x] b _ x 1=_
    unfold m_wide_Int_b2
    rw [if_neg (by simp),hv]; exact hfin
  | [x,y],hzI,_ =>
    have hv:=hzI.val
    simp only [lval,Int.mul_zero,Int.add_zero] at hv
    have bx:=hzI.lim.head
    have bY:=hzI.lim.tail.head
    show m_wide_Int_b2 (N+3) [x,y] b (m_wide_Int_l2 (N+3) [x,y] b (N+2)) 0 0=_
    unfold m_wide_Int_b2
    have e0:idx [x,y] 0=some x:=rfl
    have e1:idx [x,y] 1=some y:=rfl
    have hor:=(bor_add (x:=x) (c:=0) 0 (by omega) (by decide) (by omega)).2
    rw [Int.add_zero] at hor
    rw [if_pos (by simp),e0,Option.bind_some,show IntKind.i64.wrap (32*0)=0 by decide,if_pos (by omega),eb,Int.toNat_zero,Nat.zero_min,u64_id (x:=x) (by omega),u64_id (x:=x*2^0) (by omega),hor,Option.bind_some,show IntKind.i64.wrap (0+1)=1 by decide,Int.pow_zero,Int.mul_one]
    show m_wide_Int_b2 (N+3) [x,y] b (m_wide_Int_l2 (N+3) [x,y] b (N+1)) x 1=_
    unfold m_wide_Int_b2
    have e32:((2:Int)^32)=4294967296:=by decide
    have hor2:=(bor_add (x:=y) (c:=x) 32 (by omega) (by rw [e32]; omega) (by rw [e32]; omega)).2
    rw [if_pos (by simp),e1,Option.bind_some,show IntKind.i64.wrap (32*1)=32 by decide,if_pos (by omega),eb,show Int.toNat 32=32 from rfl,show min 32 64=32 from rfl,u64_id (x:=y) (by omega),u64_id (x:=y*2^32) (by rw [e32]; omega),hor2,Option.bind_some,show IntKind.i64.wrap (1+1)=2 by decide,e32]
    show m_wide_Int_b2 (N+3) [x,y] b _ _ 2=_
    unfold m_wide_Int_b2
    rw [if_neg (by simp),show y*4294967296+x=(z.natAbs:Int) by omega]; exact hfin
theorem r_Int {b:Bool} {l:List Int} {z:Int} (h:IsW b l z) (hz:-9223372036854775808≤z∧z<9223372036854775808):m_ref01_Int F b l=some (z,0):=by
  have hl2:l.length≤2:=two_len h hz
  have hzI:=h.is
  have hfin:m_ref01_Int_j1 F b (z.natAbs:Int)=some (z,0):=by
    unfold m_ref01_Int_j1
    by_cases h0:z<0
    · rw [show b=true by rw [h.neg]; simpa using h0,if_pos (by simp; omega),neg_back (by omega),Option.bind_some]
    · rw [show b=false by rw [h.neg]; simpa using h0,if_neg (by simp),if_pos (by simp; omega),i64_of (by omega)]
      congr 2; omega
  unfold m_ref01_Int
  rw [r_Check h (by omega),Option.bind_some,if_neg (by simp),Option.bind_some]
  obtain ⟨N,rfl⟩:∃ N,F=N+3:=⟨F-3,by omega⟩
  have e32:((2:Int)^32)=4294967296:=by decide
  match l,hzI,hl2 with
  | [],hzI,_ =>
    show m_ref01_Int_b2 (N+3) [] b _ 0 (IntKind.i64.wrap (0-1))=_
    unfold m_ref01_Int_b2
    rw [if_neg (by decide)]
    have:=hzI.val
    simp only [lval] at this
    rw [← this] at hfin; exact hfin
  | [x],hzI,_ =>
    have hv:=hzI.val
    simp only [lval,Int.mul_zero,Int.add_zero] at hv
    have bx:=hzI.lim.head
    show m_ref01_Int_b2 (N+3) [x] b (m_ref01_Int_l2 (N+3) [x] b (N+2)) 0 (IntKind.i64.wrap (1-1))=_
    unfold m_ref01_Int_b2
    have e0:idx [x] 0=some x:=rfl
    rw [show IntKind.i64.wrap (1-1)=0 by decide,if_pos (by decide),if_neg (by decide),e0,Option.bind_some,Int.zero_mul,show IntKind.u64.wrap 0=0 by decide,Int.zero_add,u64_id (x:=x) (by omega),u64_id (x:=x) (by omega),Option.bind_some]
    show m_ref01_Int_b2 (N+3) [x] b _ x (IntKind.i64.wrap (0-1))=_
    unfold m_ref01_Int_b2
    rw [if_neg (by decide),hv]; exact hfin
  | [x,y],hzI,_ =>
    have hv:=hzI.val
    simp only [lval,Int.mul_zero,Int.add_zero] at hv
    have bx:=hzI.lim.head
    have bY:=hzI.lim.tail.head
    show m_ref01_Int_b2 (N+3) [x,y] b (m_ref01_Int_l2 (N+3) [x,y] b (N+2)) 0 (IntKind.i64.wrap (2-1))=_
    unfold m_ref01_Int_b2
    have e0:idx [x,y] 0=some x:=rfl
    have e1:idx [x,y] 1=some y:=rfl
    rw [show IntKind.i64.wrap (2-1)=1 by decide,if_pos (by decide),if_neg (by decide),e1,Option.bind_some,Int.zero_mul,show IntKind.u64.wrap 0=0 by decide,Int.zero_add,u64_id (x:=y) (by omega),u64_id (x:=y) (by omega),Option.bind_some]
    show m_ref01_Int_b2 (N+3) [x,y] b (m_ref01_Int_l2 (N+3) [x,y] b (N+1)) y (IntKind.i64.wrap (1-1))=_
    unfold m_ref01_Int_b2
    rw [show IntKind.i64.wrap (1-1)=0 by decide,if_pos (by decide),if_neg (by decide),e0,Option.bind_some,e32,u64_id (x:=y*4294967296) (by omega),u64_id (x:=x) (by omega),u64_id (by omega),Option.bind_some]
    show m_ref01_Int_b2 (N+3) [x,y] b _ _ (IntKind.i64.wrap (0-1))=_
    unfold m_ref01_Int_b2
    rw [if_neg (by decide),show y*4294967296+x=(z.natAbs:Int) by omega]; exact hfin
end
end Go.Proofs.Ytdcfjndokifgeaa
