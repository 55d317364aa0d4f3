/- The law CatalogPlaces of the models. -/
import Derived.Test.YtdcfjndokifgeaaCM1
set_option linter.unusedVariables false
set_option linter.unusedSimpArgs false
namespace Go.Proofs.Ytdcfjndokifgeaa
open Go Go.SL
section
variable {F:Nat} (hF:4300000000≤F)
include hF
def YEAR:Int:=31557600000000
omit hF in
theorem rnd_range {P Q N:Int} (hQ:0<Q) (h:P*YEAR=N*Q) (hN:-100000000000000000000000000≤N∧N≤100000000000000000000000000):-9223372036854775808≤rnd P Q∧rnd P Q<9223372036854775808:=by
  obtain ⟨h1,h2⟩:=rnd_bound (p:=P) hQ
  generalize rnd P Q=r at *
  have h3:((r-1)*YEAR)*Q≤N*Q:=by
    have:((r-1)*Q)*YEAR≤P*YEAR:=Int.mul_le_mul_of_nonneg_right h1 (by decide)
    rw [h] at this
    calc ((r-1)*YEAR)*Q=((r-1)*Q)*YEAR:=by grind
      _≤_:=this
  have h4:N*Q<((r+1)*YEAR)*Q:=by
    have:P*YEAR<((r+1)*Q)*YEAR:=Int.mul_lt_mul_of_pos_right h2 (by decide)
    rw [h] at this
    calc N*Q<((r+1)*Q)*YEAR:=this
      _=_:=by grind
  have h5:=Int.le_of_mul_le_mul_right h3 hQ
  have h6:=Int.lt_of_mul_lt_mul_right h4 (by omega)
  unfold YEAR at h5 h6
  omega
omit hF in
theorem prod_bound {x y A B:Int} (hx:-A≤x∧x≤A) (hy:-B≤y∧y≤B):-(A*B)≤x*y∧x*y≤A*B:=by
  have h1:x.natAbs≤A.toNat:=by omega
  have h2:y.natAbs≤B.toNat:=by omega
  have h3:x.natAbs*y.natAbs≤A.toNat*B.toNat:=Nat.mul_le_mul h1 h2
  have h4:((x*y).natAbs:Int)≤A*B:=by
    rw [Int.natAbs_mul]
    have:((A.toNat*B.toNat:Nat):Int)=A*B:=by
      push_cast; rw [Int.toNat_of_nonneg (by omega),Int.toNat_of_nonneg (by omega)]
    omega
  omega
theorem motion_same {a b m:Int} (ha:-9223372036854775808≤a∧a≤9223372036854775807) (hae:-1296000000000≤a∧a≤1296000000000) (hb:-20000000≤b∧b≤20000000) (hm:-10000000000000000≤m∧m≤10000000000000000) :
    ∃ n,(-9223372036854775808≤n∧n<9223372036854775808)∧m_catalog_motion F a b m=some (n,0)∧m_ref19_moved F a b m=some n:=by
  have hpb:=prod_bound (x:=b) (y:=m) (A:=20000000) (B:=10000000000000000) hb hm
  have hbp3:BP 3=79228162514264337593543950336:=by decide
  obtain ⟨b1,l1,e1,i1⟩:=w_From hF (x:=b) (by omega)
  obtain ⟨b2,l2,e2,i2⟩:=w_From hF (x:=m) (by omega)
  have g1:=one_len i1 (by omega)
  have g2:=one_len i2 (by omega)
  obtain ⟨b3,l3,e3,i3⟩:=w_Mul hF i1 i2 (by omega) (by omega)
  have g3:=mul_len i1 i2 i3
  obtain ⟨b4,l4,e4,i4⟩:=w_From hF (x:=31557600000000) (by omega)
  have g4:=one_len i4 (by omega)
  obtain ⟨c1,c2,c3,c4,p1,q1,e5,f1,r1,g5,g6⟩:=f_Make hF i3 i4 (by omega) (by omega) (by omega)
  obtain ⟨d1,d2,d3,d4,p2,q2,e6,f2,r2,g7,g8⟩:=f_Of hF (n:=a) (d:=1) (by omega) (by omega) (by omega)
  obtain ⟨a1,a2,a3,a4,P,Q,e7,f3,r3,g9,g10⟩:=f_Add hF f1 f2 (by omega) (by omega) (by omega) (by omega)
  obtain ⟨c,r,e8,i5⟩:=f_Round hF f3 (by omega) (by omega)
  have key:P*YEAR=(b*m+a*YEAR)*Q:=by
    have h1:=f1.pos; have h2:=f2.pos
    have hh:(P*YEAR)*(q1*q2)=((b*m+a*YEAR)*Q)*(q1*q2):=by
      have ey:p1*YEAR=b*m*q1:=r1
      have ea:p2=a*q2:=by omega
      calc (P*YEAR)*(q1*q2)=(P*(q1*q2))*YEAR:=by grind
        _=((p1*q2+p2*q1)*Q)*YEAR:=by rw [r3]
        _=(p1*YEAR)*q2*Q+p2*q1*Q*YEAR:=by grind
        _=_:=by rw [ey,ea]; grind
    exact Int.eq_of_mul_eq_mul_right (Int.ne_of_gt (Int.mul_pos h1 h2)) hh
  have hrng:=rnd_range f3.pos key (by unfold YEAR; omega)
  obtain ⟨b1',l1',e1',i1'⟩:=r_From hF (x:=b) (by omega)
  obtain ⟨b2',l2',e2',i2'⟩:=r_From hF (x:=m) (by omega)
  have g1':=one_len i1' (by omega)
  have g2':=one_len i2' (by omega)
  obtain ⟨b3',l3',e3',i3'⟩:=r_Mul hF i1' i2' (by omega) (by omega)
  have g3':=mul_len i1' i2' i3'
  obtain ⟨b4',l4',e4',i4'⟩:=r_From hF (x:=31557600000000) (by omega)
  have g4':=one_len i4' (by omega)
  obtain ⟨c1',c2',c3',c4',p1',q1',e5',f1',r1',g5',g6'⟩:=q_Make hF i3' i4' (by omega) (by omega) (by omega)
  obtain ⟨d1',d2',d3',d4',e6',f2',g7',g8'⟩:=q_Whole hF (x:=a) (by omega)
  obtain ⟨a1',a2',a3',a4',P',Q',e7',f3',r3',g9',g10'⟩:=q_Add hF f1' f2' (by omega) (by omega) (by omega) (by omega)
  obtain ⟨c',r',e8',i5'⟩:=q_Round hF f3' (by omega) (by omega)
  have key':P'*YEAR=(b*m+a*YEAR)*Q':=by
    have h1:=f1'.pos
    have hh:(P'*YEAR)*q1'=((b*m+a*YEAR)*Q')*q1':=by
      have ey:p1'*YEAR=b*m*q1':=r1'
      calc (P'*YEAR)*q1'=(P'*(q1'*1))*YEAR:=by grind
        _=((p1'*1+a*q1')*Q')*YEAR:=by rw [r3']
        _=(p1'*YEAR)*Q'+a*q1'*Q'*YEAR:=by grind
        _=_:=by rw [ey]; grind
    exact Int.eq_of_mul_eq_mul_right (Int.ne_of_gt h1) hh
  have hPQ:P*Q'=P'*Q:=by
    have hh:(P*Q')*YEAR=(P'*Q)*YEAR:=by
      calc (P*Q')*YEAR=(P*YEAR)*Q':=by grind
        _=((b*m+a*YEAR)*Q)*Q':=by rw [key]
        _=((b*m+a*YEAR)*Q')*Q:=by grind
        _=(P'*YEAR)*Q:=by rw [key']
        _=_:=by grind
    exact Int.eq_of_mul_eq_mul_right (by decide) hh
  obtain ⟨rfl,rfl⟩:=low_unique f3.pos f3'.pos f3.cop f3'.cop hPQ
  refine ⟨rnd P Q,hrng,?_,?_⟩
  · unfold m_catalog_motion
    rw [e1,Option.bind_some,e2,Option.bind_some,e3,Option.bind_some,if_neg (by simp),e4,Option.bind_some,e5,Option.bind_some,e6,Option.bind_some,e7,Option.bind_some,e8,Option.bind_some,w_Int hF i5 hrng,Option.bind_some]
  · unfold m_ref19_moved
    rw [e1',Option.bind_some,e2',Option.bind_some,e3',Option.bind_some,e4',Option.bind_some,e5',Option.bind_some,e6',Option.bind_some,e7',Option.bind_some,e8',Option.bind_some,r_Int hF i5' hrng,Option.bind_some]
omit hF in
theorem dec_lo {s:ByteArray} {i:Nat} {x:UInt8} (h:s[i]? = some x) (hx:x.toNat<128):Utf8.decode s i=(x.toNat,1):=by
  have hi:i<s.size:=by
    rcases Nat.lt_or_ge i s.size with h1 | h1
    · exact h1
    · rw [getElem?_neg s i (by omega)] at h; cases h
  rw [getElem?_pos s i hi] at h
  have e:s[i]=x:=by simpa using h
  have:=decode_ascii s i hi (by rw [e]; exact hx)
  rw [this,e]
omit hF in
theorem dec_hi {s:ByteArray} {i:Nat} {x:UInt8} (h:s[i]? = some x) (hx:¬ x.toNat<128):128≤(Utf8.decode s i).1:=by
  have hi:i<s.size:=by
    rcases Nat.lt_or_ge i s.size with h1 | h1
    · exact h1
    · rw [getElem?_neg s i (by omega)] at h; cases h
  rw [getElem?_pos s i hi] at h
  have e:s[i]=x:=by simpa using h
  have e0:s.get! (i+0)=x:=by
    show s.get! i=_
    rw [← e]
    simp [ByteArray.get!,getElem!_pos,hi]
    rfl
  have hr:Utf8.runeError=65533:=rfl
  unfold Utf8.decode
  simp only [e0]
  rw [if_neg hx]
  split
  · split
    · assumption
    · omega
  · split
    · split
      · rename_i h3
        simp only [Bool.and_eq_true,decide_eq_true_eq] at h3
        omega
      · omega
    · split
      · split
        · rename_i h3
          simp only [Bool.and_eq_true,decide_eq_true_eq] at h3
          omega
        · omega
      · omega
omit hF in
theorem name_l {s:ByteArray} (hs:s.size≤100):∀ (k N pos:Nat),pos+k=s.size→k<N→∃ r,m_catalog_isName_l s N pos=some r∧m_ref19_Name_l2 F s N (pos:Int)=some r
  | 0,N+1,pos,hk,_=>by
    refine ⟨decide ((s.size:Int)≥1)&&decide ((s.size:Int)≤24),?_,?_⟩
    · show (if pos<s.size then _ else _)=_
      rw [if_neg (by omega)]
    · show m_ref19_Name_b2 F s _ (pos:Int)=_
      unfold m_ref19_Name_b2 m_ref19_Name_j1
      rw [if_neg (by omega)]
  | k+1,N+1,pos,hk,hN=>by
    have hp:pos<s.size:=by omega
    obtain ⟨x,hx⟩:∃ x,s[pos]? = some x:=⟨s[pos],getElem?_pos s pos hp⟩
    have hi:strIdx s (pos:Int)=some (x.toNat:Int):=by
      unfold strIdx
      rw [if_pos (by omega),Int.toNat_natCast,hx]; rfl
    by_cases hx8:x.toNat<128
    · have hd:=dec_lo hx hx8
      obtain ⟨r,h1,h2⟩:=name_l hs k N (pos+1) (by omega) (by omega)
      by_cases hc:(!isLet (x.toNat:Int)&&(decide ((pos:Int)=0)||!isDig (x.toNat:Int)))=true
      · refine ⟨false,?_,?_⟩
        · show (if pos<s.size then _ else _)=_
          rw [if_pos hp,hd,if_pos hc]
        · show m_ref19_Name_b2 F s _ (pos:Int)=_
          unfold m_ref19_Name_b2
          rw [if_pos (by omega),hi,Option.bind_some]
          exact if_pos hc
      · refine ⟨r,?_,?_⟩
        · show (if pos<s.size then _ else _)=_
          rw [if_pos hp,hd,if_neg hc]; exact h1
        · show m_ref19_Name_b2 F s _ (pos:Int)=_
          unfold m_ref19_Name_b2
          rw [if_pos (by omega),hi,Option.bind_some]
          refine (if_neg hc).trans ?_
          rw [i64_of (by omega)]; exact h2
    · have hd:=dec_hi hx hx8
      have hf:∀ c:Int,128≤c→(!isLet c&&(decide ((pos:Int)=0)||!isDig c))=true:=fun c hc=>by
        unfold isLet isDig
        rw [show decide (c≤122)=false by simp; omega,show decide (c≤57)=false by simp; omega,show decide (c=45)=false by simp; omega]
        simp
      refine ⟨false,?_,?_⟩
      · show (if pos<s.size then _ else _)=_
        rw [if_pos hp,if_pos (hf _ (by omega))]
      · show m_ref19_Name_b2 F s _ (pos:Int)=_
        unfold m_ref19_Name_b2
        rw [if_pos (by omega),hi,Option.bind_some]
        have:=hf (x.toNat:Int) (by omega)
        exact if_pos this
theorem name_same {s:ByteArray} (hs:s.size≤100):∃ r,m_catalog_isName F s=some r∧m_ref19_Name F s=some r:=name_l (F:=F) hs s.size F 0 (by omega) (by omega)
omit hF in
theorem within_of {x m:Int} (hm:0≤m∧m≤9223372036854775807):m_ref19_within F x m=some (decide (-m≤x)&&decide (x≤m)):=by
  unfold m_ref19_within
  rw [i64_of (by omega),Int.zero_sub]
def okStar (nm:Bool) (x2 x3 x4 x5 x6 x7 x8:Int):Prop:=nm=true∧(-5000000000000000≤x2∧x2≤5000000000000000)∧(0≤x3∧x3≤1295999999999)∧(-324000000000≤x4∧x4≤324000000000)∧(-20000000≤x5∧x5≤20000000)∧(-20000000≤x6∧x6≤20000000)∧(0≤x7∧x7≤1000000)∧((-500≤x8∧x8≤3000)∨x8=9999)
instance (nm:Bool) (x2 x3 x4 x5 x6 x7 x8:Int):Decidable (okStar nm x2 x3 x4 x5 x6 x7 x8):=by unfold okStar; infer_instance
omit hF in
theorem c_Check {x1:ByteArray} {nm:Bool} (x2 x3 x4 x5 x6 x7 x8:Int) (h:m_catalog_isName F x1=some nm):m_catalog_Check F x1 x2 x3 x4 x5 x6 x7 x8=some (if okStar nm x2 x3 x4 x5 x6 x7 x8 then 0 else 8):=by
  unfold m_catalog_Check m_catalog_Check_j7 m_catalog_Check_j6 m_catalog_Check_j5 m_catalog_Check_j4 m_catalog_Check_j3 m_catalog_Check_j2 m_catalog_Check_j1 m_catalog_between okStar
  rw [h]
  cases nm <;> simp only [Option.bind_some,Bool.and_eq_true,Bool.or_eq_true,Bool.not_eq_true',decide_eq_true_eq,if_true,if_false,Bool.false_eq_true,true_and,false_and,Bool.and_eq_false_iff,decide_eq_false_iff_not,reduceIte] <;> grind
omit hF in
theorem c_rCheck {x1:ByteArray} {nm:Bool} (x2 x3 x4 x5 x6 x7 x8:Int) (h:m_ref19_Name F x1=some nm):m_ref19_Check F x1 x2 x3 x4 x5 x6 x7 x8=some (if okStar nm x2 x3 x4 x5 x6 x7 x8 then 0 else 8):=by
  unfold m_ref19_Check m_ref19_Check_j4 m_ref19_Check_j3 m_ref19_Check_j2 m_ref19_Check_j1 okStar
  rw [h]
  simp only [within_of (F:=F) (show (0:Int)≤20000000∧(20000000:Int)≤9223372036854775807 by omega),within_of (F:=F) (show (0:Int)≤324000000000∧(324000000000:Int)≤9223372036854775807 by omega),within_of (F:=F) (show (0:Int)≤5000000000000000∧(5000000000000000:Int)≤9223372036854775807 by omega)]
  cases nm <;> simp only [Option.bind_some,Bool.and_eq_true,Bool.or_eq_true,Bool.not_eq_true',decide_eq_true_eq,if_true,if_false,Bool.false_eq_true,true_and,false_and,Bool.and_eq_false_iff,decide_eq_false_iff_not,reduceIte,Bool.not_true,Bool.not_false] <;> grind
omit hF in
theorem norm_same {x n:Int} (h:m_angle_Norm F x=some n):m_ref15_Norm F x=some n:=h
omit hF in
theorem norm_some (x:Int):∃ n,m_angle_Norm F x=some n:=by
  unfold m_angle_Norm m_angle_Norm_j1
  split
  · exact ⟨_,rfl⟩
  · exact ⟨_,rfl⟩
theorem place_same {x1:ByteArray} (hs:x1.size≤100) (x2 x3 x4 x5 x6 x7 x8 x9:Int):∃ r:Int × Int × Int,m_catalog_Place F x1 x2 x3 x4 x5 x6 x7 x8 x9=some r∧m_ref19_Place F x1 x2 x3 x4 x5 x6 x7 x8 x9=some r:=by
  obtain ⟨nm,n1,n2⟩:=name_same hF hs
  unfold m_catalog_Place m_ref19_Place
  rw [c_Check x2 x3 x4 x5 x6 x7 x8 n1,c_rCheck x2 x3 x4 x5 x6 x7 x8 n2,Option.bind_some,Option.bind_some]
  by_cases hok:okStar nm x2 x3 x4 x5 x6 x7 x8
  rotate_left
  · rw [if_neg hok]
    exact ⟨(0,0,8),by rw [if_pos (by decide)],by rw [if_pos (by decide)]⟩
  rw [if_pos hok,if_neg (by decide),if_neg (by decide),within_of (by omega),Option.bind_some]
  unfold m_catalog_between
  rw [Option.bind_some]
  by_cases ht:-5000000000000000≤x9∧x9≤5000000000000000
  rotate_left
  · have:(!(decide (-5000000000000000≤x9)&&decide (x9≤5000000000000000)))=true:=by
      rw [Bool.not_eq_true',← Bool.not_eq_true,Bool.and_eq_true,decide_eq_true_iff,decide_eq_true_iff]; exact ht
    rw [if_pos this,if_pos this]
    exact ⟨_,rfl,rfl⟩
  have hnt:¬ (!(decide (-5000000000000000≤x9)&&decide (x9≤5000000000000000)))=true:=by
    rw [Bool.not_eq_true',← Bool.not_eq_true,Bool.and_eq_true,decide_eq_true_iff,decide_eq_true_iff]; exact fun h=>h ht
  rw [if_neg hnt,if_neg hnt]
  obtain ⟨_,h2,h3,h4,h5,h6,h7,h8⟩:=hok
  rw [i64_of (x:=x9-x2) (by omega)]
  unfold m_ref19_place
  obtain ⟨ra,hra,a1,a2⟩:=motion_same hF (a:=x3) (b:=x5) (m:=x9-x2) (by omega) (by omega) (by omega) (by omega)
  obtain ⟨de,hde,d1,d2⟩:=motion_same hF (a:=x4) (b:=x6) (m:=x9-x2) (by omega) (by omega) (by omega) (by omega)
  rw [i64_of (x:=x9-x2) (by omega)]
  rw [a1,d1,a2,d2,Option.bind_some,if_neg (by simp),Option.bind_some,if_neg (by simp),Option.bind_some,Option.bind_some,within_of (by omega),Option.bind_some]
  by_cases hd:-324000000000≤de∧de≤324000000000
  rotate_left
  · have:(!(decide (-324000000000≤de)&&decide (de≤324000000000)))=true:=by
      rw [Bool.not_eq_true',← Bool.not_eq_true,Bool.and_eq_true,decide_eq_true_iff,decide_eq_true_iff]; exact hd
    rw [if_pos this,if_pos this,Option.bind_some]
    exact ⟨_,rfl,rfl⟩
  have hnd:¬ (!(decide (-324000000000≤de)&&decide (de≤324000000000)))=true:=by
    rw [Bool.not_eq_true',← Bool.not_eq_true,Bool.and_eq_true,decide_eq_true_iff,decide_eq_true_iff]; exact fun h=>h hd
  obtain ⟨n,hn⟩:=norm_some (F:=F) ra
  rw [if_neg hnd,if_neg hnd,Option.bind_some,norm_same hn,hn,Option.bind_some,Option.bind_some,Option.bind_some]
  exact ⟨_,rfl,rfl⟩
theorem places_law (x1:ByteArray) (x2 x3 x4 x5 x6 x7 x8 x9:Int):m_law19_CatalogPlaces F x1 x2 x3 x4 x5 x6 x7 x8 x9=some true:=by
  unfold m_law19_CatalogPlaces m_law19_great_L1
  by_cases hs:(x1.size:Int)>100
  · rw [if_pos hs,Option.bind_some,if_pos rfl]
  rw [if_neg hs]
  unfold m_law19_great_L1_j1
  rw [Option.bind_some,if_neg (by simp)]
  obtain ⟨nm,n1,n2⟩:=name_same hF (s:=x1) (by omega)
  obtain ⟨r,h1,h2⟩:=place_same hF (x1:=x1) (by omega) x2 x3 x4 x5 x6 x7 x8 x9
  rw [h1,h2,c_Check x2 x3 x4 x5 x6 x7 x8 n1,c_rCheck x2 x3 x4 x5 x6 x7 x8 n2]
  simp
end
end Go.Proofs.Ytdcfjndokifgeaa
