/- Fractions of the reference by their values; whether an interval has one. -/
import Derived.Test.YtjaiebdcmjjnbaaGreatRM6
import Derived.Test.YtjaiebdcmjjnbaaGreatSP2
set_option linter.unusedVariables false
set_option linter.unusedSimpArgs false
namespace Go.Proofs.YtjaiebdcmjjnbaaGreat
open Go Go.SL
structure Vf (a:Bool) (b:List Int) (c:Bool) (d:List Int) (N D:Int) (n:Nat):Prop where
  ex:∃ P Q,IsF a b c d P Q∧P*D=N*Q
  lb:b.length≤n
  ld:d.length≤n
section
variable {F:Nat} (hF:4300000000≤F)
include hF
theorem v_Whole {x:Int} (h:-9223372036854775808≤x∧x≤9223372036854775807):∃ a b c d,zaS F x=some (a,b,c,d)∧Vf a b c d x 1 2:=by
  obtain ⟨a,b,c,d,h1,h2,h3,h4⟩:=q_Whole hF h
  exact ⟨a,b,c,d,h1,⟨x,1,h2,rfl⟩,h3,h4⟩
theorem v_Reduced {x y:Int} (hx:-9223372036854775808≤x∧x≤9223372036854775807) (hy:0<y∧y≤9223372036854775807):∃ b1 l1 b2 l2 a b c d,zaT F x=some (b1,l1)∧zaT F y=some (b2,l2)∧zbk F b1 l1 b2 l2=some (a,b,c,d)∧Vf a b c d x y 2:=by
  obtain ⟨b1,l1,e1,i1⟩:=r_From hF hx
  obtain ⟨b2,l2,e2,i2⟩:=r_From hF (x:=y) (by omega)
  have g1:=one_len i1 (by omega)
  have g2:=one_len i2 (by omega)
  obtain ⟨a,b,c,d,p,q,h1,h2,h3,h4,h5⟩:=q_Reduced hF i1 i2 (by omega) (by omega) (by omega)
  exact ⟨b1,l1,b2,l2,a,b,c,d,e1,e2,h1,⟨p,q,h2,h3⟩,by omega,by omega⟩
theorem v_Of {x y:Int} (hx:-9223372036854775808≤x∧x≤9223372036854775807) (hy:0<y∧y≤9223372036854775807):∃ a b c d,zfo F x y=some (a,b,c,d,0)∧Vf a b c d x y 2:=by
  obtain ⟨b1,l1,b2,l2,a,b,c,d,e1,e2,e3,h⟩:=v_Reduced hF hx hy
  obtain ⟨b1',l1',e1',i1⟩:=r_From hF hx
  obtain ⟨b2',l2',e2',i2⟩:=r_From hF (x:=y) (by omega)
  rw [e1] at e1'; cases e1'
  rw [e2] at e2'; cases e2'
  have g1:=one_len i1 (by omega)
  have g2:=one_len i2 (by omega)
  have hl:¬ (l2.length:Int)=0:=fun e=>by
    have:=i2.pos.1 (List.length_eq_zero_iff.1 (by omega)); omega
  refine ⟨a,b,c,d,?_,h⟩
  unfold zfo zf4 zd7
  rw [e1,Option.bind_some,e2,Option.bind_some,r_Check i1 (by omega),Option.bind_some,if_neg (by simp),r_Check i2 (by omega),Option.bind_some,if_neg (by simp),if_neg hl,e3,Option.bind_some,Option.bind_some]
theorem v_Times {a b c d a' b' c' d':_} {N D N' D':Int} {n n':Nat} (h:Vf a b c d N D n) (h':Vf a' b' c' d' N' D' n') (hn:n≤400) (hn':n'≤400) :
    ∃ x y z w,zaC F a b c d a' b' c' d'=some (x,y,z,w,0)∧Vf x y z w (N*N') (D*D') (n+n'):=by
  obtain ⟨⟨P,Q,f,e⟩,k1,k2⟩:=h
  obtain ⟨⟨P',Q',f',e'⟩,k1',k2'⟩:=h'
  obtain ⟨x,y,z,w,P2,Q2,h1,h2,h3,h4,h5⟩:=q_product hF f.num f'.num f.den f'.den (by omega) (by omega) (by omega) (by omega) (Int.ne_of_gt (Int.mul_pos f.pos f'.pos))
  refine ⟨x,y,z,w,?_,⟨P2,Q2,h2,?_⟩,by omega,by omega⟩
  · unfold zaC; rw [h1]; rfl
  · have hh:(P2*(D*D'))*(Q*Q')=((N*N')*Q2)*(Q*Q'):=by
      calc (P2*(D*D'))*(Q*Q')=(P2*(Q*Q'))*(D*D'):=by grind
        _=((P*P')*Q2)*(D*D'):=by rw [h3]
        _=((P*D)*(P'*D'))*Q2:=by grind
        _=_:=by rw [e,e']; grind
    exact Int.eq_of_mul_eq_mul_right (Int.ne_of_gt (Int.mul_pos f.pos f'.pos)) hh
theorem v_Plus {a b c d a' b' c' d':_} {N D N' D':Int} {n n':Nat} (h:Vf a b c d N D n) (h':Vf a' b' c' d' N' D' n') (hn:n≤400) (hn':n'≤400) :
    ∃ x y z w,zbB F a b c d a' b' c' d'=some (x,y,z,w,0)∧Vf x y z w (N*D'+N'*D) (D*D') (2*n+2*n'+1):=by
  obtain ⟨⟨P,Q,f,e⟩,k1,k2⟩:=h
  obtain ⟨⟨P',Q',f',e'⟩,k1',k2'⟩:=h'
  unfold zbB zfE zdA
  obtain ⟨c1,r1,e1,e2⟩:=r_Mul hF f.num f'.den (by omega) (by omega)
  obtain ⟨c2,r2,e3,e4⟩:=r_Mul hF f'.num f.den (by omega) (by omega)
  obtain ⟨c3,r3,e5,e6⟩:=r_Mul hF f.den f'.den (by omega) (by omega)
  have g1:=mul_len f.num f'.den e2
  have g2:=mul_len f'.num f.den e4
  have g3:=mul_len f.den f'.den e6
  obtain ⟨c4,r4,e7,e8⟩:=r_Add hF e2 e4 (by omega) (by omega)
  have g4:=add_len e2 e4 e8
  obtain ⟨x,y,z,w,P2,Q2,h5,h6,h7,h8,h9⟩:=q_Reduced hF e8 e6 (Int.ne_of_gt (Int.mul_pos f.pos f'.pos)) (by omega) (by omega)
  rw [e1,Option.bind_some,e3,Option.bind_some,e5,Option.bind_some,if_neg (by simp),e7,Option.bind_some,if_neg (by simp),if_neg (by simp),h5,Option.bind_some,Option.bind_some]
  refine ⟨x,y,z,w,rfl,⟨P2,Q2,h6,?_⟩,by omega,by omega⟩
  have hh:(P2*(D*D'))*(Q*Q')=((N*D'+N'*D)*Q2)*(Q*Q'):=by
    calc (P2*(D*D'))*(Q*Q')=(P2*(Q*Q'))*(D*D'):=by grind
      _=((P*Q'+P'*Q)*Q2)*(D*D'):=by rw [h7]
      _=((P*D)*Q'*D'+(P'*D')*Q*D)*Q2:=by grind
      _=_:=by rw [e,e']; grind
  exact Int.eq_of_mul_eq_mul_right (Int.ne_of_gt (Int.mul_pos f.pos f'.pos)) hh
theorem r_Compared {b b':Bool} {l l':List Int} {z z':Int} (h:IsW b l z) (h':IsW b' l' z') (hn:l.length≤4000) (hn':l'.length≤4000):zdC F b l b' l'=some (cmpI z z'):=by
  unfold zdC
  have n1:=h.neg; have n2:=h'.neg
  by_cases hz:z<0 <;> by_cases hz':z'<0
  · rw [show b=true by rw [n1]; simpa using hz,show b'=true by rw [n2]; simpa using hz']
    rw [if_neg (by decide),if_pos rfl,r_compare hF h'.is h.is (by omega),Option.bind_some]
    unfold cmpI
    congr 1
    split <;> split <;> (try split) <;> omega
  · rw [show b=true by rw [n1]; simpa using hz,show b'=false by rw [n2]; simpa using hz']
    rw [if_pos (by decide),if_pos rfl]
    unfold cmpI; rw [if_pos (by omega)]
  · rw [show b=false by rw [n1]; simpa using hz,show b'=true by rw [n2]; simpa using hz']
    rw [if_pos (by decide),if_neg (by decide)]
    unfold cmpI; rw [if_neg (by omega),if_pos (by omega)]
  · rw [show b=false by rw [n1]; simpa using hz,show b'=false by rw [n2]; simpa using hz']
    rw [if_neg (by decide),if_neg (by decide),r_compare hF h.is h'.is (by omega),Option.bind_some]
    unfold cmpI
    congr 1
    split <;> split <;> (try split) <;> omega
theorem v_Cmp {a b c d a' b' c' d':_} {N D N' D':Int} {n n':Nat} (h:Vf a b c d N D n) (h':Vf a' b' c' d' N' D' n') (hD:0<D) (hD':0<D') (hn:n≤400) (hn':n'≤400) :
    ∃ k,zeU F a b c d a' b' c' d'=some (k,0)∧(N*D'≤N'*D→k≤0):=by
  obtain ⟨⟨P,Q,f,e⟩,k1,k2⟩:=h
  obtain ⟨⟨P',Q',f',e'⟩,k1',k2'⟩:=h'
  obtain ⟨c1,r1,e1,e2⟩:=r_Mul hF f.num f'.den (by omega) (by omega)
  obtain ⟨c2,r2,e3,e4⟩:=r_Mul hF f'.num f.den (by omega) (by omega)
  have g1:=mul_len f.num f'.den e2
  have g2:=mul_len f'.num f.den e4
  refine ⟨cmpI (P*Q') (P'*Q),?_,fun hle=>?_⟩
  · unfold zeU
    rw [q_both hF f f' (by omega) (by omega) (by omega) (by omega),Option.bind_some,if_neg (by simp),e1,Option.bind_some,e3,Option.bind_some,if_neg (by simp),r_Compared hF e2 e4 (by omega) (by omega),Option.bind_some]
  · have hh:P*Q'≤P'*Q:=by
      have h1:(N*D')*(Q*Q')≤(N'*D)*(Q*Q'):=Int.mul_le_mul_of_nonneg_right hle (Int.le_of_lt (Int.mul_pos f.pos f'.pos))
      have h2:(P*Q')*(D*D')≤(P'*Q)*(D*D'):=by
        calc (P*Q')*(D*D')=(P*D)*(Q'*D'):=by grind
          _=(N*D')*(Q*Q'):=by rw [e]; grind
          _≤(N'*D)*(Q*Q'):=h1
          _=(P'*D')*(Q*D):=by rw [e']; grind
          _=_:=by grind
      exact Int.le_of_mul_le_mul_right h2 (Int.mul_pos hD hD')
    unfold cmpI
    split
    · omega
    · rw [if_neg (by omega)]; omega
theorem v_Has {lo hi:Int} {a b c d:_} {N D:Int} {n:Nat} (h:Vf a b c d N D n) (hD:0<D) (hn:n≤400) (hlo:-2305843009213693952≤lo∧lo≤2305843009213693952) (hhi:-2305843009213693952≤hi∧hi≤2305843009213693952)
    (h1:lo*D≤N*1099511627776) (h2:N*1099511627776≤hi*D):zcQ F lo hi a b c d=some true:=by
  obtain ⟨b1,l1,b2,l2,x,y,z,w,e1,e2,e3,h3⟩:=v_Reduced hF (x:=lo) (y:=1099511627776) (by omega) (by omega)
  obtain ⟨b1',l1',b2',l2',x',y',z',w',e1',e2',e3',h3'⟩:=v_Reduced hF (x:=hi) (y:=1099511627776) (by omega) (by omega)
  obtain ⟨k,e4,h4⟩:=v_Cmp hF h3 h (by omega) hD (by omega) hn
  obtain ⟨k',e5,h5⟩:=v_Cmp hF h h3' hD (by omega) hn (by omega)
  have p1:=h4 h1
  have p2:=h5 h2
  have e6:=e2.symm.trans e2'
  cases e6
  unfold zcQ
  rw [e1,Option.bind_some,e2,Option.bind_some,e3,Option.bind_some,e4,Option.bind_some,e1',Option.bind_some,Option.bind_some,e3',Option.bind_some,e5,Option.bind_some]
  simp [p1,p2]
end
end Go.Proofs.YtjaiebdcmjjnbaaGreat
