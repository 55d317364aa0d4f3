/- What the models of the reference of layer 1 give: times, left, short. -/
import Derived.Test.YtjaiebdcmjjnbaaGreatRM1
set_option linter.unusedVariables false
set_option linter.unusedSimpArgs false
namespace Go.Proofs.YtjaiebdcmjjnbaaGreat
open Go Go.SL
section
variable {F:Nat} (hF:4300000000≤F)
include hF
omit hF in
theorem rtimes_in {a b:List Int} (ha:Lim a) (hb:Lim b) (hla:a.length≤5000) (hlb:b.length≤5000) {i:Nat} {x:Int} (hx:a[i]? = some x) (rec:List Int→Int→Option (List Int)) (o0:List Int) :
    ∀ (m N k:Nat) (o:List Int) (c:Int),k+m=b.length→m<N→o.length=a.length+b.length→Lim o→0≤c∧c<4294967296→(∀ j,i+k≤j→o[j]? = o0[j]?)→lval o+c*BP (i+k)=lval o0+x*BP i*lval (b.take k) →
      ∃ o' c',zbn F b a (i:Int) rec N o c (k:Int)=zdz F (i:Int) b rec o' c' (b.length:Int)∧o'.length=a.length+b.length∧Lim o'∧(0≤c'∧c'<4294967296)∧(∀ j,i+b.length≤j→o'[j]? = o0[j]?)∧lval o'+c'*BP (i+b.length)=lval o0+x*BP i*lval b
  | _,0,_,_,_,_,h,_,_,_,_,_=>by omega
  | 0,N+1,k,o,c,hk,_,ho,hlo,hc,hj,hv=>by
    have e1:zbn F b a (i:Int) rec (N+1) o c (k:Int)=zca F b a (i:Int) rec (zbn F b a (i:Int) rec N) o c (k:Int):=rfl
    rw [e1]
    unfold zca
    rw [if_neg (by omega)]
    obtain rfl:k=b.length:=by omega
    rw [List.take_length] at hv
    exact ⟨o,c,rfl,ho,hlo,hc,hj,hv⟩
  | m+1,N+1,k,o,c,hk,hN,ho,hlo,hc,hj,hv=>by
    have e1:zbn F b a (i:Int) rec (N+1) o c (k:Int)=zca F b a (i:Int) rec (zbn F b a (i:Int) rec N) o c (k:Int):=rfl
    rw [e1]
    unfold zca
    have hil:=(List.getElem?_eq_some_iff.1 hx).1
    have hy:b[k]? = some b[k]:=List.getElem?_eq_getElem (by omega)
    have hz:o[i+k]? = some o[i+k]:=List.getElem?_eq_getElem (by omega)
    have by_:=hb.at hy; have bz:=hlo.at hz; have bx:=ha.at hx
    rw [if_pos (by omega),ixn hx,Option.bind_some,ixn hy,Option.bind_some,show IntKind.i64.wrap ((i:Int)+(k:Int))=((i+k:Nat):Int) by rw [i64_of (by omega)]; omega,ixn hz,Option.bind_some,Option.bind_some]
    have hm:=mul32 bx by_
    generalize hyv:b[k]=y at *
    generalize hzv:o[i+k]=z at *
    have hbig:x*y≤18446744065119617025:=hm.2
    rw [u64_id (x:=x) (by omega),u64_id (x:=y) (by omega),u64_id (x:=z) (by omega),u64_id (x:=x*y) (by omega),u64_id (x:=x*y+z) (by omega),u64_id (by omega),fd32,u32w,Int.toNat_natCast,wS (by omega)]
    have hset:lval (o.set (i+k) ((c+(x*y+z)) % 4294967296))=lval o+BP (i+k)*((c+(x*y+z)) % 4294967296-z):=lval_set _ hz
    have htk:=lval_take hy
    refine rtimes_in ha hb hla hlb hx rec o0 m N (k+1) _ _ (by omega) (by omega) (by simpa using ho) (hlo.set _ (by omega)) (by omega) (fun j hj'=>?_) ?_
    · rw [List.getElem?_set_ne (by omega)]; exact hj j (by omega)
    · rw [hset,htk,show i+(k+1)=(i+k)+1 by omega,BP_succ]
      have hmod:=Int.mul_ediv_add_emod (c+(x*y+z)) 4294967296
      rw [BP_add] at hv ⊢
      generalize (c+(x*y+z))/4294967296=q at *
      generalize (c+(x*y+z)) % 4294967296=s at *
      generalize BP i=p at *
      generalize BP k=p' at *
      generalize lval (b.take k)=u at *
      generalize lval o=v at *
      generalize lval o0=v0 at *
      have:s=c+(x*y+z)-4294967296*q:=by omega
      subst this
      grind
omit hF in
theorem rtimes_out (hF:4300000000≤F) {a b:List Int} (ha:Lim a) (hb:Lim b) (hla:a.length≤5000) (hlb:b.length≤5000):∀ (m N i:Nat) (o:List Int),i+m=a.length→m<N→o.length=a.length+b.length→Lim o→(∀ j,i+b.length≤j→j<o.length→o[j]? = some 0)→lval o=lval (a.take i)*lval b →
    ∃ r,za6 F a b N o (i:Int)=some r∧r.length=a.length+b.length∧Lim r∧lval r=lval a*lval b
  | _,0,_,_,_,h,_,_,_,_=>by omega
  | 0,N+1,i,o,hi,_,ho,hlo,_,hv=>by
    have e1:za6 F a b (N+1) o (i:Int)=zcb F a b (za6 F a b N) o (i:Int):=rfl
    rw [e1]
    unfold zcb zeD
    rw [if_neg (by omega)]
    rw [show i=a.length by omega,List.take_length] at hv
    exact ⟨o,rfl,ho,hlo,hv⟩
  | m+1,N+1,i,o,hi,hN,ho,hlo,hz,hv=>by
    have e1:za6 F a b (N+1) o (i:Int)=zcb F a b (za6 F a b N) o (i:Int):=rfl
    rw [e1]
    unfold zcb
    have hx:a[i]? = some a[i]:=List.getElem?_eq_getElem (by omega)
    rw [if_pos (by omega)]
    obtain ⟨o',c',h1,h2,h3,h4,h5,h6⟩:=rtimes_in (F:=F) ha hb hla hlb hx (za6 F a b N) o b.length F 0 o 0 (by omega) (by omega) ho hlo (by omega) (fun j _=>rfl) (by simp [lval])
    rw [show ((0:Nat):Int)=0 from rfl] at h1
    rw [h1]
    unfold zdz zeE
    have hy:o'[i+b.length]? = some 0:=by rw [h5 _ (Nat.le_refl _)]; exact hz _ (by omega) (by omega)
    rw [show IntKind.i64.wrap ((i:Int)+(b.length:Int))=((i+b.length:Nat):Int) by rw [i64_of (by omega)]; omega,ixn hy,Option.bind_some,Int.toNat_natCast,wS (by omega),u32_id h4]
    have hset:lval (o'.set (i+b.length) c')=lval o'+BP (i+b.length)*(c'-0):=lval_set _ hy
    refine rtimes_out hF ha hb hla hlb m N (i+1) _ (by omega) (by omega) (by simpa using h2) (h3.set _ h4) (fun j hj hjl=>?_) ?_
    · simp only [List.length_set] at hjl
      rw [List.getElem?_set_ne (by omega),h5 _ (by omega)]
      exact hz _ (by omega) (by omega)
    · rw [hset,lval_take hx]
      rw [hv] at h6
      grind
theorem r_times {a b:List Int} (ha:Lim a) (hb:Lim b) (hla:a.length≤5000) (hlb:b.length≤5000):∃ r,zeP F a b=some r∧r.length=a.length+b.length∧Lim r∧lval r=lval a*lval b:=by
  unfold zeP
  have e:IntKind.i64.wrap ((a.length:Int)+(b.length:Int))=((a.length+b.length:Nat):Int):=by rw [i64_of (by omega)]; omega
  rw [e,if_pos (by omega),Int.toNat_natCast]
  exact rtimes_out hF ha hb hla hlb a.length F 0 _ (by omega) (by omega) (by simp) (Lim.zeros _) (fun j _ hj=>by simp at hj; rw [List.getElem?_replicate,if_pos hj]) (by rw [lval_zeros]; simp [lval])
theorem r_Mul {b b':Bool} {l l':List Int} {z z':Int} (h:IsW b l z) (h':IsW b' l' z') (hn:l.length≤2000) (hn':l'.length≤2000):∃ c r,zb5 F b l b' l'=some (c,r,0)∧IsW c r (z*z'):=by
  unfold zb5
  rw [r_both h (by omega) h' (by omega),Option.bind_some,if_neg (by decide)]
  obtain ⟨r,h1,h2,h3,h4⟩:=r_times hF h.is.lim h'.is.lim (by omega) (by omega)
  rw [h1,Option.bind_some]
  obtain ⟨c,q,h5,h6⟩:=r_made hF h3 (by omega) (!(b == b'))
  rw [h5,Option.bind_some]
  refine ⟨c,q,rfl,?_⟩
  rw [h4,h.is.val,h'.is.val,h.neg,h'.neg] at h6
  have:(if (!(decide (z<0) == decide (z'<0)))=true then -((z.natAbs:Int)*(z'.natAbs:Int)) else (z.natAbs:Int)*(z'.natAbs:Int))=z*z':=by
    by_cases h1:z<0 <;> by_cases h2:z'<0
    · rw [show (z.natAbs:Int)=-z by omega,show (z'.natAbs:Int)=-z' by omega]; simp [h1,h2,Int.neg_mul_neg]
    · rw [show (z.natAbs:Int)=-z by omega,show (z'.natAbs:Int)=z' by omega]; simp [h1,h2,Int.neg_mul]
    · rw [show (z.natAbs:Int)=z by omega,show (z'.natAbs:Int)=-z' by omega]; simp [h1,h2,Int.mul_neg]
    · rw [show (z.natAbs:Int)=z by omega,show (z'.natAbs:Int)=z' by omega]; simp [h1,h2]
  rw [this] at h6
  exact h6
omit hF in
theorem rleft_l {l:List Int} (hl:Lim l) (hn:l.length≤5000) (s:Nat) (hs:s≤31):∀ (m N i:Nat) (o:List Int) (c:Int),i+m=l.length→m<N→o.length=i→Lim o→0≤c∧c<2^s→lval o+c*BP i=2^s*lval (l.take i) →
    ∃ r,zbt F l (s:Int) N o c (i:Int)=some r∧r.length=l.length+1∧Lim r∧lval r=2^s*lval l
  | _,0,_,_,_,_,h,_,_,_,_=>by omega
  | 0,N+1,i,o,c,hi,_,ho,hlo,hc,hv=>by
    have e1:zbt F l (s:Int) (N+1) o c (i:Int)=zcy F l (s:Int) (zbt F l (s:Int) N) o c (i:Int):=rfl
    rw [e1]
    unfold zcy zeY
    have h31:=two_pow_le hs
    have e31:((2:Int)^31)=2147483648:=by decide
    rw [if_neg (by omega),if_pos (by omega),u32_id (by omega)]
    refine ⟨_,rfl,by simp; omega,hlo.app (Lim.cons (by omega) Lim.nil),?_⟩
    obtain rfl:i=l.length:=by omega
    rw [List.take_length] at hv
    rw [lval_snoc,ho,← hv]; generalize BP l.length=p; grind
  | m+1,N+1,i,o,c,hi,hN,ho,hlo,hc,hv=>by
    have e1:zbt F l (s:Int) (N+1) o c (i:Int)=zcy F l (s:Int) (zbt F l (s:Int) N) o c (i:Int):=rfl
    rw [e1]
    unfold zcy
    have hx:l[i]? = some l[i]:=List.getElem?_eq_getElem (by omega)
    have bx:=hl.at hx
    have h31:=two_pow_le hs
    have h1:=two_pow_pos s
    have e31:((2:Int)^31)=2147483648:=by decide
    have eb:IntKind.bits .u64=64:=rfl
    have em:Int.tmod (s:Int) 32=(s:Int):=by rw [Int.tmod_eq_emod_of_nonneg (by omega)]; omega
    have hbig:l[i]*2^s≤4294967295*2147483648:=Int.mul_le_mul (by omega) (by omega) (by omega) (by omega)
    have hnn:0≤l[i]*2^s:=Int.mul_nonneg bx.1 (by omega)
    rw [if_pos (by omega),ixn hx,Option.bind_some,if_pos (by omega),eb,Int.toNat_natCast,Nat.min_eq_left (by omega),u64_id (x:=l[i]) (by omega),u64_id (x:=l[i]*2^s) (by omega),u64_id (x:=c+l[i]*2^s) (by omega),Int.add_comm c,Option.bind_some,if_pos (by omega),wS (by omega),fd32,u32w]
    have hq:(l[i]*2^s+c)/4294967296<2^s:=Int.ediv_lt_of_lt_mul (by omega) (by
      have:(l[i]+1)*2^s≤4294967296*2^s:=Int.mul_le_mul_of_nonneg_right (by omega) (by omega)
      rw [Int.add_mul] at this
      rw [Int.mul_comm (2^s)]
      omega)
    refine rleft_l hl hn s hs m N (i+1) _ _ (by omega) (by omega) (by simp [ho]) (hlo.app (Lim.cons (by omega) Lim.nil)) ⟨by omega,hq⟩ ?_
    rw [lval_snoc,ho,lval_take hx,BP_succ]
    clear hx e1 hq
    generalize l[i]=x at *
    have hmod:=Int.mul_ediv_add_emod (x*2^s+c) 4294967296
    generalize (x*2^s+c)/4294967296=q at *
    generalize hs':(x*2^s+c) % 4294967296=t at *
    generalize BP i=p at *
    generalize (2:Int)^s=e at *
    have:t=x*e+c-4294967296*q:=by omega
    rw [this]
    grind
theorem r_left {l:List Int} (hl:Lim l) (hn:l.length≤5000) (s:Nat) (hs:s≤31):∃ r,zek F l (s:Int)=some r∧r.length=l.length+1∧Lim r∧lval r=2^s*lval l:=by
  unfold zek
  exact rleft_l hl hn s hs l.length F 0 [] 0 (by omega) (by omega) rfl Lim.nil ⟨by omega,by have:=two_pow_pos s; omega⟩ (by simp [lval])
theorem rshort_l {l:List Int} (hl:Lim l) (hn:l.length≤5000) {d:Int} (hd:0<d∧d<4294967296):∀ (k N:Nat) (o:List Int) (r T:Int),k<N→k≤l.length→o.length=l.length→Lim o→0≤T→r=T % d→(∀ j,j<k→o[j]? = some 0)→lval o=BP k*(T/d) →
    ∃ q s,zbM F l d N o r ((k:Int)-1)=some (q,s)∧Is q ((lval (l.take k)+BP k*T)/d)∧Is s ((lval (l.take k)+BP k*T) % d)
  | _,0,_,_,_,h,_,_,_,_,_,_,_=>by omega
  | 0,N+1,o,r,T,_,hk,ho,hlo,hT,hr,hz,hv=>by
    show ∃ q s,zb8 F l d (zbM F l d N) o r (((0:Nat):Int)-1)=_∧_
    unfold zb8 zeB
    have r0:=Int.emod_nonneg T (show d≠0 by omega)
    have r1:=Int.emod_lt_of_pos T hd.1
    rw [if_neg (by omega),u32_id (by omega)]
    obtain ⟨q,h1,h2⟩:=r_trim hF hlo (by omega)
    obtain ⟨s,h3,h4⟩:=r_trim hF (l:=[r]) (Lim.cons (by omega) Lim.nil) (by simp)
    rw [h1,Option.bind_some,h3,Option.bind_some]
    simp only [List.take_zero,lval,BP_zero,Int.one_mul,Int.zero_add,Int.mul_zero,Int.add_zero] at hv h4 ⊢
    rw [hv] at h2
    rw [hr] at h4
    exact ⟨q,s,rfl,h2,h4⟩
  | k+1,N+1,o,r,T,hN,hk,ho,hlo,hT,hr,hz,hv=>by
    show ∃ q s,zb8 F l d (zbM F l d N) o r (((k+1:Nat):Int)-1)=_∧_
    rw [show (((k+1:Nat):Int)-1)=(k:Int) by omega]
    have hx:l[k]? = some l[k]:=List.getElem?_eq_getElem (by omega)
    have bx:=hl.at hx
    have h0:=hz k (by omega)
    have r0:=Int.emod_nonneg T (show d≠0 by omega)
    have r1:=Int.emod_lt_of_pos T hd.1
    have e32:((2:Int)^32)=4294967296:=by decide
    unfold zb8
    have htk:=lval_take hx
    generalize l[k]=x at *
    have hr0:0≤r∧r<d:=by omega
    have q1:(r*4294967296+x)/d<4294967296:=Int.ediv_lt_of_lt_mul hd.1 (by
      have:(r+1)*4294967296≤d*4294967296:=Int.mul_le_mul_of_nonneg_right (by omega) (by omega)
      omega)
    have q0:0≤(r*4294967296+x)/d:=Int.ediv_nonneg (by omega) (by omega)
    rw [if_pos (by omega),ixn hx,Option.bind_some,e32,u64_id (x:=r*4294967296) (by omega),u64_id (x:=x) (by omega),u64_id (x:=r*4294967296+x) (by omega),Option.bind_some,u64_id (x:=d) (by omega),if_pos (by omega),ixn h0,Option.bind_some,if_pos (by omega),Option.bind_some,Int.toNat_natCast,
      Int.tdiv_eq_ediv_of_nonneg (by omega),Int.tmod_eq_emod_of_nonneg (by omega),u64_id (by omega),u32_id ⟨q0,q1⟩,show IntKind.i64.wrap ((k:Int)-1)=(k:Int)-1 from i64_of (by omega)]
    have hTd:=Int.mul_ediv_add_emod T d
    have e1:r*4294967296+x=(4294967296*T+x)-d*(4294967296*(T/d)):=by
      rw [hr]
      generalize T/d=q at *
      generalize T % d=s at *
      grind
    have e2:(r*4294967296+x) % d=(4294967296*T+x) % d:=by rw [e1,Int.sub_mul_emod_self_left]
    have e3:(r*4294967296+x)/d=(4294967296*T+x)/d-4294967296*(T/d):=by rw [e1,Int.sub_mul_ediv_left _ _ (by omega)]
    have e4:lval (l.take k)+BP k*(4294967296*T+x)=lval (l.take (k+1))+BP (k+1)*T:=by
      rw [htk,BP_succ]; generalize BP k=p; grind
    rw [← e4]
    refine rshort_l hl hn hd k N _ _ (4294967296*T+x) (by omega) (by omega) (by simpa using ho) (hlo.set _ ⟨q0,q1⟩) (by omega) e2 (fun j hj=>by
      rw [List.getElem?_set_ne (by omega)]; exact hz j (by omega)) (by
      rw [lval_set _ h0,hv,BP_succ,e3]
      generalize BP k=p
      generalize T/d=q
      generalize (4294967296*T+x)/d=q'
      grind)
theorem r_short {l:List Int} (hl:Lim l) (hn:l.length≤5000) {d:Int} (hd:0<d∧d<4294967296):∃ q s,zeO F l d=some (q,s)∧Is q (lval l/d)∧Is s (lval l % d):=by
  unfold zeO
  rw [if_pos (by omega),show IntKind.i64.wrap ((l.length:Int)-1)=(l.length:Int)-1 from i64_of (by omega),Option.bind_some,Int.toNat_natCast]
  have:=rshort_l hF hl hn hd l.length F (List.replicate l.length 0) 0 0 (by omega) (Nat.le_refl _) (by simp) (Lim.zeros _) (Int.le_refl _) (by simp) (fun j hj=>by rw [List.getElem?_replicate,if_pos hj]) (by rw [lval_zeros]; simp)
  rw [List.take_length,Int.mul_zero,Int.add_zero] at this
  exact this
end
end Go.Proofs.YtjaiebdcmjjnbaaGreat
