/- What the models of the package wide give: trim, made, check, From, times, Mul. -/
import Derived.Test.YtdcfjndokifgeaaWad
import Derived.Test.YtdcfjndokifgeaaWideNum
set_option linter.unusedVariables false
set_option linter.unusedSimpArgs false
namespace Go.Proofs.Ytdcfjndokifgeaa
open Go Go.SL
theorem ixn {T:Type} {l:List T} {i:Nat} {x:T} (h:l[i]? = some x):idx l (i:Int)=some x:=by
  unfold idx; rw [if_pos (by omega)]; simpa using h
theorem lsub0 {T:Type} (l:List T) (k:Nat):lsub l 0 (k:Int)=l.take k:=by simp [lsub]
theorem wS {i:Nat} (h:i≤1000000):IntKind.i64.wrap ((i:Int)+1)=((i+1:Nat):Int):=by rw [i64_of (by omega)]; omega
theorem wP {i:Nat} (h:i≤1000000):IntKind.i64.wrap (((i+1:Nat):Int)-1)=(i:Int):=by rw [i64_of (by omega)]; omega
theorem u32_id {x:Int} (h:0≤x∧x<4294967296):IntKind.u32.wrap x=x:=by rw [IntKind.wrap_u32]; omega
theorem u32w (x:Int):IntKind.u32.wrap x=x % 4294967296:=IntKind.wrap_u32 x
theorem fd32 (x:Int):Int.fdiv x (2^32)=x/4294967296:=by rw [fdiv_pow]; rfl
theorem trim_l (F:Nat) (l:List Int) (hl:l.length≤1000000):∀ (n N:Nat),n<N→n≤l.length→m_wide_trim_o_l2 F l N (n:Int)=some (l.take (trimN l n))
  | _,0,h,_=>by omega
  | 0,N+1,_,hn=>by
    show m_wide_trim_o_b2 F l (m_wide_trim_o_l2 F l N) ((0:Nat):Int)=_
    unfold m_wide_trim_o_b2 m_wide_trim_o_j3 m_wide_trim_o_j1
    rw [if_neg (by omega),if_neg (by simp),if_pos ⟨by omega,by omega,by omega⟩,lsub0]
    rfl
  | n+1,N+1,h,hn=>by
    show m_wide_trim_o_b2 F l (m_wide_trim_o_l2 F l N) ((n+1:Nat):Int)=_
    have hx:l[n]? = some l[n]:=List.getElem?_eq_getElem hn
    unfold m_wide_trim_o_b2 m_wide_trim_o_j3 m_wide_trim_o_j1
    rw [if_pos (by omega),wP (by omega),ixn hx,Option.bind_some]
    unfold trimN
    by_cases h0:l[n]=0
    · rw [if_pos (by simpa using h0),if_pos (by rw [hx,h0])]
      exact trim_l F l hl n N (by omega) (by omega)
    · have h1:¬ (l[n]? = some 0):=by rw [hx]; simpa using h0
      rw [if_neg (by simpa using h0),if_neg h1,if_pos ⟨by omega,by omega,by omega⟩,lsub0]
section
variable {F:Nat} (hF:4300000000≤F)
include hF
theorem w_trim {l:List Int} (hl:Lim l) (hn:l.length≤1000000):∃ r,m_wide_trim_o F l=some r∧Is r (lval l):=by
  refine ⟨_,trim_l F l hn l.length F (by omega) (Nat.le_refl _),?_⟩
  have:=trimN_is l hl l.length (Nat.le_refl _)
  rw [List.take_length] at this
  exact this
theorem w_made {l:List Int} (hl:Lim l) (hn:l.length≤4096) (b:Bool):∃ b' r,m_wide_made_o F b l=some (b',r,0)∧IsW b' r (if b=true then -(lval l) else lval l):=by
  obtain ⟨r,h1,h2⟩:=w_trim hF hl (by omega)
  have h3:r.length≤4096:=h2.len (Int.lt_of_lt_of_le (lval_lt hl) (BP_mono hn))
  have h4:=h2.nonneg
  have h5:=h2.zero
  unfold m_wide_made_o
  rw [h1,Option.bind_some,if_neg (by omega)]
  refine ⟨_,_,rfl,?_,?_⟩
  · cases b
    · simp only [Bool.false_eq_true,if_false]
      rw [show ((lval l).natAbs:Int)=lval l by omega]; exact h2
    · simp only [if_true]
      rw [show ((-(lval l)).natAbs:Int)=lval l by omega]; exact h2
  · cases b
    · simp only [Bool.false_and,Bool.false_eq_true,if_false]
      symm; simp only [decide_eq_false_iff_not]; omega
    · simp only [Bool.true_and,if_true]
      congr 1
      have:r.length>0↔r≠[]:=List.length_pos_iff
      have h6:r≠[]↔lval l≠0:=not_congr h5.symm
      simp only [eq_iff_iff]
      rw [show ((r.length:Int)>0)↔(r.length>0) by omega,this,h6]
      omega
omit hF in
theorem w_check1 {b:Bool} {l:List Int} {z:Int} (h:IsW b l z) (hn:l.length≤4096):m_wide_check_L1 F b l=some 0:=by
  unfold m_wide_check_L1 m_wide_check_L1_j3 m_wide_check_L1_j2 m_wide_check_L1_j1
  rw [if_neg (by omega)]
  have hc:=chk h
  by_cases h0:(l.length:Int)>0
  · obtain ⟨x,hx,hx0⟩:=h.last (by omega)
    rw [if_pos h0,show IntKind.i64.wrap ((l.length:Int)-1)=((l.length-1:Nat):Int) by rw [i64_of (by omega)]; omega,ixn hx,Option.bind_some,if_neg]
    have h1:¬ l=[]:=fun e=>by subst e; simp at h0
    simp [hx0,h1]
  · rw [if_neg h0,if_neg]
    have:=hc (by omega)
    simp [this]
omit hF in
theorem w_check2 {b b':Bool} {l l':List Int} {z z':Int} (h:IsW b l z) (hn:l.length≤4096) (h':IsW b' l' z') (hn':l'.length≤4096):m_wide_check_L2 F b l b' l'=some 0:=by
  have key:m_wide_check_L2_j4 F l b l' b' false=some 0:=by
    unfold m_wide_check_L2_j4
    rw [if_neg]
    · unfold m_wide_check_L2_j3 m_wide_check_L2_j2 m_wide_check_L2_j1
      rw [if_neg (by omega)]
      have hc:=chk h'
      by_cases h0:(l'.length:Int)>0
      · obtain ⟨x,hx,hx0⟩:=h'.last (by omega)
        rw [if_pos h0,show IntKind.i64.wrap ((l'.length:Int)-1)=((l'.length-1:Nat):Int) by rw [i64_of (by omega)]; omega,ixn hx,Option.bind_some,if_neg]
        have h1:¬ l'=[]:=fun e=>by subst e; simp at h0
        simp [hx0,h1]
      · rw [if_neg h0,if_neg]
        have:=hc (by omega)
        simp [this]
    · have hc:=chk h
      simp only [Bool.false_or,Bool.and_eq_true,decide_eq_true_eq,not_and]
      intro h0
      rw [hc h0]; simp
  unfold m_wide_check_L2 m_wide_check_L2_j5
  rw [if_neg (by omega)]
  by_cases h0:(l.length:Int)>0
  · obtain ⟨x,hx,hx0⟩:=h.last (by omega)
    rw [if_pos h0,show IntKind.i64.wrap ((l.length:Int)-1)=((l.length-1:Nat):Int) by rw [i64_of (by omega)]; omega,ixn hx,Option.bind_some]
    rw [show decide (x=(0:Int))=false by simpa using hx0]
    exact key
  · rw [if_neg h0]; exact key
theorem w_From {x:Int} (h:-9223372036854775808≤x∧x≤9223372036854775807):∃ b l,m_wide_From F x=some (b,l)∧IsW b l x:=by
  have key:∀ u:Int,0≤u∧u<18446744073709551616→u=x.natAbs→∃ b l,m_wide_From_j1 F x u=some (b,l)∧IsW b l x:=fun u hu hux=>by
    unfold m_wide_From_j1
    have e1:IntKind.u32.wrap u=u % 4294967296:=u32w u
    have e2:IntKind.u32.wrap (Int.fdiv u (2^32))=u/4294967296:=by rw [fd32,u32_id (by omega)]
    rw [e1,e2]
    have hL:Lim [u % 4294967296,u/4294967296]:=Lim.cons (by omega) (Lim.cons (by omega) Lim.nil)
    obtain ⟨b',r,h1,h2⟩:=w_made hF hL (by simp) (decide (x<0))
    rw [h1,Option.bind_some]
    refine ⟨b',r,rfl,?_⟩
    have hv:lval [u % 4294967296,u/4294967296]=u:=by simp only [lval]; omega
    rw [hv] at h2
    have:(if decide (x<0)=true then -u else u)=x:=by
      by_cases hx:x<0
      · simp only [hx,decide_true,if_true]; omega
      · simp only [hx,decide_false,Bool.false_eq_true,if_false]; omega
    rw [this] at h2
    exact h2
  unfold m_wide_From
  split
  · refine key _ (u64_rng _) ?_
    rw [u64w,u64w]; omega
  · refine key _ (u64_rng _) ?_
    rw [u64w]; omega
omit hF in
theorem times_in {a b:List Int} (ha:Lim a) (hb:Lim b) (hla:a.length≤5000) (hlb:b.length≤5000) {i:Nat} {x:Int} (hx:a[i]? = some x) (rec:List Int→Int→Option (List Int)) (o0:List Int) :
    ∀ (m N k:Nat) (o:List Int) (c:Int),k+m=b.length→m<N→o.length=a.length+b.length→Lim o→0≤c∧c<4294967296→(∀ j,i+k≤j→o[j]? = o0[j]?)→lval o+c*BP (i+k)=lval o0+x*BP i*lval (b.take k) →
      ∃ o' c',m_wide_times_l5 F b (i:Int) x rec N o c (k:Int)=m_wide_times_j4 F (i:Int) b rec o' c' (b.length:Int)∧o'.length=a.length+b.length∧Lim o'∧(0≤c'∧c'<4294967296)∧(∀ j,i+b.length≤j→o'[j]? = o0[j]?)∧lval o'+c'*BP (i+b.length)=lval o0+x*BP i*lval b
  | _,0,_,_,_,_,h,_,_,_,_,_=>by omega
  | 0,N+1,k,o,c,hk,_,ho,hlo,hc,hj,hv=>by
    have e1:m_wide_times_l5 F b (i:Int) x rec (N+1) o c (k:Int)=m_wide_times_b5 F b (i:Int) x rec (m_wide_times_l5 F b (i:Int) x rec N) o c (k:Int):=rfl
    rw [e1]
    unfold m_wide_times_b5
    rw [if_neg (by omega)]
    obtain rfl:k=b.length:=by omega
    rw [List.take_length] at hv
    exact ⟨o,c,rfl,ho,hlo,hc,hj,hv⟩
  | m+1,N+1,k,o,c,hk,hN,ho,hlo,hc,hj,hv=>by
    have e1:m_wide_times_l5 F b (i:Int) x rec (N+1) o c (k:Int)=m_wide_times_b5 F b (i:Int) x rec (m_wide_times_l5 F b (i:Int) x rec N) o c (k:Int):=rfl
    rw [e1]
    unfold m_wide_times_b5
    have hil:=(List.getElem?_eq_some_iff.1 hx).1
    have hy:b[k]? = some b[k]:=List.getElem?_eq_getElem (by omega)
    have hz:o[i+k]? = some o[i+k]:=List.getElem?_eq_getElem (by omega)
    have by_:=hb.at hy; have bz:=hlo.at hz; have bx:=ha.at hx
    rw [if_pos (by omega),ixn hy,Option.bind_some,show IntKind.i64.wrap ((i:Int)+(k:Int))=((i+k:Nat):Int) by rw [i64_of (by omega)]; omega,ixn hz,Option.bind_some,Option.bind_some]
    have hm:=mul32 bx by_
    generalize hyv:b[k]=y at *
    generalize hzv:o[i+k]=z at *
    have hbig:x*y≤18446744065119617025:=hm.2
    rw [u64_id (x:=x) (by omega),u64_id (x:=y) (by omega),u64_id (x:=z) (by omega),u64_id (x:=x*y) (by omega),u64_id (x:=x*y+z) (by omega),u64_id (by omega),fd32,u32w,Int.toNat_natCast,wS (by omega)]
    have hset:lval (o.set (i+k) ((c+(x*y+z)) % 4294967296))=lval o+BP (i+k)*((c+(x*y+z)) % 4294967296-z):=lval_set _ hz
    have htk:=lval_take hy
    refine times_in ha hb hla hlb hx rec o0 m N (k+1) _ _ (by omega) (by omega) (by simpa using ho) (hlo.set _ (by omega)) (by omega) (fun j hj'=>?_) ?_
    · rw [List.getElem?_set_ne (by omega)]; exact hj j (by omega)
    · rw [hset,htk,show i+(k+1)=(i+k)+1 by omega,BP_succ]
      have hmod:=Int.mul_ediv_add_emod (c+(x*y+z)) 4294967296
      rw [BP_add] at hv ⊢
      generalize (c+(x*y+z))/4294967296=q at *
      generalize (c+(x*y+z)) % 4294967296=s at *
      generalize BP i=p at *
      generalize BP k=p' at *
      generalize lval (b.take k)=u at *
      generalize lval o=v at *
      generalize lval o0=v0 at *
      have:s=c+(x*y+z)-4294967296*q:=by omega
      subst this
      grind
omit hF in
theorem times_out (hF:4300000000≤F) {a b:List Int} (ha:Lim a) (hb:Lim b) (hla:a.length≤5000) (hlb:b.length≤5000):∀ (m N i:Nat) (o:List Int),i+m=a.length→m<N→o.length=a.length+b.length→Lim o→(∀ j,i+b.length≤j→j<o.length→o[j]? = some 0)→lval o=lval (a.take i)*lval b →
    ∃ r,m_wide_times_l2 F a b N o (i:Int)=some r∧r.length=a.length+b.length∧Lim r∧lval r=lval a*lval b
  | _,0,_,_,_,h,_,_,_,_=>by omega
  | 0,N+1,i,o,hi,_,ho,hlo,_,hv=>by
    have e1:m_wide_times_l2 F a b (N+1) o (i:Int)=m_wide_times_b2 F a b (m_wide_times_l2 F a b N) o (i:Int):=rfl
    rw [e1]
    unfold m_wide_times_b2 m_wide_times_j1
    rw [if_neg (by omega)]
    rw [show i=a.length by omega,List.take_length] at hv
    exact ⟨o,rfl,ho,hlo,hv⟩
  | m+1,N+1,i,o,hi,hN,ho,hlo,hz,hv=>by
    have e1:m_wide_times_l2 F a b (N+1) o (i:Int)=m_wide_times_b2 F a b (m_wide_times_l2 F a b N) o (i:Int):=rfl
    rw [e1]
    unfold m_wide_times_b2
    have hx:a[i]? = some a[i]:=List.getElem?_eq_getElem (by omega)
    rw [if_pos (by omega),ixn hx,Option.bind_some]
    obtain ⟨o',c',h1,h2,h3,h4,h5,h6⟩:=times_in (F:=F) ha hb hla hlb hx (m_wide_times_l2 F a b N) o b.length F 0 o 0 (by omega) (by omega) ho hlo (by omega) (fun j _=>rfl) (by simp [lval])
    rw [show ((0:Nat):Int)=0 from rfl] at h1
    rw [h1]
    unfold m_wide_times_j4 m_wide_times_j3
    have hy:o'[i+b.length]? = some 0:=by rw [h5 _ (Nat.le_refl _)]; exact hz _ (by omega) (by omega)
    rw [show IntKind.i64.wrap ((i:Int)+(b.length:Int))=((i+b.length:Nat):Int) by rw [i64_of (by omega)]; omega,ixn hy,Option.bind_some,Int.toNat_natCast,wS (by omega),u32_id h4]
    have hset:lval (o'.set (i+b.length) c')=lval o'+BP (i+b.length)*(c'-0):=lval_set _ hy
    refine times_out hF ha hb hla hlb m N (i+1) _ (by omega) (by omega) (by simpa using h2) (h3.set _ h4) (fun j hj hjl=>?_) ?_
    · simp only [List.length_set] at hjl
      rw [List.getElem?_set_ne (by omega),h5 _ (by omega)]
      exact hz _ (by omega) (by omega)
    · rw [hset,lval_take hx]
      rw [hv] at h6
      grind
theorem w_times {a b:List Int} (ha:Lim a) (hb:Lim b) (hla:a.length≤5000) (hlb:b.length≤5000):∃ r,m_wide_times F a b=some r∧r.length=a.length+b.length∧Lim r∧lval r=lval a*lval b:=by
  unfold m_wide_times
  have e:IntKind.i64.wrap ((a.length:Int)+(b.length:Int))=((a.length+b.length:Nat):Int):=by rw [i64_of (by omega)]; omega
  rw [e,if_pos (by omega),Int.toNat_natCast]
  exact times_out hF ha hb hla hlb a.length F 0 _ (by omega) (by omega) (by simp) (Lim.zeros _) (fun j _ hj=>by simp at hj; rw [List.getElem?_replicate,if_pos hj]) (by rw [lval_zeros]; simp [lval])
theorem w_Mul {b b':Bool} {l l':List Int} {z z':Int} (h:IsW b l z) (h':IsW b' l' z') (hn:l.length≤2000) (hn':l'.length≤2000):∃ c r,m_wide_Mul F b l b' l'=some (c,r,0)∧IsW c r (z*z'):=by
  unfold m_wide_Mul
  rw [w_check2 h (by omega) h' (by omega),Option.bind_some,if_neg (by decide)]
  obtain ⟨r,h1,h2,h3,h4⟩:=w_times hF h.is.lim h'.is.lim (by omega) (by omega)
  rw [h1,Option.bind_some]
  obtain ⟨c,q,h5,h6⟩:=w_made hF h3 (by omega) (!(b == b'))
  rw [h5,Option.bind_some]
  refine ⟨c,q,rfl,?_⟩
  rw [h4,h.is.val,h'.is.val,h.neg,h'.neg] at h6
  have:(if (!(decide (z<0) == decide (z'<0)))=true then -((z.natAbs:Int)*(z'.natAbs:Int)) else (z.natAbs:Int)*(z'.natAbs:Int))=z*z':=by
    by_cases h1:z<0 <;> by_cases h2:z'<0
    · rw [show (z.natAbs:Int)=-z by omega,show (z'.natAbs:Int)=-z' by omega]; simp [h1,h2,Int.neg_mul_neg]
    · rw [show (z.natAbs:Int)=-z by omega,show (z'.natAbs:Int)=z' by omega]; simp [h1,h2,Int.neg_mul]
    · rw [show (z.natAbs:Int)=z by omega,show (z'.natAbs:Int)=-z' by omega]; simp [h1,h2,Int.mul_neg]
    · rw [show (z.natAbs:Int)=z by omega,show (z'.natAbs:Int)=z' by omega]; simp [h1,h2]
  rw [this] at h6
  exact h6
end
end Go.Proofs.Ytdcfjndokifgeaa
