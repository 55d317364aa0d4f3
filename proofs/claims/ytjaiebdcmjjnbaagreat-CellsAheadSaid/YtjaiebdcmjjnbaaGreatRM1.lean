/- What the models of the reference of layer 1 give: all but division. -/
import Derived.Test.YtjaiebdcmjjnbaaGreatFM1
set_option linter.unusedVariables false
set_option linter.unusedSimpArgs false
namespace Go.Proofs.YtjaiebdcmjjnbaaGreat
open Go Go.SL
theorem rtrim_l (F:Nat) (l:List Int) (hl:l.length≤1000000):∀ (n N:Nat),n<N→n≤l.length→zbX F l N (n:Int)=some (l.take (trimN l n))
  | _,0,h,_=>by omega
  | 0,N+1,_,hn=>by
    show zcw F l (zbX F l N) ((0:Nat):Int)=_
    unfold zcw zc3 zd0
    rw [if_neg (by omega),if_neg (by simp),if_pos ⟨by omega,by omega,by omega⟩,if_pos (by simp),lsub0,if_pos (by simp)]
    rfl
  | n+1,N+1,h,hn=>by
    show zcw F l (zbX F l N) ((n+1:Nat):Int)=_
    have hx:l[n]? = some l[n]:=List.getElem?_eq_getElem hn
    unfold zcw zc3 zd0
    rw [if_pos (by omega),wP (by omega),ixn hx,Option.bind_some]
    unfold trimN
    by_cases h0:l[n]=0
    · rw [if_pos (by simpa using h0),if_pos (by rw [hx,h0])]
      exact rtrim_l F l hl n N (by omega) (by omega)
    · have h1:¬ (l[n]? = some 0):=by rw [hx]; simpa using h0
      rw [if_neg (by simpa using h0),if_neg h1,if_pos ⟨by omega,by omega,by omega⟩,if_pos (by simp),lsub0,if_pos (by rw [List.length_take]; omega),List.nil_append]
section
variable {F:Nat} (hF:4300000000≤F)
include hF
theorem r_trim {l:List Int} (hl:Lim l) (hn:l.length≤1000000):∃ r,zb4 F l=some r∧Is r (lval l):=by
  refine ⟨_,rtrim_l F l hn l.length F (by omega) (Nat.le_refl _),?_⟩
  have:=trimN_is l hl l.length (Nat.le_refl _)
  rw [List.take_length] at this
  exact this
theorem r_made {l:List Int} (hl:Lim l) (hn:l.length≤4096) (b:Bool):∃ b' r,zaX F b l=some (b',r,0)∧IsW b' r (if b=true then -(lval l) else lval l):=by
  obtain ⟨r,h1,h2⟩:=r_trim hF hl (by omega)
  have h3:r.length≤4096:=h2.len (Int.lt_of_lt_of_le (lval_lt hl) (BP_mono hn))
  have h4:=h2.nonneg
  have h5:=h2.zero
  unfold zaX
  rw [h1,Option.bind_some,if_neg (by omega)]
  refine ⟨_,_,rfl,?_,?_⟩
  · cases b
    · simp only [Bool.false_eq_true,if_false]
      rw [show ((lval l).natAbs:Int)=lval l by omega]; exact h2
    · simp only [if_true]
      rw [show ((-(lval l)).natAbs:Int)=lval l by omega]; exact h2
  · cases b
    · simp only [Bool.false_and,Bool.false_eq_true,if_false]
      symm; simp only [decide_eq_false_iff_not]; omega
    · simp only [Bool.true_and,if_true]
      congr 1
      have:r.length>0↔r≠[]:=List.length_pos_iff
      have h6:r≠[]↔lval l≠0:=not_congr h5.symm
      simp only [eq_iff_iff]
      rw [show ((r.length:Int)>0)↔(r.length>0) by omega,this,h6]
      omega
omit hF in
theorem r_Check {b:Bool} {l:List Int} {z:Int} (h:IsW b l z) (hn:l.length≤4096):zba F b l=some 0:=by
  unfold zba zdx zdw
  rw [if_neg (by omega)]
  have hc:=chk h
  by_cases h0:(l.length:Int)>0
  · obtain ⟨x,hx,hx0⟩:=h.last (by omega)
    have h1:¬ l=[]:=fun e=>by subst e; simp at h0
    rw [if_pos h0,show IntKind.i64.wrap ((l.length:Int)-1)=((l.length-1:Nat):Int) by rw [i64_of (by omega)]; omega,ixn hx,Option.bind_some,if_neg]
    simp [hx0,h1]
  · rw [if_neg h0,if_neg]
    have:=hc (by omega)
    simp [this]
omit hF in
theorem r_both {b b':Bool} {l l':List Int} {z z':Int} (h:IsW b l z) (hn:l.length≤4096) (h':IsW b' l' z') (hn':l'.length≤4096):zbf F b l b' l'=some 0:=by
  unfold zbf
  rw [r_Check h hn,Option.bind_some,if_neg (by simp),r_Check h' hn',Option.bind_some]
theorem r_From {x:Int} (h:-9223372036854775808≤x∧x≤9223372036854775807):∃ b l,zaT F x=some (b,l)∧IsW b l x:=by
  have key:∀ u:Int,0≤u∧u<18446744073709551616→u=x.natAbs→∃ b l,zc4 F x u=some (b,l)∧IsW b l x:=fun u hu hux=>by
    unfold zc4
    have e1:IntKind.u32.wrap u=u % 4294967296:=u32w u
    have e2:IntKind.u32.wrap (Int.fdiv u (2^32))=u/4294967296:=by rw [fd32,u32_id (by omega)]
    rw [e1,e2]
    have hL:Lim [u % 4294967296,u/4294967296]:=Lim.cons (by omega) (Lim.cons (by omega) Lim.nil)
    obtain ⟨b',r,h1,h2⟩:=r_made hF hL (by simp) (decide (x<0))
    rw [h1,Option.bind_some]
    refine ⟨b',r,rfl,?_⟩
    have hv:lval [u % 4294967296,u/4294967296]=u:=by simp only [lval]; omega
    rw [hv] at h2
    have:(if decide (x<0)=true then -u else u)=x:=by
      by_cases hx:x<0
      · simp only [hx,decide_true,if_true]; omega
      · simp only [hx,decide_false,Bool.false_eq_true,if_false]; omega
    rw [this] at h2
    exact h2
  unfold zaT
  split
  · refine key _ (u64_rng _) ?_
    rw [u64w,u64w]; omega
  · refine key _ (u64_rng _) ?_
    rw [u64w]; omega
omit hF in
theorem rcmp_l {a b:List Int} (ha:Lim a) (hb:Lim b) (hab:a.length=b.length) (hn:a.length≤5000):∀ (k N:Nat),k<N→k≤a.length→zbu F a b N ((k:Int)-1)=some (cmpI (lval (a.take k)) (lval (b.take k)))
  | _,0,h,_=>by omega
  | 0,N+1,_,_=>by
    show zbL F a b (zbu F a b N) (((0:Nat):Int)-1)=_
    unfold zbL zd1
    rw [if_neg (by omega)]
    simp [lval,cmpI]
  | k+1,N+1,h,hk=>by
    show zbL F a b (zbu F a b N) (((k+1:Nat):Int)-1)=_
    rw [show (((k+1:Nat):Int)-1)=(k:Int) by omega]
    have hx:a[k]? = some a[k]:=List.getElem?_eq_getElem (by omega)
    have hy:b[k]? = some b[k]:=List.getElem?_eq_getElem (by omega)
    unfold zbL
    rw [if_pos (by omega),ixn hx,Option.bind_some,ixn hy,Option.bind_some,show IntKind.i64.wrap ((k:Int)-1)=(k:Int)-1 from i64_of (by omega),rcmp_l ha hb hab hn k N (by omega) (by omega),lval_take hx,lval_take hy]
    have h1:=lval_lt (ha.take k); have h2:=lval_nonneg (ha.take k)
    have h3:=lval_lt (hb.take k); have h4:=lval_nonneg (hb.take k)
    rw [List.length_take,Nat.min_eq_left (by omega)] at h1 h3
    clear hx hy
    generalize a[k]=x at *
    generalize b[k]=y at *
    generalize lval (a.take k)=u at *
    generalize lval (b.take k)=v at *
    have hp:=BP_pos k
    generalize BP k=p at *
    unfold cmpI
    by_cases hxy:x<y
    · have:p*(x+1)≤p*y:=Int.mul_le_mul_of_nonneg_left (by omega) (by omega)
      rw [Int.mul_add] at this
      rw [if_pos hxy,if_pos (by omega)]
    · rw [if_neg hxy]
      by_cases hyx:x>y
      · have:p*(y+1)≤p*x:=Int.mul_le_mul_of_nonneg_left (by omega) (by omega)
        rw [Int.mul_add] at this
        rw [if_pos hyx,if_neg (by omega),if_pos (by omega)]
      · obtain rfl:x=y:=by omega
        rw [if_neg hyx]
        have g1:(u+p*x<v+p*x)=(u<v):=by simp only [eq_iff_iff]; omega
        have g2:(v+p*x<u+p*x)=(v<u):=by simp only [eq_iff_iff]; omega
        simp only [g1,g2]
theorem r_compare {a b:List Int} {z z':Int} (ha:Is a z) (hb:Is b z') (hn:a.length≤5000):zbE F a b=some (cmpI z z'):=by
  unfold zbE
  by_cases hl:a.length=b.length
  · rw [if_neg (by omega),show IntKind.i64.wrap ((a.length:Int)-1)=(a.length:Int)-1 from i64_of (by omega),Option.bind_some,rcmp_l ha.lim hb.lim hl hn a.length F (by omega) (Nat.le_refl _),List.take_length,hl,List.take_length,ha.val,hb.val]
  · rw [if_pos (by omega)]
    have key:∀ {a b:List Int} {z z':Int},Is a z→Is b z'→a.length<b.length→z<z':=fun {a b z z'} ha hb h=>by
      have h1:=ha.lt
      have h2:=hb.ge (fun e=>by subst e; simp at h)
      have h3:=BP_mono (show a.length≤b.length-1 by omega)
      omega
    by_cases h1:a.length<b.length
    · have:=key ha hb h1
      rw [if_pos (by omega)]; unfold cmpI; rw [if_pos this]
    · have:=key hb ha (by omega)
      rw [if_neg (by omega)]; unfold cmpI; rw [if_neg (by omega),if_pos this]
omit hF in
theorem take_or {a:List Int} (ha:Lim a) (i:Nat):∃ y,(0≤y∧y<4294967296)∧lval (a.take (i+1))=lval (a.take i)+BP i*y∧((i<a.length∧a[i]? = some y)∨(¬ i<a.length∧y=0)):=by
  by_cases h:i<a.length
  · have hx:a[i]? = some a[i]:=List.getElem?_eq_getElem h
    exact ⟨a[i],ha.at hx,lval_take hx,.inl ⟨h,hx⟩⟩
  · refine ⟨0,by omega,?_,.inr ⟨h,rfl⟩⟩
    rw [List.take_of_length_le (by omega),List.take_of_length_le (by omega)]; simp
omit hF in
theorem rplus_l {a b:List Int} (ha:Lim a) (hb:Lim b) (hla:a.length≤5000) (hlb:b.length≤5000):∀ (m N i:Nat) (o:List Int) (c:Int),i+m=max a.length b.length→m<N→o.length=i→Lim o→(c=0∨c=1)→lval o+c*BP i=lval (a.take i)+lval (b.take i) →
    ∃ r,zaQ F a b N o c (i:Int)=some r∧r.length=max a.length b.length+1∧Lim r∧lval r=lval a+lval b
  | _,0,_,_,_,_,h,_,_,_,_=>by omega
  | 0,N+1,i,o,c,hi,_,ho,hlo,hc,hv=>by
    have e1:zaQ F a b (N+1) o c (i:Int)=zcD F a b (zaQ F a b N) o c (i:Int):=rfl
    rw [e1]
    unfold zcD ze1
    rw [if_neg (by simp only [Bool.or_eq_true,decide_eq_true_eq]; omega),if_pos (by omega),u32_id (by omega)]
    refine ⟨_,rfl,by simp; omega,hlo.app (Lim.cons (by omega) Lim.nil),?_⟩
    rw [lval_snoc,ho]
    rw [List.take_of_length_le (by omega),List.take_of_length_le (by omega)] at hv
    rw [← hv]; generalize BP i=p; grind
  | m+1,N+1,i,o,c,hi,hN,ho,hlo,hc,hv=>by
    have e1:zaQ F a b (N+1) o c (i:Int)=zcD F a b (zaQ F a b N) o c (i:Int):=rfl
    rw [e1]
    unfold zcD
    rw [if_pos (by simp only [Bool.or_eq_true,decide_eq_true_eq]; omega)]
    obtain ⟨x,bx,hvx,hx⟩:=take_or ha i
    obtain ⟨y,bY,hvy,hy⟩:=take_or hb i
    have key3:zc7 F o (zaQ F a b N) (i:Int) (x+y+c)=zaQ F a b N (o++[(x+y+c) % 4294967296]) ((x+y+c)/4294967296) ((i+1:Nat):Int):=by
      unfold zc7
      rw [if_pos (by omega),u32w,fd32,wS (by omega)]
    have key4:zc8 F (i:Int) b o (zaQ F a b N) (c+x)=zaQ F a b N (o++[(x+y+c) % 4294967296]) ((x+y+c)/4294967296) ((i+1:Nat):Int):=by
      rw [← key3]
      unfold zc8
      rcases hy with ⟨h1,h2⟩ | ⟨h1,h2⟩
      · rw [if_pos (by omega),ixn h2,Option.bind_some,u64_id (x:=y) (by omega),u64_id (by omega)]
        congr 1; omega
      · rw [if_neg (by omega)]
        congr 1; omega
    have key:∃ r,zaQ F a b N (o++[(x+y+c) % 4294967296]) ((x+y+c)/4294967296) ((i+1:Nat):Int)=some r∧r.length=max a.length b.length+1∧Lim r∧lval r=lval a+lval b:=by
      refine rplus_l ha hb hla hlb m N (i+1) _ _ (by omega) (by omega) (by simp [ho]) (hlo.app (Lim.cons (by omega) Lim.nil)) (by omega) ?_
      rw [lval_snoc,ho,hvx,hvy,BP_succ]
      have hmod:=Int.mul_ediv_add_emod (x+y+c) 4294967296
      generalize (x+y+c)/4294967296=q at *
      generalize (x+y+c) % 4294967296=s at *
      generalize BP i=p at *
      have hs:s=x+y+c-4294967296*q:=by omega
      rw [hs]
      grind
    rcases hx with ⟨h1,h2⟩ | ⟨h1,h2⟩
    · rw [if_pos (by omega),ixn h2,Option.bind_some,u64_id (x:=x) (by omega),u64_id (by omega),key4]
      exact key
    · rw [if_neg (by omega)]
      have:c+x=c:=by omega
      rw [this] at key4
      rw [key4]
      exact key
theorem r_plus {a b:List Int} (ha:Lim a) (hb:Lim b) (hla:a.length≤4000) (hlb:b.length≤4000):∃ r,zfa F a b=some r∧r.length=max a.length b.length+1∧Lim r∧lval r=lval a+lval b:=by
  unfold zfa
  exact rplus_l ha hb (by omega) (by omega) (max a.length b.length) F 0 [] 0 (by omega) (by omega) rfl Lim.nil (.inl rfl) (by simp [lval])
omit hF in
theorem rminus_l (hF:4300000000≤F) {a b:List Int} (ha:Lim a) (hb:Lim b) (hla:a.length≤5000) (hab:b.length≤a.length) (hle:lval b≤lval a):∀ (m N i:Nat) (o:List Int) (c:Int),i+m=a.length→m<N→o.length=i→Lim o→(c=0∨c=1)→lval o-c*BP i=lval (a.take i)-lval (b.take i) →
    ∃ r,zaW F a b N o c (i:Int)=some r∧Is r (lval a-lval b)
  | _,0,_,_,_,_,h,_,_,_,_=>by omega
  | 0,N+1,i,o,c,hi,_,ho,hlo,hc,hv=>by
    have e1:zaW F a b (N+1) o c (i:Int)=zb9 F a b (zaW F a b N) o c (i:Int):=rfl
    rw [e1]
    unfold zb9 zeC
    obtain rfl:i=a.length:=by omega
    rw [if_neg (by omega)]
    rw [List.take_length,List.take_of_length_le hab] at hv
    have h1:=lval_lt hlo
    rw [ho] at h1
    obtain ⟨r,h2,h3⟩:=r_trim hF hlo (by omega)
    rw [h2,Option.bind_some]
    have:lval o=lval a-lval b:=by
      rcases hc with rfl | rfl
      · omega
      · omega
    rw [this] at h3
    exact ⟨r,rfl,h3⟩
  | m+1,N+1,i,o,c,hi,hN,ho,hlo,hc,hv=>by
    have e1:zaW F a b (N+1) o c (i:Int)=zb9 F a b (zaW F a b N) o c (i:Int):=rfl
    rw [e1]
    unfold zb9
    have hx:a[i]? = some a[i]:=List.getElem?_eq_getElem (by omega)
    have bx:=ha.at hx
    obtain ⟨y,bY,hvy,hy⟩:=take_or hb i
    have key:∃ r,zcO F o (zaW F a b N) (i:Int) (a[i]-c-y)=some r∧Is r (lval a-lval b):=by
      unfold zcO zdy
      have fin:∀ (t q:Int),(0≤t∧t<4294967296)→(q=0∨q=1)→t=a[i]-c-y+4294967296*q→∃ r,zaW F a b N (o++[t]) q ((i+1:Nat):Int)=some r∧Is r (lval a-lval b):=fun t q ht hq htq=>by
        refine rminus_l hF ha hb hla hab hle m N (i+1) _ _ (by omega) (by omega) (by simp [ho]) (hlo.app (Lim.cons ht Lim.nil)) hq ?_
        rw [lval_snoc,ho,lval_take hx,hvy,BP_succ,htq]
        generalize BP i=p at *
        grind
      by_cases hneg:a[i]-c-y<0
      · rw [if_pos hneg,i64_of (by omega),Option.bind_some,if_pos (by omega),u32_id (by omega),wS (by omega)]
        exact fin _ 1 (by omega) (.inr rfl) (by omega)
      · rw [if_neg hneg,if_pos (by omega),u32_id (by omega),wS (by omega)]
        exact fin _ 0 (by omega) (.inl rfl) (by omega)
    rw [if_pos (by omega),ixn hx,Option.bind_some,i64_of (x:=a[i]) (by omega),i64_of (x:=a[i]-c) (by omega),Option.bind_some]
    rcases hy with ⟨h1,h2⟩ | ⟨h1,h2⟩
    · rw [if_pos (by omega),ixn h2,Option.bind_some,i64_of (x:=y) (by omega),i64_of (x:=a[i]-c-y) (by omega)]
      exact key
    · rw [if_neg (by omega)]
      rw [h2,Int.sub_zero] at key
      exact key
theorem r_minus {a b:List Int} (ha:Lim a) (hb:Lim b) (hla:a.length≤5000) (hab:b.length≤a.length) (hle:lval b≤lval a):∃ r,zdI F a b=some r∧Is r (lval a-lval b):=by
  unfold zdI
  exact rminus_l hF ha hb hla hab hle a.length F 0 [] 0 (by omega) (by omega) rfl Lim.nil (.inl rfl) (by simp [lval])
theorem r_sum {b b':Bool} {l l':List Int} {z z':Int} (h:IsW b l z) (h':IsW b' l' z') (hn:l.length≤2000) (hn':l'.length≤2000):∃ c r,zdm F b l b' l'=some (c,r,0)∧IsW c r (z+z'):=by
  unfold zdm
  have hb:=h.neg
  have hb':=h'.neg
  by_cases hbb:b=b'
  · rw [if_pos (by simp [hbb])]
    obtain ⟨r,h1,h2,h3,h4⟩:=r_plus hF h.is.lim h'.is.lim (by omega) (by omega)
    rw [h1,Option.bind_some]
    obtain ⟨c,q,h5,h6⟩:=r_made hF h3 (by omega) b
    rw [h5,Option.bind_some]
    refine ⟨c,q,rfl,?_⟩
    rw [h4,h.is.val,h'.is.val] at h6
    have:(if b=true then -((z.natAbs:Int)+(z'.natAbs:Int)) else (z.natAbs:Int)+(z'.natAbs:Int))=z+z':=by
      rw [hb] at hbb ⊢
      rw [hb'] at hbb
      simp only [decide_eq_decide] at hbb
      simp only [decide_eq_true_eq]
      split <;> omega
    rw [this] at h6; exact h6
  · rw [if_neg (by simpa using hbb),r_compare hF h.is h'.is (by omega),Option.bind_some]
    have hne:(z<0∧0≤z')∨(0≤z∧z'<0):=by
      rw [hb,hb'] at hbb
      simp only [decide_eq_decide] at hbb
      omega
    by_cases hc:cmpI (z.natAbs:Int) (z'.natAbs:Int)≥0
    · rw [if_pos hc]
      have hle:(z'.natAbs:Int)≤(z.natAbs:Int):=by
        unfold cmpI at hc
        split at hc
        · omega
        · omega
      obtain ⟨r,h1,h2⟩:=r_minus hF h.is.lim h'.is.lim (by omega) (Is_len_le h.is h'.is hle) (by rw [h.is.val,h'.is.val]; exact hle)
      rw [h.is.val,h'.is.val] at h2
      have hrl:r.length≤2000:=Nat.le_trans (Is_len_le h.is h2 (by omega)) hn
      rw [h1,Option.bind_some]
      obtain ⟨c,q,h5,h6⟩:=r_made hF h2.lim (by omega) b
      rw [h5,Option.bind_some]
      refine ⟨c,q,rfl,?_⟩
      rw [h2.val] at h6
      have:(if b=true then -((z.natAbs:Int)-(z'.natAbs:Int)) else (z.natAbs:Int)-(z'.natAbs:Int))=z+z':=by
        rw [hb]
        simp only [decide_eq_true_eq]
        split <;> omega
      rw [this] at h6; exact h6
    · rw [if_neg hc]
      have hle:(z.natAbs:Int)≤(z'.natAbs:Int):=by
        unfold cmpI at hc
        split at hc
        · omega
        · split at hc <;> omega
      obtain ⟨r,h1,h2⟩:=r_minus hF h'.is.lim h.is.lim (by omega) (Is_len_le h'.is h.is hle) (by rw [h.is.val,h'.is.val]; exact hle)
      rw [h.is.val,h'.is.val] at h2
      have hrl:r.length≤2000:=Nat.le_trans (Is_len_le h'.is h2 (by omega)) hn'
      rw [h1,Option.bind_some]
      obtain ⟨c,q,h5,h6⟩:=r_made hF h2.lim (by omega) b'
      rw [h5,Option.bind_some]
      refine ⟨c,q,rfl,?_⟩
      rw [h2.val] at h6
      have:(if b'=true then -((z'.natAbs:Int)-(z.natAbs:Int)) else (z'.natAbs:Int)-(z.natAbs:Int))=z+z':=by
        rw [hb']
        simp only [decide_eq_true_eq]
        split <;> omega
      rw [this] at h6; exact h6
theorem r_Add {b b':Bool} {l l':List Int} {z z':Int} (h:IsW b l z) (h':IsW b' l' z') (hn:l.length≤2000) (hn':l'.length≤2000):∃ c r,zfB F b l b' l'=some (c,r,0)∧IsW c r (z+z'):=by
  unfold zfB
  obtain ⟨c,r,h1,h2⟩:=r_sum hF h h' hn hn'
  rw [r_both h (by omega) h' (by omega),Option.bind_some,if_neg (by simp),h1,Option.bind_some]
  exact ⟨c,r,rfl,h2⟩
theorem r_Neg {b:Bool} {l:List Int} {z:Int} (h:IsW b l z) (hn:l.length≤4096):∃ c r,zfA F b l=some (c,r,0)∧IsW c r (-z):=by
  unfold zfA
  rw [r_Check h hn,Option.bind_some,if_neg (by simp)]
  obtain ⟨c,q,h5,h6⟩:=r_made hF h.is.lim hn (!b)
  rw [h5,Option.bind_some]
  refine ⟨c,q,rfl,?_⟩
  rw [h.is.val,h.neg] at h6
  have:(if (!decide (z<0))=true then -(z.natAbs:Int) else (z.natAbs:Int))=-z:=by
    simp only [Bool.not_eq_true',decide_eq_false_iff_not]
    split <;> omega
  rw [this] at h6; exact h6
theorem r_Same {b b':Bool} {l l':List Int} {z z':Int} (h:IsW b l z) (h':IsW b' l' z') (hn:l.length≤2000):zfb F b l b' l'=some (decide (z=z')):=by
  unfold zfb zd9
  have hb:=h.neg
  have hb':=h'.neg
  by_cases hbb:b=b'
  · rw [if_pos (by simp [hbb]),r_compare hF h.is h'.is (by omega),Option.bind_some]
    congr 1
    rw [hb,hb',decide_eq_decide] at hbb
    rw [decide_eq_decide]
    unfold cmpI
    split
    · omega
    · split <;> omega
  · rw [if_neg (by simpa using hbb)]
    congr 1
    rw [hb,hb',decide_eq_decide] at hbb
    symm; simp only [decide_eq_false_iff_not]; omega
end
end Go.Proofs.YtjaiebdcmjjnbaaGreat
