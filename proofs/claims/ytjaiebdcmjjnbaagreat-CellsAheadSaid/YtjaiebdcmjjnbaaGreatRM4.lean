/- What the models of the reference of layer 1 give: division, greatest common divisors. -/
import Derived.Test.YtjaiebdcmjjnbaaGreatRM3
set_option linter.unusedVariables false
set_option linter.unusedSimpArgs false
namespace Go.Proofs.YtjaiebdcmjjnbaaGreat
open Go Go.SL
theorem shr_word {d e x y T:Int} (hd:1≤d) (he:d*e=4294967296) (hx:0≤x∧x<4294967296) (hy:0≤y∧y<4294967296) (hT:T % 4294967296=y) :
    (x+4294967296*T)/d=((x+4294967296*y)/d) % 4294967296+4294967296*(T/d):=by
  have e1:(x+4294967296*T)/d=x/d+e*T:=by
    rw [show x+4294967296*T=x+d*(e*T) by rw [← he]; grind,Int.add_mul_ediv_left _ _ (by omega)]
  have e2:(x+4294967296*y)/d=x/d+e*y:=by
    rw [show x+4294967296*y=x+d*(e*y) by rw [← he]; grind,Int.add_mul_ediv_left _ _ (by omega)]
  have he0:1≤e:=by
    rcases Int.lt_or_le 0 e with h | h
    · omega
    · have:d*e≤d*0:=Int.mul_le_mul_of_nonneg_left h (by omega)
      omega
  have hTd:=Int.mul_ediv_add_emod T d
  have hyd:=Int.mul_ediv_add_emod y d
  have hTB:=Int.mul_ediv_add_emod T 4294967296
  have hm:T % d=y % d:=by
    rw [← hT]
    have:T=y+d*(e*(T/4294967296)):=by
      rw [← hT]
      have:d*(e*(T/4294967296))=4294967296*(T/4294967296):=by rw [← he]; grind
      omega
    rw [show T % 4294967296=y from hT]
    rw [this,Int.add_mul_emod_self_left]
  have hy0:=Int.emod_nonneg y (show d≠0 by omega)
  have hy1:=Int.emod_lt_of_pos y (show 0<d by omega)
  have hxd:0≤x/d:=Int.ediv_nonneg hx.1 (by omega)
  have hxe:x/d<e:=Int.ediv_lt_of_lt_mul (by omega) (by rw [Int.mul_comm,he]; omega)
  have hm1:e*(y % d)≤e*(d-1):=Int.mul_le_mul_of_nonneg_left (by omega) (by omega)
  have hm0:0≤e*(y % d):=Int.mul_nonneg (by omega) hy0
  have hde:e*(d-1)=4294967296-e:=by rw [Int.mul_sub,Int.mul_comm,he]; omega
  have e3:x/d+e*y=(x/d+e*(y % d))+4294967296*(y/d):=by
    rw [← he]; generalize x/d=g; generalize hu:y % d=u at *; generalize y/d=z at *; grind
  have e4:(x/d+e*y) % 4294967296=x/d+e*(y % d):=by
    rw [e3,Int.add_mul_emod_self_left,Int.emod_eq_of_lt (by omega) (by omega)]
  rw [e1,e2,e4,← hm,← he]
  generalize T/d=z at *; generalize T % d=u at *; generalize x/d=g
  grind
theorem lval_mod {l:List Int} (hl:Lim l):lval l % 4294967296=(l[0]?).getD 0:=by
  cases l with
  | nil=>rfl
  | cons x t =>
    have:=hl.head
    show (x+4294967296*lval t) % 4294967296=x
    omega
section
variable {F:Nat} (hF:4300000000≤F)
include hF
omit hF in
theorem over_rest {b q u:List Int} {n:Nat} (hb:b.length=n) (hn:n≤4000) (hu:Lim u) (hun:n≤u.length) {s:Nat} (hs:s≤31) :
    ∀ (m N i:Nat) (o:List Int),i+m=n→m<N→o.length=i→Lim o→lval o+BP i*(lval ((u.take n).drop i)/2^s)=lval (u.take n)/2^s →
    ∃ o',zbF F b u (s:Int) q N o (i:Int)=zc5 F q o'∧Lim o'∧o'.length=n∧lval o'=lval (u.take n)/2^s
  | _,0,_,_,_,h,_,_,_=>by omega
  | 0,N+1,i,o,hi,_,ho,hlo,hv=>by
    show ∃ o',zcz F b u (s:Int) q (zbF F b u (s:Int) q N) o (i:Int)=_∧_
    unfold zcz
    rw [if_neg (by omega)]
    rw [List.drop_of_length_le (by simp; omega)] at hv
    simp only [lval,Int.zero_ediv,Int.mul_zero,Int.add_zero] at hv
    exact ⟨o,rfl,hlo,by omega,hv⟩
  | m+1,N+1,i,o,hi,hN,ho,hlo,hv=>by
    show ∃ o',zcz F b u (s:Int) q (zbF F b u (s:Int) q N) o (i:Int)=_∧_
    unfold zcz
    have hUl:(u.take n).length=n:=by rw [List.length_take]; omega
    have hU:=hu.take n
    obtain ⟨x,hx⟩:∃ x,(u.take n)[i]? = some x:=⟨_,List.getElem?_eq_getElem (by omega)⟩
    have bx:=hU.at hx
    have hdr:(u.take n).drop i=x::(u.take n).drop (i+1):=by
      rw [List.drop_eq_getElem_cons (show i<(u.take n).length by omega)]
      congr 1
      exact Option.some.inj ((List.getElem?_eq_getElem _).symm.trans hx)
    have h1:=two_pow_pos s
    have h2:=two_pow_split s (by omega)
    have hT:=lval_mod (hU.drop (i+1))
    rw [List.getElem?_drop,Nat.add_zero] at hT
    have e32:((2:Int)^32)=4294967296:=by decide
    have eb:IntKind.bits .u64=64:=rfl
    have key:∀ y:Int,(0≤y∧y<4294967296)→lval ((u.take n).drop (i+1)) % 4294967296=y→∃ o',zc6 F (s:Int) o (zbF F b u (s:Int) q N) (i:Int) (x+4294967296*y)=zc5 F q o'∧Lim o'∧o'.length=n∧lval o'=lval (u.take n)/2^s:=fun y hy hTy=>by
      unfold zc6
      have hw:=shr_word h1 h2 bx hy hTy
      rw [if_pos (by omega),if_pos (by omega),eb,Int.toNat_natCast,Nat.min_eq_left (by omega),fdiv_pow,u32w,wS (by omega)]
      refine over_rest hb hn hu hun hs m N (i+1) _ (by omega) (by omega) (by simp [ho]) (hlo.app (Lim.cons (by omega) Lim.nil)) ?_
      rw [← hv,hdr,lval_snoc,ho,BP_succ]
      simp only [lval]
      rw [hw]
      generalize (x+4294967296*y)/2^s % 4294967296=g
      generalize lval ((u.take n).drop (i+1))/2^s=z
      generalize BP i=p
      grind
    rw [if_pos (by omega),lsub0,hb,ixn hx,Option.bind_some,wS (by omega)]
    by_cases hc:i+1<n
    · obtain ⟨y,hy⟩:∃ y,(u.take n)[i+1]? = some y:=⟨_,List.getElem?_eq_getElem (by omega)⟩
      have bY:=hU.at hy
      rw [if_pos (by omega),ixn hy,Option.bind_some,e32,u64_id (x:=x) (by omega),u64_id (x:=y) (by omega),u64_id (x:=y*4294967296) (by omega),u64_id (x:=x+y*4294967296) (by omega),Int.mul_comm y]
      rw [hy] at hT
      exact key y bY hT
    · rw [if_neg (by omega),u64_id (x:=x) (by omega)]
      rw [List.getElem?_eq_none (by omega)] at hT
      have:=key 0 (by omega) hT
      rw [Int.mul_zero,Int.add_zero] at this
      exact this
theorem over_l {b v:List Int} {s:Nat} (hs:s≤31) (hv:Lim v) (hvb:v.length=b.length) (hn:b.length≤4000) {n:Nat} {t:Int} (hvn:v.length=n+2) (ht:v[n+1]? = some t) (ht0:2147483648≤t) {x19:List Int} (hx19:x19.take b.length=v) {U:Int} {L:Nat} (hL:L+b.length≤4900) (hL1:1≤L) :
    ∀ (k N:Nat) (q u:List Int),k<N→k≤L→q.length=L→u.length=L+b.length→Lim q→Lim u→(∀ i,i<k→q[i]? = some 0)→lval (u.drop k)<lval v→lval u+lval q*lval v=U →
      ∃ q' r',zbY F b x19 (s:Int) N u q ((k:Int)-1)=some (q',r')∧Is q' (U/lval v)∧Is r' ((U % lval v)/2^s)
  | _,0,_,_,h,_,_,_,_,_,_,_,_=>by omega
  | 0,N+1,q,u,_,_,hq,hu,hlq,hlu,_,hlt,hval=>by
    show ∃ q' r',zcA F b x19 (s:Int) (zbY F b x19 (s:Int) N) u q (((0:Nat):Int)-1)=_∧_
    unfold zcA zeZ
    rw [List.drop_zero] at hlt
    have hu0:=lval_nonneg hlu
    have hmod:U % lval v=lval u:=by rw [← hval,Int.add_mul_emod_self_right,Int.emod_eq_of_lt hu0 hlt]
    have hdiv:U/lval v=lval q:=by rw [← hval,Int.add_mul_ediv_right _ _ (by omega),Int.ediv_eq_zero_of_lt hu0 hlt]; omega
    have htk:lval (u.take b.length)=lval u:=by
      have h1:=lval_split u b.length (by omega)
      have h2:=lval_lt hv
      have h3:=lval_nonneg (hlu.take b.length)
      have h4:=lval_nonneg (hlu.drop b.length)
      rw [hvb] at h2
      rcases Int.lt_or_le 0 (lval (u.drop b.length)) with h5 | h5
      · have h6:BP b.length*1≤BP b.length*lval (u.drop b.length):=Int.mul_le_mul_of_nonneg_left (by omega) (by have:=BP_pos b.length; omega)
        omega
      · rw [show lval (u.drop b.length)=0 by omega] at h1; omega
    obtain ⟨o',g1,g2,g3,g4⟩:=over_rest (F:=F) (b:=b) (q:=q) (u:=u) rfl hn hlu (by omega) hs b.length F 0 [] (by omega) (by omega) rfl Lim.nil (by simp [lval,BP_zero])
    rw [show ((0:Nat):Int)=0 from rfl] at g1
    rw [if_neg (by omega),if_pos ⟨by omega,by omega,by omega⟩,g1]
    unfold zc5
    obtain ⟨q',h7,h8⟩:=r_trim hF hlq (by omega)
    obtain ⟨r3,h9,h10⟩:=r_trim hF g2 (by omega)
    rw [h7,Option.bind_some,h9,Option.bind_some]
    rw [hmod,hdiv]
    rw [g4,htk] at h10
    exact ⟨q',r3,rfl,h8,h10⟩
  | k+1,N+1,q,u,hN,hk,hq,hu,hlq,hlu,hz,hlt,hval=>by
    have e0:(((k+1:Nat):Int)-1)=(k:Int):=by omega
    show ∃ q' r',zcA F b x19 (s:Int) (zbY F b x19 (s:Int) N) u q (((k+1:Nat):Int)-1)=_∧_
    rw [e0]
    unfold zcA
    have hq0:=hz k (by omega)
    have ew:IntKind.i64.wrap (IntKind.i64.wrap ((k:Int)+(b.length:Int))+1)=((k+v.length+1:Nat):Int):=by rw [i64_of (x:=(k:Int)+(b.length:Int)) (by omega),i64_of (by omega)]; omega
    have hsb:sbd (k:Int) ((k+v.length+1:Nat):Int) (u.length:Int):=⟨by omega,by omega,by omega⟩
    have hv0:0<lval v:=by
      have:=lval_nonneg (hlu.drop (k+1)); omega
    have hdk:lval (u.drop k)=u[k]+4294967296*lval (u.drop (k+1)):=by
      rw [List.drop_eq_getElem_cons (show k<u.length by omega)]; rfl
    have bx:=hlu.at (List.getElem?_eq_getElem (show k<u.length by omega))
    have hhigh:lval (u.drop (k+1+v.length))=0:=by
      have h1:=lval_split (u.drop (k+1)) v.length (by simp; omega)
      rw [List.drop_drop] at h1
      have h2:=lval_lt hv
      have h3:=lval_nonneg ((hlu.drop (k+1)).take v.length)
      have h4:=lval_nonneg (hlu.drop (k+1+v.length))
      rcases Int.lt_or_le 0 (lval (u.drop (k+1+v.length))) with h5 | h5
      · have h6:BP v.length*1≤BP v.length*lval (u.drop (k+1+v.length)):=Int.mul_le_mul_of_nonneg_left (by omega) (by have:=BP_pos v.length; omega)
        omega
      · omega
    have hWv:lval ((u.drop k).take (v.length+1))=lval (u.drop k):=by
      have h1:=lval_split (u.drop k) (v.length+1) (by simp; omega)
      rw [List.drop_drop,show k+(v.length+1)=k+1+v.length by omega,hhigh,Int.mul_zero,Int.add_zero] at h1
      exact h1.symm
    have hlt2:lval ((u.drop k).take (v.length+1))<4294967296*lval v:=by rw [hWv,hdk]; omega
    have hpl:(u.take k).length=k:=by rw [List.length_take]; omega
    have hWl:((u.drop k).take (v.length+1)).length=n+2+1:=by rw [List.length_take,List.length_drop]; omega
    have hsl:(u.drop (k+v.length+1)).length=L+b.length-(k+v.length+1):=by rw [List.length_drop]; omega
    have hu3:u=u.take k++(u.drop k).take (v.length+1)++u.drop (k+v.length+1):=by
      rw [List.append_assoc,show k+v.length+1=k+(v.length+1) by omega,← List.drop_drop,List.take_append_drop,List.take_append_drop]
    obtain ⟨r,h1,h2,h3,h4⟩:=r_digit hF hv hvn (p:=u.take k) (s:=u.drop (k+v.length+1)) (W:=(u.drop k).take (v.length+1)) (by rw [hpl,hsl]; omega) ((hlu.drop k).take _) hWl hlt2 ht ht0
    rw [hpl,← hu3,show k+(n+2+1)=k+v.length+1 by omega] at h1
    have htk:lsub x19 0 (b.length:Int)=v:=by rw [lsub0,hx19]
    rw [if_pos (by omega),ew,if_pos hsb,htk,h1,Option.bind_some,ixn hq0,Option.bind_some,Int.toNat_natCast]
    rw [hWv] at h4 ⊢
    have hqq0:0≤lval (u.drop k)/lval v:=Int.ediv_nonneg (lval_nonneg (hlu.drop k)) (by omega)
    have hqq1:lval (u.drop k)/lval v<4294967296:=Int.ediv_lt_of_lt_mul hv0 (by rw [hWv] at hlt2; exact hlt2)
    have hwk:IntKind.i64.wrap ((k:Int)-1)=(k:Int)-1:=i64_of (by omega)
    rw [hwk]
    have hul:(u.take k++r++u.drop (k+v.length+1)).length=u.length:=by simp; omega
    have hud:(u.take k++r++u.drop (k+v.length+1)).drop k=r++u.drop (k+v.length+1):=by
      rw [List.append_assoc,List.drop_append_of_le_length (by simp; omega),List.drop_of_length_le (by simp; omega),List.nil_append]
    have hh2:lval (u.drop (k+v.length+1))=0:=by rw [show k+v.length+1=k+1+v.length by omega]; exact hhigh
    have hrv:lval (r++u.drop (k+v.length+1))=lval (u.drop k) % lval v:=by rw [lval_app,hh2,h4]; omega
    refine over_l hs hv hvb hn hvn ht ht0 hx19 hL hL1 k N _ _ (by omega) (by omega) (by simpa using hq) (by rw [hul]; exact hu) (hlq.set _ ⟨hqq0,hqq1⟩) (((hlu.take k).app h3).app (hlu.drop _)) (fun i hi=>by rw [List.getElem?_set_ne (by omega)]; exact hz i (by omega)) ?_ ?_
    · rw [hud,hrv]
      exact Int.emod_lt_of_pos _ hv0
    · rw [lval_set _ hq0,← hval,List.append_assoc,lval_app,hrv,List.length_take,Nat.min_eq_left (by omega),lval_split u k (by omega)]
      have hdm:=Int.mul_ediv_add_emod (lval (u.drop k)) (lval v)
      generalize lval (u.drop k)/lval v=d at *
      generalize lval (u.drop k) % lval v=e at *
      rw [← hdm]
      generalize BP k=p
      generalize lval v=w
      generalize lval q=g
      grind
omit hF in
theorem over_s {b a:List Int} (hn:b.length≤4000) {n:Nat} (hbn:b.length=n+1) {t:Int} (ht:b[n]? = some t) (bt:0<t∧t<4294967296):∀ (m N s:Nat),s+m=31→m<N→t*2^s<4294967296 →
    ∃ s':Nat,zcB F b a N (s:Int)=zd5 F b a (s':Int)∧s'≤31∧2147483648≤t*2^s'∧t*2^s'<4294967296
  | _,0,_,_,h,_=>by omega
  | m,N+1,s,hsm,hN,hlt=>by
    show ∃ s':Nat,zd6 F b a (zcB F b a N) (s:Int)=_∧_
    unfold zd6
    have hp:=two_pow_pos s
    have h0:0≤t*2^s:=Int.mul_nonneg (by omega) (by omega)
    have eb:IntKind.bits .u32=32:=rfl
    rw [show IntKind.i64.wrap ((b.length:Int)-1)=(n:Int) by rw [i64_of (by omega)]; omega,ixn ht,Option.bind_some,if_pos (by omega),eb,Int.toNat_natCast,Nat.min_eq_left (by omega),u32_id ⟨h0,hlt⟩]
    by_cases hc:t*2^s<2147483648
    · rw [if_pos hc]
      have hs31:s≠31:=fun e=>by
        subst e
        rw [show ((2:Int)^31)=2147483648 by decide] at hc
        omega
      obtain ⟨m,rfl⟩:∃ m',m=m'+1:=⟨m-1,by omega⟩
      rw [show IntKind.u64.wrap ((s:Int)+1)=((s+1:Nat):Int) by rw [u64_id (by omega)]; omega]
      exact over_s hn hbn ht bt m N (s+1) (by omega) (by omega) (by rw [Int.pow_succ,← Int.mul_assoc]; omega)
    · rw [if_neg hc]
      exact ⟨s,rfl,by omega,by omega,hlt⟩
theorem r_over {a b:List Int} {z z':Int} (ha:Is a z) (hb:Is b z') (hz':0<z') (hla:a.length≤2500) (hlb:b.length≤2000):∃ q r,zcC F a b=some (q,r)∧Is q (z/z')∧Is r (z % z'):=by
  have hz:=ha.nonneg
  unfold zcC
  rw [r_compare hF ha hb (by omega),Option.bind_some]
  by_cases hc:cmpI z z'<0
  · have hlt:z<z':=by unfold cmpI at hc; split at hc <;> (try split at hc) <;> omega
    obtain ⟨r,h1,h2⟩:=r_trim hF ha.lim (by omega)
    rw [if_pos hc,h1,Option.bind_some,Int.ediv_eq_zero_of_lt hz hlt,Int.emod_eq_of_lt hz hlt]
    rw [ha.val] at h2
    exact ⟨[],r,rfl,Is.nil,h2⟩
  have hle:z'≤z:=by
    unfold cmpI at hc
    split at hc
    · omega
    · omega
  rw [if_neg hc]
  have hbne:b≠[]:=fun e=>by have:=hb.zero.2 e; omega
  have hb0:0<b.length:=List.length_pos_iff.2 hbne
  have hba:=Is_len_le ha hb hle
  by_cases h1:(b.length:Int)=1
  · rw [if_pos h1]
    obtain ⟨d,rfl⟩:∃ d,b=[d]:=List.length_eq_one_iff.1 (by omega)
    have hd:=hb.lim.head
    have hdz:z'=d:=by rw [← hb.val]; simp [lval]
    have e0:idx [d] 0=some d:=rfl
    rw [e0,Option.bind_some]
    obtain ⟨q,r,h2,h3,h4⟩:=r_short hF ha.lim (by omega) (d:=d) (by omega)
    rw [h2,Option.bind_some,hdz,← ha.val]
    exact ⟨q,r,rfl,h3,h4⟩
  · rw [if_neg h1]
    obtain ⟨n,hn⟩:∃ n,b.length=n+2:=⟨b.length-2,by omega⟩
    have htop:b[n+1]? = some b[n+1]:=List.getElem?_eq_getElem (by omega)
    have btop:=hb.lim.at htop
    have htop0:b[n+1]≠0:=hb.nrm _ (by rw [List.getLast?_eq_getElem?,show b.length-1=n+1 by omega]; exact htop)
    generalize htv:b[n+1]=t at *
    obtain ⟨s,g0,hs,hs1,hs2⟩:=over_s (F:=F) (a:=a) (by omega) (n:=n+1) (by omega) htop (by omega) 31 F 0 (by omega) (by omega) (by rw [Int.pow_zero]; omega)
    rw [show ((0:Nat):Int)=0 from rfl] at g0
    rw [g0]
    unfold zd5
    obtain ⟨x19,h4,h5,h6,h7⟩:=r_left hF hb.lim (by omega) s hs
    obtain ⟨u,h8,h9,h10,h11⟩:=r_left hF ha.lim (by omega) s hs
    have hp:=two_pow_pos s
    rw [h4,Option.bind_some,if_pos ⟨by omega,by omega,by omega⟩,h8,Option.bind_some,
      show IntKind.i64.wrap ((u.length:Int)-(b.length:Int))=((a.length+1-b.length:Nat):Int) by rw [i64_of (by omega)]; omega,if_pos (by omega),Int.toNat_natCast,List.length_replicate,show IntKind.i64.wrap (((a.length+1-b.length:Nat):Int)-1)=((a.length+1-b.length:Nat):Int)-1 from i64_of (by omega),Option.bind_some]
    rw [hb.val] at h7
    rw [ha.val] at h11
    have hzt:z'<BP (n+1)*(t+1)∧BP (n+1)*t≤z':=by
      have:=lval_take htop
      rw [show n+1+1=b.length by omega,List.take_length,hb.val] at this
      have hlt:=lval_lt (hb.lim.take (n+1))
      have hge:=lval_nonneg (hb.lim.take (n+1))
      rw [List.length_take,Nat.min_eq_left (by omega)] at hlt
      rw [Int.mul_add]; omega
    have ht32:2^s*(t+1)≤4294967296:=by
      have h12:=two_pow_split s (by omega)
      have:t<2^(32-s):=by
        refine Int.lt_of_mul_lt_mul_left (a:=2^s) ?_ (by omega)
        rw [h12,Int.mul_comm]; exact hs2
      have h13:2^s*(t+1)≤2^s*2^(32-s):=Int.mul_le_mul_of_nonneg_left (by omega) (by omega)
      omega
    have hPn:=BP_pos (n+1)
    have hzB:2^s*z'<BP (n+2):=by
      have h12:2^s*(z'+1)≤2^s*(BP (n+1)*(t+1)):=Int.mul_le_mul_of_nonneg_left (by omega) (by omega)
      have h13:BP (n+1)*(2^s*(t+1))≤BP (n+1)*4294967296:=Int.mul_le_mul_of_nonneg_left ht32 (by omega)
      rw [BP_succ]
      have h14:2^s*(BP (n+1)*(t+1))=BP (n+1)*(2^s*(t+1)):=by generalize (2:Int)^s=p; generalize BP (n+1)=w; grind
      rw [Int.mul_add] at h12
      omega
    have hzL:BP (n+1)*(t*2^s)≤2^s*z':=by
      have h12:2^s*(BP (n+1)*t)≤2^s*z':=Int.mul_le_mul_of_nonneg_left hzt.2 (by omega)
      have h14:2^s*(BP (n+1)*t)=BP (n+1)*(t*2^s):=by generalize (2:Int)^s=p; generalize BP (n+1)=w; grind
      omega
    have hv19:lval (x19.take b.length)=2^s*z':=by
      have h12:=lval_split x19 b.length (by omega)
      have h13:=lval_nonneg (h6.take b.length)
      have h14:=lval_nonneg (h6.drop b.length)
      rw [h7] at h12
      rw [hn] at h12 h13 h14 ⊢
      rcases Int.lt_or_le 0 (lval (x19.drop (n+2))) with h15 | h15
      · have h16:BP (n+2)*1≤BP (n+2)*lval (x19.drop (n+2)):=Int.mul_le_mul_of_nonneg_left (by omega) (by have:=BP_pos (n+2); omega)
        omega
      · rw [show lval (x19.drop (n+2))=0 by omega] at h12
        omega
    have hvl:(x19.take b.length).length=n+2:=by rw [List.length_take]; omega
    have hvL:=h6.take b.length
    obtain ⟨tv,hvt⟩:∃ x,(x19.take b.length)[n+1]? = some x:=⟨_,List.getElem?_eq_getElem (by omega)⟩
    have hvt0:2147483648≤tv:=by
      have h12:=lval_take hvt
      have htl:(x19.take b.length).take (n+1+1)=x19.take b.length:=List.take_of_length_le (by omega)
      rw [htl,hv19] at h12
      have h13:=lval_lt (hvL.take (n+1))
      rw [List.length_take,hvl,Nat.min_eq_left (by omega)] at h13
      have h14:BP (n+1)*(t*2^s)<BP (n+1)*(tv+1):=by rw [Int.mul_add]; omega
      have:=Int.lt_of_mul_lt_mul_left h14 (by omega)
      omega
    have hinit:lval (u.drop (a.length+1-b.length))<lval (x19.take b.length):=by
      rw [hv19]
      have h12:=lval_split u (a.length+1-b.length) (by omega)
      rw [h11] at h12
      have h13:=lval_nonneg (h10.take (a.length+1-b.length))
      have h14:=ha.lt
      have h15:=hb.ge hbne
      rw [hn,show n+2-1=n+1 by omega] at h15
      have h16:BP a.length=BP (a.length+1-b.length)*BP (n+1):=by rw [← BP_add]; congr 1; omega
      have hP:=BP_pos (a.length+1-b.length)
      refine Int.lt_of_mul_lt_mul_left (a:=BP (a.length+1-b.length)) ?_ (by omega)
      have h17:2^s*(z+1)≤2^s*BP a.length:=Int.mul_le_mul_of_nonneg_left (by omega) (by omega)
      have h18:BP (a.length+1-b.length)*(2^s*BP (n+1))≤BP (a.length+1-b.length)*(2^s*z'):=Int.mul_le_mul_of_nonneg_left (Int.mul_le_mul_of_nonneg_left h15 (by omega)) (by omega)
      have h19:2^s*BP a.length=BP (a.length+1-b.length)*(2^s*BP (n+1)):=by rw [h16]; generalize (2:Int)^s=p; generalize BP (a.length+1-b.length)=w; grind
      rw [Int.mul_add] at h17
      omega
    obtain ⟨q',r',g1,g2,g3⟩:=over_l hF (b:=b) (v:=x19.take b.length) (x19:=x19) (U:=2^s*z) (L:=a.length+1-b.length) hs hvL (by rw [hvl,hn]) (by omega) hvl hvt hvt0 rfl (by omega) (by omega) (a.length+1-b.length) F (List.replicate (a.length+1-b.length) 0) u (by omega) (Nat.le_refl _) (by simp) (by omega) (Lim.zeros _) h10 (fun i hi=>by rw [List.getElem?_replicate,if_pos hi]) hinit (by rw [lval_zeros,h11]; omega)
    rw [g1]
    rw [hv19,Int.mul_ediv_mul_of_pos _ _ (by omega)] at g2
    rw [hv19,Int.mul_emod_mul_of_pos _ _ (by omega),Int.mul_ediv_cancel_left _ (by omega)] at g3
    exact ⟨q',r',rfl,g2,g3⟩
end
end Go.Proofs.YtjaiebdcmjjnbaaGreat
