/- Part of a proof: laws and walks. -/
import Derived.Test.YtbccfconmcgfgaaGreatTal
import Derived.Test.YtbccfconmcgfgaaGreatTak
import Derived.Test.YtbccfconmcgfgaaGreatTab
import Derived.ProofKit
import Derived.Lib.SmallJoins
import Derived.Deep.Grids
set_option linter.unusedVariables false
set_option linter.unusedSimpArgs false
namespace Go.Proofs.YtbccfconmcgfgaaGreat
open Go Go.SL
theorem aDw {d e x y T:Int} (hd:1≤d) (he:d*e=4294967296) (hx:0≤x∧x<4294967296) (hy:0≤y∧y<4294967296) (hT:T % 4294967296=y) :
    (x+4294967296*T)/d=((x+4294967296*y)/d) % 4294967296+4294967296*(T/d):=by
  have e1:(x+4294967296*T)/d=x/d+e*T:=by
    rw [show x+4294967296*T=x+d*(e*T) by rw [← he]; grind,Int.add_mul_ediv_left _ _ (by omega)]
  have e2:(x+4294967296*y)/d=x/d+e*y:=by
    rw [show x+4294967296*y=x+d*(e*y) by rw [← he]; grind,Int.add_mul_ediv_left _ _ (by omega)]
  have he0:1≤e:=by
    rcases Int.lt_or_le 0 e with h | h
    · omega
    · have:d*e≤d*0:=Int.mul_le_mul_of_nonneg_left h (by omega)
      omega
  have hTd:=Int.mul_ediv_add_emod T d
  have hyd:=Int.mul_ediv_add_emod y d
  have hTB:=Int.mul_ediv_add_emod T 4294967296
  have hm:T % d=y % d:=by
    rw [← hT]
    have:T=y+d*(e*(T/4294967296)):=by
      rw [← hT]
      have:d*(e*(T/4294967296))=4294967296*(T/4294967296):=by rw [← he]; grind
      omega
    rw [show T % 4294967296=y from hT]
    rw [this,Int.add_mul_emod_self_left]
  have hy0:=Int.emod_nonneg y (show d≠0 by omega)
  have hy1:=Int.emod_lt_of_pos y (show 0<d by omega)
  have hxd:0≤x/d:=Int.ediv_nonneg hx.1 (by omega)
  have hxe:x/d<e:=Int.ediv_lt_of_lt_mul (by omega) (by rw [Int.mul_comm,he]; omega)
  have hm1:e*(y % d)≤e*(d-1):=Int.mul_le_mul_of_nonneg_left (by omega) (by omega)
  have hm0:0≤e*(y % d):=Int.mul_nonneg (by omega) hy0
  have hde:e*(d-1)=4294967296-e:=by rw [Int.mul_sub,Int.mul_comm,he]; omega
  have e3:x/d+e*y=(x/d+e*(y % d))+4294967296*(y/d):=by
    rw [← he]; generalize x/d=g; generalize hu:y % d=u at *; generalize y/d=z at *; grind
  have e4:(x/d+e*y) % 4294967296=x/d+e*(y % d):=by
    rw [e3,Int.add_mul_emod_self_left,Int.emod_eq_of_lt (by omega) (by omega)]
  rw [e1,e2,e4,← hm,← he]
  generalize T/d=z at *; generalize T % d=u at *; generalize x/d=g
  grind
theorem aD3 {l:List Int} (hl:Lim l):lval l % 4294967296=(l[0]?).getD 0:=by
  cases l with
  | nil=>rfl
  | cons x t =>
    have:=hl.head
    show (x+4294967296*lval t) % 4294967296=x
    omega
section
variable {F:Nat} (hF:4300000000≤F)
include hF
omit hF in
theorem aA1 {b q u:List Int} {n:Nat} (hb:b.length=n) (hn:n≤4000) (hu:Lim u) (hun:n≤u.length) {s:Nat} (hs:s≤31) :
    ∀ (m N i:Nat) (o:List Int),i+m=n→m<N→o.length=i→Lim o→lval o+BP i*(lval ((u.take n).drop i)/2^s)=lval (u.take n)/2^s →
    ∃ o',iG F b u (s:Int) q N o (i:Int)=mF F q o'∧Lim o'∧o'.length=n∧lval o'=lval (u.take n)/2^s
  | _,0,_,_,_,h,_,_,_=>by omega
  | 0,N+1,i,o,hi,_,ho,hlo,hv=>by
    show ∃ o',kL F b u (s:Int) q (iG F b u (s:Int) q N) o (i:Int)=_∧_
    unfold kL
    rw [if_neg (by omega)]
    rw [List.drop_of_length_le (by simp; omega)] at hv
    simp only [lval,Int.zero_ediv,Int.mul_zero,Int.add_zero] at hv
    exact ⟨o,rfl,hlo,by omega,hv⟩
  | m+1,N+1,i,o,hi,hN,ho,hlo,hv=>by
    show ∃ o',kL F b u (s:Int) q (iG F b u (s:Int) q N) o (i:Int)=_∧_
    unfold kL
    have hUl:(u.take n).length=n:=by rw [List.length_take]; omega
    have hU:=hu.take n
    obtain ⟨x,hx⟩:∃ x,(u.take n)[i]? = some x:=⟨_,List.getElem?_eq_getElem (by omega)⟩
    have bx:=hU.at hx
    have hdr:(u.take n).drop i=x::(u.take n).drop (i+1):=by
      rw [List.drop_eq_getElem_cons (show i<(u.take n).length by omega)]
      congr 1
      exact Option.some.inj ((List.getElem?_eq_getElem _).symm.trans hx)
    have h1:=two_pow_pos s
    have h2:=qd s (by omega)
    have hT:=aD3 (hU.drop (i+1))
    rw [List.getElem?_drop,Nat.add_zero] at hT
    have e32:((2:Int)^32)=4294967296:=by decide
    have eb:IntKind.bits .u64=64:=rfl
    have key:∀ y:Int,(0≤y∧y<4294967296)→lval ((u.take n).drop (i+1)) % 4294967296=y→∃ o',mM F (s:Int) o (iG F b u (s:Int) q N) (i:Int) (x+4294967296*y)=mF F q o'∧Lim o'∧o'.length=n∧lval o'=lval (u.take n)/2^s:=fun y hy hTy=>by
      unfold mM
      have hw:=aDw h1 h2 bx hy hTy
      rw [if_pos (by omega),if_pos (by omega),eb,Int.toNat_natCast,Nat.min_eq_left (by omega),fdiv_pow,yN,wS (by omega)]
      refine aA1 hb hn hu hun hs m N (i+1) _ (by omega) (by omega) (by simp [ho]) (hlo.app (Lim.cons (by omega) Lim.nil)) ?_
      rw [← hv,hdr,jk,ho,eY]
      simp only [lval]
      rw [hw]
      generalize (x+4294967296*y)/2^s % 4294967296=g
      generalize lval ((u.take n).drop (i+1))/2^s=z
      generalize BP i=p
      grind
    rw [if_pos (by omega),zG,hb,ixn hx,Option.bind_some,wS (by omega)]
    by_cases hc:i+1<n
    · obtain ⟨y,hy⟩:∃ y,(u.take n)[i+1]? = some y:=⟨_,List.getElem?_eq_getElem (by omega)⟩
      have bY:=hU.at hy
      rw [if_pos (by omega),ixn hy,Option.bind_some,e32,bD (x:=x) (by omega),bD (x:=y) (by omega),bD (x:=y*4294967296) (by omega),bD (x:=x+y*4294967296) (by omega),Int.mul_comm y]
      rw [hy] at hT
      exact key y bY hT
    · rw [if_neg (by omega),bD (x:=x) (by omega)]
      rw [List.getElem?_eq_none (by omega)] at hT
      have:=key 0 (by omega) hT
      rw [Int.mul_zero,Int.add_zero] at this
      exact this
theorem aEP {b v:List Int} {s:Nat} (hs:s≤31) (hv:Lim v) (hvb:v.length=b.length) (hn:b.length≤4000) {n:Nat} {t:Int} (hvn:v.length=n+2) (ht:v[n+1]? = some t) (ht0:2147483648≤t) {x19:List Int} (hx19:x19.take b.length=v) {U:Int} {L:Nat} (hL:L+b.length≤4900) (hL1:1≤L) :
    ∀ (k N:Nat) (q u:List Int),k<N→k≤L→q.length=L→u.length=L+b.length→Lim q→Lim u→(∀ i,i<k→q[i]? = some 0)→lval (u.drop k)<lval v→lval u+lval q*lval v=U →
      ∃ q' r',jL F b x19 (s:Int) N u q ((k:Int)-1)=some (q',r')∧Is q' (U/lval v)∧Is r' ((U % lval v)/2^s)
  | _,0,_,_,h,_,_,_,_,_,_,_,_=>by omega
  | 0,N+1,q,u,_,_,hq,hu,hlq,hlu,_,hlt,hval=>by
    show ∃ q' r',kP F b x19 (s:Int) (jL F b x19 (s:Int) N) u q (((0:Nat):Int)-1)=_∧_
    unfold kP ql
    rw [List.drop_zero] at hlt
    have hu0:=bF hlu
    have hmod:U % lval v=lval u:=by rw [← hval,Int.add_mul_emod_self_right,Int.emod_eq_of_lt hu0 hlt]
    have hdiv:U/lval v=lval q:=by rw [← hval,Int.add_mul_ediv_right _ _ (by omega),Int.ediv_eq_zero_of_lt hu0 hlt]; omega
    have htk:lval (u.take b.length)=lval u:=by
      have h1:=lU u b.length (by omega)
      have h2:=iY hv
      have h3:=bF (hlu.take b.length)
      have h4:=bF (hlu.drop b.length)
      rw [hvb] at h2
      rcases Int.lt_or_le 0 (lval (u.drop b.length)) with h5 | h5
      · have h6:BP b.length*1≤BP b.length*lval (u.drop b.length):=Int.mul_le_mul_of_nonneg_left (by omega) (by have:=kX b.length; omega)
        omega
      · rw [show lval (u.drop b.length)=0 by omega] at h1; omega
    obtain ⟨o',g1,g2,g3,g4⟩:=aA1 (F:=F) (b:=b) (q:=q) (u:=u) rfl hn hlu (by omega) hs b.length F 0 [] (by omega) (by omega) rfl Lim.nil (by simp [lval,vK])
    rw [show ((0:Nat):Int)=0 from rfl] at g1
    rw [if_neg (by omega),if_pos ⟨by omega,by omega,by omega⟩,g1]
    unfold mF
    obtain ⟨q',h7,h8⟩:=xC hF hlq (by omega)
    obtain ⟨r3,h9,h10⟩:=xC hF g2 (by omega)
    rw [h7,Option.bind_some,h9,Option.bind_some]
    rw [hmod,hdiv]
    rw [g4,htk] at h10
    exact ⟨q',r3,rfl,h8,h10⟩
  | k+1,N+1,q,u,hN,hk,hq,hu,hlq,hlu,hz,hlt,hval=>by
    have e0:(((k+1:Nat):Int)-1)=(k:Int):=by omega
    show ∃ q' r',kP F b x19 (s:Int) (jL F b x19 (s:Int) N) u q (((k+1:Nat):Int)-1)=_∧_
    rw [e0]
    unfold kP
    have hq0:=hz k (by omega)
    have ew:IntKind.i64.wrap (IntKind.i64.wrap ((k:Int)+(b.length:Int))+1)=((k+v.length+1:Nat):Int):=by rw [bI (x:=(k:Int)+(b.length:Int)) (by omega),bI (by omega)]; omega
    have hsb:sbd (k:Int) ((k+v.length+1:Nat):Int) (u.length:Int):=⟨by omega,by omega,by omega⟩
    have hv0:0<lval v:=by
      have:=bF (hlu.drop (k+1)); omega
    have hdk:lval (u.drop k)=u[k]+4294967296*lval (u.drop (k+1)):=by
      rw [List.drop_eq_getElem_cons (show k<u.length by omega)]; rfl
    have bx:=hlu.at (List.getElem?_eq_getElem (show k<u.length by omega))
    have hhigh:lval (u.drop (k+1+v.length))=0:=by
      have h1:=lU (u.drop (k+1)) v.length (by simp; omega)
      rw [List.drop_drop] at h1
      have h2:=iY hv
      have h3:=bF ((hlu.drop (k+1)).take v.length)
      have h4:=bF (hlu.drop (k+1+v.length))
      rcases Int.lt_or_le 0 (lval (u.drop (k+1+v.length))) with h5 | h5
      · have h6:BP v.length*1≤BP v.length*lval (u.drop (k+1+v.length)):=Int.mul_le_mul_of_nonneg_left (by omega) (by have:=kX v.length; omega)
        omega
      · omega
    have hWv:lval ((u.drop k).take (v.length+1))=lval (u.drop k):=by
      have h1:=lU (u.drop k) (v.length+1) (by simp; omega)
      rw [List.drop_drop,show k+(v.length+1)=k+1+v.length by omega,hhigh,Int.mul_zero,Int.add_zero] at h1
      exact h1.symm
    have hlt2:lval ((u.drop k).take (v.length+1))<4294967296*lval v:=by rw [hWv,hdk]; omega
    have hpl:(u.take k).length=k:=by rw [List.length_take]; omega
    have hWl:((u.drop k).take (v.length+1)).length=n+2+1:=by rw [List.length_take,List.length_drop]; omega
    have hsl:(u.drop (k+v.length+1)).length=L+b.length-(k+v.length+1):=by rw [List.length_drop]; omega
    have hu3:u=u.take k++(u.drop k).take (v.length+1)++u.drop (k+v.length+1):=by
      rw [List.append_assoc,show k+v.length+1=k+(v.length+1) by omega,← List.drop_drop,List.take_append_drop,List.take_append_drop]
    obtain ⟨r,h1,h2,h3,h4⟩:=aFV hF hv hvn (p:=u.take k) (s:=u.drop (k+v.length+1)) (W:=(u.drop k).take (v.length+1)) (by rw [hpl,hsl]; omega) ((hlu.drop k).take _) hWl hlt2 ht ht0
    rw [hpl,← hu3,show k+(n+2+1)=k+v.length+1 by omega] at h1
    have htk:lsub x19 0 (b.length:Int)=v:=by rw [zG,hx19]
    rw [if_pos (by omega),ew,if_pos hsb,htk,h1,Option.bind_some,ixn hq0,Option.bind_some,Int.toNat_natCast]
    rw [hWv] at h4 ⊢
    have hqq0:0≤lval (u.drop k)/lval v:=Int.ediv_nonneg (bF (hlu.drop k)) (by omega)
    have hqq1:lval (u.drop k)/lval v<4294967296:=Int.ediv_lt_of_lt_mul hv0 (by rw [hWv] at hlt2; exact hlt2)
    have hwk:IntKind.i64.wrap ((k:Int)-1)=(k:Int)-1:=bI (by omega)
    rw [hwk]
    have hul:(u.take k++r++u.drop (k+v.length+1)).length=u.length:=by simp; omega
    have hud:(u.take k++r++u.drop (k+v.length+1)).drop k=r++u.drop (k+v.length+1):=by
      rw [List.append_assoc,List.drop_append_of_le_length (by simp; omega),List.drop_of_length_le (by simp; omega),List.nil_append]
    have hh2:lval (u.drop (k+v.length+1))=0:=by rw [show k+v.length+1=k+1+v.length by omega]; exact hhigh
    have hrv:lval (r++u.drop (k+v.length+1))=lval (u.drop k) % lval v:=by rw [uV,hh2,h4]; omega
    refine aEP hs hv hvb hn hvn ht ht0 hx19 hL hL1 k N _ _ (by omega) (by omega) (by simpa using hq) (by rw [hul]; exact hu) (hlq.set _ ⟨hqq0,hqq1⟩) (((hlu.take k).app h3).app (hlu.drop _)) (fun i hi=>by rw [List.getElem?_set_ne (by omega)]; exact hz i (by omega)) ?_ ?_
    · rw [hud,hrv]
      exact Int.emod_lt_of_pos _ hv0
    · rw [jB _ hq0,← hval,List.append_assoc,uV,hrv,List.length_take,Nat.min_eq_left (by omega),lU u k (by omega)]
      have hdm:=Int.mul_ediv_add_emod (lval (u.drop k)) (lval v)
      generalize lval (u.drop k)/lval v=d at *
      generalize lval (u.drop k) % lval v=e at *
      rw [← hdm]
      generalize BP k=p
      generalize lval v=w
      generalize lval q=g
      grind
omit hF in
theorem aEi {b a:List Int} (hn:b.length≤4000) {n:Nat} (hbn:b.length=n+1) {t:Int} (ht:b[n]? = some t) (bt:0<t∧t<4294967296):∀ (m N s:Nat),s+m=31→m<N→t*2^s<4294967296 →
    ∃ s':Nat,kM F b a N (s:Int)=oo F b a (s':Int)∧s'≤31∧2147483648≤t*2^s'∧t*2^s'<4294967296
  | _,0,_,_,h,_=>by omega
  | m,N+1,s,hsm,hN,hlt=>by
    show ∃ s':Nat,ow F b a (kM F b a N) (s:Int)=_∧_
    unfold ow
    have hp:=two_pow_pos s
    have h0:0≤t*2^s:=Int.mul_nonneg (by omega) (by omega)
    have eb:IntKind.bits .u32=32:=rfl
    rw [show IntKind.i64.wrap ((b.length:Int)-1)=(n:Int) by rw [bI (by omega)]; omega,ixn ht,Option.bind_some,if_pos (by omega),eb,Int.toNat_natCast,Nat.min_eq_left (by omega),mD ⟨h0,hlt⟩]
    by_cases hc:t*2^s<2147483648
    · rw [if_pos hc]
      have hs31:s≠31:=fun e=>by
        subst e
        rw [show ((2:Int)^31)=2147483648 by decide] at hc
        omega
      obtain ⟨m,rfl⟩:∃ m',m=m'+1:=⟨m-1,by omega⟩
      rw [show IntKind.u64.wrap ((s:Int)+1)=((s+1:Nat):Int) by rw [bD (by omega)]; omega]
      exact aEi hn hbn ht bt m N (s+1) (by omega) (by omega) (by rw [Int.pow_succ,← Int.mul_assoc]; omega)
    · rw [if_neg hc]
      exact ⟨s,rfl,by omega,by omega,hlt⟩
theorem aEH {a b:List Int} {z z':Int} (ha:Is a z) (hb:Is b z') (hz':0<z') (hla:a.length≤2500) (hlb:b.length≤2000):∃ q r,kW F a b=some (q,r)∧Is q (z/z')∧Is r (z % z'):=by
  have hz:=ha.nonneg
  unfold kW
  rw [vF hF ha hb (by omega),Option.bind_some]
  by_cases hc:nC z z'<0
  · have hlt:z<z':=by unfold nC at hc; split at hc <;> (try split at hc) <;> omega
    obtain ⟨r,h1,h2⟩:=xC hF ha.lim (by omega)
    rw [if_pos hc,h1,Option.bind_some,Int.ediv_eq_zero_of_lt hz hlt,Int.emod_eq_of_lt hz hlt]
    rw [ha.val] at h2
    exact ⟨[],r,rfl,Is.nil,h2⟩
  have hle:z'≤z:=by
    unfold nC at hc
    split at hc
    · omega
    · omega
  rw [if_neg hc]
  have hbne:b≠[]:=fun e=>by have:=hb.zero.2 e; omega
  have hb0:0<b.length:=List.length_pos_iff.2 hbne
  have hba:=pK ha hb hle
  by_cases h1:(b.length:Int)=1
  · rw [if_pos h1]
    obtain ⟨d,rfl⟩:∃ d,b=[d]:=List.length_eq_one_iff.1 (by omega)
    have hd:=hb.lim.head
    have hdz:z'=d:=by rw [← hb.val]; simp [lval]
    have e0:idx [d] 0=some d:=rfl
    rw [e0,Option.bind_some]
    obtain ⟨q,r,h2,h3,h4⟩:=aFU hF ha.lim (by omega) (d:=d) (by omega)
    rw [h2,Option.bind_some,hdz,← ha.val]
    exact ⟨q,r,rfl,h3,h4⟩
  · rw [if_neg h1]
    obtain ⟨n,hn⟩:∃ n,b.length=n+2:=⟨b.length-2,by omega⟩
    have htop:b[n+1]? = some b[n+1]:=List.getElem?_eq_getElem (by omega)
    have btop:=hb.lim.at htop
    have htop0:b[n+1]≠0:=hb.nrm _ (by rw [List.getLast?_eq_getElem?,show b.length-1=n+1 by omega]; exact htop)
    generalize htv:b[n+1]=t at *
    obtain ⟨s,g0,hs,hs1,hs2⟩:=aEi (F:=F) (a:=a) (by omega) (n:=n+1) (by omega) htop (by omega) 31 F 0 (by omega) (by omega) (by rw [Int.pow_zero]; omega)
    rw [show ((0:Nat):Int)=0 from rfl] at g0
    rw [g0]
    unfold oo
    obtain ⟨x19,h4,h5,h6,h7⟩:=aEQ hF hb.lim (by omega) s hs
    obtain ⟨u,h8,h9,h10,h11⟩:=aEQ hF ha.lim (by omega) s hs
    have hp:=two_pow_pos s
    rw [h4,Option.bind_some,if_pos ⟨by omega,by omega,by omega⟩,h8,Option.bind_some,
      show IntKind.i64.wrap ((u.length:Int)-(b.length:Int))=((a.length+1-b.length:Nat):Int) by rw [bI (by omega)]; omega,if_pos (by omega),Int.toNat_natCast,List.length_replicate,show IntKind.i64.wrap (((a.length+1-b.length:Nat):Int)-1)=((a.length+1-b.length:Nat):Int)-1 from bI (by omega),Option.bind_some]
    rw [hb.val] at h7
    rw [ha.val] at h11
    have hzt:z'<BP (n+1)*(t+1)∧BP (n+1)*t≤z':=by
      have:=cZ htop
      rw [show n+1+1=b.length by omega,List.take_length,hb.val] at this
      have hlt:=iY (hb.lim.take (n+1))
      have hge:=bF (hb.lim.take (n+1))
      rw [List.length_take,Nat.min_eq_left (by omega)] at hlt
      rw [Int.mul_add]; omega
    have ht32:2^s*(t+1)≤4294967296:=by
      have h12:=qd s (by omega)
      have:t<2^(32-s):=by
        refine Int.lt_of_mul_lt_mul_left (a:=2^s) ?_ (by omega)
        rw [h12,Int.mul_comm]; exact hs2
      have h13:2^s*(t+1)≤2^s*2^(32-s):=Int.mul_le_mul_of_nonneg_left (by omega) (by omega)
      omega
    have hPn:=kX (n+1)
    have hzB:2^s*z'<BP (n+2):=by
      have h12:2^s*(z'+1)≤2^s*(BP (n+1)*(t+1)):=Int.mul_le_mul_of_nonneg_left (by omega) (by omega)
      have h13:BP (n+1)*(2^s*(t+1))≤BP (n+1)*4294967296:=Int.mul_le_mul_of_nonneg_left ht32 (by omega)
      rw [eY]
      have h14:2^s*(BP (n+1)*(t+1))=BP (n+1)*(2^s*(t+1)):=by generalize (2:Int)^s=p; generalize BP (n+1)=w; grind
      rw [Int.mul_add] at h12
      omega
    have hzL:BP (n+1)*(t*2^s)≤2^s*z':=by
      have h12:2^s*(BP (n+1)*t)≤2^s*z':=Int.mul_le_mul_of_nonneg_left hzt.2 (by omega)
      have h14:2^s*(BP (n+1)*t)=BP (n+1)*(t*2^s):=by generalize (2:Int)^s=p; generalize BP (n+1)=w; grind
      omega
    have hv19:lval (x19.take b.length)=2^s*z':=by
      have h12:=lU x19 b.length (by omega)
      have h13:=bF (h6.take b.length)
      have h14:=bF (h6.drop b.length)
      rw [h7] at h12
      rw [hn] at h12 h13 h14 ⊢
      rcases Int.lt_or_le 0 (lval (x19.drop (n+2))) with h15 | h15
      · have h16:BP (n+2)*1≤BP (n+2)*lval (x19.drop (n+2)):=Int.mul_le_mul_of_nonneg_left (by omega) (by have:=kX (n+2); omega)
        omega
      · rw [show lval (x19.drop (n+2))=0 by omega] at h12
        omega
    have hvl:(x19.take b.length).length=n+2:=by rw [List.length_take]; omega
    have hvL:=h6.take b.length
    obtain ⟨tv,hvt⟩:∃ x,(x19.take b.length)[n+1]? = some x:=⟨_,List.getElem?_eq_getElem (by omega)⟩
    have hvt0:2147483648≤tv:=by
      have h12:=cZ hvt
      have htl:(x19.take b.length).take (n+1+1)=x19.take b.length:=List.take_of_length_le (by omega)
      rw [htl,hv19] at h12
      have h13:=iY (hvL.take (n+1))
      rw [List.length_take,hvl,Nat.min_eq_left (by omega)] at h13
      have h14:BP (n+1)*(t*2^s)<BP (n+1)*(tv+1):=by rw [Int.mul_add]; omega
      have:=Int.lt_of_mul_lt_mul_left h14 (by omega)
      omega
    have hinit:lval (u.drop (a.length+1-b.length))<lval (x19.take b.length):=by
      rw [hv19]
      have h12:=lU u (a.length+1-b.length) (by omega)
      rw [h11] at h12
      have h13:=bF (h10.take (a.length+1-b.length))
      have h14:=ha.lt
      have h15:=hb.ge hbne
      rw [hn,show n+2-1=n+1 by omega] at h15
      have h16:BP a.length=BP (a.length+1-b.length)*BP (n+1):=by rw [← yj]; congr 1; omega
      have hP:=kX (a.length+1-b.length)
      refine Int.lt_of_mul_lt_mul_left (a:=BP (a.length+1-b.length)) ?_ (by omega)
      have h17:2^s*(z+1)≤2^s*BP a.length:=Int.mul_le_mul_of_nonneg_left (by omega) (by omega)
      have h18:BP (a.length+1-b.length)*(2^s*BP (n+1))≤BP (a.length+1-b.length)*(2^s*z'):=Int.mul_le_mul_of_nonneg_left (Int.mul_le_mul_of_nonneg_left h15 (by omega)) (by omega)
      have h19:2^s*BP a.length=BP (a.length+1-b.length)*(2^s*BP (n+1)):=by rw [h16]; generalize (2:Int)^s=p; generalize BP (a.length+1-b.length)=w; grind
      rw [Int.mul_add] at h17
      omega
    obtain ⟨q',r',g1,g2,g3⟩:=aEP hF (b:=b) (v:=x19.take b.length) (x19:=x19) (U:=2^s*z) (L:=a.length+1-b.length) hs hvL (by rw [hvl,hn]) (by omega) hvl hvt hvt0 rfl (by omega) (by omega) (a.length+1-b.length) F (List.replicate (a.length+1-b.length) 0) u (by omega) (Nat.le_refl _) (by simp) (by omega) (Lim.zeros _) h10 (fun i hi=>by rw [List.getElem?_replicate,if_pos hi]) hinit (by rw [nK,h11]; omega)
    rw [g1]
    rw [hv19,Int.mul_ediv_mul_of_pos _ _ (by omega)] at g2
    rw [hv19,Int.mul_emod_mul_of_pos _ _ (by omega),Int.mul_ediv_cancel_left _ (by omega)] at g3
    exact ⟨q',r',rfl,g2,g3⟩
end
end Go.Proofs.YtbccfconmcgfgaaGreat

namespace Go.Proofs.YtbccfconmcgfgaaGreat
open Go Go.SL
section
variable {F:Nat} (hF:4300000000≤F)
include hF
theorem aBw {b b':Bool} {l l':List Int} {z z':Int} (h:IsW b l z) (h':IsW b' l' z') (hz':z'≠0) (hn:l.length≤2000) (hn':l'.length≤2000):∃ c q d r Q R,nQ F b l b' l'=some (c,q,d,r,0)∧IsW c q Q∧IsW d r R∧DM z z' Q R:=by
  unfold nQ
  have hl0:¬ (l'.length:Int)=0:=fun e=>hz' (h'.pos.1 (List.length_eq_zero_iff.1 (by omega)))
  rw [aBC h (by omega) h' (by omega),Option.bind_some,if_neg (by decide),if_neg hl0]
  have hp:(0:Int)<(z'.natAbs:Int):=by omega
  obtain ⟨q,r,h1,h2,h3⟩:=aEH hF h.is h'.is hp (by omega) hn'
  rw [h1,Option.bind_some]
  have hb:=h.neg; have hb':=h'.neg
  have hdm:=Int.mul_ediv_add_emod (z.natAbs:Int) (z'.natAbs:Int)
  have hr0:=Int.emod_nonneg (z.natAbs:Int) (show (z'.natAbs:Int)≠0 by omega)
  have hr1:=Int.emod_lt_of_pos (z.natAbs:Int) hp
  have hq0:0≤(z.natAbs:Int)/(z'.natAbs:Int):=Int.ediv_nonneg (by omega) (by omega)
  have hqle:(z.natAbs:Int)/(z'.natAbs:Int)≤(z.natAbs:Int):=Int.ediv_le_self _ (by omega)
  have hzB:(z.natAbs:Int)<BP 2000:=Int.lt_of_lt_of_le h.is.lt (sV hn)
  have hzB':(z'.natAbs:Int)<BP 2000:=Int.lt_of_lt_of_le h'.is.lt (sV hn')
  generalize (z.natAbs:Int)/(z'.natAbs:Int)=Q0 at *
  generalize (z.natAbs:Int) % (z'.natAbs:Int)=R0 at *
  have hql:q.length≤2000:=h2.len (by omega)
  have hrl:r.length≤2000:=h3.len (by omega)
  obtain ⟨c1,q1,g1,g2⟩:=vU hF h2.lim (by omega) (!(b == b'))
  obtain ⟨c2,q2,g3,g4⟩:=vU hF h3.lim (by omega) b
  rw [h2.val] at g2
  rw [h3.val] at g4
  have e1:(if (!(b == b'))=true then -Q0 else Q0)=(if b=b' then Q0 else -Q0):=by
    by_cases e:b=b'
    · simp [e]
    · simp [e]
  rw [e1] at g2
  have hq1:q1.length≤2000:=g2.is.len (by split <;> omega)
  have hq2:q2.length≤2000:=g4.is.len (by split <;> omega)
  rw [g1,Option.bind_some,g3,Option.bind_some]
  have hr00:(r.length:Int)>0↔0<R0:=by
    have:=h3.zero
    have h5:r.length>0↔r≠[]:=List.length_pos_iff
    rw [show ((r.length:Int)>0)↔(r.length>0) by omega,h5,ne_eq,← this]
    omega
  by_cases hc:R0>0∧b≠b'
  · rw [if_pos (by simp only [Bool.and_eq_true,decide_eq_true_eq,Bool.not_eq_true',beq_eq_false_iff_ne]; exact ⟨hr00.2 hc.1,hc.2⟩)]
    obtain ⟨cm,lm,k1,k2⟩:=aBi hF (x:=-1) (by omega)
    have hlm:lm.length≤2000:=k2.is.len (Int.lt_of_lt_of_le (by decide:((-1:Int).natAbs:Int)<BP 1) (sV (by omega)))
    obtain ⟨c3,q3,k3,k4⟩:=aDu hF g2 k2 hq1 hlm
    obtain ⟨c4,q4,k5,k6⟩:=aDu hF g4 h' hq2 hn'
    rw [k1,Option.bind_some,k3,Option.bind_some,k5,Option.bind_some]
    unfold jr
    rw [if_neg (by simp)]
    refine ⟨_,_,_,_,_,_,rfl,k4,k6,?_⟩
    rw [if_neg hc.2,hb]
    unfold DM
    have hbb:=hc.2
    rw [hb,hb',ne_eq,decide_eq_decide] at hbb
    by_cases h1:z<0
    · have e1:(z'.natAbs:Int)=z':=by omega
      have e2:(z.natAbs:Int)=-z:=by omega
      rw [e1] at *; rw [e2] at *
      simp only [h1,decide_true,if_true]
      refine ⟨by grind,.inl (by omega)⟩
    · have e1:(z'.natAbs:Int)=-z':=by omega
      have e2:(z.natAbs:Int)=z:=by omega
      rw [e1] at *; rw [e2] at *
      simp only [h1,decide_false,Bool.false_eq_true,if_false]
      refine ⟨by grind,.inr (by omega)⟩
  · rw [if_neg (by
      simp only [Bool.and_eq_true,decide_eq_true_eq,Bool.not_eq_true',beq_eq_false_iff_ne]
      exact fun h=>hc ⟨hr00.1 h.1,h.2⟩)]
    unfold jr
    rw [if_neg (by simp)]
    refine ⟨_,_,_,_,_,_,rfl,g2,g4,?_⟩
    unfold DM
    by_cases hbb:b=b'
    · rw [if_pos hbb,hb]
      rw [hb,hb',decide_eq_decide] at hbb
      by_cases h1:z<0
      · have e1:(z'.natAbs:Int)=-z':=by omega
        have e2:(z.natAbs:Int)=-z:=by omega
        rw [e1] at *; rw [e2] at *
        simp only [h1,decide_true,if_true]
        refine ⟨by grind,.inr (by omega)⟩
      · have e1:(z'.natAbs:Int)=z':=by omega
        have e2:(z.natAbs:Int)=z:=by omega
        rw [e1] at *; rw [e2] at *
        simp only [h1,decide_false,Bool.false_eq_true,if_false]
        refine ⟨by grind,.inl (by omega)⟩
    · have hR:R0=0:=by
        rcases Int.lt_or_le 0 R0 with h4 | h4
        · exact absurd ⟨h4,hbb⟩ hc
        · omega
      rw [if_neg hbb,hb]
      rw [hb,hb',decide_eq_decide] at hbb
      subst hR
      by_cases h1:z<0
      · have e1:(z'.natAbs:Int)=z':=by omega
        have e2:(z.natAbs:Int)=-z:=by omega
        rw [e1] at *; rw [e2] at *
        simp only [h1,decide_true,if_true]
        refine ⟨by grind,.inl (by omega)⟩
      · have e1:(z'.natAbs:Int)=-z':=by omega
        have e2:(z.natAbs:Int)=z:=by omega
        rw [e1] at *; rw [e2] at *
        simp only [h1,decide_false,Bool.false_eq_true,if_false]
        refine ⟨by grind,.inr (by omega)⟩
theorem aCR {a b:List Int} {m n:Nat} (ha:Is a (m:Int)) (hb:Is b (n:Int)) (hn:0<n) (hla:a.length≤2000) (hlb:b.length≤2000):∃ q r,kW F a b=some (q,r)∧Is q ((m/n:Nat):Int)∧Is r ((m % n:Nat):Int):=by
  obtain ⟨q,r,h1,h2,h3⟩:=aEH hF ha hb (by omega) (by omega) hlb
  refine ⟨q,r,h1,?_,?_⟩
  · push_cast; exact h2
  · push_cast; exact h3
theorem aBF {l:List Int} {n:Nat} (h:Is l (n:Int)) (hl:l.length≤4096):∃ g,eH F false l=some (false,g,0)∧Is g (n:Int):=by
  obtain ⟨b,g,h1,h2⟩:=vU hF h.lim hl false
  rw [h.val] at h2
  simp only [Bool.false_eq_true,if_false] at h2
  have hb:=h2.neg
  have:b=false:=by rw [hb]; simp
  subst this
  refine ⟨g,h1,?_⟩
  have:=h2.is
  rw [Int.natAbs_natCast] at this
  exact this
theorem aGW:∀ (k:Nat) (x y:List Int) (m n N:Nat),n<2^k→2*k+1≤N→Is x (m:Int)→Is y (n:Int)→x.length≤2000→y.length≤2000→∃ g,gJ F N x y=some (false,g,0)∧Is g ((Nat.gcd m n:Nat):Int):=by
  have done:∀ (x y:List Int) (m n N:Nat),n=0→1≤N→Is x (m:Int)→Is y (n:Int)→x.length≤2000→∃ g,gJ F N x y=some (false,g,0)∧Is g ((Nat.gcd m n:Nat):Int):=fun x y m n N hn hN hx hy hlx=>by
    obtain ⟨N,rfl⟩:∃ N',N=N'+1:=⟨N-1,by omega⟩
    show ∃ g,lM F (gJ F N) x y=some (false,g,0)∧_
    unfold lM
    subst hn
    rw [if_neg (by rw [wQ hy]; omega)]
    obtain ⟨g,h1,h2⟩:=aBF hF hx (by omega)
    rw [h1,Option.bind_some,Nat.gcd_zero_right]
    exact ⟨g,rfl,h2⟩
  have step:∀ (x y:List Int) (m n N:Nat),0<n→Is x (m:Int)→Is y (n:Int)→x.length≤2000→y.length≤2000→∃ r,gJ F (N+1) x y=gJ F N y r∧Is r ((m % n:Nat):Int)∧r.length≤2000:=fun x y m n N hn hx hy hlx hly=>by
    show ∃ r,lM F (gJ F N) x y=_∧_
    unfold lM
    rw [if_pos ((wQ hy).2 hn)]
    obtain ⟨q,r,h1,h2,h3⟩:=aCR hF hx hy hn hlx hly
    rw [h1,Option.bind_some]
    exact ⟨r,rfl,h3,Nat.le_trans (aAC hy h3 (Nat.le_of_lt (Nat.mod_lt _ hn))) hly⟩
  intro k
  induction k with
  | zero =>
    intro x y m n N hk hN hx hy hlx hly
    exact done x y m n N (by simpa using hk) (by omega) hx hy hlx
  | succ k ih =>
    intro x y m n N hk hN hx hy hlx hly
    rcases Nat.eq_zero_or_pos n with h0 | h0
    · exact done x y m n N h0 (by omega) hx hy hlx
    · obtain ⟨N,rfl⟩:∃ N',N=N'+2:=⟨N-2,by omega⟩
      obtain ⟨r,h1,h2,h3⟩:=step x y m n (N+1) h0 hx hy hlx hly
      rw [show N+2=N+1+1 from rfl,h1,Nat.gcd_comm,Nat.gcd_rec,Nat.gcd_comm]
      rcases Nat.eq_zero_or_pos (m % n) with h4 | h4
      · exact done y r n (m % n) (N+1) h4 (by omega) hy h2 hly
      · obtain ⟨r2,h5,h6,h7⟩:=step y r n (m % n) N h4 hy h2 hly h3
        rw [h5,Nat.gcd_comm n,Nat.gcd_rec,Nat.gcd_comm]
        refine ih r r2 (m % n) (n % (m % n)) N ?_ (by omega) h2 h6 h3 h7
        have h8:=Nat.mod_lt m h0
        have h9:=Nat.mod_lt n h4
        have h10:m % n+n % (m % n)≤n:=by
          have h11:=Nat.div_add_mod n (m % n)
          have h12:1≤n/(m % n):=(Nat.one_le_div_iff h4).2 (by omega)
          have h13:m % n*1≤m % n*(n/(m % n)):=Nat.mul_le_mul_left _ h12
          omega
        rw [Nat.pow_succ] at hk
        omega
theorem aF0 {b b':Bool} {l l':List Int} {z z':Int} (h:IsW b l z) (h':IsW b' l' z') (hn:l.length≤2000) (hn':l'.length≤2000):∃ g,rJ F b l b' l'=some (false,g,0)∧Is g ((Int.gcd z z':Nat):Int):=by
  unfold rJ
  rw [aBC h (by omega) h' (by omega),Option.bind_some,if_neg (by decide)]
  have hz:=h.is; have hz':=h'.is
  show ∃ g,_∧Is g ((Nat.gcd z.natAbs z'.natAbs:Nat):Int)
  generalize z.natAbs=m at *
  generalize z'.natAbs=n at *
  rcases Nat.eq_zero_or_pos n with h0 | h0
  · rw [if_neg (by rw [wQ hz']; omega)]
    obtain ⟨g,h1,h2⟩:=aBF hF hz (by omega)
    rw [h1,Option.bind_some,h0,Nat.gcd_zero_right]
    exact ⟨g,rfl,h2⟩
  · rw [if_pos ((wQ hz').2 h0)]
    obtain ⟨q,r,h1,h2,h3⟩:=aCR hF hz hz' h0 hn hn'
    have hrl:=Nat.le_trans (aAC hz' h3 (Nat.le_of_lt (Nat.mod_lt _ h0))) hn'
    rw [h1,Option.bind_some,Nat.gcd_comm,Nat.gcd_rec,Nat.gcd_comm]
    rcases Nat.eq_zero_or_pos (m % n) with h4 | h4
    · rw [if_neg (by rw [wQ h3]; omega)]
      obtain ⟨g,h5,h6⟩:=aBF hF hz' (by omega)
      rw [h5,Option.bind_some,h4,Nat.gcd_zero_right]
      exact ⟨g,rfl,h6⟩
    · rw [if_pos ((wQ h3).2 h4)]
      obtain ⟨q2,r2,h5,h6,h7⟩:=aCR hF hz' h3 h4 hn' hrl
      have hrl2:=Nat.le_trans (aAC h3 h7 (Nat.le_of_lt (Nat.mod_lt _ h4))) hrl
      rw [h5,Option.bind_some,Nat.gcd_comm n,Nat.gcd_rec,Nat.gcd_comm]
      exact aGW hF (32*r2.length) r r2 (m % n) (n % (m % n)) F (aFS h7) (by omega) h3 h7 hrl hrl2
end
end Go.Proofs.YtbccfconmcgfgaaGreat

namespace Go.Proofs.YtbccfconmcgfgaaGreat
open Go Go.SL
section
variable {F:Nat} (hF:4300000000≤F)
include hF
theorem xu {x:Int} (h:-9223372036854775808≤x∧x≤9223372036854775807):∃ a b c d,gQ F x=some (a,b,c,d)∧IsF a b c d x 1∧b.length≤2∧d.length≤2:=by
  obtain ⟨b1,l1,h1,h2⟩:=aBi hF h
  obtain ⟨b2,l2,h3,h4⟩:=aBi hF (x:=1) (by omega)
  unfold gQ
  rw [h1,Option.bind_some,h3]
  exact ⟨b1,l1,b2,l2,rfl,⟨h2,h4,by omega,Int.gcd_one_right ..⟩,rP h2 (by omega),rP h4 (by omega)⟩
theorem aC4 {bn:Bool} {ln:List Int} {bd:Bool} {ld:List Int} {p q:Int} (h:IsF bn ln bd ld p q) (hn:ln.length≤2000) (hd:ld.length≤2000):nJ F bn ln bd ld=some 0:=by
  unfold nJ ng
  obtain ⟨g,h1,h2⟩:=aF0 hF h.num h.den hn hd
  rw [h.cop] at h2
  have hg:IsW false g 1:=IsW.ofNat h2
  have hgl:=rP hg (by omega)
  obtain ⟨b1,l1,h3,h4⟩:=aBi hF (x:=1) (by omega)
  have hbd:bd=false:=by have:=h.pos; rw [h.den.neg]; simp; omega
  have hld:¬ (ld.length:Int)=0:=fun e=>by
    have:=h.den.pos.1 (List.length_eq_zero_iff.1 (by omega))
    have:=h.pos; omega
  rw [xk h.num (by omega),Option.bind_some,if_neg (by simp),xk h.den (by omega),Option.bind_some,hbd]
  rw [hbd] at h1
  rw [if_neg (by simpa using hld),h1,Option.bind_some,h3,Option.bind_some,aGg hF hg h4 (by omega),Option.bind_some]
  simp
theorem aBM {bn:Bool} {ln:List Int} {bd:Bool} {ld:List Int} {p q:Int} {bn':Bool} {ln':List Int} {bd':Bool} {ld':List Int} {p' q':Int} (h:IsF bn ln bd ld p q) (h':IsF bn' ln' bd' ld' p' q') (k1:ln.length≤900) (k2:ld.length≤900) (k3:ln'.length≤900) (k4:ld'.length≤900) :
    iF F bn ln bd ld bn' ln' bd' ld'=some 0:=by
  unfold iF
  rw [aC4 hF h (by omega) (by omega),Option.bind_some,if_neg (by simp),aC4 hF h' (by omega) (by omega),Option.bind_some]
theorem aAp {bn:Bool} {ln:List Int} {bd:Bool} {ld:List Int} {p q:Int} (h:IsW bn ln p) (h':IsW bd ld q) (hq:q≠0) (hn:ln.length≤2000) (hd:ld.length≤2000) :
    ∃ a b c d p' q',mK F bn ln bd ld=some (a,b,c,d)∧IsF a b c d p' q'∧p'*q=p*q'∧b.length≤ln.length∧d.length≤ld.length:=by
  unfold mK
  obtain ⟨g,h1,h2⟩:=aF0 hF h h' hn hd
  have hg:IsW false g ((Int.gcd p q:Nat):Int):=IsW.ofNat h2
  have hg0:0<Int.gcd p q:=Int.gcd_pos_iff.2 (.inr hq)
  have hgq:Int.gcd p q≤q.natAbs:=Nat.le_of_dvd (by omega) (Int.gcd_dvd_natAbs_right p q)
  have hgl:=zS h' hg (by rw [Int.natAbs_natCast]; exact hgq)
  rw [h1,Option.bind_some]
  have key:∀ (b:Bool) (l:List Int) (G:Int),IsW b l G→l.length≤2000→G.natAbs=Int.gcd p q→(q<0↔G<0)→∃ a b' c d p' q',jR F bn ln bd ld b l=some (a,b',c,d)∧IsF a b' c d p' q'∧p'*q=p*q'∧b'.length≤ln.length∧d.length≤ld.length:=fun b l G hG hGl hGa hsg=>by
    unfold jR
    have hG0:G≠0:=by omega
    obtain ⟨a1,b1,_,_,Q1,R1,g1,g2,_,g3⟩:=aBw hF h hG hG0 hn hGl
    obtain ⟨a2,b2,_,_,Q2,R2,g4,g5,_,g6⟩:=aBw hF h' hG hG0 hd hGl
    rw [g1,Option.bind_some,g4,Option.bind_some]
    have d1:G∣p:=by
      rw [← Int.natAbs_dvd,hGa]; exact Int.gcd_dvd_left ..
    have d2:G∣q:=by
      rw [← Int.natAbs_dvd,hGa]; exact Int.gcd_dvd_right ..
    obtain ⟨_,e1⟩:=DMx g3 d1
    obtain ⟨_,e2⟩:=DMx g6 d2
    have hQ2:0<Q2:=by
      rcases Int.lt_or_le 0 Q2 with h5 | h5
      · exact h5
      · exfalso
        rcases Int.lt_or_le 0 G with h6 | h6
        · have:G*Q2≤0:=Int.mul_nonpos_of_nonneg_of_nonpos (by omega) h5
          have:=hsg
          omega
        · have:0≤G*Q2:=Int.mul_nonneg_of_nonpos_of_nonpos h6 h5
          omega
    have hc:Int.gcd Q1 Q2=1:=by
      have h7:Int.gcd p q=G.natAbs*Int.gcd Q1 Q2:=by rw [e1,e2,Int.gcd_mul_left]
      rw [hGa] at h7
      have:Int.gcd p q*Int.gcd Q1 Q2=Int.gcd p q*1:=by omega
      exact Nat.eq_of_mul_eq_mul_left hg0 this
    have hrel:Q1*q=p*Q2:=by rw [e1,e2]; grind
    refine ⟨a1,b1,a2,b2,Q1,Q2,rfl,⟨g2,g5,hQ2,hc⟩,hrel,zS h g2 ?_,zS h' g5 ?_⟩
    · rw [e1,Int.natAbs_mul]; exact Nat.le_mul_of_pos_left _ (by omega)
    · rw [e2,Int.natAbs_mul]; exact Nat.le_mul_of_pos_left _ (by omega)
  by_cases hb:bd=true
  · rw [if_pos hb]
    obtain ⟨c,r,h3,h4⟩:=aGo hF hg (by omega)
    have hrl:=zS hg h4 (by omega)
    rw [h3,Option.bind_some]
    refine key c r _ h4 (by omega) (by omega) ?_
    have:=h'.neg
    rw [hb] at this
    have:q<0:=by simpa using this.symm
    omega
  · rw [if_neg hb]
    refine key false g _ hg (by omega) (by rw [Int.natAbs_natCast]) ?_
    have:=h'.neg
    have hb':bd=false:=by simpa using hb
    rw [hb'] at this
    have:¬ q<0:=by simpa using this.symm
    omega
theorem aAo {b1:Bool} {l1:List Int} {p1:Int} {b2:Bool} {l2:List Int} {p2:Int} {b3:Bool} {l3:List Int} {p3:Int} {b4:Bool} {l4:List Int} {p4:Int} (h1:IsW b1 l1 p1) (h2:IsW b2 l2 p2) (h3:IsW b3 l3 p3) (h4:IsW b4 l4 p4) (k1:l1.length≤900) (k2:l2.length≤900) (k3:l3.length≤900) (k4:l4.length≤900) (h0:p3*p4≠0) :
    ∃ a b c d P Q,mJ F b1 l1 b2 l2 b3 l3 b4 l4=some (a,b,c,d,0)∧IsF a b c d P Q∧P*(p3*p4)=(p1*p2)*Q∧b.length≤l1.length+l2.length∧d.length≤l3.length+l4.length:=by
  unfold mJ
  obtain ⟨c1,r1,e1,e2⟩:=aAJ hF h1 h2 (by omega) (by omega)
  obtain ⟨c2,r2,e3,e4⟩:=aAJ hF h3 h4 (by omega) (by omega)
  have g1:=sO h1 h2 e2
  have g2:=sO h3 h4 e4
  obtain ⟨a,b,c,d,P,Q,h5,h6,h7,h8,h9⟩:=aAp hF e2 e4 h0 (by omega) (by omega)
  rw [e1,Option.bind_some,e3,Option.bind_some,if_neg (by simp),h5,Option.bind_some]
  exact ⟨a,b,c,d,P,Q,rfl,h6,h7,by omega,by omega⟩
theorem aCh {bn:Bool} {ln:List Int} {bd:Bool} {ld:List Int} {p q:Int} {bn':Bool} {ln':List Int} {bd':Bool} {ld':List Int} {p' q':Int} (h:IsF bn ln bd ld p q) (h':IsF bn' ln' bd' ld' p' q') (k1:ln.length≤900) (k2:ld.length≤900) (k3:ln'.length≤900) (k4:ld'.length≤900) :
    ∃ a b c d P Q,nH F bn ln bd ld bn' ln' bd' ld'=some (a,b,c,d,0)∧IsF a b c d P Q∧P*(q*q')=(p*p')*Q∧b.length≤ln.length+ln'.length∧d.length≤ld.length+ld'.length:=by
  unfold nH
  have h0:=Int.mul_pos h.pos h'.pos
  obtain ⟨a,b,c,d,P,Q,h5,h6⟩:=aAo hF h.num h'.num h.den h'.den k1 k3 k2 k4 (by omega)
  rw [aBM hF h h' k1 k2 k3 k4,Option.bind_some,if_neg (by simp),h5,Option.bind_some]
  exact ⟨a,b,c,d,P,Q,rfl,h6⟩
theorem aGu {bn:Bool} {ln:List Int} {bd:Bool} {ld:List Int} {p q:Int} {bn':Bool} {ln':List Int} {bd':Bool} {ld':List Int} {p' q':Int} (h:IsF bn ln bd ld p q) (h':IsF bn' ln' bd' ld' p' q') (hp':p'≠0) (k1:ln.length≤900) (k2:ld.length≤900) (k3:ln'.length≤900) (k4:ld'.length≤900) :
    ∃ a b c d P Q,tL F bn ln bd ld bn' ln' bd' ld'=some (a,b,c,d,0)∧IsF a b c d P Q∧P*(q*p')=(p*q')*Q∧b.length≤ln.length+ld'.length∧d.length≤ld.length+ln'.length:=by
  unfold tL
  have h0:=h.pos
  obtain ⟨a,b,c,d,P,Q,h5,h6⟩:=aAo hF h.num h'.den h.den h'.num k1 k4 k2 k3 (Int.mul_ne_zero (by omega) hp')
  have hl:¬ (ln'.length:Int)=0:=fun e=>hp' (h'.num.pos.1 (List.length_eq_zero_iff.1 (by omega)))
  rw [aBM hF h h' k1 k2 k3 k4,Option.bind_some,if_neg (by simp),if_neg hl,h5,Option.bind_some]
  exact ⟨a,b,c,d,P,Q,rfl,h6⟩
omit hF in
theorem aFi {b b' c:Bool} {l l' r:List Int} {z z':Int} (h:IsW b l z) (h':IsW b' l' z') (hr:IsW c r (z+z')):r.length≤l.length+l'.length+1:=by
  refine hr.is.len ?_
  have h1:=h.is.lt; have h2:=h'.is.lt
  have h3:=sV (show l.length≤l.length+l'.length by omega)
  have h4:=sV (show l'.length≤l.length+l'.length by omega)
  rw [eY]
  omega
theorem aGq {bn:Bool} {ln:List Int} {bd:Bool} {ld:List Int} {p q:Int} {bn':Bool} {ln':List Int} {bd':Bool} {ld':List Int} {p' q':Int} (h:IsF bn ln bd ld p q) (h':IsF bn' ln' bd' ld' p' q') (k1:ln.length≤400) (k2:ld.length≤400) (k3:ln'.length≤400) (k4:ld'.length≤400) :
    ∃ a b c d P Q,tC F bn ln bd ld bn' ln' bd' ld'=some (a,b,c,d,0)∧IsF a b c d P Q∧P*(q*q')=(p*q'+p'*q)*Q∧b.length≤ln.length+ld.length+ln'.length+ld'.length+1∧d.length≤ld.length+ld'.length:=by
  unfold tC sU nT
  have h0:=Int.mul_pos h.pos h'.pos
  obtain ⟨c1,r1,e1,e2⟩:=aAJ hF h.num h'.den (by omega) (by omega)
  obtain ⟨c2,r2,e3,e4⟩:=aAJ hF h'.num h.den (by omega) (by omega)
  obtain ⟨c3,r3,e5,e6⟩:=aAJ hF h.den h'.den (by omega) (by omega)
  have g1:=sO h.num h'.den e2
  have g2:=sO h'.num h.den e4
  have g3:=sO h.den h'.den e6
  obtain ⟨c4,r4,e7,e8⟩:=aG0 hF e2 e4 (by omega) (by omega)
  have g4:=aFi e2 e4 e8
  obtain ⟨a,b,c,d,P,Q,h5,h6,h7,h8,h9⟩:=aAp hF e8 e6 (by omega) (by omega) (by omega)
  rw [aBM hF h h' (by omega) (by omega) (by omega) (by omega),Option.bind_some,if_neg (by simp),e1,Option.bind_some,e3,Option.bind_some,e5,Option.bind_some,if_neg (by simp),e7,Option.bind_some,if_neg (by simp),if_neg (by simp),h5,Option.bind_some,Option.bind_some]
  exact ⟨a,b,c,d,P,Q,rfl,h6,h7,by omega,by omega⟩
def DAY:Int:=86400000000
theorem aD6 {s r t:Int} (hs:-9223372036854775808≤s∧s≤9223372036854775807) (hr:-9223372036854775808≤r∧r≤9223372036854775807) (ht:-9223372036854775808≤t∧t≤9223372036854775807) :
    ∃ a b c d P Q,pz F s r t=some (a,b,c,d)∧IsF a b c d P Q∧P*(DAY*DAY)=(s*s*(DAY*DAY)+(r*t)*(r*t))*Q∧b.length≤60∧d.length≤60:=by
  unfold pz
  obtain ⟨a1,b1,c1,d1,e1,f1,k1,k1'⟩:=xu hF hr
  obtain ⟨a2,b2,c2,d2,e2,f2,k2,k2'⟩:=xu hF ht
  obtain ⟨a3,b3,c3,d3,P3,Q3,e3,f3,m3,k3,k3'⟩:=aCh hF f1 f2 (by omega) (by omega) (by omega) (by omega)
  obtain ⟨a4,b4,c4,d4,e4,f4,k4,k4'⟩:=xu hF (x:=86400000000) (by omega)
  obtain ⟨a5,b5,c5,d5,P5,Q5,e5,f5,m5,k5,k5'⟩:=aGu hF f3 f4 (by omega) (by omega) (by omega) (by omega) (by omega)
  obtain ⟨a6,b6,c6,d6,P6,Q6,e6,f6,m6,k6,k6'⟩:=aCh hF f5 f5 (by omega) (by omega) (by omega) (by omega)
  obtain ⟨a7,b7,c7,d7,e7,f7,k7,k7'⟩:=xu hF hs
  obtain ⟨a8,b8,c8,d8,P8,Q8,e8,f8,m8,k8,k8'⟩:=aCh hF f7 f7 (by omega) (by omega) (by omega) (by omega)
  obtain ⟨a9,b9,c9,d9,P9,Q9,e9,f9,m9,k9,k9'⟩:=aGq hF f8 f6 (by omega) (by omega) (by omega) (by omega)
  simp only [e1,e2,e3,e4,e5,e6,e7,e8,e9,Option.bind_some]
  refine ⟨_,_,_,_,P9,Q9,rfl,f9,?_,by omega,by omega⟩
  have p3:=f3.pos; have p5:=f5.pos; have p6:=f6.pos; have p8:=f8.pos
  have n1:Q3*Q3≠0:=Int.mul_ne_zero (by omega) (by omega)
  have n2:(Q5*Q5)*(Q3*Q3)≠0:=Int.mul_ne_zero (Int.mul_ne_zero (by omega) (by omega)) n1
  have n3:(Q8*Q6)*((Q5*Q5)*(Q3*Q3))≠0:=Int.mul_ne_zero (Int.mul_ne_zero (by omega) (by omega)) n2
  unfold DAY
  simp only [Int.mul_one] at m3 m5 m8
  refine Int.eq_of_mul_eq_mul_right n3 ?_
  generalize (86400000000:Int)=D at *
  have q1:P5*(Q3*D)=r*t*Q3*Q5:=by rw [m5,m3]
  have q2:P5*D=r*t*Q5:=by
    refine Int.eq_of_mul_eq_mul_right (show Q3≠0 by omega) ?_
    grind
  have q3:P6*(D*D)=(r*t)*(r*t)*Q6:=by
    refine Int.eq_of_mul_eq_mul_right (show Q5*Q5≠0 from Int.mul_ne_zero (by omega) (by omega)) ?_
    have:P6*(D*D)*(Q5*Q5)=(P6*(Q5*Q5))*(D*D):=by grind
    rw [this,m6]
    have:P5*P5*Q6*(D*D)=(P5*D)*(P5*D)*Q6:=by grind
    rw [this,q2]; grind
  have q4:P9*(D*D)*(Q8*Q6)=(s*s*(D*D)+r*t*(r*t))*Q9*(Q8*Q6):=by
    have:P9*(D*D)*(Q8*Q6)=(P9*(Q8*Q6))*(D*D):=by grind
    rw [this,m9,m8]
    have:(s*s*Q8*Q6+P6*Q8)*Q9*(D*D)=(s*s*Q8*Q6*(D*D)+(P6*(D*D))*Q8)*Q9:=by grind
    rw [this,q3]; grind
  rw [← Int.mul_assoc,q4,Int.mul_assoc]
end
end Go.Proofs.YtbccfconmcgfgaaGreat

namespace Go.Proofs.YtbccfconmcgfgaaGreat
open Go Go.SL
theorem aCG (n:Nat):BP n=2^(32*n):=by
  unfold BP; rw [Int.pow_mul]; rfl
theorem aD5 (n:Nat):∃ s:Nat,s*s≤n∧n<(s+1)*(s+1):=by
  induction n with
  | zero=>exact ⟨0,by omega,by omega⟩
  | succ n ih =>
    obtain ⟨s,h1,h2⟩:=ih
    by_cases h:(s+1)*(s+1)≤n+1
    · exact ⟨s+1,h,by
        have:(s+1+1)*(s+1+1)=(s+1)*(s+1)+2*s+3:=by grind
        omega⟩
    · exact ⟨s,by omega,by omega⟩
theorem um {a b:Int} (ha:0≤a) (h:a≤b):a*a≤b*b:=Int.mul_le_mul h h ha (by omega)
theorem aG2 {a b:Int} (hb:0≤b) (h:a*a<b*b):a<b:=by
  rcases Int.lt_or_le a b with h1 | h1
  · exact h1
  · have:=um hb h1; omega
theorem aF9 {a b:Int} (hb:0≤b) (h:a*a≤b*b):a≤b:=by
  rcases Int.lt_or_le b a with h1 | h1
  · have h2:=um (a:=b+1) (b:=a) (by omega) (by omega)
    have:(b+1)*(b+1)=b*b+2*b+1:=by grind
    omega
  · exact h1
section
variable {F:Nat} (hF:4300000000≤F)
include hF
omit hF in
theorem aGG {b:Bool} {l:List Int} {z:Int} (h:IsW b l z) (hn:l.length≤2000):∃ K:Nat,tF F b l=some ((K:Int),0)∧(z.natAbs:Int)<2^K∧K≤32*l.length∧(0<K↔z≠0):=by
  unfold tF
  rw [aAB h (by omega),Option.bind_some]
  by_cases h0:(l.length:Int)=0
  · rw [if_pos (by simpa using h0)]
    have hz:=h.pos.1 (List.length_eq_zero_iff.1 (by omega))
    exact ⟨0,rfl,by rw [hz]; decide,by omega,by omega⟩
  · obtain ⟨n,hln⟩:∃ n,l.length=n+1:=⟨l.length-1,by omega⟩
    obtain ⟨x,hx,hx0⟩:=h.last (by omega)
    rw [hln,Nat.add_sub_cancel] at hx
    have bx:=h.is.lim.at hx
    obtain ⟨s,h1,h2,h3⟩:=aCb (F:=F) (x:=x) (by omega)
    rw [if_neg (by simpa using h0),show IntKind.i64.wrap ((l.length:Int)-1)=(n:Int) by rw [bI (by omega)]; omega,Option.bind_some,ixn hx,Option.bind_some,h1,Option.bind_some,bI (x:=32*(n:Int)) (by omega),bI (by omega),Option.bind_some]
    have hz:z≠0:=fun e=>by
      have:=h.pos.2 e
      rw [this] at hln; simp at hln
    refine ⟨32*n+(32-s),by push_cast; rw [Int.ofNat_sub (by omega)],?_,by omega,by omega⟩
    have hv:=cZ hx
    have htl:l.take (n+1)=l:=List.take_of_length_le (by omega)
    rw [htl,h.is.val] at hv
    have hlt:=iY (h.is.lim.take n)
    rw [List.length_take,Nat.min_eq_left (by omega)] at hlt
    have h12:=qd s (by omega)
    have hx2:x<2^(32-s):=by
      refine Int.lt_of_mul_lt_mul_left (a:=2^s) ?_ (by have:=two_pow_pos s; omega)
      rw [h12,Int.mul_comm]; exact h3
    rw [Int.pow_add,← aCG]
    have:BP n*(x+1)≤BP n*2^(32-s):=Int.mul_le_mul_of_nonneg_left (by omega) (by have:=kX n; omega)
    rw [Int.mul_add] at this
    omega
omit hF in
theorem aFj {k:Nat} (hk:k≤100000):∃ r,p9 F 1 (k:Int)=some r∧Lim r∧lval r=2^k∧r.length≤k/32+2:=by
  unfold p9 pO
  have ed:Int.tdiv (k:Int) 32=((k/32:Nat):Int):=by rw [Int.tdiv_eq_ediv_of_nonneg (by omega)]; omega
  have em:Int.tmod (k:Int) 32=((k % 32:Nat):Int):=by rw [Int.tmod_eq_emod_of_nonneg (by omega)]; omega
  have eb:IntKind.bits .u64=64:=rfl
  have h31:=qF (show k % 32≤31 by omega)
  have h1:=two_pow_pos (k % 32)
  have e31:((2:Int)^31)=2147483648:=by decide
  rw [ed,em,bI (x:=((k/32:Nat):Int)) (by omega),bI (x:=((k/32:Nat):Int)+1) (by omega),bI (x:=((k/32:Nat):Int)+1+1) (by omega),if_pos (by omega),if_pos (by omega),eb,Int.toNat_natCast,Int.toNat_natCast,Nat.min_eq_left (by omega),
    bD (x:=1) (by omega),Int.one_mul,bD (x:=2^(k % 32)) (by omega)]
  have hor:=(vN (x:=2^(k % 32)) (c:=0) 0 (by omega) (by decide) (by omega)).2
  rw [Int.pow_zero,Int.mul_one,Int.add_zero] at hor
  rw [hor,Option.bind_some,List.length_replicate,if_pos (by omega),if_pos (by simp; omega),mD (by omega),yu,show (2:Int)^(k % 32)/4294967296=0 by omega,show IntKind.u32.wrap 0=0 by decide]
  refine ⟨_,rfl,(((Lim.zeros _).app (Lim.cons (by omega) Lim.nil)).app (Lim.cons (by omega) Lim.nil)),?_,by simp⟩
  rw [jk,Int.mul_zero,Int.add_zero,jk,nK,List.length_replicate,Int.zero_add,aCG,← Int.pow_add,show 32*(k/32)+k % 32=k by omega]
theorem aEj {l:List Int} {z s:Int} (hl:Is l z) (hn:l.length≤900) (hs1:1≤s) (hs2:s*s≤z) (hs3:z<(s+1)*(s+1)) {K:Int} (hK:0<K):∀ (k N:Nat) (x:List Int) (X:Int),X-s<2^k→k+1≤N→Is x X→s≤X→x.length≤950 →
    ∃ b r,lJ F (K,0) l N x=some (b,r,0)∧IsW b r s
  | k,0,_,_,_,h,_,_,_=>by omega
  | k,N+1,x,X,hX,hN,hx,hsX,hxl=>by
    show ∃ b r,lV F (K,0) l (lJ F (K,0) l N) x=_∧_
    unfold lV
    obtain ⟨q,r,h1,h2,h3⟩:=aBz hF hl hx (by omega) (by omega) (by omega)
    have hq0:=h2.nonneg
    have hqz:z/X≤z:=Int.ediv_le_self _ hl.nonneg
    have hql:q.length≤900:=Nat.le_trans (h2.len (Int.lt_of_le_of_lt hqz hl.lt)) hn
    obtain ⟨y1,h4,h5,h5',h6,h7⟩:=aCX hF h2.lim hx.lim (by omega) (by omega)
    obtain ⟨y2,bb,h8,h9,h10,h11⟩:=aCq hF h6 (by omega) 1 (by omega)
    obtain ⟨y,h12,h13⟩:=wC hF h10 (by omega)
    rw [h11,h7,h2.val,hx.val,Int.pow_one] at h13
    rw [if_pos hK,h1,Option.bind_some,h4,Option.bind_some]
    rw [show ((1:Nat):Int)=1 from rfl] at h8
    rw [h8,Option.bind_some,h12,Option.bind_some,vJ h13 hx,Option.bind_some]
    have hdm:=Int.mul_ediv_add_emod z X
    have hm0:=Int.emod_nonneg z (show X≠0 by omega)
    have hm1:=Int.emod_lt_of_pos z (show 0<X by omega)
    generalize z/X=d at *
    have hlow:s*2≤d+X:=by
      rcases Int.lt_or_le (d+X) (s*2) with h | h
      · exfalso
        have e1:X*(d+1)≤X*(2*s-X):=Int.mul_le_mul_of_nonneg_left (by omega) (by omega)
        have e2:X*(2*s-X)=s*s-(X-s)*(X-s):=by grind
        have e3:0≤(X-s)*(X-s):=Int.mul_nonneg (by omega) (by omega)
        rw [Int.mul_add] at e1
        omega
      · exact h
    by_cases hc:nC ((d+X)/2) X≥0
    · rw [if_pos hc]
      have hge:X≤(d+X)/2:=by unfold nC at hc; split at hc <;> omega
      have hXs:X=s:=by
        have e1:X*X≤X*d:=Int.mul_le_mul_of_nonneg_left (by omega) (by omega)
        have e2:X<s+1:=aG2 (by omega) (by omega)
        omega
      obtain ⟨b,g,g1,g2⟩:=vg hF hx.lim (by omega) false
      rw [g1,Option.bind_some]
      rw [hx.val,hXs] at g2
      simp only [Bool.false_eq_true,if_false] at g2
      exact ⟨b,g,rfl,g2⟩
    · rw [if_neg hc]
      have hlt:(d+X)/2<X:=by
        unfold nC at hc
        split at hc
        · assumption
        · split at hc <;> omega
      have hne:s<X:=by
        rcases Int.lt_or_le s X with h | h
        · exact h
        · exfalso
          have:X=s:=by omega
          subst this
          have e1:X*X<X*(d+1):=by rw [Int.mul_add]; omega
          have:=Int.lt_of_mul_lt_mul_left e1 (by omega)
          omega
      have hds:d≤s:=by
        rcases Int.lt_or_le s d with h | h
        · exfalso
          have e1:(s+1)*(s+1)≤X*d:=Int.mul_le_mul (by omega) (by omega) (by omega) (by omega)
          omega
        · exact h
      obtain ⟨k,rfl⟩:∃ k',k=k'+1:=⟨k-1,by
        rcases Nat.eq_zero_or_pos k with h | h
        · subst h; rw [Int.pow_zero] at hX; omega
        · omega⟩
      have hyl:y.length≤950:=Nat.le_trans (h13.len (Int.lt_of_lt_of_le hlt (Int.le_of_lt hx.lt))) hxl
      rw [Int.pow_succ] at hX
      exact aEj hl hn hs1 hs2 hs3 hK k N y _ (by omega) (by omega) h13 (by omega) hyl
theorem aGe {l:List Int} {z s:Int} (h:IsW false l z) (hn:l.length≤900) (hs0:0≤s) (hs2:s*s≤z) (hs3:z<(s+1)*(s+1)):∃ b r,sw F false l=some (b,r,0)∧IsW b r s:=by
  unfold sw
  have hz0:0≤s*s:=Int.mul_nonneg hs0 hs0
  obtain ⟨K,h1,h2,h3,h4⟩:=aGG (F:=F) h (by omega)
  have ek:IntKind.i64.wrap (Int.tdiv (IntKind.i64.wrap ((K:Int)+1)) 2)=(((K+1)/2:Nat):Int):=by
    rw [bI (x:=(K:Int)+1) (by omega),Int.tdiv_eq_ediv_of_nonneg (by omega),bI (by omega)]; omega
  obtain ⟨x12,h5,h6,h7,h8⟩:=aFj (F:=F) (k:=(K+1)/2) (by omega)
  obtain ⟨x,h9,h10⟩:=wC hF h6 (by omega)
  rw [aAB h (by omega),Option.bind_some,if_neg (by simp),if_neg (by simp),h1,Option.bind_some,ek,h5,Option.bind_some,h9,Option.bind_some]
  rw [h7] at h10
  by_cases hz:z=0
  · have hK:K=0:=by omega
    subst hK
    obtain ⟨N,rfl⟩:∃ N,F=N+1:=⟨F-1,by omega⟩
    show ∃ b r,lV (N+1) _ l _ x=_∧_
    unfold lV rf
    rw [if_neg (by simp)]
    have hs:s=0:=by
      rcases Int.lt_or_le 0 s with h | h
      · have:1*1≤s*s:=Int.mul_le_mul (by omega) (by omega) (by omega) (by omega)
        omega
      · omega
    rw [hs]
    exact ⟨false,[],rfl,IsW.ofNat Is.nil⟩
  · have hK:0<K:=h4.2 hz
    have hs1:1≤s:=by
      rcases Int.lt_or_le 0 s with h | h
      · omega
      · have:s=0:=by omega
        subst this; omega
    have hzI:=h.is
    rw [show (z.natAbs:Int)=z by omega] at hzI h2
    have hX:s≤2^((K+1)/2):=by
      refine aF9 (by have:=two_pow_pos ((K+1)/2); omega) ?_
      rw [← Int.pow_add]
      have:=qF (show K≤(K+1)/2+(K+1)/2 by omega)
      omega
    have hxl:x.length≤950:=by
      refine Nat.le_trans (h10.len (n:=l.length+1) ?_) (by omega)
      rw [aCG]
      have:=qF (show (K+1)/2+1≤32*(l.length+1) by omega)
      rw [Int.pow_succ] at this
      have:=two_pow_pos ((K+1)/2)
      omega
    exact aEj hF hzI hn hs1 hs2 hs3 (K:=(K:Int)) (by omega) ((K+1)/2) F x _ (by omega) (by omega) h10 hX hxl
omit hF in
theorem aGZ {b:Bool} {l:List Int} {z:Int} (h:IsW b l z) (hn:l.length≤4096):sj F b l=some (nC z 0,0):=by
  unfold sj
  rw [aFx h (IsW.ofNat Is.nil) hn (by simp),Option.bind_some]
theorem aGv {b:Bool} {l:List Int} {z:Int} (h:IsW b l z) (hz:0≤z∧z<9223372036854775808):uK F b l=some (z,0):=by
  have hl2:l.length≤2:=rP h (by omega)
  have hb:b=false:=by rw [h.neg]; simp; omega
  subst hb
  have hzI:=h.is
  rw [show (z.natAbs:Int)=z by omega] at hzI
  have hfin:qi F false z=some (z,0):=by
    unfold qi
    rw [if_neg (by simp),if_pos (by simpa using hz.2),bI (by omega)]
  unfold uK
  rw [aAB h (by omega),Option.bind_some,if_neg (by simp),if_neg (by omega)]
  obtain ⟨N,rfl⟩:∃ N,F=N+3:=⟨F-3,by omega⟩
  have eb:IntKind.bits .u64=64:=rfl
  match l,hzI,hl2 with
  | [],hzI,_ =>
    show dx (N+3) [] false _ 0 0=_
    unfold dx
    rw [if_neg (by simp)]
    have:=hzI.val
    simp only [lval] at this
    rw [← this] at hfin ⊢; exact hfin
  | [x],hzI,_ =>
    have hv:=hzI.val
    simp only [lval,Int.mul_zero,Int.add_zero] at hv
    have bx:=hzI.lim.head
    show dx (N+3) [x] false (ko (N+3) [x] false (N+2)) 0 0=_
    unfold dx
    have e0:idx [x] 0=some x:=rfl
    have hor:=(vN (x:=x) (c:=0) 0 (by omega) (by decide) (by omega)).2
    rw [Int.add_zero] at hor
    rw [if_pos (by simp),e0,Option.bind_some,show IntKind.i64.wrap (32*0)=0 by decide,if_pos (by omega),eb,Int.toNat_zero,Nat.zero_min,bD (x:=x) (by omega),bD (x:=x*2^0) (by omega),hor,Option.bind_some,show IntKind.i64.wrap (0+1)=1 by decide,Int.pow_zero,Int.mul_one]
    show dx (N+3) [x] false _ x 1=_
    unfold dx
    rw [if_neg (by simp),hv]; exact hfin
  | [x,y],hzI,_ =>
    have hv:=hzI.val
    simp only [lval,Int.mul_zero,Int.add_zero] at hv
    have bx:=hzI.lim.head
    have bY:=hzI.lim.tail.head
    show dx (N+3) [x,y] false (ko (N+3) [x,y] false (N+2)) 0 0=_
    unfold dx
    have e0:idx [x,y] 0=some x:=rfl
    have e1:idx [x,y] 1=some y:=rfl
    have hor:=(vN (x:=x) (c:=0) 0 (by omega) (by decide) (by omega)).2
    rw [Int.add_zero] at hor
    rw [if_pos (by simp),e0,Option.bind_some,show IntKind.i64.wrap (32*0)=0 by decide,if_pos (by omega),eb,Int.toNat_zero,Nat.zero_min,bD (x:=x) (by omega),bD (x:=x*2^0) (by omega),hor,Option.bind_some,show IntKind.i64.wrap (0+1)=1 by decide,Int.pow_zero,Int.mul_one]
    show dx (N+3) [x,y] false (ko (N+3) [x,y] false (N+1)) x 1=_
    unfold dx
    have e32:((2:Int)^32)=4294967296:=by decide
    have hor2:=(vN (x:=y) (c:=x) 32 (by omega) (by rw [e32]; omega) (by rw [e32]; omega)).2
    rw [if_pos (by simp),e1,Option.bind_some,show IntKind.i64.wrap (32*1)=32 by decide,if_pos (by omega),eb,show Int.toNat 32=32 from rfl,show min 32 64=32 from rfl,bD (x:=y) (by omega),bD (x:=y*2^32) (by rw [e32]; omega),hor2,Option.bind_some,show IntKind.i64.wrap (1+1)=2 by decide,e32]
    show dx (N+3) [x,y] false _ _ 2=_
    unfold dx
    rw [if_neg (by simp),show y*4294967296+x=z by omega]; exact hfin
end
end Go.Proofs.YtbccfconmcgfgaaGreat

namespace Go.Proofs.YtbccfconmcgfgaaGreat
open Go Go.SL
def ZZ (s r t:Int):Int:=(s*DAY)*(s*DAY)+(r*t)*(r*t)
structure SP (s r t n:Int):Prop where
  pos:0≤n
  up:ZZ s r t≤(n*DAY)*(n*DAY)
  low:0<n→((n-1)*DAY)*((n-1)*DAY)<ZZ s r t
def okS (s r t:Int):Prop:=(0≤s∧s≤10000000000)∧(0≤r∧r≤72000000000)∧(-8640000000000≤t∧t≤8640000000000)
theorem aCk {a b A B:Int} (ha:0≤a∧a≤A) (hb:-B≤b∧b≤B):-(A*B)≤a*b∧a*b≤A*B:=by
  have h1:a*b≤a*B:=Int.mul_le_mul_of_nonneg_left hb.2 ha.1
  have h2:a*(-B)≤a*b:=Int.mul_le_mul_of_nonneg_left hb.1 ha.1
  have h3:a*B≤A*B:=Int.mul_le_mul_of_nonneg_right ha.2 (by omega)
  rw [Int.mul_neg] at h2
  omega
theorem aBg {x M:Int} (h:-M≤x∧x≤M):0≤x*x∧x*x≤M*M:=by
  rcases Int.lt_or_le x 0 with h0 | h0
  · have e:x*x=(-x)*(-x):=by grind
    rw [e]
    exact ⟨Int.mul_nonneg (by omega) (by omega),Int.mul_le_mul (by omega) (by omega) (by omega) (by omega)⟩
  · exact ⟨Int.mul_nonneg (by omega) (by omega),Int.mul_le_mul (by omega) (by omega) (by omega) (by omega)⟩
theorem SP.mono {s r t n s' r' t' n':Int} (h:SP s r t n) (h':SP s' r' t' n') (hz:ZZ s r t≤ZZ s' r' t'):n≤n':=by
  rcases Int.lt_or_le n' n with h1 | h1
  · exfalso
    have h0:=h'.pos
    have h2:=h.low (by omega)
    have h3:=h'.up
    have hD:(0:Int)<DAY:=by decide
    have h4:=um (a:=n'*DAY) (b:=(n-1)*DAY) (Int.mul_nonneg h0 (by omega)) (Int.mul_le_mul_of_nonneg_right (by omega) (by omega))
    omega
  · exact h1
section
variable {F:Nat} (hF:4300000000≤F)
include hF
omit hF in
theorem aBr (b:Bool) (l:List Int):dD F 0 b l 0=some 0:=rfl
theorem aBm {a b:Int} (ha:-9223372036854775808≤a∧a≤9223372036854775807) (hb:-9223372036854775808≤b∧b≤9223372036854775807):∃ c l,iW F 0 a b=some (c,l,0)∧IsW c l ((a*b)*(a*b))∧l.length≤8:=by
  unfold iW
  obtain ⟨b1,l1,h1,h2⟩:=aAY hF ha
  obtain ⟨b2,l2,h3,h4⟩:=aAY hF hb
  have g1:=rP h2 (by omega)
  have g2:=rP h4 (by omega)
  obtain ⟨b3,l3,h5,h6⟩:=aEJ hF h2 h4 (by omega) (by omega)
  have g3:=sO h2 h4 h6
  obtain ⟨b4,l4,h7,h8⟩:=aEJ hF h6 h6 (by omega) (by omega)
  have g4:=sO h6 h6 h8
  simp only [h1,h3,h5,h7,Option.bind_some,aBr]
  exact ⟨b4,l4,rfl,h8,by omega⟩
theorem aEV {s r t:Int} (h:okS s r t):∃ n,kg F s r t=some (n,0)∧SP s r t n:=by
  obtain ⟨hs,hr,ht⟩:=h
  have hD:DAY=86400000000:=rfl
  unfold kg
  rw [if_neg (by simp; omega)]
  obtain ⟨b1,l1,h1,i1,k1⟩:=aBm hF (a:=s) (b:=86400000000) (by omega) (by omega)
  obtain ⟨b2,l2,h2,i2,k2⟩:=aBm hF (a:=r) (b:=t) (by omega) (by omega)
  obtain ⟨b3,l3,h3,i3⟩:=aDq hF i1 i2 (by omega) (by omega)
  have hrt:=aCk hr ht
  have hs2:=aBg (x:=s*86400000000) (M:=864000000000000000000) (by omega)
  have hr2:=aBg (x:=r*t) (M:=622080000000000000000000) (by omega)
  have hz0:0≤ZZ s r t:=by unfold ZZ; rw [hD]; omega
  have hzB:ZZ s r t≤1000000000000000000000000*1000000000000000000000000:=by unfold ZZ; rw [hD]; omega
  have hi3:IsW b3 l3 (ZZ s r t):=i3
  generalize hZ:ZZ s r t=Z at *
  have hb3:b3=false:=by rw [hi3.neg]; simp; omega
  subst hb3
  have k3:l3.length≤5:=hi3.is.len (by
    have:BP 5=4294967296*4294967296*4294967296*4294967296*4294967296:=by decide
    omega)
  obtain ⟨m,hm1,hm2⟩:=aD5 Z.toNat
  have q1:(m:Int)*m≤Z:=by
    have:((m*m:Nat):Int)≤Z:=by omega
    push_cast at this; exact this
  have q2:Z<((m:Int)+1)*(m+1):=by
    have:Z<(((m+1)*(m+1):Nat):Int):=by omega
    push_cast at this; exact this
  have hmB:(m:Int)≤1000000000000000000000000:=aF9 (by omega) (by omega)
  obtain ⟨b4,l4,h4,i4⟩:=aGe hF hi3 (by omega) (s:=(m:Int)) (by omega) q1 q2
  have k4:l4.length≤3:=i4.is.len (by
    have:BP 3=4294967296*4294967296*4294967296:=by decide
    omega)
  obtain ⟨b5,l5,h5,i5⟩:=aEJ hF i4 i4 (by omega) (by omega)
  have k5:=sO i4 i4 i5
  have h6:=aFx (F:=F) i5 hi3 (by omega) (by omega)
  simp only [h1,h2,h3,h4,h5,h6,Option.bind_some,aBr]
  have key:∀ (b:Bool) (l:List Int) (R:Int),IsW b l R→0≤R→R≤1000000000000000000000001→Z≤R*R→(0<R→(R-1)*(R-1)<Z)→∃ n,lD F 0 b l=some (n,0)∧0≤n∧Z≤(n*DAY)*(n*DAY)∧(0<n→((n-1)*DAY)*((n-1)*DAY)<Z):=fun b l R hR hR0 hRB hup hlow=>by
    unfold lD
    have kR:l.length≤3:=hR.is.len (by
      have:BP 3=4294967296*4294967296*4294967296:=by decide
      omega)
    obtain ⟨c1,d1,e1,f1⟩:=aAY hF (x:=86400000000) (by omega)
    have g1:=rP f1 (by omega)
    obtain ⟨c2,d2,c3,d3,Q,R1,e2,f2,f3,e3,e4⟩:=aER hF hR f1 (by omega) (by omega) (by omega)
    have k2:=f2.is; have k3:=f3.is
    have hR1:0≤R1∧R1<86400000000:=by omega
    have hQ:0≤Q∧Q≤100000000000000:=by omega
    have kd2:=rP f2 (by omega)
    have kd3:=rP f3 (by omega)
    simp only [e1,e2,Option.bind_some,aBr,aGZ (F:=F) f3 (by omega)]
    have fin:∀ (b:Bool) (l:List Int) (n:Int),IsW b l n→(0≤n∧n≤100000000000001)→(R≤n*DAY)→(0<n→(n-1)*DAY<R)→∃ n,lC F 0 b l=some (n,0)∧0≤n∧Z≤(n*DAY)*(n*DAY)∧(0<n→((n-1)*DAY)*((n-1)*DAY)<Z):=fun b l n hn hnB hnu hnl=>by
      unfold lC
      rw [if_neg (by simp),aGv hF hn (by omega),Option.bind_some]
      refine ⟨n,rfl,hnB.1,?_,fun h0=>?_⟩
      · have:=um hR0 hnu
        omega
      · have h1:=hnl h0
        have h2:=um (a:=(n-1)*DAY) (b:=R-1) (Int.mul_nonneg (by omega) (by omega)) (by omega)
        have h3:0≤(n-1)*DAY:=Int.mul_nonneg (by omega) (by omega)
        have h4:=hlow (by omega)
        omega
    by_cases hc:0<R1
    · rw [if_pos (by unfold nC; rw [if_neg (by omega),if_pos (by omega)]; omega)]
      obtain ⟨c4,d4,e5,f4⟩:=aAY hF (x:=1) (by omega)
      have g4:=rP f4 (by omega)
      obtain ⟨c5,d5,e6,f5⟩:=aDq hF f2 f4 (by omega) (by omega)
      simp only [e5,e6,Option.bind_some,aBr]
      exact fin c5 d5 (Q+1) f5 (by omega) (by rw [hD]; omega) (fun _=>by rw [hD]; omega)
    · rw [if_neg (by unfold nC; rw [if_neg (by omega),if_neg (by omega)]; omega)]
      exact fin c2 d2 Q f2 (by omega) (by rw [hD]; omega) (fun _=>by rw [hD]; omega)
  by_cases hc:(m:Int)*m<Z
  · rw [if_pos (by unfold nC; rw [if_pos hc]; omega)]
    obtain ⟨c4,d4,e5,f4⟩:=aAY hF (x:=1) (by omega)
    have g4:=rP f4 (by omega)
    obtain ⟨c5,d5,e6,f5⟩:=aDq hF i4 f4 (by omega) (by omega)
    simp only [e5,e6,Option.bind_some,aBr]
    obtain ⟨n,g1,g2,g3,g4⟩:=key c5 d5 ((m:Int)+1) f5 (by omega) (by omega) (by omega) (fun _=>by rw [Int.add_sub_cancel]; exact hc)
    exact ⟨n,g1,⟨g2,by rw [hZ]; exact g3,by rw [hZ]; exact g4⟩⟩
  · rw [if_neg (by unfold nC; rw [if_neg hc]; split <;> omega)]
    obtain ⟨n,g1,g2,g3,g4⟩:=key b4 l4 (m:Int) i4 (by omega) (by omega) (by omega) (fun h0=>by
      have h1:(m:Int)*m=Z:=by omega
      have h2:((m:Int)-1)*(m-1)=m*m-2*m+1:=by grind
      omega)
    exact ⟨n,g1,⟨g2,by rw [hZ]; exact g3,by rw [hZ]; exact g4⟩⟩
omit hF in
theorem aGn {s r t:Int} (h:¬ okS s r t):kg F s r t=some (0,2):=by
  unfold kg
  rw [if_pos]
  unfold okS at h
  simp only [Bool.or_eq_true,decide_eq_true_eq]
  omega
end
end Go.Proofs.YtbccfconmcgfgaaGreat

namespace Go.Proofs.YtbccfconmcgfgaaGreat
open Go Go.SL
section
variable {F:Nat} (hF:4300000000≤F)
include hF
omit hF in
theorem aD9 {a b:Int}:nC (-b) (-a)=nC a b:=by
  unfold nC
  by_cases h:a<b
  · rw [if_pos h,if_pos (by omega)]
  · rw [if_neg h,if_neg (by omega)]
    by_cases h2:b<a
    · rw [if_pos h2,if_pos (by omega)]
    · rw [if_neg h2,if_neg (by omega)]
theorem aCP {b b':Bool} {l l':List Int} {z z':Int} (h:IsW b l z) (h':IsW b' l' z') (hn:l.length≤2000) (hn':l'.length≤2000):nV F b l b' l'=some (nC z z'):=by
  obtain ⟨hi,hb⟩:=h
  obtain ⟨hi',hb'⟩:=h'
  unfold nV
  by_cases c1:z<0
  · have e1:b=true:=by rw [hb]; simpa using c1
    subst e1
    by_cases c2:z'<0
    · have e2:b'=true:=by rw [hb']; simpa using c2
      subst e2
      rw [if_neg (by decide),if_pos rfl,vF hF hi' hi (by omega),Option.bind_some,show ((z'.natAbs:Nat):Int)=-z' by omega,show ((z.natAbs:Nat):Int)=-z by omega,aD9]
    · have e2:b'=false:=by rw [hb']; simpa using c2
      subst e2
      rw [if_pos (by decide),if_pos rfl]
      unfold nC; rw [if_pos (by omega)]
  · have e1:b=false:=by rw [hb]; simpa using c1
    subst e1
    by_cases c2:z'<0
    · have e2:b'=true:=by rw [hb']; simpa using c2
      subst e2
      rw [if_pos (by decide),if_neg (by decide)]
      unfold nC; rw [if_neg (by omega),if_pos (by omega)]
    · have e2:b'=false:=by rw [hb']; simpa using c2
      subst e2
      rw [if_neg (by decide),if_neg (by decide),vF hF hi hi' (by omega),Option.bind_some,show ((z'.natAbs:Nat):Int)=z' by omega,show ((z.natAbs:Nat):Int)=z by omega]
theorem aHB {bn:Bool} {ln:List Int} {bd:Bool} {ld:List Int} {p q:Int} {bn':Bool} {ln':List Int} {bd':Bool} {ld':List Int} {p' q':Int} (h:IsF bn ln bd ld p q) (h':IsF bn' ln' bd' ld' p' q') (k1:ln.length≤400) (k2:ld.length≤400) (k3:ln'.length≤400) (k4:ld'.length≤400) :
    rM F bn ln bd ld bn' ln' bd' ld'=some (nC (p*q') (p'*q),0):=by
  unfold rM
  obtain ⟨c1,r1,e1,e2⟩:=aAJ hF h.num h'.den (by omega) (by omega)
  obtain ⟨c2,r2,e3,e4⟩:=aAJ hF h'.num h.den (by omega) (by omega)
  have g1:=sO h.num h'.den e2
  have g2:=sO h'.num h.den e4
  rw [aBM hF h h' (by omega) (by omega) (by omega) (by omega),Option.bind_some,if_neg (by simp),e1,Option.bind_some,e3,Option.bind_some,if_neg (by simp),aCP hF e2 e4 (by omega) (by omega),Option.bind_some]
theorem aGH {n s r t P Q:Int} {bn:Bool} {ln:List Int} {bd:Bool} {ld:List Int} (hn:-9223372036854775808≤n∧n≤9223372036854775807) (h:IsF bn ln bd ld P Q) (k1:ln.length≤60) (k2:ld.length≤60) (hP:P*(DAY*DAY)=(s*s*(DAY*DAY)+(r*t)*(r*t))*Q) :
    ∃ a b c d a' b' c' d' v,gQ F n=some (a,b,c,d)∧nH F a b c d a b c d=some (a',b',c',d',0)∧rM F a' b' c' d' bn ln bd ld=some (v,0)∧(0≤v↔ZZ s r t≤(n*DAY)*(n*DAY)):=by
  obtain ⟨a,b,c,d,h1,f1,g1,g2⟩:=xu hF hn
  obtain ⟨a',b',c',d',P2,Q2,h2,f2,r2,g3,g4⟩:=aCh hF f1 f1 (by omega) (by omega) (by omega) (by omega)
  have h3:=aHB hF f2 h (by omega) (by omega) (by omega) (by omega)
  refine ⟨a,b,c,d,a',b',c',d',_,h1,h2,h3,?_⟩
  have hQ2:=f2.pos; have hQ:=h.pos
  have hD:(0:Int)<DAY*DAY:=by decide
  have e1:P2=n*n*Q2:=by simpa using r2
  have e2:ZZ s r t*Q=P*(DAY*DAY):=by rw [hP]; unfold ZZ; generalize DAY=D; grind
  have e3:(n*DAY)*(n*DAY)*Q=n*n*Q*(DAY*DAY):=by generalize DAY=D; grind
  have e4:0≤nC (P2*Q) (P*Q2)↔P*Q2≤P2*Q:=by
    unfold nC
    split
    · omega
    · split <;> omega
  rw [e4,e1]
  have e5:n*n*Q2*Q=(n*n*Q)*Q2:=by grind
  rw [e5]
  constructor
  · intro h4
    have h5:P≤n*n*Q:=Int.le_of_mul_le_mul_right h4 hQ2
    have h6:P*(DAY*DAY)≤n*n*Q*(DAY*DAY):=Int.mul_le_mul_of_nonneg_right h5 (by omega)
    rw [← e2,← e3] at h6
    exact Int.le_of_mul_le_mul_right h6 hQ
  · intro h4
    have h5:ZZ s r t*Q≤(n*DAY)*(n*DAY)*Q:=Int.mul_le_mul_of_nonneg_right h4 (by omega)
    rw [e2,e3] at h5
    exact Int.mul_le_mul_of_nonneg_right (Int.le_of_mul_le_mul_right h5 hD) (by omega)
theorem aCN {s r t n P Q:Int} {bn:Bool} {ln:List Int} {bd:Bool} {ld:List Int} (hS:SP s r t n) (h:IsF bn ln bd ld P Q) (k1:ln.length≤60) (k2:ld.length≤60) (hP:P*(DAY*DAY)=(s*s*(DAY*DAY)+(r*t)*(r*t))*Q) :
    ∀ (k N:Nat) (lo hi:Int),hi-lo<((2^k:Nat):Int)→k<N→0≤lo→lo≤n→n≤hi→hi≤35184372088832→iq F (bn,ln,bd,ld) N lo hi=some (n,0)
  | _,0,_,_,_,hk,_,_,_,_=>by omega
  | k,N+1,lo,hi,hd,hk,h0,h1,h2,h3=>by
    show mq F (bn,ln,bd,ld) (iq F (bn,ln,bd,ld) N) lo hi=_
    unfold mq pU
    by_cases hlt:lo<hi
    · cases k with
      | zero=>simp at hd; omega
      | succ k =>
        have hm:IntKind.i64.wrap (Int.tdiv (IntKind.i64.wrap (lo+hi)) 2)=(lo+hi)/2:=by
          rw [bI (x:=lo+hi) (by omega),Int.tdiv_eq_ediv_of_nonneg (by omega),bI (by omega)]
        rw [if_pos hlt,hm,Option.bind_some]
        obtain ⟨a,b,c,d,a',b',c',d',v,e1,e2,e3,e4⟩:=aGH hF (n:=(lo+hi)/2) (by omega) h k1 k2 hP
        rw [Nat.pow_succ] at hd
        rw [e1,Option.bind_some,Option.bind_some,e2,Option.bind_some]
        simp only [e3,Option.bind_some]
        have hDp:(0:Int)≤DAY:=by decide
        by_cases hv:v≥0
        · rw [if_pos hv]
          have hz:=e4.1 hv
          have hnm:n≤(lo+hi)/2:=by
            rcases Int.lt_or_le ((lo+hi)/2) n with hh | hh
            · exfalso
              have:=hS.low (by omega)
              have:=um (a:=(lo+hi)/2*DAY) (b:=(n-1)*DAY) (Int.mul_nonneg (by omega) hDp) (Int.mul_le_mul_of_nonneg_right (by omega) hDp)
              omega
            · exact hh
          exact aCN hS h k1 k2 hP k N lo ((lo+hi)/2) (by omega) (by omega) h0 h1 hnm (by omega)
        · rw [if_neg hv,bI (x:=(lo+hi)/2+1) (by omega)]
          have hnm:(lo+hi)/2<n:=by
            rcases Int.lt_or_le ((lo+hi)/2) n with hh | hh
            · exact hh
            · exfalso
              have h5:=hS.up
              have:=um (a:=n*DAY) (b:=(lo+hi)/2*DAY) (Int.mul_nonneg hS.pos hDp) (Int.mul_le_mul_of_nonneg_right hh hDp)
              exact hv (e4.2 (by omega))
          exact aCN hS h k1 k2 hP k N ((lo+hi)/2+1) hi (by omega) (by omega) (by omega) (by omega) h2 h3
    · rw [if_neg hlt,show lo=n by omega]
omit hF in
theorem aGt {s r t n:Int} (h:okS s r t) (hS:SP s r t n):n≤35184372088832:=by
  obtain ⟨hs,hr,ht⟩:=h
  rcases Int.lt_or_le 35184372088832 n with hh | hh
  · exfalso
    have hD:DAY=86400000000:=rfl
    have h1:=hS.low (by omega)
    have h2:=um (a:=35184372088832*DAY) (b:=(n-1)*DAY) (by decide) (Int.mul_le_mul_of_nonneg_right (by omega) (by decide))
    unfold ZZ at h1
    have h3:=(aBg (x:=s*DAY) (M:=10000000000*DAY) ⟨by rw [hD]; omega,by rw [hD]; omega⟩).2
    have h4:=aCk (a:=r) (b:=t) (A:=72000000000) (B:=8640000000000) hr ht
    have h5:=(aBg (x:=r*t) (M:=72000000000*8640000000000) h4).2
    rw [hD] at h1 h2 h3
    omega
  · exact hh
theorem aEK {s r t n:Int} (h:okS s r t) (hS:SP s r t n):lH F s r t=some (n,0):=by
  have hn:=aGt h hS
  obtain ⟨hs,hr,ht⟩:=h
  obtain ⟨a,b,c,d,P,Q,e1,e2,e3,e4,e5⟩:=aD6 hF (s:=s) (r:=r) (t:=t) (by omega) (by omega) (by omega)
  unfold lH
  rw [if_neg (by simp only [Bool.or_eq_true,decide_eq_true_eq]; omega),e1,Option.bind_some]
  exact aCN hF hS e2 e4 e5 e3 46 F 0 35184372088832 (by decide) (by omega) (by omega) hS.pos hn (by omega)
theorem aDU (s r t:Int):∃ x,kg F s r t=some x∧lH F s r t=some x:=by
  by_cases h:okS s r t
  · obtain ⟨n,h1,h2⟩:=aEV hF h
    exact ⟨_,h1,aEK hF h h2⟩
  · refine ⟨_,aGn h,?_⟩
    unfold lH
    rw [if_pos]
    unfold okS at h
    simp only [Bool.or_eq_true,decide_eq_true_eq]
    omega
end
end Go.Proofs.YtbccfconmcgfgaaGreat

namespace Go.Proofs.YtbccfconmcgfgaaGreat
open Go Go.SL
theorem yG (F:Nat) (l:List BTask) (hl:l.length≤8):∀ (k N i:Nat),i+k=l.length→k<N→(∀ j t,j<i→l[j]? = some t→Okt t)→∃ c,eO F l N (i:Int)=some c∧dV F l N (i:Int)=some c∧(c=0→∀ t ∈ l,Okt t)
  | _,0,_,_,h,_=>by omega
  | 0,N+1,i,hi,_,hok=>by
    refine ⟨0,?_,?_,fun _ t ht=>?_⟩
    · show fI F l (eO F l N) (i:Int)=_
      unfold fI oz
      rw [if_neg (by omega)]
    · show eP F l (dV F l N) (i:Int)=_
      unfold eP nZ
      rw [if_neg (by omega)]
    · obtain ⟨j,hj⟩:=List.getElem?_of_mem ht
      exact hok j t (by have:=(List.getElem?_eq_some_iff.1 hj).1; omega) hj
  | k+1,N+1,i,hi,hN,hok=>by
    have hil:i<l.length:=by omega
    obtain ⟨t,ht⟩:∃ t,l[i]? = some t:=⟨_,List.getElem?_eq_getElem hil⟩
    have hw:IntKind.i64.wrap ((i:Int)+1)=((i+1:Nat):Int):=by rw [bI (by omega)]; omega
    have e1:dV F l (N+1) (i:Int)=eP F l (dV F l N) (i:Int):=rfl
    have e2:eO F l (N+1) (i:Int)=fI F l (eO F l N) (i:Int):=rfl
    rw [e1,e2]
    unfold eP fI
    rw [if_pos (by omega),if_pos (by omega),oO ht,Option.bind_some,Option.bind_some,hw]
    by_cases hc:Okt t
    · rw [if_neg,if_neg]
      · refine yG F l hl k N (i+1) (by omega) (by omega) (fun j t' hj hjt=>?_)
        by_cases hji:j=i
        · subst hji; rw [ht] at hjt; obtain rfl:=Option.some.inj hjt; exact hc
        · exact hok j t' (by omega) hjt
      · unfold Okt at hc
        rw [bI (by omega)]
        simp only [Bool.or_eq_true,decide_eq_true_eq]; omega
      · unfold Okt at hc
        rw [bI (by omega)]
        simp only [Bool.or_eq_true,Bool.not_eq_true',Bool.and_eq_false_iff,decide_eq_true_eq,decide_eq_false_iff_not]
        split <;> split <;> omega
    · rw [if_pos,if_pos]
      · exact ⟨8,rfl,rfl,fun h=>by omega⟩
      · by_cases hr:-5000000000000000≤t.1∧t.1≤5000000000000000∧-5000000000000000≤t.2.1∧t.2.1≤5000000000000000
        · rw [bI (by omega)]
          unfold Okt at hc
          simp only [Bool.or_eq_true,decide_eq_true_eq]; omega
        · simp only [Bool.or_eq_true,decide_eq_true_eq]; omega
      · by_cases hr:-5000000000000000≤t.1∧t.1≤5000000000000000∧-5000000000000000≤t.2.1∧t.2.1≤5000000000000000
        · rw [bI (by omega)]
          unfold Okt at hc
          simp only [Bool.or_eq_true,Bool.not_eq_true',Bool.and_eq_false_iff,decide_eq_true_eq,decide_eq_false_iff_not]
          split <;> split <;> omega
        · simp only [Bool.or_eq_true,Bool.not_eq_true',Bool.and_eq_false_iff,decide_eq_true_eq,decide_eq_false_iff_not]
          split <;> split <;> omega
theorem wz (F:Nat) (hF:8<F) (l:List BTask):∃ c,kZ F l=some c∧iB F l=some c∧(c=0→l.length≤8∧∀ t ∈ l,Okt t):=by
  unfold iB kZ
  by_cases hl:l.length≤8
  · rw [if_neg (by omega),if_neg (by omega)]
    obtain ⟨c,h1,h2,h3⟩:=yG F l hl l.length F 0 (by omega) (by omega) (fun j t hj=>by omega)
    exact ⟨c,h1,h2,fun h=>⟨hl,h3 h⟩⟩
  · rw [if_pos (by omega),if_pos (by omega)]
    exact ⟨4,rfl,rfl,fun h=>by omega⟩
open Classical in
theorem aF5 (F:Nat) (o:List Int) (ho:o.length≤20) (i:Nat) (hi:i<o.length) (rec:Int→Option ((List (Int × Int)) × Int)):∀ (k N j:Nat),j+k=i→k<N →
    fe F (i:Int) o rec N (j:Int)=if (∃ q,j≤q∧q<i∧o[q]? = o[i]?) then some ([],14) else rec ((i+1:Nat):Int)
  | _,0,_,_,h=>by omega
  | 0,N+1,j,hj,_=>by
    show jE F (i:Int) o rec (fe F (i:Int) o rec N) (j:Int)=_
    unfold jE pV
    rw [if_neg (by omega),if_neg (by rintro ⟨q,h1,h2,_⟩; omega),mI (n:=1000) (by omega) (by omega)]
  | k+1,N+1,j,hj,hN=>by
    have e1:o[i]? = some o[i]:=List.getElem?_eq_getElem hi
    have e2:o[j]? = some o[j]:=List.getElem?_eq_getElem (by omega)
    show jE F (i:Int) o rec (fe F (i:Int) o rec N) (j:Int)=_
    unfold jE
    rw [if_pos (by omega),oO e1,Option.bind_some,oO e2,Option.bind_some]
    by_cases hq:o[i]=o[j]
    · rw [if_pos hq,if_pos ⟨j,by omega,by omega,by rw [e1,e2,hq]⟩]
    · rw [if_neg hq,mI (n:=1000) (by omega) (by omega),aF5 F o ho i hi rec k N (j+1) (by omega) (by omega)]
      have:(∃ q,j+1≤q∧q<i∧o[q]? = o[i]?)↔(∃ q,j≤q∧q<i∧o[q]? = o[i]?):=by
        constructor
        · rintro ⟨q,h1,h2,h3⟩; exact ⟨q,by omega,h2,h3⟩
        · rintro ⟨q,h1,h2,h3⟩
          rcases Nat.lt_or_eq_of_le h1 with h4 | h4
          · exact ⟨q,h4,h2,h3⟩
          · subst h4
            rw [e1,e2] at h3
            exact absurd (Option.some.inj h3).symm hq
      by_cases hx:∃ q,j≤q∧q<i∧o[q]? = o[i]?
      · rw [if_pos hx,if_pos (this.2 hx)]
      · rw [if_neg hx,if_neg (fun h=>hx (this.1 h))]
theorem zJ {o:List Int}:o.Nodup↔∀ p q,q<p→p<o.length→o[q]?≠o[p]?:=by
  rw [List.nodup_iff_pairwise_ne,List.pairwise_iff_getElem]
  constructor
  · intro h p q hqp hp he
    rw [List.getElem?_eq_getElem hp,List.getElem?_eq_getElem (show q<o.length by omega)] at he
    exact h q p (by omega) hp hqp (Option.some.inj he)
  · intro h p q hp hq hpq he
    refine h q p hpq hq ?_
    rw [List.getElem?_eq_getElem hp,List.getElem?_eq_getElem hq,he]
theorem aFt (F:Nat) (hF:1000<F) (o:List Int) (l:List BTask) (ho:o.length≤20):∀ (k N i:Nat),i+k=o.length→k<N→(∀ p q,q<p→p<i→o[q]?≠o[p]?) →
    (o.Nodup→dW F o l N (i:Int)=jo F l o)∧(¬ o.Nodup→dW F o l N (i:Int)=some ([],14))
  | _,0,_,_,h,_=>by omega
  | 0,N+1,i,hi,_,hd=>by
    have e:dW F o l (N+1) (i:Int)=jo F l o:=by
      show iw F o l (dW F o l N) (i:Int)=_
      unfold iw
      rw [if_neg (by omega)]
    have hn:o.Nodup:=zJ.2 fun p q hqp hp=>hd p q hqp (by omega)
    exact ⟨fun _=>e,fun h=>absurd hn h⟩
  | k+1,N+1,i,hi,hN,hd=>by
    have e:dW F o l (N+1) (i:Int)=fe F (i:Int) o (dW F o l N) F ((0:Nat):Int):=by
      show iw F o l (dW F o l N) (i:Int)=_
      unfold iw
      rw [if_pos (by omega)]; rfl
    rw [e,aF5 F o ho i (by omega) _ i F 0 (by omega) (by omega)]
    by_cases hx:∃ q,0≤q∧q<i∧o[q]? = o[i]?
    · rw [if_pos hx]
      obtain ⟨q,_,h2,h3⟩:=hx
      exact ⟨fun h=>absurd h3 (zJ.1 h i q h2 (by omega)),fun _=>rfl⟩
    · rw [if_neg hx]
      refine aFt F hF o l ho k N (i+1) (by omega) (by omega) fun p q hqp hp=>?_
      by_cases hpi:p=i
      · subst hpi; exact fun he=>hx ⟨q,Nat.zero_le _,hqp,he⟩
      · exact hd p q hqp (by omega)
theorem aF1 (F:Nat) (o:List Int) (l:List BTask) (ho:o.length≤20):∀ (k N i:Nat),i+k=o.length→k<N→(∀ j x,j<i→o[j]? = some x→0≤x∧x<(l.length:Int)) →
    ((∀ x ∈ o,0≤x∧x<(l.length:Int))→dw F o l N (i:Int)=jq F o l)∧((∃ x ∈ o,¬ (0≤x∧x<(l.length:Int)))→dw F o l N (i:Int)=some ([],2))
  | _,0,_,_,h,_=>by omega
  | 0,N+1,i,hi,_,hok=>by
    have e:dw F o l (N+1) (i:Int)=jq F o l:=by
      show jF F o l (dw F o l N) (i:Int)=_
      unfold jF
      rw [if_neg (by omega)]
    refine ⟨fun _=>e,fun ⟨x,hx,hn⟩=>?_⟩
    obtain ⟨j,hj⟩:=List.getElem?_of_mem hx
    exact absurd (hok j x (by have:=(List.getElem?_eq_some_iff.1 hj).1; omega) hj) hn
  | k+1,N+1,i,hi,hN,hok=>by
    obtain ⟨x,hx⟩:∃ x,o[i]? = some x:=⟨_,List.getElem?_eq_getElem (by omega)⟩
    have e:dw F o l (N+1) (i:Int)=jF F o l (dw F o l N) (i:Int):=rfl
    rw [e]
    unfold jF
    rw [if_pos (by omega),oO hx,Option.bind_some,mI (n:=1000) (by omega) (by omega)]
    by_cases hc:0≤x∧x<(l.length:Int)
    · rw [if_neg (by simp only [Bool.or_eq_true,decide_eq_true_eq]; omega)]
      refine aF1 F o l ho k N (i+1) (by omega) (by omega) fun j y hj hjy=>?_
      by_cases hji:j=i
      · subst hji; rw [hx] at hjy; obtain rfl:=Option.some.inj hjy; exact hc
      · exact hok j y (by omega) hjy
    · rw [if_pos (by simp only [Bool.or_eq_true,decide_eq_true_eq]; omega)]
      exact ⟨fun h=>absurd (h x (List.mem_of_getElem? hx)) hc,fun _=>rfl⟩
theorem follow_eq (l:List BTask) (o:List Int) (ho:o.length≤20):∃ r,nI 8589934592 l o=some r∧ni 8589934592 l o=some r∧r.1.length≤20:=by
  obtain ⟨c,h1,h2,h3⟩:=wz 8589934592 (by omega) l
  by_cases hc:c=0
  · obtain ⟨hl,ok⟩:=h3 hc
    obtain ⟨r,g1,g2⟩:=aCA l hl ok o ho
    refine ⟨r,g1,?_⟩
    unfold ni
    rw [h2,Option.bind_some,if_neg (by simpa using hc)]
    obtain ⟨k1,k2⟩:=aF1 8589934592 o l ho o.length 8589934592 0 (by omega) (by omega) (fun j x hj=>by omega)
    rw [show ((0:Nat):Int)=0 from rfl] at k1 k2
    rcases g2 with ⟨rfl,hx⟩ | ⟨hr,g3⟩
    · exact ⟨k2 hx,by simp⟩
    · rw [k1 hr]
      unfold jq
      obtain ⟨q1,q2⟩:=aFt 8589934592 (by omega) o l ho o.length 8589934592 0 (by omega) (by omega) (fun p q _ hp=>by omega)
      rw [show ((0:Nat):Int)=0 from rfl] at q1 q2
      rcases g3 with ⟨rfl,hd⟩ | ⟨hd,g4⟩
      · exact ⟨q2 hd,by simp⟩
      · rw [q1 hd]
        unfold jo
        obtain ⟨f1,f2⟩:=aED hr
        have he:=wO 8589934592 (by omega) l ok (o.map Int.toNat) (by rw [List.length_map]; omega) f2
        rw [← f1] at he
        rw [he,Option.bind_some]
        have hE:goes l E0 (o.map Int.toNat)=goes l (-5000000000000000) (o.map Int.toNat):=rfl
        rcases g4 with ⟨rfl,hg⟩ | ⟨b,hg,rfl⟩
        · rw [hE,hg]; exact ⟨rfl,by simp⟩
        · rw [hE,hg]
          refine ⟨rfl,?_⟩
          have ht:=aBd l _ _ _ hg
          have:=congrArg List.length ht
          simp only [tk,List.length_map] at this
          simp only
          omega
  · refine ⟨([],c),?_,?_,by simp⟩
    · unfold nI; rw [h1,Option.bind_some,if_pos hc]
    · unfold ni; rw [h2,Option.bind_some,if_pos hc]
theorem aE7 (l:List BTask):∃ r,pY 8589934592 l=some r∧r9 8589934592 l=some r∧r.1.length≤1000:=by
  obtain ⟨c,h1,h2,h3⟩:=wz 8589934592 (by omega) l
  unfold r9
  rw [if_pos (by omega),h2,Option.bind_some]
  by_cases hc:c=0
  · obtain ⟨hl,ok⟩:=h3 hc
    refine ⟨_,aCD l hl ok,by rw [if_neg (by simpa using hc)]; rfl,?_⟩
    have:=(vS l hl ok 8589934592 0 (-5000000000000000) (by omega) (by unfold Oke; omega)).len
    simp only
    omega
  · refine ⟨([],0,c),?_,by rw [if_pos hc],by simp⟩
    unfold pY; rw [h1,Option.bind_some,if_pos hc]
theorem aAm (F:Nat) (a:List (Int × Int)) (ha:a.length≤1000):∀ (k N i:Nat),i+k=a.length→k<N→eu F a a N (i:Int)=some true
  | _,0,_,_,h=>by omega
  | 0,N+1,i,hi,_=>by
    show gH F a a (eu F a a N) (i:Int)=_
    unfold gH nD
    rw [if_neg (by omega)]
  | k+1,N+1,i,hi,hN=>by
    obtain ⟨x,hx⟩:∃ x,a[i]? = some x:=⟨_,List.getElem?_eq_getElem (by omega)⟩
    show gH F a a (eu F a a N) (i:Int)=_
    unfold gH
    rw [if_pos (by omega),oO hx,Option.bind_some,Option.bind_some,if_neg (by simp),mI (n:=1000) (by omega) (by omega)]
    exact aAm F a ha k N (i+1) (by omega) (by omega)
theorem aAt (a:List (Int × Int)) (ha:a.length≤1000):j3 8589934592 a a=some true:=by
  unfold j3
  rw [if_neg (by simp)]
  exact aAm _ a ha a.length 8589934592 0 (by omega) (by omega)
theorem aDm (F:Nat) (l:List BTask) (hl:l.length≤1000) (a b:Int × Int) (c d:(List (Int × Int)) × Int) (e f:(List (Int × Int)) × Int × Int):∀ (k N i:Nat),i+k=l.length→k<N→eB F l a b c d e f N (i:Int)=jO F l a b c d e f
  | _,0,_,_,h=>by omega
  | 0,N+1,i,hi,_=>by
    show fU F l a b c d e f (eB F l a b c d e f N) (i:Int)=_
    unfold fU
    rw [if_neg (by omega)]
  | k+1,N+1,i,hi,hN=>by
    obtain ⟨x,hx⟩:∃ x,l[i]? = some x:=⟨_,List.getElem?_eq_getElem (by omega)⟩
    show fU F l a b c d e f (eB F l a b c d e f N) (i:Int)=_
    unfold fU
    rw [if_pos (by omega),List.nil_append,oO hx,Option.bind_some,Option.bind_some,if_neg (by simp),mI (n:=1000) (by omega) (by omega)]
    exact aDm F l hl a b c d e f k N (i+1) (by omega) (by omega)
theorem aD7 (l:List BTask) (o:List Int) (s r t:Int):oW 8589934592 l o s r t=some true:=by
  unfold oW sS
  rw [Option.bind_some]
  split
  · rfl
  · rename_i hc
    simp only [Bool.or_eq_true,Bool.and_eq_true,decide_eq_true_eq,not_or] at hc
    rw [if_pos (by simp),if_pos (by omega)]
    obtain ⟨x,h1,h2⟩:=aDU (F:=8589934592) (by omega) s r t
    obtain ⟨y,h3,h4,h5⟩:=follow_eq l o (by omega)
    obtain ⟨z,h6,h7,h8⟩:=aE7 l
    obtain ⟨c,h9,h10,_⟩:=wz 8589934592 (by omega) l
    rw [List.nil_append,h1,Option.bind_some,h2,Option.bind_some,h3,Option.bind_some,h4,Option.bind_some,h6,Option.bind_some,h7,Option.bind_some]
    rw [show (0:Int)=((0:Nat):Int) from rfl,aDm 8589934592 l (by omega) x x y y z z l.length 8589934592 0 (by omega) (by omega)]
    unfold jO
    rw [List.nil_append,h9,Option.bind_some,h10,Option.bind_some,if_pos (by simp),aAt y.1 (by omega),Option.bind_some]
    unfold jP
    rw [if_pos (by simp),aAt z.1 h8,Option.bind_some]
    unfold jN
    simp
end Go.Proofs.YtbccfconmcgfgaaGreat

namespace Go.SL
open Go Go.ChangeShapes Go.WideShapes Go.ChangeAt Go.RowKit
inductive LK where
  | int (k:IntKind)
  | bool
  | str
def LK.ok:LK→Value→Prop
  | .int k,v=>∃ n,v=.int k n∧(Lit.int k n).wf=true
  | .bool,v=>∃ b,v=.bool b
  | .str,v=>∃ s:ByteArray,v=.string s∧s.size≤maxLen
def yO:List LK→List Value→Prop
  | [],cs=>cs=[]
  | k::ks,cs=>∃ v t,cs=v::t∧k.ok v∧yO ks t
theorem yO.app:∀ {ks ks':List LK} {a b:List Value},yO ks a→yO ks' b→yO (ks++ks') (a++b)
  | [],_,a,b,h1,h2=>by
    have h1:a=[]:=h1
    subst h1; exact h2
  | k::ks,_,a,b,⟨v,t,h1,h2,h3⟩,h4=>by
    subst h1
    exact ⟨v,t++b,rfl,h2,yO.app h3 h4⟩
def aAL (P:Program) (f:TypeId→Option (List LK)):List Field→Nat→Option (List LK × Nat)
  | [],o=>some ([],o)
  | g::t,o=>if Nat.beq g.offset o=true then
      match f g.type with
      | some ks=>if Nat.beq ks.length (P.cellsOf g.type)=true then
          match aAL P f t (o+ks.length) with
          | some (r,o')=>some (ks++r,o')
          | none=>none
        else none
      | none=>none
    else none
def zI (P:Program):Nat→TypeId→Option (List LK)
  | 0,_=>none
  | d+1,t=>match P.underlying t with
    | some (.int k)=>some [.int k]
    | some .bool=>some [.bool]
    | some .string=>some [.str]
    | some (.struct fs)=>match aAL P (zI P d) fs.toList 0 with
      | some (ks,o)=>if Nat.beq o (P.cellsOf t)=true then some ks else none
      | none=>none
    | some (.array n e)=>match zI P d e with
      | some ks=>if (Nat.beq ks.length (P.cellsOf e)&&Nat.beq (n*ks.length) (P.cellsOf t))=true then some (List.replicate n ks).flatten else none
      | none=>none
    | _=>none
section
variable {H:Type} {enc:TypeId × Value→H} {P:Program} {w:World} {base:Nat} {spare:Nat→Bool} {held:Bool}
theorem aA7 {f:TypeId→Option (List LK)} {cs:List Value} (hf:∀ t ks,f t=some ks→∀ cs,(∃ (n:Nat) (x:DataW H × List MemPlace),DataW.trod enc P w base spare held n t cs=some x)→yO ks cs) :
    ∀ (fs:List Field) (o:Nat) (ks:List LK) (o':Nat),aAL P f fs o=some (ks,o')→(∀ g ∈ fs,∃ (n:Nat) (x:DataW H × List MemPlace),DataW.trod enc P w base spare held n g.type ((cs.drop g.offset).take (P.cellsOf g.type))=some x)→o'=cs.length→yO ks (cs.drop o)
  | [],o,ks,o',h,_,ho=>by
    simp only [aAL,Option.some.injEq,Prod.mk.injEq] at h
    obtain ⟨rfl,rfl⟩:=h
    subst ho
    show cs.drop cs.length=[]
    simp
  | g::t,o,ks,o',h,hg,ho=>by
    simp only [aAL] at h
    split at h
    · rename_i hgo
      have hgo:=Nat.eq_of_beq_eq_true hgo
      split at h
      · rename_i k1 hk1
        split at h
        · rename_i hlen
          have hlen:=Nat.eq_of_beq_eq_true hlen
          split at h
          · rename_i r o2 hr
            simp only [Option.some.injEq,Prod.mk.injEq] at h
            obtain ⟨rfl,rfl⟩:=h
            have h2:=aA7 hf t _ _ _ hr (fun g' hg'=>hg g' (by simp [hg'])) ho
            have h1:=hf _ _ hk1 _ (hg g (by simp))
            rw [hgo,← hlen] at h1
            have e:cs.drop o=(cs.drop o).take k1.length++cs.drop (o+k1.length):=by
              rw [← List.drop_drop,List.take_append_drop]
            rw [e]
            exact h1.app h2
          · cases h
        · cases h
      · cases h
    · cases h
theorem aGV {ks:List LK} {cs:List Value} {m:Nat} (hm:ks.length=m) (n:Nat) (hc:cs.length=n*m) (h:∀ i,i<n→yO ks ((cs.drop (i*m)).take m)):∀ j,j≤n→yO (List.replicate (n-j) ks).flatten (cs.drop (j*m)):=by
  intro j hj
  obtain ⟨q,hq⟩:∃ q,q=n-j:=⟨_,rfl⟩
  induction q generalizing j with
  | zero =>
    have:j=n:=by omega
    subst this
    rw [Nat.sub_self]
    show cs.drop (j*m)=[]
    rw [← hc]; simp
  | succ q ih =>
    have h1:=ih (j+1) (by omega) (by omega)
    have e:n-j=(n-(j+1))+1:=by omega
    rw [e,List.replicate_succ,List.flatten_cons]
    have e2:cs.drop (j*m)=(cs.drop (j*m)).take m++cs.drop ((j+1)*m):=by
      rw [Nat.add_mul,Nat.one_mul,← List.drop_drop,List.take_append_drop]
    rw [e2]
    exact (h j (by omega)).app h1
theorem aBy:∀ (d:Nat) (t:TypeId) (ks:List LK),zI P d t=some ks→∀ cs,(∃ (n:Nat) (x:DataW H × List MemPlace),DataW.trod enc P w base spare held n t cs=some x)→yO ks cs
  | 0,t,ks,h,_,_=>by simp [zI] at h
  | d+1,t,ks,h,cs,⟨n,x,hx⟩=>by
    have ih:=aBy d
    simp only [zI] at h
    split at h
    · rename_i k hk
      simp only [Option.some.injEq] at h
      subst h
      obtain ⟨z,rfl,_,hw⟩:=DataW.trod_int hk hx
      exact ⟨_,[],rfl,⟨z,rfl,hw⟩,rfl⟩
    · rename_i hk
      simp only [Option.some.injEq] at h
      subst h
      obtain ⟨z,rfl,_⟩:=DataW.trod_bool hk hx
      exact ⟨_,[],rfl,⟨z,rfl⟩,rfl⟩
    · rename_i hk
      simp only [Option.some.injEq] at h
      subst h
      obtain ⟨z,rfl,_,hw⟩:=DataW.trod_string hk hx
      exact ⟨_,[],rfl,⟨z,rfl,hw⟩,rfl⟩
    · rename_i fs hk
      split at h
      · rename_i ks' o ho
        split at h
        · rename_i hoc
          have hoc:=Nat.eq_of_beq_eq_true hoc
          simp only [Option.some.injEq] at h
          subst h
          obtain ⟨xs,m,rfl,rfl,hl,hxl,hall⟩:=DataW.trod_struct hk hx
          have:=aA7 (H:=H) (cs:=cs) (fun t ks h=>ih t ks h) fs.toList 0 ks' o ho (fun g hg=>?_) (hoc.trans hl.symm)
          · simpa using this
          · obtain ⟨i,hi⟩:=List.getElem?_of_mem hg
            have hi':fs[i]? = some g:=by simpa using hi
            have hlt:i<xs.length:=by rw [hxl]; exact (Array.getElem?_eq_some_iff.1 hi').1
            exact ⟨m,xs[i],by rw [hall i g hi',List.getElem?_eq_getElem hlt]⟩
        · cases h
      · cases h
    · rename_i q e hk
      split at h
      · rename_i ks' hks
        split at h
        · rename_i hc
          simp only [Bool.and_eq_true] at hc
          have hc1:=Nat.eq_of_beq_eq_true hc.1
          have hc2:=Nat.eq_of_beq_eq_true hc.2
          simp only [Option.some.injEq] at h
          subst h
          obtain ⟨xs,m,rfl,rfl,hl,hxl,hall⟩:=DataW.trod_array hk hx
          have:=aGV (m:=P.cellsOf e) hc1 q (by rw [hl,← hc2,hc1]) (fun i hi=>ih e ks' hks _ ⟨m,xs[i]'(by omega),by rw [hall i hi,List.getElem?_eq_getElem (by omega)]⟩) 0 (Nat.zero_le _)
          simpa using this
        · cases h
      · cases h
    · cases h
end
theorem Below.trodAll {H:Type} {enc:TypeId × Value→H} {P:Program} (hl:laidOutB P=true) {W W':World} (hb:RowKit.Below W.heap.size W W'):∀ (ts:List TypeId) (vs:List Value) (ds:List (DataW H)) (p:List MemPlace),
    (ts.all fun t=>P.readableRec t&&Nat.blt t P.types.size)=true→DataW.TrodAll enc P W 0 (fun _=>true) true ts vs ds p→(∀ x ∈ p,x.block<W.heap.size)→DataW.TrodAll enc P W' 0 (fun b=>decide (b<W.heap.size)) true ts vs ds p
  | [],[],[],p,_,h,_=>h
  | [],[],_::_,p,_,h,_=>by simp [DataW.TrodAll] at h
  | [],_::_,_,p,_,h,_=>by simp [DataW.TrodAll] at h
  | _::_,[],_,p,_,h,_=>by simp [DataW.TrodAll] at h
  | _::_,_::_,[],p,_,h,_=>by simp [DataW.TrodAll] at h
  | t::ts,v::vs,d::ds,p,ha,h,hlt=>by
    simp only [List.all_cons,Bool.and_eq_true] at ha
    obtain ⟨p1,p2,h1,h2,rfl⟩:=h
    exact ⟨p1,p2,RowKit.Below.trod hl ha.1.1 (by simpa using ha.1.2) h1 hb (fun x hx=>hlt x (List.mem_append_left _ hx)),Below.trodAll hl hb ts vs ds p2 ha.2 h2 (fun x hx=>hlt x (List.mem_append_right _ hx)),rfl⟩
theorem qD {H:Type} {enc:TypeId × Value→H} {P:Program} {w:World} {base:Nat} {spare:Nat→Bool} {held:Bool} {t:TypeId} {ts:List TypeId} {args:List Value} {ds:List (DataW H)} {p:List MemPlace}
    (h:DataW.TrodAll enc P w base spare held (t::ts) args ds p):∃ v vs d ds' p1 p2,args=v::vs∧ds=d::ds'∧DataW.Trod enc P w base spare held t v d p1∧DataW.TrodAll enc P w base spare held ts vs ds' p2∧p=p1++p2:=by
  cases args with
  | nil=>simp [DataW.TrodAll] at h
  | cons v vs =>
    cases ds with
    | nil=>simp [DataW.TrodAll] at h
    | cons d ds' =>
      obtain ⟨p1,p2,h1,h2,rfl⟩:=h
      exact ⟨v,vs,d,ds',p1,p2,rfl,rfl,h1,h2,rfl⟩
theorem aAg {H:Type} {enc:TypeId × Value→H} {P:Program} {w:World} {base:Nat} {spare:Nat→Bool} {held:Bool} {args:List Value} {ds:List (DataW H)} {p:List MemPlace}
    (h:DataW.TrodAll enc P w base spare held [] args ds p):args=[]∧ds=[]:=by
  cases args with
  | nil =>
    cases ds with
    | nil=>exact ⟨rfl,rfl⟩
    | cons=>simp [DataW.TrodAll] at h
  | cons=>simp [DataW.TrodAll] at h
end Go.SL
