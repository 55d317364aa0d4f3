/- Part of a proof: laws and walks. -/
import Derived.Test.YtbccfconmcgfgaaGreatTak
set_option linter.unusedVariables false
set_option linter.unusedSimpArgs false
namespace Go.Proofs.YtbccfconmcgfgaaGreat
open Go Go.SL
theorem two_pow_pos (s:Nat):(1:Int)≤2^s:=by
  induction s with
  | zero=>decide
  | succ s ih=>rw [Int.pow_succ]; omega
theorem qF {s t:Nat} (h:s≤t):(2:Int)^s≤2^t:=by
  obtain ⟨k,rfl⟩:=Nat.le.dest h
  rw [Int.pow_add]
  have h1:=two_pow_pos s
  have:=Int.mul_le_mul_of_nonneg_left (c:=(2:Int)^s) (two_pow_pos k) (by omega)
  omega
theorem qd (s:Nat) (h:s≤32):(2:Int)^s*2^(32-s)=4294967296:=by
  rw [← Int.pow_add,show s+(32-s)=32 by omega]; decide
section
variable {F:Nat} (hF:4300000000≤F)
include hF
omit hF in
theorem aEE {l:List Int} (hl:Lim l) (hn:l.length≤5000) (s:Nat) (hs:s≤31):∀ (m N i:Nat) (o:List Int) (c:Int),i+m=l.length→m<N→o.length=i→Lim o→0≤c∧c<2^s→lval o+c*BP i=2^s*lval (l.take i) →
    ∃ r,gy F l (s:Int) N o c (i:Int)=some r∧r.length=l.length+1∧Lim r∧lval r=2^s*lval l
  | _,0,_,_,_,_,h,_,_,_,_=>by omega
  | 0,N+1,i,o,c,hi,_,ho,hlo,hc,hv=>by
    have e1:gy F l (s:Int) (N+1) o c (i:Int)=lq F l (s:Int) (gy F l (s:Int) N) o c (i:Int):=rfl
    rw [e1]
    unfold lq rq
    have h31:=qF hs
    have e31:((2:Int)^31)=2147483648:=by decide
    rw [if_neg (by omega),if_pos (by omega),mD (by omega)]
    refine ⟨_,rfl,by simp; omega,hlo.app (Lim.cons (by omega) Lim.nil),?_⟩
    obtain rfl:i=l.length:=by omega
    rw [List.take_length] at hv
    rw [jk,ho,← hv]; generalize BP l.length=p; grind
  | m+1,N+1,i,o,c,hi,hN,ho,hlo,hc,hv=>by
    have e1:gy F l (s:Int) (N+1) o c (i:Int)=lq F l (s:Int) (gy F l (s:Int) N) o c (i:Int):=rfl
    rw [e1]
    unfold lq
    have hx:l[i]? = some l[i]:=List.getElem?_eq_getElem (by omega)
    have bx:=hl.at hx
    have h31:=qF hs
    have h1:=two_pow_pos s
    have e31:((2:Int)^31)=2147483648:=by decide
    have eb:IntKind.bits .u64=64:=rfl
    have em:Int.tmod (s:Int) 32=(s:Int):=by rw [Int.tmod_eq_emod_of_nonneg (by omega)]; omega
    have hbig:l[i]*2^s≤4294967295*2147483648:=Int.mul_le_mul (by omega) (by omega) (by omega) (by omega)
    have hnn:0≤l[i]*2^s:=Int.mul_nonneg bx.1 (by omega)
    rw [if_pos (by omega),ixn hx,Option.bind_some,em,if_pos (by omega),eb,Int.toNat_natCast,Nat.min_eq_left (by omega),bD (x:=l[i]) (by omega),bD (x:=l[i]*2^s) (by omega),
      (vN s bx.1 hc (by omega)).2,Option.bind_some,if_pos (by omega),wS (by omega),yu,yN]
    have hq:(l[i]*2^s+c)/4294967296<2^s:=Int.ediv_lt_of_lt_mul (by omega) (by
      have:(l[i]+1)*2^s≤4294967296*2^s:=Int.mul_le_mul_of_nonneg_right (by omega) (by omega)
      rw [Int.add_mul] at this
      rw [Int.mul_comm (2^s)]
      omega)
    refine aEE hl hn s hs m N (i+1) _ _ (by omega) (by omega) (by simp [ho]) (hlo.app (Lim.cons (by omega) Lim.nil)) ⟨by omega,hq⟩ ?_
    rw [jk,ho,cZ hx,eY]
    clear hx e1 hq
    generalize l[i]=x at *
    have hmod:=Int.mul_ediv_add_emod (x*2^s+c) 4294967296
    generalize (x*2^s+c)/4294967296=q at *
    generalize hs':(x*2^s+c) % 4294967296=t at *
    generalize BP i=p at *
    generalize (2:Int)^s=e at *
    have:t=x*e+c-4294967296*q:=by omega
    rw [this]
    grind
theorem aEa {l:List Int} (hl:Lim l) (hn:l.length≤5000) (s:Nat) (hs:s≤31):∃ r,rF F l (s:Int)=some r∧r.length=l.length+1∧Lim r∧lval r=2^s*lval l:=by
  unfold rF
  have ed:Int.tdiv (s:Int) 32=0:=by rw [Int.tdiv_eq_ediv_of_nonneg (by omega)]; omega
  have e0:IntKind.i64.wrap 0=0:=by decide
  rw [ed,e0,bI (x:=0+(l.length:Int)) (by omega),bI (x:=0+(l.length:Int)+1) (by omega),if_pos (by omega)]
  exact aEE hl hn s hs l.length F 0 [] 0 (by omega) (by omega) rfl Lim.nil ⟨by omega,by have:=two_pow_pos s; omega⟩ (by simp [lval])
omit hF in
theorem aFd (s:Nat) (hs:s≤31) (x7:Bool):∀ (t:List Int),Lim t→∀ (o:List Int) (c:Int) (n:Nat) (T:Int),o.length=t.length+n→Lim o→0≤T→c=T % 2^s→(∀ j,j<t.length→o[j]? = some 0)→lval o=BP t.length*(T/2^s) →
    ∃ o' c',iE F (s:Int) x7 (iJ t) o c=pG F x7 o' c'∧Lim o'∧o'.length=o.length∧lval o'=(lval t+BP t.length*T)/2^s:=by
  intro t
  induction t using aAc with
  | h0 =>
    intro _ o c n T ho hlo hT hr _ hv
    simp only [List.length_nil,vK,Int.one_mul] at hv ⊢
    simp only [lval,Int.zero_add]
    exact ⟨o,c,by rw [yR]; rfl,hlo,rfl,hv⟩
  | hs t x ih =>
    intro hl o c n T ho hlo hT hr hz hv
    simp only [List.length_append,List.length_singleton] at ho hz hv ⊢
    have hx:=hl.right.head
    have h0:=hz t.length (by omega)
    have h31:=qF hs
    have h1:=two_pow_pos s
    have e31:((2:Int)^31)=2147483648:=by decide
    have e32:((2:Int)^32)=4294967296:=by decide
    have eb:IntKind.bits .u64=64:=rfl
    have em:Int.tmod (s:Int) 32=(s:Int):=by rw [Int.tmod_eq_emod_of_nonneg (by omega)]; omega
    have r0:=Int.emod_nonneg T (show (2:Int)^s≠0 by omega)
    have r1:=Int.emod_lt_of_pos T (show (0:Int)<2^s by omega)
    rw [← hr] at r0 r1
    have hor:=(vN (x:=c) (c:=x) 32 r0 (by rw [e32]; exact hx) (by rw [e32]; omega)).1
    rw [e32] at hor
    rw [xG]
    show ∃ o' c',pE F (s:Int) (iE F (s:Int) x7 (iJ t)) (t.length:Int) x o c=_∧_
    unfold pE
    have hV:0≤c*4294967296+x∧c*4294967296+x<18446744073709551616:=by omega
    rw [e32,bD (x:=c*4294967296) (by omega),bD (x:=x) (by omega),hor,Option.bind_some,em,if_pos (by omega),ixn h0,Option.bind_some,if_pos (by omega),eb,Int.toNat_natCast,Int.toNat_natCast,Nat.min_eq_left (by omega),fdiv_pow,Int.one_mul,
      bD (x:=2^s) (by omega),bD (x:=2^s-1) (by omega),aDh s (by omega) hV]
    have hTd:=Int.mul_ediv_add_emod T (2^s)
    have e1:c*4294967296+x=(4294967296*T+x)-2^s*(4294967296*(T/2^s)):=by
      rw [hr]
      generalize T/2^s=q at *
      generalize T % 2^s=u at *
      generalize (2:Int)^s=d at *
      grind
    have e2:(c*4294967296+x) % 2^s=(4294967296*T+x) % 2^s:=by rw [e1,Int.sub_mul_emod_self_left]
    have e3:(c*4294967296+x)/2^s=(4294967296*T+x)/2^s-4294967296*(T/2^s):=by rw [e1,Int.sub_mul_ediv_left _ _ (by omega)]
    have q1:(c*4294967296+x)/2^s<4294967296:=Int.ediv_lt_of_lt_mul (by omega) (by
      have:(c+1)*4294967296≤2^s*4294967296:=Int.mul_le_mul_of_nonneg_right (by omega) (by omega)
      rw [Int.mul_comm 4294967296]
      omega)
    have q0:0≤(c*4294967296+x)/2^s:=Int.ediv_nonneg (by omega) (by omega)
    rw [mD ⟨q0,q1⟩]
    obtain ⟨o',c',g1,g2,g3,g4⟩:=ih hl.left (o.set t.length ((c*4294967296+x)/2^s)) ((c*4294967296+x) % 2^s) (n+1) (4294967296*T+x) (by simp; omega) (hlo.set _ ⟨q0,q1⟩) (by omega) e2 (fun j hj=>by
      rw [List.getElem?_set_ne (by omega)]; exact hz j (by omega)) (by
      rw [jB _ h0,hv,eY,e3]
      generalize BP t.length=p
      generalize T/2^s=q
      generalize (4294967296*T+x)/2^s=q'
      grind)
    have e4:lval t+BP t.length*(4294967296*T+x)=lval (t++[x])+BP (t.length+1)*T:=by
      rw [jk,eY]; generalize BP t.length=p; grind
    rw [e4] at g4
    exact ⟨o',c',g1,g2,by simpa using g3,g4⟩
theorem aCq {l:List Int} (hl:Lim l) (hn:l.length≤5000) (s:Nat) (hs:s≤31):∃ r b,qU F l (s:Int)=some (r,b)∧r.length=l.length∧Lim r∧lval r=lval l/2^s:=by
  unfold qU oI
  have ed:Int.tdiv (s:Int) 32=0:=by rw [Int.tdiv_eq_ediv_of_nonneg (by omega)]; omega
  have e0:IntKind.i64.wrap 0=0:=by decide
  rw [ed,e0,if_neg (by omega),Option.bind_some,if_pos ⟨by omega,by omega,by omega⟩]
  have hc:bO F (lsub l 0 0)=some false:=by
    have:lsub l 0 0=[]:=by simp [lsub]
    rw [this]
    unfold bO dH
    obtain ⟨N,rfl⟩:∃ N,F=N+1:=⟨F-1,by omega⟩
    rfl
  have e5:lsub l 0 (l.length:Int)=l:=by rw [zG,List.take_length]
  rw [hc,Option.bind_some,Int.sub_zero,bI (x:=(l.length:Int)) (by omega),if_pos (by omega),if_pos ⟨by omega,by omega,by omega⟩,e5,Option.bind_some,Int.toNat_natCast]
  obtain ⟨o',c',h1,h2,h3,h4⟩:=aFd (F:=F) s hs false l hl (List.replicate l.length 0) 0 0 0 (by simp) (Lim.zeros _) (Int.le_refl _) (by simp) (fun j hj=>by rw [List.getElem?_replicate,if_pos hj]) (by rw [nK]; simp)
  rw [h1]
  unfold pG
  rw [Int.mul_zero,Int.add_zero] at h4
  exact ⟨o',_,rfl,by simpa using h3,h2,h4⟩
omit hF in
set_option maxRecDepth 100000 in
theorem aHD:∀ x:Fin 256,∃ b:Fin 9,zo aD2 (x.val:Int)=some (b.val:Int)∧(x.val:Int)<2^b.val∧(0<x.val→0<b.val):=by
  have:(∀ x:Fin 256,(match zo aD2 (x.val:Int) with | some b=>decide (0≤b∧b≤8)&&decide ((x.val:Int)<2^b.toNat)&&(decide (x.val=0)||decide (0<b)) | none=>false)=true):=by decide +kernel
  intro x
  have h:=this x
  split at h
  · rename_i b hb
    simp only [Bool.and_eq_true,Bool.or_eq_true,decide_eq_true_eq] at h
    refine ⟨⟨b.toNat,by omega⟩,by rw [hb]; congr 1; simp only; omega,h.1.2,fun h0=>?_⟩
    have:=h.2
    simp only
    omega
  · cases h
omit hF in
theorem aCb {x:Int} (hx:0<x∧x<4294967296):∃ s:Nat,jm F x=some ((32-s:Nat):Int)∧s≤31∧x*2^s<4294967296:=by
  have key:∀ (y:Int) (n:Nat),0<y∧y<256→n≤24→x<(y+1)*2^n→∃ s:Nat,iR F y (n:Int)=some ((32-s:Nat):Int)∧s≤31∧x*2^s<4294967296:=fun y n hy hn hxy=>by
    obtain ⟨⟨b,hb9⟩,hb,hb2,hb3⟩:=aHD ⟨y.toNat,by omega⟩
    simp only at hb hb2 hb3
    rw [Int.toNat_of_nonneg (by omega)] at hb hb2
    have hb0:=hb3 (by omega)
    unfold iR
    rw [show IntKind.u8.wrap y=y by rw [IntKind.wrap_u8]; omega,hb,Option.bind_some,bI (x:=(b:Int)) (by omega),bI (x:=(n:Int)+(b:Int)) (by omega),Option.bind_some]
    refine ⟨32-(n+b),by congr 1; omega,by omega,?_⟩
    have h1:(y+1)*2^n≤2^b*2^n:=Int.mul_le_mul_of_nonneg_right (by omega) (by have:=two_pow_pos n; omega)
    rw [← Int.pow_add] at h1
    have h2:x+1≤2^(b+n):=by omega
    have h3:=qd (b+n) (by omega)
    rw [show 32-(n+b)=32-(b+n) by omega]
    have h4:=two_pow_pos (32-(b+n))
    have h5:(x+1)*2^(32-(b+n))≤2^(b+n)*2^(32-(b+n)):=Int.mul_le_mul_of_nonneg_right h2 (by omega)
    rw [h3,Int.add_mul] at h5
    omega
  have key2:∀ (y:Int) (n:Nat),0<y∧y<65536→n=0∨n=16→x<(y+1)*2^n→∃ s:Nat,iP F y (n:Int)=some ((32-s:Nat):Int)∧s≤31∧x*2^s<4294967296:=fun y n hy hn hxy=>by
    unfold iP
    by_cases h:y≥256
    · rw [if_pos h,bI (by omega),fdiv_pow]
      have e8:((2:Int)^8)=256:=by decide
      rw [e8]
      have:=key (y/256) (n+8) (by omega) (by omega) (by
        rw [Int.pow_add,e8]
        have hp:=two_pow_pos n
        have:(y+1)*2^n≤((y/256+1)*256)*2^n:=Int.mul_le_mul_of_nonneg_right (by omega) (by omega)
        generalize (2:Int)^n=p at *
        grind)
      push_cast at this ⊢
      exact this
    · rw [if_neg h]
      exact key y n (by omega) (by omega) hxy
  unfold jm
  have e16:((2:Int)^16)=65536:=by decide
  by_cases h:x≥65536
  · rw [if_pos h,fdiv_pow,e16]
    exact key2 (x/65536) 16 (by omega) (.inr rfl) (by rw [e16]; omega)
  · rw [if_neg h]
    exact key2 x 0 (by omega) (.inl rfl) (by simp; omega)
omit hF in
theorem aGQ {x:Int} (hx:0<x∧x<4294967296):∃ s:Nat,gF F x=some (s:Int)∧s≤31∧x*2^s<4294967296:=by
  obtain ⟨s,h1,h2,h3⟩:=aCb (F:=F) hx
  unfold gF
  rw [h1,Option.bind_some,bI (by omega)]
  exact ⟨s,by congr 1; omega,h2,h3⟩
end
end Go.Proofs.YtbccfconmcgfgaaGreat

namespace Go.Proofs.YtbccfconmcgfgaaGreat
open Go Go.SL
section
variable {F:Nat} (hF:4300000000≤F)
include hF
omit hF in
theorem aF6 {v u0:List Int} (hv:Lim v) (hn:v.length≤5000) (hu0:u0.length=v.length+1) {q:Int} (hq:0≤q∧q<4294967296):∀ (m N i:Nat) (u:List Int) (c b:Int),i+m=v.length→m<N→u.length=u0.length→Lim u→0≤c∧c<4294967296→(b=0∨b=1)→lval u=lval u0-q*lval (v.take i)+c*BP i+b*BP i →
    ∃ r b',dU F v q N u c b (i:Int)=some (decide (b'=(0:Int)),r)∧(b'=0∨b'=1)∧r.length=u0.length∧Lim r∧lval r=lval u0-q*lval v+b'*BP u0.length
  | _,0,_,_,_,_,_,h,_,_,_,_,_=>by omega
  | 0,N+1,i,u,c,b,hi,_,hu,hlu,hc,hb,hval=>by
    have e1:dU F v q (N+1) u c b (i:Int)=gL F v q (dU F v q N) u c b (i:Int):=rfl
    rw [e1]
    unfold gL nA
    have hx:u[v.length]? = some u[v.length]:=List.getElem?_eq_getElem (by omega)
    have bx:=hlu.at hx
    obtain rfl:i=v.length:=by omega
    rw [if_neg (by omega),ixn hx,Option.bind_some,mD hc,aBb F bx hc hb,Option.bind_some,Int.toNat_natCast]
    refine ⟨_,_,rfl,by split <;> simp,by simpa using hu,hlu.set _ (by omega),?_⟩
    rw [jB _ hx,hval,hu0,eY,List.take_length]
    have hs:(u[v.length]-c-b) % 4294967296=u[v.length]-c-b+4294967296*(if u[v.length]<c+b then 1 else 0):=by split <;> omega
    simp only
    rw [hs]
    generalize (if u[v.length]<c+b then (1:Int) else 0)=w
    generalize BP v.length=p
    generalize u[v.length]=x
    grind
  | m+1,N+1,i,u,c,b,hi,hN,hu,hlu,hc,hb,hval=>by
    have e1:dU F v q (N+1) u c b (i:Int)=gL F v q (dU F v q N) u c b (i:Int):=rfl
    rw [e1]
    unfold gL
    have hy:v[i]? = some v[i]:=List.getElem?_eq_getElem (by omega)
    have hx:u[i]? = some u[i]:=List.getElem?_eq_getElem (by omega)
    have bx:=hlu.at hx; have bY:=hv.at hy
    have hm:=aBk hq bY
    rw [if_pos (by omega),ixn hy,Option.bind_some,bD (x:=q) (by omega),bD (x:=v[i]) (by omega),bD (x:=q*v[i]) (by omega),bD (x:=c+q*v[i]) (by omega),Option.bind_some,ixn hx,Option.bind_some,yN,aBb F bx (by omega) hb,Option.bind_some,Int.toNat_natCast,yu,wS (by omega)]
    refine aF6 hv hn hu0 hq m N (i+1) _ _ _ (by omega) (by omega) (by simpa using hu) (hlu.set _ (by omega)) (by omega) (by simp only; split <;> simp) ?_
    rw [jB _ hx,hval,cZ hy,eY]
    simp only
    clear hx hy e1 hval
    generalize v[i]=y at *
    generalize u[i]=x at *
    have hmod:=Int.mul_ediv_add_emod (c+q*y) 4294967296
    have ht0:0≤(c+q*y) % 4294967296∧(c+q*y) % 4294967296<4294967296:=by omega
    generalize (c+q*y)/4294967296=d at *
    generalize (c+q*y) % 4294967296=t at *
    have hs:(x-t-b) % 4294967296=x-t-b+4294967296*(if x<t+b then 1 else 0):=by split <;> omega
    rw [hs]
    generalize (if x<t+b then (1:Int) else 0)=w
    generalize BP i=p
    have ht:t=c+q*y-4294967296*d:=by omega
    rw [ht]
    grind
theorem aCJ {u v:List Int} (hu:Lim u) (hv:Lim v) (hn:v.length≤5000) (hlen:u.length=v.length+1) {q:Int} (hq:0≤q∧q<4294967296):∃ r,mQ F u v q=some (decide (q*lval v≤lval u),r)∧r.length=u.length∧Lim r∧(q*lval v≤lval u→lval r=lval u-q*lval v):=by
  unfold mQ
  obtain ⟨r,b',h1,h2,h3,h4,h5⟩:=aF6 (F:=F) hv hn hlen hq v.length F 0 u 0 0 (by omega) (by omega) rfl hu (by omega) (.inl rfl) (by simp [lval])
  have h6:=iY h4
  have h7:=bF h4
  rw [h3] at h6
  have hiff:b'=0↔q*lval v≤lval u:=by
    rcases h2 with rfl | rfl
    · constructor
      · intro _; omega
      · intro _; rfl
    · constructor
      · intro h; omega
      · intro h; omega
  rw [show ((0:Nat):Int)=0 from rfl] at h1
  rw [h1]
  refine ⟨r,by simp only [hiff],h3,h4,fun h=>?_⟩
  have:=hiff.2 h
  rw [this] at h5
  omega
theorem aEM {u v:List Int} (hu:Lim u) (hv:Lim v) (hn:v.length≤4500) (hul:u.length≤5000) {j:Nat} (hj:j+v.length+1≤u.length) (hv0:0<lval v) {W:List Int} (hW:W=lsub u (j:Int) ((j+v.length+1:Nat):Int)) :
    ∀ (N:Nat) (g:Int),g<4294967296→lval W/lval v≤g→g-lval W/lval v<(N:Int)→∃ r,gV F (j:Int) ((j+v.length+1:Nat):Int) u v N g=some (lval W/lval v,u.take j++r++u.drop (j+v.length+1))∧r.length=v.length+1∧Lim r∧lval r=lval W % lval v
  | 0,g,_,h1,h2=>by omega
  | N+1,g,hg,h1,h2=>by
    have e1:gV F (j:Int) ((j+v.length+1:Nat):Int) u v (N+1) g=nU F (j:Int) ((j+v.length+1:Nat):Int) u v (gV F (j:Int) ((j+v.length+1:Nat):Int) u v N) g:=rfl
    rw [e1]
    unfold nU
    have hs:sbd (j:Int) ((j+v.length+1:Nat):Int) (u.length:Int):=⟨by omega,by omega,by omega⟩
    have hWl:W.length=v.length+1:=by rw [hW,oq hs]; omega
    have hWL:Lim W:=by rw [hW]; unfold lsub; exact (hu.take _).drop _
    have hW0:=bF hWL
    have hq0:0≤lval W/lval v:=Int.ediv_nonneg hW0 (by omega)
    rw [if_pos hs,← hW,aC2 (by omega),Option.bind_some]
    obtain ⟨r,h3,h4,h5,h6⟩:=aCJ hF hWL hv (by omega) hWl (q:=g) (by omega)
    rw [h3,Option.bind_some]
    have hiff:g*lval v≤lval W↔g≤lval W/lval v:=(Int.le_ediv_iff_mul_le hv0).symm
    by_cases hc:g*lval v≤lval W
    · rw [if_pos (by simpa using hc)]
      have hgq:g=lval W/lval v:=by have:=hiff.1 hc; omega
      refine ⟨r,?_,by omega,h5,?_⟩
      · rw [← hgq]
        congr 2
        unfold lcopy
        simp only [Int.toNat_natCast]
        have ek:min r.length (j+v.length+1-j)=v.length+1:=by omega
        have er:r.take (v.length+1)=r:=List.take_of_length_le (by omega)
        rw [ek,er,show j+(v.length+1)=j+v.length+1 by omega]
      · rw [h6 hc,Int.emod_def,hgq,Int.mul_comm]
    · rw [if_neg (by simpa using hc)]
      have hgq:¬ g≤lval W/lval v:=fun h=>hc (hiff.2 h)
      rw [mD (by omega)]
      exact aEM hu hv hn hul hj hv0 hW N (g-1) (by omega) (by omega) (by omega)
theorem aGf {u v:List Int} (hu:Lim u) (hv:Lim v) (hn:v.length≤4500) (hul:u.length≤5000) {j:Nat} (hj:j+v.length+1≤u.length) {n:Nat} {t:Int} (hvn:v.length=n+1) (ht:v[n]? = some t) (ht0:t≠0) {W:List Int} (hW:W=lsub u (j:Int) ((j+v.length+1:Nat):Int)) (hlt:lval W<4294967296*lval v) :
    ∃ r,qZ F u (j:Int) ((j+v.length+1:Nat):Int) v=some (lval W/lval v,u.take j++r++u.drop (j+v.length+1))∧r.length=v.length+1∧Lim r∧lval r=lval W % lval v:=by
  have bt:=hv.at ht
  have hs:sbd (j:Int) ((j+v.length+1:Nat):Int) (u.length:Int):=⟨by omega,by omega,by omega⟩
  have hWl:W.length=v.length+1:=by rw [hW,oq hs]; omega
  have hWL:Lim W:=by rw [hW]; unfold lsub; exact (hu.take _).drop _
  have hvv:lval v=lval (v.take n)+BP n*t:=by
    have:=cZ ht
    rw [← hvn,List.take_length] at this
    exact this
  have hP:=kX n
  have hvt:=bF (hv.take n)
  have hPt:BP n*1≤BP n*t:=Int.mul_le_mul_of_nonneg_left (by omega) (by omega)
  have hv0:0<lval v:=by omega
  have hW0:=bF hWL
  have hq0:0≤lval W/lval v:=Int.ediv_nonneg hW0 (by omega)
  have hqB:lval W/lval v<4294967296:=Int.ediv_lt_of_lt_mul hv0 hlt
  have ha:W[n]? = some W[n]:=List.getElem?_eq_getElem (by omega)
  have hb:W[n+1]? = some W[n+1]:=List.getElem?_eq_getElem (by omega)
  have ba:=hWL.at ha; have bb:=hWL.at hb
  have hWv:lval W=lval (W.take n)+BP n*(W[n]+4294967296*W[n+1]):=by
    have h1:=cZ ha
    have h2:=cZ hb
    rw [show n+1+1=W.length by omega,List.take_length] at h2
    rw [h2,h1,eY]
    generalize BP n=p; grind
  unfold qZ oC
  rw [if_pos hs,← hW,hvn,ixn hb,Option.bind_some,show IntKind.i64.wrap (((n+1:Nat):Int)-1)=(n:Int) by rw [bI (by omega)]; omega,ixn ht,Option.bind_some]
  rw [hvn] at hW hj
  have goal:∀ g:Int,g<4294967296→lval W/lval v≤g→∃ r,gV F (j:Int) ((j+(n+1)+1:Nat):Int) u v F g=some (lval W/lval v,u.take j++r++u.drop (j+(n+1)+1))∧r.length=n+1+1∧Lim r∧lval r=lval W % lval v:=fun g h1 h2=>by
    have:=aEM hF hu hv hn hul (by rw [hvn]; exact hj) hv0 (by rw [hvn]; exact hW) F g h1 h2 (by omega)
    rw [hvn] at this
    exact this
  by_cases hc:W[n+1]<t
  · rw [if_pos hc,ixn ha,Option.bind_some,aDC F ba (by omega) (by omega),Option.bind_some]
    have hqv:lval W/lval v*lval v≤lval W:=Int.ediv_mul_le _ (by omega)
    have hWt:=iY (hWL.take n)
    rw [List.length_take,Nat.min_eq_left (by omega)] at hWt
    have hq1:lval W/lval v*t<W[n+1]*4294967296+W[n]+1:=by
      refine Int.lt_of_mul_lt_mul_left (a:=BP n) ?_ (by omega)
      have h5:lval W/lval v*(BP n*t)≤lval W/lval v*lval v:=Int.mul_le_mul_of_nonneg_left (by omega) hq0
      have h6:BP n*(lval W/lval v*t)=lval W/lval v*(BP n*t):=by generalize BP n=p; grind
      rw [h6]
      have h7:BP n*(W[n+1]*4294967296+W[n]+1)=BP n*(W[n]+4294967296*W[n+1])+BP n:=by generalize BP n=p; generalize W[n]=x; generalize W[n+1]=y; grind
      rw [h7]
      omega
    exact goal _ (Int.ediv_lt_of_lt_mul (by omega) (by
      have:(W[n+1]+1)*4294967296≤t*4294967296:=Int.mul_le_mul_of_nonneg_right (by omega) (by omega)
      omega)) ((Int.le_ediv_iff_mul_le (by omega)).2 (by omega))
  · rw [if_neg hc]
    exact goal _ (by omega) (by omega)
theorem aF3 {b v:List Int} {s:Nat} (hs:s≤31) (hv:Lim v) (hvb:v.length=b.length) (hn:b.length≤4000) {n:Nat} {t:Int} (hvn:v.length=n+1) (ht:v[n]? = some t) (ht0:t≠0) {x19:List Int} (hx19:x19.take b.length=v) {U:Int} {L:Nat} (hL:L+b.length≤4900) :
    ∀ (k N:Nat) (q u:List Int),k<N→k≤L→q.length=L→u.length=L+b.length→Lim q→Lim u→(∀ i,i<k→q[i]? = some 0)→lval (u.drop k)<lval v→lval u+lval q*lval v=U →
      ∃ q' r',fP F b x19 (s:Int) N q u ((k:Int)-1)=some (q',r')∧Is q' (U/lval v)∧Is r' ((U % lval v)/2^s)
  | _,0,_,_,h,_,_,_,_,_,_,_,_=>by omega
  | 0,N+1,q,u,_,_,hq,hu,hlq,hlu,_,hlt,hval=>by
    have e1:fP F b x19 (s:Int) (N+1) q u (((0:Nat):Int)-1)=jU F b x19 (s:Int) (fP F b x19 (s:Int) N) q u (((0:Nat):Int)-1):=rfl
    rw [e1]
    unfold jU qH
    rw [List.drop_zero] at hlt
    have hu0:=bF hlu
    have hmod:U % lval v=lval u:=by rw [← hval,Int.add_mul_emod_self_right,Int.emod_eq_of_lt hu0 hlt]
    have hdiv:U/lval v=lval q:=by rw [← hval,Int.add_mul_ediv_right _ _ (by omega),Int.ediv_eq_zero_of_lt hu0 hlt]; omega
    obtain ⟨r1,h1,h2⟩:=wC hF hlu (by omega)
    have hr1:r1.length≤4900:=Nat.le_trans (h2.len (iY hlu)) (by omega)
    obtain ⟨r2,bb,h3,h4,h5,h6⟩:=aCq hF h2.lim (by omega) s hs
    obtain ⟨q',h7,h8⟩:=wC hF hlq (by omega)
    obtain ⟨r3,h9,h10⟩:=wC hF h5 (by omega)
    rw [if_neg (by omega),h1,Option.bind_some,h3,Option.bind_some,h7,Option.bind_some,h9,Option.bind_some]
    rw [hmod,hdiv]
    rw [h6,h2.val] at h10
    exact ⟨q',r3,rfl,h8,h10⟩
  | k+1,N+1,q,u,hN,hk,hq,hu,hlq,hlu,hz,hlt,hval=>by
    have e0:(((k+1:Nat):Int)-1)=(k:Int):=by omega
    have e1:fP F b x19 (s:Int) (N+1) q u (((k+1:Nat):Int)-1)=jU F b x19 (s:Int) (fP F b x19 (s:Int) N) q u (((k+1:Nat):Int)-1):=rfl
    rw [e1,e0]
    unfold jU
    have hx:u[k]? = some u[k]:=List.getElem?_eq_getElem (by omega)
    have bx:=hlu.at hx
    have hq0:=hz k (by omega)
    have ew:IntKind.i64.wrap (IntKind.i64.wrap ((k:Int)+(b.length:Int))+1)=((k+v.length+1:Nat):Int):=by rw [bI (x:=(k:Int)+(b.length:Int)) (by omega),bI (by omega)]; omega
    have hsb:sbd (k:Int) ((k+v.length+1:Nat):Int) (u.length:Int):=⟨by omega,by omega,by omega⟩
    have hWl:=oq hsb
    have hWeq:lsub u (k:Int) ((k+v.length+1:Nat):Int)=(u.drop k).take (v.length+1):=by
      unfold lsub
      simp only [Int.toNat_natCast]
      rw [List.drop_take,show k+v.length+1-k=v.length+1 by omega]
    have hv0:0<lval v:=by
      have:=bF (hlu.drop (k+1)); omega
    have hdk:lval (u.drop k)=u[k]+4294967296*lval (u.drop (k+1)):=by
      rw [List.drop_eq_getElem_cons (show k<u.length by omega)]; rfl
    have hhigh:lval (u.drop (k+1+v.length))=0:=by
      have h1:=lU (u.drop (k+1)) v.length (by simp; omega)
      rw [List.drop_drop] at h1
      have h2:=iY hv
      have h3:=bF ((hlu.drop (k+1)).take v.length)
      have h4:=bF (hlu.drop (k+1+v.length))
      rcases Int.lt_or_le 0 (lval (u.drop (k+1+v.length))) with h5 | h5
      · have h6:BP v.length*1≤BP v.length*lval (u.drop (k+1+v.length)):=Int.mul_le_mul_of_nonneg_left (by omega) (by have:=kX v.length; omega)
        omega
      · omega
    have hWv:lval (lsub u (k:Int) ((k+v.length+1:Nat):Int))=lval (u.drop k):=by
      rw [hWeq]
      have h1:=lU (u.drop k) (v.length+1) (by simp; omega)
      rw [List.drop_drop,show k+(v.length+1)=k+1+v.length by omega,hhigh,Int.mul_zero,Int.add_zero] at h1
      exact h1.symm
    have hlt2:lval (lsub u (k:Int) ((k+v.length+1:Nat):Int))<4294967296*lval v:=by rw [hWv,hdk]; omega
    obtain ⟨r,h1,h2,h3,h4⟩:=aGf hF hlu hv (by omega) (by omega) (j:=k) (by omega) hvn ht ht0 rfl hlt2
    have htk:lsub x19 0 (b.length:Int)=v:=by rw [zG,hx19]
    rw [if_pos (by omega),ew,if_pos hsb,htk,h1,Option.bind_some,ixn hq0,Option.bind_some,Int.toNat_natCast]
    rw [hWv] at h4
    have hqq0:0≤lval (u.drop k)/lval v:=Int.ediv_nonneg (bF (hlu.drop k)) (by omega)
    have hqq1:lval (u.drop k)/lval v<4294967296:=Int.ediv_lt_of_lt_mul hv0 (by rw [hWv] at hlt2; exact hlt2)
    have hwk:IntKind.i64.wrap ((k:Int)-1)=(k:Int)-1:=bI (by omega)
    rw [hwk]
    have hul:(u.take k++r++u.drop (k+v.length+1)).length=u.length:=by simp; omega
    have hud:(u.take k++r++u.drop (k+v.length+1)).drop k=r++u.drop (k+v.length+1):=by
      rw [List.append_assoc,List.drop_append_of_le_length (by simp; omega),List.drop_of_length_le (by simp; omega),List.nil_append]
    have hh2:lval (u.drop (k+v.length+1))=0:=by rw [show k+v.length+1=k+1+v.length by omega]; exact hhigh
    have hrv:lval (r++u.drop (k+v.length+1))=lval (u.drop k) % lval v:=by rw [uV,hh2,h4]; omega
    rw [hWv]
    refine aF3 hs hv hvb hn hvn ht ht0 hx19 hL k N _ _ (by omega) (by omega) (by simpa using hq) (by rw [hul]; exact hu) (hlq.set _ ⟨hqq0,hqq1⟩) (((hlu.take k).app h3).app (hlu.drop _)) (fun i hi=>by rw [List.getElem?_set_ne (by omega)]; exact hz i (by omega)) ?_ ?_
    · rw [hud,hrv]
      exact Int.emod_lt_of_pos _ hv0
    · rw [jB _ hq0,← hval,List.append_assoc,uV,hrv,List.length_take,Nat.min_eq_left (by omega),lU u k (by omega)]
      have hdm:=Int.mul_ediv_add_emod (lval (u.drop k)) (lval v)
      generalize lval (u.drop k)/lval v=d at *
      generalize lval (u.drop k) % lval v=e at *
      rw [← hdm]
      generalize BP k=p
      generalize lval v=w
      generalize lval q=g
      grind
end
end Go.Proofs.YtbccfconmcgfgaaGreat

namespace Go.Proofs.YtbccfconmcgfgaaGreat
open Go Go.SL
section
variable {F:Nat} (hF:4300000000≤F)
include hF
theorem aBz {a b:List Int} {z z':Int} (ha:Is a z) (hb:Is b z') (hz':0<z') (hla:a.length≤2500) (hlb:b.length≤2000):∃ q r,pJ F a b=some (q,r)∧Is q (z/z')∧Is r (z % z'):=by
  have hz:=ha.nonneg
  unfold pJ
  rw [vJ ha hb,Option.bind_some]
  by_cases hc:nC z z'<0
  · have hlt:z<z':=by unfold nC at hc; split at hc <;> (try split at hc) <;> omega
    rw [if_pos hc,aC2 (by omega),Option.bind_some,Int.ediv_eq_zero_of_lt hz hlt,Int.emod_eq_of_lt hz hlt]
    exact ⟨[],a,rfl,Is.nil,ha⟩
  have hle:z'≤z:=by
    unfold nC at hc
    split at hc
    · omega
    · omega
  rw [if_neg hc]
  have hbne:b≠[]:=fun e=>by have:=hb.zero.2 e; omega
  have hb0:0<b.length:=List.length_pos_iff.2 hbne
  have hba:=pK ha hb hle
  by_cases h1:(b.length:Int)=1
  · rw [if_pos h1]
    obtain ⟨d,rfl⟩:∃ d,b=[d]:=List.length_eq_one_iff.1 (by omega)
    have hd:=hb.lim.head
    have hdz:z'=d:=by rw [← hb.val]; simp [lval]
    have e0:idx [d] 0=some d:=rfl
    rw [e0,Option.bind_some]
    obtain ⟨q,h2,h3⟩:=aEz hF ha.lim (by omega) (d:=d) (by omega)
    rw [h2,Option.bind_some]
    have hr0:=Int.emod_nonneg (lval a) (show d≠0 by omega)
    have hr1:=Int.emod_lt_of_pos (lval a) (show 0<d by omega)
    obtain ⟨r,h4,h5⟩:=wC hF (l:=[lval a % d]) (Lim.cons (by omega) Lim.nil) (by simp)
    rw [h4,Option.bind_some]
    rw [hdz,← ha.val]
    simp only [lval,Int.mul_zero,Int.add_zero] at h5
    exact ⟨q,r,rfl,h3,h5⟩
  · rw [if_neg h1]
    obtain ⟨n,hn⟩:∃ n,b.length=n+1:=⟨b.length-1,by omega⟩
    have htop:b[n]? = some b[n]:=List.getElem?_eq_getElem (by omega)
    have btop:=hb.lim.at htop
    have htop0:b[n]≠0:=hb.nrm _ (by rw [List.getLast?_eq_getElem?,show b.length-1=n by omega]; exact htop)
    generalize htv:b[n]=t at *
    obtain ⟨s,h2,hs,h3⟩:=aGQ (F:=F) (x:=t) (by omega)
    obtain ⟨x19,h4,h5,h6,h7⟩:=aEa hF hb.lim (by omega) s hs
    obtain ⟨u,h8,h9,h10,h11⟩:=aEa hF ha.lim (by omega) s hs
    have hp:=two_pow_pos s
    rw [show IntKind.i64.wrap ((b.length:Int)-1)=(n:Int) by rw [bI (by omega)]; omega,ixn htop,Option.bind_some,h2,Option.bind_some,h4,Option.bind_some,if_pos ⟨by omega,by omega,by omega⟩,h8,Option.bind_some,
      show IntKind.i64.wrap ((u.length:Int)-(b.length:Int))=((a.length+1-b.length:Nat):Int) by rw [bI (by omega)]; omega,if_pos (by omega),Int.toNat_natCast,List.length_replicate,show IntKind.i64.wrap (((a.length+1-b.length:Nat):Int)-1)=((a.length+1-b.length:Nat):Int)-1 from bI (by omega),Option.bind_some]
    rw [hb.val] at h7
    rw [ha.val] at h11
    have hzt:z'<BP n*(t+1):=by
      have:=cZ htop
      rw [← hn,List.take_length,hb.val] at this
      have hlt:=iY (hb.lim.take n)
      rw [List.length_take,Nat.min_eq_left (by omega)] at hlt
      rw [Int.mul_add]; omega
    have ht32:2^s*(t+1)≤4294967296:=by
      have h12:=qd s (by omega)
      have:t<2^(32-s):=by
        refine Int.lt_of_mul_lt_mul_left (a:=2^s) ?_ (by omega)
        rw [h12,Int.mul_comm]; exact h3
      have h13:2^s*(t+1)≤2^s*2^(32-s):=Int.mul_le_mul_of_nonneg_left (by omega) (by omega)
      omega
    have hzB:2^s*z'<BP (n+1):=by
      have h12:2^s*(z'+1)≤2^s*(BP n*(t+1)):=Int.mul_le_mul_of_nonneg_left (by omega) (by omega)
      have h13:BP n*(2^s*(t+1))≤BP n*4294967296:=Int.mul_le_mul_of_nonneg_left ht32 (by have:=kX n; omega)
      rw [eY]
      have h14:2^s*(BP n*(t+1))=BP n*(2^s*(t+1)):=by generalize (2:Int)^s=p; generalize BP n=w; grind
      rw [Int.mul_add] at h12
      omega
    have hv19:lval (x19.take b.length)=2^s*z':=by
      have h12:=lU x19 b.length (by omega)
      have h13:=bF (h6.take b.length)
      have h14:=bF (h6.drop b.length)
      rw [h7] at h12
      rw [hn] at h12 h13 h14 ⊢
      rcases Int.lt_or_le 0 (lval (x19.drop (n+1))) with h15 | h15
      · have h16:BP (n+1)*1≤BP (n+1)*lval (x19.drop (n+1)):=Int.mul_le_mul_of_nonneg_left (by omega) (by have:=kX (n+1); omega)
        omega
      · rw [show lval (x19.drop (n+1))=0 by omega] at h12
        omega
    have hvl:(x19.take b.length).length=n+1:=by rw [List.length_take]; omega
    have hvL:=h6.take b.length
    have hvt:(x19.take b.length)[n]? = some (x19.take b.length)[n]:=List.getElem?_eq_getElem (by omega)
    have hvt0:(x19.take b.length)[n]≠0:=fun h=>by
      have h12:=cZ hvt
      rw [← hvl,List.take_length,hv19,h,Int.mul_zero,Int.add_zero] at h12
      have h13:=iY (hvL.take n)
      rw [List.length_take,hvl,Nat.min_eq_left (by omega)] at h13
      have h14:=hb.ge hbne
      rw [hn,Nat.add_sub_cancel] at h14
      have h15:1*z'≤2^s*z':=Int.mul_le_mul_of_nonneg_right hp (by omega)
      omega
    have hinit:lval (u.drop (a.length+1-b.length))<lval (x19.take b.length):=by
      rw [hv19]
      have h12:=lU u (a.length+1-b.length) (by omega)
      rw [h11] at h12
      have h13:=bF (h10.take (a.length+1-b.length))
      have h14:=ha.lt
      have h15:=hb.ge hbne
      rw [hn,Nat.add_sub_cancel] at h15
      have h16:BP a.length=BP (a.length+1-b.length)*BP n:=by rw [← yj]; congr 1; omega
      refine Int.lt_of_mul_lt_mul_left (a:=BP (a.length+1-b.length)) ?_ (by have:=kX (a.length+1-b.length); omega)
      have h17:2^s*(z+1)≤2^s*BP a.length:=Int.mul_le_mul_of_nonneg_left (by omega) (by omega)
      have h18:BP (a.length+1-b.length)*(2^s*BP n)≤BP (a.length+1-b.length)*(2^s*z'):=Int.mul_le_mul_of_nonneg_left (Int.mul_le_mul_of_nonneg_left h15 (by omega)) (by have:=kX (a.length+1-b.length); omega)
      have h19:2^s*BP a.length=BP (a.length+1-b.length)*(2^s*BP n):=by rw [h16]; generalize (2:Int)^s=p; generalize BP (a.length+1-b.length)=w; grind
      rw [Int.mul_add] at h17
      omega
    obtain ⟨q',r',g1,g2,g3⟩:=aF3 hF (b:=b) (v:=x19.take b.length) (x19:=x19) (U:=2^s*z) (L:=a.length+1-b.length) hs hvL (by rw [hvl,hn]) (by omega) hvl hvt hvt0 rfl (by omega) (a.length+1-b.length) F (List.replicate (a.length+1-b.length) 0) u (by omega) (Nat.le_refl _) (by simp) (by omega) (Lim.zeros _) h10 (fun i hi=>by rw [List.getElem?_replicate,if_pos hi]) hinit (by rw [nK,h11]; omega)
    rw [g1]
    rw [hv19,Int.mul_ediv_mul_of_pos _ _ (by omega)] at g2
    rw [hv19,Int.mul_emod_mul_of_pos _ _ (by omega),Int.mul_ediv_cancel_left _ (by omega)] at g3
    exact ⟨q',r',rfl,g2,g3⟩
def DM (z z' Q R:Int):Prop:=z=z'*Q+R∧((0≤R∧R<z')∨(z'<R∧R≤0))
theorem aER {b b':Bool} {l l':List Int} {z z':Int} (h:IsW b l z) (h':IsW b' l' z') (hz':z'≠0) (hn:l.length≤2000) (hn':l'.length≤2000):∃ c q d r Q R,qY F b l b' l'=some (c,q,d,r,0)∧IsW c q Q∧IsW d r R∧DM z z' Q R:=by
  unfold qY
  have hl0:¬ (l'.length:Int)=0:=fun e=>hz' (h'.pos.1 (List.length_eq_zero_iff.1 (by omega)))
  rw [xP h (by omega) h' (by omega),Option.bind_some,if_neg (by decide),if_neg hl0]
  have hp:(0:Int)<(z'.natAbs:Int):=by omega
  obtain ⟨q,r,h1,h2,h3⟩:=aBz hF h.is h'.is hp (by omega) hn'
  rw [h1,Option.bind_some]
  have hb:=h.neg; have hb':=h'.neg
  have hdm:=Int.mul_ediv_add_emod (z.natAbs:Int) (z'.natAbs:Int)
  have hr0:=Int.emod_nonneg (z.natAbs:Int) (show (z'.natAbs:Int)≠0 by omega)
  have hr1:=Int.emod_lt_of_pos (z.natAbs:Int) hp
  have hq0:0≤(z.natAbs:Int)/(z'.natAbs:Int):=Int.ediv_nonneg (by omega) (by omega)
  have hqle:(z.natAbs:Int)/(z'.natAbs:Int)≤(z.natAbs:Int):=Int.ediv_le_self _ (by omega)
  have hql:q.length≤2000:=Nat.le_trans (h2.len (Int.lt_of_le_of_lt hqle h.is.lt)) hn
  have hrl:r.length≤2000:=Nat.le_trans (h3.len (Int.lt_trans hr1 h'.is.lt)) hn'
  generalize (z.natAbs:Int)/(z'.natAbs:Int)=Q0 at *
  generalize (z.natAbs:Int) % (z'.natAbs:Int)=R0 at *
  have key:∀ (x y:List Int) (X Y:Int),Lim x→Lim y→lval x=X→lval y=Y→x.length≤4096→y.length≤4096→DM z z' (if b=b' then X else -X) (if b'=true then -Y else Y)→∃ c q d r Q R,kz F b b' x y=some (c,q,d,r,0)∧IsW c q Q∧IsW d r R∧DM z z' Q R:=fun x y X Y hx hy hX hY hlx hly hd=>by
    unfold kz
    obtain ⟨c1,q1,g1,g2⟩:=vg hF hx hlx (!(b == b'))
    obtain ⟨c2,q2,g3,g4⟩:=vg hF hy hly b'
    rw [g1,Option.bind_some,if_neg (by simp),g3,Option.bind_some]
    rw [hX] at g2
    rw [hY] at g4
    have:(if (!(b == b'))=true then -X else X)=(if b=b' then X else -X):=by
      by_cases e:b=b'
      · simp [e]
      · simp [e]
    rw [this] at g2
    exact ⟨c1,q1,c2,q2,_,_,rfl,g2,g4,hd⟩
  have hr00:(r.length:Int)>0↔0<R0:=by
    have:=h3.zero
    have h5:r.length>0↔r≠[]:=List.length_pos_iff
    rw [show ((r.length:Int)>0)↔(r.length>0) by omega,h5,ne_eq,← this]
    omega
  by_cases hc:R0>0∧b≠b'
  · rw [if_pos (by simp only [Bool.and_eq_true,decide_eq_true_eq,Bool.not_eq_true',beq_eq_false_iff_ne]; exact ⟨hr00.2 hc.1,hc.2⟩)]
    obtain ⟨x,g1,g2,_,g3,g4⟩:=aCX hF h2.lim (b:=[1]) (Lim.cons (by omega) Lim.nil) (by omega) (by simp)
    obtain ⟨y,g5,g6,g7,g8⟩:=aBA hF h'.is.lim h3.lim (by omega) (pK h'.is h3 (by omega)) (by rw [h3.val,h'.is.val]; omega)
    rw [g1,Option.bind_some,g5,Option.bind_some]
    refine key x y (Q0+1) ((z'.natAbs:Int)-R0) g3 g7 (by rw [g4,h2.val]; simp [lval]) (by rw [g8,h'.is.val,h3.val]) (by omega) (by omega) ?_
    rw [if_neg hc.2,hb']
    unfold DM
    have hbb:=hc.2
    rw [hb,hb',ne_eq,decide_eq_decide] at hbb
    by_cases h1:z'<0
    · have e1:(z'.natAbs:Int)=-z':=by omega
      have e2:(z.natAbs:Int)=z:=by omega
      rw [e1] at *; rw [e2] at *
      simp only [h1,decide_true,if_true]
      refine ⟨by grind,.inr (by omega)⟩
    · have e1:(z'.natAbs:Int)=z':=by omega
      have e2:(z.natAbs:Int)=-z:=by omega
      rw [e1] at *; rw [e2] at *
      simp only [h1,decide_false,Bool.false_eq_true,if_false]
      refine ⟨by grind,.inl (by omega)⟩
  · rw [if_neg (by
      simp only [Bool.and_eq_true,decide_eq_true_eq,Bool.not_eq_true',beq_eq_false_iff_ne]
      exact fun h=>hc ⟨hr00.1 h.1,h.2⟩)]
    refine key q r Q0 R0 h2.lim h3.lim h2.val h3.val (by omega) (by omega) ?_
    unfold DM
    by_cases hbb:b=b'
    · rw [if_pos hbb,hb']
      rw [hb,hb',decide_eq_decide] at hbb
      by_cases h1:z'<0
      · have e1:(z'.natAbs:Int)=-z':=by omega
        have e2:(z.natAbs:Int)=-z:=by omega
        rw [e1] at *; rw [e2] at *
        simp only [h1,decide_true,if_true]
        refine ⟨by grind,.inr (by omega)⟩
      · have e1:(z'.natAbs:Int)=z':=by omega
        have e2:(z.natAbs:Int)=z:=by omega
        rw [e1] at *; rw [e2] at *
        simp only [h1,decide_false,Bool.false_eq_true,if_false]
        refine ⟨by grind,.inl (by omega)⟩
    · have hR:R0=0:=by
        rcases Int.lt_or_le 0 R0 with h4 | h4
        · exact absurd ⟨h4,hbb⟩ hc
        · omega
      rw [if_neg hbb,hb']
      rw [hb,hb',decide_eq_decide] at hbb
      subst hR
      by_cases h1:z'<0
      · have e1:(z'.natAbs:Int)=-z':=by omega
        have e2:(z.natAbs:Int)=z:=by omega
        rw [e1] at *; rw [e2] at *
        simp only [h1,decide_true,if_true]
        refine ⟨by grind,.inr (by omega)⟩
      · have e1:(z'.natAbs:Int)=z':=by omega
        have e2:(z.natAbs:Int)=-z:=by omega
        rw [e1] at *; rw [e2] at *
        simp only [h1,decide_false,Bool.false_eq_true,if_false]
        refine ⟨by grind,.inl (by omega)⟩
omit hF in
theorem wQ {l:List Int} {n:Nat} (h:Is l (n:Int)):(l.length:Int)>0↔0<n:=by
  have:=h.zero
  have h5:l.length>0↔l≠[]:=List.length_pos_iff
  rw [show ((l.length:Int)>0)↔(l.length>0) by omega,h5,ne_eq,← this]
  omega
omit hF in
theorem aAC {a b:List Int} {m n:Nat} (ha:Is a (m:Int)) (hb:Is b (n:Int)) (h:n≤m):b.length≤a.length:=pK ha hb (by omega)
omit hF in
theorem aFS {l:List Int} {n:Nat} (h:Is l (n:Int)):n<2^(32*l.length):=by
  have h1:=h.lt
  have:BP l.length=((2^(32*l.length):Nat):Int):=by
    have e:(4294967296:Int)=((2^32:Nat):Int):=by decide
    unfold BP
    rw [e,← Int.natCast_pow,← Nat.pow_mul]
  rw [this] at h1
  omega
end
end Go.Proofs.YtbccfconmcgfgaaGreat

namespace Go.SL
open Go
structure IsF (bn:Bool) (ln:List Int) (bd:Bool) (ld:List Int) (p q:Int):Prop where
  num:IsW bn ln p
  den:IsW bd ld q
  pos:0<q
  cop:Int.gcd p q=1
theorem sO {b b' c:Bool} {l l' r:List Int} {z z':Int} (h:IsW b l z) (h':IsW b' l' z') (hr:IsW c r (z*z')):r.length≤l.length+l'.length:=by
  refine hr.is.len ?_
  rw [yj,Int.natAbs_mul]
  have h1:=h.is.lt; have h2:=h'.is.lt
  push_cast
  have h3:=kX l.length
  have h4:(z.natAbs:Int)*(z'.natAbs:Int)≤(z.natAbs:Int)*BP l'.length:=Int.mul_le_mul_of_nonneg_left (by omega) (by omega)
  have h5:((z.natAbs:Int)+1)*BP l'.length≤BP l.length*BP l'.length:=Int.mul_le_mul_of_nonneg_right (by omega) (by have:=kX l'.length; omega)
  have h6:=kX l'.length
  rw [Int.add_mul] at h5
  omega
theorem zS {b c:Bool} {l r:List Int} {z z':Int} (h:IsW b l z) (hr:IsW c r z') (hle:z'.natAbs≤z.natAbs):r.length≤l.length:=hr.is.len (Int.lt_of_le_of_lt (by omega) h.is.lt)
theorem DMx {z z' Q R:Int} (h:z=z'*Q+R∧((0≤R∧R<z')∨(z'<R∧R≤0))) (hd:z'∣z):R=0∧z=z'*Q:=by
  obtain ⟨h1,h2⟩:=h
  have hR:z'∣R:=by
    have:R=z-z'*Q:=by omega
    rw [this]
    exact Int.dvd_sub hd (Int.dvd_mul_right z' Q)
  have:R=0:=by
    rcases h2 with ⟨h3,h4⟩ | ⟨h3,h4⟩
    · have:=Int.emod_eq_of_lt h3 h4
      rw [Int.emod_eq_zero_of_dvd hR] at this
      exact this.symm
    · have h5:(-R) % (-z')=-R:=Int.emod_eq_of_lt (by omega) (by omega)
      have h6:(-z')∣(-R):=by rw [Int.neg_dvd,Int.dvd_neg]; exact hR
      rw [Int.emod_eq_zero_of_dvd h6] at h5
      omega
  exact ⟨this,by omega⟩
end Go.SL
namespace Go.Proofs.YtbccfconmcgfgaaGreat
open Go Go.SL
section
variable {F:Nat} (hF:4300000000≤F)
include hF
omit hF in
theorem rP {b:Bool} {l:List Int} {z:Int} (h:IsW b l z) (hz:-18446744073709551616<z∧z<18446744073709551616):l.length≤2:=h.is.len (by
  have:BP 2=18446744073709551616:=by decide
  omega)
end
end Go.Proofs.YtbccfconmcgfgaaGreat

namespace Go.Proofs.YtbccfconmcgfgaaGreat
open Go Go.SL
theorem aC9 (F:Nat) (l:List Int) (hl:l.length≤1000000):∀ (n N:Nat),n<N→n≤l.length→jK F l N (n:Int)=some (l.take (zH l n))
  | _,0,h,_=>by omega
  | 0,N+1,_,hn=>by
    show j6 F l (jK F l N) ((0:Nat):Int)=_
    unfold j6 mO pF
    rw [if_neg (by omega),if_neg (by simp),if_pos ⟨by omega,by omega,by omega⟩,if_pos (by simp),zG,if_pos (by simp)]
    rfl
  | n+1,N+1,h,hn=>by
    show j6 F l (jK F l N) ((n+1:Nat):Int)=_
    have hx:l[n]? = some l[n]:=List.getElem?_eq_getElem hn
    unfold j6 mO pF
    rw [if_pos (by omega),wP (by omega),ixn hx,Option.bind_some]
    unfold zH
    by_cases h0:l[n]=0
    · rw [if_pos (by simpa using h0),if_pos (by rw [hx,h0])]
      exact aC9 F l hl n N (by omega) (by omega)
    · have h1:¬ (l[n]? = some 0):=by rw [hx]; simpa using h0
      rw [if_neg (by simpa using h0),if_neg h1,if_pos ⟨by omega,by omega,by omega⟩,if_pos (by simp),zG,if_pos (by rw [List.length_take]; omega),List.nil_append]
section
variable {F:Nat} (hF:4300000000≤F)
include hF
theorem xC {l:List Int} (hl:Lim l) (hn:l.length≤1000000):∃ r,je F l=some r∧Is r (lval l):=by
  refine ⟨_,aC9 F l hn l.length F (by omega) (Nat.le_refl _),?_⟩
  have:=aAa l hl l.length (Nat.le_refl _)
  rw [List.take_length] at this
  exact this
theorem vU {l:List Int} (hl:Lim l) (hn:l.length≤4096) (b:Bool):∃ b' r,eH F b l=some (b',r,0)∧IsW b' r (if b=true then -(lval l) else lval l):=by
  obtain ⟨r,h1,h2⟩:=xC hF hl (by omega)
  have h3:r.length≤4096:=h2.len (Int.lt_of_lt_of_le (iY hl) (sV hn))
  have h4:=h2.nonneg
  have h5:=h2.zero
  unfold eH
  rw [h1,Option.bind_some,if_neg (by omega)]
  refine ⟨_,_,rfl,?_,?_⟩
  · cases b
    · simp only [Bool.false_eq_true,if_false]
      rw [show ((lval l).natAbs:Int)=lval l by omega]; exact h2
    · simp only [if_true]
      rw [show ((-(lval l)).natAbs:Int)=lval l by omega]; exact h2
  · cases b
    · simp only [Bool.false_and,Bool.false_eq_true,if_false]
      symm; simp only [decide_eq_false_iff_not]; omega
    · simp only [Bool.true_and,if_true]
      congr 1
      have:r.length>0↔r≠[]:=List.length_pos_iff
      have h6:r≠[]↔lval l≠0:=not_congr h5.symm
      simp only [eq_iff_iff]
      rw [show ((r.length:Int)>0)↔(r.length>0) by omega,this,h6]
      omega
omit hF in
theorem xk {b:Bool} {l:List Int} {z:Int} (h:IsW b l z) (hn:l.length≤4096):iA F b l=some 0:=by
  unfold iA nO nR
  rw [if_neg (by omega)]
  have hc:=chk h
  by_cases h0:(l.length:Int)>0
  · obtain ⟨x,hx,hx0⟩:=h.last (by omega)
    have h1:¬ l=[]:=fun e=>by subst e; simp at h0
    rw [if_pos h0,show IntKind.i64.wrap ((l.length:Int)-1)=((l.length-1:Nat):Int) by rw [bI (by omega)]; omega,ixn hx,Option.bind_some,if_neg]
    simp [hx0,h1]
  · rw [if_neg h0,if_neg]
    have:=hc (by omega)
    simp [this]
omit hF in
theorem aBC {b b':Bool} {l l':List Int} {z z':Int} (h:IsW b l z) (hn:l.length≤4096) (h':IsW b' l' z') (hn':l'.length≤4096):fo F b l b' l'=some 0:=by
  unfold fo
  rw [xk h hn,Option.bind_some,if_neg (by simp),xk h' hn',Option.bind_some]
theorem aBi {x:Int} (h:-9223372036854775808≤x∧x≤9223372036854775807):∃ b l,mX F x=some (b,l)∧IsW b l x:=by
  have key:∀ u:Int,0≤u∧u<18446744073709551616→u=x.natAbs→∃ b l,mP F x u=some (b,l)∧IsW b l x:=fun u hu hux=>by
    unfold mP
    have e1:IntKind.u32.wrap u=u % 4294967296:=yN u
    have e2:IntKind.u32.wrap (Int.fdiv u (2^32))=u/4294967296:=by rw [yu,mD (by omega)]
    rw [e1,e2]
    have hL:Lim [u % 4294967296,u/4294967296]:=Lim.cons (by omega) (Lim.cons (by omega) Lim.nil)
    obtain ⟨b',r,h1,h2⟩:=vU hF hL (by simp) (decide (x<0))
    rw [h1,Option.bind_some]
    refine ⟨b',r,rfl,?_⟩
    have hv:lval [u % 4294967296,u/4294967296]=u:=by simp only [lval]; omega
    rw [hv] at h2
    have:(if decide (x<0)=true then -u else u)=x:=by
      by_cases hx:x<0
      · simp only [hx,decide_true,if_true]; omega
      · simp only [hx,decide_false,Bool.false_eq_true,if_false]; omega
    rw [this] at h2
    exact h2
  unfold mX
  split
  · refine key _ (zV _) ?_
    rw [aBS,aBS]; omega
  · refine key _ (zV _) ?_
    rw [aBS]; omega
omit hF in
theorem aEX {a b:List Int} (ha:Lim a) (hb:Lim b) (hab:a.length=b.length) (hn:a.length≤5000):∀ (k N:Nat),k<N→k≤a.length→gD F a b N ((k:Int)-1)=some (nC (lval (a.take k)) (lval (b.take k)))
  | _,0,h,_=>by omega
  | 0,N+1,_,_=>by
    show iK F a b (gD F a b N) (((0:Nat):Int)-1)=_
    unfold iK oN
    rw [if_neg (by omega)]
    simp [lval,nC]
  | k+1,N+1,h,hk=>by
    show iK F a b (gD F a b N) (((k+1:Nat):Int)-1)=_
    rw [show (((k+1:Nat):Int)-1)=(k:Int) by omega]
    have hx:a[k]? = some a[k]:=List.getElem?_eq_getElem (by omega)
    have hy:b[k]? = some b[k]:=List.getElem?_eq_getElem (by omega)
    unfold iK
    rw [if_pos (by omega),ixn hx,Option.bind_some,ixn hy,Option.bind_some,show IntKind.i64.wrap ((k:Int)-1)=(k:Int)-1 from bI (by omega),aEX ha hb hab hn k N (by omega) (by omega),cZ hx,cZ hy]
    have h1:=iY (ha.take k); have h2:=bF (ha.take k)
    have h3:=iY (hb.take k); have h4:=bF (hb.take k)
    rw [List.length_take,Nat.min_eq_left (by omega)] at h1 h3
    clear hx hy
    generalize a[k]=x at *
    generalize b[k]=y at *
    generalize lval (a.take k)=u at *
    generalize lval (b.take k)=v at *
    have hp:=kX k
    generalize BP k=p at *
    unfold nC
    by_cases hxy:x<y
    · have:p*(x+1)≤p*y:=Int.mul_le_mul_of_nonneg_left (by omega) (by omega)
      rw [Int.mul_add] at this
      rw [if_pos hxy,if_pos (by omega)]
    · rw [if_neg hxy]
      by_cases hyx:x>y
      · have:p*(y+1)≤p*x:=Int.mul_le_mul_of_nonneg_left (by omega) (by omega)
        rw [Int.mul_add] at this
        rw [if_pos hyx,if_neg (by omega),if_pos (by omega)]
      · obtain rfl:x=y:=by omega
        rw [if_neg hyx]
        have g1:(u+p*x<v+p*x)=(u<v):=by simp only [eq_iff_iff]; omega
        have g2:(v+p*x<u+p*x)=(v<u):=by simp only [eq_iff_iff]; omega
        simp only [g1,g2]
theorem vF {a b:List Int} {z z':Int} (ha:Is a z) (hb:Is b z') (hn:a.length≤5000):iI F a b=some (nC z z'):=by
  unfold iI
  by_cases hl:a.length=b.length
  · rw [if_neg (by omega),show IntKind.i64.wrap ((a.length:Int)-1)=(a.length:Int)-1 from bI (by omega),Option.bind_some,aEX ha.lim hb.lim hl hn a.length F (by omega) (Nat.le_refl _),List.take_length,hl,List.take_length,ha.val,hb.val]
  · rw [if_pos (by omega)]
    have key:∀ {a b:List Int} {z z':Int},Is a z→Is b z'→a.length<b.length→z<z':=fun {a b z z'} ha hb h=>by
      have h1:=ha.lt
      have h2:=hb.ge (fun e=>by subst e; simp at h)
      have h3:=sV (show a.length≤b.length-1 by omega)
      omega
    by_cases h1:a.length<b.length
    · have:=key ha hb h1
      rw [if_pos (by omega)]; unfold nC; rw [if_pos this]
    · have:=key hb ha (by omega)
      rw [if_neg (by omega)]; unfold nC; rw [if_neg (by omega),if_pos this]
omit hF in
theorem aBG {a:List Int} (ha:Lim a) (i:Nat):∃ y,(0≤y∧y<4294967296)∧lval (a.take (i+1))=lval (a.take i)+BP i*y∧((i<a.length∧a[i]? = some y)∨(¬ i<a.length∧y=0)):=by
  by_cases h:i<a.length
  · have hx:a[i]? = some a[i]:=List.getElem?_eq_getElem h
    exact ⟨a[i],ha.at hx,cZ hx,.inl ⟨h,hx⟩⟩
  · refine ⟨0,by omega,?_,.inr ⟨h,rfl⟩⟩
    rw [List.take_of_length_le (by omega),List.take_of_length_le (by omega)]; simp
omit hF in
theorem aC1 {a b:List Int} (ha:Lim a) (hb:Lim b) (hla:a.length≤5000) (hlb:b.length≤5000):∀ (m N i:Nat) (o:List Int) (c:Int),i+m=max a.length b.length→m<N→o.length=i→Lim o→(c=0∨c=1)→lval o+c*BP i=lval (a.take i)+lval (b.take i) →
    ∃ r,dP F a b N o c (i:Int)=some r∧r.length=max a.length b.length+1∧Lim r∧lval r=lval a+lval b
  | _,0,_,_,_,_,h,_,_,_,_=>by omega
  | 0,N+1,i,o,c,hi,_,ho,hlo,hc,hv=>by
    have e1:dP F a b (N+1) o c (i:Int)=j5 F a b (dP F a b N) o c (i:Int):=rfl
    rw [e1]
    unfold j5 q8
    rw [if_neg (by simp only [Bool.or_eq_true,decide_eq_true_eq]; omega),if_pos (by omega),mD (by omega)]
    refine ⟨_,rfl,by simp; omega,hlo.app (Lim.cons (by omega) Lim.nil),?_⟩
    rw [jk,ho]
    rw [List.take_of_length_le (by omega),List.take_of_length_le (by omega)] at hv
    rw [← hv]; generalize BP i=p; grind
  | m+1,N+1,i,o,c,hi,hN,ho,hlo,hc,hv=>by
    have e1:dP F a b (N+1) o c (i:Int)=j5 F a b (dP F a b N) o c (i:Int):=rfl
    rw [e1]
    unfold j5
    rw [if_pos (by simp only [Bool.or_eq_true,decide_eq_true_eq]; omega)]
    obtain ⟨x,bx,hvx,hx⟩:=aBG ha i
    obtain ⟨y,bY,hvy,hy⟩:=aBG hb i
    have key3:mH F o (dP F a b N) (i:Int) (x+y+c)=dP F a b N (o++[(x+y+c) % 4294967296]) ((x+y+c)/4294967296) ((i+1:Nat):Int):=by
      unfold mH
      rw [if_pos (by omega),yN,yu,wS (by omega)]
    have key4:mG F (i:Int) b o (dP F a b N) (c+x)=dP F a b N (o++[(x+y+c) % 4294967296]) ((x+y+c)/4294967296) ((i+1:Nat):Int):=by
      rw [← key3]
      unfold mG
      rcases hy with ⟨h1,h2⟩ | ⟨h1,h2⟩
      · rw [if_pos (by omega),ixn h2,Option.bind_some,bD (x:=y) (by omega),bD (by omega)]
        congr 1; omega
      · rw [if_neg (by omega)]
        congr 1; omega
    have key:∃ r,dP F a b N (o++[(x+y+c) % 4294967296]) ((x+y+c)/4294967296) ((i+1:Nat):Int)=some r∧r.length=max a.length b.length+1∧Lim r∧lval r=lval a+lval b:=by
      refine aC1 ha hb hla hlb m N (i+1) _ _ (by omega) (by omega) (by simp [ho]) (hlo.app (Lim.cons (by omega) Lim.nil)) (by omega) ?_
      rw [jk,ho,hvx,hvy,eY]
      have hmod:=Int.mul_ediv_add_emod (x+y+c) 4294967296
      generalize (x+y+c)/4294967296=q at *
      generalize (x+y+c) % 4294967296=s at *
      generalize BP i=p at *
      have hs:s=x+y+c-4294967296*q:=by omega
      rw [hs]
      grind
    rcases hx with ⟨h1,h2⟩ | ⟨h1,h2⟩
    · rw [if_pos (by omega),ixn h2,Option.bind_some,bD (x:=x) (by omega),bD (by omega),key4]
      exact key
    · rw [if_neg (by omega)]
      have:c+x=c:=by omega
      rw [this] at key4
      rw [key4]
      exact key
theorem aGa {a b:List Int} (ha:Lim a) (hb:Lim b) (hla:a.length≤4000) (hlb:b.length≤4000):∃ r,rV F a b=some r∧r.length=max a.length b.length+1∧Lim r∧lval r=lval a+lval b:=by
  unfold rV
  exact aC1 ha hb (by omega) (by omega) (max a.length b.length) F 0 [] 0 (by omega) (by omega) rfl Lim.nil (.inl rfl) (by simp [lval])
omit hF in
theorem aBj (hF:4300000000≤F) {a b:List Int} (ha:Lim a) (hb:Lim b) (hla:a.length≤5000) (hab:b.length≤a.length) (hle:lval b≤lval a):∀ (m N i:Nat) (o:List Int) (c:Int),i+m=a.length→m<N→o.length=i→Lim o→(c=0∨c=1)→lval o-c*BP i=lval (a.take i)-lval (b.take i) →
    ∃ r,dm F a b N o c (i:Int)=some r∧Is r (lval a-lval b)
  | _,0,_,_,_,_,h,_,_,_,_=>by omega
  | 0,N+1,i,o,c,hi,_,ho,hlo,hc,hv=>by
    have e1:dm F a b (N+1) o c (i:Int)=ja F a b (dm F a b N) o c (i:Int):=rfl
    rw [e1]
    unfold ja qQ
    obtain rfl:i=a.length:=by omega
    rw [if_neg (by omega)]
    rw [List.take_length,List.take_of_length_le hab] at hv
    have h1:=iY hlo
    rw [ho] at h1
    obtain ⟨r,h2,h3⟩:=xC hF hlo (by omega)
    rw [h2,Option.bind_some]
    have:lval o=lval a-lval b:=by
      rcases hc with rfl | rfl
      · omega
      · omega
    rw [this] at h3
    exact ⟨r,rfl,h3⟩
  | m+1,N+1,i,o,c,hi,hN,ho,hlo,hc,hv=>by
    have e1:dm F a b (N+1) o c (i:Int)=ja F a b (dm F a b N) o c (i:Int):=rfl
    rw [e1]
    unfold ja
    have hx:a[i]? = some a[i]:=List.getElem?_eq_getElem (by omega)
    have bx:=ha.at hx
    obtain ⟨y,bY,hvy,hy⟩:=aBG hb i
    have key:∃ r,kr F o (dm F a b N) (i:Int) (a[i]-c-y)=some r∧Is r (lval a-lval b):=by
      unfold kr nY
      have fin:∀ (t q:Int),(0≤t∧t<4294967296)→(q=0∨q=1)→t=a[i]-c-y+4294967296*q→∃ r,dm F a b N (o++[t]) q ((i+1:Nat):Int)=some r∧Is r (lval a-lval b):=fun t q ht hq htq=>by
        refine aBj hF ha hb hla hab hle m N (i+1) _ _ (by omega) (by omega) (by simp [ho]) (hlo.app (Lim.cons ht Lim.nil)) hq ?_
        rw [jk,ho,cZ hx,hvy,eY,htq]
        generalize BP i=p at *
        grind
      by_cases hneg:a[i]-c-y<0
      · rw [if_pos hneg,bI (by omega),Option.bind_some,if_pos (by omega),mD (by omega),wS (by omega)]
        exact fin _ 1 (by omega) (.inr rfl) (by omega)
      · rw [if_neg hneg,if_pos (by omega),mD (by omega),wS (by omega)]
        exact fin _ 0 (by omega) (.inl rfl) (by omega)
    rw [if_pos (by omega),ixn hx,Option.bind_some,bI (x:=a[i]) (by omega),bI (x:=a[i]-c) (by omega),Option.bind_some]
    rcases hy with ⟨h1,h2⟩ | ⟨h1,h2⟩
    · rw [if_pos (by omega),ixn h2,Option.bind_some,bI (x:=y) (by omega),bI (x:=a[i]-c-y) (by omega)]
      exact key
    · rw [if_neg (by omega)]
      rw [h2,Int.sub_zero] at key
      exact key
theorem aCu {a b:List Int} (ha:Lim a) (hb:Lim b) (hla:a.length≤5000) (hab:b.length≤a.length) (hle:lval b≤lval a):∃ r,pI F a b=some r∧Is r (lval a-lval b):=by
  unfold pI
  exact aBj hF ha hb hla hab hle a.length F 0 [] 0 (by omega) (by omega) rfl Lim.nil (.inl rfl) (by simp [lval])
theorem aDu {b b':Bool} {l l':List Int} {z z':Int} (h:IsW b l z) (h':IsW b' l' z') (hn:l.length≤2000) (hn':l'.length≤2000):∃ c r,oG F b l b' l'=some (c,r,0)∧IsW c r (z+z'):=by
  unfold oG
  have hb:=h.neg
  have hb':=h'.neg
  by_cases hbb:b=b'
  · rw [if_pos (by simp [hbb])]
    obtain ⟨r,h1,h2,h3,h4⟩:=aGa hF h.is.lim h'.is.lim (by omega) (by omega)
    rw [h1,Option.bind_some]
    obtain ⟨c,q,h5,h6⟩:=vU hF h3 (by omega) b
    rw [h5,Option.bind_some]
    refine ⟨c,q,rfl,?_⟩
    rw [h4,h.is.val,h'.is.val] at h6
    have:(if b=true then -((z.natAbs:Int)+(z'.natAbs:Int)) else (z.natAbs:Int)+(z'.natAbs:Int))=z+z':=by
      rw [hb] at hbb ⊢
      rw [hb'] at hbb
      simp only [decide_eq_decide] at hbb
      simp only [decide_eq_true_eq]
      split <;> omega
    rw [this] at h6; exact h6
  · rw [if_neg (by simpa using hbb),vF hF h.is h'.is (by omega),Option.bind_some]
    have hne:(z<0∧0≤z')∨(0≤z∧z'<0):=by
      rw [hb,hb'] at hbb
      simp only [decide_eq_decide] at hbb
      omega
    by_cases hc:nC (z.natAbs:Int) (z'.natAbs:Int)≥0
    · rw [if_pos hc]
      have hle:(z'.natAbs:Int)≤(z.natAbs:Int):=by
        unfold nC at hc
        split at hc
        · omega
        · omega
      obtain ⟨r,h1,h2⟩:=aCu hF h.is.lim h'.is.lim (by omega) (pK h.is h'.is hle) (by rw [h.is.val,h'.is.val]; exact hle)
      rw [h.is.val,h'.is.val] at h2
      have hrl:r.length≤2000:=Nat.le_trans (pK h.is h2 (by omega)) hn
      rw [h1,Option.bind_some]
      obtain ⟨c,q,h5,h6⟩:=vU hF h2.lim (by omega) b
      rw [h5,Option.bind_some]
      refine ⟨c,q,rfl,?_⟩
      rw [h2.val] at h6
      have:(if b=true then -((z.natAbs:Int)-(z'.natAbs:Int)) else (z.natAbs:Int)-(z'.natAbs:Int))=z+z':=by
        rw [hb]
        simp only [decide_eq_true_eq]
        split <;> omega
      rw [this] at h6; exact h6
    · rw [if_neg hc]
      have hle:(z.natAbs:Int)≤(z'.natAbs:Int):=by
        unfold nC at hc
        split at hc
        · omega
        · split at hc <;> omega
      obtain ⟨r,h1,h2⟩:=aCu hF h'.is.lim h.is.lim (by omega) (pK h'.is h.is hle) (by rw [h.is.val,h'.is.val]; exact hle)
      rw [h.is.val,h'.is.val] at h2
      have hrl:r.length≤2000:=Nat.le_trans (pK h'.is h2 (by omega)) hn'
      rw [h1,Option.bind_some]
      obtain ⟨c,q,h5,h6⟩:=vU hF h2.lim (by omega) b'
      rw [h5,Option.bind_some]
      refine ⟨c,q,rfl,?_⟩
      rw [h2.val] at h6
      have:(if b'=true then -((z'.natAbs:Int)-(z.natAbs:Int)) else (z'.natAbs:Int)-(z.natAbs:Int))=z+z':=by
        rw [hb']
        simp only [decide_eq_true_eq]
        split <;> omega
      rw [this] at h6; exact h6
theorem aG0 {b b':Bool} {l l':List Int} {z z':Int} (h:IsW b l z) (h':IsW b' l' z') (hn:l.length≤2000) (hn':l'.length≤2000):∃ c r,tO F b l b' l'=some (c,r,0)∧IsW c r (z+z'):=by
  unfold tO
  obtain ⟨c,r,h1,h2⟩:=aDu hF h h' hn hn'
  rw [aBC h (by omega) h' (by omega),Option.bind_some,if_neg (by simp),h1,Option.bind_some]
  exact ⟨c,r,rfl,h2⟩
theorem aGo {b:Bool} {l:List Int} {z:Int} (h:IsW b l z) (hn:l.length≤4096):∃ c r,su F b l=some (c,r,0)∧IsW c r (-z):=by
  unfold su
  rw [xk h hn,Option.bind_some,if_neg (by simp)]
  obtain ⟨c,q,h5,h6⟩:=vU hF h.is.lim hn (!b)
  rw [h5,Option.bind_some]
  refine ⟨c,q,rfl,?_⟩
  rw [h.is.val,h.neg] at h6
  have:(if (!decide (z<0))=true then -(z.natAbs:Int) else (z.natAbs:Int))=-z:=by
    simp only [Bool.not_eq_true',decide_eq_false_iff_not]
    split <;> omega
  rw [this] at h6; exact h6
theorem aGg {b b':Bool} {l l':List Int} {z z':Int} (h:IsW b l z) (h':IsW b' l' z') (hn:l.length≤2000):rQ F b l b' l'=some (decide (z=z')):=by
  unfold rQ o8
  have hb:=h.neg
  have hb':=h'.neg
  by_cases hbb:b=b'
  · rw [if_pos (by simp [hbb]),vF hF h.is h'.is (by omega),Option.bind_some]
    congr 1
    rw [hb,hb',decide_eq_decide] at hbb
    rw [decide_eq_decide]
    unfold nC
    split
    · omega
    · split <;> omega
  · rw [if_neg (by simpa using hbb)]
    congr 1
    rw [hb,hb',decide_eq_decide] at hbb
    symm; simp only [decide_eq_false_iff_not]; omega
end
end Go.Proofs.YtbccfconmcgfgaaGreat

namespace Go.Proofs.YtbccfconmcgfgaaGreat
open Go Go.SL
section
variable {F:Nat} (hF:4300000000≤F)
include hF
omit hF in
theorem aAz {a b:List Int} (ha:Lim a) (hb:Lim b) (hla:a.length≤5000) (hlb:b.length≤5000) {i:Nat} {x:Int} (hx:a[i]? = some x) (rec:List Int→Int→Option (List Int)) (o0:List Int) :
    ∀ (m N k:Nat) (o:List Int) (c:Int),k+m=b.length→m<N→o.length=a.length+b.length→Lim o→0≤c∧c<4294967296→(∀ j,i+k≤j→o[j]? = o0[j]?)→lval o+c*BP (i+k)=lval o0+x*BP i*lval (b.take k) →
      ∃ o' c',fT F b a (i:Int) rec N o c (k:Int)=nu F (i:Int) b rec o' c' (b.length:Int)∧o'.length=a.length+b.length∧Lim o'∧(0≤c'∧c'<4294967296)∧(∀ j,i+b.length≤j→o'[j]? = o0[j]?)∧lval o'+c'*BP (i+b.length)=lval o0+x*BP i*lval b
  | _,0,_,_,_,_,h,_,_,_,_,_=>by omega
  | 0,N+1,k,o,c,hk,_,ho,hlo,hc,hj,hv=>by
    have e1:fT F b a (i:Int) rec (N+1) o c (k:Int)=jZ F b a (i:Int) rec (fT F b a (i:Int) rec N) o c (k:Int):=rfl
    rw [e1]
    unfold jZ
    rw [if_neg (by omega)]
    obtain rfl:k=b.length:=by omega
    rw [List.take_length] at hv
    exact ⟨o,c,rfl,ho,hlo,hc,hj,hv⟩
  | m+1,N+1,k,o,c,hk,hN,ho,hlo,hc,hj,hv=>by
    have e1:fT F b a (i:Int) rec (N+1) o c (k:Int)=jZ F b a (i:Int) rec (fT F b a (i:Int) rec N) o c (k:Int):=rfl
    rw [e1]
    unfold jZ
    have hil:=(List.getElem?_eq_some_iff.1 hx).1
    have hy:b[k]? = some b[k]:=List.getElem?_eq_getElem (by omega)
    have hz:o[i+k]? = some o[i+k]:=List.getElem?_eq_getElem (by omega)
    have by_:=hb.at hy; have bz:=hlo.at hz; have bx:=ha.at hx
    rw [if_pos (by omega),ixn hx,Option.bind_some,ixn hy,Option.bind_some,show IntKind.i64.wrap ((i:Int)+(k:Int))=((i+k:Nat):Int) by rw [bI (by omega)]; omega,ixn hz,Option.bind_some,Option.bind_some]
    have hm:=aBk bx by_
    generalize hyv:b[k]=y at *
    generalize hzv:o[i+k]=z at *
    have hbig:x*y≤18446744065119617025:=hm.2
    rw [bD (x:=x) (by omega),bD (x:=y) (by omega),bD (x:=z) (by omega),bD (x:=x*y) (by omega),bD (x:=x*y+z) (by omega),bD (by omega),yu,yN,Int.toNat_natCast,wS (by omega)]
    have hset:lval (o.set (i+k) ((c+(x*y+z)) % 4294967296))=lval o+BP (i+k)*((c+(x*y+z)) % 4294967296-z):=jB _ hz
    have htk:=cZ hy
    refine aAz ha hb hla hlb hx rec o0 m N (k+1) _ _ (by omega) (by omega) (by simpa using ho) (hlo.set _ (by omega)) (by omega) (fun j hj'=>?_) ?_
    · rw [List.getElem?_set_ne (by omega)]; exact hj j (by omega)
    · rw [hset,htk,show i+(k+1)=(i+k)+1 by omega,eY]
      have hmod:=Int.mul_ediv_add_emod (c+(x*y+z)) 4294967296
      rw [yj] at hv ⊢
      generalize (c+(x*y+z))/4294967296=q at *
      generalize (c+(x*y+z)) % 4294967296=s at *
      generalize BP i=p at *
      generalize BP k=p' at *
      generalize lval (b.take k)=u at *
      generalize lval o=v at *
      generalize lval o0=v0 at *
      have:s=c+(x*y+z)-4294967296*q:=by omega
      subst this
      grind
omit hF in
theorem aAb (hF:4300000000≤F) {a b:List Int} (ha:Lim a) (hb:Lim b) (hla:a.length≤5000) (hlb:b.length≤5000):∀ (m N i:Nat) (o:List Int),i+m=a.length→m<N→o.length=a.length+b.length→Lim o→(∀ j,i+b.length≤j→j<o.length→o[j]? = some 0)→lval o=lval (a.take i)*lval b →
    ∃ r,eT F a b N o (i:Int)=some r∧r.length=a.length+b.length∧Lim r∧lval r=lval a*lval b
  | _,0,_,_,_,h,_,_,_,_=>by omega
  | 0,N+1,i,o,hi,_,ho,hlo,_,hv=>by
    have e1:eT F a b (N+1) o (i:Int)=jT F a b (eT F a b N) o (i:Int):=rfl
    rw [e1]
    unfold jT qV
    rw [if_neg (by omega)]
    rw [show i=a.length by omega,List.take_length] at hv
    exact ⟨o,rfl,ho,hlo,hv⟩
  | m+1,N+1,i,o,hi,hN,ho,hlo,hz,hv=>by
    have e1:eT F a b (N+1) o (i:Int)=jT F a b (eT F a b N) o (i:Int):=rfl
    rw [e1]
    unfold jT
    have hx:a[i]? = some a[i]:=List.getElem?_eq_getElem (by omega)
    rw [if_pos (by omega)]
    obtain ⟨o',c',h1,h2,h3,h4,h5,h6⟩:=aAz (F:=F) ha hb hla hlb hx (eT F a b N) o b.length F 0 o 0 (by omega) (by omega) ho hlo (by omega) (fun j _=>rfl) (by simp [lval])
    rw [show ((0:Nat):Int)=0 from rfl] at h1
    rw [h1]
    unfold nu qP
    have hy:o'[i+b.length]? = some 0:=by rw [h5 _ (Nat.le_refl _)]; exact hz _ (by omega) (by omega)
    rw [show IntKind.i64.wrap ((i:Int)+(b.length:Int))=((i+b.length:Nat):Int) by rw [bI (by omega)]; omega,ixn hy,Option.bind_some,Int.toNat_natCast,wS (by omega),mD h4]
    have hset:lval (o'.set (i+b.length) c')=lval o'+BP (i+b.length)*(c'-0):=jB _ hy
    refine aAb hF ha hb hla hlb m N (i+1) _ (by omega) (by omega) (by simpa using h2) (h3.set _ h4) (fun j hj hjl=>?_) ?_
    · simp only [List.length_set] at hjl
      rw [List.getElem?_set_ne (by omega),h5 _ (by omega)]
      exact hz _ (by omega) (by omega)
    · rw [hset,cZ hx]
      rw [hv] at h6
      grind
theorem aE2 {a b:List Int} (ha:Lim a) (hb:Lim b) (hla:a.length≤5000) (hlb:b.length≤5000):∃ r,qg F a b=some r∧r.length=a.length+b.length∧Lim r∧lval r=lval a*lval b:=by
  unfold qg
  have e:IntKind.i64.wrap ((a.length:Int)+(b.length:Int))=((a.length+b.length:Nat):Int):=by rw [bI (by omega)]; omega
  rw [e,if_pos (by omega),Int.toNat_natCast]
  exact aAb hF ha hb hla hlb a.length F 0 _ (by omega) (by omega) (by simp) (Lim.zeros _) (fun j _ hj=>by simp at hj; rw [List.getElem?_replicate,if_pos hj]) (by rw [nK]; simp [lval])
theorem aAJ {b b':Bool} {l l':List Int} {z z':Int} (h:IsW b l z) (h':IsW b' l' z') (hn:l.length≤2000) (hn':l'.length≤2000):∃ c r,jf F b l b' l'=some (c,r,0)∧IsW c r (z*z'):=by
  unfold jf
  rw [aBC h (by omega) h' (by omega),Option.bind_some,if_neg (by decide)]
  obtain ⟨r,h1,h2,h3,h4⟩:=aE2 hF h.is.lim h'.is.lim (by omega) (by omega)
  rw [h1,Option.bind_some]
  obtain ⟨c,q,h5,h6⟩:=vU hF h3 (by omega) (!(b == b'))
  rw [h5,Option.bind_some]
  refine ⟨c,q,rfl,?_⟩
  rw [h4,h.is.val,h'.is.val,h.neg,h'.neg] at h6
  have:(if (!(decide (z<0) == decide (z'<0)))=true then -((z.natAbs:Int)*(z'.natAbs:Int)) else (z.natAbs:Int)*(z'.natAbs:Int))=z*z':=by
    by_cases h1:z<0 <;> by_cases h2:z'<0
    · rw [show (z.natAbs:Int)=-z by omega,show (z'.natAbs:Int)=-z' by omega]; simp [h1,h2,Int.neg_mul_neg]
    · rw [show (z.natAbs:Int)=-z by omega,show (z'.natAbs:Int)=z' by omega]; simp [h1,h2,Int.neg_mul]
    · rw [show (z.natAbs:Int)=z by omega,show (z'.natAbs:Int)=-z' by omega]; simp [h1,h2,Int.mul_neg]
    · rw [show (z.natAbs:Int)=z by omega,show (z'.natAbs:Int)=z' by omega]; simp [h1,h2]
  rw [this] at h6
  exact h6
omit hF in
theorem aCm {l:List Int} (hl:Lim l) (hn:l.length≤5000) (s:Nat) (hs:s≤31):∀ (m N i:Nat) (o:List Int) (c:Int),i+m=l.length→m<N→o.length=i→Lim o→0≤c∧c<2^s→lval o+c*BP i=2^s*lval (l.take i) →
    ∃ r,gN F l (s:Int) N o c (i:Int)=some r∧r.length=l.length+1∧Lim r∧lval r=2^s*lval l
  | _,0,_,_,_,_,h,_,_,_,_=>by omega
  | 0,N+1,i,o,c,hi,_,ho,hlo,hc,hv=>by
    have e1:gN F l (s:Int) (N+1) o c (i:Int)=kD F l (s:Int) (gN F l (s:Int) N) o c (i:Int):=rfl
    rw [e1]
    unfold kD qz
    have h31:=qF hs
    have e31:((2:Int)^31)=2147483648:=by decide
    rw [if_neg (by omega),if_pos (by omega),mD (by omega)]
    refine ⟨_,rfl,by simp; omega,hlo.app (Lim.cons (by omega) Lim.nil),?_⟩
    obtain rfl:i=l.length:=by omega
    rw [List.take_length] at hv
    rw [jk,ho,← hv]; generalize BP l.length=p; grind
  | m+1,N+1,i,o,c,hi,hN,ho,hlo,hc,hv=>by
    have e1:gN F l (s:Int) (N+1) o c (i:Int)=kD F l (s:Int) (gN F l (s:Int) N) o c (i:Int):=rfl
    rw [e1]
    unfold kD
    have hx:l[i]? = some l[i]:=List.getElem?_eq_getElem (by omega)
    have bx:=hl.at hx
    have h31:=qF hs
    have h1:=two_pow_pos s
    have e31:((2:Int)^31)=2147483648:=by decide
    have eb:IntKind.bits .u64=64:=rfl
    have em:Int.tmod (s:Int) 32=(s:Int):=by rw [Int.tmod_eq_emod_of_nonneg (by omega)]; omega
    have hbig:l[i]*2^s≤4294967295*2147483648:=Int.mul_le_mul (by omega) (by omega) (by omega) (by omega)
    have hnn:0≤l[i]*2^s:=Int.mul_nonneg bx.1 (by omega)
    rw [if_pos (by omega),ixn hx,Option.bind_some,if_pos (by omega),eb,Int.toNat_natCast,Nat.min_eq_left (by omega),bD (x:=l[i]) (by omega),bD (x:=l[i]*2^s) (by omega),bD (x:=c+l[i]*2^s) (by omega),Int.add_comm c,Option.bind_some,if_pos (by omega),wS (by omega),yu,yN]
    have hq:(l[i]*2^s+c)/4294967296<2^s:=Int.ediv_lt_of_lt_mul (by omega) (by
      have:(l[i]+1)*2^s≤4294967296*2^s:=Int.mul_le_mul_of_nonneg_right (by omega) (by omega)
      rw [Int.add_mul] at this
      rw [Int.mul_comm (2^s)]
      omega)
    refine aCm hl hn s hs m N (i+1) _ _ (by omega) (by omega) (by simp [ho]) (hlo.app (Lim.cons (by omega) Lim.nil)) ⟨by omega,hq⟩ ?_
    rw [jk,ho,cZ hx,eY]
    clear hx e1 hq
    generalize l[i]=x at *
    have hmod:=Int.mul_ediv_add_emod (x*2^s+c) 4294967296
    generalize (x*2^s+c)/4294967296=q at *
    generalize hs':(x*2^s+c) % 4294967296=t at *
    generalize BP i=p at *
    generalize (2:Int)^s=e at *
    have:t=x*e+c-4294967296*q:=by omega
    rw [this]
    grind
theorem aEQ {l:List Int} (hl:Lim l) (hn:l.length≤5000) (s:Nat) (hs:s≤31):∃ r,qJ F l (s:Int)=some r∧r.length=l.length+1∧Lim r∧lval r=2^s*lval l:=by
  unfold qJ
  exact aCm hl hn s hs l.length F 0 [] 0 (by omega) (by omega) rfl Lim.nil ⟨by omega,by have:=two_pow_pos s; omega⟩ (by simp [lval])
theorem aBt {l:List Int} (hl:Lim l) (hn:l.length≤5000) {d:Int} (hd:0<d∧d<4294967296):∀ (k N:Nat) (o:List Int) (r T:Int),k<N→k≤l.length→o.length=l.length→Lim o→0≤T→r=T % d→(∀ j,j<k→o[j]? = some 0)→lval o=BP k*(T/d) →
    ∃ q s,iX F l d N o r ((k:Int)-1)=some (q,s)∧Is q ((lval (l.take k)+BP k*T)/d)∧Is s ((lval (l.take k)+BP k*T) % d)
  | _,0,_,_,_,h,_,_,_,_,_,_,_=>by omega
  | 0,N+1,o,r,T,_,hk,ho,hlo,hT,hr,hz,hv=>by
    show ∃ q s,jW F l d (iX F l d N) o r (((0:Nat):Int)-1)=_∧_
    unfold jW qL
    have r0:=Int.emod_nonneg T (show d≠0 by omega)
    have r1:=Int.emod_lt_of_pos T hd.1
    rw [if_neg (by omega),mD (by omega)]
    obtain ⟨q,h1,h2⟩:=xC hF hlo (by omega)
    obtain ⟨s,h3,h4⟩:=xC hF (l:=[r]) (Lim.cons (by omega) Lim.nil) (by simp)
    rw [h1,Option.bind_some,h3,Option.bind_some]
    simp only [List.take_zero,lval,vK,Int.one_mul,Int.zero_add,Int.mul_zero,Int.add_zero] at hv h4 ⊢
    rw [hv] at h2
    rw [hr] at h4
    exact ⟨q,s,rfl,h2,h4⟩
  | k+1,N+1,o,r,T,hN,hk,ho,hlo,hT,hr,hz,hv=>by
    show ∃ q s,jW F l d (iX F l d N) o r (((k+1:Nat):Int)-1)=_∧_
    rw [show (((k+1:Nat):Int)-1)=(k:Int) by omega]
    have hx:l[k]? = some l[k]:=List.getElem?_eq_getElem (by omega)
    have bx:=hl.at hx
    have h0:=hz k (by omega)
    have r0:=Int.emod_nonneg T (show d≠0 by omega)
    have r1:=Int.emod_lt_of_pos T hd.1
    have e32:((2:Int)^32)=4294967296:=by decide
    unfold jW
    have htk:=cZ hx
    generalize l[k]=x at *
    have hr0:0≤r∧r<d:=by omega
    have q1:(r*4294967296+x)/d<4294967296:=Int.ediv_lt_of_lt_mul hd.1 (by
      have:(r+1)*4294967296≤d*4294967296:=Int.mul_le_mul_of_nonneg_right (by omega) (by omega)
      omega)
    have q0:0≤(r*4294967296+x)/d:=Int.ediv_nonneg (by omega) (by omega)
    rw [if_pos (by omega),ixn hx,Option.bind_some,e32,bD (x:=r*4294967296) (by omega),bD (x:=x) (by omega),bD (x:=r*4294967296+x) (by omega),Option.bind_some,bD (x:=d) (by omega),if_pos (by omega),ixn h0,Option.bind_some,if_pos (by omega),Option.bind_some,Int.toNat_natCast,
      Int.tdiv_eq_ediv_of_nonneg (by omega),Int.tmod_eq_emod_of_nonneg (by omega),bD (by omega),mD ⟨q0,q1⟩,show IntKind.i64.wrap ((k:Int)-1)=(k:Int)-1 from bI (by omega)]
    have hTd:=Int.mul_ediv_add_emod T d
    have e1:r*4294967296+x=(4294967296*T+x)-d*(4294967296*(T/d)):=by
      rw [hr]
      generalize T/d=q at *
      generalize T % d=s at *
      grind
    have e2:(r*4294967296+x) % d=(4294967296*T+x) % d:=by rw [e1,Int.sub_mul_emod_self_left]
    have e3:(r*4294967296+x)/d=(4294967296*T+x)/d-4294967296*(T/d):=by rw [e1,Int.sub_mul_ediv_left _ _ (by omega)]
    have e4:lval (l.take k)+BP k*(4294967296*T+x)=lval (l.take (k+1))+BP (k+1)*T:=by
      rw [htk,eY]; generalize BP k=p; grind
    rw [← e4]
    refine aBt hl hn hd k N _ _ (4294967296*T+x) (by omega) (by omega) (by simpa using ho) (hlo.set _ ⟨q0,q1⟩) (by omega) e2 (fun j hj=>by
      rw [List.getElem?_set_ne (by omega)]; exact hz j (by omega)) (by
      rw [jB _ h0,hv,eY,e3]
      generalize BP k=p
      generalize T/d=q
      generalize (4294967296*T+x)/d=q'
      grind)
theorem aFU {l:List Int} (hl:Lim l) (hn:l.length≤5000) {d:Int} (hd:0<d∧d<4294967296):∃ q s,qf F l d=some (q,s)∧Is q (lval l/d)∧Is s (lval l % d):=by
  unfold qf
  rw [if_pos (by omega),show IntKind.i64.wrap ((l.length:Int)-1)=(l.length:Int)-1 from bI (by omega),Option.bind_some,Int.toNat_natCast]
  have:=aBt hF hl hn hd l.length F (List.replicate l.length 0) 0 0 (by omega) (Nat.le_refl _) (by simp) (Lim.zeros _) (Int.le_refl _) (by simp) (fun j hj=>by rw [List.getElem?_replicate,if_pos hj]) (by rw [nK]; simp)
  rw [List.take_length,Int.mul_zero,Int.add_zero] at this
  exact this
end
end Go.Proofs.YtbccfconmcgfgaaGreat

namespace Go.Proofs.YtbccfconmcgfgaaGreat
open Go Go.SL
theorem wE {T:Type} (p w s:List T):lsub (p++w++s) (p.length:Int) ((p.length+w.length:Nat):Int)=w:=by
  unfold lsub
  simp only [Int.toNat_natCast]
  rw [List.take_append_of_le_length (by simp),List.take_of_length_le (by simp),List.drop_append_of_le_length (by simp),List.drop_length,List.nil_append]
theorem set_mid {T:Type} (p w s:List T) (i:Nat) (y:T) (hi:i<w.length):(p++w++s).set (p.length+i) y=p++w.set i y++s:=by
  rw [List.append_assoc,List.set_append_right _ _ (by omega),show p.length+i-p.length=i by omega,List.set_append_left _ _ hi,List.append_assoc]
theorem za {T:Type} (p w s:List T):sbd (p.length:Int) ((p.length+w.length:Nat):Int) ((p++w++s).length:Int):=by
  unfold sbd; simp only [List.length_append]; omega
section
variable {F:Nat} (hF:4300000000≤F)
include hF
omit hF in
theorem aFu {p s w:List Int} {n i:Nat} (hn:w.length=n+1) (hi:i≤n) (hlw:Lim w) {b P:Int} (hb:b=0∨b=1) (hP:0≤P∧P<18446744073709551616) (hL:(p++w++s).length≤10000) {x:Int} (hx:w[i]? = some x) (rec:List Int→Int→Int→Int→Option (Int × List Int)) :
    jQ F (p.length:Int) ((p.length+(n+1):Nat):Int) (p++w++s) (i:Int) b rec P=rec (p++w.set i ((x-P % 4294967296-b) % 4294967296)++s) (if x<P % 4294967296+b then 1 else 0) (P/4294967296) ((i+1:Nat):Int):=by
  have bx:=hlw.at hx
  have hs:=za p w s
  have hm:=wE p w s
  rw [hn] at hs hm
  unfold jQ lY
  simp only [List.length_append] at hL
  rw [if_pos hs,hm,ixn hx,Option.bind_some,aGz hP,bI (x:=x) (by omega),bI (x:=P % 4294967296) (by omega),bI (x:=x-P % 4294967296) (by omega),bI (x:=x-P % 4294967296-b) (by omega),Option.bind_some,show Int.toNat ((p.length:Int)+(i:Int))=p.length+i by omega,yu,wS (by omega)]
  by_cases hc:x<P % 4294967296+b
  · rw [if_pos (by omega),if_pos hc,bI (by omega),Option.bind_some,mD (by omega),set_mid _ _ _ _ _ (by omega),show (x-P % 4294967296-b) % 4294967296=x-P % 4294967296-b+4294967296 by omega]
  · rw [if_neg (by omega),if_neg hc,mD (by omega),set_mid _ _ _ _ _ (by omega),show (x-P % 4294967296-b) % 4294967296=x-P % 4294967296-b by omega]
omit hF in
theorem aDv {v:List Int} (hv:Lim v) {n:Nat} (hn:v.length=n) {q:Int} (hq:0≤q∧q<4294967296) {p s W:List Int} (hL:p.length+(n+1)+s.length≤10000) :
    ∀ (m N i:Nat) (w:List Int) (c b:Int),i+m=n→m+2≤N→w.length=n+1→Lim w→0≤c∧c<4294967296→(b=0∨b=1)→lval w=lval W-q*lval (v.take i)+c*BP i+b*BP i →
    ∃ w' b',fC F v (p.length:Int) ((p.length+(n+1):Nat):Int) q N (p++w++s) b c (i:Int)=lX F v (p.length:Int) ((p.length+(n+1):Nat):Int) q (p++w'++s) b' 0∧w'.length=n+1∧Lim w'∧(b'=0∨b'=1)∧lval w'=lval W-q*lval v+b'*BP (n+1)
  | 0,N,i,w,c,b,hi,hN,hw,hlw,hc,hb,hval=>by
    obtain ⟨N,rfl⟩:∃ N',N=N'+2:=⟨N-2,by omega⟩
    obtain rfl:i=n:=by omega
    obtain ⟨x,hx⟩:∃ x,w[i]? = some x:=⟨_,List.getElem?_eq_getElem (by omega)⟩
    have bx:=hlw.at hx
    show ∃ w' b',fF F v (p.length:Int) _ q (fC F v (p.length:Int) _ q (N+1)) (p++w++s) b c (i:Int)=_∧_
    unfold fF
    rw [if_pos (by omega),if_neg (by omega),aFu hw (Nat.le_refl _) hlw hb (by omega) (by simp only [List.length_append]; omega) hx]
    show ∃ w' b',fF F v (p.length:Int) _ q (fC F v (p.length:Int) _ q N) (p++_++s) _ _ ((i+1:Nat):Int)=_∧_
    unfold fF
    rw [if_neg (by omega),show c/4294967296=0 by omega,show c % 4294967296=c by omega]
    refine ⟨_,_,rfl,by simpa using hw,hlw.set _ (by omega),by split <;> simp,?_⟩
    have htl:v.take i=v:=List.take_of_length_le (by omega)
    rw [jB _ hx,hval,eY,htl]
    have hsx:(x-c-b) % 4294967296=x-c-b+4294967296*(if x<c+b then 1 else 0):=by split <;> omega
    rw [hsx]
    generalize (if x<c+b then (1:Int) else 0)=z
    generalize BP i=r
    grind
  | m+1,N,i,w,c,b,hi,hN,hw,hlw,hc,hb,hval=>by
    obtain ⟨N,rfl⟩:∃ N',N=N'+1:=⟨N-1,by omega⟩
    have hx:w[i]? = some w[i]:=List.getElem?_eq_getElem (by omega)
    have hy:v[i]? = some v[i]:=List.getElem?_eq_getElem (by omega)
    have bx:=hlw.at hx
    have bY:=hv.at hy
    have hm:=aBk hq bY
    show ∃ w' b',fF F v (p.length:Int) _ q (fC F v (p.length:Int) _ q N) (p++w++s) b c (i:Int)=_∧_
    unfold fF
    rw [if_pos (by omega),if_pos (by omega),ixn hy,Option.bind_some,bD (x:=v[i]) (by omega),bD (x:=q*v[i]) (by omega),bD (x:=c+q*v[i]) (by omega),aFu hw (by omega) hlw hb (by omega) (by simp only [List.length_append]; omega) hx]
    refine aDv hv hn hq hL m N (i+1) _ _ _ (by omega) (by omega) (by simpa using hw) (hlw.set _ (by omega)) (by omega) (by split <;> simp) ?_
    rw [jB _ hx,hval,cZ hy,eY]
    clear hx hy hval
    generalize v[i]=y at *
    generalize w[i]=x at *
    have hmod:=Int.mul_ediv_add_emod (c+q*y) 4294967296
    have ht0:0≤(c+q*y) % 4294967296∧(c+q*y) % 4294967296<4294967296:=by omega
    generalize (c+q*y)/4294967296=d at *
    generalize (c+q*y) % 4294967296=t at *
    have hs:(x-t-b) % 4294967296=x-t-b+4294967296*(if x<t+b then 1 else 0):=by split <;> omega
    rw [hs]
    generalize (if x<t+b then (1:Int) else 0)=w
    generalize BP i=p
    have ht:t=c+q*y-4294967296*d:=by omega
    rw [ht]
    grind
omit hF in
theorem aDz {v:List Int} (hv:Lim v) {n:Nat} (hn:v.length=n) {p s W:List Int} (hL:p.length+(n+1)+s.length≤10000) {q b:Int} (rec:List Int→Int→Int→Int→Option (Int × List Int)) :
    ∀ (m N i:Nat) (w:List Int) (c:Int),i+m=n→m+2≤N→w.length=n+1→Lim w→(c=0∨c=1)→lval w+c*BP i=lval W+lval (v.take i) →
    ∃ w' c',fD F v (p.length:Int) ((p.length+(n+1):Nat):Int) rec q b N (p++w++s) c (i:Int)=rec (p++w'++s) (IntKind.u64.wrap (q-1)) (IntKind.i64.wrap (b-c')) c'∧w'.length=n+1∧Lim w'∧(c'=0∨c'=1)∧lval w'+c'*BP (n+1)=lval W+lval v
  | 0,N,i,w,c,hi,hN,hw,hlw,hc,hval=>by
    obtain ⟨N,rfl⟩:∃ N',N=N'+2:=⟨N-2,by omega⟩
    obtain rfl:i=n:=by omega
    have hx:w[i]? = some w[i]:=List.getElem?_eq_getElem (by omega)
    have bx:=hlw.at hx
    have hs:=za p w s
    have hm:=wE p w s
    rw [hw] at hs hm
    show ∃ w' c',fE F v (p.length:Int) _ rec q b (fD F v (p.length:Int) _ rec q b (N+1)) (p++w++s) c (i:Int)=_∧_
    unfold fE jS
    rw [if_pos (by omega),if_pos hs,hm,ixn hx,Option.bind_some,bD (x:=w[i]) (by omega),bD (x:=c+w[i]) (by omega),Option.bind_some,if_neg (by omega),show Int.toNat ((p.length:Int)+(i:Int))=p.length+i by omega,yu,wS (by omega),yN,set_mid _ _ _ _ _ (by omega)]
    show ∃ w' c',fE F v (p.length:Int) _ rec q b (fD F v (p.length:Int) _ rec q b N) (p++_++s) _ ((i+1:Nat):Int)=_∧_
    unfold fE oh
    rw [if_neg (by omega),bI (x:=(c+w[i])/4294967296) (by omega)]
    refine ⟨_,_,rfl,by simpa using hw,hlw.set _ (by omega),by omega,?_⟩
    rw [← hn,List.take_length,hn] at hval
    rw [jB _ hx,← hval,eY]
    have hmod:=Int.mul_ediv_add_emod (c+w[i]) 4294967296
    generalize (c+w[i])/4294967296=d at *
    generalize (c+w[i]) % 4294967296=t at *
    generalize BP i=r
    generalize w[i]=x at *
    have ht:t=c+x-4294967296*d:=by omega
    rw [ht]
    grind
  | m+1,N,i,w,c,hi,hN,hw,hlw,hc,hval=>by
    obtain ⟨N,rfl⟩:∃ N',N=N'+1:=⟨N-1,by omega⟩
    have hx:w[i]? = some w[i]:=List.getElem?_eq_getElem (by omega)
    have hy:v[i]? = some v[i]:=List.getElem?_eq_getElem (by omega)
    have bx:=hlw.at hx
    have bY:=hv.at hy
    have hs:=za p w s
    have hm:=wE p w s
    rw [hw] at hs hm
    show ∃ w' c',fE F v (p.length:Int) _ rec q b (fD F v (p.length:Int) _ rec q b N) (p++w++s) c (i:Int)=_∧_
    unfold fE jS
    rw [if_pos (by omega),if_pos hs,hm,ixn hx,Option.bind_some,bD (x:=w[i]) (by omega),bD (x:=c+w[i]) (by omega),Option.bind_some,if_pos (by omega),ixn hy,Option.bind_some,bD (x:=v[i]) (by omega),bD (x:=c+w[i]+v[i]) (by omega),show Int.toNat ((p.length:Int)+(i:Int))=p.length+i by omega,yu,wS (by omega),yN,set_mid _ _ _ _ _ (by omega)]
    refine aDz hv hn hL rec m N (i+1) _ _ (by omega) (by omega) (by simpa using hw) (hlw.set _ (by omega)) (by omega) ?_
    rw [jB _ hx,cZ hy,eY]
    clear hx hy
    generalize v[i]=y at *
    generalize w[i]=x at *
    have hmod:=Int.mul_ediv_add_emod (c+x+y) 4294967296
    generalize (c+x+y)/4294967296=d at *
    generalize (c+x+y) % 4294967296=t at *
    generalize BP i=r at *
    have ht:t=c+x+y-4294967296*d:=by omega
    rw [ht]
    grind
theorem aCs {v:List Int} (hv:Lim v) {n:Nat} (hn:v.length=n) {p s W:List Int} (hL:p.length+(n+1)+s.length≤10000) (hW:Lim W) (hv0:0<lval v) :
    ∀ (N:Nat) (q:Int) (w:List Int) (b z:Int),q-lval W/lval v<(N:Int)→lval W/lval v≤q→q<4294967296→w.length=n+1→Lim w→(b=0∨b=1)→lval w=lval W-q*lval v+b*BP (n+1) →
    ∃ w',gK F v (p.length:Int) ((p.length+(n+1):Nat):Int) N (p++w++s) q b z=some (lval W/lval v,p++w'++s)∧w'.length=n+1∧Lim w'∧lval w'=lval W % lval v
  | 0,q,w,b,z,h,h1,_,_,_,_,_=>by omega
  | N+1,q,w,b,z,hN,hQ,hq,hw,hlw,hb,hval=>by
    have hW0:=bF hW
    have hq0:0≤lval W/lval v:=Int.ediv_nonneg hW0 (by omega)
    have h1:=iY hlw
    have h2:=bF hlw
    rw [hw] at h1
    have hiff:q*lval v≤lval W↔q≤lval W/lval v:=(Int.le_ediv_iff_mul_le hv0).symm
    show ∃ w',lF F v (p.length:Int) _ (gK F v (p.length:Int) _ N) (p++w++s) q b z=_∧_
    unfold lF oJ
    rcases hb with rfl | rfl
    · rw [if_neg (by omega),mD (by omega)]
      have hqQ:q=lval W/lval v:=by have:=hiff.1 (by omega); omega
      refine ⟨w,by rw [hqQ],hw,hlw,?_⟩
      rw [hval,hqQ,Int.emod_def,Int.mul_comm]; omega
    · rw [if_pos (by omega)]
      have hqQ:¬ q≤lval W/lval v:=fun h=>by have:=hiff.2 h; omega
      obtain ⟨w',c',g1,g2,g3,g4,g5⟩:=aDz (F:=F) hv hn (p:=p) (s:=s) (W:=w) hL (q:=q) (b:=1) (gK F v (p.length:Int) ((p.length+(n+1):Nat):Int) N) n F 0 w 0 (by omega) (by omega) hw hlw (.inl rfl) (by simp [lval])
      rw [show ((0:Nat):Int)=0 from rfl] at g1
      rw [g1,bD (by omega),bI (by omega)]
      refine aCs hv hn hL hW hv0 N (q-1) w' (1-c') c' (by omega) (by omega) (by omega) g2 g3 (by omega) ?_
      rw [hval] at g5
      rw [Int.sub_mul,Int.sub_mul]
      omega
theorem aDn {v:List Int} (hv:Lim v) {n:Nat} (hn:v.length=n) {p s W:List Int} (hL:p.length+(n+1)+s.length≤10000) (hW:Lim W) (hWl:W.length=n+1) (hv0:0<lval v) {q:Int} (hQ:lval W/lval v≤q) (hq:q<4294967296) :
    ∃ w',jG F v (p.length:Int) ((p.length+(n+1):Nat):Int) (p++W++s) q=some (lval W/lval v,p++w'++s)∧w'.length=n+1∧Lim w'∧lval w'=lval W % lval v:=by
  have hq0:0≤lval W/lval v:=Int.ediv_nonneg (bF hW) (by omega)
  unfold jG
  obtain ⟨w',b',g1,g2,g3,g4,g5⟩:=aDv (F:=F) hv hn (q:=q) (by omega) (p:=p) (s:=s) (W:=W) hL n F 0 W 0 0 (by omega) (by omega) hWl hW (by omega) (.inl rfl) (by simp [lval])
  rw [show ((0:Nat):Int)=0 from rfl] at g1
  rw [g1]
  unfold lX
  exact aCs hF hv hn hL hW hv0 F q w' b' 0 (by omega) hQ hq g2 g3 g4 g5
theorem aB2 {v:List Int} (hv:Lim v) {k:Nat} (hn:v.length=k+2) {p s W:List Int} (hL:p.length+(k+2+1)+s.length≤10000) (hW:Lim W) (hWl:W.length=k+2+1) (hv0:0<lval v) (hlt:lval W<4294967296*lval v)
    {v2 top w2 X:Int} (hv2:v[k]? = some v2) (hw2:W[k]? = some w2) (btop:0<top∧top<4294967296) (hX:X<18446744073709551616)
    (hV:BP k*(v2+4294967296*top)≤lval v) (hWW:lval W<BP k*(w2+4294967296*X+1)) :
    ∀ (N:Nat) (q r:Int),q-lval W/lval v<(N:Int)→lval W/lval v≤q→0≤r→q*top+r=X →
    ∃ w',eD F top v (p.length:Int) ((p.length+(k+2+1):Nat):Int) (p++W++s) N q r=some (lval W/lval v,p++w'++s)∧w'.length=k+2+1∧Lim w'∧lval w'=lval W % lval v
  | 0,q,r,h,h1,_,_=>by omega
  | N+1,q,r,hN,hQ,hr,hqr=>by
    have hW0:=bF hW
    have hq0:0≤lval W/lval v:=Int.ediv_nonneg hW0 (by omega)
    have hqB:lval W/lval v<4294967296:=Int.ediv_lt_of_lt_mul hv0 hlt
    have b2:=hv.at hv2
    have bw:=hW.at hw2
    have hqt:0≤q*top:=Int.mul_nonneg (by omega) (by omega)
    have hm:=wE p W s
    rw [hWl] at hm
    have true_:lval W/lval v<q→∃ w',eG F r top q v (p.length:Int) ((p.length+(k+2+1):Nat):Int) (p++W++s) (eD F top v (p.length:Int) ((p.length+(k+2+1):Nat):Int) (p++W++s) N) true=some (lval W/lval v,p++w'++s)∧w'.length=k+2+1∧Lim w'∧lval w'=lval W % lval v:=fun hlt'=>by
      unfold eG
      have h1:1*top≤q*top:=Int.mul_le_mul_of_nonneg_right (by omega) (by omega)
      have h2:q≤q*top:=by
        have:q*1≤q*top:=Int.mul_le_mul_of_nonneg_left (by omega) (by omega)
        omega
      rw [if_pos rfl,bD (x:=top) (by omega),bD (x:=r+top) (by omega),Option.bind_some,bD (x:=q-1) (by omega)]
      split
      · rename_i hc
        simp only [Bool.and_eq_true,decide_eq_true_eq] at hc
        exact aDn hF hv hn hL hW hWl hv0 (by omega) hc.2
      · exact aB2 hv hn hL hW hWl hv0 hlt hv2 hw2 btop hX hV hWW N (q-1) (r+top) (by omega) (by omega) (by omega) (by rw [Int.sub_mul]; omega)
    have false_:q<4294967296→∃ w',eG F r top q v (p.length:Int) ((p.length+(k+2+1):Nat):Int) (p++W++s) (eD F top v (p.length:Int) ((p.length+(k+2+1):Nat):Int) (p++W++s) N) false=some (lval W/lval v,p++w'++s)∧w'.length=k+2+1∧Lim w'∧lval w'=lval W % lval v:=fun hq=>by
      unfold eG
      rw [if_neg (by decide)]
      exact aDn hF hv hn hL hW hWl hv0 hQ hq
    show ∃ w',kQ F top v (p.length:Int) _ (p++W++s) (eD F top v (p.length:Int) _ (p++W++s) N) q r=_∧_
    unfold kQ
    have ek:IntKind.i64.wrap ((v.length:Int)-2)=(k:Int):=by rw [bI (by omega)]; omega
    by_cases h1:q≥4294967296
    · rw [if_pos h1]; exact true_ (by omega)
    · rw [if_neg h1]
      by_cases h2:r<4294967296
      · rw [if_pos h2,ek,hm,ixn hv2,Option.bind_some,ixn hw2,Option.bind_some]
        have hm2:=aBk (a:=q) (b:=v2) (by omega) b2
        rw [bD (x:=v2) (by omega),bD (x:=q*v2) (by omega),show ((2:Int)^32)=4294967296 by decide,bD (x:=r*4294967296) (by omega),bD (x:=w2) (by omega),bD (x:=r*4294967296+w2) (by omega)]
        by_cases h3:q*v2>r*4294967296+w2
        · rw [decide_eq_true h3]
          refine true_ ?_
          rcases Int.lt_or_le (lval W/lval v) q with h4 | h4
          · exact h4
          · exfalso
            have h5:q*lval v≤lval W:=(Int.le_ediv_iff_mul_le hv0).1 h4
            have h6:q*(BP k*(v2+4294967296*top))≤q*lval v:=Int.mul_le_mul_of_nonneg_left hV (by omega)
            have h7:BP k*(q*v2+4294967296*(q*top))<BP k*(w2+4294967296*X+1):=by
              have:q*(BP k*(v2+4294967296*top))=BP k*(q*v2+4294967296*(q*top)):=by generalize BP k=e; grind
              omega
            have h8:=Int.lt_of_mul_lt_mul_left h7 (by have:=kX k; omega)
            omega
        · rw [decide_eq_false h3]; exact false_ (by omega)
      · rw [if_neg h2]; exact false_ (by omega)
theorem aFV {v:List Int} (hv:Lim v) {k:Nat} (hn:v.length=k+2) {p s W:List Int} (hL:p.length+(k+2+1)+s.length≤10000) (hW:Lim W) (hWl:W.length=k+2+1) (hlt:lval W<4294967296*lval v) {top:Int} (htop:v[k+1]? = some top) (btop:2147483648≤top) :
    ∃ w',o6 F (p++W++s) (p.length:Int) ((p.length+(k+2+1):Nat):Int) v=some (lval W/lval v,p++w'++s)∧w'.length=k+2+1∧Lim w'∧lval w'=lval W % lval v:=by
  have bt:=hv.at htop
  have hv2:v[k]? = some v[k]:=List.getElem?_eq_getElem (by omega)
  have b2:=hv.at hv2
  obtain ⟨w2,e0⟩:∃ x,W[k]? = some x:=⟨_,List.getElem?_eq_getElem (by omega)⟩
  obtain ⟨w1,e1⟩:∃ x,W[k+1]? = some x:=⟨_,List.getElem?_eq_getElem (by omega)⟩
  obtain ⟨w0,e2⟩:∃ x,W[k+2]? = some x:=⟨_,List.getElem?_eq_getElem (by omega)⟩
  have c0:=hW.at e0; have c1:=hW.at e1; have c2:=hW.at e2
  have hs:=za p W s
  have hm:=wE p W s
  rw [hWl] at hs hm
  have g1:=cZ hv2
  have g2:=cZ htop
  rw [show k+1+1=v.length by omega,List.take_length,g1,eY] at g2
  have g3:=bF (hv.take k)
  have g4:=iY (hv.take k)
  have f1:=cZ e0
  have f2:=cZ e1
  have f3:=cZ e2
  have htl:W.take (k+2+1)=W:=List.take_of_length_le (by omega)
  rw [htl,show k+2=k+1+1 from rfl,f2,f1] at f3
  simp only [eY] at f3
  have f4:=bF (hW.take k)
  have f5:=iY (hW.take k)
  rw [List.length_take,Nat.min_eq_left (by omega)] at g4 f5
  have hP:=kX k
  unfold o6
  rw [if_pos hs,hm,hn,ixn e2,Option.bind_some,show IntKind.i64.wrap (((k+2:Nat):Int)-1)=((k+1:Nat):Int) by rw [bI (by omega)]; omega,ixn e1,Option.bind_some,show ((2:Int)^32)=4294967296 by decide]
  clear f1 f2 g1
  rw [bD (x:=w0) (by omega),bD (x:=w0*4294967296) (by omega),bD (x:=w1) (by omega),bD (x:=w0*4294967296+w1) (by omega),Option.bind_some,ixn htop,Option.bind_some,bD (x:=top) (by omega),if_pos (by omega),if_pos (by omega),Option.bind_some,Int.tdiv_eq_ediv_of_nonneg (by omega),Int.tmod_eq_emod_of_nonneg (by omega)]
  have hX:0≤w0*4294967296+w1∧w0*4294967296+w1<18446744073709551616:=by omega
  have hWX:lval W=lval (W.take k)+BP k*(w2+4294967296*(w0*4294967296+w1)):=by rw [f3]; generalize BP k=e; grind
  have hVX:lval v=lval (v.take k)+BP k*(v[k]+4294967296*top):=by rw [g2]; generalize BP k=e; grind
  clear f3 g2 e1 e2 c1 c2
  generalize w0*4294967296+w1=X at *
  have hdm:=Int.mul_ediv_add_emod X top
  have hr0:=Int.emod_nonneg X (show top≠0 by omega)
  have hr1:=Int.emod_lt_of_pos X (show 0<top by omega)
  have hd0:0≤X/top:=Int.ediv_nonneg (by omega) (by omega)
  have hdle:X/top≤X:=Int.ediv_le_self _ (by omega)
  rw [bD (x:=X/top) (by omega),Option.bind_some]
  have hVt:BP k*1≤BP k*(v[k]+4294967296*top):=Int.mul_le_mul_of_nonneg_left (by omega) (by omega)
  have hv0:0<lval v:=by omega
  have hW0:=bF hW
  have hq0:0≤lval W/lval v:=Int.ediv_nonneg hW0 (by omega)
  have hXB:w2+4294967296*X<4294967296*(v[k]+4294967296*top+1):=by
    refine Int.lt_of_mul_lt_mul_left (a:=BP k) ?_ (by omega)
    have:BP k*(4294967296*(v[k]+4294967296*top+1))=4294967296*(BP k*(v[k]+4294967296*top)+BP k):=by generalize BP k=e; generalize v[k]=z; grind
    omega
  have hup:X/top<4294967296+3:=Int.ediv_lt_of_lt_mul (by omega) (by omega)
  have hge:lval W/lval v≤X/top:=by
    refine (Int.le_ediv_iff_mul_le (by omega)).2 ?_
    have h5:lval W/lval v*lval v≤lval W:=Int.ediv_mul_le _ (by omega)
    have h6:lval W/lval v*(BP k*(4294967296*top))≤lval W/lval v*lval v:=Int.mul_le_mul_of_nonneg_left (by
      rw [hVX,Int.mul_add]
      have:0≤BP k*v[k]:=Int.mul_nonneg (by omega) b2.1
      omega) hq0
    have h7:BP k*(4294967296*(lval W/lval v*top))<BP k*(w2+4294967296*X+1):=by
      have e:BP k*(4294967296*(lval W/lval v*top))=lval W/lval v*(BP k*(4294967296*top)):=by generalize BP k=e; generalize lval W/lval v=d; grind
      rw [e,Int.mul_add (BP k) _ 1]
      omega
    have h8:=Int.lt_of_mul_lt_mul_left h7 (by omega)
    omega
  refine aB2 hF hv hn hL hW hWl hv0 hlt hv2 e0 (by omega) hX.2 (by omega) (by rw [hWX,Int.mul_add (BP k) _ 1]; omega) F _ _ (by omega) hge hr0 (by rw [Int.mul_comm]; exact hdm)
end
end Go.Proofs.YtbccfconmcgfgaaGreat
