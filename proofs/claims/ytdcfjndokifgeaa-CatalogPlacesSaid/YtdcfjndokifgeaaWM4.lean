/- What the models of the package wide give: division, greatest common divisors. -/
import Derived.Test.YtdcfjndokifgeaaWM3
set_option linter.unusedVariables false
set_option linter.unusedSimpArgs false
namespace Go.Proofs.Ytdcfjndokifgeaa
open Go Go.SL
section
variable {F:Nat} (hF:4300000000≤F)
include hF
omit hF in
theorem sub_l {v u0:List Int} (hv:Lim v) (hn:v.length≤5000) (hu0:u0.length=v.length+1) {q:Int} (hq:0≤q∧q<4294967296):∀ (m N i:Nat) (u:List Int) (c b:Int),i+m=v.length→m<N→u.length=u0.length→Lim u→0≤c∧c<4294967296→(b=0∨b=1)→lval u=lval u0-q*lval (v.take i)+c*BP i+b*BP i →
    ∃ r b',m_wide_subtract_o_l2 F v q N u c b (i:Int)=some (decide (b'=(0:Int)),r)∧(b'=0∨b'=1)∧r.length=u0.length∧Lim r∧lval r=lval u0-q*lval v+b'*BP u0.length
  | _,0,_,_,_,_,_,h,_,_,_,_,_=>by omega
  | 0,N+1,i,u,c,b,hi,_,hu,hlu,hc,hb,hval=>by
    have e1:m_wide_subtract_o_l2 F v q (N+1) u c b (i:Int)=m_wide_subtract_o_b2 F v q (m_wide_subtract_o_l2 F v q N) u c b (i:Int):=rfl
    rw [e1]
    unfold m_wide_subtract_o_b2 m_wide_subtract_o_j1
    have hx:u[v.length]? = some u[v.length]:=List.getElem?_eq_getElem (by omega)
    have bx:=hlu.at hx
    obtain rfl:i=v.length:=by omega
    rw [if_neg (by omega),ixn hx,Option.bind_some,u32_id hc,m_sub32 F bx hc hb,Option.bind_some,Int.toNat_natCast]
    refine ⟨_,_,rfl,by split <;> simp,by simpa using hu,hlu.set _ (by omega),?_⟩
    rw [lval_set _ hx,hval,hu0,BP_succ,List.take_length]
    have hs:(u[v.length]-c-b) % 4294967296=u[v.length]-c-b+4294967296*(if u[v.length]<c+b then 1 else 0):=by split <;> omega
    simp only
    rw [hs]
    generalize (if u[v.length]<c+b then (1:Int) else 0)=w
    generalize BP v.length=p
    generalize u[v.length]=x
    grind
  | m+1,N+1,i,u,c,b,hi,hN,hu,hlu,hc,hb,hval=>by
    have e1:m_wide_subtract_o_l2 F v q (N+1) u c b (i:Int)=m_wide_subtract_o_b2 F v q (m_wide_subtract_o_l2 F v q N) u c b (i:Int):=rfl
    rw [e1]
    unfold m_wide_subtract_o_b2
    have hy:v[i]? = some v[i]:=List.getElem?_eq_getElem (by omega)
    have hx:u[i]? = some u[i]:=List.getElem?_eq_getElem (by omega)
    have bx:=hlu.at hx; have bY:=hv.at hy
    have hm:=mul32 hq bY
    rw [if_pos (by omega),ixn hy,Option.bind_some,u64_id (x:=q) (by omega),u64_id (x:=v[i]) (by omega),u64_id (x:=q*v[i]) (by omega),u64_id (x:=c+q*v[i]) (by omega),Option.bind_some,ixn hx,Option.bind_some,u32w,m_sub32 F bx (by omega) hb,Option.bind_some,Int.toNat_natCast,fd32,wS (by omega)]
    refine sub_l hv hn hu0 hq m N (i+1) _ _ _ (by omega) (by omega) (by simpa using hu) (hlu.set _ (by omega)) (by omega) (by simp only; split <;> simp) ?_
    rw [lval_set _ hx,hval,lval_take hy,BP_succ]
    simp only
    clear hx hy e1 hval
    generalize v[i]=y at *
    generalize u[i]=x at *
    have hmod:=Int.mul_ediv_add_emod (c+q*y) 4294967296
    have ht0:0≤(c+q*y) % 4294967296∧(c+q*y) % 4294967296<4294967296:=by omega
    generalize (c+q*y)/4294967296=d at *
    generalize (c+q*y) % 4294967296=t at *
    have hs:(x-t-b) % 4294967296=x-t-b+4294967296*(if x<t+b then 1 else 0):=by split <;> omega
    rw [hs]
    generalize (if x<t+b then (1:Int) else 0)=w
    generalize BP i=p
    have ht:t=c+q*y-4294967296*d:=by omega
    rw [ht]
    grind
theorem w_subtract {u v:List Int} (hu:Lim u) (hv:Lim v) (hn:v.length≤5000) (hlen:u.length=v.length+1) {q:Int} (hq:0≤q∧q<4294967296):∃ r,m_wide_subtract_o F u v q=some (decide (q*lval v≤lval u),r)∧r.length=u.length∧Lim r∧(q*lval v≤lval u→lval r=lval u-q*lval v):=by
  unfold m_wide_subtract_o
  obtain ⟨r,b',h1,h2,h3,h4,h5⟩:=sub_l (F:=F) hv hn hlen hq v.length F 0 u 0 0 (by omega) (by omega) rfl hu (by omega) (.inl rfl) (by simp [lval])
  have h6:=lval_lt h4
  have h7:=lval_nonneg h4
  rw [h3] at h6
  have hiff:b'=0↔q*lval v≤lval u:=by
    rcases h2 with rfl | rfl
    · constructor
      · intro _; omega
      · intro _; rfl
    · constructor
      · intro h; omega
      · intro h; omega
  rw [show ((0:Nat):Int)=0 from rfl] at h1
  rw [h1]
  refine ⟨r,by simp only [hiff],h3,h4,fun h=>?_⟩
  have:=hiff.2 h
  rw [this] at h5
  omega
theorem step_l {u v:List Int} (hu:Lim u) (hv:Lim v) (hn:v.length≤4500) (hul:u.length≤5000) {j:Nat} (hj:j+v.length+1≤u.length) (hv0:0<lval v) {W:List Int} (hW:W=lsub u (j:Int) ((j+v.length+1:Nat):Int)) :
    ∀ (N:Nat) (g:Int),g<4294967296→lval W/lval v≤g→g-lval W/lval v<(N:Int)→∃ r,m_wide_step_w_l1 F (j:Int) ((j+v.length+1:Nat):Int) u v N g=some (lval W/lval v,u.take j++r++u.drop (j+v.length+1))∧r.length=v.length+1∧Lim r∧lval r=lval W % lval v
  | 0,g,_,h1,h2=>by omega
  | N+1,g,hg,h1,h2=>by
    have e1:m_wide_step_w_l1 F (j:Int) ((j+v.length+1:Nat):Int) u v (N+1) g=m_wide_step_w_b1 F (j:Int) ((j+v.length+1:Nat):Int) u v (m_wide_step_w_l1 F (j:Int) ((j+v.length+1:Nat):Int) u v N) g:=rfl
    rw [e1]
    unfold m_wide_step_w_b1
    have hs:sbd (j:Int) ((j+v.length+1:Nat):Int) (u.length:Int):=⟨by omega,by omega,by omega⟩
    have hWl:W.length=v.length+1:=by rw [hW,lsub_len hs]; omega
    have hWL:Lim W:=by rw [hW]; unfold lsub; exact (hu.take _).drop _
    have hW0:=lval_nonneg hWL
    have hq0:0≤lval W/lval v:=Int.ediv_nonneg hW0 (by omega)
    rw [if_pos hs,← hW,w_clone (by omega),Option.bind_some]
    obtain ⟨r,h3,h4,h5,h6⟩:=w_subtract hF hWL hv (by omega) hWl (q:=g) (by omega)
    rw [h3,Option.bind_some]
    have hiff:g*lval v≤lval W↔g≤lval W/lval v:=(Int.le_ediv_iff_mul_le hv0).symm
    by_cases hc:g*lval v≤lval W
    · rw [if_pos (by simpa using hc)]
      have hgq:g=lval W/lval v:=by have:=hiff.1 hc; omega
      refine ⟨r,?_,by omega,h5,?_⟩
      · rw [← hgq]
        congr 2
        unfold lcopy
        simp only [Int.toNat_natCast]
        have ek:min r.length (j+v.length+1-j)=v.length+1:=by omega
        have er:r.take (v.length+1)=r:=List.take_of_length_le (by omega)
        rw [ek,er,show j+(v.length+1)=j+v.length+1 by omega]
      · rw [h6 hc,Int.emod_def,hgq,Int.mul_comm]
    · rw [if_neg (by simpa using hc)]
      have hgq:¬ g≤lval W/lval v:=fun h=>hc (hiff.2 h)
      rw [u32_id (by omega)]
      exact step_l hu hv hn hul hj hv0 hW N (g-1) (by omega) (by omega) (by omega)
theorem w_step {u v:List Int} (hu:Lim u) (hv:Lim v) (hn:v.length≤4500) (hul:u.length≤5000) {j:Nat} (hj:j+v.length+1≤u.length) {n:Nat} {t:Int} (hvn:v.length=n+1) (ht:v[n]? = some t) (ht0:t≠0) {W:List Int} (hW:W=lsub u (j:Int) ((j+v.length+1:Nat):Int)) (hlt:lval W<4294967296*lval v) :
    ∃ r,m_wide_step_w F u (j:Int) ((j+v.length+1:Nat):Int) v=some (lval W/lval v,u.take j++r++u.drop (j+v.length+1))∧r.length=v.length+1∧Lim r∧lval r=lval W % lval v:=by
  have bt:=hv.at ht
  have hs:sbd (j:Int) ((j+v.length+1:Nat):Int) (u.length:Int):=⟨by omega,by omega,by omega⟩
  have hWl:W.length=v.length+1:=by rw [hW,lsub_len hs]; omega
  have hWL:Lim W:=by rw [hW]; unfold lsub; exact (hu.take _).drop _
  have hvv:lval v=lval (v.take n)+BP n*t:=by
    have:=lval_take ht
    rw [← hvn,List.take_length] at this
    exact this
  have hP:=BP_pos n
  have hvt:=lval_nonneg (hv.take n)
  have hPt:BP n*1≤BP n*t:=Int.mul_le_mul_of_nonneg_left (by omega) (by omega)
  have hv0:0<lval v:=by omega
  have hW0:=lval_nonneg hWL
  have hq0:0≤lval W/lval v:=Int.ediv_nonneg hW0 (by omega)
  have hqB:lval W/lval v<4294967296:=Int.ediv_lt_of_lt_mul hv0 hlt
  have ha:W[n]? = some W[n]:=List.getElem?_eq_getElem (by omega)
  have hb:W[n+1]? = some W[n+1]:=List.getElem?_eq_getElem (by omega)
  have ba:=hWL.at ha; have bb:=hWL.at hb
  have hWv:lval W=lval (W.take n)+BP n*(W[n]+4294967296*W[n+1]):=by
    have h1:=lval_take ha
    have h2:=lval_take hb
    rw [show n+1+1=W.length by omega,List.take_length] at h2
    rw [h2,h1,BP_succ]
    generalize BP n=p; grind
  unfold m_wide_step_w m_wide_step_w_j2
  rw [if_pos hs,← hW,hvn,ixn hb,Option.bind_some,show IntKind.i64.wrap (((n+1:Nat):Int)-1)=(n:Int) by rw [i64_of (by omega)]; omega,ixn ht,Option.bind_some]
  rw [hvn] at hW hj
  have goal:∀ g:Int,g<4294967296→lval W/lval v≤g→∃ r,m_wide_step_w_l1 F (j:Int) ((j+(n+1)+1:Nat):Int) u v F g=some (lval W/lval v,u.take j++r++u.drop (j+(n+1)+1))∧r.length=n+1+1∧Lim r∧lval r=lval W % lval v:=fun g h1 h2=>by
    have:=step_l hF hu hv hn hul (by rw [hvn]; exact hj) hv0 (by rw [hvn]; exact hW) F g h1 h2 (by omega)
    rw [hvn] at this
    exact this
  by_cases hc:W[n+1]<t
  · rw [if_pos hc,ixn ha,Option.bind_some,m_div32 F ba (by omega) (by omega),Option.bind_some]
    have hqv:lval W/lval v*lval v≤lval W:=Int.ediv_mul_le _ (by omega)
    have hWt:=lval_lt (hWL.take n)
    rw [List.length_take,Nat.min_eq_left (by omega)] at hWt
    have hq1:lval W/lval v*t<W[n+1]*4294967296+W[n]+1:=by
      refine Int.lt_of_mul_lt_mul_left (a:=BP n) ?_ (by omega)
      have h5:lval W/lval v*(BP n*t)≤lval W/lval v*lval v:=Int.mul_le_mul_of_nonneg_left (by omega) hq0
      have h6:BP n*(lval W/lval v*t)=lval W/lval v*(BP n*t):=by generalize BP n=p; grind
      rw [h6]
      have h7:BP n*(W[n+1]*4294967296+W[n]+1)=BP n*(W[n]+4294967296*W[n+1])+BP n:=by generalize BP n=p; generalize W[n]=x; generalize W[n+1]=y; grind
      rw [h7]
      omega
    exact goal _ (Int.ediv_lt_of_lt_mul (by omega) (by
      have:(W[n+1]+1)*4294967296≤t*4294967296:=Int.mul_le_mul_of_nonneg_right (by omega) (by omega)
      omega)) ((Int.le_ediv_iff_mul_le (by omega)).2 (by omega))
  · rw [if_neg hc]
    exact goal _ (by omega) (by omega)
theorem div_l {b v:List Int} {s:Nat} (hs:s≤31) (hv:Lim v) (hvb:v.length=b.length) (hn:b.length≤4000) {n:Nat} {t:Int} (hvn:v.length=n+1) (ht:v[n]? = some t) (ht0:t≠0) {x19:List Int} (hx19:x19.take b.length=v) {U:Int} {L:Nat} (hL:L+b.length≤4900) :
    ∀ (k N:Nat) (q u:List Int),k<N→k≤L→q.length=L→u.length=L+b.length→Lim q→Lim u→(∀ i,i<k→q[i]? = some 0)→lval (u.drop k)<lval v→lval u+lval q*lval v=U →
      ∃ q' r',m_wide_divide_l2 F b x19 (s:Int) N q u ((k:Int)-1)=some (q',r')∧Is q' (U/lval v)∧Is r' ((U % lval v)/2^s)
  | _,0,_,_,h,_,_,_,_,_,_,_,_=>by omega
  | 0,N+1,q,u,_,_,hq,hu,hlq,hlu,_,hlt,hval=>by
    have e1:m_wide_divide_l2 F b x19 (s:Int) (N+1) q u (((0:Nat):Int)-1)=m_wide_divide_b2 F b x19 (s:Int) (m_wide_divide_l2 F b x19 (s:Int) N) q u (((0:Nat):Int)-1):=rfl
    rw [e1]
    unfold m_wide_divide_b2 m_wide_divide_j1
    rw [List.drop_zero] at hlt
    have hu0:=lval_nonneg hlu
    have hmod:U % lval v=lval u:=by rw [← hval,Int.add_mul_emod_self_right,Int.emod_eq_of_lt hu0 hlt]
    have hdiv:U/lval v=lval q:=by rw [← hval,Int.add_mul_ediv_right _ _ (by omega),Int.ediv_eq_zero_of_lt hu0 hlt]; omega
    obtain ⟨r1,h1,h2⟩:=w_trim hF hlu (by omega)
    have hr1:r1.length≤4900:=Nat.le_trans (h2.len (lval_lt hlu)) (by omega)
    obtain ⟨r2,bb,h3,h4,h5,h6⟩:=w_right hF h2.lim (by omega) s hs
    obtain ⟨q',h7,h8⟩:=w_trim hF hlq (by omega)
    obtain ⟨r3,h9,h10⟩:=w_trim hF h5 (by omega)
    rw [if_neg (by omega),h1,Option.bind_some,h3,Option.bind_some,h7,Option.bind_some,h9,Option.bind_some]
    rw [hmod,hdiv]
    rw [h6,h2.val] at h10
    exact ⟨q',r3,rfl,h8,h10⟩
  | k+1,N+1,q,u,hN,hk,hq,hu,hlq,hlu,hz,hlt,hval=>by
    have e0:(((k+1:Nat):Int)-1)=(k:Int):=by omega
    have e1:m_wide_divide_l2 F b x19 (s:Int) (N+1) q u (((k+1:Nat):Int)-1)=m_wide_divide_b2 F b x19 (s:Int) (m_wide_divide_l2 F b x19 (s:Int) N) q u (((k+1:Nat):Int)-1):=rfl
    rw [e1,e0]
    unfold m_wide_divide_b2
    have hx:u[k]? = some u[k]:=List.getElem?_eq_getElem (by omega)
    have bx:=hlu.at hx
    have hq0:=hz k (by omega)
    have ew:IntKind.i64.wrap (IntKind.i64.wrap ((k:Int)+(b.length:Int))+1)=((k+v.length+1:Nat):Int):=by rw [i64_of (x:=(k:Int)+(b.length:Int)) (by omega),i64_of (by omega)]; omega
    have hsb:sbd (k:Int) ((k+v.length+1:Nat):Int) (u.length:Int):=⟨by omega,by omega,by omega⟩
    have hWl:=lsub_len hsb
    have hWeq:lsub u (k:Int) ((k+v.length+1:Nat):Int)=(u.drop k).take (v.length+1):=by
      unfold lsub
      simp only [Int.toNat_natCast]
      rw [List.drop_take,show k+v.length+1-k=v.length+1 by omega]
    have hv0:0<lval v:=by
      have:=lval_nonneg (hlu.drop (k+1)); omega
    have hdk:lval (u.drop k)=u[k]+4294967296*lval (u.drop (k+1)):=by
      rw [List.drop_eq_getElem_cons (show k<u.length by omega)]; rfl
    have hhigh:lval (u.drop (k+1+v.length))=0:=by
      have h1:=lval_split (u.drop (k+1)) v.length (by simp; omega)
      rw [List.drop_drop] at h1
      have h2:=lval_lt hv
      have h3:=lval_nonneg ((hlu.drop (k+1)).take v.length)
      have h4:=lval_nonneg (hlu.drop (k+1+v.length))
      rcases Int.lt_or_le 0 (lval (u.drop (k+1+v.length))) with h5 | h5
      · have h6:BP v.length*1≤BP v.length*lval (u.drop (k+1+v.length)):=Int.mul_le_mul_of_nonneg_left (by omega) (by have:=BP_pos v.length; omega)
        omega
      · omega
    have hWv:lval (lsub u (k:Int) ((k+v.length+1:Nat):Int))=lval (u.drop k):=by
      rw [hWeq]
      have h1:=lval_split (u.drop k) (v.length+1) (by simp; omega)
      rw [List.drop_drop,show k+(v.length+1)=k+1+v.length by omega,hhigh,Int.mul_zero,Int.add_zero] at h1
      exact h1.symm
    have hlt2:lval (lsub u (k:Int) ((k+v.length+1:Nat):Int))<4294967296*lval v:=by rw [hWv,hdk]; omega
    obtain ⟨r,h1,h2,h3,h4⟩:=w_step hF hlu hv (by omega) (by omega) (j:=k) (by omega) hvn ht ht0 rfl hlt2
    have htk:lsub x19 0 (b.length:Int)=v:=by rw [lsub0,hx19]
    rw [if_pos (by omega),ew,if_pos hsb,htk,h1,Option.bind_some,ixn hq0,Option.bind_some,Int.toNat_natCast]
    rw [hWv] at h4
    have hqq0:0≤lval (u.drop k)/lval v:=Int.ediv_nonneg (lval_nonneg (hlu.drop k)) (by omega)
    have hqq1:lval (u.drop k)/lval v<4294967296:=Int.ediv_lt_of_lt_mul hv0 (by rw [hWv] at hlt2; exact hlt2)
    have hwk:IntKind.i64.wrap ((k:Int)-1)=(k:Int)-1:=i64_of (by omega)
    rw [hwk]
    have hul:(u.take k++r++u.drop (k+v.length+1)).length=u.length:=by simp; omega
    have hud:(u.take k++r++u.drop (k+v.length+1)).drop k=r++u.drop (k+v.length+1):=by
      rw [List.append_assoc,List.drop_append_of_le_length (by simp; omega),List.drop_of_length_le (by simp; omega),List.nil_append]
    have hh2:lval (u.drop (k+v.length+1))=0:=by rw [show k+v.length+1=k+1+v.length by omega]; exact hhigh
    have hrv:lval (r++u.drop (k+v.length+1))=lval (u.drop k) % lval v:=by rw [lval_app,hh2,h4]; omega
    rw [hWv]
    refine div_l hs hv hvb hn hvn ht ht0 hx19 hL k N _ _ (by omega) (by omega) (by simpa using hq) (by rw [hul]; exact hu) (hlq.set _ ⟨hqq0,hqq1⟩) (((hlu.take k).app h3).app (hlu.drop _)) (fun i hi=>by rw [List.getElem?_set_ne (by omega)]; exact hz i (by omega)) ?_ ?_
    · rw [hud,hrv]
      exact Int.emod_lt_of_pos _ hv0
    · rw [lval_set _ hq0,← hval,List.append_assoc,lval_app,hrv,List.length_take,Nat.min_eq_left (by omega),lval_split u k (by omega)]
      have hdm:=Int.mul_ediv_add_emod (lval (u.drop k)) (lval v)
      generalize lval (u.drop k)/lval v=d at *
      generalize lval (u.drop k) % lval v=e at *
      rw [← hdm]
      generalize BP k=p
      generalize lval v=w
      generalize lval q=g
      grind
end
end Go.Proofs.Ytdcfjndokifgeaa
