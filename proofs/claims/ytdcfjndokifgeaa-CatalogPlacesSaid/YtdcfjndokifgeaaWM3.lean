/- What the models of the package wide give: shifts, and division by many limbs. -/
import Derived.Test.YtdcfjndokifgeaaWM2
set_option linter.unusedVariables false
set_option linter.unusedSimpArgs false
namespace Go.Proofs.Ytdcfjndokifgeaa
open Go Go.SL
theorem two_pow_pos (s:Nat):(1:Int)≤2^s:=by
  induction s with
  | zero=>decide
  | succ s ih=>rw [Int.pow_succ]; omega
theorem two_pow_le {s t:Nat} (h:s≤t):(2:Int)^s≤2^t:=by
  obtain ⟨k,rfl⟩:=Nat.le.dest h
  rw [Int.pow_add]
  have h1:=two_pow_pos s
  have:=Int.mul_le_mul_of_nonneg_left (c:=(2:Int)^s) (two_pow_pos k) (by omega)
  omega
theorem two_pow_split (s:Nat) (h:s≤32):(2:Int)^s*2^(32-s)=4294967296:=by
  rw [← Int.pow_add,show s+(32-s)=32 by omega]; decide
section
variable {F:Nat} (hF:4300000000≤F)
include hF
omit hF in
theorem left_l {l:List Int} (hl:Lim l) (hn:l.length≤5000) (s:Nat) (hs:s≤31):∀ (m N i:Nat) (o:List Int) (c:Int),i+m=l.length→m<N→o.length=i→Lim o→0≤c∧c<2^s→lval o+c*BP i=2^s*lval (l.take i) →
    ∃ r,m_wide_left_l2 F l (s:Int) N o c (i:Int)=some r∧r.length=l.length+1∧Lim r∧lval r=2^s*lval l
  | _,0,_,_,_,_,h,_,_,_,_=>by omega
  | 0,N+1,i,o,c,hi,_,ho,hlo,hc,hv=>by
    have e1:m_wide_left_l2 F l (s:Int) (N+1) o c (i:Int)=m_wide_left_b2 F l (s:Int) (m_wide_left_l2 F l (s:Int) N) o c (i:Int):=rfl
    rw [e1]
    unfold m_wide_left_b2 m_wide_left_j1
    have h31:=two_pow_le hs
    have e31:((2:Int)^31)=2147483648:=by decide
    rw [if_neg (by omega),if_pos (by omega),u32_id (by omega)]
    refine ⟨_,rfl,by simp; omega,hlo.app (Lim.cons (by omega) Lim.nil),?_⟩
    obtain rfl:i=l.length:=by omega
    rw [List.take_length] at hv
    rw [lval_snoc,ho,← hv]; generalize BP l.length=p; grind
  | m+1,N+1,i,o,c,hi,hN,ho,hlo,hc,hv=>by
    have e1:m_wide_left_l2 F l (s:Int) (N+1) o c (i:Int)=m_wide_left_b2 F l (s:Int) (m_wide_left_l2 F l (s:Int) N) o c (i:Int):=rfl
    rw [e1]
    unfold m_wide_left_b2
    have hx:l[i]? = some l[i]:=List.getElem?_eq_getElem (by omega)
    have bx:=hl.at hx
    have h31:=two_pow_le hs
    have h1:=two_pow_pos s
    have e31:((2:Int)^31)=2147483648:=by decide
    have eb:IntKind.bits .u64=64:=rfl
    have em:Int.tmod (s:Int) 32=(s:Int):=by rw [Int.tmod_eq_emod_of_nonneg (by omega)]; omega
    have hbig:l[i]*2^s≤4294967295*2147483648:=Int.mul_le_mul (by omega) (by omega) (by omega) (by omega)
    have hnn:0≤l[i]*2^s:=Int.mul_nonneg bx.1 (by omega)
    rw [if_pos (by omega),ixn hx,Option.bind_some,em,if_pos (by omega),eb,Int.toNat_natCast,Nat.min_eq_left (by omega),u64_id (x:=l[i]) (by omega),u64_id (x:=l[i]*2^s) (by omega),
      (bor_add s bx.1 hc (by omega)).2,Option.bind_some,if_pos (by omega),wS (by omega),fd32,u32w]
    have hq:(l[i]*2^s+c)/4294967296<2^s:=Int.ediv_lt_of_lt_mul (by omega) (by
      have:(l[i]+1)*2^s≤4294967296*2^s:=Int.mul_le_mul_of_nonneg_right (by omega) (by omega)
      rw [Int.add_mul] at this
      rw [Int.mul_comm (2^s)]
      omega)
    refine left_l hl hn s hs m N (i+1) _ _ (by omega) (by omega) (by simp [ho]) (hlo.app (Lim.cons (by omega) Lim.nil)) ⟨by omega,hq⟩ ?_
    rw [lval_snoc,ho,lval_take hx,BP_succ]
    clear hx e1 hq
    generalize l[i]=x at *
    have hmod:=Int.mul_ediv_add_emod (x*2^s+c) 4294967296
    generalize (x*2^s+c)/4294967296=q at *
    generalize hs':(x*2^s+c) % 4294967296=t at *
    generalize BP i=p at *
    generalize (2:Int)^s=e at *
    have:t=x*e+c-4294967296*q:=by omega
    rw [this]
    grind
theorem w_left {l:List Int} (hl:Lim l) (hn:l.length≤5000) (s:Nat) (hs:s≤31):∃ r,m_wide_left F l (s:Int)=some r∧r.length=l.length+1∧Lim r∧lval r=2^s*lval l:=by
  unfold m_wide_left
  have ed:Int.tdiv (s:Int) 32=0:=by rw [Int.tdiv_eq_ediv_of_nonneg (by omega)]; omega
  have e0:IntKind.i64.wrap 0=0:=by decide
  rw [ed,e0,i64_of (x:=0+(l.length:Int)) (by omega),i64_of (x:=0+(l.length:Int)+1) (by omega),if_pos (by omega)]
  exact left_l hl hn s hs l.length F 0 [] 0 (by omega) (by omega) rfl Lim.nil ⟨by omega,by have:=two_pow_pos s; omega⟩ (by simp [lval])
omit hF in
theorem right_l (s:Nat) (hs:s≤31) (x7:Bool):∀ (t:List Int),Lim t→∀ (o:List Int) (c:Int) (n:Nat) (T:Int),o.length=t.length+n→Lim o→0≤T→c=T % 2^s→(∀ j,j<t.length→o[j]? = some 0)→lval o=BP t.length*(T/2^s) →
    ∃ o' c',m_wide_right_l1 F (s:Int) x7 (downL t) o c=m_wide_right_j1 F x7 o' c'∧Lim o'∧o'.length=o.length∧lval o'=(lval t+BP t.length*T)/2^s:=by
  intro t
  induction t using snoc_ind with
  | h0 =>
    intro _ o c n T ho hlo hT hr _ hv
    simp only [List.length_nil,BP_zero,Int.one_mul] at hv ⊢
    simp only [lval,Int.zero_add]
    exact ⟨o,c,by rw [downL_nil]; rfl,hlo,rfl,hv⟩
  | hs t x ih =>
    intro hl o c n T ho hlo hT hr hz hv
    simp only [List.length_append,List.length_singleton] at ho hz hv ⊢
    have hx:=hl.right.head
    have h0:=hz t.length (by omega)
    have h31:=two_pow_le hs
    have h1:=two_pow_pos s
    have e31:((2:Int)^31)=2147483648:=by decide
    have e32:((2:Int)^32)=4294967296:=by decide
    have eb:IntKind.bits .u64=64:=rfl
    have em:Int.tmod (s:Int) 32=(s:Int):=by rw [Int.tmod_eq_emod_of_nonneg (by omega)]; omega
    have r0:=Int.emod_nonneg T (show (2:Int)^s≠0 by omega)
    have r1:=Int.emod_lt_of_pos T (show (0:Int)<2^s by omega)
    rw [← hr] at r0 r1
    have hor:=(bor_add (x:=c) (c:=x) 32 r0 (by rw [e32]; exact hx) (by rw [e32]; omega)).1
    rw [e32] at hor
    rw [downL_snoc]
    show ∃ o' c',m_wide_right_b1 F (s:Int) (m_wide_right_l1 F (s:Int) x7 (downL t)) (t.length:Int) x o c=_∧_
    unfold m_wide_right_b1
    have hV:0≤c*4294967296+x∧c*4294967296+x<18446744073709551616:=by omega
    rw [e32,u64_id (x:=c*4294967296) (by omega),u64_id (x:=x) (by omega),hor,Option.bind_some,em,if_pos (by omega),ixn h0,Option.bind_some,if_pos (by omega),eb,Int.toNat_natCast,Int.toNat_natCast,Nat.min_eq_left (by omega),fdiv_pow,Int.one_mul,
      u64_id (x:=2^s) (by omega),u64_id (x:=2^s-1) (by omega),band_mask s (by omega) hV]
    have hTd:=Int.mul_ediv_add_emod T (2^s)
    have e1:c*4294967296+x=(4294967296*T+x)-2^s*(4294967296*(T/2^s)):=by
      rw [hr]
      generalize T/2^s=q at *
      generalize T % 2^s=u at *
      generalize (2:Int)^s=d at *
      grind
    have e2:(c*4294967296+x) % 2^s=(4294967296*T+x) % 2^s:=by rw [e1,Int.sub_mul_emod_self_left]
    have e3:(c*4294967296+x)/2^s=(4294967296*T+x)/2^s-4294967296*(T/2^s):=by rw [e1,Int.sub_mul_ediv_left _ _ (by omega)]
    have q1:(c*4294967296+x)/2^s<4294967296:=Int.ediv_lt_of_lt_mul (by omega) (by
      have:(c+1)*4294967296≤2^s*4294967296:=Int.mul_le_mul_of_nonneg_right (by omega) (by omega)
      rw [Int.mul_comm 4294967296]
      omega)
    have q0:0≤(c*4294967296+x)/2^s:=Int.ediv_nonneg (by omega) (by omega)
    rw [u32_id ⟨q0,q1⟩]
    obtain ⟨o',c',g1,g2,g3,g4⟩:=ih hl.left (o.set t.length ((c*4294967296+x)/2^s)) ((c*4294967296+x) % 2^s) (n+1) (4294967296*T+x) (by simp; omega) (hlo.set _ ⟨q0,q1⟩) (by omega) e2 (fun j hj=>by
      rw [List.getElem?_set_ne (by omega)]; exact hz j (by omega)) (by
      rw [lval_set _ h0,hv,BP_succ,e3]
      generalize BP t.length=p
      generalize T/2^s=q
      generalize (4294967296*T+x)/2^s=q'
      grind)
    have e4:lval t+BP t.length*(4294967296*T+x)=lval (t++[x])+BP (t.length+1)*T:=by
      rw [lval_snoc,BP_succ]; generalize BP t.length=p; grind
    rw [e4] at g4
    exact ⟨o',c',g1,g2,by simpa using g3,g4⟩
theorem w_right {l:List Int} (hl:Lim l) (hn:l.length≤5000) (s:Nat) (hs:s≤31):∃ r b,m_wide_right F l (s:Int)=some (r,b)∧r.length=l.length∧Lim r∧lval r=lval l/2^s:=by
  unfold m_wide_right m_wide_down
  have ed:Int.tdiv (s:Int) 32=0:=by rw [Int.tdiv_eq_ediv_of_nonneg (by omega)]; omega
  have e0:IntKind.i64.wrap 0=0:=by decide
  rw [ed,e0,if_neg (by omega),Option.bind_some,if_pos ⟨by omega,by omega,by omega⟩]
  have hc:m_slices_ContainsFunc_uint32_uint32_Fwide_right_1 F (lsub l 0 0)=some false:=by
    have:lsub l 0 0=[]:=by simp [lsub]
    rw [this]
    unfold m_slices_ContainsFunc_uint32_uint32_Fwide_right_1 m_slices_IndexFunc_uint32_uint32_Fwide_right_1
    obtain ⟨N,rfl⟩:∃ N,F=N+1:=⟨F-1,by omega⟩
    rfl
  have e5:lsub l 0 (l.length:Int)=l:=by rw [lsub0,List.take_length]
  rw [hc,Option.bind_some,Int.sub_zero,i64_of (x:=(l.length:Int)) (by omega),if_pos (by omega),if_pos ⟨by omega,by omega,by omega⟩,e5,Option.bind_some,Int.toNat_natCast]
  obtain ⟨o',c',h1,h2,h3,h4⟩:=right_l (F:=F) s hs false l hl (List.replicate l.length 0) 0 0 0 (by simp) (Lim.zeros _) (Int.le_refl _) (by simp) (fun j hj=>by rw [List.getElem?_replicate,if_pos hj]) (by rw [lval_zeros]; simp)
  rw [h1]
  unfold m_wide_right_j1
  rw [Int.mul_zero,Int.add_zero] at h4
  exact ⟨o',_,rfl,by simpa using h3,h2,h4⟩
omit hF in
set_option maxRecDepth 100000 in
theorem tab8:∀ x:Fin 256,∃ b:Fin 9,strIdx strc1 (x.val:Int)=some (b.val:Int)∧(x.val:Int)<2^b.val∧(0<x.val→0<b.val):=by
  have:(∀ x:Fin 256,(match strIdx strc1 (x.val:Int) with | some b=>decide (0≤b∧b≤8)&&decide ((x.val:Int)<2^b.toNat)&&(decide (x.val=0)||decide (0<b)) | none=>false)=true):=by decide +kernel
  intro x
  have h:=this x
  split at h
  · rename_i b hb
    simp only [Bool.and_eq_true,Bool.or_eq_true,decide_eq_true_eq] at h
    refine ⟨⟨b.toNat,by omega⟩,by rw [hb]; congr 1; simp only; omega,h.1.2,fun h0=>?_⟩
    have:=h.2
    simp only
    omega
  · cases h
omit hF in
theorem w_len32 {x:Int} (hx:0<x∧x<4294967296):∃ s:Nat,m_math_bits_Len32 F x=some ((32-s:Nat):Int)∧s≤31∧x*2^s<4294967296:=by
  have key:∀ (y:Int) (n:Nat),0<y∧y<256→n≤24→x<(y+1)*2^n→∃ s:Nat,m_math_bits_Len32_j1 F y (n:Int)=some ((32-s:Nat):Int)∧s≤31∧x*2^s<4294967296:=fun y n hy hn hxy=>by
    obtain ⟨⟨b,hb9⟩,hb,hb2,hb3⟩:=tab8 ⟨y.toNat,by omega⟩
    simp only at hb hb2 hb3
    rw [Int.toNat_of_nonneg (by omega)] at hb hb2
    have hb0:=hb3 (by omega)
    unfold m_math_bits_Len32_j1
    rw [show IntKind.u8.wrap y=y by rw [IntKind.wrap_u8]; omega,hb,Option.bind_some,i64_of (x:=(b:Int)) (by omega),i64_of (x:=(n:Int)+(b:Int)) (by omega),Option.bind_some]
    refine ⟨32-(n+b),by congr 1; omega,by omega,?_⟩
    have h1:(y+1)*2^n≤2^b*2^n:=Int.mul_le_mul_of_nonneg_right (by omega) (by have:=two_pow_pos n; omega)
    rw [← Int.pow_add] at h1
    have h2:x+1≤2^(b+n):=by omega
    have h3:=two_pow_split (b+n) (by omega)
    rw [show 32-(n+b)=32-(b+n) by omega]
    have h4:=two_pow_pos (32-(b+n))
    have h5:(x+1)*2^(32-(b+n))≤2^(b+n)*2^(32-(b+n)):=Int.mul_le_mul_of_nonneg_right h2 (by omega)
    rw [h3,Int.add_mul] at h5
    omega
  have key2:∀ (y:Int) (n:Nat),0<y∧y<65536→n=0∨n=16→x<(y+1)*2^n→∃ s:Nat,m_math_bits_Len32_j2 F y (n:Int)=some ((32-s:Nat):Int)∧s≤31∧x*2^s<4294967296:=fun y n hy hn hxy=>by
    unfold m_math_bits_Len32_j2
    by_cases h:y≥256
    · rw [if_pos h,i64_of (by omega),fdiv_pow]
      have e8:((2:Int)^8)=256:=by decide
      rw [e8]
      have:=key (y/256) (n+8) (by omega) (by omega) (by
        rw [Int.pow_add,e8]
        have hp:=two_pow_pos n
        have:(y+1)*2^n≤((y/256+1)*256)*2^n:=Int.mul_le_mul_of_nonneg_right (by omega) (by omega)
        generalize (2:Int)^n=p at *
        grind)
      push_cast at this ⊢
      exact this
    · rw [if_neg h]
      exact key y n (by omega) (by omega) hxy
  unfold m_math_bits_Len32
  have e16:((2:Int)^16)=65536:=by decide
  by_cases h:x≥65536
  · rw [if_pos h,fdiv_pow,e16]
    exact key2 (x/65536) 16 (by omega) (.inr rfl) (by rw [e16]; omega)
  · rw [if_neg h]
    exact key2 x 0 (by omega) (.inl rfl) (by simp; omega)
omit hF in
theorem w_lead {x:Int} (hx:0<x∧x<4294967296):∃ s:Nat,m_math_bits_LeadingZeros32 F x=some (s:Int)∧s≤31∧x*2^s<4294967296:=by
  obtain ⟨s,h1,h2,h3⟩:=w_len32 (F:=F) hx
  unfold m_math_bits_LeadingZeros32
  rw [h1,Option.bind_some,i64_of (by omega)]
  exact ⟨s,by congr 1; omega,h2,h3⟩
end
end Go.Proofs.Ytdcfjndokifgeaa
