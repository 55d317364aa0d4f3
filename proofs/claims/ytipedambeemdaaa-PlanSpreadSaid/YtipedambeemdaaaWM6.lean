/- What the models of the package wide give: Bits, Sqrt, Sign, Int. -/
import Derived.Test.YtipedambeemdaaaFM1
set_option linter.unusedVariables false
set_option linter.unusedSimpArgs false
namespace Go.Proofs.Ytipedambeemdaaa
open Go Go.SL
theorem BP_two (n:Nat):BP n=2^(32*n):=by
  unfold BP; rw [Int.pow_mul]; rfl
theorem isqrt_ex (n:Nat):∃ s:Nat,s*s≤n∧n<(s+1)*(s+1):=by
  induction n with
  | zero=>exact ⟨0,by omega,by omega⟩
  | succ n ih =>
    obtain ⟨s,h1,h2⟩:=ih
    by_cases h:(s+1)*(s+1)≤n+1
    · exact ⟨s+1,h,by
        have:(s+1+1)*(s+1+1)=(s+1)*(s+1)+2*s+3:=by grind
        omega⟩
    · exact ⟨s,by omega,by omega⟩
theorem sq_mono {a b:Int} (ha:0≤a) (h:a≤b):a*a≤b*b:=Int.mul_le_mul h h ha (by omega)
theorem sq_lt {a b:Int} (hb:0≤b) (h:a*a<b*b):a<b:=by
  rcases Int.lt_or_le a b with h1 | h1
  · exact h1
  · have:=sq_mono hb h1; omega
theorem sq_le {a b:Int} (hb:0≤b) (h:a*a≤b*b):a≤b:=by
  rcases Int.lt_or_le b a with h1 | h1
  · have h2:=sq_mono (a:=b+1) (b:=a) (by omega) (by omega)
    have:(b+1)*(b+1)=b*b+2*b+1:=by grind
    omega
  · exact h1
section
variable {F:Nat} (hF:4300000000≤F)
include hF
omit hF in
theorem w_Bits {b:Bool} {l:List Int} {z:Int} (h:IsW b l z) (hn:l.length≤2000):∃ K:Nat,m_wide_Bits F b l=some ((K:Int),0)∧(z.natAbs:Int)<2^K∧K≤32*l.length∧(0<K↔z≠0):=by
  unfold m_wide_Bits
  rw [w_check1 h (by omega),Option.bind_some]
  by_cases h0:(l.length:Int)=0
  · rw [if_pos (by simpa using h0)]
    have hz:=h.pos.1 (List.length_eq_zero_iff.1 (by omega))
    exact ⟨0,rfl,by rw [hz]; decide,by omega,by omega⟩
  · obtain ⟨n,hln⟩:∃ n,l.length=n+1:=⟨l.length-1,by omega⟩
    obtain ⟨x,hx,hx0⟩:=h.last (by omega)
    rw [hln,Nat.add_sub_cancel] at hx
    have bx:=h.is.lim.at hx
    obtain ⟨s,h1,h2,h3⟩:=w_len32 (F:=F) (x:=x) (by omega)
    rw [if_neg (by simpa using h0),show IntKind.i64.wrap ((l.length:Int)-1)=(n:Int) by rw [i64_of (by omega)]; omega,Option.bind_some,ixn hx,Option.bind_some,h1,Option.bind_some,i64_of (x:=32*(n:Int)) (by omega),i64_of (by omega),Option.bind_some]
    have hz:z≠0:=fun e=>by
      have:=h.pos.2 e
      rw [this] at hln; simp at hln
    refine ⟨32*n+(32-s),by push_cast; rw [Int.ofNat_sub (by omega)],?_,by omega,by omega⟩
    have hv:=lval_take hx
    have htl:l.take (n+1)=l:=List.take_of_length_le (by omega)
    rw [htl,h.is.val] at hv
    have hlt:=lval_lt (h.is.lim.take n)
    rw [List.length_take,Nat.min_eq_left (by omega)] at hlt
    have h12:=two_pow_split s (by omega)
    have hx2:x<2^(32-s):=by
      refine Int.lt_of_mul_lt_mul_left (a:=2^s) ?_ (by have:=two_pow_pos s; omega)
      rw [h12,Int.mul_comm]; exact h3
    rw [Int.pow_add,← BP_two]
    have:BP n*(x+1)≤BP n*2^(32-s):=Int.mul_le_mul_of_nonneg_left (by omega) (by have:=BP_pos n; omega)
    rw [Int.mul_add] at this
    omega
omit hF in
theorem w_left1 {k:Nat} (hk:k≤100000):∃ r,m_wide_left_L1 F 1 (k:Int)=some r∧Lim r∧lval r=2^k∧r.length≤k/32+2:=by
  unfold m_wide_left_L1 m_wide_left_L1_j1
  have ed:Int.tdiv (k:Int) 32=((k/32:Nat):Int):=by rw [Int.tdiv_eq_ediv_of_nonneg (by omega)]; omega
  have em:Int.tmod (k:Int) 32=((k % 32:Nat):Int):=by rw [Int.tmod_eq_emod_of_nonneg (by omega)]; omega
  have eb:IntKind.bits .u64=64:=rfl
  have h31:=two_pow_le (show k % 32≤31 by omega)
  have h1:=two_pow_pos (k % 32)
  have e31:((2:Int)^31)=2147483648:=by decide
  rw [ed,em,i64_of (x:=((k/32:Nat):Int)) (by omega),i64_of (x:=((k/32:Nat):Int)+1) (by omega),i64_of (x:=((k/32:Nat):Int)+1+1) (by omega),if_pos (by omega),if_pos (by omega),eb,Int.toNat_natCast,Int.toNat_natCast,Nat.min_eq_left (by omega),
    u64_id (x:=1) (by omega),Int.one_mul,u64_id (x:=2^(k % 32)) (by omega)]
  have hor:=(bor_add (x:=2^(k % 32)) (c:=0) 0 (by omega) (by decide) (by omega)).2
  rw [Int.pow_zero,Int.mul_one,Int.add_zero] at hor
  rw [hor,Option.bind_some,List.length_replicate,if_pos (by omega),if_pos (by simp; omega),u32_id (by omega),fd32,show (2:Int)^(k % 32)/4294967296=0 by omega,show IntKind.u32.wrap 0=0 by decide]
  refine ⟨_,rfl,(((Lim.zeros _).app (Lim.cons (by omega) Lim.nil)).app (Lim.cons (by omega) Lim.nil)),?_,by simp⟩
  rw [lval_snoc,Int.mul_zero,Int.add_zero,lval_snoc,lval_zeros,List.length_replicate,Int.zero_add,BP_two,← Int.pow_add,show 32*(k/32)+k % 32=k by omega]
theorem sqrt_l {l:List Int} {z s:Int} (hl:Is l z) (hn:l.length≤900) (hs1:1≤s) (hs2:s*s≤z) (hs3:z<(s+1)*(s+1)) {K:Int} (hK:0<K):∀ (k N:Nat) (x:List Int) (X:Int),X-s<2^k→k+1≤N→Is x X→s≤X→x.length≤950 →
    ∃ b r,m_wide_Sqrt_l2 F (K,0) l N x=some (b,r,0)∧IsW b r s
  | k,0,_,_,_,h,_,_,_=>by omega
  | k,N+1,x,X,hX,hN,hx,hsX,hxl=>by
    show ∃ b r,m_wide_Sqrt_b2 F (K,0) l (m_wide_Sqrt_l2 F (K,0) l N) x=_∧_
    unfold m_wide_Sqrt_b2
    obtain ⟨q,r,h1,h2,h3⟩:=w_divide hF hl hx (by omega) (by omega) (by omega)
    have hq0:=h2.nonneg
    have hqz:z/X≤z:=Int.ediv_le_self _ hl.nonneg
    have hql:q.length≤900:=Nat.le_trans (h2.len (Int.lt_of_le_of_lt hqz hl.lt)) hn
    obtain ⟨y1,h4,h5,h5',h6,h7⟩:=w_plus hF h2.lim hx.lim (by omega) (by omega)
    obtain ⟨y2,bb,h8,h9,h10,h11⟩:=w_right hF h6 (by omega) 1 (by omega)
    obtain ⟨y,h12,h13⟩:=w_trim hF h10 (by omega)
    rw [h11,h7,h2.val,hx.val,Int.pow_one] at h13
    rw [if_pos hK,h1,Option.bind_some,h4,Option.bind_some]
    rw [show ((1:Nat):Int)=1 from rfl] at h8
    rw [h8,Option.bind_some,h12,Option.bind_some,w_compare h13 hx,Option.bind_some]
    have hdm:=Int.mul_ediv_add_emod z X
    have hm0:=Int.emod_nonneg z (show X≠0 by omega)
    have hm1:=Int.emod_lt_of_pos z (show 0<X by omega)
    generalize z/X=d at *
    have hlow:s*2≤d+X:=by
      rcases Int.lt_or_le (d+X) (s*2) with h | h
      · exfalso
        have e1:X*(d+1)≤X*(2*s-X):=Int.mul_le_mul_of_nonneg_left (by omega) (by omega)
        have e2:X*(2*s-X)=s*s-(X-s)*(X-s):=by grind
        have e3:0≤(X-s)*(X-s):=Int.mul_nonneg (by omega) (by omega)
        rw [Int.mul_add] at e1
        omega
      · exact h
    by_cases hc:cmpI ((d+X)/2) X≥0
    · rw [if_pos hc]
      have hge:X≤(d+X)/2:=by unfold cmpI at hc; split at hc <;> omega
      have hXs:X=s:=by
        have e1:X*X≤X*d:=Int.mul_le_mul_of_nonneg_left (by omega) (by omega)
        have e2:X<s+1:=sq_lt (by omega) (by omega)
        omega
      obtain ⟨b,g,g1,g2⟩:=w_made hF hx.lim (by omega) false
      rw [g1,Option.bind_some]
      rw [hx.val,hXs] at g2
      simp only [Bool.false_eq_true,if_false] at g2
      exact ⟨b,g,rfl,g2⟩
    · rw [if_neg hc]
      have hlt:(d+X)/2<X:=by
        unfold cmpI at hc
        split at hc
        · assumption
        · split at hc <;> omega
      have hne:s<X:=by
        rcases Int.lt_or_le s X with h | h
        · exact h
        · exfalso
          have:X=s:=by omega
          subst this
          have e1:X*X<X*(d+1):=by rw [Int.mul_add]; omega
          have:=Int.lt_of_mul_lt_mul_left e1 (by omega)
          omega
      have hds:d≤s:=by
        rcases Int.lt_or_le s d with h | h
        · exfalso
          have e1:(s+1)*(s+1)≤X*d:=Int.mul_le_mul (by omega) (by omega) (by omega) (by omega)
          omega
        · exact h
      obtain ⟨k,rfl⟩:∃ k',k=k'+1:=⟨k-1,by
        rcases Nat.eq_zero_or_pos k with h | h
        · subst h; rw [Int.pow_zero] at hX; omega
        · omega⟩
      have hyl:y.length≤950:=Nat.le_trans (h13.len (Int.lt_of_lt_of_le hlt (Int.le_of_lt hx.lt))) hxl
      rw [Int.pow_succ] at hX
      exact sqrt_l hl hn hs1 hs2 hs3 hK k N y _ (by omega) (by omega) h13 (by omega) hyl
theorem w_Sqrt {l:List Int} {z s:Int} (h:IsW false l z) (hn:l.length≤900) (hs0:0≤s) (hs2:s*s≤z) (hs3:z<(s+1)*(s+1)):∃ b r,m_wide_Sqrt F false l=some (b,r,0)∧IsW b r s:=by
  unfold m_wide_Sqrt
  have hz0:0≤s*s:=Int.mul_nonneg hs0 hs0
  obtain ⟨K,h1,h2,h3,h4⟩:=w_Bits (F:=F) h (by omega)
  have ek:IntKind.i64.wrap (Int.tdiv (IntKind.i64.wrap ((K:Int)+1)) 2)=(((K+1)/2:Nat):Int):=by
    rw [i64_of (x:=(K:Int)+1) (by omega),Int.tdiv_eq_ediv_of_nonneg (by omega),i64_of (by omega)]; omega
  obtain ⟨x12,h5,h6,h7,h8⟩:=w_left1 (F:=F) (k:=(K+1)/2) (by omega)
  obtain ⟨x,h9,h10⟩:=w_trim hF h6 (by omega)
  rw [w_check1 h (by omega),Option.bind_some,if_neg (by simp),if_neg (by simp),h1,Option.bind_some,ek,h5,Option.bind_some,h9,Option.bind_some]
  rw [h7] at h10
  by_cases hz:z=0
  · have hK:K=0:=by omega
    subst hK
    obtain ⟨N,rfl⟩:∃ N,F=N+1:=⟨F-1,by omega⟩
    show ∃ b r,m_wide_Sqrt_b2 (N+1) _ l _ x=_∧_
    unfold m_wide_Sqrt_b2 m_wide_Sqrt_j1
    rw [if_neg (by simp)]
    have hs:s=0:=by
      rcases Int.lt_or_le 0 s with h | h
      · have:1*1≤s*s:=Int.mul_le_mul (by omega) (by omega) (by omega) (by omega)
        omega
      · omega
    rw [hs]
    exact ⟨false,[],rfl,IsW.ofNat Is.nil⟩
  · have hK:0<K:=h4.2 hz
    have hs1:1≤s:=by
      rcases Int.lt_or_le 0 s with h | h
      · omega
      · have:s=0:=by omega
        subst this; omega
    have hzI:=h.is
    rw [show (z.natAbs:Int)=z by omega] at hzI h2
    have hX:s≤2^((K+1)/2):=by
      refine sq_le (by have:=two_pow_pos ((K+1)/2); omega) ?_
      rw [← Int.pow_add]
      have:=two_pow_le (show K≤(K+1)/2+(K+1)/2 by omega)
      omega
    have hxl:x.length≤950:=by
      refine Nat.le_trans (h10.len (n:=l.length+1) ?_) (by omega)
      rw [BP_two]
      have:=two_pow_le (show (K+1)/2+1≤32*(l.length+1) by omega)
      rw [Int.pow_succ] at this
      have:=two_pow_pos ((K+1)/2)
      omega
    exact sqrt_l hF hzI hn hs1 hs2 hs3 (K:=(K:Int)) (by omega) ((K+1)/2) F x _ (by omega) (by omega) h10 hX hxl
omit hF in
theorem w_Sign {b:Bool} {l:List Int} {z:Int} (h:IsW b l z) (hn:l.length≤4096):m_wide_Sign F b l=some (cmpI z 0,0):=by
  unfold m_wide_Sign
  rw [w_Cmp h (IsW.ofNat Is.nil) hn (by simp),Option.bind_some]
theorem w_Int {b:Bool} {l:List Int} {z:Int} (h:IsW b l z) (hz:0≤z∧z<9223372036854775808):m_wide_Int F b l=some (z,0):=by
  have hl2:l.length≤2:=one_len h (by omega)
  have hb:b=false:=by rw [h.neg]; simp; omega
  subst hb
  have hzI:=h.is
  rw [show (z.natAbs:Int)=z by omega] at hzI
  have hfin:m_wide_Int_j1 F false z=some (z,0):=by
    unfold m_wide_Int_j1
    rw [if_neg (by simp),if_pos (by simpa using hz.2),i64_of (by omega)]
  unfold m_wide_Int
  rw [w_check1 h (by omega),Option.bind_some,if_neg (by simp),if_neg (by omega)]
  obtain ⟨N,rfl⟩:∃ N,F=N+3:=⟨F-3,by omega⟩
  have eb:IntKind.bits .u64=64:=rfl
  match l,hzI,hl2 with
  | [],hzI,_ =>
    show m_wide_Int_b2 (N+3) [] false _ 0 0=_
    unfold m_wide_Int_b2
    rw [if_neg (by simp)]
    have:=hzI.val
    simp only [lval] at this
    rw [← this] at hfin ⊢; exact hfin
  | [x],hzI,_ =>
    have hv:=hzI.val
    simp only [lval,Int.mul_zero,Int.add_zero] at hv
    have bx:=hzI.lim.head
    show m_wide_Int_b2 (N+3) [x] false (m_wide_Int_l2 (N+3) [x] false (N+2)) 0 0=_
    unfold m_wide_Int_b2
    have e0:idx [x] 0=some x:=rfl
    have hor:=(bor_add (x:=x) (c:=0) 0 (by omega) (by decide) (by omega)).2
    rw [Int.add_zero] at hor
    rw [if_pos (by simp),e0,Option.bind_some,show IntKind.i64.wrap (32*0)=0 by decide,if_pos (by omega),eb,Int.toNat_zero,Nat.zero_min,u64_id (x:=x) (by omega),u64_id (x:=x*2^0) (by omega),hor,Option.bind_some,show IntKind.i64.wrap (0+1)=1 by decide,Int.pow_zero,Int.mul_one]
    show m_wide_Int_b2 (N+3) [x] false _ x 1=_
    unfold m_wide_Int_b2
    rw [if_neg (by simp),hv]; exact hfin
  | [x,y],hzI,_ =>
    have hv:=hzI.val
    simp only [lval,Int.mul_zero,Int.add_zero] at hv
    have bx:=hzI.lim.head
    have bY:=hzI.lim.tail.head
    show m_wide_Int_b2 (N+3) [x,y] false (m_wide_Int_l2 (N+3) [x,y] false (N+2)) 0 0=_
    unfold m_wide_Int_b2
    have e0:idx [x,y] 0=some x:=rfl
    have e1:idx [x,y] 1=some y:=rfl
    have hor:=(bor_add (x:=x) (c:=0) 0 (by omega) (by decide) (by omega)).2
    rw [Int.add_zero] at hor
    rw [if_pos (by simp),e0,Option.bind_some,show IntKind.i64.wrap (32*0)=0 by decide,if_pos (by omega),eb,Int.toNat_zero,Nat.zero_min,u64_id (x:=x) (by omega),u64_id (x:=x*2^0) (by omega),hor,Option.bind_some,show IntKind.i64.wrap (0+1)=1 by decide,Int.pow_zero,Int.mul_one]
    show m_wide_Int_b2 (N+3) [x,y] false (m_wide_Int_l2 (N+3) [x,y] false (N+1)) x 1=_
    unfold m_wide_Int_b2
    have e32:((2:Int)^32)=4294967296:=by decide
    have hor2:=(bor_add (x:=y) (c:=x) 32 (by omega) (by rw [e32]; omega) (by rw [e32]; omega)).2
    rw [if_pos (by simp),e1,Option.bind_some,show IntKind.i64.wrap (32*1)=32 by decide,if_pos (by omega),eb,show Int.toNat 32=32 from rfl,show min 32 64=32 from rfl,u64_id (x:=y) (by omega),u64_id (x:=y*2^32) (by rw [e32]; omega),hor2,Option.bind_some,show IntKind.i64.wrap (1+1)=2 by decide,e32]
    show m_wide_Int_b2 (N+3) [x,y] false _ _ 2=_
    unfold m_wide_Int_b2
    rw [if_neg (by simp),show y*4294967296+x=z by omega]; exact hfin
end
end Go.Proofs.Ytipedambeemdaaa
