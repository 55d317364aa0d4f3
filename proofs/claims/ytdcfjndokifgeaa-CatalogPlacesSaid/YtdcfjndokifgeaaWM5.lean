/- What the models of the package wide give: DivMod, Gcd. -/
import Derived.Test.YtdcfjndokifgeaaWM4
set_option linter.unusedVariables false
set_option linter.unusedSimpArgs false
namespace Go.Proofs.Ytdcfjndokifgeaa
open Go Go.SL
section
variable {F:Nat} (hF:4300000000≤F)
include hF
theorem w_divide {a b:List Int} {z z':Int} (ha:Is a z) (hb:Is b z') (hz':0<z') (hla:a.length≤2500) (hlb:b.length≤2000):∃ q r,m_wide_divide F a b=some (q,r)∧Is q (z/z')∧Is r (z % z'):=by
  have hz:=ha.nonneg
  unfold m_wide_divide
  rw [w_compare ha hb,Option.bind_some]
  by_cases hc:cmpI z z'<0
  · have hlt:z<z':=by unfold cmpI at hc; split at hc <;> (try split at hc) <;> omega
    rw [if_pos hc,w_clone (by omega),Option.bind_some,Int.ediv_eq_zero_of_lt hz hlt,Int.emod_eq_of_lt hz hlt]
    exact ⟨[],a,rfl,Is.nil,ha⟩
  have hle:z'≤z:=by
    unfold cmpI at hc
    split at hc
    · omega
    · omega
  rw [if_neg hc]
  have hbne:b≠[]:=fun e=>by have:=hb.zero.2 e; omega
  have hb0:0<b.length:=List.length_pos_iff.2 hbne
  have hba:=Is_len_le ha hb hle
  by_cases h1:(b.length:Int)=1
  · rw [if_pos h1]
    obtain ⟨d,rfl⟩:∃ d,b=[d]:=List.length_eq_one_iff.1 (by omega)
    have hd:=hb.lim.head
    have hdz:z'=d:=by rw [← hb.val]; simp [lval]
    have e0:idx [d] 0=some d:=rfl
    rw [e0,Option.bind_some]
    obtain ⟨q,h2,h3⟩:=w_short hF ha.lim (by omega) (d:=d) (by omega)
    rw [h2,Option.bind_some]
    have hr0:=Int.emod_nonneg (lval a) (show d≠0 by omega)
    have hr1:=Int.emod_lt_of_pos (lval a) (show 0<d by omega)
    obtain ⟨r,h4,h5⟩:=w_trim hF (l:=[lval a % d]) (Lim.cons (by omega) Lim.nil) (by simp)
    rw [h4,Option.bind_some]
    rw [hdz,← ha.val]
    simp only [lval,Int.mul_zero,Int.add_zero] at h5
    exact ⟨q,r,rfl,h3,h5⟩
  · rw [if_neg h1]
    obtain ⟨n,hn⟩:∃ n,b.length=n+1:=⟨b.length-1,by omega⟩
    have htop:b[n]? = some b[n]:=List.getElem?_eq_getElem (by omega)
    have btop:=hb.lim.at htop
    have htop0:b[n]≠0:=hb.nrm _ (by rw [List.getLast?_eq_getElem?,show b.length-1=n by omega]; exact htop)
    generalize htv:b[n]=t at *
    obtain ⟨s,h2,hs,h3⟩:=w_lead (F:=F) (x:=t) (by omega)
    obtain ⟨x19,h4,h5,h6,h7⟩:=w_left hF hb.lim (by omega) s hs
    obtain ⟨u,h8,h9,h10,h11⟩:=w_left hF ha.lim (by omega) s hs
    have hp:=two_pow_pos s
    rw [show IntKind.i64.wrap ((b.length:Int)-1)=(n:Int) by rw [i64_of (by omega)]; omega,ixn htop,Option.bind_some,h2,Option.bind_some,h4,Option.bind_some,if_pos ⟨by omega,by omega,by omega⟩,h8,Option.bind_some,
      show IntKind.i64.wrap ((u.length:Int)-(b.length:Int))=((a.length+1-b.length:Nat):Int) by rw [i64_of (by omega)]; omega,if_pos (by omega),Int.toNat_natCast,List.length_replicate,show IntKind.i64.wrap (((a.length+1-b.length:Nat):Int)-1)=((a.length+1-b.length:Nat):Int)-1 from i64_of (by omega),Option.bind_some]
    rw [hb.val] at h7
    rw [ha.val] at h11
    have hzt:z'<BP n*(t+1):=by
      have:=lval_take htop
      rw [← hn,List.take_length,hb.val] at this
      have hlt:=lval_lt (hb.lim.take n)
      rw [List.length_take,Nat.min_eq_left (by omega)] at hlt
      rw [Int.mul_add]; omega
    have ht32:2^s*(t+1)≤4294967296:=by
      have h12:=two_pow_split s (by omega)
      have:t<2^(32-s):=by
        refine Int.lt_of_mul_lt_mul_left (a:=2^s) ?_ (by omega)
        rw [h12,Int.mul_comm]; exact h3
      have h13:2^s*(t+1)≤2^s*2^(32-s):=Int.mul_le_mul_of_nonneg_left (by omega) (by omega)
      omega
    have hzB:2^s*z'<BP (n+1):=by
      have h12:2^s*(z'+1)≤2^s*(BP n*(t+1)):=Int.mul_le_mul_of_nonneg_left (by omega) (by omega)
      have h13:BP n*(2^s*(t+1))≤BP n*4294967296:=Int.mul_le_mul_of_nonneg_left ht32 (by have:=BP_pos n; omega)
      rw [BP_succ]
      have h14:2^s*(BP n*(t+1))=BP n*(2^s*(t+1)):=by generalize (2:Int)^s=p; generalize BP n=w; grind
      rw [Int.mul_add] at h12
      omega
    have hv19:lval (x19.take b.length)=2^s*z':=by
      have h12:=lval_split x19 b.length (by omega)
      have h13:=lval_nonneg (h6.take b.length)
      have h14:=lval_nonneg (h6.drop b.length)
      rw [h7] at h12
      rw [hn] at h12 h13 h14 ⊢
      rcases Int.lt_or_le 0 (lval (x19.drop (n+1))) with h15 | h15
      · have h16:BP (n+1)*1≤BP (n+1)*lval (x19.drop (n+1)):=Int.mul_le_mul_of_nonneg_left (by omega) (by have:=BP_pos (n+1); omega)
        omega
      · rw [show lval (x19.drop (n+1))=0 by omega] at h12
        omega
    have hvl:(x19.take b.length).length=n+1:=by rw [List.length_take]; omega
    have hvL:=h6.take b.length
    have hvt:(x19.take b.length)[n]? = some (x19.take b.length)[n]:=List.getElem?_eq_getElem (by omega)
    have hvt0:(x19.take b.length)[n]≠0:=fun h=>by
      have h12:=lval_take hvt
      rw [← hvl,List.take_length,hv19,h,Int.mul_zero,Int.add_zero] at h12
      have h13:=lval_lt (hvL.take n)
      rw [List.length_take,hvl,Nat.min_eq_left (by omega)] at h13
      have h14:=hb.ge hbne
      rw [hn,Nat.add_sub_cancel] at h14
      have h15:1*z'≤2^s*z':=Int.mul_le_mul_of_nonneg_right hp (by omega)
      omega
    have hinit:lval (u.drop (a.length+1-b.length))<lval (x19.take b.length):=by
      rw [hv19]
      have h12:=lval_split u (a.length+1-b.length) (by omega)
      rw [h11] at h12
      have h13:=lval_nonneg (h10.take (a.length+1-b.length))
      have h14:=ha.lt
      have h15:=hb.ge hbne
      rw [hn,Nat.add_sub_cancel] at h15
      have h16:BP a.length=BP (a.length+1-b.length)*BP n:=by rw [← BP_add]; congr 1; omega
      refine Int.lt_of_mul_lt_mul_left (a:=BP (a.length+1-b.length)) ?_ (by have:=BP_pos (a.length+1-b.length); omega)
      have h17:2^s*(z+1)≤2^s*BP a.length:=Int.mul_le_mul_of_nonneg_left (by omega) (by omega)
      have h18:BP (a.length+1-b.length)*(2^s*BP n)≤BP (a.length+1-b.length)*(2^s*z'):=Int.mul_le_mul_of_nonneg_left (Int.mul_le_mul_of_nonneg_left h15 (by omega)) (by have:=BP_pos (a.length+1-b.length); omega)
      have h19:2^s*BP a.length=BP (a.length+1-b.length)*(2^s*BP n):=by rw [h16]; generalize (2:Int)^s=p; generalize BP (a.length+1-b.length)=w; grind
      rw [Int.mul_add] at h17
      omega
    obtain ⟨q',r',g1,g2,g3⟩:=div_l hF (b:=b) (v:=x19.take b.length) (x19:=x19) (U:=2^s*z) (L:=a.length+1-b.length) hs hvL (by rw [hvl,hn]) (by omega) hvl hvt hvt0 rfl (by omega) (a.length+1-b.length) F (List.replicate (a.length+1-b.length) 0) u (by omega) (Nat.le_refl _) (by simp) (by omega) (Lim.zeros _) h10 (fun i hi=>by rw [List.getElem?_replicate,if_pos hi]) hinit (by rw [lval_zeros,h11]; omega)
    rw [g1]
    rw [hv19,Int.mul_ediv_mul_of_pos _ _ (by omega)] at g2
    rw [hv19,Int.mul_emod_mul_of_pos _ _ (by omega),Int.mul_ediv_cancel_left _ (by omega)] at g3
    exact ⟨q',r',rfl,g2,g3⟩
def DM (z z' Q R:Int):Prop:=z=z'*Q+R∧((0≤R∧R<z')∨(z'<R∧R≤0))
theorem w_DivMod {b b':Bool} {l l':List Int} {z z':Int} (h:IsW b l z) (h':IsW b' l' z') (hz':z'≠0) (hn:l.length≤2000) (hn':l'.length≤2000):∃ c q d r Q R,m_wide_DivMod F b l b' l'=some (c,q,d,r,0)∧IsW c q Q∧IsW d r R∧DM z z' Q R:=by
  unfold m_wide_DivMod
  have hl0:¬ (l'.length:Int)=0:=fun e=>hz' (h'.pos.1 (List.length_eq_zero_iff.1 (by omega)))
  rw [w_check2 h (by omega) h' (by omega),Option.bind_some,if_neg (by decide),if_neg hl0]
  have hp:(0:Int)<(z'.natAbs:Int):=by omega
  obtain ⟨q,r,h1,h2,h3⟩:=w_divide hF h.is h'.is hp (by omega) hn'
  rw [h1,Option.bind_some]
  have hb:=h.neg; have hb':=h'.neg
  have hdm:=Int.mul_ediv_add_emod (z.natAbs:Int) (z'.natAbs:Int)
  have hr0:=Int.emod_nonneg (z.natAbs:Int) (show (z'.natAbs:Int)≠0 by omega)
  have hr1:=Int.emod_lt_of_pos (z.natAbs:Int) hp
  have hq0:0≤(z.natAbs:Int)/(z'.natAbs:Int):=Int.ediv_nonneg (by omega) (by omega)
  have hqle:(z.natAbs:Int)/(z'.natAbs:Int)≤(z.natAbs:Int):=Int.ediv_le_self _ (by omega)
  have hql:q.length≤2000:=Nat.le_trans (h2.len (Int.lt_of_le_of_lt hqle h.is.lt)) hn
  have hrl:r.length≤2000:=Nat.le_trans (h3.len (Int.lt_trans hr1 h'.is.lt)) hn'
  generalize (z.natAbs:Int)/(z'.natAbs:Int)=Q0 at *
  generalize (z.natAbs:Int) % (z'.natAbs:Int)=R0 at *
  have key:∀ (x y:List Int) (X Y:Int),Lim x→Lim y→lval x=X→lval y=Y→x.length≤4096→y.length≤4096→DM z z' (if b=b' then X else -X) (if b'=true then -Y else Y)→∃ c q d r Q R,m_wide_DivMod_j1 F b b' x y=some (c,q,d,r,0)∧IsW c q Q∧IsW d r R∧DM z z' Q R:=fun x y X Y hx hy hX hY hlx hly hd=>by
    unfold m_wide_DivMod_j1
    obtain ⟨c1,q1,g1,g2⟩:=w_made hF hx hlx (!(b == b'))
    obtain ⟨c2,q2,g3,g4⟩:=w_made hF hy hly b'
    rw [g1,Option.bind_some,if_neg (by simp),g3,Option.bind_some]
    rw [hX] at g2
    rw [hY] at g4
    have:(if (!(b == b'))=true then -X else X)=(if b=b' then X else -X):=by
      by_cases e:b=b'
      · simp [e]
      · simp [e]
    rw [this] at g2
    exact ⟨c1,q1,c2,q2,_,_,rfl,g2,g4,hd⟩
  have hr00:(r.length:Int)>0↔0<R0:=by
    have:=h3.zero
    have h5:r.length>0↔r≠[]:=List.length_pos_iff
    rw [show ((r.length:Int)>0)↔(r.length>0) by omega,h5,ne_eq,← this]
    omega
  by_cases hc:R0>0∧b≠b'
  · rw [if_pos (by simp only [Bool.and_eq_true,decide_eq_true_eq,Bool.not_eq_true',beq_eq_false_iff_ne]; exact ⟨hr00.2 hc.1,hc.2⟩)]
    obtain ⟨x,g1,g2,_,g3,g4⟩:=w_plus hF h2.lim (b:=[1]) (Lim.cons (by omega) Lim.nil) (by omega) (by simp)
    obtain ⟨y,g5,g6,g7,g8⟩:=w_minus hF h'.is.lim h3.lim (by omega) (Is_len_le h'.is h3 (by omega)) (by rw [h3.val,h'.is.val]; omega)
    rw [g1,Option.bind_some,g5,Option.bind_some]
    refine key x y (Q0+1) ((z'.natAbs:Int)-R0) g3 g7 (by rw [g4,h2.val]; simp [lval]) (by rw [g8,h'.is.val,h3.val]) (by omega) (by omega) ?_
    rw [if_neg hc.2,hb']
    unfold DM
    have hbb:=hc.2
    rw [hb,hb',ne_eq,decide_eq_decide] at hbb
    by_cases h1:z'<0
    · have e1:(z'.natAbs:Int)=-z':=by omega
      have e2:(z.natAbs:Int)=z:=by omega
      rw [e1] at *; rw [e2] at *
      simp only [h1,decide_true,if_true]
      refine ⟨by grind,.inr (by omega)⟩
    · have e1:(z'.natAbs:Int)=z':=by omega
      have e2:(z.natAbs:Int)=-z:=by omega
      rw [e1] at *; rw [e2] at *
      simp only [h1,decide_false,Bool.false_eq_true,if_false]
      refine ⟨by grind,.inl (by omega)⟩
  · rw [if_neg (by
      simp only [Bool.and_eq_true,decide_eq_true_eq,Bool.not_eq_true',beq_eq_false_iff_ne]
      exact fun h=>hc ⟨hr00.1 h.1,h.2⟩)]
    refine key q r Q0 R0 h2.lim h3.lim h2.val h3.val (by omega) (by omega) ?_
    unfold DM
    by_cases hbb:b=b'
    · rw [if_pos hbb,hb']
      rw [hb,hb',decide_eq_decide] at hbb
      by_cases h1:z'<0
      · have e1:(z'.natAbs:Int)=-z':=by omega
        have e2:(z.natAbs:Int)=-z:=by omega
        rw [e1] at *; rw [e2] at *
        simp only [h1,decide_true,if_true]
        refine ⟨by grind,.inr (by omega)⟩
      · have e1:(z'.natAbs:Int)=z':=by omega
        have e2:(z.natAbs:Int)=z:=by omega
        rw [e1] at *; rw [e2] at *
        simp only [h1,decide_false,Bool.false_eq_true,if_false]
        refine ⟨by grind,.inl (by omega)⟩
    · have hR:R0=0:=by
        rcases Int.lt_or_le 0 R0 with h4 | h4
        · exact absurd ⟨h4,hbb⟩ hc
        · omega
      rw [if_neg hbb,hb']
      rw [hb,hb',decide_eq_decide] at hbb
      subst hR
      by_cases h1:z'<0
      · have e1:(z'.natAbs:Int)=-z':=by omega
        have e2:(z.natAbs:Int)=z:=by omega
        rw [e1] at *; rw [e2] at *
        simp only [h1,decide_true,if_true]
        refine ⟨by grind,.inr (by omega)⟩
      · have e1:(z'.natAbs:Int)=z':=by omega
        have e2:(z.natAbs:Int)=-z:=by omega
        rw [e1] at *; rw [e2] at *
        simp only [h1,decide_false,Bool.false_eq_true,if_false]
        refine ⟨by grind,.inl (by omega)⟩
theorem w_divN {a b:List Int} {m n:Nat} (ha:Is a (m:Int)) (hb:Is b (n:Int)) (hn:0<n) (hla:a.length≤2000) (hlb:b.length≤2000):∃ q r,m_wide_divide F a b=some (q,r)∧Is q ((m/n:Nat):Int)∧Is r ((m % n:Nat):Int):=by
  obtain ⟨q,r,h1,h2,h3⟩:=w_divide hF ha hb (by omega) (by omega) hlb
  refine ⟨q,r,h1,?_,?_⟩
  · push_cast; exact h2
  · push_cast; exact h3
theorem w_madeN {l:List Int} {n:Nat} (h:Is l (n:Int)) (hl:l.length≤4096):∃ g,m_wide_made_o F false l=some (false,g,0)∧Is g (n:Int):=by
  obtain ⟨b,g,h1,h2⟩:=w_made hF h.lim hl false
  rw [h.val] at h2
  simp only [Bool.false_eq_true,if_false] at h2
  have hb:=h2.neg
  have:b=false:=by rw [hb]; simp
  subst this
  refine ⟨g,h1,?_⟩
  have:=h2.is
  rw [Int.natAbs_natCast] at this
  exact this
omit hF in
theorem len_pos {l:List Int} {n:Nat} (h:Is l (n:Int)):(l.length:Int)>0↔0<n:=by
  have:=h.zero
  have h5:l.length>0↔l≠[]:=List.length_pos_iff
  rw [show ((l.length:Int)>0)↔(l.length>0) by omega,h5,ne_eq,← this]
  omega
omit hF in
theorem len_mono {a b:List Int} {m n:Nat} (ha:Is a (m:Int)) (hb:Is b (n:Int)) (h:n≤m):b.length≤a.length:=Is_len_le ha hb (by omega)
theorem gcd_l:∀ (k:Nat) (x y:List Int) (m n N:Nat),n<2^k→2*k+1≤N→Is x (m:Int)→Is y (n:Int)→x.length≤2000→y.length≤2000→∃ g,m_wide_Gcd_l1 F N x y=some (false,g,0)∧Is g ((Nat.gcd m n:Nat):Int):=by
  have done:∀ (x y:List Int) (m n N:Nat),n=0→1≤N→Is x (m:Int)→Is y (n:Int)→x.length≤2000→∃ g,m_wide_Gcd_l1 F N x y=some (false,g,0)∧Is g ((Nat.gcd m n:Nat):Int):=fun x y m n N hn hN hx hy hlx=>by
    obtain ⟨N,rfl⟩:∃ N',N=N'+1:=⟨N-1,by omega⟩
    show ∃ g,m_wide_Gcd_b1 F (m_wide_Gcd_l1 F N) x y=some (false,g,0)∧_
    unfold m_wide_Gcd_b1
    subst hn
    rw [if_neg (by rw [len_pos hy]; omega),w_clone (by omega),Option.bind_some]
    obtain ⟨g,h1,h2⟩:=w_madeN hF hx (by omega)
    rw [h1,Option.bind_some,Nat.gcd_zero_right]
    exact ⟨g,rfl,h2⟩
  have step:∀ (x y:List Int) (m n N:Nat),0<n→Is x (m:Int)→Is y (n:Int)→x.length≤2000→y.length≤2000→∃ r,m_wide_Gcd_l1 F (N+1) x y=m_wide_Gcd_l1 F N y r∧Is r ((m % n:Nat):Int)∧r.length≤2000:=fun x y m n N hn hx hy hlx hly=>by
    show ∃ r,m_wide_Gcd_b1 F (m_wide_Gcd_l1 F N) x y=_∧_
    unfold m_wide_Gcd_b1
    obtain ⟨q,r,h1,h2,h3⟩:=w_divN hF hx hy hn hlx hly
    rw [if_pos ((len_pos hy).2 hn),h1,Option.bind_some]
    exact ⟨r,rfl,h3,Nat.le_trans (len_mono hy h3 (Nat.le_of_lt (Nat.mod_lt _ hn))) hly⟩
  intro k
  induction k with
  | zero =>
    intro x y m n N hk hN hx hy hlx hly
    exact done x y m n N (by simpa using hk) (by omega) hx hy hlx
  | succ k ih =>
    intro x y m n N hk hN hx hy hlx hly
    rcases Nat.eq_zero_or_pos n with h0 | h0
    · exact done x y m n N h0 (by omega) hx hy hlx
    · obtain ⟨N,rfl⟩:∃ N',N=N'+2:=⟨N-2,by omega⟩
      obtain ⟨r,h1,h2,h3⟩:=step x y m n (N+1) h0 hx hy hlx hly
      rw [show N+2=N+1+1 from rfl,h1,Nat.gcd_comm,Nat.gcd_rec,Nat.gcd_comm]
      rcases Nat.eq_zero_or_pos (m % n) with h4 | h4
      · exact done y r n (m % n) (N+1) h4 (by omega) hy h2 hly
      · obtain ⟨r2,h5,h6,h7⟩:=step y r n (m % n) N h4 hy h2 hly h3
        rw [h5,Nat.gcd_comm n,Nat.gcd_rec,Nat.gcd_comm]
        refine ih r r2 (m % n) (n % (m % n)) N ?_ (by omega) h2 h6 h3 h7
        have h8:=Nat.mod_lt m h0
        have h9:=Nat.mod_lt n h4
        have h10:m % n+n % (m % n)≤n:=by
          have h11:=Nat.div_add_mod n (m % n)
          have h12:1≤n/(m % n):=(Nat.one_le_div_iff h4).2 (by omega)
          have h13:m % n*1≤m % n*(n/(m % n)):=Nat.mul_le_mul_left _ h12
          omega
        rw [Nat.pow_succ] at hk
        omega
omit hF in
theorem is_pow2 {l:List Int} {n:Nat} (h:Is l (n:Int)):n<2^(32*l.length):=by
  have h1:=h.lt
  have:BP l.length=((2^(32*l.length):Nat):Int):=by
    have e:(4294967296:Int)=((2^32:Nat):Int):=by decide
    unfold BP
    rw [e,← Int.natCast_pow,← Nat.pow_mul]
  rw [this] at h1
  omega
theorem w_Gcd {b b':Bool} {l l':List Int} {z z':Int} (h:IsW b l z) (h':IsW b' l' z') (hn:l.length≤2000) (hn':l'.length≤2000):∃ g,m_wide_Gcd F b l b' l'=some (false,g,0)∧Is g ((Int.gcd z z':Nat):Int):=by
  unfold m_wide_Gcd
  rw [w_check2 h (by omega) h' (by omega),Option.bind_some,if_neg (by decide),w_clone (by omega),Option.bind_some]
  have hz:=h.is; have hz':=h'.is
  show ∃ g,_∧Is g ((Nat.gcd z.natAbs z'.natAbs:Nat):Int)
  generalize z.natAbs=m at *
  generalize z'.natAbs=n at *
  rcases Nat.eq_zero_or_pos n with h0 | h0
  · rw [if_neg (by rw [len_pos hz']; omega),w_clone (by omega),Option.bind_some]
    obtain ⟨g,h1,h2⟩:=w_madeN hF hz (by omega)
    rw [h1,Option.bind_some,h0,Nat.gcd_zero_right]
    exact ⟨g,rfl,h2⟩
  · rw [if_pos ((len_pos hz').2 h0)]
    obtain ⟨q,r,h1,h2,h3⟩:=w_divN hF hz hz' h0 hn hn'
    have hrl:=Nat.le_trans (len_mono hz' h3 (Nat.le_of_lt (Nat.mod_lt _ h0))) hn'
    rw [h1,Option.bind_some,Nat.gcd_comm,Nat.gcd_rec,Nat.gcd_comm]
    rcases Nat.eq_zero_or_pos (m % n) with h4 | h4
    · rw [if_neg (by rw [len_pos h3]; omega),w_clone (by omega),Option.bind_some]
      obtain ⟨g,h5,h6⟩:=w_madeN hF hz' (by omega)
      rw [h5,Option.bind_some,h4,Nat.gcd_zero_right]
      exact ⟨g,rfl,h6⟩
    · rw [if_pos ((len_pos h3).2 h4)]
      obtain ⟨q2,r2,h5,h6,h7⟩:=w_divN hF hz' h3 h4 hn' hrl
      have hrl2:=Nat.le_trans (len_mono h3 h7 (Nat.le_of_lt (Nat.mod_lt _ h4))) hrl
      rw [h5,Option.bind_some,Nat.gcd_comm n,Nat.gcd_rec,Nat.gcd_comm]
      exact gcd_l hF (32*r2.length) r r2 (m % n) (n % (m % n)) F (is_pow2 h7) (by omega) h3 h7 hrl hrl2
end
end Go.Proofs.Ytdcfjndokifgeaa
