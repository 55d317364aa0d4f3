/- What the models of the reference of layer 1 give: DivMod, Gcd. -/
import Derived.Test.YtjaiebdcmjjnbaaGreatRM4
set_option linter.unusedVariables false
set_option linter.unusedSimpArgs false
namespace Go.Proofs.YtjaiebdcmjjnbaaGreat
open Go Go.SL
section
variable {F:Nat} (hF:4300000000≤F)
include hF
theorem r_DivMod {b b':Bool} {l l':List Int} {z z':Int} (h:IsW b l z) (h':IsW b' l' z') (hz':z'≠0) (hn:l.length≤2000) (hn':l'.length≤2000):∃ c q d r Q R,zdq F b l b' l'=some (c,q,d,r,0)∧IsW c q Q∧IsW d r R∧DM z z' Q R:=by
  unfold zdq
  have hl0:¬ (l'.length:Int)=0:=fun e=>hz' (h'.pos.1 (List.length_eq_zero_iff.1 (by omega)))
  rw [r_both h (by omega) h' (by omega),Option.bind_some,if_neg (by decide),if_neg hl0]
  have hp:(0:Int)<(z'.natAbs:Int):=by omega
  obtain ⟨q,r,h1,h2,h3⟩:=r_over hF h.is h'.is hp (by omega) hn'
  rw [h1,Option.bind_some]
  have hb:=h.neg; have hb':=h'.neg
  have hdm:=Int.mul_ediv_add_emod (z.natAbs:Int) (z'.natAbs:Int)
  have hr0:=Int.emod_nonneg (z.natAbs:Int) (show (z'.natAbs:Int)≠0 by omega)
  have hr1:=Int.emod_lt_of_pos (z.natAbs:Int) hp
  have hq0:0≤(z.natAbs:Int)/(z'.natAbs:Int):=Int.ediv_nonneg (by omega) (by omega)
  have hqle:(z.natAbs:Int)/(z'.natAbs:Int)≤(z.natAbs:Int):=Int.ediv_le_self _ (by omega)
  have hzB:(z.natAbs:Int)<BP 2000:=Int.lt_of_lt_of_le h.is.lt (BP_mono hn)
  have hzB':(z'.natAbs:Int)<BP 2000:=Int.lt_of_lt_of_le h'.is.lt (BP_mono hn')
  generalize (z.natAbs:Int)/(z'.natAbs:Int)=Q0 at *
  generalize (z.natAbs:Int) % (z'.natAbs:Int)=R0 at *
  have hql:q.length≤2000:=h2.len (by omega)
  have hrl:r.length≤2000:=h3.len (by omega)
  obtain ⟨c1,q1,g1,g2⟩:=r_made hF h2.lim (by omega) (!(b == b'))
  obtain ⟨c2,q2,g3,g4⟩:=r_made hF h3.lim (by omega) b
  rw [h2.val] at g2
  rw [h3.val] at g4
  have e1:(if (!(b == b'))=true then -Q0 else Q0)=(if b=b' then Q0 else -Q0):=by
    by_cases e:b=b'
    · simp [e]
    · simp [e]
  rw [e1] at g2
  have hq1:q1.length≤2000:=g2.is.len (by split <;> omega)
  have hq2:q2.length≤2000:=g4.is.len (by split <;> omega)
  rw [g1,Option.bind_some,g3,Option.bind_some]
  have hr00:(r.length:Int)>0↔0<R0:=by
    have:=h3.zero
    have h5:r.length>0↔r≠[]:=List.length_pos_iff
    rw [show ((r.length:Int)>0)↔(r.length>0) by omega,h5,ne_eq,← this]
    omega
  by_cases hc:R0>0∧b≠b'
  · rw [if_pos (by simp only [Bool.and_eq_true,decide_eq_true_eq,Bool.not_eq_true',beq_eq_false_iff_ne]; exact ⟨hr00.2 hc.1,hc.2⟩)]
    obtain ⟨cm,lm,k1,k2⟩:=r_From hF (x:=-1) (by omega)
    have hlm:lm.length≤2000:=k2.is.len (Int.lt_of_lt_of_le (by decide:((-1:Int).natAbs:Int)<BP 1) (BP_mono (by omega)))
    obtain ⟨c3,q3,k3,k4⟩:=r_sum hF g2 k2 hq1 hlm
    obtain ⟨c4,q4,k5,k6⟩:=r_sum hF g4 h' hq2 hn'
    rw [k1,Option.bind_some,k3,Option.bind_some,k5,Option.bind_some]
    unfold zcE
    rw [if_neg (by simp)]
    refine ⟨_,_,_,_,_,_,rfl,k4,k6,?_⟩
    rw [if_neg hc.2,hb]
    unfold DM
    have hbb:=hc.2
    rw [hb,hb',ne_eq,decide_eq_decide] at hbb
    by_cases h1:z<0
    · have e1:(z'.natAbs:Int)=z':=by omega
      have e2:(z.natAbs:Int)=-z:=by omega
      rw [e1] at *; rw [e2] at *
      simp only [h1,decide_true,if_true]
      refine ⟨by grind,.inl (by omega)⟩
    · have e1:(z'.natAbs:Int)=-z':=by omega
      have e2:(z.natAbs:Int)=z:=by omega
      rw [e1] at *; rw [e2] at *
      simp only [h1,decide_false,Bool.false_eq_true,if_false]
      refine ⟨by grind,.inr (by omega)⟩
  · rw [if_neg (by
      simp only [Bool.and_eq_true,decide_eq_true_eq,Bool.not_eq_true',beq_eq_false_iff_ne]
      exact fun h=>hc ⟨hr00.1 h.1,h.2⟩)]
    unfold zcE
    rw [if_neg (by simp)]
    refine ⟨_,_,_,_,_,_,rfl,g2,g4,?_⟩
    unfold DM
    by_cases hbb:b=b'
    · rw [if_pos hbb,hb]
      rw [hb,hb',decide_eq_decide] at hbb
      by_cases h1:z<0
      · have e1:(z'.natAbs:Int)=-z':=by omega
        have e2:(z.natAbs:Int)=-z:=by omega
        rw [e1] at *; rw [e2] at *
        simp only [h1,decide_true,if_true]
        refine ⟨by grind,.inr (by omega)⟩
      · have e1:(z'.natAbs:Int)=z':=by omega
        have e2:(z.natAbs:Int)=z:=by omega
        rw [e1] at *; rw [e2] at *
        simp only [h1,decide_false,Bool.false_eq_true,if_false]
        refine ⟨by grind,.inl (by omega)⟩
    · have hR:R0=0:=by
        rcases Int.lt_or_le 0 R0 with h4 | h4
        · exact absurd ⟨h4,hbb⟩ hc
        · omega
      rw [if_neg hbb,hb]
      rw [hb,hb',decide_eq_decide] at hbb
      subst hR
      by_cases h1:z<0
      · have e1:(z'.natAbs:Int)=z':=by omega
        have e2:(z.natAbs:Int)=-z:=by omega
        rw [e1] at *; rw [e2] at *
        simp only [h1,decide_true,if_true]
        refine ⟨by grind,.inl (by omega)⟩
      · have e1:(z'.natAbs:Int)=-z':=by omega
        have e2:(z.natAbs:Int)=z:=by omega
        rw [e1] at *; rw [e2] at *
        simp only [h1,decide_false,Bool.false_eq_true,if_false]
        refine ⟨by grind,.inr (by omega)⟩
theorem r_divN {a b:List Int} {m n:Nat} (ha:Is a (m:Int)) (hb:Is b (n:Int)) (hn:0<n) (hla:a.length≤2000) (hlb:b.length≤2000):∃ q r,zcC F a b=some (q,r)∧Is q ((m/n:Nat):Int)∧Is r ((m % n:Nat):Int):=by
  obtain ⟨q,r,h1,h2,h3⟩:=r_over hF ha hb (by omega) (by omega) hlb
  refine ⟨q,r,h1,?_,?_⟩
  · push_cast; exact h2
  · push_cast; exact h3
theorem r_madeN {l:List Int} {n:Nat} (h:Is l (n:Int)) (hl:l.length≤4096):∃ g,zaX F false l=some (false,g,0)∧Is g (n:Int):=by
  obtain ⟨b,g,h1,h2⟩:=r_made hF h.lim hl false
  rw [h.val] at h2
  simp only [Bool.false_eq_true,if_false] at h2
  have hb:=h2.neg
  have:b=false:=by rw [hb]; simp
  subst this
  refine ⟨g,h1,?_⟩
  have:=h2.is
  rw [Int.natAbs_natCast] at this
  exact this
theorem rgcd_l:∀ (k:Nat) (x y:List Int) (m n N:Nat),n<2^k→2*k+1≤N→Is x (m:Int)→Is y (n:Int)→x.length≤2000→y.length≤2000→∃ g,zbq F N x y=some (false,g,0)∧Is g ((Nat.gcd m n:Nat):Int):=by
  have done:∀ (x y:List Int) (m n N:Nat),n=0→1≤N→Is x (m:Int)→Is y (n:Int)→x.length≤2000→∃ g,zbq F N x y=some (false,g,0)∧Is g ((Nat.gcd m n:Nat):Int):=fun x y m n N hn hN hx hy hlx=>by
    obtain ⟨N,rfl⟩:∃ N',N=N'+1:=⟨N-1,by omega⟩
    show ∃ g,zcN F (zbq F N) x y=some (false,g,0)∧_
    unfold zcN
    subst hn
    rw [if_neg (by rw [len_pos hy]; omega)]
    obtain ⟨g,h1,h2⟩:=r_madeN hF hx (by omega)
    rw [h1,Option.bind_some,Nat.gcd_zero_right]
    exact ⟨g,rfl,h2⟩
  have step:∀ (x y:List Int) (m n N:Nat),0<n→Is x (m:Int)→Is y (n:Int)→x.length≤2000→y.length≤2000→∃ r,zbq F (N+1) x y=zbq F N y r∧Is r ((m % n:Nat):Int)∧r.length≤2000:=fun x y m n N hn hx hy hlx hly=>by
    show ∃ r,zcN F (zbq F N) x y=_∧_
    unfold zcN
    rw [if_pos ((len_pos hy).2 hn)]
    obtain ⟨q,r,h1,h2,h3⟩:=r_divN hF hx hy hn hlx hly
    rw [h1,Option.bind_some]
    exact ⟨r,rfl,h3,Nat.le_trans (len_mono hy h3 (Nat.le_of_lt (Nat.mod_lt _ hn))) hly⟩
  intro k
  induction k with
  | zero =>
    intro x y m n N hk hN hx hy hlx hly
    exact done x y m n N (by simpa using hk) (by omega) hx hy hlx
  | succ k ih =>
    intro x y m n N hk hN hx hy hlx hly
    rcases Nat.eq_zero_or_pos n with h0 | h0
    · exact done x y m n N h0 (by omega) hx hy hlx
    · obtain ⟨N,rfl⟩:∃ N',N=N'+2:=⟨N-2,by omega⟩
      obtain ⟨r,h1,h2,h3⟩:=step x y m n (N+1) h0 hx hy hlx hly
      rw [show N+2=N+1+1 from rfl,h1,Nat.gcd_comm,Nat.gcd_rec,Nat.gcd_comm]
      rcases Nat.eq_zero_or_pos (m % n) with h4 | h4
      · exact done y r n (m % n) (N+1) h4 (by omega) hy h2 hly
      · obtain ⟨r2,h5,h6,h7⟩:=step y r n (m % n) N h4 hy h2 hly h3
        rw [h5,Nat.gcd_comm n,Nat.gcd_rec,Nat.gcd_comm]
        refine ih r r2 (m % n) (n % (m % n)) N ?_ (by omega) h2 h6 h3 h7
        have h8:=Nat.mod_lt m h0
        have h9:=Nat.mod_lt n h4
        have h10:m % n+n % (m % n)≤n:=by
          have h11:=Nat.div_add_mod n (m % n)
          have h12:1≤n/(m % n):=(Nat.one_le_div_iff h4).2 (by omega)
          have h13:m % n*1≤m % n*(n/(m % n)):=Nat.mul_le_mul_left _ h12
          omega
        rw [Nat.pow_succ] at hk
        omega
theorem r_Gcd {b b':Bool} {l l':List Int} {z z':Int} (h:IsW b l z) (h':IsW b' l' z') (hn:l.length≤2000) (hn':l'.length≤2000):∃ g,zeT F b l b' l'=some (false,g,0)∧Is g ((Int.gcd z z':Nat):Int):=by
  unfold zeT
  rw [r_both h (by omega) h' (by omega),Option.bind_some,if_neg (by decide)]
  have hz:=h.is; have hz':=h'.is
  show ∃ g,_∧Is g ((Nat.gcd z.natAbs z'.natAbs:Nat):Int)
  generalize z.natAbs=m at *
  generalize z'.natAbs=n at *
  rcases Nat.eq_zero_or_pos n with h0 | h0
  · rw [if_neg (by rw [len_pos hz']; omega)]
    obtain ⟨g,h1,h2⟩:=r_madeN hF hz (by omega)
    rw [h1,Option.bind_some,h0,Nat.gcd_zero_right]
    exact ⟨g,rfl,h2⟩
  · rw [if_pos ((len_pos hz').2 h0)]
    obtain ⟨q,r,h1,h2,h3⟩:=r_divN hF hz hz' h0 hn hn'
    have hrl:=Nat.le_trans (len_mono hz' h3 (Nat.le_of_lt (Nat.mod_lt _ h0))) hn'
    rw [h1,Option.bind_some,Nat.gcd_comm,Nat.gcd_rec,Nat.gcd_comm]
    rcases Nat.eq_zero_or_pos (m % n) with h4 | h4
    · rw [if_neg (by rw [len_pos h3]; omega)]
      obtain ⟨g,h5,h6⟩:=r_madeN hF hz' (by omega)
      rw [h5,Option.bind_some,h4,Nat.gcd_zero_right]
      exact ⟨g,rfl,h6⟩
    · rw [if_pos ((len_pos h3).2 h4)]
      obtain ⟨q2,r2,h5,h6,h7⟩:=r_divN hF hz' h3 h4 hn' hrl
      have hrl2:=Nat.le_trans (len_mono h3 h7 (Nat.le_of_lt (Nat.mod_lt _ h4))) hrl
      rw [h5,Option.bind_some,Nat.gcd_comm n,Nat.gcd_rec,Nat.gcd_comm]
      exact rgcd_l hF (32*r2.length) r r2 (m % n) (n % (m % n)) F (is_pow2 h7) (by omega) h3 h7 hrl hrl2
end
end Go.Proofs.YtjaiebdcmjjnbaaGreat
