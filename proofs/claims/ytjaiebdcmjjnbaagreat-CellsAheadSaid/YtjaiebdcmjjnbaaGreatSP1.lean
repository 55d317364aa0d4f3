/- math/bits.Div64 divides. -/
import Derived.Test.YtjaiebdcmjjnbaaGreatAM
import Derived.Test.YtjaiebdcmjjnbaaGreatSpanNum
set_option linter.unusedVariables false
set_option linter.unusedSimpArgs false
namespace Go.Proofs.YtjaiebdcmjjnbaaGreat
open Go Go.SL
theorem mask32 {x:Int} (hx:0≤x∧x<18446744073709551616):bitand .u64 x 4294967295=x % 4294967296:=by
  have h:=band_mask (x:=x) 32 (by decide) hx
  have e:(2:Int)^32=4294967296:=by decide
  rw [e] at h
  exact h
section
variable {F:Nat} {x12 x17 x15 x10:Int} (hv:9223372036854775808≤x12∧x12<18446744073709551616)
include hv
theorem cond_iff {q r u:Int} (hq:0≤q) (hr:0≤r∧r<4294967296) (hu:0≤u∧u<4294967296) :
    ((decide (q≥4294967296)||decide (IntKind.u64.wrap (q*bitand .u64 x12 4294967295)>IntKind.u64.wrap (IntKind.u64.wrap (4294967296*r)+u)))=true)↔(q≥4294967296∨q*(x12 % 4294967296)>4294967296*r+u):=by
  rw [Bool.or_eq_true,decide_eq_true_iff,decide_eq_true_iff,mask32 (by omega)]
  have hy0:0≤x12 % 4294967296∧x12 % 4294967296<4294967296:=by omega
  generalize x12 % 4294967296=y0 at *
  rcases Int.lt_or_le q 4294967296 with h | h
  · have h1:q*y0≤4294967295*4294967295:=Int.mul_le_mul (by omega) (by omega) (by omega) (by omega)
    have h2:0≤q*y0:=Int.mul_nonneg hq hy0.1
    rw [u64_id (x:=q*y0) (by omega),u64_id (x:=4294967296*r) (by omega),u64_id (by omega)]
  · exact ⟨fun _=>.inl h,fun _=>.inl h⟩
theorem l4_spec (h17:0≤x17∧x17<18446744073709551616) (hu:0≤x15∧x15<x12):∀ (n:Nat) (q r:Int),KG x15 (x17/4294967296) (x12/4294967296) (x12 % 4294967296) q r→0≤q→r<4294967296→4294967296≤r+n*(x12/4294967296) →
    ∃ r',zbd F x12 x17 x15 x10 n q r=zbT F x15 x17 x12 x10 ((x15*4294967296+x17/4294967296)/(x12/4294967296*4294967296+x12 % 4294967296)) r'
  | 0,q,r,h,hq,hr,hn=>by
    simp at hn; omega
  | n+1,q,r,h,hq,hr,hn=>by
    have k0:0≤x17/4294967296∧x17/4294967296<4294967296:=by omega
    have k1:2147483648≤x12/4294967296∧x12/4294967296<4294967296:=by omega
    have k2:0≤x12 % 4294967296∧x12 % 4294967296<4294967296:=by omega
    have k3:0≤x15∧x15<x12/4294967296*4294967296+x12 % 4294967296:=by omega
    have e32:Int.fdiv x12 (2^32)=x12/4294967296:=fdiv_pow x12 32
    have e33:Int.fdiv x17 (2^32)=x17/4294967296:=fdiv_pow x17 32
    show ∃ r',zco F x12 x17 x15 x10 (zbd F x12 x17 x15 x10 n) q r=_
    unfold zco
    rw [e32,e33]
    by_cases hc:q≥4294967296∨q*(x12 % 4294967296)>4294967296*r+x17/4294967296
    · rw [if_pos ((cond_iff hv hq ⟨h.r0,hr⟩ k0).2 hc),Option.bind_some]
      obtain ⟨hq1,h2⟩:=KG.less k0 k2 k3 h hc
      have hr0:=h.r0
      rw [u64_id (x:=r+x12/4294967296) (by omega),u64_id (x:=q-1) (by have:=h.q1; omega)]
      by_cases hb:r+x12/4294967296≥4294967296
      · rw [if_pos hb]
        have h3:=KG.doneB k0 k2 k3 h2 (by have:=h.q1; omega) hb
        exact ⟨_,by rw [h3]⟩
      · rw [if_neg hb]
        refine l4_spec h17 hu n _ _ h2 (by omega) (by omega) ?_
        have:((n+1:Nat):Int)*(x12/4294967296)=n*(x12/4294967296)+x12/4294967296:=by push_cast; rw [Int.add_mul,Int.one_mul]
        omega
    · rw [if_neg (fun hh=>hc ((cond_iff hv hq ⟨h.r0,hr⟩ k0).1 hh))]
      have h3:=KG.done k3 h (by omega)
      exact ⟨_,by rw [h3]⟩
theorem l2_spec {x21 x23:Int} (h17:0≤x17∧x17<18446744073709551616) (hu:0≤x23∧x23<x12):∀ (n:Nat) (r q:Int),KG x23 (x17 % 4294967296) (x12/4294967296) (x12 % 4294967296) q r→0≤q→r<4294967296→4294967296≤r+n*(x12/4294967296) →
    zbw F x12 x17 x10 x21 x23 n r q=zbS F x10 x21 x23 x17 x12 ((x23*4294967296+x17 % 4294967296)/(x12/4294967296*4294967296+x12 % 4294967296))
  | 0,r,q,h,hq,hr,hn=>by
    simp at hn; omega
  | n+1,r,q,h,hq,hr,hn=>by
    have k0:0≤x17 % 4294967296∧x17 % 4294967296<4294967296:=by omega
    have k1:2147483648≤x12/4294967296∧x12/4294967296<4294967296:=by omega
    have k2:0≤x12 % 4294967296∧x12 % 4294967296<4294967296:=by omega
    have k3:0≤x23∧x23<x12/4294967296*4294967296+x12 % 4294967296:=by omega
    have e32:Int.fdiv x12 (2^32)=x12/4294967296:=fdiv_pow x12 32
    show zcn F x12 x17 x10 x21 x23 (zbw F x12 x17 x10 x21 x23 n) r q=_
    unfold zcn
    rw [e32,mask32 h17]
    by_cases hc:q≥4294967296∨q*(x12 % 4294967296)>4294967296*r+x17 % 4294967296
    · rw [if_pos ((cond_iff hv hq ⟨h.r0,hr⟩ k0).2 hc),Option.bind_some]
      obtain ⟨hq1,h2⟩:=KG.less k0 k2 k3 h hc
      have hr0:=h.r0
      rw [u64_id (x:=r+x12/4294967296) (by omega),u64_id (x:=q-1) (by have:=h.q1; omega)]
      by_cases hb:r+x12/4294967296≥4294967296
      · rw [if_pos hb]
        have h3:=KG.doneB k0 k2 k3 h2 (by have:=h.q1; omega) hb
        rw [h3]
      · rw [if_neg hb]
        refine l2_spec h17 hu n _ _ h2 (by omega) (by omega) ?_
        have:((n+1:Nat):Int)*(x12/4294967296)=n*(x12/4294967296)+x12/4294967296:=by push_cast; rw [Int.add_mul,Int.one_mul]
        omega
    · rw [if_neg (fun hh=>hc ((cond_iff hv hq ⟨h.r0,hr⟩ k0).1 hh))]
      have h3:=KG.done k3 h (by omega)
      rw [h3]
omit hv in
theorem rest_eq {a c p:Int} (h:0≤a*4294967296+c-p∧a*4294967296+c-p<18446744073709551616):IntKind.u64.wrap (IntKind.u64.wrap (IntKind.u64.wrap (a*4294967296)+c)-IntKind.u64.wrap p)=a*4294967296+c-p:=by
  simp only [u64w]
  generalize a*4294967296=A at *
  omega
theorem digits (hF:8589934592≤F) (h17:0≤x17∧x17<18446744073709551616) (hu:0≤x15∧x15<x12) (hs:0≤x10∧x10≤63) (q r:Int) (hK:KG x15 (x17/4294967296) (x12/4294967296) (x12 % 4294967296) q r) (hq:0≤q) (hr:r<4294967296) :
    zbd F x12 x17 x15 x10 F q r=some ((x15*18446744073709551616+x17)/x12,((x15*18446744073709551616+x17) % x12)/2^x10.toNat):=by
  have ev:x12/4294967296*4294967296+x12 % 4294967296=x12:=by omega
  obtain ⟨r',h1⟩:=l4_spec (F:=F) (x10:=x10) hv h17 hu F q r hK hq hr (by
    have h2:(8589934592:Int)*2147483648≤(F:Int)*(x12/4294967296):=Int.mul_le_mul (by omega) (by omega) (by omega) (by omega)
    have:=hK.r0
    omega)
  rw [h1,ev]
  obtain ⟨U,hU⟩:∃ U,U=x15*4294967296+x17/4294967296:=⟨_,rfl⟩
  rw [← hU]
  have d1:=Int.mul_ediv_add_emod U x12
  have d2:=Int.emod_nonneg U (show x12≠0 by omega)
  have d3:=Int.emod_lt_of_pos U (show 0<x12 by omega)
  have hq1:0≤U/x12∧U/x12<4294967296:=by
    constructor
    · exact Int.ediv_nonneg (by omega) (by omega)
    · exact Int.ediv_lt_of_lt_mul (by omega) (by omega)
  unfold zbT
  have e32:Int.fdiv x12 (2^32)=x12/4294967296:=fdiv_pow x12 32
  have e33:Int.fdiv x17 (2^32)=x17/4294967296:=fdiv_pow x17 32
  rw [e32,e33]
  have hrest:IntKind.u64.wrap (IntKind.u64.wrap (IntKind.u64.wrap (x15*4294967296)+x17/4294967296)-IntKind.u64.wrap (U/x12*x12))=U % x12:=by
    have:U/x12*x12=x12*(U/x12):=Int.mul_comm _ _
    rw [this,rest_eq (by omega)]
    omega
  rw [hrest,Option.bind_some,if_pos (by omega)]
  obtain ⟨Q1,hQ1⟩:∃ Q1,Q1=U/x12:=⟨_,rfl⟩
  obtain ⟨V,hV⟩:∃ V,V=U % x12:=⟨_,rfl⟩
  rw [← hV] at d1 d2 d3 ⊢
  rw [← hQ1] at d1 hq1 ⊢
  have k0:0≤x17 % 4294967296∧x17 % 4294967296<4294967296:=by omega
  have k1:2147483648≤x12/4294967296∧x12/4294967296<4294967296:=by omega
  have k2:0≤x12 % 4294967296∧x12 % 4294967296<4294967296:=by omega
  have k3:0≤V∧V<x12/4294967296*4294967296+x12 % 4294967296:=by omega
  have hst:=KG.start k0 k1 k2 k3
  have et:Int.tdiv V (x12/4294967296)=V/(x12/4294967296):=Int.tdiv_eq_ediv_of_nonneg d2
  have g1:=Int.ediv_nonneg d2 (show 0≤x12/4294967296 by omega)
  have g2:=hst.q1
  have g3:=Int.mul_ediv_add_emod V (x12/4294967296)
  have g4:=hst.r0
  have g5:=Int.emod_lt_of_pos V (show 0<x12/4294967296 by omega)
  have g7:0≤(x12/4294967296)*(V/(x12/4294967296)):=Int.mul_nonneg (by omega) g1
  have g6:V/(x12/4294967296)*(x12/4294967296)=V-V % (x12/4294967296):=by rw [Int.mul_comm]; omega
  rw [et,u64_id (x:=V/(x12/4294967296)) (by omega),Option.bind_some,g6,u64_id (x:=V-V % (x12/4294967296)) (by omega),show V-(V-V % (x12/4294967296))=V % (x12/4294967296) by omega,u64_id (x:=V % (x12/4294967296)) (by omega),Option.bind_some]
  rw [l2_spec (F:=F) (x10:=x10) (x21:=Q1) hv h17 ⟨d2,d3⟩ F _ _ hst g1 (by omega) (by
    have h2:(8589934592:Int)*2147483648≤(F:Int)*(x12/4294967296):=Int.mul_le_mul (by omega) (by omega) (by omega) (by omega)
    omega),ev]
  obtain ⟨W,hW⟩:∃ W,W=V*4294967296+x17 % 4294967296:=⟨_,rfl⟩
  rw [← hW]
  have f1:=Int.mul_ediv_add_emod W x12
  have f2:=Int.emod_nonneg W (show x12≠0 by omega)
  have f3:=Int.emod_lt_of_pos W (show 0<x12 by omega)
  have hq2:0≤W/x12∧W/x12<4294967296:=by
    constructor
    · exact Int.ediv_nonneg (by omega) (by omega)
    · exact Int.ediv_lt_of_lt_mul (by omega) (by omega)
  have hN:x15*18446744073709551616+x17=x12*(Q1*4294967296+W/x12)+W % x12:=by
    have e1:x12*(Q1*4294967296+W/x12)=x12*Q1*4294967296+x12*(W/x12):=by grind
    rw [e1]
    generalize x12*Q1=p1 at *
    generalize x12*(W/x12)=p2 at *
    omega
  have hdm:(x15*18446744073709551616+x17)/x12=Q1*4294967296+W/x12∧(x15*18446744073709551616+x17) % x12=W % x12 :=
    (Int.ediv_emod_unique (show 0<x12 by omega)).2 ⟨by rw [hN]; omega,f2,f3⟩
  rw [hdm.1,hdm.2]
  unfold zbS
  have hrest2:IntKind.u64.wrap (IntKind.u64.wrap (IntKind.u64.wrap (V*4294967296)+x17 % 4294967296)-IntKind.u64.wrap (W/x12*x12))=W % x12:=by
    have:W/x12*x12=x12*(W/x12):=Int.mul_comm _ _
    rw [this,rest_eq (by omega)]
    omega
  have eb:IntKind.bits .u64=64:=rfl
  rw [mask32 h17,hrest2,u64_id (x:=x10) (by omega),if_pos hs.1,u64_id (x:=Q1*4294967296) (by omega),u64_id (by omega),Option.bind_some,Option.bind_some,eb,show min x10.toNat 64=x10.toNat by omega,fdiv_pow]
end
theorem mulmod {a b c:Int} (hc:0<c):a*c % (b*c)=a % b*c:=by
  rw [Int.mul_comm a c,Int.mul_comm b c,Int.mul_emod_mul_of_pos _ _ hc,Int.mul_comm]
theorem div64 {F:Nat} {hi lo y:Int} (hF:8589934592≤F) (hh:0≤hi∧hi<y) (hl:0≤lo∧lo<18446744073709551616) (hy:y<18446744073709551616) :
    zbU F hi lo y=some ((hi*18446744073709551616+lo)/y,(hi*18446744073709551616+lo) % y):=by
  unfold zbU
  rw [if_neg (by omega),if_neg (by omega)]
  by_cases h0:hi=0
  · subst h0
    have e1:Int.tdiv lo y=lo/y:=Int.tdiv_eq_ediv_of_nonneg hl.1
    have e2:Int.tmod lo y=lo % y:=Int.tmod_eq_emod_of_nonneg hl.1
    have e3:=Int.ediv_nonneg hl.1 (show 0≤y by omega)
    have e4:=Int.ediv_le_self y hl.1
    rw [if_pos rfl,if_pos (by omega),if_pos (by omega),e1,e2,u64_id (by omega),Option.bind_some,Int.zero_mul,Int.zero_add]
  · rw [if_neg h0]
    obtain ⟨s,h1,h2,h3,h4,h5⟩:=shift_ok (F:=F) (y:=y) (by omega)
    rw [h1,Option.bind_some]
    have es:IntKind.u64.wrap s=s:=u64_id (by omega)
    have eb:IntKind.bits .u64=64:=rfl
    have em:min s.toNat 64=s.toNat:=by omega
    have e64:IntKind.u64.wrap (64-s)=64-s:=u64_id (by omega)
    have em2:min (64-s).toNat 64=(64-s).toNat:=by omega
    rw [es,eb,em,e64,em2,if_pos h2,u64_id (x:=y*2^s.toNat) (by omega),Option.bind_some,if_pos h2,if_pos (by omega),fdiv_pow]
    have hpow:(2:Int)^s.toNat*2^(64-s).toNat=18446744073709551616:=by
      rw [← pow_split h2 (by omega),show s+(64-s)=64 by omega]; rfl
    have hp1:0<(2:Int)^s.toNat:=Int.pow_pos (by decide)
    have hp2:0<(2:Int)^(64-s).toNat:=Int.pow_pos (by decide)
    have hhv:hi*2^s.toNat+2^s.toNat≤y*2^s.toNat:=by
      have:=Int.mul_le_mul_of_nonneg_right (show hi+1≤y by omega) (Int.le_of_lt hp1)
      rw [Int.add_mul,Int.one_mul] at this
      exact this
    have hh0:0≤hi*2^s.toNat:=Int.mul_nonneg hh.1 (Int.le_of_lt hp1)
    have hlo:=Int.mul_ediv_add_emod lo (2^(64-s).toNat)
    have hc0:0≤lo/2^(64-s).toNat:=Int.ediv_nonneg hl.1 (Int.le_of_lt hp2)
    have hc1:lo/2^(64-s).toNat<2^s.toNat:=Int.ediv_lt_of_lt_mul hp2 (by rw [hpow]; omega)
    have hm0:=Int.emod_nonneg lo (show (2:Int)^(64-s).toNat≠0 by omega)
    have hm1:=Int.emod_lt_of_pos lo hp2
    have hsp:lo*2^s.toNat=lo/2^(64-s).toNat*18446744073709551616+(lo % 2^(64-s).toNat)*2^s.toNat:=by
      calc lo*2^s.toNat=(2^(64-s).toNat*(lo/2^(64-s).toNat)+lo % 2^(64-s).toNat)*2^s.toNat:=by rw [hlo]
        _=lo/2^(64-s).toNat*(2^s.toNat*2^(64-s).toNat)+(lo % 2^(64-s).toNat)*2^s.toNat:=by grind
        _=_:=by rw [hpow]
    have hlow:0≤(lo % 2^(64-s).toNat)*2^s.toNat∧(lo % 2^(64-s).toNat)*2^s.toNat<18446744073709551616:=by
      refine ⟨Int.mul_nonneg hm0 (Int.le_of_lt hp1),?_⟩
      rw [← hpow,Int.mul_comm (2^s.toNat)]
      exact Int.mul_lt_mul_of_pos_right hm1 hp1
    have hx17:IntKind.u64.wrap (lo*2^s.toNat)=(lo % 2^(64-s).toNat)*2^s.toNat:=by
      rw [u64w,hsp]; omega
    have hbor:bitor .u64 (IntKind.u64.wrap (hi*2^s.toNat)) (lo/2^(64-s).toNat)=hi*2^s.toNat+lo/2^(64-s).toNat:=by
      rw [u64_id (x:=hi*2^s.toNat) (by omega)]
      exact (bor_add (x:=hi) (c:=lo/2^(64-s).toNat) s.toNat hh.1 ⟨hc0,hc1⟩ (by omega)).1
    rw [hbor,hx17,Option.bind_some,if_pos h2,Option.bind_some]
    obtain ⟨v,hv⟩:∃ v,v=y*2^s.toNat:=⟨_,rfl⟩
    obtain ⟨A,hA⟩:∃ A,A=hi*2^s.toNat+lo/2^(64-s).toNat:=⟨_,rfl⟩
    obtain ⟨C,hC⟩:∃ C,C=(lo % 2^(64-s).toNat)*2^s.toNat:=⟨_,rfl⟩
    rw [← hv,← hA,← hC]
    rw [← hv] at h4 h5 hhv
    rw [← hC] at hlow hsp
    have hAr:0≤A∧A<v:=by omega
    have e32:Int.fdiv v (2^32)=v/4294967296:=fdiv_pow v 32
    rw [e32,if_pos (by omega)]
    have et:Int.tdiv A (v/4294967296)=A/(v/4294967296):=Int.tdiv_eq_ediv_of_nonneg hAr.1
    have k0:0≤C/4294967296∧C/4294967296<4294967296:=by omega
    have k1:2147483648≤v/4294967296∧v/4294967296<4294967296:=by omega
    have k2:0≤v % 4294967296∧v % 4294967296<4294967296:=by omega
    have k3:0≤A∧A<v/4294967296*4294967296+v % 4294967296:=by omega
    have hst:=KG.start k0 k1 k2 k3
    have g1:=Int.ediv_nonneg hAr.1 (show 0≤v/4294967296 by omega)
    have g2:=hst.q1
    have g3:=Int.mul_ediv_add_emod A (v/4294967296)
    have g4:=hst.r0
    have g5:=Int.emod_lt_of_pos A (show 0<v/4294967296 by omega)
    have g7:0≤(v/4294967296)*(A/(v/4294967296)):=Int.mul_nonneg (by omega) g1
    have g6:A/(v/4294967296)*(v/4294967296)=A-A % (v/4294967296):=by rw [Int.mul_comm]; omega
    rw [et,u64_id (x:=A/(v/4294967296)) (by omega),Option.bind_some,g6,u64_id (x:=A-A % (v/4294967296)) (by omega),show A-(A-A % (v/4294967296))=A % (v/4294967296) by omega,u64_id (x:=A % (v/4294967296)) (by omega),Option.bind_some]
    rw [digits (F:=F) ⟨h4,h5⟩ hF hlow hAr ⟨h2,h3⟩ _ _ hst g1 (by omega)]
    have hN:A*18446744073709551616+C=(hi*18446744073709551616+lo)*2^s.toNat:=by
      rw [Int.add_mul,hsp,hA,Int.add_mul]
      have:hi*18446744073709551616*2^s.toNat=hi*2^s.toNat*18446744073709551616:=by grind
      omega
    rw [hN,hv,Int.mul_ediv_mul_of_pos_left _ _ hp1,mulmod hp1,Int.mul_ediv_cancel _ (by omega)]
end Go.Proofs.YtjaiebdcmjjnbaaGreat
