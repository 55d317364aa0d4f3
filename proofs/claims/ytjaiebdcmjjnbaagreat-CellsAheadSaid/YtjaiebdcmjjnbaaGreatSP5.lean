/- The law CellsAhead of the models, whole. -/
import Derived.Test.YtjaiebdcmjjnbaaGreatSP4
set_option linter.unusedVariables false
set_option linter.unusedSimpArgs false
namespace Go.Proofs.YtjaiebdcmjjnbaaGreat
open Go Go.SL
theorem keep0 (F:Nat) (a b:Int):zae F 0 a b 0=some (a,b,0):=by
  unfold zae zaA
  rw [if_pos rfl,if_neg (by decide)]
theorem do_spec (F:Nat) {a b c d:Int} (h:a≤b∧-2305843009213693952≤a∧b≤2305843009213693952) (h':c≤d∧-2305843009213693952≤c∧d≤2305843009213693952) (h1:-2305843009213693952≤a+c) (h2:b+d≤2305843009213693952) :
    zai F 0 a b c d=some (a+c,b+d,0):=by
  unfold zai
  rw [if_neg (by decide),add_spec h h' h1 h2,Option.bind_some,keep0,Option.bind_some]
def Mod (a b:Int):Prop:=a≤b∧-70368744177664≤a∧b≤70368744177664
theorem moderate_spec (F:Nat) (a b c d e f:Int):∃ r,zcM F a b c d e f=some r∧(r=true→Mod a b∧Mod c d∧Mod e f):=by
  unfold zcM za3 zdF Mod
  by_cases h1:(((decide (a>b))||(decide (a<(-2305843009213693952:Int))))||(decide (b>(2305843009213693952:Int))))=true
  · rw [if_pos h1,Option.bind_some,if_pos (by simp)]; exact ⟨false,rfl,by simp⟩
  rw [if_neg h1,Option.bind_some]
  by_cases h2:(((decide ((0:Int)≠0))||(decide (a<(-70368744177664:Int))))||(decide (b>(70368744177664:Int))))=true
  · rw [if_pos h2]; exact ⟨false,rfl,by simp⟩
  rw [if_neg h2]
  by_cases h3:(((decide (c>d))||(decide (c<(-2305843009213693952:Int))))||(decide (d>(2305843009213693952:Int))))=true
  · rw [if_pos h3,Option.bind_some,if_pos (by simp)]; exact ⟨false,rfl,by simp⟩
  rw [if_neg h3,Option.bind_some]
  by_cases h4:(((decide ((0:Int)≠0))||(decide (c<(-70368744177664:Int))))||(decide (d>(70368744177664:Int))))=true
  · rw [if_pos h4]; exact ⟨false,rfl,by simp⟩
  rw [if_neg h4]
  by_cases h5:(((decide (e>f))||(decide (e<(-2305843009213693952:Int))))||(decide (f>(2305843009213693952:Int))))=true
  · rw [if_pos h5,Option.bind_some,if_pos (by simp)]; exact ⟨false,rfl,by simp⟩
  rw [if_neg h5,Option.bind_some]
  by_cases h6:(((decide ((0:Int)≠0))||(decide (e<(-70368744177664:Int))))||(decide (f>(70368744177664:Int))))=true
  · rw [if_pos h6]; exact ⟨false,rfl,by simp⟩
  rw [if_neg h6]
  refine ⟨true,rfl,fun _=>?_⟩
  simp only [Bool.or_eq_true,decide_eq_true_eq,not_or] at h1 h2 h3 h4 h5 h6
  omega
theorem span_check {F:Nat} {a b:Int} (h:a≤b∧-2305843009213693952≤a∧b≤2305843009213693952):zcS F a b=some 0:=by
  unfold zcS
  rw [check1 h,Option.bind_some]
theorem sphere_check {F:Nat} {a b c d e f:Int} (h1:Mod a b) (h2:Mod c d) (h3:Mod e f):zbO F a b c d e f=some 0:=by
  unfold Mod at *
  unfold zbO zeb
  rw [span_check (by omega),Option.bind_some,if_neg (by decide),span_check (by omega),Option.bind_some,if_neg (by decide),span_check (by omega),Option.bind_some,if_neg (by decide)]
theorem ref_check {F:Nat} {a b:Int} (h:a≤b∧-2305843009213693952≤a∧b≤2305843009213693952):za3 F a b=some 0:=by
  unfold za3
  rw [if_neg (by simp; omega)]
def Good (dt q p v lo hi:Int):Prop:=(lo≤hi∧-2305843009213693952≤lo∧hi≤2305843009213693952) ∧
  ∀ g,-q≤g→g≤q→2*lo*7464960000000000000000≤2*p*7464960000000000000000+2*(v*dt)*86400000000+g*dt*dt∧2*p*7464960000000000000000+2*(v*dt)*86400000000+g*dt*dt≤2*hi*7464960000000000000000
theorem good_of {dt q G a b vh l h:Int} (hm:Mod a b) (hl:l≤h∧-70368744177664001≤l∧h≤70368744177664001) (h1:l*86400000000≤vh*dt) (h2:vh*dt≤h*86400000000) (hG:0≤G∧G≤2000000000000000) (hq:q*dt*dt≤2*G*7464960000000000000000) :
    Good dt q a vh (a+l+-G) (b+h+G):=by
  unfold Mod at hm
  refine ⟨by omega,fun g g1 g2=>?_⟩
  have hsq:0≤dt*dt:=by
    rcases Int.lt_or_le dt 0 with hneg | hpos
    · exact Int.mul_nonneg_of_nonpos_of_nonpos (by omega) (by omega)
    · exact Int.mul_nonneg hpos hpos
  have e1:g*dt*dt=g*(dt*dt):=Int.mul_assoc ..
  have e2:q*dt*dt=q*(dt*dt):=Int.mul_assoc ..
  have k1:g*(dt*dt)≤q*(dt*dt):=Int.mul_le_mul_of_nonneg_right g2 hsq
  have k2:(-q)*(dt*dt)≤g*(dt*dt):=Int.mul_le_mul_of_nonneg_right g1 hsq
  rw [Int.neg_mul] at k2
  rw [e1]
  rw [e2] at hq
  generalize g*(dt*dt)=Y at *
  generalize q*(dt*dt)=C at *
  generalize vh*dt=X at *
  omega
section
variable {F:Nat} (hF:8589934592≤F)
include hF
theorem ahead {a1 b1 a2 b2 a3 b3 c1 d1 c2 d2 c3 d3 dt q:Int} (m1:Mod a1 b1) (m2:Mod a2 b2) (m3:Mod a3 b3) (n1:Mod c1 d1) (n2:Mod c2 d2) (n3:Mod c3 d3) (hdt:-86400000000000≤dt∧dt≤86400000000000) (hq:0≤q∧q≤1073741824) :
    ∃ l1 h1 l2 h2 l3 h3,zeM F a1 b1 a2 b2 a3 b3 c1 d1 c2 d2 c3 d3 dt q q=some (l1,h1,l2,h2,l3,h3,0)∧Good dt q a1 d1 l1 h1∧Good dt q a2 d2 l2 h2∧Good dt q a3 d3 l3 h3:=by
  obtain ⟨u1,v1,e1,f1,f2,f3,f4,f5⟩:=part_spec hF n1.1 n1.2.1 n1.2.2 hdt
  obtain ⟨u2,v2,e2,g1,g2,g3,g4,g5⟩:=part_spec hF n2.1 n2.2.1 n2.2.2 hdt
  obtain ⟨u3,v3,e3,k1,k2,k3,k4,k5⟩:=part_spec hF n3.1 n3.2.1 n3.2.2 hdt
  obtain ⟨p1,q1,p2,q2,p3,G,s1,s2,s3,s4,s5,s6⟩:=pull_spec hF hq hdt
  have r1:=good_of (dt:=dt) (q:=q) m1 ⟨f1,f2,f3⟩ f4 f5 ⟨s4,s5⟩ s6
  have r2:=good_of (dt:=dt) (q:=q) m2 ⟨g1,g2,g3⟩ g4 g5 ⟨s4,s5⟩ s6
  have r3:=good_of (dt:=dt) (q:=q) m3 ⟨k1,k2,k3⟩ k4 k5 ⟨s4,s5⟩ s6
  refine ⟨_,_,_,_,_,_,?_,r1,r2,r3⟩
  unfold zeM zez zey zex zeH
  rw [sphere_check m1 m2 m3,Option.bind_some,if_neg (by decide),sphere_check n1 n2 n3,Option.bind_some,if_neg (by decide),span_check (by omega),Option.bind_some,if_neg (by decide),if_neg (by omega),Option.bind_some]
  unfold Mod at m1 m2 m3
  have wG:IntKind.i64.wrap (0-G)=-G:=by rw [Int.zero_sub,i64_of (by omega)]
  have D1:=do_spec F (a:=a1) (b:=b1) (c:=u1) (d:=v1) (by omega) (by omega) (by omega) (by omega)
  have D2:=do_spec F (a:=a2) (b:=b2) (c:=u2) (d:=v2) (by omega) (by omega) (by omega) (by omega)
  have D3:=do_spec F (a:=a3) (b:=b3) (c:=u3) (d:=v3) (by omega) (by omega) (by omega) (by omega)
  have D4:=do_spec F (a:=a1+u1) (b:=b1+v1) (c:=-G) (d:=G) (by omega) (by omega) (by omega) (by omega)
  have D5:=do_spec F (a:=a2+u2) (b:=b2+v2) (c:=-G) (d:=G) (by omega) (by omega) (by omega) (by omega)
  have D6:=do_spec F (a:=a3+u3) (b:=b3+v3) (c:=-G) (d:=G) (by omega) (by omega) (by omega) (by omega)
  simp only [e1,e2,e3,s1,s2,s3,keep0,D1,D2,D3,D4,D5,D6,wG,Option.bind_some,ne_eq,not_true_eq_false,if_false]
theorem ahead_law (hal:zeL F=some true) {x1 x2 x3 x4 x5 x6 x7 x8 x9 x10 x11 x12 x13 x14 x15 x16 x17:Int} (i14:0≤x14∧x14<4294967296) (i15:-2147483648≤x15∧x15<2147483648) (i16:-2147483648≤x16∧x16<2147483648) (i17:-2147483648≤x17∧x17<2147483648) :
    zea F x1 x2 x3 x4 x5 x6 x7 x8 x9 x10 x11 x12 x13 x14 x15 x16 x17=some true:=by
  have hF':4300000000≤F:=by omega
  unfold zea
  obtain ⟨b1,h1,k1⟩:=moderate_spec F x1 x2 x3 x4 x5 x6
  obtain ⟨b2,h2,k2⟩:=moderate_spec F x7 x8 x9 x10 x11 x12
  rw [hal,Option.bind_some,h1,Option.bind_some]
  unfold zcj
  rcases Bool.eq_false_or_eq_true b1 with hb1 | hb1
  rotate_left
  · rw [hb1,if_pos (by decide),if_pos (by simp)]
  rw [hb1,if_neg (by decide),h2,Option.bind_some]
  obtain ⟨m1,m2,m3⟩:=k1 hb1
  by_cases hc:(((((!b2)||(decide (x13<(-86400000000000:Int))))||(decide (x13>(86400000000000:Int))))||(decide (x14>(1073741824:Int))))||(!true))=true
  · rw [if_pos hc]
  rw [if_neg hc]
  simp only [Bool.or_eq_true,decide_eq_true_eq,not_or,Bool.not_eq_true',Bool.not_true,Bool.false_eq_true,not_false_eq_true,and_true] at hc
  obtain ⟨⟨⟨hb2,t1⟩,t2⟩,t3⟩:=hc
  obtain ⟨n1,n2,n3⟩:=k2 (by simpa using hb2)
  have w14:IntKind.i64.wrap x14=x14:=i64_of (by omega)
  have w15:IntKind.i64.wrap x15=x15:=i64_of (by omega)
  have w16:IntKind.i64.wrap x16=x16:=i64_of (by omega)
  have w17:IntKind.i64.wrap x17=x17:=i64_of (by omega)
  have w1:IntKind.i64.wrap (x14+1)=x14+1:=i64_of (by omega)
  obtain ⟨l1,r1,l2,r2,l3,r3,eA,G1,G2,G3⟩:=ahead hF m1 m2 m3 n1 n2 n3 (dt:=x13) (q:=x14) (by omega) (by omega)
  obtain ⟨da,db,dc,dd,eD,fD⟩:=v_Of hF' (x:=x13) (y:=86400000000) (by omega) (by omega)
  obtain ⟨ha,hb,hc',hd,eH,fH⟩:=v_Of hF' (x:=1) (y:=2) (by omega) (by omega)
  obtain ⟨ub1,ul1,ub2,ul2,ua,ub,uc,ud,eU1,eU2,eU3,fU⟩:=v_Reduced hF' (x:=1) (y:=1099511627776) (by omega) (by omega)
  have tm:∀ x:Int,-x14≤Int.tmod x (x14+1)∧Int.tmod x (x14+1)≤x14:=fun x=>by
    have h1:=Int.tmod_lt_of_pos x (show 0<x14+1 by omega)
    have h2:=Int.lt_tmod_of_pos x (show 0<x14+1 by omega)
    omega
  have C1:=comp hF (d:=(da,db,dc,dd,0)) (h:=(ha,hb,hc',hd,0)) (u:=(ua,ub,uc,ud)) (v:=x8) (g:=Int.tmod x15 (x14+1)) (p:=x1) fD fH fU (by unfold I64; unfold Mod at n1; omega) (by unfold I64; have:=tm x15; omega) (by unfold I64; unfold Mod at m1; omega) (by have:=G1.1; omega) (by have:=G1.1; omega) (G1.2 _ (tm x15).1 (tm x15).2).1 (G1.2 _ (tm x15).1 (tm x15).2).2
  have C2:=comp hF (d:=(da,db,dc,dd,0)) (h:=(ha,hb,hc',hd,0)) (u:=(ua,ub,uc,ud)) (v:=x10) (g:=Int.tmod x16 (x14+1)) (p:=x3) fD fH fU (by unfold I64; unfold Mod at n2; omega) (by unfold I64; have:=tm x16; omega) (by unfold I64; unfold Mod at m2; omega) (by have:=G2.1; omega) (by have:=G2.1; omega) (G2.2 _ (tm x16).1 (tm x16).2).1 (G2.2 _ (tm x16).1 (tm x16).2).2
  have C3:=comp hF (d:=(da,db,dc,dd,0)) (h:=(ha,hb,hc',hd,0)) (u:=(ua,ub,uc,ud)) (v:=x12) (g:=Int.tmod x17 (x14+1)) (p:=x5) fD fH fU (by unfold I64; unfold Mod at n3; omega) (by unfold I64; have:=tm x17; omega) (by unfold I64; unfold Mod at m3; omega) (by have:=G3.1; omega) (by have:=G3.1; omega) (G3.2 _ (tm x17).1 (tm x17).2).1 (G3.2 _ (tm x17).1 (tm x17).2).2
  obtain ⟨A1,A2,A3,A4,A5,A6,A7,A8,A9,A0,p1,p2,p3,p4,p5,p6,p7,p8,p9,p0,pq⟩:=C1
  obtain ⟨B1,B2,B3,B4,B5,B6,B7,B8,B9,B0,q1,q2,q3,q4,q5,q6,q7,q8,q9,q0,qq⟩:=C2
  obtain ⟨C1,C2,C3,C4,C5,C6,C7,C8,C9,C0,s1,s2,s3,s4,s5,s6,s7,s8,s9,s0,sq⟩:=C3
  have hck:zeN F l1 r1 l2 r2 l3 r3=some 0:=by
    unfold zeN zeA
    rw [ref_check G1.1,Option.bind_some,if_neg (by decide),ref_check G2.1,Option.bind_some,if_neg (by decide),ref_check G3.1,Option.bind_some,if_neg (by decide)]
  have hne:¬ x14+1=0:=by omega
  unfold zeG zci zda
  simp only [w14,w15,w16,w17,w1,eA,hck,eD,eU1,eU2,eU3,eH,Option.bind_some,ne_eq,not_true_eq_false,if_false,decide_false,Bool.false_eq_true,hne,not_false_eq_true,if_true]
  simp only [p1,Option.bind_some,p2,p3,p4,p5,p6,p7,p8,p9,p0,pq,Bool.not_true,Bool.false_eq_true,if_false]
  simp only [q1,Option.bind_some,q2,q3,q4,q5,q6,q7,q8,q9,q0,qq,Bool.not_true,Bool.false_eq_true,if_false]
  simp only [s1,Option.bind_some,s2,s3,s4,s5,s6,s7,s8,s9,s0,sq,Bool.not_true,Bool.false_eq_true,if_false]
end
end Go.Proofs.YtjaiebdcmjjnbaaGreat
