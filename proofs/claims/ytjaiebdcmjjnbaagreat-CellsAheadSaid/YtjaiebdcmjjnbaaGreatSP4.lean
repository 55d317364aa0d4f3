/- The law CellsAhead of the models. -/
import Derived.Test.YtjaiebdcmjjnbaaGreatSP3
set_option linter.unusedVariables false
set_option linter.unusedSimpArgs false
namespace Go.Proofs.YtjaiebdcmjjnbaaGreat
open Go Go.SL
abbrev T4:Type:=Bool × (List Int) × Bool × (List Int)
abbrev T5:Type:=Bool × (List Int) × Bool × (List Int) × Int
def Comp (F:Nat) (d h:T5) (u:T4) (v g p lo hi:Int):Prop:=∃ (A:T4) (B:T5) (C:T4) (D E G H:T5) (I:T4) (J K:T5),
  zaS F v=some A∧zaC F A.1 A.2.1 A.2.2.1 A.2.2.2 d.1 d.2.1 d.2.2.1 d.2.2.2.1=some B∧zaS F g=some C∧zaC F C.1 C.2.1 C.2.2.1 C.2.2.2 d.1 d.2.1 d.2.2.1 d.2.2.2.1=some D ∧
  zaC F D.1 D.2.1 D.2.2.1 D.2.2.2.1 d.1 d.2.1 d.2.2.1 d.2.2.2.1=some E∧zaC F E.1 E.2.1 E.2.2.1 E.2.2.2.1 h.1 h.2.1 h.2.2.1 h.2.2.2.1=some G∧zbB F B.1 B.2.1 B.2.2.1 B.2.2.2.1 G.1 G.2.1 G.2.2.1 G.2.2.2.1=some H ∧
  zaS F p=some I∧zbB F H.1 H.2.1 H.2.2.1 H.2.2.2.1 I.1 I.2.1 I.2.2.1 I.2.2.2=some J∧zaC F J.1 J.2.1 J.2.2.1 J.2.2.2.1 u.1 u.2.1 u.2.2.1 u.2.2.2=some K∧zcQ F lo hi K.1 K.2.1 K.2.2.1 K.2.2.2.1=some true
section
variable {F:Nat} (hF:8589934592≤F)
include hF
theorem comp {d h:T5} {u:T4} {dt v g p lo hi:Int} (hd:Vf d.1 d.2.1 d.2.2.1 d.2.2.2.1 dt 86400000000 2) (hh:Vf h.1 h.2.1 h.2.2.1 h.2.2.2.1 1 2 2) (hu:Vf u.1 u.2.1 u.2.2.1 u.2.2.2 1 1099511627776 2)
    (hv:I64 v) (hg:I64 g) (hp:I64 p) (hlo:-2305843009213693952≤lo∧lo≤2305843009213693952) (hhi:-2305843009213693952≤hi∧hi≤2305843009213693952)
    (h1:2*lo*7464960000000000000000≤2*p*7464960000000000000000+2*(v*dt)*86400000000+g*dt*dt) (h2:2*p*7464960000000000000000+2*(v*dt)*86400000000+g*dt*dt≤2*hi*7464960000000000000000):Comp F d h u v g p lo hi:=by
  have hF':4300000000≤F:=by omega
  obtain ⟨a1,a2,a3,a4,eA,fA⟩:=v_Whole hF' hv
  obtain ⟨b1,b2,b3,b4,eB,fB⟩:=v_Times hF' fA hd (by omega) (by omega)
  obtain ⟨c1,c2,c3,c4,eC,fC⟩:=v_Whole hF' hg
  obtain ⟨d1,d2,d3,d4,eD,fD⟩:=v_Times hF' fC hd (by omega) (by omega)
  obtain ⟨e1,e2,e3,e4,eE,fE⟩:=v_Times hF' fD hd (by omega) (by omega)
  obtain ⟨g1,g2,g3,g4,eG,fG⟩:=v_Times hF' fE hh (by omega) (by omega)
  obtain ⟨k1,k2,k3,k4,eH,fH⟩:=v_Plus hF' fB fG (by omega) (by omega)
  obtain ⟨i1,i2,i3,i4,eI,fI⟩:=v_Whole hF' hp
  obtain ⟨j1,j2,j3,j4,eJ,fJ⟩:=v_Plus hF' fH fI (by omega) (by omega)
  obtain ⟨l1,l2,l3,l4,eK,fK⟩:=v_Times hF' fJ hu (by omega) (by omega)
  have eH':zcQ F lo hi l1 l2 l3 l4=some true:=by
    refine v_Has hF' fK (by decide) (by omega) hlo hhi ?_ ?_
    · generalize v*dt=X at *
      generalize g*dt*dt=Y at *
      omega
    · generalize v*dt=X at *
      generalize g*dt*dt=Y at *
      omega
  exact ⟨(a1,a2,a3,a4),(b1,b2,b3,b4,0),(c1,c2,c3,c4),(d1,d2,d3,d4,0),(e1,e2,e3,e4,0),(g1,g2,g3,g4,0),(k1,k2,k3,k4,0),(i1,i2,i3,i4),(j1,j2,j3,j4,0),(l1,l2,l3,l4,0),eA,eB,eC,eD,eE,eG,eH,eI,eJ,eK,eH'⟩
omit hF in
theorem absmul {x y A B:Int} (hx:-A≤x∧x≤A) (hy:-B≤y∧y≤B):-(A*B)≤x*y∧x*y≤A*B:=by
  have h1:x.natAbs≤A.toNat:=by omega
  have h2:y.natAbs≤B.toNat:=by omega
  have h3:x.natAbs*y.natAbs≤A.toNat*B.toNat:=Nat.mul_le_mul h1 h2
  have h4:((x*y).natAbs:Int)≤A*B:=by
    rw [Int.natAbs_mul]
    have:((A.toNat*B.toNat:Nat):Int)=A*B:=by
      push_cast; rw [Int.toNat_of_nonneg (by omega),Int.toNat_of_nonneg (by omega)]
    omega
  omega
theorem part_spec {a b dt:Int} (hab:a≤b) (ha:-70368744177664≤a) (hb:b≤70368744177664) (hdt:-86400000000000≤dt∧dt≤86400000000000) :
    ∃ l h,za5 F a b dt 86400000000=some (l,h,0)∧l≤h∧-70368744177664001≤l∧h≤70368744177664001∧l*86400000000≤b*dt∧b*dt≤h*86400000000:=by
  have m1:=absmul (x:=a) (y:=dt) (A:=70368744177664) (B:=86400000000000) (by omega) hdt
  have m2:=absmul (x:=b) (y:=dt) (A:=70368744177664) (B:=86400000000000) (by omega) hdt
  have hs:=scale_spec hF (a:=a) (b:=b) (n:=dt) (d:=86400000000) (by omega) (by unfold I64; omega) (by omega) (by omega) (by omega)
  generalize a*dt=X at *
  generalize b*dt=Y at *
  obtain ⟨L,hL⟩:∃ L,L=if Y<X then Y else X:=⟨_,rfl⟩
  obtain ⟨G,hG⟩:∃ G,G=if X<Y then Y else X:=⟨_,rfl⟩
  rw [← hL,← hG] at hs
  have b1:=fdiv_bounds (z:=L) (d:=86400000000) (by omega)
  have b2:=cdiv_bounds (z:=G) (d:=86400000000) (by omega)
  refine ⟨_,_,hs,?_,?_,?_,?_,?_⟩ <;> split at hL <;> split at hG <;> omega
theorem pull_spec {q dt:Int} (hq:0≤q∧q≤1073741824) (hdt:-86400000000000≤dt∧dt≤86400000000000) :
    ∃ a1 b1 a2 b2 a3 G,za5 F q q dt 86400000000=some (a1,b1,0)∧za5 F a1 b1 dt 86400000000=some (a2,b2,0)∧za5 F a2 b2 1 2=some (a3,G,0)∧0≤G∧G≤2000000000000000∧q*dt*dt≤2*G*7464960000000000000000:=by
  obtain ⟨a1,b1,h1,h2,h3,h4,h5,h6⟩:=part_spec hF (a:=q) (b:=q) (dt:=dt) (Int.le_refl _) (by omega) (by omega) hdt
  have m1:=absmul (x:=q) (y:=dt) (A:=1073741824) (B:=86400000000000) (by omega) hdt
  have r1:-1073741825000≤a1∧b1≤1073741825000:=by
    have hs:=scale_spec hF (a:=q) (b:=q) (n:=dt) (d:=86400000000) (by omega) (by unfold I64; omega) (by omega) (by omega) (by omega)
    rw [h1] at hs
    simp only [Option.some.injEq,Prod.mk.injEq,Int.lt_irrefl,if_false] at hs
    obtain ⟨k1,k2,_⟩:=hs
    have b1':=fdiv_bounds (z:=q*dt) (d:=86400000000) (by omega)
    have b2':=cdiv_bounds (z:=q*dt) (d:=86400000000) (by omega)
    rw [← k1] at b1'; rw [← k2] at b2'
    omega
  have m2:=absmul (x:=a1) (y:=dt) (A:=1073741825000) (B:=86400000000000) (by omega) hdt
  have m3:=absmul (x:=b1) (y:=dt) (A:=1073741825000) (B:=86400000000000) (by omega) hdt
  have hs2:=scale_spec hF (a:=a1) (b:=b1) (n:=dt) (d:=86400000000) (by omega) (by unfold I64; omega) (by omega) (by omega) (by omega)
  have hsq:q*dt*dt≤(if a1*dt<b1*dt then b1*dt else a1*dt)*86400000000:=by
    rcases Int.lt_or_le dt 0 with hneg | hpos
    · have h7:q*dt*dt≤a1*86400000000*dt:=Int.mul_le_mul_of_nonpos_right h5 (by omega)
      have h8:a1*86400000000*dt=a1*dt*86400000000:=by grind
      rw [h8] at h7
      split <;> omega
    · have h7:q*dt*dt≤b1*86400000000*dt:=Int.mul_le_mul_of_nonneg_right h6 hpos
      have h8:b1*86400000000*dt=b1*dt*86400000000:=by grind
      rw [h8] at h7
      split <;> omega
  have hsq0:0≤q*dt*dt:=by
    rw [Int.mul_assoc]
    refine Int.mul_nonneg hq.1 ?_
    rcases Int.lt_or_le dt 0 with hneg | hpos
    · exact Int.mul_nonneg_of_nonpos_of_nonpos (by omega) (by omega)
    · exact Int.mul_nonneg hpos hpos
  obtain ⟨L,hL⟩:∃ L,L=if b1*dt<a1*dt then b1*dt else a1*dt:=⟨_,rfl⟩
  obtain ⟨M,hM⟩:∃ M,M=if a1*dt<b1*dt then b1*dt else a1*dt:=⟨_,rfl⟩
  rw [← hL,← hM] at hs2
  rw [← hM] at hsq
  have b3:=fdiv_bounds (z:=L) (d:=86400000000) (by omega)
  have b4:=cdiv_bounds (z:=M) (d:=86400000000) (by omega)
  have hLM:L≤M:=by
    generalize a1*dt=X at *
    generalize b1*dt=Y at *
    split at hL <;> split at hM <;> omega
  have hr:-93000000000000000000000000≤L∧M≤93000000000000000000000000:=by
    generalize a1*dt=X at *
    generalize b1*dt=Y at *
    constructor
    · split at hL <;> omega
    · split at hM <;> omega
  obtain ⟨a2,ha2⟩:∃ a2,a2=L/86400000000:=⟨_,rfl⟩
  obtain ⟨b2,hb2⟩:∃ b2,b2=cdiv M 86400000000:=⟨_,rfl⟩
  rw [← ha2,← hb2] at hs2
  rw [← ha2] at b3
  rw [← hb2] at b4
  have hs3:=scale_spec hF (a:=a2) (b:=b2) (n:=1) (d:=2) (by omega) (by unfold I64; omega) (by omega) (by omega) (by omega)
  rw [Int.mul_one,Int.mul_one] at hs3
  obtain ⟨N,hN⟩:∃ N,N=if a2<b2 then b2 else a2:=⟨_,rfl⟩
  rw [← hN] at hs3
  have b5:=cdiv_bounds (z:=N) (d:=2) (by omega)
  have hNb:b2≤N∧N≤1100000000000000:=by split at hN <;> omega
  refine ⟨a1,b1,a2,b2,_,_,h1,hs2,hs3,?_,?_,?_⟩
  · omega
  · omega
  · omega
end
end Go.Proofs.YtjaiebdcmjjnbaaGreat
