/- Part of a proof: laws and walks. -/
import Derived.Test.YtbccfconmcgfgaaGreatTaj
import Derived.Test.YtbccfconmcgfgaaGreatTac
import Derived.Test.YtbccfconmcgfgaaGreatTad
import Derived.Test.YtbccfconmcgfgaaGreatTai
set_option linter.unusedVariables false
set_option linter.unusedSimpArgs false
set_option maxHeartbeats 1000000
set_option maxRecDepth 8000
namespace Go.Proofs.YtbccfconmcgfgaaGreat
open Go Go.SL
theorem aE4:au Tryz.prog 10=true:=by kernel_rfl
theorem aC0:au Tryz.prog 13=true:=by kernel_rfl
theorem aGB:au Tryz.prog 4=true:=by kernel_rfl
theorem aGX:au Tryz.prog 5=true:=by kernel_rfl
theorem aGc:au Tryz.prog 6=true:=by kernel_rfl
theorem aGJ:au Tryz.prog 7=true:=by kernel_rfl
theorem aGM:au Tryz.prog 8=true:=by kernel_rfl
theorem aGK:au Tryz.prog 9=true:=by kernel_rfl
theorem aCH:pu Tryz.prog 40=some 32:=by kernel_rfl
theorem aEO:Tryz.prog.eqGuardType Tryz.prog.depth 40=false:=by kernel_rfl
theorem aFl:tFs Tryz.prog 40=some [(2,0),(2,1),(2,2),(3,3)]:=by kernel_rfl
def jN (F:Nat) (x22:(List (Int × Int)) × Int × Int) (x24:(List (Int × Int)) × Int × Int) (x32:Bool):Option Bool :=
  some ((x32&&(decide (x22.2.1=(x24.2.1:Int))))&&(decide (x22.2.2=(x24.2.2:Int))))
def jP (F:Nat) (x18:(List (Int × Int)) × Int) (x20:(List (Int × Int)) × Int) (x22:(List (Int × Int)) × Int × Int) (x24:(List (Int × Int)) × Int × Int) (x30:Bool):Option Bool :=
  if (x30&&(decide (x18.2=(x20.2:Int))))=true then ((j3 F x22.1 x24.1).bind fun x36=>jN F x22 x24 x36) else (jN F x22 x24 false)
def jO (F:Nat) (x2:List (Int × Int × Int × Int)) (x16:Int × Int) (x17:Int × Int) (x18:(List (Int × Int)) × Int) (x20:(List (Int × Int)) × Int) (x22:(List (Int × Int)) × Int × Int) (x24:(List (Int × Int)) × Int × Int):Option Bool :=
  (kZ F x2).bind fun x26=>(iB F (([]:List (Int × Int × Int × Int))++x2)).bind fun x27=>if (((decide (x26=(x27:Int)))&&(decide (x16.1=(x17.1:Int))))&&(decide (x16.2=(x17.2:Int))))=true then ((j3 F x18.1 x20.1).bind fun x38=>jP F x18 x20 x22 x24 x38) else (jP F x18 x20 x22 x24 false)
def fU (F:Nat) (x2:List (Int × Int × Int × Int)) (x16:Int × Int) (x17:Int × Int) (x18:(List (Int × Int)) × Int) (x20:(List (Int × Int)) × Int) (x22:(List (Int × Int)) × Int × Int) (x24:(List (Int × Int)) × Int × Int) (rec40:Int→Option Bool) (x39:Int):Option Bool :=
  if x39<((x2.length:Int):Int) then ((idx x2 x39).bind fun x42=>(idx (([]:List (Int × Int × Int × Int))++x2) x39).bind fun x43=>if (!((x42.1 == x43.1)&&((x42.2.1 == x43.2.1)&&((x42.2.2.1 == x43.2.2.1)&&((x42.2.2.2 == x43.2.2.2)&&(true))))))=true then (some false) else (rec40 (IntKind.i64.wrap (x39+1)))) else (jO F x2 x16 x17 x18 x20 x22 x24)
def eB (F:Nat) (x2:List (Int × Int × Int × Int)) (x16:Int × Int) (x17:Int × Int) (x18:(List (Int × Int)) × Int) (x20:(List (Int × Int)) × Int) (x22:(List (Int × Int)) × Int × Int) (x24:(List (Int × Int)) × Int × Int):Nat→Int→Option Bool
  | 0,_=>none
  | n+1,x39=>fU F x2 x16 x17 x18 x20 x22 x24 (eB F x2 x16 x17 x18 x20 x22 x24 n) x39
def oW (F:Nat)  (x2:List (Int × Int × Int × Int)) (x4:List Int) (x5:Int) (x6:Int) (x7:Int):Option Bool :=
  (sS F x2).bind fun x8=>if (x8||(decide ((x4.length:Int)>(20:Int))))=true then (some true) else (if (([]:List (Int × Int × Int × Int)).length:Int)≤4294967296 then if (x2.length:Int)≤4294967296 then (kg F x5 x6 x7).bind fun x16=>(lH F x5 x6 x7).bind fun x17=>(nI F x2 x4).bind fun x18=>(ni F (([]:List (Int × Int × Int × Int))++x2) x4).bind fun x20=>(pY F x2).bind fun x22=>(r9 F (([]:List (Int × Int × Int × Int))++x2)).bind fun x24=>eB F x2 x16 x17 x18 x20 x22 x24 F 0 else none else none)
theorem vZ (F:Nat)    (s1:Value) (x2:List (Int × Int × Int × Int)) (s3:Value) (x4:List Int) (x5:Int) (x6:Int) (x7:Int) (w0:World) (h_s1:aV (hp w0) 4 E40 s1 x2) (h_s3:aV (hp w0) 1 E3 s3 x4) (r:Bool) (hm:oW F x2 x4 x5 x6 x7=some r) :
    Ret Tryz.prog 3 #[s1,s3,Iv x5,Iv x6,Iv x7] w0 (G:=Unit) (fun _=>Bv r) (fun _ w=>St w0 w noX [] []):=by
 unfold oW at hm; refine aX (lv:=[s1,s3,Iv x5,Iv x6,Iv x7]) Tryz.func3 rfl rfl rfl (fun a hf=>?_); replace hf:Fr a 130 [] [(0,s1),(1,s3),(2,Iv x5),(3,Iv x6),(4,Iv x7)]:=hf; have hS:St w0 w0 noX [rdE 4 E40 s1 x2,rdE 1 E3 s3 x4] []:=St.borrow (aD (aY h_s1) (aD (aY h_s3) aL)); refine sg (l:=[0]) rfl<|mv hf rfl fun a hf=>nk<|W.seq<|sg (l:=[0,1,2,3,4,5,6]) rfl<|mv hf rfl fun a hf=>?_; obtain ⟨x8,hx8,hm⟩:=aO hm; refine oc hf rfl aGB (y7 F s1 x2 _ (hS.b 0 rfl) x8 hx8) ?_; rintro _ w hS1 a hf; replace hS:=hS.cl hS1; refine mv hf rfl fun a hf=>?_; refine O.fH (l₁:=[3,4,5,6]) (l₂:=_) (fun a w=>Fr a 130 [] [(0,s1),(1,s3),(2,Iv x5),(3,Iv x6),(4,Iv x7),(10,Bv false),(33,Bv (x8||(decide ((x4.length:Int)>(20:Int)))))]∧St w0 w noX [rdE 4 E40 s1 x2,rdE 1 E3 s3 x4] []) rfl ?_ ?_
 ·rcases Bool.eq_false_or_eq_true (x8) with hb9 | hb9
  ·refine sk hf rfl hb9 fun a hf=>sk hf rfl hb9 fun a hf=>sk hf rfl hb9 fun a hf=>?_; refine ov (v:=Bv (x8||(decide ((x4.length:Int)>(20:Int))))) hf rfl (aA.pick rfl rfl rfl (by rw [hb9]; rfl)) ?_; clear hf a; intro a hf; exact O.nil ⟨rfl,hf.q rfl,hS⟩
  ·refine og hf rfl hb9 (aA.move rfl) fun a hf=>og (v:=Iv (x4.length:Int)) hf rfl hb9 (aA.dJ (e:=3) (by simpa using bJ) rfl (hS.b 1 rfl)) fun a hf=>og (v:=Bv (decide ((x4.length:Int)>(20:Int)))) hf rfl hb9 (aA.gtr rfl rfl) fun a hf=>?_; refine ov (v:=Bv (x8||(decide ((x4.length:Int)>(20:Int))))) hf rfl (aA.pick rfl rfl rfl (by rw [hb9]; rfl)) ?_; clear hf a; intro a hf; exact O.nil ⟨rfl,hf.q rfl,hS⟩
 clear hf hS a; (try clear w); rintro a w ⟨hf,hS⟩; refine nk ?_; refine W.if_ hf rfl (fun hc10=>?_) (fun hc10=>?_)
 ·replace hm:=kS hm hc10; refine sg (l:=[0]) rfl<|mv hf rfl fun a hf=>nk<|W.ret<|aF<|?_; obtain rfl:=Option.some.inj hm; refine bU hf rfl (aJ.tmp rfl) ?_; exact ⟨(),rfl,hS.noB⟩
 ·replace hm:=kU hm hc10; refine W.skip<|aP<|sg (l:=[0,1,2,3]) rfl<|O.rE hf hS rfl rfl fB fA rfl<|?_; intro b11 w a hb11 hS hf; obtain ⟨s12,hs12⟩:∃ v,v=Value.slice (some ⟨b11,0,none⟩) 0 0:=⟨_,rfl⟩; rw [← hs12] at hf hS; replace hS:St w0 _ noX [rdE 4 E40 s1 x2,rdE 1 E3 s3 x4] [slE 40 4 E40 s12 ([]:List (Int × Int × Int × Int))]:=hS; refine mv hf rfl fun a hf=>?_; obtain ⟨hg13,hm⟩:=fu hm; obtain ⟨hg14,hm⟩:=fu hm; refine O.wB (j:=0) (l':=([]:List (Int × Int × Int × Int))++x2) hf hS rfl rfl fB fA aCH vG rfl rfl rfl rfl rfl (hS.b 0 rfl) aFm hg13 hg14 rfl rfl ?_; intro s15 w a hS hf; replace hS:St w0 _ noX [rdE 4 E40 s1 x2,rdE 1 E3 s3 x4] [slE 40 4 E40 s15 (([]:List (Int × Int × Int × Int))++x2)]:=hS; refine mv hf rfl fun a hf=>nk<|sg (l:=[0,1,2,3,4,5,6,7,8]) rfl<|mv hf rfl fun a hf=>mv hf rfl fun a hf=>mv hf rfl fun a hf=>?_; obtain ⟨x16,hx16,hm⟩:=aO hm; refine oc hf rfl aGX (yZ F x5 x6 x7 _ x16 hx16) ?_; rintro _ w hS1 a hf; replace hS:=hS.cl hS1; refine mv hf rfl fun a hf=>ov hf rfl (aA.extract rfl rfl) fun a hf=>ov hf rfl (aA.extract rfl rfl) fun a hf=>mv hf rfl fun a hf=>mv hf rfl fun a hf=>nk<|sg (l:=[0,1,2,3,4,5,6,7,8]) rfl<|mv hf rfl fun a hf=>mv hf rfl fun a hf=>mv hf rfl fun a hf=>?_; obtain ⟨x17,hx17,hm⟩:=aO hm; refine oc hf rfl aGc (xM F x5 x6 x7 _ x17 hx17) ?_; rintro _ w hS1 a hf; replace hS:=hS.cl hS1; refine mv hf rfl fun a hf=>ov hf rfl (aA.extract rfl rfl) fun a hf=>ov hf rfl (aA.extract rfl rfl) fun a hf=>mv hf rfl fun a hf=>mv hf rfl fun a hf=>nk<|sg (l:=[0,1,2,3,4,5,6,7]) rfl<|mv hf rfl fun a hf=>mv hf rfl fun a hf=>?_; obtain ⟨x18,hx18,hm⟩:=aO hm; refine oc hf rfl aGJ (yh F s1 x2 s3 x4 _ (hS.b 0 rfl) (hS.b 1 rfl) x18 hx18) ?_; rintro s19 w hS1 a hf; replace hS:=hS.cl hS1; refine mv hf rfl fun a hf=>ov hf rfl (aA.extract rfl rfl) fun a hf=>ov hf rfl (aA.extract rfl rfl) fun a hf=>mv hf rfl fun a hf=>mv hf rfl fun a hf=>nk<|sg (l:=[0,1,2,3,4,5,6,7]) rfl<|mv hf rfl fun a hf=>mv hf rfl fun a hf=>?_; obtain ⟨x20,hx20,hm⟩:=aO hm; refine oc hf rfl aGM (xS F s15 (([]:List (Int × Int × Int × Int))++x2) s3 x4 _ (hS.s 1 rfl) (hS.b 1 rfl) x20 hx20) ?_; rintro s21 w hS1 a hf; replace hS:=hS.cl hS1; refine mv hf rfl fun a hf=>ov hf rfl (aA.extract rfl rfl) fun a hf=>ov hf rfl (aA.extract rfl rfl) fun a hf=>mv hf rfl fun a hf=>mv hf rfl fun a hf=>nk<|sg (l:=[0,1,2,3,4,5,6,7,8]) rfl<|mv hf rfl fun a hf=>?_; obtain ⟨x22,hx22,hm⟩:=aO hm; refine oc hf rfl aGK (aAD F s1 x2 _ (hS.b 0 rfl) x22 hx22) ?_; rintro s23 w hS1 a hf; replace hS:=hS.cl hS1; refine mv hf rfl fun a hf=>ov hf rfl (aA.extract rfl rfl) fun a hf=>ov hf rfl (aA.extract rfl rfl) fun a hf=>ov hf rfl (aA.extract rfl rfl) fun a hf=>mv hf rfl fun a hf=>mv hf rfl fun a hf=>mv hf rfl fun a hf=>nk<|sg (l:=[0,1,2,3,4,5,6,7,8]) rfl<|mv hf rfl fun a hf=>?_; obtain ⟨x24,hx24,hm⟩:=aO hm; refine oc hf rfl aE4 (zK F s15 (([]:List (Int × Int × Int × Int))++x2) _ (hS.s 3 rfl) x24 hx24) ?_; rintro s25 w hS1 a hf; replace hS:=hS.cl hS1; refine mv hf rfl fun a hf=>ov hf rfl (aA.extract rfl rfl) fun a hf=>ov hf rfl (aA.extract rfl rfl) fun a hf=>ov hf rfl (aA.extract rfl rfl) fun a hf=>mv hf rfl fun a hf=>mv hf rfl fun a hf=>mv hf rfl fun a hf=>nk<|?_; refine W.fV (fun a w=>Fr a 130 [] [(0,s1),(10,Bv false),(11,s15),(12,Iv x16.1),(13,Iv x16.2),(14,Iv x17.1),(15,Iv x17.2),(16,s19),(17,Iv x18.2),(18,s21),(19,Iv x20.2),(20,s23),(21,Iv x22.2.1),(22,Iv x22.2.2),(23,s25),(24,Iv x24.2.1),(25,Iv x24.2.2)]∧St w0 w noX [rdE 4 E40 s1 x2,rdE 1 E3 s3 x4] [slE 40 4 E40 s15 (([]:List (Int × Int × Int × Int))++x2),slE 85 2 E85 s19 x18.1,slE 85 2 E85 s21 x20.1,slE 85 2 E85 s23 x22.1,slE 85 2 E85 s25 x24.1]∧jO F x2 x16 x17 x18 x20 x22 x24=some r) ?_ ?_
  ·refine sg (l:=[0]) rfl<|mv hf rfl fun a hf=>nk<|W.block<|?_; replace hS:=hS.fr 1; replace hS:=hS.fr 2; replace hS:=hS.fr 3; replace hS:=hS.fr 4; refine W.loop (G:=Nat × Int) (fun g a w=>match g with | (k40,x39)=>Fr a 130 [] [(0,s1),(10,Bv false),(11,s15),(12,Iv x16.1),(13,Iv x16.2),(14,Iv x17.1),(15,Iv x17.2),(16,s19),(17,Iv x18.2),(18,s21),(19,Iv x20.2),(20,s23),(21,Iv x22.2.1),(22,Iv x22.2.2),(23,s25),(24,Iv x24.2.1),(25,Iv x24.2.2),(26,Iv x39)]∧St w0 w noX [rdE 4 E40 s1 x2,rdE 1 E3 s3 x4] [slE 40 4 E40 s15 (([]:List (Int × Int × Int × Int))++x2),slE 85 2 E85 s19 x18.1,slE 85 2 E85 s21 x20.1,slE 85 2 E85 s23 x22.1,slE 85 2 E85 s25 x24.1]∧eB F x2 x16 x17 x18 x20 x22 x24 k40 x39=some r) (fun g=>match g with | (k40,x39)=>k40) (F,0) ⟨hf.q rfl,hS,hm⟩ ?_; clear hf hS hm a; (try clear w); rintro ⟨k40,x39⟩ a w ⟨hf,hS,hm⟩
   rcases k40 with _ | k40
   · exact absurd (show none=some r from hm) (by simp)
   replace hm:fU F x2 x16 x17 x18 x20 x22 x24 (eB F x2 x16 x17 x18 x20 x22 x24 k40) x39=some r:=hm; obtain ⟨rec40,hrec40⟩:∃ f,f=eB F x2 x16 x17 x18 x20 x22 x24 k40:=⟨_,rfl⟩; rw [← hrec40] at hm; unfold fU at hm; refine W.seq<|sg (l:=[0,1,2,3]) rfl<|mv hf rfl fun a hf=>mv hf rfl fun a hf=>ov (v:=Iv (x2.length:Int)) hf rfl (aA.dJ (e:=40) (by simpa using fB) rfl (hS.b 0 rfl)) fun a hf=>ov (v:=Bv (decide (x39<((x2.length:Int):Int)))) hf rfl (aA.lss rfl rfl) fun a hf=>nk<|?_; refine W.cK hf rfl (fun hc41=>?_) (fun hc41=>?_)
   ·replace hm:=bX hm hc41; refine W.skip<|aP<|?_; replace hf:Fr a 130 [] [(0,s1),(10,Bv false),(11,s15),(12,Iv x16.1),(13,Iv x16.2),(14,Iv x17.1),(15,Iv x17.2),(16,s19),(17,Iv x18.2),(18,s21),(19,Iv x20.2),(20,s23),(21,Iv x22.2.1),(22,Iv x22.2.2),(23,s25),(24,Iv x24.2.1),(25,Iv x24.2.2),(26,Iv x39)]:=hf.q rfl; refine W.seq<|W.block<|W.seq<|?_; obtain ⟨x42,hx42,hm⟩:=aO hm; obtain ⟨x43,hx43,hm⟩:=aO hm; refine W.qh (fun w=>St w0 w noX [rdE 4 E40 s1 x2,rdE 1 E3 s3 x4] [slE 40 4 E40 s15 (([]:List (Int × Int × Int × Int))++x2),slE 85 2 E85 s19 x18.1,slE 85 2 E85 s21 x20.1,slE 85 2 E85 s23 x22.1,slE 85 2 E85 s25 x24.1]) bq rfl (by kernel_rfl) rfl hS.drew ?_; clear hS; (try clear w); refine OQ.val (v:=s1) hf rfl (fun w hS=>aA.move rfl) fun a hf=>OQ.val (v:=Iv x39) hf rfl (fun w hS=>aA.move rfl) fun a hf=>OQ.val (v:=ix s1 (Int.toNat x39*4)) hf rfl (fun w hS=>aA.ixE fB fA rfl rfl (hS.b 0 rfl) hx42) fun a hf=>OQ.val (v:=.agg #[Iv x42.1,Iv x42.2.1,Iv x42.2.2.1,Iv x42.2.2.2]) hf rfl (fun w hS=>aA.aAk (us:=[Iv x42.1,Iv x42.2.1,Iv x42.2.2.1,Iv x42.2.2.2]) (o:=0) tH fA rfl tu rfl (hS.b 0 rfl) hx42 rfl rfl rfl) fun a hf=>OQ.val (v:=s15) hf rfl (fun w hS=>aA.move rfl) fun a hf=>OQ.val (v:=Iv x39) hf rfl (fun w hS=>aA.move rfl) fun a hf=>OQ.val (v:=ix s15 (Int.toNat x39*4)) hf rfl (fun w hS=>aA.ixE fB fA rfl rfl (hS.s 0 rfl) hx43) fun a hf=>OQ.val (v:=.agg #[Iv x43.1,Iv x43.2.1,Iv x43.2.2.1,Iv x43.2.2.2]) hf rfl (fun w hS=>aA.aAk (us:=[Iv x43.1,Iv x43.2.1,Iv x43.2.2.1,Iv x43.2.2.2]) (o:=0) tH fA rfl tu rfl (hS.s 0 rfl) hx43 rfl rfl rfl) fun a hf=>OQ.val (v:=Bv (!((x42.1 == x43.1)&&((x42.2.1 == x43.2.1)&&((x42.2.2.1 == x43.2.2.1)&&((x42.2.2.2 == x43.2.2.2)&&(true))))))) hf rfl (fun w hS=>aA.aFw (d:=10) rfl aEO rfl rfl (EqR.struct (d:=9999) aFl (EqL.cons (nM.one (v:=Iv x42.1) dS rfl) (nM.one (v:=Iv x43.1) dS rfl) (EqR.int (d:=9998) rW) (EqL.cons (nM.one (v:=Iv x42.2.1) dS rfl) (nM.one (v:=Iv x43.2.1) dS rfl) (EqR.int (d:=9998) rW) (EqL.cons (nM.one (v:=Iv x42.2.2.1) dS rfl) (nM.one (v:=Iv x43.2.2.1) dS rfl) (EqR.int (d:=9998) rW) (EqL.cons (nM.one (v:=Iv x42.2.2.2) cu rfl) (nM.one (v:=Iv x43.2.2.2) cu rfl) (EqR.int (d:=9998) aBQ) EqL.nil)))))) fun a hf=>?_; refine OQ.nil ?_; intro w hS; refine aP ?_; refine W.if_ hf rfl (fun hc44=>?_) (fun hc44=>?_)
    ·replace hm:=kS hm hc44; refine sg (l:=[0]) rfl<|mv hf rfl fun a hf=>nk<|W.ret<|bA<|aF<|aF<|bA<|aF<|?_; obtain rfl:=Option.some.inj hm; refine bU hf rfl (aJ.tmp rfl) ?_; replace hS:=hS.s0; exact ⟨(),rfl,hS.noB⟩
    ·replace hm:=kU hm hc44; refine W.skip<|aQ<|aP<|W.aU (l:=[0,1,2]) rfl<|mv hf rfl fun a hf=>ov (v:=Iv (IntKind.i64.wrap (x39+1))) hf rfl (aA.add rfl rfl) fun a hf=>mv hf rfl fun a hf=>O.nil<|?_; refine aS ⟨(k40,IntKind.i64.wrap (x39+1)),⟨hf.q rfl,hS,?_⟩,Nat.lt_succ_self _⟩; rw [hrec40] at hm; exact hm
   ·replace hm:=bW hm hc41; refine W.exit<|aK<|aK<|fG<|?_; exact aS ⟨hf.q rfl,hS,hm⟩
  ·clear hf hS hm a; (try clear w); rintro a w ⟨hf,hS,hm⟩; unfold jO at hm; refine sg (l:=[0,1,2,3,4,5,6,7,8,9,10,11,12,13,14,15,16,17,18,19,20,21,22,23,24,25,26,27,28,29,30,31,32,33,34,35,36,37,38,39,40]) rfl<|mv hf rfl fun a hf=>?_; obtain ⟨x26,hx26,hm⟩:=aO hm; refine oc hf rfl aBa (tX F s1 x2 _ (hS.b 0 rfl) x26 hx26) ?_; rintro _ w hS1 a hf; replace hS:=hS.cl hS1; refine mv hf rfl fun a hf=>?_; obtain ⟨x27,hx27,hm⟩:=aO hm; refine oc hf rfl zW (qN F s15 (([]:List (Int × Int × Int × Int))++x2) _ (hS.s 0 rfl) x27 hx27) ?_; rintro _ w hS1 a hf; replace hS:=hS.cl hS1; refine ov (v:=Bv (decide (x26=(x27:Int)))) hf rfl (aA.eql rfl rfl) fun a hf=>mv hf rfl fun a hf=>?_; refine O.fH (l₁:=[6,7,8,9]) (l₂:=_) (fun a w=>Fr a 130 [] [(10,Bv false),(13,Iv x16.2),(15,Iv x17.2),(16,s19),(17,Iv x18.2),(18,s21),(19,Iv x20.2),(20,s23),(21,Iv x22.2.1),(22,Iv x22.2.2),(23,s25),(24,Iv x24.2.1),(25,Iv x24.2.2),(99,Bv ((decide (x26=(x27:Int)))&&(decide (x16.1=(x17.1:Int)))))]∧St w0 w noX [rdE 4 E40 s1 x2,rdE 1 E3 s3 x4] [slE 40 4 E40 s15 (([]:List (Int × Int × Int × Int))++x2),slE 85 2 E85 s19 x18.1,slE 85 2 E85 s21 x20.1,slE 85 2 E85 s23 x22.1,slE 85 2 E85 s25 x24.1]) rfl ?_ ?_
   ·rcases Bool.eq_false_or_eq_true (decide (x26=(x27:Int))) with hb28 | hb28
    ·refine og hf rfl hb28 (aA.move rfl) fun a hf=>og hf rfl hb28 (aA.move rfl) fun a hf=>og (v:=Bv (decide (x16.1=(x17.1:Int)))) hf rfl hb28 (aA.eql rfl rfl) fun a hf=>?_; refine ov (v:=Bv ((decide (x26=(x27:Int)))&&(decide (x16.1=(x17.1:Int))))) hf rfl (aA.pick rfl rfl rfl (by rw [hb28]; rfl)) ?_; clear hf a; intro a hf; exact O.nil ⟨rfl,hf.q rfl,hS⟩
    ·refine sk hf rfl hb28 fun a hf=>sk hf rfl hb28 fun a hf=>sk hf rfl hb28 fun a hf=>?_; refine ov (v:=Bv ((decide (x26=(x27:Int)))&&(decide (x16.1=(x17.1:Int))))) hf rfl (aA.pick rfl rfl rfl (by rw [hb28]; rfl)) ?_; clear hf a; intro a hf; exact O.nil ⟨rfl,hf.q rfl,hS⟩
   clear hf hS a; (try clear w); rintro a w ⟨hf,hS⟩; refine mv hf rfl fun a hf=>?_; refine O.fH (l₁:=[11,12,13,14]) (l₂:=_) (fun a w=>Fr a 130 [] [(10,Bv false),(16,s19),(17,Iv x18.2),(18,s21),(19,Iv x20.2),(20,s23),(21,Iv x22.2.1),(22,Iv x22.2.2),(23,s25),(24,Iv x24.2.1),(25,Iv x24.2.2),(104,Bv (((decide (x26=(x27:Int)))&&(decide (x16.1=(x17.1:Int))))&&(decide (x16.2=(x17.2:Int)))))]∧St w0 w noX [rdE 4 E40 s1 x2,rdE 1 E3 s3 x4] [slE 40 4 E40 s15 (([]:List (Int × Int × Int × Int))++x2),slE 85 2 E85 s19 x18.1,slE 85 2 E85 s21 x20.1,slE 85 2 E85 s23 x22.1,slE 85 2 E85 s25 x24.1]) rfl ?_ ?_
   ·rcases Bool.eq_false_or_eq_true ((decide (x26=(x27:Int)))&&(decide (x16.1=(x17.1:Int)))) with hb29 | hb29
    ·refine og hf rfl hb29 (aA.move rfl) fun a hf=>og hf rfl hb29 (aA.move rfl) fun a hf=>og (v:=Bv (decide (x16.2=(x17.2:Int)))) hf rfl hb29 (aA.eql rfl rfl) fun a hf=>?_; refine ov (v:=Bv (((decide (x26=(x27:Int)))&&(decide (x16.1=(x17.1:Int))))&&(decide (x16.2=(x17.2:Int))))) hf rfl (aA.pick rfl rfl rfl (by rw [hb29]; rfl)) ?_; clear hf a; intro a hf; exact O.nil ⟨rfl,hf.q rfl,hS⟩
    ·refine sk hf rfl hb29 fun a hf=>sk hf rfl hb29 fun a hf=>sk hf rfl hb29 fun a hf=>?_; refine ov (v:=Bv (((decide (x26=(x27:Int)))&&(decide (x16.1=(x17.1:Int))))&&(decide (x16.2=(x17.2:Int))))) hf rfl (aA.pick rfl rfl rfl (by rw [hb29]; rfl)) ?_; clear hf a; intro a hf; exact O.nil ⟨rfl,hf.q rfl,hS⟩
   clear hf hS a; (try clear w); rintro a w ⟨hf,hS⟩; refine mv hf rfl fun a hf=>?_; refine O.fH (l₁:=[16,17,18,19]) (l₂:=_) (fun a w=>∃ (x30:Bool),Fr a 130 [] [(10,Bv false),(17,Iv x18.2),(19,Iv x20.2),(20,s23),(21,Iv x22.2.1),(22,Iv x22.2.2),(23,s25),(24,Iv x24.2.1),(25,Iv x24.2.2),(109,Bv x30)]∧St w0 w noX [rdE 4 E40 s1 x2,rdE 1 E3 s3 x4] [slE 85 2 E85 s23 x22.1,slE 85 2 E85 s25 x24.1]∧jP F x18 x20 x22 x24 x30=some r) rfl ?_ ?_
   ·rcases Bool.eq_false_or_eq_true (((decide (x26=(x27:Int)))&&(decide (x16.1=(x17.1:Int))))&&(decide (x16.2=(x17.2:Int)))) with hb37 | hb37
    ·replace hm:=kS hm hb37; refine og hf rfl hb37 (aA.move rfl) fun a hf=>og hf rfl hb37 (aA.move rfl) fun a hf=>?_; obtain ⟨x38,hx38,hm⟩:=aO hm; refine O.aBZ hf rfl rfl rfl hb37 rfl rfl (tY.call (av:=#[s19,s21]) aC0 rfl rfl rfl) (tN F s19 x18.1 s21 x20.1 _ (hS.s 1 rfl) (hS.s 2 rfl) x38 hx38) ?_; rintro _ w hS1 a hf; replace hS:=hS.cl hS1; refine ov (v:=Bv x38) hf rfl (aA.pick rfl rfl rfl (by rw [hb37]; rfl)) ?_; clear hf a; intro a hf; replace hS:=hS.sl [0,0,0,1,1]; exact O.nil ⟨rfl,x38,hf.q rfl,hS,hm⟩
    ·replace hm:=kU hm hb37; refine sk hf rfl hb37 fun a hf=>sk hf rfl hb37 fun a hf=>sk hf rfl hb37 fun a hf=>?_; refine ov (v:=Bv false) hf rfl (aA.pick rfl rfl rfl (by rw [hb37]; rfl)) ?_; clear hf a; intro a hf; replace hS:=hS.sl [0,0,0,1,1]; exact O.nil ⟨rfl,false,hf.q rfl,hS,hm⟩
   clear hf hS hm a; (try clear w); rintro a w ⟨x30,hf,hS,hm⟩; unfold jP at hm; refine mv hf rfl fun a hf=>?_; refine O.fH (l₁:=[21,22,23,24]) (l₂:=_) (fun a w=>Fr a 130 [] [(10,Bv false),(20,s23),(21,Iv x22.2.1),(22,Iv x22.2.2),(23,s25),(24,Iv x24.2.1),(25,Iv x24.2.2),(114,Bv (x30&&(decide (x18.2=(x20.2:Int)))))]∧St w0 w noX [rdE 4 E40 s1 x2,rdE 1 E3 s3 x4] [slE 85 2 E85 s23 x22.1,slE 85 2 E85 s25 x24.1]) rfl ?_ ?_
   ·rcases Bool.eq_false_or_eq_true (x30) with hb31 | hb31
    ·refine og hf rfl hb31 (aA.move rfl) fun a hf=>og hf rfl hb31 (aA.move rfl) fun a hf=>og (v:=Bv (decide (x18.2=(x20.2:Int)))) hf rfl hb31 (aA.eql rfl rfl) fun a hf=>?_; refine ov (v:=Bv (x30&&(decide (x18.2=(x20.2:Int))))) hf rfl (aA.pick rfl rfl rfl (by rw [hb31]; rfl)) ?_; clear hf a; intro a hf; exact O.nil ⟨rfl,hf.q rfl,hS⟩
    ·refine sk hf rfl hb31 fun a hf=>sk hf rfl hb31 fun a hf=>sk hf rfl hb31 fun a hf=>?_; refine ov (v:=Bv (x30&&(decide (x18.2=(x20.2:Int))))) hf rfl (aA.pick rfl rfl rfl (by rw [hb31]; rfl)) ?_; clear hf a; intro a hf; exact O.nil ⟨rfl,hf.q rfl,hS⟩
   clear hf hS a; (try clear w); rintro a w ⟨hf,hS⟩; refine mv hf rfl fun a hf=>?_; refine O.fH (l₁:=[26,27,28,29]) (l₂:=_) (fun a w=>∃ (x32:Bool),Fr a 130 [] [(10,Bv false),(21,Iv x22.2.1),(22,Iv x22.2.2),(24,Iv x24.2.1),(25,Iv x24.2.2),(119,Bv x32)]∧St w0 w noX [rdE 4 E40 s1 x2,rdE 1 E3 s3 x4] []∧jN F x22 x24 x32=some r) rfl ?_ ?_
   ·rcases Bool.eq_false_or_eq_true (x30&&(decide (x18.2=(x20.2:Int)))) with hb35 | hb35
    ·replace hm:=kS hm hb35; refine og hf rfl hb35 (aA.move rfl) fun a hf=>og hf rfl hb35 (aA.move rfl) fun a hf=>?_; obtain ⟨x36,hx36,hm⟩:=aO hm; refine O.aBZ hf rfl rfl rfl hb35 rfl rfl (tY.call (av:=#[s23,s25]) aC0 rfl rfl rfl) (tN F s23 x22.1 s25 x24.1 _ (hS.s 0 rfl) (hS.s 1 rfl) x36 hx36) ?_; rintro _ w hS1 a hf; replace hS:=hS.cl hS1; refine ov (v:=Bv x36) hf rfl (aA.pick rfl rfl rfl (by rw [hb35]; rfl)) ?_; clear hf a; intro a hf; replace hS:=hS.s0; exact O.nil ⟨rfl,x36,hf.q rfl,hS,hm⟩
    ·replace hm:=kU hm hb35; refine sk hf rfl hb35 fun a hf=>sk hf rfl hb35 fun a hf=>sk hf rfl hb35 fun a hf=>?_; refine ov (v:=Bv false) hf rfl (aA.pick rfl rfl rfl (by rw [hb35]; rfl)) ?_; clear hf a; intro a hf; replace hS:=hS.s0; exact O.nil ⟨rfl,false,hf.q rfl,hS,hm⟩
   clear hf hS hm a; (try clear w); rintro a w ⟨x32,hf,hS,hm⟩; unfold jN at hm; refine mv hf rfl fun a hf=>?_; refine O.fH (l₁:=[31,32,33,34]) (l₂:=_) (fun a w=>Fr a 130 [] [(10,Bv false),(22,Iv x22.2.2),(25,Iv x24.2.2),(124,Bv (x32&&(decide (x22.2.1=(x24.2.1:Int)))))]∧St w0 w noX [rdE 4 E40 s1 x2,rdE 1 E3 s3 x4] []) rfl ?_ ?_
   ·rcases Bool.eq_false_or_eq_true (x32) with hb33 | hb33
    ·refine og hf rfl hb33 (aA.move rfl) fun a hf=>og hf rfl hb33 (aA.move rfl) fun a hf=>og (v:=Bv (decide (x22.2.1=(x24.2.1:Int)))) hf rfl hb33 (aA.eql rfl rfl) fun a hf=>?_; refine ov (v:=Bv (x32&&(decide (x22.2.1=(x24.2.1:Int))))) hf rfl (aA.pick rfl rfl rfl (by rw [hb33]; rfl)) ?_; clear hf a; intro a hf; exact O.nil ⟨rfl,hf.q rfl,hS⟩
    ·refine sk hf rfl hb33 fun a hf=>sk hf rfl hb33 fun a hf=>sk hf rfl hb33 fun a hf=>?_; refine ov (v:=Bv (x32&&(decide (x22.2.1=(x24.2.1:Int))))) hf rfl (aA.pick rfl rfl rfl (by rw [hb33]; rfl)) ?_; clear hf a; intro a hf; exact O.nil ⟨rfl,hf.q rfl,hS⟩
   clear hf hS a; (try clear w); rintro a w ⟨hf,hS⟩; refine mv hf rfl fun a hf=>?_; refine O.fH (l₁:=[36,37,38,39]) (l₂:=_) (fun a w=>Fr a 130 [] [(10,Bv false),(129,Bv ((x32&&(decide (x22.2.1=(x24.2.1:Int))))&&(decide (x22.2.2=(x24.2.2:Int)))))]∧St w0 w noX [rdE 4 E40 s1 x2,rdE 1 E3 s3 x4] []) rfl ?_ ?_
   ·rcases Bool.eq_false_or_eq_true (x32&&(decide (x22.2.1=(x24.2.1:Int)))) with hb34 | hb34
    ·refine og hf rfl hb34 (aA.move rfl) fun a hf=>og hf rfl hb34 (aA.move rfl) fun a hf=>og (v:=Bv (decide (x22.2.2=(x24.2.2:Int)))) hf rfl hb34 (aA.eql rfl rfl) fun a hf=>?_; refine ov (v:=Bv ((x32&&(decide (x22.2.1=(x24.2.1:Int))))&&(decide (x22.2.2=(x24.2.2:Int))))) hf rfl (aA.pick rfl rfl rfl (by rw [hb34]; rfl)) ?_; clear hf a; intro a hf; exact O.nil ⟨rfl,hf.q rfl,hS⟩
    ·refine sk hf rfl hb34 fun a hf=>sk hf rfl hb34 fun a hf=>sk hf rfl hb34 fun a hf=>?_; refine ov (v:=Bv ((x32&&(decide (x22.2.1=(x24.2.1:Int))))&&(decide (x22.2.2=(x24.2.2:Int))))) hf rfl (aA.pick rfl rfl rfl (by rw [hb34]; rfl)) ?_; clear hf a; intro a hf; exact O.nil ⟨rfl,hf.q rfl,hS⟩
   clear hf hS a; (try clear w); rintro a w ⟨hf,hS⟩; refine mv hf rfl fun a hf=>nk<|W.ret<|?_; obtain rfl:=Option.some.inj hm; refine bU hf rfl (aJ.tmp rfl) ?_; exact ⟨(),rfl,hS.noB⟩
end Go.Proofs.YtbccfconmcgfgaaGreat

namespace Go.Proofs.YtbccfconmcgfgaaGreat
open Go Go.SL
theorem aB7 (u i:Nat) (hu:u<256) (hi:i<8):(bitand .i64 (Int.fdiv (u:Int) (2^(min (Int.toNat (i:Int)) (IntKind.bits .i64)))) 1≠(0:Int))↔u.testBit i=true:=by
  rw [ne_eq,zQ u i hu hi]; simp
theorem aCK (F:Nat) {e:Int} {i:Nat} {t:BTask} (ht:Okt t) (he:Oke e):iD F ([(0,0)]) e 0 (i:Int) t.1 t.2.1 t.2.2.1 t.2.2.2=some ([(0,0),((i:Int),stC t e)],stC t e+t.2.2.1,t.2.2.2,decide (stC t e+t.2.2.1≤t.2.1)):=by
  have h1:=aBY ht he
  unfold iD gI
  unfold Okt Oke at *
  have e1:(if t.1<e then e else t.1)=stC t e:=rfl
  rw [e1]
  generalize stC t e=s at *
  have w1:IntKind.i64.wrap (s+t.2.2.1)=s+t.2.2.1:=bI (by omega)
  have w2:IntKind.i64.wrap (0+t.2.2.2)=t.2.2.2:=by rw [bI (by omega)]; omega
  rw [w1,w2]
  simp
theorem zi (F:Nat) (l:List BTask) (hl:l.length≤8) (ok:∀ t ∈ l,Okt t) (u:Nat) (hu:u<256) (e:Int) (he:Oke e) (n:Nat) (hn:n≤8589934592)
    (rec:Int→Int→(List (Int × Int × Int × Int))→Option ((List (Int × Int)) × Int × Int)) (hrec:∀ v en,v<256→u<v→Oke en→rec ((v:Nat):Int) en l=some (cB l n v en)) :
    ∀ (k N i:Nat) (b:BRun),i+k=l.length→k<N→b.2.2≤9000000000000000→ah F l (u:Int) e rec N b.1 b.2.1 b.2.2 (i:Int)=some (uT (cB l n) u e (l.drop i) i b)
  | 0,0,_,_,_,h,_=>by omega
  | 0,N+1,i,b,hi,_,hb=>by
    show bE F l (u:Int) e rec (ah F l (u:Int) e rec N) b.1 b.2.1 b.2.2 (i:Int)=_
    unfold bE eF
    rw [if_neg (by omega),List.drop_of_length_le (by omega)]
    rfl
  | k+1,0,_,_,_,h,_=>by omega
  | k+1,N+1,i,b,hi,hN,hb=>by
    have hil:i<l.length:=by omega
    obtain ⟨t,ht⟩:∃ t,l[i]? = some t:=⟨_,List.getElem?_eq_getElem hil⟩
    have hok:=ok t (List.mem_of_getElem? ht)
    have ih:∀ b':BRun,b'.2.2≤9000000000000000→ah F l (u:Int) e rec N b'.1 b'.2.1 b'.2.2 ((i+1:Nat):Int)=some (uT (cB l n) u e (l.drop (i+1)) (i+1) b') :=
      fun b' hb'=>zi F l hl ok u hu e he n hn rec hrec k N (i+1) b' (by omega) (by omega) hb'
    have hd:l.drop i=t::l.drop (i+1):=by
      rw [List.drop_eq_getElem_cons hil]
      congr 1
      rw [List.getElem?_eq_getElem hil] at ht
      exact Option.some.inj ht
    have hw:IntKind.i64.wrap ((i:Int)+1)=((i+1:Nat):Int):=by rw [bI (by omega)]; omega
    show bE F l (u:Int) e rec (ah F l (u:Int) e rec N) b.1 b.2.1 b.2.2 (i:Int)=_
    rw [hd]
    unfold bE
    rw [if_pos (by omega),oO ht,Option.bind_some,if_pos (by omega)]
    unfold bR
    rw [hw]
    show _=some (uT (cB l n) u e (l.drop (i+1)) (i+1) (vC (cB l n) u e i t b))
    unfold vC
    by_cases hbit:u.testBit i=true
    · rw [if_pos ((aB7 u i hu (by omega)).2 hbit),if_pos hbit]
      exact ih b hb
    · have hbit':u.testBit i=false:=by simpa using hbit
      rw [if_neg (fun h=>hbit ((aB7 u i hu (by omega)).1 h)),if_neg hbit,aCK F hok he,Option.bind_some]
      simp only [Bool.not_eq_true',decide_eq_false_iff_not]
      by_cases hs:stC t e+t.2.2.1≤t.2.1
      · rw [if_neg (by simpa using hs),if_pos hs,if_pos (by omega),aB3 u i hu (by omega)]
        obtain ⟨m1,m2⟩:=yH u i hu (by omega) hbit'
        rw [hrec _ _ m2 m1 (aAP hok he hs),Option.bind_some]
        have hx:idx [((0:Int),(0:Int)),((i:Int),stC t e)] 1=some ((i:Int),stC t e):=rfl
        rw [hx,Option.bind_some,if_pos (by simp)]
        have hf:=vS l hl ok n (u|||2^i) (stC t e+t.2.2.1) m2 (aAP hok he hs)
        have f1:=hf.len; have f2:=hf.lo; have f3:=hf.hi
        have g1:=hok.2.2.2.2.2.2.1; have g2:=hok.2.2.2.2.2.2.2
        rw [if_pos (by omega),bI (by omega),Option.bind_some]
        by_cases hc:(cB l n (u|||2^i) (stC t e+t.2.2.1)).2.2+t.2.2.2>b.2.2∨((cB l n (u|||2^i) (stC t e+t.2.2.1)).2.2+t.2.2.2=b.2.2∧(cB l n (u|||2^i) (stC t e+t.2.2.1)).2.1<b.2.1)
        · rw [if_pos (by simpa using hc),if_pos hc]
          exact ih (uO i t e (cB l n (u|||2^i) (stC t e+t.2.2.1))) (by simp only [uO]; omega)
        · rw [if_neg (by simpa using hc),if_neg hc]
          exact ih b hb
      · rw [if_pos (by simpa using hs),if_neg hs]
        exact ih b hb
theorem aDl (F:Nat) (hF:8<F) (l:List BTask) (hl:l.length≤8) (ok:∀ t ∈ l,Okt t):∀ (n u:Nat) (e:Int),n≤8589934592→u<256→256≤n+u→Oke e→bG F n (u:Int) e l=some (cB l n u e)
  | 0,u,e,_,hu,hn,_=>by omega
  | n+1,u,e,h9,hu,hn,he=>by
    show ah F l (u:Int) e (bG F n) F ([]:List (Int × Int)) e 0 ((0:Nat):Int)=some (uT (cB l n) u e l 0 ([],e,0))
    exact zi F l hl ok u hu e he n (by omega) _ (fun v en hv huv hen=>aDl F hF l hl ok n v en (by omega) hv (by omega) hen) l.length F 0 ([],e,0) (by omega) (by omega) (by simp)
theorem xO (F:Nat) (l:List BTask) (hl:l.length≤8) (ok:∀ t ∈ l,Okt t):∀ (k N i:Nat),i+k=l.length→k<N→eO F l N (i:Int)=some 0
  | _,0,_,_,h=>by omega
  | 0,N+1,i,hi,_=>by
    show fI F l (eO F l N) (i:Int)=_
    unfold fI oz
    rw [if_neg (by omega)]
  | k+1,N+1,i,hi,hN=>by
    have hil:i<l.length:=by omega
    obtain ⟨t,ht⟩:∃ t,l[i]? = some t:=⟨_,List.getElem?_eq_getElem hil⟩
    have hok:=ok t (List.mem_of_getElem? ht)
    show fI F l (eO F l N) (i:Int)=_
    unfold fI
    have hw:IntKind.i64.wrap ((i:Int)+1)=((i+1:Nat):Int):=by rw [bI (by omega)]; omega
    rw [if_pos (by omega),oO ht,Option.bind_some,hw]
    unfold Okt at hok
    rw [bI (by omega),if_neg]
    · exact xO F l hl ok k N (i+1) (by omega) (by omega)
    · simp only [Bool.or_eq_true,Bool.not_eq_true',Bool.and_eq_false_iff,decide_eq_true_eq,decide_eq_false_iff_not]
      split <;> split <;> omega
theorem zh (F:Nat) (hF:8<F) (l:List BTask) (hl:l.length≤8) (ok:∀ t ∈ l,Okt t):kZ F l=some 0:=by
  unfold kZ
  rw [if_neg (by omega)]
  exact xO F l hl ok l.length F 0 (by omega) (by omega)
theorem aCD (l:List BTask) (hl:l.length≤8) (ok:∀ t ∈ l,Okt t):pY 8589934592 l=some ((cB l 8589934592 0 (-5000000000000000)).1,(cB l 8589934592 0 (-5000000000000000)).2.2,0):=by
  unfold pY
  rw [zh _ (by omega) l hl ok,Option.bind_some,if_neg (by decide)]
  unfold iZ
  rw [show (0:Int)=((0:Nat):Int) from rfl,aDl _ (by omega) l hl ok 8589934592 0 _ (Nat.le_refl _) (by omega) (by omega) (by unfold Oke; omega),Option.bind_some]
theorem aAT (F:Nat) (o:List Int) (l:List BTask) (ho:o.length≤1000):∀ (k N i:Nat),i+k=o.length→k<N→(∀ j x,j<i→o[j]? = some x→0≤x∧x<(l.length:Int)) →
    ∃ c,aj F o l N (i:Int)=some c∧((c≥0∧∃ x ∈ o,¬ (0≤x∧x<(l.length:Int)))∨(c=-1∧∀ x ∈ o,0≤x∧x<(l.length:Int)))
  | _,0,_,_,h,_=>by omega
  | 0,N+1,i,hi,_,hok=>by
    refine ⟨-1,?_,.inr ⟨rfl,fun x hx=>?_⟩⟩
    · show bB F o l (aj F o l N) (i:Int)=_
      unfold bB dM
      rw [if_neg (by omega)]
    · obtain ⟨j,hj⟩:=List.getElem?_of_mem hx
      exact hok j x (by have:=(List.getElem?_eq_some_iff.1 hj).1; omega) hj
  | k+1,N+1,i,hi,hN,hok=>by
    have hil:i<o.length:=by omega
    obtain ⟨x,hx⟩:∃ x,o[i]? = some x:=⟨_,List.getElem?_eq_getElem hil⟩
    have e1:aj F o l (N+1) (i:Int)=bB F o l (aj F o l N) (i:Int):=rfl
    rw [e1]
    unfold bB pQ
    rw [if_pos (by omega),oO hx,Option.bind_some,Option.bind_some,mI (by omega) ho]
    split
    · rename_i hc
      simp only [Bool.or_eq_true,decide_eq_true_eq] at hc
      exact ⟨i,rfl,.inl ⟨by omega,x,List.mem_of_getElem? hx,by omega⟩⟩
    · rename_i hc
      refine aAT F o l ho k N (i+1) (by omega) (by omega) (fun j y hj hjy=>?_)
      by_cases hji:j=i
      · subst hji
        rw [hx] at hjy
        obtain rfl:=Option.some.inj hjy
        simp only [Bool.or_eq_true,decide_eq_true_eq,not_or] at hc
        omega
      · exact hok j y (by omega) hjy
theorem xB (F:Nat) (x4:Nat) (x2:List Int) (hx:x2.length≤1000) (h4:x4<x2.length):∀ (k N:Nat) (y:List Int) (a b:Nat),y.length=x2.length→b+k=x2.length-x4→k<N→1≤b→a+k+1≤x2.length →
    ∃ c,bK F (x4:Int) x2 N y (a:Int) (b:Int)=some c∧c.length<x2.length
  | _,0,_,_,_,_,_,h,_,_=>by omega
  | 0,N+1,y,a,b,hy,hb,_,h1,ha=>by
    have e1:bK F (x4:Int) x2 (N+1) y (a:Int) (b:Int)=dI F (x4:Int) x2 (bK F (x4:Int) x2 N) y (a:Int) (b:Int):=rfl
    rw [e1]
    unfold dI
    have hs:sbd (x4:Int) (x2.length:Int) (y.length:Int):=⟨by omega,by omega,by omega⟩
    rw [if_pos hs,oq hs,if_neg (by omega)]
    unfold gu
    have hll:(lcopy y (List.replicate (Int.toNat (y.length:Int)-Int.toNat (a:Int)) (0:Int)) (a:Int) (Int.toNat (y.length:Int)-Int.toNat (a:Int))).length=y.length:=by unfold lcopy; simp; omega
    have hs2:sbd 0 (a:Int) ((lcopy y (List.replicate (Int.toNat (y.length:Int)-Int.toNat (a:Int)) (0:Int)) (a:Int) (Int.toNat (y.length:Int)-Int.toNat (a:Int))).length:Int):=⟨by omega,by omega,by rw [hll]; omega⟩
    rw [if_pos ⟨by omega,by omega,by omega⟩,if_pos hs2]
    exact ⟨_,rfl,by rw [oq hs2]; omega⟩
  | k+1,N+1,y,a,b,hy,hb,hN,h1,ha=>by
    have e1:bK F (x4:Int) x2 (N+1) y (a:Int) (b:Int)=dI F (x4:Int) x2 (bK F (x4:Int) x2 N) y (a:Int) (b:Int):=rfl
    rw [e1]
    unfold dI
    have hs:sbd (x4:Int) (x2.length:Int) (y.length:Int):=⟨by omega,by omega,by omega⟩
    have hlen:=oq hs
    have hp1:(x2.length:Int).toNat-(x4:Int).toNat=x2.length-x4:=by omega
    rw [hp1] at hlen
    rw [if_pos hs,hlen,if_pos (by omega)]
    have hw1:IntKind.i64.wrap ((b:Int)-1)=((b-1:Nat):Int):=by rw [bI (by omega)]; omega
    obtain ⟨u,hu⟩:∃ u,(lsub y (x4:Int) (x2.length:Int))[b]? = some u:=⟨_,List.getElem?_eq_getElem (by omega)⟩
    obtain ⟨v,hv⟩:∃ u,(lsub y (x4:Int) (x2.length:Int))[b-1]? = some u:=⟨_,List.getElem?_eq_getElem (by omega)⟩
    rw [oO hu,Option.bind_some,hw1,oO hv,Option.bind_some]
    unfold eZ
    have hwb:IntKind.i64.wrap ((b:Int)+1)=((b+1:Nat):Int):=mI (n:=1000) (by omega) (by omega)
    have hwa:IntKind.i64.wrap ((a:Int)+1)=((a+1:Nat):Int):=mI (n:=1000) (by omega) (by omega)
    rw [hwb]
    split
    · obtain ⟨z,hz⟩:∃ u,y[a]? = some u:=⟨_,List.getElem?_eq_getElem (by omega)⟩
      rw [oO hz,Option.bind_some,hwa]
      exact xB F x4 x2 hx h4 k N _ (a+1) (b+1) (by simpa using hy) (by omega) (by omega) (by omega) (by omega)
    · exact xB F x4 x2 hx h4 k N y a (b+1) hy (by omega) (by omega) (by omega) (by omega)
theorem zA (F:Nat) (hF:1000<F) (x2:List Int) (hx:x2.length≤1000):∀ (k N i:Nat),i+k=x2.length→k<N→1≤i→(∀ j u v,j+1<i→x2[j]? = some u→x2[j+1]? = some v→u≠v) →
    ∃ c,bS F x2 N (i:Int)=some c∧((c=x2∧∀ j u v,x2[j]? = some u→x2[j+1]? = some v→u≠v)∨(c.length<x2.length∧∃ j u,x2[j]? = some u∧x2[j+1]? = some u))
  | _,0,_,_,h,_,_=>by omega
  | 0,N+1,i,hi,_,h1,hok=>by
    refine ⟨x2,?_,.inl ⟨rfl,fun j u v hu hv=>hok j u v (by have:=(List.getElem?_eq_some_iff.1 hv).1; omega) hu hv⟩⟩
    show dK F x2 (bS F x2 N) (i:Int)=_
    unfold dK gq
    rw [if_neg (by omega)]
  | k+1,N+1,i,hi,hN,h1,hok=>by
    have e1:bS F x2 (N+1) (i:Int)=dK F x2 (bS F x2 N) (i:Int):=rfl
    rw [e1]
    unfold dK
    have hw1:IntKind.i64.wrap ((i:Int)-1)=((i-1:Nat):Int):=by rw [bI (by omega)]; omega
    obtain ⟨u,hu⟩:∃ u,x2[i]? = some u:=⟨_,List.getElem?_eq_getElem (by omega)⟩
    obtain ⟨v,hv⟩:∃ u,x2[i-1]? = some u:=⟨_,List.getElem?_eq_getElem (by omega)⟩
    rw [if_pos (by omega),oO hu,Option.bind_some,hw1,oO hv,Option.bind_some]
    by_cases huv:u=v
    · rw [if_pos huv,if_pos ⟨by omega,by omega,by omega⟩]
      obtain ⟨c,h2,h3⟩:=xB F i x2 hx (by omega) (x2.length-i-1) F x2 i 1 rfl (by omega) (by omega) (by omega) (by omega)
      refine ⟨c,by simpa using h2,.inr ⟨h3,i-1,v,hv,?_⟩⟩
      rw [show i-1+1=i by omega,hu,huv]
    · rw [if_neg huv]
      unfold gZ
      rw [mI (n:=1000) (by omega) (by omega)]
      refine zA F hF x2 hx k N (i+1) (by omega) (by omega) (by omega) (fun j u' v' hj hu' hv'=>?_)
      by_cases hji:j+1=i
      · rw [show j=i-1 by omega,hv] at hu'
        rw [hji,hu] at hv'
        obtain rfl:=Option.some.inj hu'
        obtain rfl:=Option.some.inj hv'
        exact fun h=>huv h.symm
      · exact hok j u' v' (by omega) hu' hv'
theorem xg:∀ {s:List Int},s.Pairwise (·≤·)→(∀ j u v,s[j]? = some u→s[j+1]? = some v→u≠v)→s.Nodup
  | [],_,_=>List.nodup_nil
  | [x],_,_=>by simp
  | x::y::t,hp,h=>by
    rw [List.pairwise_cons] at hp
    have ih:=xg hp.2 (fun j u v hu hv=>h (j+1) u v (by simpa using hu) (by simpa using hv))
    rw [List.nodup_cons]
    refine ⟨fun hm=>?_,ih⟩
    have hxy:=h 0 x y rfl rfl
    have h1:=hp.1 y (by simp)
    rcases List.mem_cons.1 hm with h2 | h2
    · exact hxy h2
    · have:=(List.pairwise_cons.1 hp.2).1 x h2; omega
theorem aAZ (F:Nat) (hF:1000<F) (o:List Int) (ho:o.length≤1000):∃ c,gB F (uX o)=some c∧((c.length=o.length∧o.Nodup)∨(c.length≠o.length∧¬ o.Nodup)):=by
  have hp:(uX o).Perm o:=List.mergeSort_perm _ _
  have hlen:(uX o).length=o.length:=aB4 o
  have hs:(uX o).Pairwise (·≤·):=by
    have:=List.pairwise_mergeSort (le:=fun x y:Int=>decide (x≤y)) (fun a b c h1 h2=>by simp only [decide_eq_true_eq] at *; omega) (fun a b=>by simp only [Bool.or_eq_true,decide_eq_true_eq]; omega) o
    exact this.imp (fun h=>by simpa using h)
  unfold gB
  by_cases h2:((uX o).length:Int)<2
  · rw [if_pos h2]
    refine ⟨_,rfl,.inl ⟨hlen,hp.nodup_iff.1 ?_⟩⟩
    match hso:uX o,h2 with
    | [],_=>exact List.nodup_nil
    | [x],_=>simp
    | x::y::t,h2=>simp at h2; omega
  · rw [if_neg h2]
    obtain ⟨c,h3,h4⟩:=zA F hF (uX o) (by omega) ((uX o).length-1) F 1 (by omega) (by omega) (by omega) (fun j u v hj=>by omega)
    refine ⟨c,by simpa using h3,?_⟩
    rcases h4 with ⟨rfl,h5⟩ | ⟨h5,j,u,h6,h7⟩
    · exact .inl ⟨hlen,hp.nodup_iff.1 (xg hs h5)⟩
    · refine .inr ⟨by omega,fun hn=>?_⟩
      have hn':=hp.nodup_iff.2 hn
      have hj:=(List.getElem?_eq_some_iff.1 h6).1
      have hj1:=(List.getElem?_eq_some_iff.1 h7).1
      have:=(List.getElem_inj hn' (h₀:=hj) (h₁:=hj1)).1 (by rw [(List.getElem?_eq_some_iff.1 h6).2,(List.getElem?_eq_some_iff.1 h7).2])
      omega
theorem zC (F:Nat) (l:List BTask) (ok:∀ t ∈ l,Okt t) (s:List Nat) (hs:s.length≤1000) (hr:∀ i ∈ s,i<l.length):∀ (suf:List Nat) (N i:Nat) (acc:List (Int × Int)) (en val e:Int),s.drop i=suf→suf.length<N→acc.length=i→i≤s.length →
    ((acc=[]∧e=-5000000000000000)∨(acc≠[]∧en=e))→Oke e→iV F (ofN s) l N acc en val (i:Int)=some (match goes l e suf with | some r=>(acc++r.1,0) | none=>([],16))
  | _,0,_,_,_,_,_,_,h,_,_,_,_=>by omega
  | [],N+1,i,acc,en,val,e,hd,_,ha,hi,_,_=>by
    show jY F (ofN s) l (iV F (ofN s) l N) acc en val (i:Int)=_
    unfold jY qO
    have:s.length≤i:=by
      have:=congrArg List.length hd; simp at this; omega
    rw [if_neg (by rw [tq]; omega)]
    simp [goes]
  | x::suf,N+1,i,acc,en,val,e,hd,hN,ha,hi,hinv,he=>by
    obtain ⟨h1,h2,h3⟩:=drop_at hd
    have hx:=hr x (List.mem_of_getElem? h1)
    obtain ⟨t,ht⟩:∃ t,l[x]? = some t:=⟨_,List.getElem?_eq_getElem hx⟩
    have hok:=ok t (List.mem_of_getElem? ht)
    have hst:=aBY hok he
    show jY F (ofN s) l (iV F (ofN s) l N) acc en val (i:Int)=_
    unfold jY
    rw [if_pos (by rw [tq]; omega),aCB h1,Option.bind_some,oO ht,Option.bind_some,mI (n:=1000) (by omega) (by omega)]
    have hthen:iD F acc en val (x:Int) t.1 t.2.1 t.2.2.1 t.2.2.2=some (acc++[((x:Int),stC t e)],stC t e+t.2.2.1,IntKind.i64.wrap (val+t.2.2.2),decide (stC t e+t.2.2.1≤t.2.1)):=by
      unfold iD
      have hj:gI F t.2.2.1 acc (x:Int) val t.2.2.2 t.2.1 (stC t e)=some (acc++[((x:Int),stC t e)],stC t e+t.2.2.1,IntKind.i64.wrap (val+t.2.2.2),decide (stC t e+t.2.2.1≤t.2.1)):=by
        unfold gI
        have hw:IntKind.i64.wrap (stC t e+t.2.2.1)=stC t e+t.2.2.1:=by unfold Okt Oke at *; exact bI (by omega)
        rw [hw,Option.bind_some,if_pos (by omega)]
      rcases hinv with ⟨h4,h5⟩ | ⟨h4,h5⟩
      · subst h4
        rw [if_neg (by simp)]
        have:stC t e=t.1:=by unfold stC; unfold Okt at hok; rw [if_neg (by omega)]
        rw [this] at hj ⊢
        exact hj
      · have:0<acc.length:=List.length_pos_iff.2 h4
        rw [if_pos (by omega),h5]
        exact hj
    rw [hthen,Option.bind_some]
    simp only [goes,ht,Bool.not_eq_true',decide_eq_false_iff_not]
    by_cases hs':stC t e+t.2.2.1≤t.2.1
    · rw [if_neg (by simpa using hs'),if_pos hs',zC F l ok s hs hr suf N (i+1) _ _ _ (stC t e+t.2.2.1) h2 (by simp at hN; omega) (by simp [ha]) (by omega) (.inr ⟨by simp,rfl⟩) (aAP hok he hs')]
      cases goes l (stC t e+t.2.2.1) suf with
      | none=>rfl
      | some r=>simp [uO]
    · rw [if_pos (by simpa using hs'),if_neg hs']
theorem aED {o:List Int} {n:Nat} (h:∀ x ∈ o,0≤x∧x<(n:Int)):o=ofN (o.map Int.toNat)∧∀ i ∈ o.map Int.toNat,i<n:=by
  refine ⟨?_,fun i hi=>?_⟩
  · unfold ofN
    rw [List.map_map]
    conv=>lhs; rw [← List.map_id o]
    refine List.map_congr_left fun x hx=>?_
    have:=h x hx
    simp only [id,Function.comp]; omega
  · obtain ⟨x,hx,rfl⟩:=List.mem_map.1 hi
    have:=h x hx; omega
theorem aCA (l:List BTask) (hl:l.length≤8) (ok:∀ t ∈ l,Okt t) (o:List Int) (ho:o.length≤20):∃ r,nI 8589934592 l o=some r ∧
    ((r=([],2)∧∃ x ∈ o,¬ (0≤x∧x<(l.length:Int)))∨((∀ x ∈ o,0≤x∧x<(l.length:Int))∧((r=([],14)∧¬ o.Nodup)∨(o.Nodup∧((r=([],16)∧goes l (-5000000000000000) (o.map Int.toNat)=none)∨∃ b,goes l (-5000000000000000) (o.map Int.toNat)=some b∧r=(b.1,0)))))):=by
  unfold nI
  rw [zh _ (by omega) l hl ok,Option.bind_some,if_neg (by decide)]
  unfold dL dR
  obtain ⟨c,h1,h2⟩:=aAT 8589934592 o l (by omega) o.length 8589934592 0 (by omega) (by omega) (fun j x hj=>by omega)
  rw [show (0:Int)=((0:Nat):Int) from rfl,h1,Option.bind_some,Option.bind_some]
  rcases h2 with ⟨h2,h3⟩ | ⟨h2,h3⟩
  · rw [if_pos (by simpa using h2)]
    exact ⟨_,rfl,.inl ⟨rfl,h3⟩⟩
  · rw [if_neg (by rw [h2]; decide)]
    unfold kY jv
    rw [if_pos (by simp),if_pos (by omega),Option.bind_some,List.nil_append,if_pos (by omega),Option.bind_some]
    obtain ⟨c,h4,h5⟩:=aAZ 8589934592 (by omega) o (by omega)
    rw [h4,Option.bind_some]
    rcases h5 with ⟨h5,h6⟩ | ⟨h5,h6⟩
    · rw [if_neg (by omega)]
      obtain ⟨g1,g2⟩:=aED h3
      generalize o.map Int.toNat=s at g1 g2 ⊢
      subst g1
      rw [tq] at ho
      have:=zC 8589934592 l ok s (by omega) g2 s 8589934592 0 [] 0 0 (-5000000000000000) rfl (by omega) rfl (by omega) (.inl ⟨rfl,rfl⟩) (by unfold Oke; omega)
      refine ⟨_,this,.inr ⟨h3,.inr ⟨h6,?_⟩⟩⟩
      cases goes l (-5000000000000000) s with
      | none=>exact .inl ⟨rfl,rfl⟩
      | some b=>exact .inr ⟨b,rfl,by simp⟩
    · rw [if_pos (by omega)]
      exact ⟨_,rfl,.inr ⟨h3,.inl ⟨rfl,h6⟩⟩⟩
end Go.Proofs.YtbccfconmcgfgaaGreat

namespace Go.SL
open Go
def Lim (l:List Int):Prop:=∀ x ∈ l,0≤x∧x<4294967296
def lval:List Int→Int
  | []=>0
  | x::t=>x+4294967296*lval t
def BP (n:Nat):Int:=(4294967296:Int)^n
theorem vK:BP 0=1:=rfl
theorem eY (n:Nat):BP (n+1)=4294967296*BP n:=by unfold BP; rw [Int.pow_succ,Int.mul_comm]
theorem yj (m n:Nat):BP (m+n)=BP m*BP n:=by unfold BP; rw [Int.pow_add]
theorem kX (n:Nat):1≤BP n:=by
  induction n with
  | zero=>decide
  | succ n ih=>rw [eY]; omega
theorem sV {m n:Nat} (h:m≤n):BP m≤BP n:=by
  obtain ⟨k,rfl⟩:=Nat.le.dest h
  rw [yj]
  have h1:=kX m
  have h2:=kX k
  have:=Int.mul_le_mul_of_nonneg_left (c:=BP m) h2 (by omega)
  omega
theorem Lim.nil:Lim []:=by simp [Lim]
theorem Lim.cons {x:Int} {t:List Int} (h:0≤x∧x<4294967296) (ht:Lim t):Lim (x::t):=by
  intro y hy
  rcases List.mem_cons.1 hy with rfl | hy
  · exact h
  · exact ht y hy
theorem Lim.head {x:Int} {t:List Int} (h:Lim (x::t)):0≤x∧x<4294967296:=h x (by simp)
theorem Lim.tail {x:Int} {t:List Int} (h:Lim (x::t)):Lim t:=fun y hy=>h y (by simp [hy])
theorem Lim.app {a b:List Int} (ha:Lim a) (hb:Lim b):Lim (a++b):=fun y hy=>by
  rcases List.mem_append.1 hy with h | h
  · exact ha y h
  · exact hb y h
theorem Lim.left {a b:List Int} (h:Lim (a++b)):Lim a:=fun y hy=>h y (by simp [hy])
theorem Lim.right {a b:List Int} (h:Lim (a++b)):Lim b:=fun y hy=>h y (by simp [hy])
theorem Lim.take {a:List Int} (h:Lim a) (k:Nat):Lim (a.take k):=fun y hy=>h y (List.mem_of_mem_take hy)
theorem Lim.drop {a:List Int} (h:Lim a) (k:Nat):Lim (a.drop k):=fun y hy=>h y (List.mem_of_mem_drop hy)
theorem Lim.set {a:List Int} (h:Lim a) (k:Nat) {y:Int} (hy:0≤y∧y<4294967296):Lim (a.set k y):=fun z hz=>by
  rcases List.mem_or_eq_of_mem_set hz with h1 | h1
  · exact h z h1
  · subst h1; exact hy
theorem Lim.at {a:List Int} (h:Lim a) {k:Nat} {y:Int} (hk:a[k]? = some y):0≤y∧y<4294967296:=h y (List.mem_of_getElem? hk)
theorem Lim.zeros (n:Nat):Lim (List.replicate n 0):=fun y hy=>by
  have:=List.eq_of_mem_replicate hy
  omega
theorem bF:∀ {l:List Int},Lim l→0≤lval l
  | [],_=>Int.le_refl _
  | x::t,h=>by
    have:=bF h.tail
    have:=h.head
    simp only [lval]; omega
theorem iY:∀ {l:List Int},Lim l→lval l<BP l.length
  | [],_=>by decide
  | x::t,h=>by
    have h1:=iY h.tail
    have h2:=h.head
    simp only [lval,List.length_cons,eY]; omega
theorem uV:∀ (a b:List Int),lval (a++b)=lval a+BP a.length*lval b
  | [],b=>by simp [lval,vK]
  | x::t,b=>by
    simp only [List.cons_append,lval,uV t b,List.length_cons,eY]
    generalize BP t.length=p
    generalize lval b=q
    generalize lval t=u
    grind
theorem nK (n:Nat):lval (List.replicate n 0)=0:=by
  induction n with
  | zero=>rfl
  | succ n ih=>rw [List.replicate_succ]; simp [lval,ih]
theorem lU (l:List Int) (k:Nat) (hk:k≤l.length):lval l=lval (l.take k)+BP k*lval (l.drop k):=by
  have:=uV (l.take k) (l.drop k)
  rw [List.take_append_drop,List.length_take,Nat.min_eq_left hk] at this
  exact this
theorem jk (l:List Int) (x:Int):lval (l++[x])=lval l+BP l.length*x:=by
  rw [uV]; simp [lval]
theorem aAs {l:List Int} {k:Nat} {x:Int} (h:l[k]? = some x):l.take (k+1)=l.take k++[x]:=by
  rw [List.take_add_one,h]; rfl
theorem cZ {l:List Int} {k:Nat} {x:Int} (h:l[k]? = some x):lval (l.take (k+1))=lval (l.take k)+BP k*x:=by
  have hk:=(List.getElem?_eq_some_iff.1 h).1
  rw [aAs h,jk,List.length_take,Nat.min_eq_left (by omega)]
theorem jB:∀ {l:List Int} {k:Nat} {x:Int} (y:Int),l[k]? = some x→lval (l.set k y)=lval l+BP k*(y-x)
  | [],k,x,y,h=>by simp at h
  | z::t,0,x,y,h=>by
    simp only [List.getElem?_cons_zero,Option.some.injEq] at h
    subst h
    simp only [List.set_cons_zero,lval,vK]; omega
  | z::t,k+1,x,y,h=>by
    have ih:=jB (l:=t) y (by simpa using h)
    simp only [List.set_cons_succ,lval,ih,eY]
    generalize BP k=p
    generalize lval t=u
    grind
def Nrm (l:List Int):Prop:=∀ x,l.getLast? = some x→x≠0
theorem Nrm.nil:Nrm []:=by simp [Nrm]
theorem Nrm.tail {x:Int} {t:List Int} (h:Nrm (x::t)):Nrm t:=fun y hy=>by
  cases t with
  | nil=>simp at hy
  | cons z t=>exact h y (by rw [List.getLast?_cons_cons]; exact hy)
theorem Nrm.ge:∀ {l:List Int},Lim l→Nrm l→l≠[]→BP (l.length-1)≤lval l
  | [],_,_,h=>absurd rfl h
  | [x],hl,hn,_=>by
    have h1:=hn x rfl
    have h2:=hl.head
    simp only [lval,List.length_singleton,Nat.sub_self,vK]; omega
  | x::y::t,hl,hn,_=>by
    have ih:=Nrm.ge hl.tail hn.tail (by simp)
    have h2:=hl.head
    simp only [List.length_cons,Nat.add_sub_cancel] at ih ⊢
    rw [eY]
    show _≤x+4294967296*lval (y::t)
    omega
theorem Nrm.inj:∀ {a b:List Int},Lim a→Lim b→Nrm a→Nrm b→lval a=lval b→a=b
  | [],[],_,_,_,_,_=>rfl
  | [],x::t,_,hb,_,nb,h=>by
    have h1:=Nrm.ge hb nb (by simp)
    have:=kX ((x::t).length-1)
    rw [← h] at h1
    simp only [lval] at h1; omega
  | x::t,[],ha,_,na,_,h=>by
    have h1:=Nrm.ge ha na (by simp)
    have:=kX ((x::t).length-1)
    rw [h] at h1
    simp only [lval] at h1; omega
  | x::t,y::u,ha,hb,na,nb,h=>by
    have h1:=ha.head; have h2:=hb.head
    simp only [lval] at h
    have hxy:x=y:=by omega
    have htu:lval t=lval u:=by omega
    rw [hxy,Nrm.inj ha.tail hb.tail na.tail nb.tail htu]
theorem Nrm.len {l:List Int} {n:Nat} (hl:Lim l) (hn:Nrm l) (h:lval l<BP n):l.length≤n:=by
  rcases Nat.lt_or_ge n l.length with h1 | h1
  · exfalso
    have hne:l≠[]:=fun e=>by subst e; simp at h1
    have h2:=Nrm.ge hl hn hne
    have h3:=sV (show n≤l.length-1 by omega)
    omega
  · exact h1
theorem Nrm.zero {l:List Int} (hl:Lim l) (hn:Nrm l):lval l=0↔l=[]:=by
  constructor
  · intro h
    cases l with
    | nil=>rfl
    | cons x t =>
      have h2:=Nrm.ge hl hn (by simp)
      have:=kX ((x::t).length-1)
      omega
  · intro h; subst h; rfl
structure Is (l:List Int) (z:Int):Prop where
  lim:Lim l
  nrm:Nrm l
  val:lval l=z
theorem Is.nonneg {l:List Int} {z:Int} (h:Is l z):0≤z:=h.val▸bF h.lim
theorem Is.inj {a b:List Int} {z:Int} (h:Is a z) (h':Is b z):a=b:=Nrm.inj h.lim h'.lim h.nrm h'.nrm (h.val.trans h'.val.symm)
theorem Is.zero {a:List Int} {z:Int} (h:Is a z):z=0↔a=[]:=by rw [← h.val]; exact Nrm.zero h.lim h.nrm
theorem Is.nil:Is [] 0:=⟨Lim.nil,Nrm.nil,rfl⟩
theorem Is.len {a:List Int} {z:Int} {n:Nat} (h:Is a z) (hz:z<BP n):a.length≤n:=Nrm.len h.lim h.nrm (h.val▸hz)
theorem Is.lt {a:List Int} {z:Int} (h:Is a z):z<BP a.length:=h.val▸iY h.lim
theorem Is.ge {a:List Int} {z:Int} (h:Is a z) (hne:a≠[]):BP (a.length-1)≤z:=h.val▸Nrm.ge h.lim h.nrm hne
structure IsW (b:Bool) (l:List Int) (z:Int):Prop where
  is:Is l (z.natAbs:Int)
  neg:b=decide (z<0)
theorem IsW.ofNat {l:List Int} {z:Int} (h:Is l z):IsW false l z:=⟨by
  have:=h.nonneg
  rw [show (z.natAbs:Int)=z by omega]; exact h,by have:=h.nonneg; simp; omega⟩
theorem IsW.inj {b b':Bool} {a c:List Int} {z:Int} (h:IsW b a z) (h':IsW b' c z):b=b'∧a=c:=⟨h.neg.trans h'.neg.symm,h.is.inj h'.is⟩
theorem IsW.last {b:Bool} {l:List Int} {z:Int} (h:IsW b l z) (hne:0<l.length):∃ x,l[l.length-1]? = some x∧x≠0:=by
  have hx:l[l.length-1]? = some l[l.length-1]:=List.getElem?_eq_getElem (by omega)
  exact ⟨_,hx,h.is.nrm _ (by rw [List.getLast?_eq_getElem?]; exact hx)⟩
theorem IsW.aHG {b:Bool} {z:Int} (h:IsW b [] z):b=false:=by
  have h1:=h.is.zero.2 rfl
  rw [h.neg]; simp; omega
theorem IsW.pos {b:Bool} {l:List Int} {z:Int} (h:IsW b l z):l=[]↔z=0:=by
  have:=h.is.zero
  rw [← this]; omega
theorem chk {b:Bool} {l:List Int} {z:Int} (h:IsW b l z) (hne:(l.length:Int)=0):b=false:=by
  obtain rfl:l=[]:=List.length_eq_zero_iff.1 (by omega)
  exact h.aHG
def zH:List Int→Nat→Nat
  | _,0=>0
  | l,n+1=>if l[n]? = some 0 then zH l n else n+1
theorem aAa (l:List Int) (hl:Lim l):∀ n,n≤l.length→Is (l.take (zH l n)) (lval (l.take n))
  | 0,_=>by unfold zH; simp only [List.take_zero]; exact Is.nil
  | n+1,hn=>by
    unfold zH
    have hx:l[n]? = some l[n]:=List.getElem?_eq_getElem hn
    split
    · rename_i h0
      rw [cZ h0,Int.mul_zero,Int.add_zero]
      exact aAa l hl n (by omega)
    · rename_i h0
      refine ⟨hl.take _,fun y hy=>?_,rfl⟩
      rw [aAs hx,List.getLast?_append] at hy
      simp only [List.getLast?_singleton,Option.some_or,Option.some.injEq] at hy
      subst hy
      intro h
      exact h0 (by rw [hx,h])
def nC (a b:Int):Int:=if a<b then -1 else if b<a then 1 else 0
end Go.SL
namespace Go.SL
open Go
theorem aCd {a b:Nat} (ha:a<18446744073709551616) (hb:b<18446744073709551616):bitor .u64 (a:Int) (b:Int)=((a|||b:Nat):Int):=by
  unfold bitor
  have e:IntKind.bits .u64=64:=rfl
  rw [e]
  have h1:(BitVec.ofInt 64 (a:Int)|||BitVec.ofInt 64 (b:Int)).toNat=a|||b:=by
    rw [BitVec.toNat_or]
    have ha':(BitVec.ofInt 64 (a:Int)).toNat=a:=by rw [BitVec.toNat_ofInt]; omega
    have hb':(BitVec.ofInt 64 (b:Int)).toNat=b:=by rw [BitVec.toNat_ofInt]; omega
    rw [ha',hb']
  rw [h1]
  have h2:a|||b<2^64:=Nat.or_lt_two_pow (by simpa using ha) (by simpa using hb)
  exact bD (by omega)
theorem aEe {a b:Nat} (ha:a<18446744073709551616) (hb:b<18446744073709551616):bitand .u64 (a:Int) (b:Int)=((a&&&b:Nat):Int):=by
  unfold bitand
  have e:IntKind.bits .u64=64:=rfl
  rw [e]
  have h1:(BitVec.ofInt 64 (a:Int)&&&BitVec.ofInt 64 (b:Int)).toNat=a&&&b:=by
    rw [BitVec.toNat_and]
    have ha':(BitVec.ofInt 64 (a:Int)).toNat=a:=by rw [BitVec.toNat_ofInt]; omega
    have hb':(BitVec.ofInt 64 (b:Int)).toNat=b:=by rw [BitVec.toNat_ofInt]; omega
    rw [ha',hb']
  rw [h1]
  have h2:a&&&b<2^64:=Nat.and_lt_two_pow _ (by simpa using hb)
  exact bD (by omega)
theorem vN {x c:Int} (s:Nat) (hx:0≤x) (hc:0≤c∧c<2^s) (h:x*2^s+c<18446744073709551616):bitor .u64 (x*2^s) c=x*2^s+c∧bitor .u64 c (x*2^s)=x*2^s+c:=by
  obtain ⟨n,rfl⟩:=Int.eq_ofNat_of_zero_le hx
  obtain ⟨m,rfl⟩:=Int.eq_ofNat_of_zero_le hc.1
  have e1:((n:Int)*2^s)=((n*2^s:Nat):Int):=by push_cast; rfl
  have hm:m<2^s:=by
    have:=hc.2
    have e:((2:Int)^s)=((2^s:Nat):Int):=by push_cast; rfl
    rw [e] at this; omega
  rw [e1] at h ⊢
  have hn:n*2^s<18446744073709551616:=by omega
  have hm':m<18446744073709551616:=by omega
  have e2:n*2^s|||m=n*2^s+m:=by
    have:=Nat.shiftLeft_add_eq_or_of_lt hm n
    rw [Nat.shiftLeft_eq] at this
    exact this.symm
  constructor
  · rw [aCd hn hm',e2]; push_cast; rfl
  · rw [aCd hm' hn,Nat.or_comm,e2]; push_cast; rfl
theorem aDh {x:Int} (s:Nat) (hs:s≤63) (hx:0≤x∧x<18446744073709551616):bitand .u64 x (2^s-1)=x % 2^s:=by
  obtain ⟨n,rfl⟩:=Int.eq_ofNat_of_zero_le hx.1
  have h1:(2:Nat)^s≤2^63:=Nat.pow_le_pow_right (by decide) hs
  have h2:1≤(2:Nat)^s:=Nat.one_le_two_pow
  have e1:((2:Int)^s-1)=((2^s-1:Nat):Int):=by
    have e:((2:Int)^s)=((2^s:Nat):Int):=by push_cast; rfl
    rw [e]; omega
  rw [e1,aEe (by omega) (by omega),Nat.and_two_pow_sub_one_eq_mod]
  push_cast; rfl
theorem aEc (v:BitVec 32):IntKind.u32.wrap ((v.toNat:Nat):Int)=(v.toNat:Int):=by
  have:=v.isLt
  rw [IntKind.wrap_u32]; omega
theorem aCF (v:BitVec 32):BitVec.ofInt 32 (v.toNat:Int)=v:=by
  apply BitVec.eq_of_toNat_eq
  rw [BitVec.toNat_ofInt]
  have:=v.isLt
  omega
theorem aG8 (v:BitVec 32):Int.fdiv (v.toNat:Int) (2^31)=if v.msb then 1 else 0:=by
  rw [fdiv_pow,BitVec.msb_eq_decide]
  have:=v.isLt
  have e:((2:Int)^31)=2147483648:=by decide
  rw [e]
  simp only [decide_eq_true_eq]
  split <;> omega
theorem aCC {x:Int} (h:0≤x∧x<4294967296):(BitVec.ofInt 32 x).msb=decide (2147483648≤x):=by
  rw [BitVec.msb_eq_decide,BitVec.toNat_ofInt]
  congr 1
  simp only [eq_iff_iff]
  omega
theorem aGx (a b:Int):bitor .u32 a b=(((BitVec.ofInt 32 a|||BitVec.ofInt 32 b).toNat:Nat):Int):=aEc _
theorem aGU (a b:Int):bitand .u32 a b=(((BitVec.ofInt 32 a&&&BitVec.ofInt 32 b).toNat:Nat):Int):=aEc _
theorem aGj (a b:Int):bitxor .u32 a b=(((BitVec.ofInt 32 a ^^^ BitVec.ofInt 32 b).toNat:Nat):Int):=aEc _
theorem aDr {x y b d:Int} (hx:0≤x∧x<4294967296) (hy:0≤y∧y<4294967296) (hb:b=0∨b=1) (hd:d=(x-y-b) % 4294967296) :
    Int.fdiv (bitor .u32 (bitand .u32 (bitxor .u32 (4294967295) x) y) (bitand .u32 (bitxor .u32 (4294967295) (bitxor .u32 x y)) d)) (2^31)=if x<y+b then 1 else 0:=by
  have hd':0≤d∧d<4294967296:=by omega
  simp only [aGx,aGU,aGj,aCF]
  rw [aG8]
  have hones:(BitVec.ofInt 32 4294967295).msb=true:=by decide
  simp only [BitVec.msb_or,BitVec.msb_and,BitVec.msb_xor,hones,aCC hx,aCC hy,aCC hd']
  by_cases h1:2147483648≤x <;> by_cases h2:2147483648≤y <;> by_cases h3:2147483648≤d <;> simp [h1,h2,h3] <;> omega
theorem xG {T:Type} (t:List T) (x:T):iJ (t++[x])=((t.length:Int),x)::iJ t:=by
  unfold iJ
  rw [List.zipIdx_append,List.map_append,List.reverse_append]
  simp
theorem yR {T:Type}:iJ ([]:List T)=[]:=rfl
theorem aAc {T:Type} {p:List T→Prop} (h0:p []) (hs:∀ t x,p t→p (t++[x])) (l:List T):p l:=by
  have:∀ n (l:List T),l.length=n→p l:=by
    intro n
    induction n with
    | zero=>intro l hl; rw [List.length_eq_zero_iff.1 hl]; exact h0
    | succ n ih =>
      intro l hl
      have hne:l≠[]:=fun e=>by subst e; simp at hl
      rw [← List.dropLast_concat_getLast hne]
      exact hs _ _ (ih _ (by simp [hl]))
  exact this _ l rfl
end Go.SL

namespace Go.Proofs.YtbccfconmcgfgaaGreat
open Go Go.SL
theorem ixn {T:Type} {l:List T} {i:Nat} {x:T} (h:l[i]? = some x):idx l (i:Int)=some x:=by
  unfold idx; rw [if_pos (by omega)]; simpa using h
theorem zG {T:Type} (l:List T) (k:Nat):lsub l 0 (k:Int)=l.take k:=by simp [lsub]
theorem wS {i:Nat} (h:i≤1000000):IntKind.i64.wrap ((i:Int)+1)=((i+1:Nat):Int):=by rw [bI (by omega)]; omega
theorem wP {i:Nat} (h:i≤1000000):IntKind.i64.wrap (((i+1:Nat):Int)-1)=(i:Int):=by rw [bI (by omega)]; omega
theorem mD {x:Int} (h:0≤x∧x<4294967296):IntKind.u32.wrap x=x:=by rw [IntKind.wrap_u32]; omega
theorem yN (x:Int):IntKind.u32.wrap x=x % 4294967296:=IntKind.wrap_u32 x
theorem yu (x:Int):Int.fdiv x (2^32)=x/4294967296:=by rw [fdiv_pow]; rfl
theorem aEk (F:Nat) (l:List Int) (hl:l.length≤1000000):∀ (n N:Nat),n<N→n≤l.length→iN F l N (n:Int)=some (l.take (zH l n))
  | _,0,h,_=>by omega
  | 0,N+1,_,hn=>by
    show jX F l (iN F l N) ((0:Nat):Int)=_
    unfold jX ku ny
    rw [if_neg (by omega),if_neg (by simp),if_pos ⟨by omega,by omega,by omega⟩,zG]
    rfl
  | n+1,N+1,h,hn=>by
    show jX F l (iN F l N) ((n+1:Nat):Int)=_
    have hx:l[n]? = some l[n]:=List.getElem?_eq_getElem hn
    unfold jX ku ny
    rw [if_pos (by omega),wP (by omega),ixn hx,Option.bind_some]
    unfold zH
    by_cases h0:l[n]=0
    · rw [if_pos (by simpa using h0),if_pos (by rw [hx,h0])]
      exact aEk F l hl n N (by omega) (by omega)
    · have h1:¬ (l[n]? = some 0):=by rw [hx]; simpa using h0
      rw [if_neg (by simpa using h0),if_neg h1,if_pos ⟨by omega,by omega,by omega⟩,zG]
section
variable {F:Nat} (hF:4300000000≤F)
include hF
theorem wC {l:List Int} (hl:Lim l) (hn:l.length≤1000000):∃ r,iC F l=some r∧Is r (lval l):=by
  refine ⟨_,aEk F l hn l.length F (by omega) (Nat.le_refl _),?_⟩
  have:=aAa l hl l.length (Nat.le_refl _)
  rw [List.take_length] at this
  exact this
theorem vg {l:List Int} (hl:Lim l) (hn:l.length≤4096) (b:Bool):∃ b' r,gP F b l=some (b',r,0)∧IsW b' r (if b=true then -(lval l) else lval l):=by
  obtain ⟨r,h1,h2⟩:=wC hF hl (by omega)
  have h3:r.length≤4096:=h2.len (Int.lt_of_lt_of_le (iY hl) (sV hn))
  have h4:=h2.nonneg
  have h5:=h2.zero
  unfold gP
  rw [h1,Option.bind_some,if_neg (by omega)]
  refine ⟨_,_,rfl,?_,?_⟩
  · cases b
    · simp only [Bool.false_eq_true,if_false]
      rw [show ((lval l).natAbs:Int)=lval l by omega]; exact h2
    · simp only [if_true]
      rw [show ((-(lval l)).natAbs:Int)=lval l by omega]; exact h2
  · cases b
    · simp only [Bool.false_and,Bool.false_eq_true,if_false]
      symm; simp only [decide_eq_false_iff_not]; omega
    · simp only [Bool.true_and,if_true]
      congr 1
      have:r.length>0↔r≠[]:=List.length_pos_iff
      have h6:r≠[]↔lval l≠0:=not_congr h5.symm
      simp only [eq_iff_iff]
      rw [show ((r.length:Int)>0)↔(r.length>0) by omega,this,h6]
      omega
omit hF in
theorem aAB {b:Bool} {l:List Int} {z:Int} (h:IsW b l z) (hn:l.length≤4096):kJ F b l=some 0:=by
  unfold kJ lQ lg oV
  rw [if_neg (by omega)]
  have hc:=chk h
  by_cases h0:(l.length:Int)>0
  · obtain ⟨x,hx,hx0⟩:=h.last (by omega)
    rw [if_pos h0,show IntKind.i64.wrap ((l.length:Int)-1)=((l.length-1:Nat):Int) by rw [bI (by omega)]; omega,ixn hx,Option.bind_some,if_neg]
    have h1:¬ l=[]:=fun e=>by subst e; simp at h0
    simp [hx0,h1]
  · rw [if_neg h0,if_neg]
    have:=hc (by omega)
    simp [this]
omit hF in
theorem xP {b b':Bool} {l l':List Int} {z z':Int} (h:IsW b l z) (hn:l.length≤4096) (h':IsW b' l' z') (hn':l'.length≤4096):jI F b l b' l'=some 0:=by
  have key:jb F l b l' b' false=some 0:=by
    unfold jb
    rw [if_neg]
    · unfold lT lI oM
      rw [if_neg (by omega)]
      have hc:=chk h'
      by_cases h0:(l'.length:Int)>0
      · obtain ⟨x,hx,hx0⟩:=h'.last (by omega)
        rw [if_pos h0,show IntKind.i64.wrap ((l'.length:Int)-1)=((l'.length-1:Nat):Int) by rw [bI (by omega)]; omega,ixn hx,Option.bind_some,if_neg]
        have h1:¬ l'=[]:=fun e=>by subst e; simp at h0
        simp [hx0,h1]
      · rw [if_neg h0,if_neg]
        have:=hc (by omega)
        simp [this]
    · have hc:=chk h
      simp only [Bool.false_or,Bool.and_eq_true,decide_eq_true_eq,not_and]
      intro h0
      rw [hc h0]; simp
  unfold jI lZ
  rw [if_neg (by omega)]
  by_cases h0:(l.length:Int)>0
  · obtain ⟨x,hx,hx0⟩:=h.last (by omega)
    rw [if_pos h0,show IntKind.i64.wrap ((l.length:Int)-1)=((l.length-1:Nat):Int) by rw [bI (by omega)]; omega,ixn hx,Option.bind_some]
    rw [show decide (x=(0:Int))=false by simpa using hx0]
    exact key
  · rw [if_neg h0]; exact key
theorem aAY {x:Int} (h:-9223372036854775808≤x∧x≤9223372036854775807):∃ b l,mY F x=some (b,l)∧IsW b l x:=by
  have key:∀ u:Int,0≤u∧u<18446744073709551616→u=x.natAbs→∃ b l,nS F x u=some (b,l)∧IsW b l x:=fun u hu hux=>by
    unfold nS
    have e1:IntKind.u32.wrap u=u % 4294967296:=yN u
    have e2:IntKind.u32.wrap (Int.fdiv u (2^32))=u/4294967296:=by rw [yu,mD (by omega)]
    rw [e1,e2]
    have hL:Lim [u % 4294967296,u/4294967296]:=Lim.cons (by omega) (Lim.cons (by omega) Lim.nil)
    obtain ⟨b',r,h1,h2⟩:=vg hF hL (by simp) (decide (x<0))
    rw [h1,Option.bind_some]
    refine ⟨b',r,rfl,?_⟩
    have hv:lval [u % 4294967296,u/4294967296]=u:=by simp only [lval]; omega
    rw [hv] at h2
    have:(if decide (x<0)=true then -u else u)=x:=by
      by_cases hx:x<0
      · simp only [hx,decide_true,if_true]; omega
      · simp only [hx,decide_false,Bool.false_eq_true,if_false]; omega
    rw [this] at h2
    exact h2
  unfold mY
  split
  · refine key _ (zV _) ?_
    rw [aBS,aBS]; omega
  · refine key _ (zV _) ?_
    rw [aBS]; omega
omit hF in
theorem aB1 {a b:List Int} (ha:Lim a) (hb:Lim b) (hla:a.length≤5000) (hlb:b.length≤5000) {i:Nat} {x:Int} (hx:a[i]? = some x) (rec:List Int→Int→Option (List Int)) (o0:List Int) :
    ∀ (m N k:Nat) (o:List Int) (c:Int),k+m=b.length→m<N→o.length=a.length+b.length→Lim o→0≤c∧c<4294967296→(∀ j,i+k≤j→o[j]? = o0[j]?)→lval o+c*BP (i+k)=lval o0+x*BP i*lval (b.take k) →
      ∃ o' c',gM F b (i:Int) x rec N o c (k:Int)=o9 F (i:Int) b rec o' c' (b.length:Int)∧o'.length=a.length+b.length∧Lim o'∧(0≤c'∧c'<4294967296)∧(∀ j,i+b.length≤j→o'[j]? = o0[j]?)∧lval o'+c'*BP (i+b.length)=lval o0+x*BP i*lval b
  | _,0,_,_,_,_,h,_,_,_,_,_=>by omega
  | 0,N+1,k,o,c,hk,_,ho,hlo,hc,hj,hv=>by
    have e1:gM F b (i:Int) x rec (N+1) o c (k:Int)=kG F b (i:Int) x rec (gM F b (i:Int) x rec N) o c (k:Int):=rfl
    rw [e1]
    unfold kG
    rw [if_neg (by omega)]
    obtain rfl:k=b.length:=by omega
    rw [List.take_length] at hv
    exact ⟨o,c,rfl,ho,hlo,hc,hj,hv⟩
  | m+1,N+1,k,o,c,hk,hN,ho,hlo,hc,hj,hv=>by
    have e1:gM F b (i:Int) x rec (N+1) o c (k:Int)=kG F b (i:Int) x rec (gM F b (i:Int) x rec N) o c (k:Int):=rfl
    rw [e1]
    unfold kG
    have hil:=(List.getElem?_eq_some_iff.1 hx).1
    have hy:b[k]? = some b[k]:=List.getElem?_eq_getElem (by omega)
    have hz:o[i+k]? = some o[i+k]:=List.getElem?_eq_getElem (by omega)
    have by_:=hb.at hy; have bz:=hlo.at hz; have bx:=ha.at hx
    rw [if_pos (by omega),ixn hy,Option.bind_some,show IntKind.i64.wrap ((i:Int)+(k:Int))=((i+k:Nat):Int) by rw [bI (by omega)]; omega,ixn hz,Option.bind_some,Option.bind_some]
    have hm:=aBk bx by_
    generalize hyv:b[k]=y at *
    generalize hzv:o[i+k]=z at *
    have hbig:x*y≤18446744065119617025:=hm.2
    rw [bD (x:=x) (by omega),bD (x:=y) (by omega),bD (x:=z) (by omega),bD (x:=x*y) (by omega),bD (x:=x*y+z) (by omega),bD (by omega),yu,yN,Int.toNat_natCast,wS (by omega)]
    have hset:lval (o.set (i+k) ((c+(x*y+z)) % 4294967296))=lval o+BP (i+k)*((c+(x*y+z)) % 4294967296-z):=jB _ hz
    have htk:=cZ hy
    refine aB1 ha hb hla hlb hx rec o0 m N (k+1) _ _ (by omega) (by omega) (by simpa using ho) (hlo.set _ (by omega)) (by omega) (fun j hj'=>?_) ?_
    · rw [List.getElem?_set_ne (by omega)]; exact hj j (by omega)
    · rw [hset,htk,show i+(k+1)=(i+k)+1 by omega,eY]
      have hmod:=Int.mul_ediv_add_emod (c+(x*y+z)) 4294967296
      rw [yj] at hv ⊢
      generalize (c+(x*y+z))/4294967296=q at *
      generalize (c+(x*y+z)) % 4294967296=s at *
      generalize BP i=p at *
      generalize BP k=p' at *
      generalize lval (b.take k)=u at *
      generalize lval o=v at *
      generalize lval o0=v0 at *
      have:s=c+(x*y+z)-4294967296*q:=by omega
      subst this
      grind
omit hF in
theorem aA8 (hF:4300000000≤F) {a b:List Int} (ha:Lim a) (hb:Lim b) (hla:a.length≤5000) (hlb:b.length≤5000):∀ (m N i:Nat) (o:List Int),i+m=a.length→m<N→o.length=a.length+b.length→Lim o→(∀ j,i+b.length≤j→j<o.length→o[j]? = some 0)→lval o=lval (a.take i)*lval b →
    ∃ r,fO F a b N o (i:Int)=some r∧r.length=a.length+b.length∧Lim r∧lval r=lval a*lval b
  | _,0,_,_,_,h,_,_,_,_=>by omega
  | 0,N+1,i,o,hi,_,ho,hlo,_,hv=>by
    have e1:fO F a b (N+1) o (i:Int)=kH F a b (fO F a b N) o (i:Int):=rfl
    rw [e1]
    unfold kH qo
    rw [if_neg (by omega)]
    rw [show i=a.length by omega,List.take_length] at hv
    exact ⟨o,rfl,ho,hlo,hv⟩
  | m+1,N+1,i,o,hi,hN,ho,hlo,hz,hv=>by
    have e1:fO F a b (N+1) o (i:Int)=kH F a b (fO F a b N) o (i:Int):=rfl
    rw [e1]
    unfold kH
    have hx:a[i]? = some a[i]:=List.getElem?_eq_getElem (by omega)
    rw [if_pos (by omega),ixn hx,Option.bind_some]
    obtain ⟨o',c',h1,h2,h3,h4,h5,h6⟩:=aB1 (F:=F) ha hb hla hlb hx (fO F a b N) o b.length F 0 o 0 (by omega) (by omega) ho hlo (by omega) (fun j _=>rfl) (by simp [lval])
    rw [show ((0:Nat):Int)=0 from rfl] at h1
    rw [h1]
    unfold o9 qj
    have hy:o'[i+b.length]? = some 0:=by rw [h5 _ (Nat.le_refl _)]; exact hz _ (by omega) (by omega)
    rw [show IntKind.i64.wrap ((i:Int)+(b.length:Int))=((i+b.length:Nat):Int) by rw [bI (by omega)]; omega,ixn hy,Option.bind_some,Int.toNat_natCast,wS (by omega),mD h4]
    have hset:lval (o'.set (i+b.length) c')=lval o'+BP (i+b.length)*(c'-0):=jB _ hy
    refine aA8 hF ha hb hla hlb m N (i+1) _ (by omega) (by omega) (by simpa using h2) (h3.set _ h4) (fun j hj hjl=>?_) ?_
    · simp only [List.length_set] at hjl
      rw [List.getElem?_set_ne (by omega),h5 _ (by omega)]
      exact hz _ (by omega) (by omega)
    · rw [hset,cZ hx]
      rw [hv] at h6
      grind
theorem aFJ {a b:List Int} (ha:Lim a) (hb:Lim b) (hla:a.length≤5000) (hlb:b.length≤5000):∃ r,rY F a b=some r∧r.length=a.length+b.length∧Lim r∧lval r=lval a*lval b:=by
  unfold rY
  have e:IntKind.i64.wrap ((a.length:Int)+(b.length:Int))=((a.length+b.length:Nat):Int):=by rw [bI (by omega)]; omega
  rw [e,if_pos (by omega),Int.toNat_natCast]
  exact aA8 hF ha hb hla hlb a.length F 0 _ (by omega) (by omega) (by simp) (Lim.zeros _) (fun j _ hj=>by simp at hj; rw [List.getElem?_replicate,if_pos hj]) (by rw [nK]; simp [lval])
theorem aEJ {b b':Bool} {l l':List Int} {z z':Int} (h:IsW b l z) (h':IsW b' l' z') (hn:l.length≤2000) (hn':l'.length≤2000):∃ c r,rA F b l b' l'=some (c,r,0)∧IsW c r (z*z'):=by
  unfold rA
  rw [xP h (by omega) h' (by omega),Option.bind_some,if_neg (by decide)]
  obtain ⟨r,h1,h2,h3,h4⟩:=aFJ hF h.is.lim h'.is.lim (by omega) (by omega)
  rw [h1,Option.bind_some]
  obtain ⟨c,q,h5,h6⟩:=vg hF h3 (by omega) (!(b == b'))
  rw [h5,Option.bind_some]
  refine ⟨c,q,rfl,?_⟩
  rw [h4,h.is.val,h'.is.val,h.neg,h'.neg] at h6
  have:(if (!(decide (z<0) == decide (z'<0)))=true then -((z.natAbs:Int)*(z'.natAbs:Int)) else (z.natAbs:Int)*(z'.natAbs:Int))=z*z':=by
    by_cases h1:z<0 <;> by_cases h2:z'<0
    · rw [show (z.natAbs:Int)=-z by omega,show (z'.natAbs:Int)=-z' by omega]; simp [h1,h2,Int.neg_mul_neg]
    · rw [show (z.natAbs:Int)=-z by omega,show (z'.natAbs:Int)=z' by omega]; simp [h1,h2,Int.neg_mul]
    · rw [show (z.natAbs:Int)=z by omega,show (z'.natAbs:Int)=-z' by omega]; simp [h1,h2,Int.mul_neg]
    · rw [show (z.natAbs:Int)=z by omega,show (z'.natAbs:Int)=z' by omega]; simp [h1,h2]
  rw [this] at h6
  exact h6
end
end Go.Proofs.YtbccfconmcgfgaaGreat

namespace Go.Proofs.YtbccfconmcgfgaaGreat
open Go Go.SL
theorem aBb (F:Nat) {x y b:Int} (hx:0≤x∧x<4294967296) (hy:0≤y∧y<4294967296) (hb:b=0∨b=1):iy F x y b=some ((x-y-b) % 4294967296,if x<y+b then 1 else 0):=by
  unfold iy
  have e:IntKind.u32.wrap (IntKind.u32.wrap (x-y)-b)=(x-y-b) % 4294967296:=by rw [yN,yN]; omega
  rw [Option.bind_some,e,aDr hx hy hb rfl,Option.bind_some]
theorem aFk (F:Nat) {x y b:Int} (hx:0≤x∧x<4294967296) (hy:0≤y∧y<4294967296) (hb:b=0∨b=1):mR F x y b=some ((x+y+b) % 4294967296,(x+y+b)/4294967296):=by
  unfold mR
  rw [bD (x:=x) (by omega),bD (x:=y) (by omega),bD (x:=x+y) (by omega),bD (x:=b) (by omega),bD (by omega),Option.bind_some,yu,Option.bind_some,yN,mD (by omega)]
theorem aDC (F:Nat) {h l d:Int} (hl:0≤l∧l<4294967296) (hd:0<d∧d<4294967296) (hh:0≤h∧h<d):j4 F h l d=some ((h*4294967296+l)/d,(h*4294967296+l) % d):=by
  unfold j4
  have e0:((2:Int)^32)=4294967296:=by decide
  have h1:=(vN (x:=h) (c:=l) 32 hh.1 (by rw [e0]; exact hl) (by rw [e0]; omega)).1
  rw [e0] at h1
  rw [if_neg (by simp; omega),bD (x:=h) (by omega),e0,bD (x:=h*4294967296) (by omega),bD (x:=l) (by omega),h1,Option.bind_some,bD (x:=d) (by omega),if_pos (by omega),if_pos (by omega),Option.bind_some,Option.bind_some,
    Int.tdiv_eq_ediv_of_nonneg (by omega),Int.tmod_eq_emod_of_nonneg (by omega)]
  have q1:(h*4294967296+l)/d<4294967296:=Int.ediv_lt_of_lt_mul hd.1 (by
    have:(h+1)*4294967296≤d*4294967296:=Int.mul_le_mul_of_nonneg_right (by omega) (by omega)
    omega)
  have q0:0≤(h*4294967296+l)/d:=Int.ediv_nonneg (by omega) (by omega)
  have r0:=Int.emod_nonneg (h*4294967296+l) (show d≠0 by omega)
  have r1:=Int.emod_lt_of_pos (h*4294967296+l) hd.1
  rw [mD (x:=(h*4294967296+l) % d) (by omega),bD (x:=(h*4294967296+l)/d) (by omega),mD (x:=(h*4294967296+l)/d) (by omega)]
theorem aG1 (F:Nat) {a b:List Int} (hb:Lim b):∀ t:List Int,Lim t→t.length≤b.length→eU F b (iJ t)=some (nC (lval t) (lval (b.take t.length))):=by
  intro t
  induction t using aAc with
  | h0=>intro _ _; simp [yR,eU,pR,lval,nC]
  | hs t x ih =>
    intro hl hn
    simp only [List.length_append,List.length_singleton] at hn ⊢
    have hy:b[t.length]? = some b[t.length]:=List.getElem?_eq_getElem (by omega)
    rw [xG]
    show mg F b (eU F b (iJ t)) (t.length:Int) x=_
    unfold mg jy
    rw [ixn hy,Option.bind_some,ih hl.left (by omega),jk,cZ hy]
    have h1:=iY hl.left
    have h2:=bF hl.left
    have h3:=iY (hb.take t.length)
    have h4:=bF (hb.take t.length)
    rw [List.length_take,Nat.min_eq_left (by omega)] at h3
    generalize b[t.length]=y at *
    generalize lval t=u at *
    generalize lval (b.take t.length)=v at *
    have hp:=kX t.length
    generalize BP t.length=p at *
    unfold nC
    by_cases hxy:x<y
    · have:p*(x+1)≤p*y:=Int.mul_le_mul_of_nonneg_left (by omega) (by omega)
      rw [Int.mul_add] at this
      rw [if_pos hxy,if_pos (by omega)]
    · rw [if_neg hxy]
      by_cases hyx:x>y
      · have:p*(y+1)≤p*x:=Int.mul_le_mul_of_nonneg_left (by omega) (by omega)
        rw [Int.mul_add] at this
        rw [if_pos hyx,if_neg (by omega),if_pos (by omega)]
      · obtain rfl:x=y:=by omega
        rw [if_neg hyx]
        have g1:(u+p*x<v+p*x)=(u<v):=by simp only [eq_iff_iff]; omega
        have g2:(v+p*x<u+p*x)=(v<u):=by simp only [eq_iff_iff]; omega
        simp only [g1,g2]
theorem vJ {F:Nat} {a b:List Int} {z z':Int} (ha:Is a z) (hb:Is b z'):ic F a b=some (nC z z'):=by
  unfold ic oI
  by_cases hl:a.length=b.length
  · rw [if_neg (by omega),Option.bind_some,aG1 (a:=a) F hb.lim a ha.lim (by omega),hl,List.take_length,ha.val,hb.val]
  · rw [if_pos (by omega)]
    have key:∀ {a b:List Int} {z z':Int},Is a z→Is b z'→a.length<b.length→z<z':=fun {a b z z'} ha hb h=>by
      have h1:=ha.lt
      have h2:=hb.ge (fun e=>by subst e; simp at h)
      have h3:=sV (show a.length≤b.length-1 by omega)
      omega
    by_cases h1:a.length<b.length
    · have:=key ha hb h1
      rw [if_pos (by omega)]; unfold nC; rw [if_pos this]
    · have:=key hb ha (by omega)
      rw [if_neg (by omega)]; unfold nC; rw [if_neg (by omega),if_pos this]
section
variable {F:Nat} (hF:4300000000≤F)
include hF
omit hF in
theorem aDs {a b:List Int} (ha:Lim a) (hb:Lim b) (hla:a.length≤5000) (hab:b.length≤a.length):∀ (m N i:Nat) (o:List Int) (c:Int),i+m=a.length→m<N→o.length=a.length+1→Lim o→(c=0∨c=1)→(∀ j,i≤j→j<o.length→o[j]? = some 0)→lval o+c*BP i=lval (a.take i)+lval (b.take i) →
    ∃ r,gG F a b N o c (i:Int)=some r∧r.length=a.length+1∧Lim r∧lval r=lval a+lval b
  | _,0,_,_,_,_,h,_,_,_,_,_=>by omega
  | 0,N+1,i,o,c,hi,_,ho,hlo,hc,hz,hv=>by
    have e1:gG F a b (N+1) o c (i:Int)=lW F a b (gG F a b N) o c (i:Int):=rfl
    rw [e1]
    unfold lW rR
    obtain rfl:i=a.length:=by omega
    have h0:=hz a.length (Nat.le_refl _) (by omega)
    rw [if_neg (by omega),ixn h0,Option.bind_some,Int.toNat_natCast]
    refine ⟨_,rfl,by simpa using ho,hlo.set _ (by omega),?_⟩
    rw [jB _ h0]
    rw [List.take_length,List.take_of_length_le hab] at hv
    rw [← hv]
    grind
  | m+1,N+1,i,o,c,hi,hN,ho,hlo,hc,hz,hv=>by
    have e1:gG F a b (N+1) o c (i:Int)=lW F a b (gG F a b N) o c (i:Int):=rfl
    rw [e1]
    unfold lW
    have hx:a[i]? = some a[i]:=List.getElem?_eq_getElem (by omega)
    have bx:=ha.at hx
    have h0:=hz i (Nat.le_refl _) (by omega)
    have key:∀ y:Int,0≤y∧y<4294967296→lval (b.take (i+1))=lval (b.take i)+BP i*y→∃ r,nX F a[i] c o (i:Int) (gG F a b N) y=some r∧r.length=a.length+1∧Lim r∧lval r=lval a+lval b:=fun y hy hvy=>by
      unfold nX
      rw [aFk F bx hy hc,Option.bind_some,ixn h0,Option.bind_some,Int.toNat_natCast,wS (by omega)]
      refine aDs ha hb hla hab m N (i+1) _ _ (by omega) (by omega) (by simpa using ho) (hlo.set _ (by omega)) (by omega) (fun j hj hjl=>?_) ?_
      · simp only [List.length_set] at hjl
        rw [List.getElem?_set_ne (by omega)]; exact hz j (by omega) hjl
      · rw [jB _ h0,cZ hx,hvy,eY]
        have hmod:=Int.mul_ediv_add_emod (a[i]+y+c) 4294967296
        clear hx h0 bx e1 hz
        generalize a[i]=x at *
        generalize (x+y+c)/4294967296=q at *
        generalize (x+y+c) % 4294967296=s at *
        generalize BP i=p at *
        have hs:s=x+y+c-4294967296*q:=by omega
        rw [hs]
        grind
    rw [if_pos (by omega),ixn hx,Option.bind_some]
    by_cases hib:i<b.length
    · have hy:b[i]? = some b[i]:=List.getElem?_eq_getElem hib
      rw [if_pos (by omega),ixn hy,Option.bind_some]
      exact key _ (hb.at hy) (cZ hy)
    · rw [if_neg (by omega)]
      refine key 0 (by omega) ?_
      rw [List.take_of_length_le (by omega),List.take_of_length_le (by omega)]; simp
theorem aCX {a b:List Int} (ha:Lim a) (hb:Lim b) (hla:a.length≤4000) (hlb:b.length≤4000):∃ r,qE F a b=some r∧r.length≤4001∧r.length≤max a.length b.length+1∧Lim r∧lval r=lval a+lval b:=by
  have key:∀ {a b:List Int},Lim a→Lim b→a.length≤4000→b.length≤a.length→∃ r,nP F a b=some r∧r.length=a.length+1∧Lim r∧lval r=lval a+lval b:=fun {a b} ha hb hla hab=>by
    unfold nP
    rw [wS (by omega),if_pos (by omega),Int.toNat_natCast]
    exact aDs ha hb (by omega) hab a.length F 0 _ 0 (by omega) (by omega) (by simp) (Lim.zeros _) (.inl rfl) (fun j _ hj=>by simp at hj; rw [List.getElem?_replicate,if_pos hj]) (by rw [nK]; simp [lval])
  unfold qE
  by_cases h:(a.length:Int)<(b.length:Int)
  · rw [if_pos h]
    obtain ⟨r,h1,h2,h3,h4⟩:=key hb ha hlb (by omega)
    exact ⟨r,h1,by omega,by omega,h3,by omega⟩
  · rw [if_neg h]
    obtain ⟨r,h1,h2,h3,h4⟩:=key ha hb hla (by omega)
    exact ⟨r,h1,by omega,by omega,h3,h4⟩
omit hF in
theorem aDA {a b:List Int} (ha:Lim a) (hb:Lim b) (hla:a.length≤5000) (hab:b.length≤a.length) (hle:lval b≤lval a):∀ (m N i:Nat) (o:List Int) (c:Int),i+m=a.length→m<N→o.length=a.length→Lim o→(c=0∨c=1)→(∀ j,i≤j→j<o.length→o[j]? = some 0)→lval o-c*BP i=lval (a.take i)-lval (b.take i) →
    ∃ r,fJ F a b N o c (i:Int)=some r∧r.length=a.length∧Lim r∧lval r=lval a-lval b
  | _,0,_,_,_,_,h,_,_,_,_,_=>by omega
  | 0,N+1,i,o,c,hi,_,ho,hlo,hc,hz,hv=>by
    have e1:fJ F a b (N+1) o c (i:Int)=kN F a b (fJ F a b N) o c (i:Int):=rfl
    rw [e1]
    unfold kN qp
    obtain rfl:i=a.length:=by omega
    rw [if_neg (by omega)]
    rw [List.take_length,List.take_of_length_le hab] at hv
    refine ⟨o,rfl,ho,hlo,?_⟩
    have h1:=iY hlo
    rw [ho] at h1
    rcases hc with rfl | rfl
    · omega
    · omega
  | m+1,N+1,i,o,c,hi,hN,ho,hlo,hc,hz,hv=>by
    have e1:fJ F a b (N+1) o c (i:Int)=kN F a b (fJ F a b N) o c (i:Int):=rfl
    rw [e1]
    unfold kN
    have hx:a[i]? = some a[i]:=List.getElem?_eq_getElem (by omega)
    have bx:=ha.at hx
    have h0:=hz i (Nat.le_refl _) (by omega)
    have key:∀ y:Int,0≤y∧y<4294967296→lval (b.take (i+1))=lval (b.take i)+BP i*y→∃ r,mE F a[i] c o (i:Int) (fJ F a b N) y=some r∧r.length=a.length∧Lim r∧lval r=lval a-lval b:=fun y hy hvy=>by
      unfold mE
      rw [aBb F bx hy hc,Option.bind_some,ixn h0,Option.bind_some,Int.toNat_natCast,wS (by omega)]
      refine aDA ha hb hla hab hle m N (i+1) _ _ (by omega) (by omega) (by simpa using ho) (hlo.set _ (by omega)) (by simp only; split <;> simp) (fun j hj hjl=>?_) ?_
      · simp only [List.length_set] at hjl
        rw [List.getElem?_set_ne (by omega)]; exact hz j (by omega) hjl
      · rw [jB _ h0,cZ hx,hvy,eY]
        have hs:(a[i]-y-c) % 4294967296=a[i]-y-c+4294967296*(if a[i]<y+c then 1 else 0):=by split <;> omega
        simp only
        rw [hs]
        generalize (if a[i]<y+c then (1:Int) else 0)=q at *
        generalize BP i=p at *
        grind
    rw [if_pos (by omega),ixn hx,Option.bind_some]
    by_cases hib:i<b.length
    · have hy:b[i]? = some b[i]:=List.getElem?_eq_getElem hib
      rw [if_pos (by omega),ixn hy,Option.bind_some]
      exact key _ (hb.at hy) (cZ hy)
    · rw [if_neg (by omega)]
      refine key 0 (by omega) ?_
      rw [List.take_of_length_le (by omega),List.take_of_length_le (by omega)]; simp
theorem aBA {a b:List Int} (ha:Lim a) (hb:Lim b) (hla:a.length≤5000) (hab:b.length≤a.length) (hle:lval b≤lval a):∃ r,oP F a b=some r∧r.length=a.length∧Lim r∧lval r=lval a-lval b:=by
  unfold oP
  rw [if_pos (by omega),Int.toNat_natCast]
  exact aDA ha hb hla hab hle a.length F 0 _ 0 (by omega) (by omega) (by simp) (Lim.zeros _) (.inl rfl) (fun j _ hj=>by simp at hj; rw [List.getElem?_replicate,if_pos hj]) (by rw [nK]; simp [lval])
omit hF in
theorem pK {a b:List Int} {z z':Int} (ha:Is a z) (hb:Is b z') (h:z'≤z):b.length≤a.length:=hb.len (Int.lt_of_le_of_lt h ha.lt)
theorem aG6 {b b':Bool} {l l':List Int} {z z':Int} (h:IsW b l z) (h':IsW b' l' z') (hn:l.length≤2000) (hn':l'.length≤2000):∃ c r,uW F b l b' l'=some (c,r,0)∧IsW c r (z+z'):=by
  unfold uW
  rw [vJ h.is h'.is,Option.bind_some]
  have hb:=h.neg
  have hb':=h'.neg
  by_cases hbb:b=b'
  · rw [if_pos (by simp [hbb])]
    obtain ⟨r,h1,h2,_,h3,h4⟩:=aCX hF h.is.lim h'.is.lim (by omega) (by omega)
    rw [h1,Option.bind_some]
    obtain ⟨c,q,h5,h6⟩:=vg hF h3 (by omega) b
    rw [h5,Option.bind_some]
    refine ⟨c,q,rfl,?_⟩
    rw [h4,h.is.val,h'.is.val] at h6
    have:(if b=true then -((z.natAbs:Int)+(z'.natAbs:Int)) else (z.natAbs:Int)+(z'.natAbs:Int))=z+z':=by
      rw [hb] at hbb ⊢
      rw [hb'] at hbb
      simp only [decide_eq_decide] at hbb
      simp only [decide_eq_true_eq]
      split <;> omega
    rw [this] at h6; exact h6
  · rw [if_neg (by simpa using hbb)]
    have hne:(z<0∧0≤z')∨(0≤z∧z'<0):=by
      rw [hb,hb'] at hbb
      simp only [decide_eq_decide] at hbb
      omega
    by_cases hc:nC (z.natAbs:Int) (z'.natAbs:Int)≥0
    · rw [if_pos hc]
      have hle:(z'.natAbs:Int)≤(z.natAbs:Int):=by
        unfold nC at hc
        split at hc
        · omega
        · omega
      obtain ⟨r,h1,h2,h3,h4⟩:=aBA hF h.is.lim h'.is.lim (by omega) (pK h.is h'.is hle) (by rw [h.is.val,h'.is.val]; exact hle)
      rw [h1,Option.bind_some]
      obtain ⟨c,q,h5,h6⟩:=vg hF h3 (by omega) b
      rw [h5,Option.bind_some]
      refine ⟨c,q,rfl,?_⟩
      rw [h4,h.is.val,h'.is.val] at h6
      have:(if b=true then -((z.natAbs:Int)-(z'.natAbs:Int)) else (z.natAbs:Int)-(z'.natAbs:Int))=z+z':=by
        rw [hb]
        simp only [decide_eq_true_eq]
        split <;> omega
      rw [this] at h6; exact h6
    · rw [if_neg hc]
      have hle:(z.natAbs:Int)≤(z'.natAbs:Int):=by
        unfold nC at hc
        split at hc
        · omega
        · split at hc <;> omega
      obtain ⟨r,h1,h2,h3,h4⟩:=aBA hF h'.is.lim h.is.lim (by omega) (pK h'.is h.is hle) (by rw [h.is.val,h'.is.val]; exact hle)
      rw [h1,Option.bind_some]
      obtain ⟨c,q,h5,h6⟩:=vg hF h3 (by omega) b'
      rw [h5,Option.bind_some]
      refine ⟨c,q,rfl,?_⟩
      rw [h4,h.is.val,h'.is.val] at h6
      have:(if b'=true then -((z'.natAbs:Int)-(z.natAbs:Int)) else (z'.natAbs:Int)-(z.natAbs:Int))=z+z':=by
        rw [hb']
        simp only [decide_eq_true_eq]
        split <;> omega
      rw [this] at h6; exact h6
theorem aDq {b b':Bool} {l l':List Int} {z z':Int} (h:IsW b l z) (h':IsW b' l' z') (hn:l.length≤2000) (hn':l'.length≤2000):∃ c r,rC F b l b' l'=some (c,r,0)∧IsW c r (z+z'):=by
  unfold rC
  obtain ⟨c,r,h1,h2⟩:=aG6 hF h h' hn hn'
  rw [xP h (by omega) h' (by omega),Option.bind_some,if_neg (by decide),h1,Option.bind_some]
  exact ⟨c,r,rfl,h2⟩
omit hF in
theorem aFx {b b':Bool} {l l':List Int} {z z':Int} (h:IsW b l z) (h':IsW b' l' z') (hn:l.length≤4096) (hn':l'.length≤4096):sN F b l b' l'=some (nC z z',0):=by
  unfold sN qI
  rw [xP h hn h' hn',Option.bind_some,if_neg (by decide),vJ h.is h'.is,vJ h'.is h.is,h.neg,h'.neg]
  unfold nC
  by_cases h1:z<0 <;> by_cases h2:z'<0
  · simp only [h1,h2,decide_true,Bool.not_true,Bool.and_false,Bool.false_eq_true,if_false,Bool.false_and,if_true,Option.bind_some]
    congr 2
    (repeat' split) <;> omega
  · have h3:z<z':=by omega
    simp only [h1,h2,decide_true,decide_false,Bool.not_false,Bool.and_true,if_true,Option.bind_some,h3]
  · have h3:¬ z<z':=by omega
    have h4:z'<z:=by omega
    simp only [h1,h2,decide_true,decide_false,Bool.not_true,Bool.and_false,Bool.false_eq_true,if_false,Bool.not_false,Bool.true_and,if_true,Option.bind_some,h3,h4]
  · simp only [h1,h2,decide_false,Bool.not_false,Bool.false_and,Bool.and_false,Bool.false_eq_true,if_false,Option.bind_some]
    congr 2
    (repeat' split) <;> omega
omit hF in
theorem aC2 {l:List Int} (hn:l.length≤1000000):dn F l=some l:=by
  unfold dn
  rw [if_pos (by simp),if_pos (by omega)]; rfl
omit hF in
theorem aFf {d:Int} (hd:0<d∧d<4294967296):∀ (t:List Int),Lim t→∀ (o:List Int) (r:Int) (n:Nat) (T:Int),o.length=t.length+n→Lim o→0≤T→r=T % d→(∀ j,j<t.length→o[j]? = some 0)→lval o=BP t.length*(T/d) →
    ∃ o',iH F d (iJ t) o r=o7 F o' ((lval t+BP t.length*T) % d)∧Lim o'∧o'.length=o.length∧lval o'=(lval t+BP t.length*T)/d:=by
  intro t
  induction t using aAc with
  | h0 =>
    intro _ o r n T ho hlo hT hr _ hv
    simp only [List.length_nil,vK,Int.one_mul] at hv ⊢
    simp only [lval,Int.zero_add]
    exact ⟨o,by rw [yR,hr]; rfl,hlo,rfl,hv⟩
  | hs t x ih =>
    intro hl o r n T ho hlo hT hr hz hv
    simp only [List.length_append,List.length_singleton] at ho hz hv ⊢
    have hx:=hl.right.head
    have h0:=hz t.length (by omega)
    have r0:=Int.emod_nonneg T (show d≠0 by omega)
    have r1:=Int.emod_lt_of_pos T hd.1
    rw [xG]
    show ∃ o',ou F d (iH F d (iJ t)) (t.length:Int) x o r=_∧_
    unfold ou
    rw [aDC F hx hd (by rw [hr]; exact ⟨r0,r1⟩),Option.bind_some,ixn h0,Option.bind_some,Int.toNat_natCast]
    have hTd:=Int.mul_ediv_add_emod T d
    have e1:r*4294967296+x=(4294967296*T+x)-d*(4294967296*(T/d)):=by
      rw [hr]
      generalize T/d=q at *
      generalize T % d=s at *
      grind
    have e2:(r*4294967296+x) % d=(4294967296*T+x) % d:=by rw [e1,Int.sub_mul_emod_self_left]
    have e3:(r*4294967296+x)/d=(4294967296*T+x)/d-4294967296*(T/d):=by rw [e1,Int.sub_mul_ediv_left _ _ (by omega)]
    have q1:(r*4294967296+x)/d<4294967296:=Int.ediv_lt_of_lt_mul hd.1 (by
      have:(r+1)*4294967296≤d*4294967296:=Int.mul_le_mul_of_nonneg_right (by omega) (by omega)
      omega)
    have q0:0≤(r*4294967296+x)/d:=Int.ediv_nonneg (by omega) (by omega)
    obtain ⟨o',g1,g2,g3,g4⟩:=ih hl.left (o.set t.length ((r*4294967296+x)/d)) ((r*4294967296+x) % d) (n+1) (4294967296*T+x) (by simp; omega) (hlo.set _ ⟨q0,q1⟩) (by omega) e2 (fun j hj=>by
      rw [List.getElem?_set_ne (by omega)]; exact hz j (by omega)) (by
      rw [jB _ h0,hv,eY,e3]
      generalize BP t.length=p
      generalize T/d=q
      generalize (4294967296*T+x)/d=q'
      grind)
    have e4:lval t+BP t.length*(4294967296*T+x)=lval (t++[x])+BP (t.length+1)*T:=by
      rw [jk,eY]; generalize BP t.length=p; grind
    rw [e4] at g1 g4
    exact ⟨o',g1,g2,by simpa using g3,g4⟩
theorem aEz {l:List Int} (hl:Lim l) (hn:l.length≤5000) {d:Int} (hd:0<d∧d<4294967296):∃ q,rU F l d=some (q,lval l % d)∧Is q (lval l/d):=by
  unfold rU oI
  rw [if_pos (by omega),Option.bind_some,Int.toNat_natCast]
  obtain ⟨o',h1,h2,h3,h4⟩:=aFf (F:=F) hd l hl (List.replicate l.length 0) 0 0 0 (by simp) (Lim.zeros _) (Int.le_refl _) (by simp) (fun j hj=>by rw [List.getElem?_replicate,if_pos hj]) (by rw [nK]; simp)
  rw [h1]
  unfold o7
  obtain ⟨r,h5,h6⟩:=wC hF h2 (by rw [h3]; simp; omega)
  rw [h5,Option.bind_some]
  rw [Int.mul_zero,Int.add_zero] at h4 ⊢
  rw [h4] at h6
  exact ⟨r,rfl,h6⟩
end
end Go.Proofs.YtbccfconmcgfgaaGreat
