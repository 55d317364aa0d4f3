/- Part of a proof: laws and walks. -/
import Derived.Test.YtbccfconmcgfgaaGreatTah
import Derived.Test.YtbccfconmcgfgaaGreatTac
import Derived.Test.YtbccfconmcgfgaaGreatTab
import Derived.Laws.Bits64
import Derived.Test.YtbccfconmcgfgaaGreatTad
set_option linter.unusedVariables false
set_option linter.unusedSimpArgs false
set_option maxHeartbeats 1000000
set_option maxRecDepth 8000
namespace Go.Proofs.YtbccfconmcgfgaaGreat
open Go Go.SL Go.IntKind
theorem yZ (F:Nat) (x1 x2 x3:Int) (w0:World) (r:Int × Int) (hm:kg F x1 x2 x3=some r) :
    Ret Tryz.prog 5 #[Iv x1,Iv x2,Iv x3] w0 (G:=Unit) (fun _=>.tuple #[Iv r.1,Iv r.2]) (fun _ w=>St w0 w noX [] []):=by
 unfold kg at hm; refine aX Tryz.func5 rfl rfl rfl (fun a hf=>?_); have hS:St w0 w0 noX [] []:=St.borrow aL; refine sg (l:=[0,1]) rfl<|mv2 hf rfl rfl fun a hf=>nk<|W.seq<|sg (l:=[0,1,2,3,4,5,6,7,8,9,10,11,12,13,14,15,16,17,18,19,20,21]) rfl<|mv hf rfl fun a hf=>ov hf rfl (aA.lss rfl rfl) fun a hf=>mv hf rfl fun a hf=>?_; refine O.fH (l₁:=[3,4,5]) (l₂:=_) (fun a w=>Fr a 109 [] [(0,Iv x1),(1,Iv x2),(2,Iv x3),(6,Iv 0),(7,Iv 0),(21,Bv ((decide (x1<(0:Int)))||(decide (x1>(10000000000:Int)))))]∧St w0 w noX [] []) rfl ?_ ?_
 ·rcases Bool.eq_false_or_eq_true (decide (x1<(0:Int))) with hb4 | hb4
  ·refine sk hf rfl hb4 fun a hf=>sk hf rfl hb4 fun a hf=>?_; refine ov (v:=Bv ((decide (x1<(0:Int)))||(decide (x1>(10000000000:Int))))) hf rfl (aA.pick rfl rfl rfl (by rw [hb4]; rfl)) ?_; clear hf a; intro a hf; exact O.nil ⟨rfl,hf.q rfl,hS⟩
  ·refine og hf rfl hb4 (aA.move rfl) fun a hf=>og hf rfl hb4 (aA.gtr rfl rfl) fun a hf=>?_; refine ov (v:=Bv ((decide (x1<(0:Int)))||(decide (x1>(10000000000:Int))))) hf rfl (aA.pick rfl rfl rfl (by rw [hb4]; rfl)) ?_; clear hf a; intro a hf; exact O.nil ⟨rfl,hf.q rfl,hS⟩
 clear hf hS a; (try clear w); rintro a w ⟨hf,hS⟩; refine mv hf rfl fun a hf=>?_; refine O.fH (l₁:=[7,8,9]) (l₂:=_) (fun a w=>Fr a 109 [] [(0,Iv x1),(1,Iv x2),(2,Iv x3),(6,Iv 0),(7,Iv 0),(25,Bv (((decide (x1<(0:Int)))||(decide (x1>(10000000000:Int))))||(decide (x2<(0:Int)))))]∧St w0 w noX [] []) rfl ?_ ?_
 ·rcases Bool.eq_false_or_eq_true ((decide (x1<(0:Int)))||(decide (x1>(10000000000:Int)))) with hb5 | hb5
  ·refine sk hf rfl hb5 fun a hf=>sk hf rfl hb5 fun a hf=>?_; refine ov (v:=Bv (((decide (x1<(0:Int)))||(decide (x1>(10000000000:Int))))||(decide (x2<(0:Int))))) hf rfl (aA.pick rfl rfl rfl (by rw [hb5]; rfl)) ?_; clear hf a; intro a hf; exact O.nil ⟨rfl,hf.q rfl,hS⟩
  ·refine og hf rfl hb5 (aA.move rfl) fun a hf=>og hf rfl hb5 (aA.lss rfl rfl) fun a hf=>?_; refine ov (v:=Bv (((decide (x1<(0:Int)))||(decide (x1>(10000000000:Int))))||(decide (x2<(0:Int))))) hf rfl (aA.pick rfl rfl rfl (by rw [hb5]; rfl)) ?_; clear hf a; intro a hf; exact O.nil ⟨rfl,hf.q rfl,hS⟩
 clear hf hS a; (try clear w); rintro a w ⟨hf,hS⟩; refine mv hf rfl fun a hf=>?_; refine O.fH (l₁:=[11,12,13]) (l₂:=_) (fun a w=>Fr a 109 [] [(0,Iv x1),(1,Iv x2),(2,Iv x3),(6,Iv 0),(7,Iv 0),(29,Bv ((((decide (x1<(0:Int)))||(decide (x1>(10000000000:Int))))||(decide (x2<(0:Int))))||(decide (x2>(72000000000:Int)))))]∧St w0 w noX [] []) rfl ?_ ?_
 ·rcases Bool.eq_false_or_eq_true (((decide (x1<(0:Int)))||(decide (x1>(10000000000:Int))))||(decide (x2<(0:Int)))) with hb6 | hb6
  ·refine sk hf rfl hb6 fun a hf=>sk hf rfl hb6 fun a hf=>?_; refine ov (v:=Bv ((((decide (x1<(0:Int)))||(decide (x1>(10000000000:Int))))||(decide (x2<(0:Int))))||(decide (x2>(72000000000:Int))))) hf rfl (aA.pick rfl rfl rfl (by rw [hb6]; rfl)) ?_; clear hf a; intro a hf; exact O.nil ⟨rfl,hf.q rfl,hS⟩
  ·refine og hf rfl hb6 (aA.move rfl) fun a hf=>og hf rfl hb6 (aA.gtr rfl rfl) fun a hf=>?_; refine ov (v:=Bv ((((decide (x1<(0:Int)))||(decide (x1>(10000000000:Int))))||(decide (x2<(0:Int))))||(decide (x2>(72000000000:Int))))) hf rfl (aA.pick rfl rfl rfl (by rw [hb6]; rfl)) ?_; clear hf a; intro a hf; exact O.nil ⟨rfl,hf.q rfl,hS⟩
 clear hf hS a; (try clear w); rintro a w ⟨hf,hS⟩; refine mv hf rfl fun a hf=>?_; refine O.fH (l₁:=[15,16,17]) (l₂:=_) (fun a w=>Fr a 109 [] [(0,Iv x1),(1,Iv x2),(2,Iv x3),(6,Iv 0),(7,Iv 0),(33,Bv (((((decide (x1<(0:Int)))||(decide (x1>(10000000000:Int))))||(decide (x2<(0:Int))))||(decide (x2>(72000000000:Int))))||(decide (x3<(-8640000000000:Int)))))]∧St w0 w noX [] []) rfl ?_ ?_
 ·rcases Bool.eq_false_or_eq_true ((((decide (x1<(0:Int)))||(decide (x1>(10000000000:Int))))||(decide (x2<(0:Int))))||(decide (x2>(72000000000:Int)))) with hb7 | hb7
  ·refine sk hf rfl hb7 fun a hf=>sk hf rfl hb7 fun a hf=>?_; refine ov (v:=Bv (((((decide (x1<(0:Int)))||(decide (x1>(10000000000:Int))))||(decide (x2<(0:Int))))||(decide (x2>(72000000000:Int))))||(decide (x3<(-8640000000000:Int))))) hf rfl (aA.pick rfl rfl rfl (by rw [hb7]; rfl)) ?_; clear hf a; intro a hf; exact O.nil ⟨rfl,hf.q rfl,hS⟩
  ·refine og hf rfl hb7 (aA.move rfl) fun a hf=>og hf rfl hb7 (aA.lss rfl rfl) fun a hf=>?_; refine ov (v:=Bv (((((decide (x1<(0:Int)))||(decide (x1>(10000000000:Int))))||(decide (x2<(0:Int))))||(decide (x2>(72000000000:Int))))||(decide (x3<(-8640000000000:Int))))) hf rfl (aA.pick rfl rfl rfl (by rw [hb7]; rfl)) ?_; clear hf a; intro a hf; exact O.nil ⟨rfl,hf.q rfl,hS⟩
 clear hf hS a; (try clear w); rintro a w ⟨hf,hS⟩; refine mv hf rfl fun a hf=>?_; refine O.fH (l₁:=[19,20,21]) (l₂:=_) (fun a w=>Fr a 109 [] [(0,Iv x1),(1,Iv x2),(2,Iv x3),(6,Iv 0),(7,Iv 0),(37,Bv ((((((decide (x1<(0:Int)))||(decide (x1>(10000000000:Int))))||(decide (x2<(0:Int))))||(decide (x2>(72000000000:Int))))||(decide (x3<(-8640000000000:Int))))||(decide (x3>(8640000000000:Int)))))]∧St w0 w noX [] []) rfl ?_ ?_
 ·rcases Bool.eq_false_or_eq_true (((((decide (x1<(0:Int)))||(decide (x1>(10000000000:Int))))||(decide (x2<(0:Int))))||(decide (x2>(72000000000:Int))))||(decide (x3<(-8640000000000:Int)))) with hb8 | hb8
  ·refine sk hf rfl hb8 fun a hf=>sk hf rfl hb8 fun a hf=>?_; refine ov (v:=Bv ((((((decide (x1<(0:Int)))||(decide (x1>(10000000000:Int))))||(decide (x2<(0:Int))))||(decide (x2>(72000000000:Int))))||(decide (x3<(-8640000000000:Int))))||(decide (x3>(8640000000000:Int))))) hf rfl (aA.pick rfl rfl rfl (by rw [hb8]; rfl)) ?_; clear hf a; intro a hf; exact O.nil ⟨rfl,hf.q rfl,hS⟩
  ·refine og hf rfl hb8 (aA.move rfl) fun a hf=>og hf rfl hb8 (aA.gtr rfl rfl) fun a hf=>?_; refine ov (v:=Bv ((((((decide (x1<(0:Int)))||(decide (x1>(10000000000:Int))))||(decide (x2<(0:Int))))||(decide (x2>(72000000000:Int))))||(decide (x3<(-8640000000000:Int))))||(decide (x3>(8640000000000:Int))))) hf rfl (aA.pick rfl rfl rfl (by rw [hb8]; rfl)) ?_; clear hf a; intro a hf; exact O.nil ⟨rfl,hf.q rfl,hS⟩
 clear hf hS a; (try clear w); rintro a w ⟨hf,hS⟩; refine nk ?_; refine W.if_ hf rfl (fun hc9=>?_) (fun hc9=>?_)
 ·replace hm:=kS hm hc9; refine sg (l:=[0,1]) rfl<|mv2 hf rfl rfl fun a hf=>nk<|W.ret<|aF<|?_; obtain rfl:=oj hm; refine bf hf rfl (aJ.tmp rfl) (aJ.tmp rfl) ?_; exact ⟨(),rfl,hS.noB⟩
 ·replace hm:=kU hm hc9; refine W.skip<|aP<|sg (l:=[0]) rfl<|O.alloc (cs:=#[Iv 0]) hf hS rfl rfl aDQ rfl<|?_; intro b10 w a hb10 hS hf; refine nk<|sg (l:=[0,1,2,3,4,5,6,7,8,9,10]) rfl<|mv hf rfl fun a hf=>?_; obtain ⟨x11,hx11,hm⟩:=aO hm; refine oc hf rfl aCp (rH F b10 0 x1 86400000000 _ (hS.p 0 rfl) x11 hx11) ?_; rintro s12 w hS1 a hf; replace hS:=hS.cz hS1 0 fun _ h=>h; refine mv2 hf rfl rfl fun a hf=>?_; obtain ⟨x13,hx13,hm⟩:=aO hm; refine oc hf rfl aCp (rH F b10 x11.2.2 x2 x3 _ (hS.p 1 rfl) x13 hx13) ?_; rintro s14 w hS1 a hf; replace hS:=hS.cz hS1 1 fun _ h=>h; obtain ⟨x15,hx15,hm⟩:=aO hm; refine oc hf rfl aBP (vB F x11.1 s12 x11.2.1 x13.1 s14 x13.2.1 _ (hS.s 2 rfl) (hS.s 0 rfl) x15 hx15) ?_; rintro s16 w hS1 a hf; replace hS:=hS.cl hS1; refine ex hf rfl rfl rfl fun a hf=>ex hf rfl rfl rfl fun a hf=>?_; obtain ⟨x17,hx17,hm⟩:=aO hm; refine oc hf rfl sQ (dO F b10 x13.2.2 x15.1 s16 x15.2.1 x15.2.2 _ (hS.s 0 rfl) (hS.p 2 rfl) (aAR (hS.xA (i:=2) (j:=0) rfl rfl (by decide))) x17 hx17) ?_; rintro _ w hS1 a hf; replace hS:=hS.cz hS1 2 fun _ h=>h; refine O.alloc (cs:=#[Bv false,.slice none 0 0]) hf hS rfl rfl aT rfl ?_; intro b18 w a hb18 hS hf; refine ost 0 #[Bv x15.1,s16] hf hS rfl rfl rfl aG rfl (aB rfl (aB (aN (hS.s 2 rfl)) rfl)) rfl (bl rfl) rfl ?_; intro w hS; refine nk ?_; replace hS:=hS.sl [1,1,1]; refine sg (l:=[0,1,2,3,4,5,6]) rfl<|ov hf rfl (lN (cs':=#[Bv x15.1,s16]) bg rfl (hS.p 0 rfl) rfl rfl) fun a hf=>?_; obtain ⟨x19,hx19,hm⟩:=aO hm; refine oc hf rfl aFP (aAE F x15.1 s16 x15.2.1 _ (hS.s 2 rfl) x19 hx19) ?_; rintro s20 w hS1 a hf; replace hS:=hS.cl hS1; refine ex hf rfl rfl rfl fun a hf=>ex hf rfl rfl rfl fun a hf=>?_; obtain ⟨x21,hx21,hm⟩:=aO hm; refine oc hf rfl sQ (dO F b10 x17 x19.1 s20 x19.2.1 x19.2.2 _ (hS.s 0 rfl) (hS.p 2 rfl) (aAR (hS.xA (i:=2) (j:=0) rfl rfl (by decide))) x21 hx21) ?_; rintro _ w hS1 a hf; replace hS:=hS.cz hS1 2 fun _ h=>h; refine O.alloc (cs:=#[Bv false,.slice none 0 0]) hf hS rfl rfl aT rfl ?_; intro b22 w a hb22 hS hf; refine ost 0 #[Bv x19.1,s20] hf hS rfl rfl rfl aG rfl (aB rfl (aB (aN (hS.s 2 rfl)) rfl)) rfl (bl rfl) rfl ?_; intro w hS; refine nk<|W.seq<|?_; have hf1:Fr a 109 [] []:=hf.to trivial; obtain ⟨x23,hx23,hm⟩:=aO hm; obtain ⟨x25,hx25,hm⟩:=aO hm; obtain ⟨x26,hx26,hm⟩:=aO hm; refine W.oD (γ:=Value) (L0:=[(6,Iv 0),(7,Iv 0),(8,Pv b10 0),(9,Pv b18 0),(10,Pv b22 0)]) (L1:=[]) (undef) [2,5,7] [] [0,1,3,4,6,8,9,10,11,12] (fun i=>match i with | 2=>[0,1] | 3=>[2] | 4=>[2] | 5=>[2,3,4] | 7=>[5,6] | 8=>[7] | 9=>[8] | 10=>[8] | 11=>[0,1,2,3,4,5,6,7,8,9] | 12=>[0,1,2,3,4,5,6,7,8,9,10,11] | _=>[]) (fun _=>[]) (fun i=>match i with | 2=>[3,4,5,7,8,9,10,11,12] | 5=>[7,8,9,10,11,12] | 7=>[8,9,10,11,12] | _=>[]) (fun _=>[]) (fun i=>match i with | 3=>1 | 4=>1 | 5=>1 | 7=>2 | 8=>3 | 9=>3 | 10=>3 | 11=>3 | 12=>3 | _=>0) (fun i=>match i with | 2=>1 | 3=>1 | 4=>1 | 5=>2 | 6=>2 | 7=>3 | 8=>3 | 9=>3 | 10=>3 | 11=>3 | 12=>3 | _=>0) (fun (g:Value) j=>match j with | 0=>.agg #[Bv x19.1,s20] | 1=>.agg #[Bv x19.1,s20] | 2=>.tuple #[.agg #[Bv x23.1,g],Iv x23.2.2] | 3=>.agg #[Bv x23.1,g] | 4=>Iv x23.2.2 | 5=>.agg #[Bv x23.1,g] | 6=>.agg #[Bv x15.1,s16] | 7=>.tuple #[Iv x26.1,Iv x26.2] | 8=>.tuple #[Iv x26.1,Iv x26.2] | 9=>Iv x26.1 | 10=>Iv x26.2 | 11=>Iv x26.1 | 12=>Iv x26.2 | _=>undef) (fun k s (g:Value) w=>match k with | 0=>St w0 w noX [] [ay b22 x19.1 s20,qa b10 x21,aM s20 x19.2.1,ay b18 x15.1 s16,aM s16 x15.2.1] | 1=>St w0 w noX [] [aM g x23.2.1,ay b22 x19.1 s20,qa b10 x21,aM s20 x19.2.1,ay b18 x15.1 s16,aM s16 x15.2.1] | 2=>St w0 w noX [] [qa b10 x25,aM g x23.2.1,ay b22 x19.1 s20,aM s20 x19.2.1,ay b18 x15.1 s16,aM s16 x15.2.1] | _=>St w0 w noX [] [qa b10 x25,aM g x23.2.1,ay b22 x19.1 s20,aM s20 x19.2.1,ay b18 x15.1 s16,aM s16 x15.2.1]) bq (by kernel_rfl) (hf.q rfl) hf1 hS.drew ?_ ?_ ?_ ?_
  ·clear hf hf1 hS; refine ⟨?_,?_,fun k s g w _ _ _ hS a hf=>Q.val (v:=.agg #[Bv x23.1,g]) rfl rfl rfl hS hf (aA.extract rfl rfl),fun k s g w _ _ _ hS a hf=>Q.val (v:=Iv x23.2.2) rfl rfl rfl hS hf (aA.extract rfl rfl),?_,fun k s g w _ _ _ hS a hf=>Q.val (v:=.tuple #[Iv x26.1,Iv x26.2]) rfl rfl rfl hS hf (aA.move rfl),fun k s g w _ _ _ hS a hf=>Q.val (v:=Iv x26.1) rfl rfl rfl hS hf (aA.extract rfl rfl),fun k s g w _ _ _ hS a hf=>Q.val (v:=Iv x26.2) rfl rfl rfl hS hf (aA.extract rfl rfl),fun k s g w _ _ _ hS a hf=>Q.val (v:=Iv x26.1) rfl rfl rfl hS hf (aA.assign rfl),fun k s g w _ _ _ hS a hf=>Q.val (v:=Iv x26.2) rfl rfl rfl hS hf (aA.assign rfl),trivial⟩
   ·intro k s s24 w h1_ h2_ hsp hS a hf
    rcases k with _ | k
    ·exact Q.val (v:=.agg #[Bv x19.1,s20]) rfl rfl rfl hS hf (lN (cs':=#[Bv x19.1,s20]) bg rfl (hS.p 0 rfl) rfl rfl)
    ·simp at h2_
   ·intro k s s24 w h1_ h2_ hsp hS a hf
    rcases k with _ | k
    ·exact Q.val (v:=.agg #[Bv x19.1,s20]) rfl rfl rfl hS hf (lN (cs':=#[Bv x19.1,s20]) bg rfl (hS.p 0 rfl) rfl rfl)
    ·simp at h2_
   ·intro k s s24 w h1_ h2_ hsp hS a hf
    rcases k with _ | _ | _ | k
    ·exact Q.val (v:=.agg #[Bv x15.1,s16]) rfl rfl rfl hS hf (lN (cs':=#[Bv x15.1,s16]) bg rfl (hS.p 3 rfl) rfl rfl)
    ·exact Q.val (v:=.agg #[Bv x15.1,s16]) rfl rfl rfl hS hf (lN (cs':=#[Bv x15.1,s16]) bg rfl (hS.p 4 rfl) rfl rfl)
    ·exact Q.val (v:=.agg #[Bv x15.1,s16]) rfl rfl rfl hS hf (lN (cs':=#[Bv x15.1,s16]) bg rfl (hS.p 4 rfl) rfl rfl)
    ·simp at h2_
  ·clear hf hf1 hS; refine ⟨?_,?_,?_,trivial⟩
   ·intro s s24 w hsp hS a hf; refine oc hf rfl aBh (u6 F x19.1 s20 x19.2.1 x19.1 s20 x19.2.1 _ (hS.s 2 rfl) (hS.s 2 rfl) x23 hx23) ?_; rintro s24 w hS1 a hf; replace hS:=hS.cl hS1; exact nE 55 hf s24 rfl rfl (jl 13 (by kernel_rfl) fun _=>rfl) hS
   ·intro s s24 w hsp hS a hf; refine oc hf rfl sQ (dO F b10 x21 x23.1 s24 x23.2.1 x23.2.2 _ (hS.s 0 rfl) (hS.p 2 rfl) (aAR (hS.xA (i:=2) (j:=0) rfl rfl (by decide))) x25 hx25) ?_; rintro _ w hS1 a hf; replace hS:=hS.cz hS1 2 fun _ h=>h; exact nE 58 hf s24 rfl rfl (fun _ _ _=>rfl) hS
   ·intro s s24 w hsp hS a hf; refine oc hf rfl aCY (wX F x23.1 s24 x23.2.1 x15.1 s16 x15.2.1 _ (hS.s 1 rfl) (hS.s 5 rfl) x26 hx26) ?_; rintro _ w hS1 a hf; replace hS:=hS.cl hS1; exact nE 60 hf s24 rfl rfl (fun _ _ _=>rfl) hS
  ·clear hf hf1 hS; exact trivial
  clear hf hf1 hS; intro s s24 a w hs hf hS; refine aP ?_; replace hS:=hS.sl [1,0,1,1]; refine sg (l:=[0,1,2]) rfl<|ov (v:=.agg #[Bv false,.slice none 0 0]) hf rfl (aA.dh (cs':=#[Bv false,.slice none 0 0]) bT aT rfl (by kernel_rfl)) fun a hf=>mv hf rfl fun a hf=>?_; obtain ⟨x27,hx27,hm⟩:=aO hm; refine oc hf rfl sQ (dO F b10 x25 false (.slice none 0 0) ([]:List Int) x26.2 _ yw (hS.p 0 rfl) (fun k hk=>absurd hk.1 (Nat.lt_irrefl 0)) x27 hx27) ?_; rintro _ w hS1 a hf; replace hS:=hS.cz hS1 0 fun _ h=>h; refine nk ?_; refine W.fV (fun a w=>∃ (x28:Int) (x29:Bool) (s30:Value) (x31:List Int),Fr a 109 [] [(6,Iv 0),(7,Iv 0),(8,Pv b10 0),(10,Pv b22 0),(12,Iv x26.2)]∧St w0 w noX [] [qa b10 x28,aM s30 x31,ay b22 x29 s30]∧lD F x28 x29 x31=some r) ?_ ?_
  ·refine sg (l:=[0,1]) rfl<|mv hf rfl fun a hf=>ov hf rfl (aA.lss rfl rfl) fun a hf=>nk<|?_; refine W.cK hf rfl (fun hc54=>?_) (fun hc54=>?_)
   ·replace hm:=bX hm hc54; have hf1:Fr a 109 [] []:=hf.to trivial; obtain ⟨x55,hx55,hm⟩:=aO hm; obtain ⟨x57,hx57,hm⟩:=aO hm; obtain ⟨x59,hx59,hm⟩:=aO hm; refine W.oD (γ:=Value × Value) (L0:=[(6,Iv 0),(7,Iv 0),(8,Pv b10 0),(10,Pv b22 0),(12,Iv x26.2),(67,Bv (decide (x26.1<(0:Int))))]) (L1:=[]) (undef,undef) [1,2,5,6] [] [0,3,4] (fun i=>match i with | 2=>[0,1] | 3=>[2] | 4=>[2] | 5=>[2,3,4] | 6=>[0,1,2,3,4,5] | _=>[]) (fun _=>[]) (fun i=>match i with | 1=>[2,3,4,5,6] | 2=>[3,4,5,6] | 5=>[6] | _=>[]) (fun _=>[]) (fun i=>match i with | 2=>1 | 3=>2 | 4=>2 | 5=>2 | 6=>3 | _=>0) (fun i=>match i with | 0=>1 | 1=>1 | 2=>2 | 3=>2 | 4=>2 | 5=>3 | 6=>4 | _=>0) (fun (g:Value × Value) j=>match j with | 0=>.agg #[Bv x19.1,s20] | 1=>.agg #[Bv x55.1,g.1] | 2=>.tuple #[.agg #[Bv x57.1,g.2],Iv x57.2.2] | 3=>.agg #[Bv x57.1,g.2] | 4=>Iv x57.2.2 | 5=>.agg #[Bv x57.1,g.2] | _=>undef) (fun k s (g:Value × Value) w=>match k with | 0=>St w0 w noX [] [qa b10 x27,ay b22 x19.1 s20,aM s20 x19.2.1] | 1=>St w0 w noX [] [aM g.1 x55.2,qa b10 x27,ay b22 x19.1 s20,aM s20 x19.2.1] | 2=>St w0 w noX [] [aM g.2 x57.2.1,aM g.1 x55.2,qa b10 x27,ay b22 x19.1 s20,aM s20 x19.2.1] | 3=>St w0 w noX [] [qa b10 x59,aM g.2 x57.2.1,aM g.1 x55.2,ay b22 x19.1 s20,aM s20 x19.2.1] | _=>St w0 w noX [] [qa b10 x59,aM g.2 x57.2.1,aM g.1 x55.2,pt b22 (Cs #[Bv x57.1,g.2] 49),aM s20 x19.2.1]) bq (by kernel_rfl) (hf.q rfl) hf1 hS.drew ?_ ?_ ?_ ?_
    ·clear hf hf1 hS; refine ⟨?_,fun k s g w _ _ _ hS a hf=>Q.val (v:=.agg #[Bv x57.1,g.2]) rfl rfl rfl hS hf (aA.extract rfl rfl),fun k s g w _ _ _ hS a hf=>Q.val (v:=Iv x57.2.2) rfl rfl rfl hS hf (aA.extract rfl rfl),trivial⟩
     ·intro k s g w h1_ h2_ hsp hS a hf; obtain ⟨s56,s58⟩:=g
      rcases k with _ | _ | k
      ·exact Q.val (v:=.agg #[Bv x19.1,s20]) rfl rfl rfl hS hf (lN (cs':=#[Bv x19.1,s20]) bg rfl (hS.p 1 rfl) rfl rfl)
      ·exact Q.val (v:=.agg #[Bv x19.1,s20]) rfl rfl rfl hS hf (lN (cs':=#[Bv x19.1,s20]) bg rfl (hS.p 2 rfl) rfl rfl)
      ·simp at h2_
    ·clear hf hf1 hS; refine ⟨?_,?_,?_,?_,trivial⟩
     ·intro s g w hsp hS a hf; obtain ⟨s56,s58⟩:=g; refine oc hf rfl xV (pX F 1 _ x55 hx55) ?_; rintro s56 w hS1 a hf; replace hS:=hS.cl hS1; exact nE 69 hf (s56,s58) rfl rfl (jl 7 (by kernel_rfl) fun _=>rfl) hS
     ·intro s g w hsp hS a hf; obtain ⟨s56,s58⟩:=g; refine oc hf rfl aBP (vB F x19.1 s20 x19.2.1 x55.1 s56 x55.2 _ (hS.s 3 rfl) (hS.s 0 rfl) x57 hx57) ?_; rintro s58 w hS1 a hf; replace hS:=hS.cl hS1; exact nE 70 hf (s56,s58) rfl rfl (jl 7 (by kernel_rfl) fun _=>rfl) hS
     ·intro s g w hsp hS a hf; obtain ⟨s56,s58⟩:=g; refine oc hf rfl sQ (dO F b10 x27 x57.1 s58 x57.2.1 x57.2.2 _ (hS.s 0 rfl) (hS.p 2 rfl) (aAR (hS.xA (i:=2) (j:=0) rfl rfl (by decide))) x59 hx59) ?_; rintro _ w hS1 a hf; replace hS:=hS.cz hS1 2 fun _ h=>h; exact nE 73 hf (s56,s58) rfl rfl (fun _ _ _=>rfl) hS
     ·intro s g w hsp hS a hf; obtain ⟨s56,s58⟩:=g; refine ost 3 #[Bv x57.1,s58] hf hS rfl rfl rfl aG rfl (aB rfl (aB (aN (hS.s 1 rfl)) rfl)) rfl (bl rfl) rfl ?_; intro w hS; exact O.nil ⟨rfl,(s56,s58),hf.to trivial,(fun d hd=>by cases (show none=some d from hd)),(fun _ _ _=>rfl),hS⟩
    ·clear hf hf1 hS; exact trivial
    clear hf hf1 hS; intro s g a w hs hf hS; obtain ⟨s56,s58⟩:=g; replace hS:=hS.sl [1,1,0,1]; exact aS ⟨x59,x57.1,s58,x57.2.1,hf.q rfl,hS,hm⟩
   ·replace hm:=bW hm hc54; refine W.skip ?_; replace hS:=hS.fr 1; replace hS:=hS.fr 2; replace hS:=hS.fr 2; exact aS ⟨x27,x19.1,s20,x19.2.1,hf.q rfl,hS,hm⟩
  ·clear hf hS hm a; (try clear w); rintro a w ⟨x28,x29,s30,x31,hf,hS,hm⟩; unfold lD at hm; refine W.seq ?_; have hf1:Fr a 109 [] [(12,Iv x26.2)]:=hf.q rfl; obtain ⟨x32,hx32,hm⟩:=aO hm; obtain ⟨x34,hx34,hm⟩:=aO hm; replace hS:=hS.drew; replace hS:=hS.emp; replace hS:=hS.emp; refine W.oD (γ:=Nat × Nat × Value × Value × Value) (L0:=[(6,Iv 0),(7,Iv 0),(8,Pv b10 0),(10,Pv b22 0)]) (L1:=[(12,Iv x26.2)]) (0,0,undef,undef,undef) [1,2,9,10] [7,8] [0,3,4,5,6,11] (fun i=>match i with | 2=>[0,1] | 3=>[2] | 4=>[3] | 5=>[3] | 6=>[3] | 9=>[0,1,2,3,4,7,8] | 10=>[0,1,2,3,4,5,7,8,9] | 11=>[0,1,2,3,4,5,6,7,8,9,10] | _=>[]) (fun i=>match i with | 9=>[7,8] | 10=>[7,8] | 11=>[7,8] | _=>[]) (fun i=>match i with | 1=>[2,3,4,5,6,9,10,11] | 2=>[3,4,5,6,9,10,11] | 7=>[9,10,11] | 8=>[9,10,11] | 9=>[10,11] | 10=>[11] | _=>[]) (fun _=>[]) (fun i=>match i with | 2=>1 | 3=>2 | 4=>2 | 5=>2 | 6=>2 | 9=>2 | 10=>3 | 11=>4 | _=>0) (fun i=>match i with | 0=>1 | 1=>1 | 2=>2 | 3=>2 | 4=>2 | 5=>3 | 6=>4 | 7=>2 | 8=>2 | 9=>3 | 10=>4 | 11=>4 | _=>0) (fun (g:Nat × Nat × Value × Value × Value) j=>match j with | 0=>.agg #[Bv x29,s30] | 1=>.agg #[Bv x32.1,g.2.2.1] | 2=>.tuple #[.agg #[Bv x34.1,g.2.2.2.1],.agg #[Bv x34.2.2.1,g.2.2.2.2],Iv x34.2.2.2.2] | 3=>.tuple #[.agg #[Bv x34.1,g.2.2.2.1],.agg #[Bv x34.2.2.1,g.2.2.2.2],Iv x34.2.2.2.2] | 4=>.agg #[Bv x34.1,g.2.2.2.1] | 5=>.agg #[Bv x34.2.2.1,g.2.2.2.2] | 6=>Iv x34.2.2.2.2 | 7=>Pv g.1 0 | 8=>Pv g.2.1 0 | 11=>Iv x34.2.2.2.2 | _=>undef) (fun k s (g:Nat × Nat × Value × Value × Value) w=>match k with | 0=>St w0 w noX [] [dz (s 8) (pt g.2.1 (Cs #[Bv false,.slice none 0 0] 49)),dz (s 7) (pt g.1 (Cs #[Bv false,.slice none 0 0] 49)),qa b10 x28,aM s30 x31,ay b22 x29 s30] | 1=>St w0 w noX [] [aM g.2.2.1 x32.2,dz (s 8) (pt g.2.1 (Cs #[Bv false,.slice none 0 0] 49)),dz (s 7) (pt g.1 (Cs #[Bv false,.slice none 0 0] 49)),qa b10 x28,aM s30 x31,ay b22 x29 s30] | 2=>St w0 w noX [] [aM g.2.2.2.1 x34.2.1,aM g.2.2.2.2 x34.2.2.2.1,aM g.2.2.1 x32.2,dz (s 8) (pt g.2.1 (Cs #[Bv false,.slice none 0 0] 49)),dz (s 7) (pt g.1 (Cs #[Bv false,.slice none 0 0] 49)),qa b10 x28,aM s30 x31,ay b22 x29 s30] | 3=>St w0 w noX [] [aM g.2.2.2.1 x34.2.1,aM g.2.2.2.2 x34.2.2.2.1,aM g.2.2.1 x32.2,pt g.2.1 (Cs #[Bv false,.slice none 0 0] 49),pt g.1 (Cs #[Bv x34.1,g.2.2.2.1] 49),qa b10 x28,aM s30 x31,ay b22 x29 s30] | _=>St w0 w noX [] [aM g.2.2.2.1 x34.2.1,aM g.2.2.2.2 x34.2.2.2.1,aM g.2.2.1 x32.2,pt g.2.1 (Cs #[Bv x34.2.2.1,g.2.2.2.2] 49),pt g.1 (Cs #[Bv x34.1,g.2.2.2.1] 49),qa b10 x28,aM s30 x31,ay b22 x29 s30]) bq (by kernel_rfl) (hf.q rfl) hf1 hS ?_ ?_ ?_ ?_
   ·clear hf hf1 hS; refine ⟨?_,fun k s g w _ _ _ hS a hf=>Q.val (v:=.tuple #[.agg #[Bv x34.1,g.2.2.2.1],.agg #[Bv x34.2.2.1,g.2.2.2.2],Iv x34.2.2.2.2]) rfl rfl rfl hS hf (aA.move rfl),fun k s g w _ _ _ hS a hf=>Q.val (v:=.agg #[Bv x34.1,g.2.2.2.1]) rfl rfl rfl hS hf (aA.extract rfl rfl),fun k s g w _ _ _ hS a hf=>Q.val (v:=.agg #[Bv x34.2.2.1,g.2.2.2.2]) rfl rfl rfl hS hf (aA.extract rfl rfl),fun k s g w _ _ _ hS a hf=>Q.val (v:=Iv x34.2.2.2.2) rfl rfl rfl hS hf (aA.extract rfl rfl),fun k s g w _ _ _ hS a hf=>Q.val (v:=Iv x34.2.2.2.2) rfl rfl rfl hS hf (aA.assign rfl),trivial⟩
    ·intro k s g w h1_ h2_ hsp hS a hf; obtain ⟨b37,b38,s33,s35,s36⟩:=g
     rcases k with _ | _ | k
     ·exact Q.val (v:=.agg #[Bv x29,s30]) rfl rfl rfl hS hf (lN (cs':=#[Bv x29,s30]) bg rfl (hS.p 4 rfl) rfl rfl)
     ·exact Q.val (v:=.agg #[Bv x29,s30]) rfl rfl rfl hS hf (lN (cs':=#[Bv x29,s30]) bg rfl (hS.p 5 rfl) rfl rfl)
     ·simp at h2_
   ·clear hf hf1 hS; refine ⟨?_,?_,?_,?_,trivial⟩
    ·intro s g w hsp hS a hf; obtain ⟨b37,b38,s33,s35,s36⟩:=g; refine oc hf rfl xV (pX F 86400000000 _ x32 hx32) ?_; rintro s33 w hS1 a hf; replace hS:=hS.cl hS1; exact nE 76 hf (b37,b38,s33,s35,s36) rfl rfl (jl 12 (by kernel_rfl) fun _=>rfl) hS
    ·intro s g w hsp hS a hf; obtain ⟨b37,b38,s33,s35,s36⟩:=g; refine oc hf rfl aFK (yt F x29 s30 x31 x32.1 s33 x32.2 _ (hS.s 4 rfl) (hS.s 0 rfl) x34 hx34) ?_; rintro ⟨s35,s36⟩ w hS1 a hf; replace hS:=hS.cl hS1; exact nE 77 hf (b37,b38,s33,s35,s36) rfl rfl (jl 12 (by kernel_rfl) fun _=>rfl) hS
    ·intro s g w hsp hS a hf; obtain ⟨b37,b38,s33,s35,s36⟩:=g; have h7_:s 7=true:=hsp 7 (by simp); have h8_:s 8=true:=hsp 8 (by simp); have hS:St w0 w noX [] [aM s35 x34.2.1,aM s36 x34.2.2.2.1,aM s33 x32.2,dz (s 8) (pt b38 (Cs #[Bv false,.slice none 0 0] 49)),dz (s 7) (pt b37 (Cs #[Bv false,.slice none 0 0] 49)),qa b10 x28,aM s30 x31,ay b22 x29 s30]:=hS; clear hS; rw [h7_,h8_] at hS; replace hS:St w0 w noX [] [aM s35 x34.2.1,aM s36 x34.2.2.2.1,aM s33 x32.2,pt b38 (Cs #[Bv false,.slice none 0 0] 49),pt b37 (Cs #[Bv false,.slice none 0 0] 49),qa b10 x28,aM s30 x31,ay b22 x29 s30]:=hS; refine ost 4 #[Bv x34.1,s35] hf hS rfl rfl rfl aG rfl (aB rfl (aB (aN (hS.s 0 rfl)) rfl)) rfl (bl rfl) rfl ?_; intro w hS; exact O.nil ⟨rfl,(b37,b38,s33,s35,s36),hf.to trivial,(fun d hd=>by cases (show none=some d from hd)),(fun _ _ _=>rfl),hS⟩
    ·intro s g w hsp hS a hf; obtain ⟨b37,b38,s33,s35,s36⟩:=g; have h7_:s 7=true:=hsp 7 (by simp); have h8_:s 8=true:=hsp 8 (by simp); refine ost 3 #[Bv x34.2.2.1,s36] hf hS rfl rfl rfl aG rfl (aB rfl (aB (aN (hS.s 1 rfl)) rfl)) rfl (bl rfl) rfl ?_; intro w hS; exact O.nil ⟨rfl,(b37,b38,s33,s35,s36),hf.to trivial,(fun d hd=>by cases (show none=some d from hd)),(fun _ _ _=>rfl),hS⟩
   ·clear hf hf1 hS; refine ⟨?_,?_,trivial⟩
    ·intro k s g w h1_ h2_ hs0 hS a hf; obtain ⟨b37,b38,s33,s35,s36⟩:=g
     rcases k with _ | _ | _ | k
     ·refine O.sM (j:=1) (cs:=#[Bv false,.slice none 0 0]) hf hS rfl hs0 rfl rfl aT rfl ?_; clear hf hS a; intro b37 w a hS hf; exact nE 13 hf (b37,b38,s33,s35,s36) rfl rfl (jl 12 (by kernel_rfl) fun _=>rfl) hS
     ·refine O.sM (j:=2) (cs:=#[Bv false,.slice none 0 0]) hf hS rfl hs0 rfl rfl aT rfl ?_; clear hf hS a; intro b37 w a hS hf; exact nE 13 hf (b37,b38,s33,s35,s36) rfl rfl (jl 12 (by kernel_rfl) fun _=>rfl) hS
     ·refine O.sM (j:=4) (cs:=#[Bv false,.slice none 0 0]) hf hS rfl hs0 rfl rfl aT rfl ?_; clear hf hS a; intro b37 w a hS hf; exact nE 13 hf (b37,b38,s33,s35,s36) rfl rfl (jl 12 (by kernel_rfl) fun _=>rfl) hS
     ·simp at h2_
    ·intro k s g w h1_ h2_ hs0 hS a hf; obtain ⟨b37,b38,s33,s35,s36⟩:=g
     rcases k with _ | _ | _ | k
     ·refine O.sM (j:=0) (cs:=#[Bv false,.slice none 0 0]) hf hS rfl hs0 rfl rfl aT rfl ?_; clear hf hS a; intro b38 w a hS hf; exact nE 14 hf (b37,b38,s33,s35,s36) rfl rfl (jl 12 (by kernel_rfl) fun _=>rfl) hS
     ·refine O.sM (j:=1) (cs:=#[Bv false,.slice none 0 0]) hf hS rfl hs0 rfl rfl aT rfl ?_; clear hf hS a; intro b38 w a hS hf; exact nE 14 hf (b37,b38,s33,s35,s36) rfl rfl (jl 12 (by kernel_rfl) fun _=>rfl) hS
     ·refine O.sM (j:=3) (cs:=#[Bv false,.slice none 0 0]) hf hS rfl hs0 rfl rfl aT rfl ?_; clear hf hS a; intro b38 w a hS hf; exact nE 14 hf (b37,b38,s33,s35,s36) rfl rfl (jl 12 (by kernel_rfl) fun _=>rfl) hS
     ·simp at h2_
   clear hf hf1 hS; intro s g a w hs hf hS; obtain ⟨b37,b38,s33,s35,s36⟩:=g; have h7_:s 7=true:=hs 7 (by simp); have h8_:s 8=true:=hs 8 (by simp); refine aP ?_; replace hS:=hS.sl [1,1,0,1,1,1]; refine sg (l:=[0,1,2]) rfl<|ov hf rfl (lN (cs':=#[Bv x34.1,s35]) bg rfl (hS.p 3 rfl) rfl rfl) fun a hf=>mv hf rfl fun a hf=>?_; obtain ⟨x39,hx39,hm⟩:=aO hm; refine oc hf rfl sQ (dO F b10 x28 x34.1 s35 x34.2.1 x34.2.2.2.2 _ (hS.s 0 rfl) (hS.p 4 rfl) (aAR (hS.xA (i:=4) (j:=0) rfl rfl (by decide))) x39 hx39) ?_; rintro _ w hS1 a hf; replace hS:=hS.cz hS1 4 fun _ h=>h; refine nk<|sg (l:=[0,1,2,3,4,5,6]) rfl<|ov hf rfl (lN (cs':=#[Bv x34.2.2.1,s36]) bg rfl (hS.p 3 rfl) rfl rfl) fun a hf=>?_; obtain ⟨x40,hx40,hm⟩:=aO hm; refine oc hf rfl aFE (zn F x34.2.2.1 s36 x34.2.2.2.1 _ (hS.s 2 rfl) x40 hx40) ?_; rintro _ w hS1 a hf; replace hS:=hS.cl hS1; refine mv hf rfl fun a hf=>ex hf rfl rfl rfl fun a hf=>ex hf rfl rfl rfl fun a hf=>mv2 hf rfl rfl fun a hf=>nk<|?_; replace hS:=hS.sl [1,1,0,0,1]; refine sg (l:=[0,1,2]) rfl<|ov hf rfl (lN (cs':=#[Bv x34.1,s35]) bg rfl (hS.p 2 rfl) rfl rfl) fun a hf=>mv hf rfl fun a hf=>?_; obtain ⟨x41,hx41,hm⟩:=aO hm; refine oc hf rfl sQ (dO F b10 x39 x34.1 s35 x34.2.1 x40.2 _ (hS.s 1 rfl) (hS.p 0 rfl) (aAR (hS.xA (i:=0) (j:=1) rfl rfl (by decide))) x41 hx41) ?_; rintro _ w hS1 a hf; replace hS:=hS.cz hS1 0 fun _ h=>h; refine nk ?_; refine W.fV (fun a w=>∃ (x42:Int) (x43:Bool) (s44:Value) (x45:List Int),Fr a 109 [] [(6,Iv 0),(7,Iv 0),(8,Pv b10 0),(13,Pv b37 0)]∧St w0 w noX [] [qa b10 x42,aM s44 x45,ay b37 x43 s44]∧lC F x42 x43 x45=some r) ?_ ?_
   ·refine sg (l:=[0,1]) rfl<|mv hf rfl fun a hf=>ov hf rfl (aA.gtr rfl rfl) fun a hf=>nk<|?_; refine W.cK hf rfl (fun hc48=>?_) (fun hc48=>?_)
    ·replace hm:=bX hm hc48; have hf1:Fr a 109 [] []:=hf.to trivial; obtain ⟨x49,hx49,hm⟩:=aO hm; obtain ⟨x51,hx51,hm⟩:=aO hm; obtain ⟨x53,hx53,hm⟩:=aO hm; refine W.oD (γ:=Value × Value) (L0:=[(6,Iv 0),(7,Iv 0),(8,Pv b10 0),(13,Pv b37 0),(93,Bv (decide (x40.1>(0:Int))))]) (L1:=[]) (undef,undef) [1,2,5,6] [] [0,3,4] (fun i=>match i with | 2=>[0,1] | 3=>[2] | 4=>[2] | 5=>[2,3,4] | 6=>[0,1,2,3,4,5] | _=>[]) (fun _=>[]) (fun i=>match i with | 1=>[2,3,4,5,6] | 2=>[3,4,5,6] | 5=>[6] | _=>[]) (fun _=>[]) (fun i=>match i with | 2=>1 | 3=>2 | 4=>2 | 5=>2 | 6=>3 | _=>0) (fun i=>match i with | 0=>1 | 1=>1 | 2=>2 | 3=>2 | 4=>2 | 5=>3 | 6=>4 | _=>0) (fun (g:Value × Value) j=>match j with | 0=>.agg #[Bv x34.1,s35] | 1=>.agg #[Bv x49.1,g.1] | 2=>.tuple #[.agg #[Bv x51.1,g.2],Iv x51.2.2] | 3=>.agg #[Bv x51.1,g.2] | 4=>Iv x51.2.2 | 5=>.agg #[Bv x51.1,g.2] | _=>undef) (fun k s (g:Value × Value) w=>match k with | 0=>St w0 w noX [] [qa b10 x41,aM s35 x34.2.1,ay b37 x34.1 s35] | 1=>St w0 w noX [] [aM g.1 x49.2,qa b10 x41,aM s35 x34.2.1,ay b37 x34.1 s35] | 2=>St w0 w noX [] [aM g.2 x51.2.1,aM g.1 x49.2,qa b10 x41,aM s35 x34.2.1,ay b37 x34.1 s35] | 3=>St w0 w noX [] [qa b10 x53,aM g.2 x51.2.1,aM g.1 x49.2,aM s35 x34.2.1,ay b37 x34.1 s35] | _=>St w0 w noX [] [qa b10 x53,aM g.2 x51.2.1,aM g.1 x49.2,aM s35 x34.2.1,pt b37 (Cs #[Bv x51.1,g.2] 49)]) bq (by kernel_rfl) (hf.q rfl) hf1 hS.drew ?_ ?_ ?_ ?_
     ·clear hf hf1 hS; refine ⟨?_,fun k s g w _ _ _ hS a hf=>Q.val (v:=.agg #[Bv x51.1,g.2]) rfl rfl rfl hS hf (aA.extract rfl rfl),fun k s g w _ _ _ hS a hf=>Q.val (v:=Iv x51.2.2) rfl rfl rfl hS hf (aA.extract rfl rfl),trivial⟩
      ·intro k s g w h1_ h2_ hsp hS a hf; obtain ⟨s50,s52⟩:=g
       rcases k with _ | _ | k
       ·exact Q.val (v:=.agg #[Bv x34.1,s35]) rfl rfl rfl hS hf (lN (cs':=#[Bv x34.1,s35]) bg rfl (hS.p 2 rfl) rfl rfl)
       ·exact Q.val (v:=.agg #[Bv x34.1,s35]) rfl rfl rfl hS hf (lN (cs':=#[Bv x34.1,s35]) bg rfl (hS.p 3 rfl) rfl rfl)
       ·simp at h2_
     ·clear hf hf1 hS; refine ⟨?_,?_,?_,?_,trivial⟩
      ·intro s g w hsp hS a hf; obtain ⟨s50,s52⟩:=g; refine oc hf rfl xV (pX F 1 _ x49 hx49) ?_; rintro s50 w hS1 a hf; replace hS:=hS.cl hS1; exact nE 95 hf (s50,s52) rfl rfl (jl 7 (by kernel_rfl) fun _=>rfl) hS
      ·intro s g w hsp hS a hf; obtain ⟨s50,s52⟩:=g; refine oc hf rfl aBP (vB F x34.1 s35 x34.2.1 x49.1 s50 x49.2 _ (hS.s 2 rfl) (hS.s 0 rfl) x51 hx51) ?_; rintro s52 w hS1 a hf; replace hS:=hS.cl hS1; exact nE 96 hf (s50,s52) rfl rfl (jl 7 (by kernel_rfl) fun _=>rfl) hS
      ·intro s g w hsp hS a hf; obtain ⟨s50,s52⟩:=g; refine oc hf rfl sQ (dO F b10 x41 x51.1 s52 x51.2.1 x51.2.2 _ (hS.s 0 rfl) (hS.p 2 rfl) (aAR (hS.xA (i:=2) (j:=0) rfl rfl (by decide))) x53 hx53) ?_; rintro _ w hS1 a hf; replace hS:=hS.cz hS1 2 fun _ h=>h; exact nE 99 hf (s50,s52) rfl rfl (fun _ _ _=>rfl) hS
      ·intro s g w hsp hS a hf; obtain ⟨s50,s52⟩:=g; refine ost 4 #[Bv x51.1,s52] hf hS rfl rfl rfl aG rfl (aB rfl (aB (aN (hS.s 1 rfl)) rfl)) rfl (bl rfl) rfl ?_; intro w hS; exact O.nil ⟨rfl,(s50,s52),hf.to trivial,(fun d hd=>by cases (show none=some d from hd)),(fun _ _ _=>rfl),hS⟩
     ·clear hf hf1 hS; exact trivial
     clear hf hf1 hS; intro s g a w hs hf hS; obtain ⟨s50,s52⟩:=g; replace hS:=hS.sl [1,1,0,0,1]; exact aS ⟨x53,x51.1,s52,x51.2.1,hf.q rfl,hS,hm⟩
    ·replace hm:=bW hm hc48; refine W.skip ?_; exact aS ⟨x41,x34.1,s35,x34.2.1,hf.q rfl,hS,hm⟩
   ·clear hf hS hm a; (try clear w); rintro a w ⟨x42,x43,s44,x45,hf,hS,hm⟩; unfold lC at hm; refine W.seq<|sg (l:=[0,1,2]) rfl<|ov hf rfl (aA.field uD rfl rfl) fun a hf=>ov hf rfl (aA.aR aAe rfl (hS.p 0 rfl) rfl) fun a hf=>ov hf rfl (aA.neq rfl rfl) fun a hf=>nk<|?_; refine W.cK hf rfl (fun hc46=>?_) (fun hc46=>?_)
    ·replace hm:=bX hm hc46; refine W.seq<|W.qh (fun w=>St w0 w noX [] [qa b10 x42,aM s44 x45,ay b37 x43 s44]) bq rfl (by kernel_rfl) rfl hS.drew<|?_; clear hS; (try clear w); refine OQ.val (v:=Pv b10 0) hf rfl (fun w hS=>aA.field uD rfl rfl) fun a hf=>OQ.val (v:=Iv x42) hf rfl (fun w hS=>aA.aR aAe rfl (hS.p 0 rfl) rfl) fun a hf=>OQ.val (v:=Iv 0) hf rfl (fun w hS=>aA.assign rfl) fun a hf=>OQ.val (v:=Iv x42) hf rfl (fun w hS=>aA.assign rfl) fun a hf=>?_; refine OQ.nil ?_; intro w hS; refine aP ?_; replace hS:=hS.sl [0,1,1]; refine W.ret<|aF<|?_; obtain rfl:=oj hm; refine bf hf rfl (aJ.tmp rfl) (aJ.tmp rfl) ?_; replace hS:=hS.s0; exact ⟨(),rfl,hS.noB⟩
    ·replace hm:=bW hm hc46; refine W.skip<|aP<|?_; replace hS:=hS.sl [0,1,1]; refine sg (l:=[0,1,2,3,4,5]) rfl<|ov hf rfl (lN (cs':=#[Bv x43,s44]) bg rfl (hS.p 1 rfl) rfl rfl) fun a hf=>?_; obtain ⟨x47,hx47,hm⟩:=aO hm; refine oc hf rfl aFD (aAh F x43 s44 x45 _ (hS.s 0 rfl) x47 hx47) ?_; rintro _ w hS1 a hf; replace hS:=hS.cl hS1; refine ex hf rfl rfl rfl fun a hf=>ex hf rfl rfl rfl fun a hf=>mv2 hf rfl rfl fun a hf=>nk<|?_; replace hS:=hS.s0; refine W.ret ?_; obtain rfl:=oj hm; refine bf hf rfl (aJ.tmp rfl) (aJ.tmp rfl) ?_; exact ⟨(),rfl,hS.noB⟩
def sS (F:Nat) (x2:List (Int × Int × Int × Int)):Option Bool :=
  some (((decide ((x2.length:Int)>(5:Int)))&&(decide ((x2.length:Int)≤(8:Int))))||(decide ((x2.length:Int)>(20:Int))))
theorem y7 (F:Nat) (s1:Value) (x2:List (Int × Int × Int × Int)) (w0:World) (h_s1:aV (hp w0) 4 E40 s1 x2) (r:Bool) (hm:sS F x2=some r) :
    Ret Tryz.prog 4 #[s1] w0 (G:=Unit) (fun _=>Bv r) (fun _ w=>St w0 w noX [] []):=by
 unfold sS at hm; refine aX Tryz.func4 rfl rfl rfl (fun a hf=>?_); have hS:St w0 w0 noX [fK s1 x2] []:=St.borrow (aD (aY h_s1) aL); refine sg (l:=[0]) rfl<|mv hf rfl fun a hf=>nk<|sg (l:=[0,1,2,3,4,5,6,7,8,9,10,11,12,13]) rfl<|mv hf rfl fun a hf=>ov (v:=Iv (x2.length:Int)) hf rfl (aA.dJ (e:=40) (by simpa using fB) rfl (hS.b 0 rfl)) fun a hf=>ov hf rfl (aA.gtr rfl rfl) fun a hf=>mv hf rfl fun a hf=>?_; refine O.fH (l₁:=[4,5,6,7]) (l₂:=_) (fun a w=>Fr a 16 [] [(0,s1),(2,Bv false),(10,Bv ((decide ((x2.length:Int)>(5:Int)))&&(decide ((x2.length:Int)≤(8:Int)))))]∧St w0 w noX [fK s1 x2] []) rfl ?_ ?_
 ·rcases Bool.eq_false_or_eq_true (decide ((x2.length:Int)>(5:Int))) with hb3 | hb3
  ·refine og hf rfl hb3 (aA.move rfl) fun a hf=>og (v:=Iv (x2.length:Int)) hf rfl hb3 (aA.dJ (e:=40) (by simpa using fB) rfl (hS.b 0 rfl)) fun a hf=>og hf rfl hb3 (aA.leq rfl rfl) fun a hf=>?_; refine ov (v:=Bv ((decide ((x2.length:Int)>(5:Int)))&&(decide ((x2.length:Int)≤(8:Int))))) hf rfl (aA.pick rfl rfl rfl (by rw [hb3]; rfl)) ?_; clear hf a; intro a hf; exact O.nil ⟨rfl,hf.q rfl,hS⟩
  ·refine sk hf rfl hb3 fun a hf=>sk hf rfl hb3 fun a hf=>sk hf rfl hb3 fun a hf=>?_; refine ov (v:=Bv ((decide ((x2.length:Int)>(5:Int)))&&(decide ((x2.length:Int)≤(8:Int))))) hf rfl (aA.pick rfl rfl rfl (by rw [hb3]; rfl)) ?_; clear hf a; intro a hf; exact O.nil ⟨rfl,hf.q rfl,hS⟩
 clear hf hS a; (try clear w); rintro a w ⟨hf,hS⟩; refine mv hf rfl fun a hf=>?_; refine O.fH (l₁:=[9,10,11,12]) (l₂:=_) (fun a w=>Fr a 16 [] [(2,Bv false),(15,Bv (((decide ((x2.length:Int)>(5:Int)))&&(decide ((x2.length:Int)≤(8:Int))))||(decide ((x2.length:Int)>(20:Int)))))]∧St w0 w noX [fK s1 x2] []) rfl ?_ ?_
 ·rcases Bool.eq_false_or_eq_true ((decide ((x2.length:Int)>(5:Int)))&&(decide ((x2.length:Int)≤(8:Int)))) with hb4 | hb4
  ·refine sk hf rfl hb4 fun a hf=>sk hf rfl hb4 fun a hf=>sk hf rfl hb4 fun a hf=>?_; refine ov (v:=Bv (((decide ((x2.length:Int)>(5:Int)))&&(decide ((x2.length:Int)≤(8:Int))))||(decide ((x2.length:Int)>(20:Int))))) hf rfl (aA.pick rfl rfl rfl (by rw [hb4]; rfl)) ?_; clear hf a; intro a hf; exact O.nil ⟨rfl,hf.q rfl,hS⟩
  ·refine og hf rfl hb4 (aA.move rfl) fun a hf=>og (v:=Iv (x2.length:Int)) hf rfl hb4 (aA.dJ (e:=40) (by simpa using fB) rfl (hS.b 0 rfl)) fun a hf=>og hf rfl hb4 (aA.gtr rfl rfl) fun a hf=>?_; refine ov (v:=Bv (((decide ((x2.length:Int)>(5:Int)))&&(decide ((x2.length:Int)≤(8:Int))))||(decide ((x2.length:Int)>(20:Int))))) hf rfl (aA.pick rfl rfl rfl (by rw [hb4]; rfl)) ?_; clear hf a; intro a hf; exact O.nil ⟨rfl,hf.q rfl,hS⟩
 clear hf hS a; (try clear w); rintro a w ⟨hf,hS⟩; refine mv hf rfl fun a hf=>nk<|W.ret<|?_; obtain rfl:=oj hm; refine bU hf rfl (aJ.tmp rfl) ?_; exact ⟨(),rfl,hS.noB⟩
end Go.Proofs.YtbccfconmcgfgaaGreat

namespace Go.SL
open Go
def Okt (t:BTask):Prop:=-5000000000000000≤t.1∧t.1≤5000000000000000∧-5000000000000000≤t.2.1∧t.2.1≤5000000000000000∧1≤t.2.2.1∧t.2.2.1≤t.2.1-t.1∧1≤t.2.2.2∧t.2.2.2≤1000000
def Oke (e:Int):Prop:=-5000000000000000≤e∧e≤5000000000000000
def stC (t:BTask) (e:Int):Int:=if t.1<e then e else t.1
def uO (i:Nat) (t:BTask) (e:Int) (a:BRun):BRun:=(((i:Int),stC t e)::a.1,a.2.1,a.2.2+t.2.2.2)
def vC (rest:Nat→Int→BRun) (u:Nat) (e:Int) (i:Nat) (t:BTask) (b:BRun):BRun :=
  if u.testBit i=true then b else
  if stC t e+t.2.2.1≤t.2.1 then
    let a:=rest (u|||2^i) (stC t e+t.2.2.1)
    if a.2.2+t.2.2.2>b.2.2∨(a.2.2+t.2.2.2=b.2.2∧a.2.1<b.2.1) then uO i t e a else b
  else b
def uT (rest:Nat→Int→BRun) (u:Nat) (e:Int):List BTask→Nat→BRun→BRun
  | [],_,b=>b
  | t::l,i,b=>uT rest u e l (i+1) (vC rest u e i t b)
def cB (l:List BTask):Nat→Nat→Int→BRun
  | 0,_,e=>([],e,0)
  | n+1,u,e=>uT (cB l n) u e l 0 ([],e,0)
theorem aBY {t:BTask} {e:Int} (ht:Okt t) (he:Oke e):Oke (stC t e):=by
  unfold Okt Oke stC at *; split <;> omega
theorem aAP {t:BTask} {e:Int} (ht:Okt t) (he:Oke e) (h:stC t e+t.2.2.1≤t.2.1):Oke (stC t e+t.2.2.1):=by
  have:=aBY ht he
  unfold Okt Oke at *; omega
theorem yU {P:BRun→Prop} {rest:Nat→Int→BRun} {u:Nat} {e:Int}:∀ (l:List BTask) (i:Nat) (b:BRun),P b →
    (∀ k t,l[k]? = some t→u.testBit (i+k)=false→stC t e+t.2.2.1≤t.2.1→P (uO (i+k) t e (rest (u|||2^(i+k)) (stC t e+t.2.2.1))))→P (uT rest u e l i b)
  | [],_,_,h,_=>h
  | t::l,i,b,h,hc=>by
    refine yU l (i+1) _ ?_ (fun k t' hk hb hs=>?_)
    · unfold vC
      split
      · exact h
      · rename_i hb
        split
        · rename_i hs
          dsimp only
          split
          · exact hc 0 t rfl (by simpa using hb) hs
          · exact h
        · exact h
    · have:=hc (k+1) t' (by simpa using hk) (by rw [show i+(k+1)=i+1+k by omega]; exact hb) hs
      rw [show i+(k+1)=i+1+k by omega] at this
      exact this
def geC (b r:BRun):Prop:=r.2.2<b.2.2∨(r.2.2=b.2.2∧b.2.1≤r.2.1)
theorem geC.trans {a b c:BRun} (h1:geC a b) (h2:geC b c):geC a c:=by unfold geC at *; omega
def goes (l:List BTask):Int→List Nat→Option BRun
  | e,[]=>some ([],e,0)
  | e,i::s=>match l[i]? with
    | none=>none
    | some t=>if stC t e+t.2.2.1≤t.2.1 then (goes l (stC t e+t.2.2.1) s).map (uO i t e) else none
theorem yH (u i:Nat) (hu:u<256) (hi:i<8) (hb:u.testBit i=false):u<u|||2^i∧u|||2^i<256:=by
  have:∀ u:Fin 256,∀ i:Fin 8,u.val.testBit i.val=false→u.val<u.val|||2^i.val∧u.val|||2^i.val<256:=by decide +kernel
  exact this ⟨u,hu⟩ ⟨i,hi⟩ hb
theorem aEL {u i j:Nat}:(u|||2^i).testBit j=(u.testBit j||decide (i=j)):=by
  rw [Nat.testBit_or,Nat.testBit_two_pow]
theorem aAS (l:List BTask):∀ (n u:Nat) (e:Int),∃ s,goes l e s=some (cB l n u e)∧s.Nodup∧∀ i ∈ s,u.testBit i=false
  | 0,u,e=>⟨[],rfl,by simp,by simp⟩
  | n+1,u,e=>by
    show ∃ s,goes l e s=some (uT (cB l n) u e l 0 ([],e,0))∧s.Nodup∧∀ i ∈ s,u.testBit i=false
    refine yU (P:=fun b=>∃ s,goes l e s=some b∧s.Nodup∧∀ i ∈ s,u.testBit i=false) l 0 _ ⟨[],rfl,by simp,by simp⟩ (fun k t hk hb hs=>?_)
    rw [Nat.zero_add] at hb ⊢
    obtain ⟨s,h1,h2,h3⟩:=aAS l n (u|||2^k) (stC t e+t.2.2.1)
    refine ⟨k::s,?_,?_,?_⟩
    · simp only [goes,hk,if_pos hs,h1,Option.map_some]
    · rw [List.nodup_cons]
      refine ⟨fun hm=>?_,h2⟩
      have:=h3 k hm
      rw [aEL] at this
      simp at this
    · intro i hi
      rcases List.mem_cons.1 hi with rfl | hi
      · exact hb
      · have:=h3 i hi
        rw [aEL] at this
        simp only [Bool.or_eq_false_iff] at this
        exact this.1
structure Fits (n u:Nat) (b:BRun):Prop where
  len:b.1.length+u≤256
  en:Oke b.2.1
  lo:0≤b.2.2
  hi:b.2.2≤1000000*(n:Int)
theorem vS (l:List BTask) (hl:l.length≤8) (ok:∀ t ∈ l,Okt t):∀ (n u:Nat) (e:Int),u<256→Oke e→Fits n u (cB l n u e)
  | 0,u,e,hu,he=>⟨by simp [cB]; omega,he,Int.le_refl _,by simp [cB]⟩
  | n+1,u,e,hu,he=>by
    show Fits (n+1) u (uT (cB l n) u e l 0 ([],e,0))
    refine yU l 0 _ ⟨by simp; omega,he,Int.le_refl _,by simp; omega⟩ (fun k t hk hb hs=>?_)
    rw [Nat.zero_add] at hb ⊢
    have hlt:k<8:=Nat.lt_of_lt_of_le (List.getElem?_eq_some_iff.1 hk).1 hl
    obtain ⟨m1,m2⟩:=yH u k hu hlt hb
    have ht:=ok t (List.mem_of_getElem? hk)
    have ih:=vS l hl ok n (u|||2^k) (stC t e+t.2.2.1) m2 (aAP ht he hs)
    have h1:=ih.len; have h2:=ih.lo; have h3:=ih.hi
    unfold Okt at ht
    refine ⟨?_,ih.en,?_,?_⟩
    · simp only [uO,List.length_cons]; omega
    · simp only [uO]; omega
    · simp only [uO]; push_cast; omega
end Go.SL

namespace Go.SL
open Go
abbrev SSt:=List Nat × Int × Int
def tk (b:BRun):List Nat:=b.1.map fun x=>x.1.toNat
def E0:Int:=-5000000000000000
def vY (s:SSt) (p:List Nat) (v e:Int):SSt:=if v>s.2.1∨(v=s.2.1∧p≠[]∧e<s.2.2) then (p,v,e) else s
def srch (l:List BTask):Nat→List Nat→Nat→SSt→SSt
  | 0,_,_,s=>s
  | n+1,p,u,s=>match goes l E0 p with
    | none=>s
    | some r=>(List.range l.length).foldl (fun s i=>if u.testBit i=true then s else srch l n (p++[i]) (u|||2^i) s) (vY s p r.2.2 r.2.1)
theorem yM {s:SSt} {p:List Nat} {v e:Int} (h:v>s.2.1∨(v=s.2.1∧p≠[]∧e<s.2.2)):vY s p v e=(p,v,e):=if_pos h
theorem yA {s:SSt} {p:List Nat} {v e:Int} (h:¬ (v>s.2.1∨(v=s.2.1∧p≠[]∧e<s.2.2))):vY s p v e=s:=if_neg h
theorem aDS {s:SSt} {p q:List Nat} {v e v2 e2:Int} (hq:q≠[]) (h:p≠[]∨(v≤s.2.1∧v<v2)) :
    vY (vY s p v e) q v2 e2=if v2>v∨(v2=v∧e2<e) then vY s q v2 e2 else vY s p v e:=by
  by_cases c1:v>s.2.1∨(v=s.2.1∧p≠[]∧e<s.2.2)
  · rw [yM c1]
    by_cases c2:v2>v∨(v2=v∧e2<e)
    · rw [if_pos c2,yM (s:=(p,v,e)) (by
        rcases c2 with c2 | ⟨c2,c3⟩
        · exact .inl c2
        · exact .inr ⟨c2,hq,c3⟩),yM (by
        rcases c1 with c1 | ⟨c1,_,c4⟩ <;> rcases c2 with c2 | ⟨c2,c3⟩
        · exact .inl (by omega)
        · exact .inl (by omega)
        · exact .inl (by omega)
        · exact .inr ⟨by omega,hq,by omega⟩)]
    · rw [if_neg c2,yA (s:=(p,v,e)) (fun h=>c2 (by
        rcases h with h | ⟨h,_,h3⟩
        · exact .inl h
        · exact .inr ⟨h,h3⟩))]
  · rw [yA c1]
    by_cases c2:v2>v∨(v2=v∧e2<e)
    · rw [if_pos c2]
    · rw [if_neg c2,yA (fun h4=>?_)]
      rcases h with h | ⟨h1,h2⟩
      · rcases h4 with h4 | ⟨h4,_,h5⟩
        · exact c1 (.inl (by omega))
        · have h6:¬ v>s.2.1:=fun g=>c1 (.inl g)
          have h7:¬ (v=s.2.1∧e<s.2.2):=fun g=>c1 (.inr ⟨g.1,h,g.2⟩)
          omega
      · exact c2 (.inl h2)
theorem aA6 (l:List BTask):∀ (p:List Nat) (e:Int) (r:BRun) (i:Nat) (t:BTask),goes l e p=some r→l[i]? = some t →
    goes l e (p++[i])=if stC t r.2.1+t.2.2.1≤t.2.1 then some (r.1++[((i:Int),stC t r.2.1)],stC t r.2.1+t.2.2.1,r.2.2+t.2.2.2) else none
  | [],e,r,i,t,h,ht=>by
    simp only [goes,Option.some.injEq] at h
    subst h
    simp only [List.nil_append,goes,ht]
    split
    · simp [uO]
    · rfl
  | j::p,e,r,i,t,h,ht=>by
    simp only [goes] at h
    cases hj:l[j]? with
    | none=>rw [hj] at h; simp at h
    | some x =>
      rw [hj] at h
      simp only at h
      split at h
      · rename_i hs
        obtain ⟨r',hr',rfl⟩:=Option.map_eq_some_iff.1 h
        simp only [List.cons_append,goes,hj,if_pos hs,aA6 l p _ r' i t hr' ht]
        by_cases hc:stC t r'.2.1+t.2.2.1≤t.2.1
        · simp only [uO,if_pos hc,Option.map_some,List.cons_append]
          rw [show r'.2.2+x.2.2.2+t.2.2.2=r'.2.2+t.2.2.2+x.2.2.2 by omega]
          exact (if_pos hc).symm
        · simp only [uO,if_neg hc,Option.map_none]
          exact (if_neg hc).symm
      · cases h
theorem aBd (l:List BTask):∀ (s:List Nat) (e:Int) (r:BRun),goes l e s=some r→tk r=s
  | [],e,r,h=>by simp only [goes,Option.some.injEq] at h; subst h; rfl
  | i::s,e,r,h=>by
    simp only [goes] at h
    cases hi:l[i]? with
    | none=>rw [hi] at h; simp at h
    | some t =>
      rw [hi] at h
      simp only at h
      split at h
      · obtain ⟨r',hr',rfl⟩:=Option.map_eq_some_iff.1 h
        have:=aBd l s _ r' hr'
        simp only [tk,uO,List.map_cons,Int.toNat_natCast] at this ⊢
        rw [this]
      · cases h
theorem aBq (l:List BTask) (n u:Nat) (e:Int):goes l e (tk (cB l n u e))=some (cB l n u e):=by
  obtain ⟨s,h,_⟩:=aAS l n u e
  rw [aBd l s e _ h]; exact h
theorem aAX (l:List BTask) (ok:∀ t ∈ l,Okt t):∀ (s:List Nat) (e:Int) (r:BRun),goes l e s=some r→(s.length:Int)≤r.2.2
  | [],e,r,h=>by simp only [goes,Option.some.injEq] at h; subst h; simp
  | i::s,e,r,h=>by
    simp only [goes] at h
    cases hi:l[i]? with
    | none=>rw [hi] at h; simp at h
    | some t =>
      rw [hi] at h
      simp only at h
      split at h
      · obtain ⟨r',hr',rfl⟩:=Option.map_eq_some_iff.1 h
        have h1:=aAX l ok s _ r' hr'
        have ht:=(ok t (List.mem_of_getElem? hi)).2.2.2.2.2.2
        simp only [uO,List.length_cons]; omega
      · cases h
section
variable (l:List BTask) (hl:l.length≤8) (ok:∀ t ∈ l,Okt t)
include hl ok
theorem aCi:∀ (n u:Nat) (p:List Nat) (r:BRun) (s:SSt),goes l E0 p=some r→u<256→256≤n+u→(p=[]→s.2.1=0) →
    srch l n p u s=vY s (p++tk (cB l n u r.2.1)) (r.2.2+(cB l n u r.2.1).2.2) (cB l n u r.2.1).2.1
  | 0,u,p,r,s,_,hu,hn,_=>by omega
  | n+1,u,p,r,s,hg,hu,hn,hs=>by
    have e1:srch l (n+1) p u s=(List.range l.length).foldl (fun s i=>if u.testBit i=true then s else srch l n (p++[i]) (u|||2^i) s) (vY s p r.2.2 r.2.1):=by
      show (match goes l E0 p with | none=>s | some r=>_)=_
      rw [hg]
    have hr0:p=[]→r.2.2=0:=fun h=>by
      subst h
      simp only [goes,Option.some.injEq] at hg
      subst hg; rfl
    have key:∀ (k i:Nat) (b:BRun),i+k=l.length→(tk b=[]→b.2.2=0) →
        (List.range' i k).foldl (fun s i=>if u.testBit i=true then s else srch l n (p++[i]) (u|||2^i) s) (vY s (p++tk b) (r.2.2+b.2.2) b.2.1) =
        vY s (p++tk (uT (cB l n) u r.2.1 (l.drop i) i b)) (r.2.2+(uT (cB l n) u r.2.1 (l.drop i) i b).2.2) (uT (cB l n) u r.2.1 (l.drop i) i b).2.1:=by
      intro k
      induction k with
      | zero=>intro i b hi hb; rw [List.drop_of_length_le (by omega)]; rfl
      | succ k ih =>
        intro i b hi hb
        have hil:i<l.length:=by omega
        have ht:l[i]? = some l[i]:=List.getElem?_eq_getElem hil
        have hd:l.drop i=l[i]::l.drop (i+1):=List.drop_eq_getElem_cons hil
        rw [hd,List.range'_succ,List.foldl_cons]
        show _=vY s (p++tk (uT (cB l n) u r.2.1 (l.drop (i+1)) (i+1) (vC (cB l n) u r.2.1 i l[i] b))) (r.2.2+(uT (cB l n) u r.2.1 (l.drop (i+1)) (i+1) (vC (cB l n) u r.2.1 i l[i] b)).2.2) (uT (cB l n) u r.2.1 (l.drop (i+1)) (i+1) (vC (cB l n) u r.2.1 i l[i] b)).2.1
        have hok:=ok l[i] (List.mem_of_getElem? ht)
        generalize htt:l[i]=t at *
        by_cases hbit:u.testBit i=true
        · rw [if_pos hbit,show vC (cB l n) u r.2.1 i t b=b from by unfold vC; rw [if_pos hbit]]
          exact ih (i+1) b (by omega) hb
        · have hbit':u.testBit i=false:=by simpa using hbit
          rw [if_neg hbit]
          obtain ⟨m1,m2⟩:=yH u i hu (by omega) hbit'
          have hsn:=aA6 l p E0 r i t hg ht
          by_cases hf:stC t r.2.1+t.2.2.1≤t.2.1
          · rw [if_pos hf] at hsn
            rw [aCi n (u|||2^i) (p++[i]) _ _ hsn m2 (by omega) (fun h=>by simp at h)]
            have hlo:0≤(cB l n (u|||2^i) (stC t r.2.1+t.2.2.1)).2.2:=by
              have:=aAX l ok _ _ _ (aBq l n (u|||2^i) (stC t r.2.1+t.2.2.1))
              omega
            have hc:vC (cB l n) u r.2.1 i t b=if (cB l n (u|||2^i) (stC t r.2.1+t.2.2.1)).2.2+t.2.2.2>b.2.2∨((cB l n (u|||2^i) (stC t r.2.1+t.2.2.1)).2.2+t.2.2.2=b.2.2∧(cB l n (u|||2^i) (stC t r.2.1+t.2.2.1)).2.1<b.2.1) then uO i t r.2.1 (cB l n (u|||2^i) (stC t r.2.1+t.2.2.1)) else b:=by
              unfold vC
              rw [if_neg hbit,if_pos hf]
            generalize cB l n (u|||2^i) (stC t r.2.1+t.2.2.1)=a at *
            have hval:1≤t.2.2.2:=hok.2.2.2.2.2.2.1
            rw [show p++[i]++tk a=p++(i::tk a) by simp]
            dsimp only
            rw [aDS (by simp) (by
              by_cases hpb:p++tk b=[]
              · right
                have h1:=List.append_eq_nil_iff.1 hpb
                have h2:=hb h1.2; have h3:=hr0 h1.1; have h4:=hs h1.1
                omega
              · exact .inl hpb)]
            have hcase:(r.2.2+t.2.2.2+a.2.2>r.2.2+b.2.2∨(r.2.2+t.2.2.2+a.2.2=r.2.2+b.2.2∧a.2.1<b.2.1))↔(a.2.2+t.2.2.2>b.2.2∨(a.2.2+t.2.2.2=b.2.2∧a.2.1<b.2.1)):=by omega
            by_cases hcc:a.2.2+t.2.2.2>b.2.2∨(a.2.2+t.2.2.2=b.2.2∧a.2.1<b.2.1)
            · rw [if_pos (hcase.2 hcc),hc,if_pos hcc]
              have:=ih (i+1) (uO i t r.2.1 a) (by omega) (fun h=>by simp [tk,uO] at h)
              have e2:tk (uO i t r.2.1 a)=i::tk a:=by simp [tk,uO]
              have e3:r.2.2+(uO i t r.2.1 a).2.2=r.2.2+t.2.2.2+a.2.2:=by simp only [uO]; omega
              rw [e2,e3] at this
              exact this
            · rw [if_neg (fun h=>hcc (hcase.1 h)),hc,if_neg hcc]
              exact ih (i+1) b (by omega) hb
          · rw [if_neg hf] at hsn
            have e4:∀ st,srch l n (p++[i]) (u|||2^i) st=st:=fun st=>by
              cases n with
              | zero=>rfl
              | succ n=>show (match goes l E0 (p++[i]) with | none=>st | some r=>_)=_; rw [hsn]
            rw [e4,show vC (cB l n) u r.2.1 i t b=b from by unfold vC; rw [if_neg hbit,if_neg hf]]
            exact ih (i+1) b (by omega) hb
    have:=key l.length 0 ([],r.2.1,0) (by omega) (fun _=>rfl)
    rw [e1,List.range_eq_range']
    simp only [tk,List.map_nil,List.append_nil,List.drop_zero] at this
    rw [show r.2.2+(0:Int)=r.2.2 by omega] at this
    exact this
theorem aDR (n:Nat) (hn:256≤n):(srch l n [] 0 ([],0,0)).1=tk (cB l n 0 E0)∧(srch l n [] 0 ([],0,0)).2.1=(cB l n 0 E0).2.2∧goes l E0 (tk (cB l n 0 E0))=some (cB l n 0 E0):=by
  have h:=aCi l hl ok n 0 [] ([],E0,0) ([],0,0) rfl (by omega) (by omega) (fun _=>rfl)
  have hg:=aBq l n 0 E0
  have hv:=aAX l ok _ _ _ hg
  rw [h]
  simp only [List.nil_append]
  refine ⟨?_,?_,hg⟩
  all_goals
    unfold vY
    split
    · first | rfl | simp
    · rename_i hc
      have h0:(cB l n 0 E0).2.2=0:=by simp only at hc; omega
      first
      | exact h0.symm
      | have:(tk (cB l n 0 E0)).length=0:=by omega
        exact (List.length_eq_zero_iff.1 this).symm
end
end Go.SL
namespace Go.SL
open Go
def aC8 (l:List BTask) (n:Nat) (p:List Nat) (u:Nat) (s:SSt) (i:Nat):SSt:=if u.testBit i=true then s else srch l n (p++[i]) (u|||2^i) s
theorem aGR {l:List BTask} {n u:Nat} {p:List Nat} {s:SSt} {r:BRun} (hg:goes l E0 p=some r):srch l (n+1) p u s=(List.range l.length).foldl (aC8 l n p u) (vY s p r.2.2 r.2.1):=by
  show (match goes l E0 p with | none=>s | some r=>_)=_
  rw [hg]; rfl
theorem aGT {l:List BTask} {n u:Nat} {p:List Nat} {s:SSt} (hg:goes l E0 p=none):srch l (n+1) p u s=s:=by
  show (match goes l E0 p with | none=>s | some r=>_)=_
  rw [hg]
theorem aEn {α:Type} {f:α→Nat→α} {a:α} {i:Nat}:(List.range (i+1)).foldl f a=f ((List.range i).foldl f a) i:=by
  rw [List.range_succ,List.foldl_append]; rfl
theorem aFG {s:SSt} {p:List Nat} {v e:Int} (h:v>s.2.1∨((v=s.2.1∧(p.length:Int)>0)∧e<s.2.2)):vY s p v e=(p,v,e):=yM (by
  rcases h with h | ⟨⟨h1,h2⟩,h3⟩
  · exact .inl h
  · exact .inr ⟨h1,fun hp=>by subst hp; simp at h2,h3⟩)
theorem aGP {s:SSt} {p:List Nat} {v e:Int} (h:¬ v>s.2.1∧((¬ v=s.2.1∨¬ (p.length:Int)>0)∨¬ e<s.2.2)):vY s p v e=s:=yA fun g=>by
  rcases g with g | ⟨h1,h2,h3⟩
  · exact h.1 g
  · have:=List.length_pos_iff.2 h2
    rcases h.2 with (h4 | h4) | h4
    · exact h4 h1
    · omega
    · exact h4 h3
end Go.SL

namespace Go.SL
open Go
theorem aBS (x:Int):IntKind.u64.wrap x=x % 18446744073709551616:=IntKind.wrap_u64 x
theorem aHI (x:Int):IntKind.i64.wrap x=(x+9223372036854775808) % 18446744073709551616-9223372036854775808:=IntKind.wrap_i64 x
theorem bD {x:Int} (h:0≤x∧x<18446744073709551616):IntKind.u64.wrap x=x:=by rw [aBS]; omega
theorem bI {x:Int} (h:-9223372036854775808≤x∧x≤9223372036854775807):IntKind.i64.wrap x=x:=by rw [aHI]; omega
theorem zV (x:Int):0≤IntKind.u64.wrap x∧IntKind.u64.wrap x<18446744073709551616:=by rw [aBS]; omega
theorem fdiv_pow (x:Int) (n:Nat):Int.fdiv x (2^n)=x/2^n:=Int.fdiv_eq_ediv_of_nonneg _ (Int.le_of_lt (Int.pow_pos (by decide)))
theorem aGz {x:Int} (h:0≤x∧x<18446744073709551616):bitand .u64 x 4294967295=x % 4294967296:=by
  obtain ⟨n,rfl⟩:=Int.eq_ofNat_of_zero_le h.1
  have hn:n<18446744073709551616:=by omega
  have e1:(BitVec.ofInt (IntKind.bits .u64) (n:Int)).toNat=n:=by
    show (BitVec.ofInt 64 (n:Int)).toNat=n
    rw [BitVec.toNat_ofInt]
    omega
  have e2:(BitVec.ofInt (IntKind.bits .u64) (4294967295:Int)).toNat=2^32-1:=by rfl
  unfold bitand
  rw [BitVec.toNat_and,e1,e2,Nat.and_two_pow_sub_one_eq_mod]
  rw [aBS]
  omega
theorem aBk {a b:Int} (ha:0≤a∧a<4294967296) (hb:0≤b∧b<4294967296):0≤a*b∧a*b≤18446744065119617025:=by
  refine ⟨Int.mul_nonneg ha.1 hb.1,?_⟩
  have h1:a*b≤4294967295*b:=Int.mul_le_mul_of_nonneg_right (by omega) hb.1
  omega
end Go.SL

namespace Go.SL
open Go
def ofN (s:List Nat):List Int:=s.map (fun (i:Nat)=>(i:Int))
theorem tq (s:List Nat):(ofN s).length=s.length:=by simp [ofN]
theorem aEp (s:List Nat) (i:Nat):ofN (s++[i])=ofN s++[(i:Int)]:=by simp [ofN]
end Go.SL
namespace Go.Proofs.YtbccfconmcgfgaaGreat
open Go Go.SL
theorem oO {T:Type} {l:List T} {i:Nat} {x:T} (h:l[i]? = some x):idx l (i:Int)=some x:=by
  unfold idx; rw [if_pos (by omega)]; simpa using h
theorem aCB {s:List Nat} {i x:Nat} (h:s[i]? = some x):idx (ofN s) (i:Int)=some (x:Int):=oO (by unfold ofN; rw [List.getElem?_map,h]; rfl)
theorem mI {i n:Nat} (h:i≤n) (hn:n≤1000):IntKind.i64.wrap ((i:Int)+1)=((i+1:Nat):Int):=by rw [bI (by omega)]; omega
theorem drop_at {T:Type} {s suf:List T} {i:Nat} {x:T} (h:s.drop i=x::suf):s[i]? = some x∧s.drop (i+1)=suf∧i<s.length:=by
  have h1:i<s.length:=by
    rcases Nat.lt_or_ge i s.length with h2 | h2
    · exact h2
    · rw [List.drop_of_length_le h2] at h; cases h
  rw [List.drop_eq_getElem_cons h1] at h
  injection h with h2 h3
  exact ⟨by rw [List.getElem?_eq_getElem h1,h2],h3,h1⟩
theorem aA4 (F:Nat) (l:List BTask) (ok:∀ t ∈ l,Okt t) (s:List Nat) (hs:s.length≤1000) (hr:∀ i ∈ s,i<l.length):∀ (suf:List Nat) (N i:Nat) (acc:List (Int × Int)) (e:Int),s.drop i=suf→suf.length<N→acc.length=i→i≤s.length→Oke e →
    jJ F (ofN s) l N acc e (i:Int)=some (match goes l e suf with | some r=>(acc++r.1,r.2.1,true) | none=>([],0,false))
  | _,0,_,_,_,_,h,_,_,_=>by omega
  | [],N+1,i,acc,e,hd,_,ha,hi,_=>by
    show kI F (ofN s) l (jJ F (ofN s) l N) acc e (i:Int)=_
    unfold kI q9
    have:s.length≤i:=by
      have:=congrArg List.length hd; simp at this; omega
    rw [if_neg (by rw [tq]; omega)]
    simp [goes]
  | x::suf,N+1,i,acc,e,hd,hN,ha,hi,he=>by
    obtain ⟨h1,h2,h3⟩:=drop_at hd
    have hx:=hr x (List.mem_of_getElem? h1)
    obtain ⟨t,ht⟩:∃ t,l[x]? = some t:=⟨_,List.getElem?_eq_getElem hx⟩
    have hok:=ok t (List.mem_of_getElem? ht)
    have hst:=aBY hok he
    have e1:(if e<t.1 then t.1 else e)=stC t e:=by unfold stC; split <;> split <;> omega
    have hw:IntKind.i64.wrap (stC t e+t.2.2.1)=stC t e+t.2.2.1:=by unfold Okt Oke at *; exact bI (by omega)
    show kI F (ofN s) l (jJ F (ofN s) l N) acc e (i:Int)=_
    unfold kI
    rw [if_pos (by rw [tq]; omega),aCB h1,Option.bind_some,oO ht,Option.bind_some,Option.bind_some,e1,if_pos (by omega),hw,Option.bind_some,mI (n:=1000) (by omega) (by omega)]
    simp only [goes,ht]
    by_cases hs':stC t e+t.2.2.1≤t.2.1
    · rw [if_neg (by omega),if_pos hs',aA4 F l ok s hs hr suf N (i+1) _ (stC t e+t.2.2.1) h2 (by simp at hN; omega) (by simp [ha]) (by omega) (aAP hok he hs')]
      cases goes l (stC t e+t.2.2.1) suf with
      | none=>rfl
      | some r=>simp [uO]
    · rw [if_pos (by omega),if_neg hs']
theorem wO (F:Nat) (hF:1000<F) (l:List BTask) (ok:∀ t ∈ l,Okt t) (s:List Nat) (hs:s.length≤1000) (hr:∀ i ∈ s,i<l.length) :
    oK F l (ofN s)=some (match goes l E0 s with | some r=>(r.1,r.2.1,true) | none=>([],0,false)):=by
  have h:=aA4 F l ok s hs hr s F 0 [] E0 rfl (by omega) rfl (by omega) (by unfold Oke E0; omega)
  simp only [List.nil_append] at h
  exact h
theorem aAd (F:Nat) (l:List BTask) (ok:∀ t ∈ l,Okt t) (s:List Nat) (hs:s.length≤1000):∀ (suf:List Nat) (N i:Nat) (acc e:Int) (r:BRun),s.drop i=suf→suf.length<N→i≤s.length→0≤acc→acc≤1000000*(i:Int)→goes l e suf=some r →
    iM F (ofN s) l N acc (i:Int)=some (acc+r.2.2)
  | _,0,_,_,_,_,_,h,_,_,_,_=>by omega
  | [],N+1,i,acc,e,r,hd,_,hi,_,_,hg=>by
    show jc F (ofN s) l (iM F (ofN s) l N) acc (i:Int)=_
    unfold jc qK
    have:s.length≤i:=by
      have:=congrArg List.length hd; simp at this; omega
    simp only [goes,Option.some.injEq] at hg
    subst hg
    rw [if_neg (by rw [tq]; omega)]
    simp
  | x::suf,N+1,i,acc,e,r,hd,hN,hi,h0,h1',hg=>by
    obtain ⟨h1,h2,h3⟩:=drop_at hd
    simp only [goes] at hg
    cases ht:l[x]? with
    | none=>rw [ht] at hg; simp at hg
    | some t =>
      rw [ht] at hg
      simp only at hg
      split at hg
      · obtain ⟨r',hr',rfl⟩:=Option.map_eq_some_iff.1 hg
        have hok:=(ok t (List.mem_of_getElem? ht)).2.2.2.2.2.2
        show jc F (ofN s) l (iM F (ofN s) l N) acc (i:Int)=_
        unfold jc
        rw [if_pos (by rw [tq]; omega),aCB h1,Option.bind_some,oO ht,Option.bind_some,bI (by omega),Option.bind_some,mI (n:=1000) (by omega) (by omega),
          aAd F l ok s hs suf N (i+1) (acc+t.2.2.2) _ r' h2 (by simp at hN; omega) (by omega) (by omega) (by omega) hr']
        simp only [uO]
        congr 1; omega
      · cases hg
theorem aCE (F:Nat) (hF:1000<F) (l:List BTask) (ok:∀ t ∈ l,Okt t) (s:List Nat) (hs:s.length≤1000) (e:Int) (b:BRun) (hb:goes l e s=some b):sP F l (ofN s)=some b.2.2:=by
  unfold sP
  have:=aAd F l ok s hs s F 0 0 e b rfl (by omega) (by omega) (by omega) (by omega) hb
  rw [Int.zero_add] at this
  exact this
theorem zQ (u i:Nat) (hu:u<256) (hi:i<8):(bitand .i64 (Int.fdiv (u:Int) (2^(min (Int.toNat (i:Int)) (IntKind.bits .i64)))) 1=(0:Int))↔u.testBit i=false:=by
  have:∀ u:Fin 256,∀ i:Fin 8,decide (bitand .i64 (Int.fdiv (u.val:Int) (2^(min (Int.toNat (i.val:Int)) (IntKind.bits .i64)))) 1=(0:Int))=!(u.val.testBit i.val):=by decide +kernel
  have h:=this ⟨u,hu⟩ ⟨i,hi⟩
  simp only at h
  constructor
  · intro h2; rw [decide_eq_true h2] at h; simpa using h.symm
  · intro h2; rw [h2] at h; simpa using h
theorem aB3 (u i:Nat) (hu:u<256) (hi:i<8):bitor .i64 (u:Int) (IntKind.i64.wrap (1*2^(min (Int.toNat (i:Int)) (IntKind.bits .i64))))=((u|||2^i:Nat):Int):=by
  have:∀ u:Fin 256,∀ i:Fin 8,bitor .i64 (u.val:Int) (IntKind.i64.wrap (1*2^(min (Int.toNat (i.val:Int)) (IntKind.bits .i64))))=((u.val|||2^i.val:Nat):Int):=by decide +kernel
  exact this ⟨u,hu⟩ ⟨i,hi⟩
end Go.Proofs.YtbccfconmcgfgaaGreat
namespace Go.Proofs.YtbccfconmcgfgaaGreat
open Go Go.SL
theorem aC5 (l:List BTask):∀ (s:List Nat) (e:Int) (r:BRun),goes l e s=some r→∀ i ∈ s,i<l.length
  | [],e,r,h=>fun i hi=>by cases hi
  | i::s,e,r,h=>fun j hj=>by
    simp only [goes] at h
    cases hi:l[i]? with
    | none=>rw [hi] at h; simp at h
    | some t =>
      rw [hi] at h
      simp only at h
      split at h
      · obtain ⟨r',hr',rfl⟩:=Option.map_eq_some_iff.1 h
        rcases List.mem_cons.1 hj with rfl | hj
        · exact (List.getElem?_eq_some_iff.1 hi).1
        · exact aC5 l s _ r' hr' j hj
      · cases h
theorem y8 (F:Nat) (l:List BTask) (hl:l.length≤8):∀ (k N i:Nat),i+k=l.length→k<N→(∀ j t,j<i→l[j]? = some t→Okt t)→∃ c,dV F l N (i:Int)=some c∧(c=0→∀ t ∈ l,Okt t)
  | _,0,_,_,h,_=>by omega
  | 0,N+1,i,hi,_,hok=>by
    refine ⟨0,?_,fun _ t ht=>?_⟩
    · show eP F l (dV F l N) (i:Int)=_
      unfold eP nZ
      rw [if_neg (by omega)]
    · obtain ⟨j,hj⟩:=List.getElem?_of_mem ht
      exact hok j t (by have:=(List.getElem?_eq_some_iff.1 hj).1; omega) hj
  | k+1,N+1,i,hi,hN,hok=>by
    have hil:i<l.length:=by omega
    obtain ⟨t,ht⟩:∃ t,l[i]? = some t:=⟨_,List.getElem?_eq_getElem hil⟩
    have hw:IntKind.i64.wrap ((i:Int)+1)=((i+1:Nat):Int):=by rw [bI (by omega)]; omega
    have e1:dV F l (N+1) (i:Int)=eP F l (dV F l N) (i:Int):=rfl
    rw [e1]
    unfold eP
    rw [if_pos (by omega),oO ht,Option.bind_some,hw]
    split
    · exact ⟨8,rfl,fun h=>by omega⟩
    · rename_i hc
      refine y8 F l hl k N (i+1) (by omega) (by omega) (fun j t' hj hjt=>?_)
      by_cases hji:j=i
      · subst hji
        rw [ht] at hjt
        obtain rfl:=Option.some.inj hjt
        simp only [Bool.or_eq_true,decide_eq_true_eq,not_or] at hc
        unfold Okt
        have h3:IntKind.i64.wrap (t.2.1-t.1)=t.2.1-t.1:=bI (by omega)
        rw [h3] at hc
        omega
      · exact hok j t' (by omega) hjt
theorem aDW (F:Nat) (hF:8<F) (l:List BTask):∃ c,iB F l=some c∧(c=0→l.length≤8∧∀ t ∈ l,Okt t):=by
  unfold iB
  by_cases hl:l.length≤8
  · rw [if_neg (by omega)]
    obtain ⟨c,h1,h2⟩:=y8 F l hl l.length F 0 (by omega) (by omega) (fun j t hj=>by omega)
    exact ⟨c,h1,fun h=>⟨hl,h2 h⟩⟩
  · rw [if_pos (by omega)]
    exact ⟨4,rfl,fun h=>by omega⟩
def r9 (F:Nat) (l:List (Int × Int × Int × Int)):Option ((List (Int × Int)) × Int × Int) :=
  if 256≤F then (iB F l).bind fun c=>if c≠0 then some ([],0,c) else some ((cB l F 0 E0).1,(cB l F 0 E0).2.2,0) else none
end Go.Proofs.YtbccfconmcgfgaaGreat

namespace Go.SL
open Go
structure KeyOK (P:Program) (kt:TypeId) {K:Type} [DecidableEq K] (kE:K→Value) (G:World→K→Prop):Prop where
  chk:∀ (k:K) (b:Bool) (w:World),(Instr.checkKey b 10000 kt (kE k)).run P w=.ok () w
  und:∃ d,P.underlying kt=some d∧∀ k k':K,Instr.sameNow d (kE k) (kE k')=none
  eqk:∀ (k k':K) (w:World),G w k→G w k'→(Op.equal kt (kE k) (kE k')).run P w=.ok (decide (k=k')) w
  bits:∀ k:K,Instr.sameBits 10000 (kE k) (kE k)=true
section
variable {K:Type} [DecidableEq K]
def aHK (k:K):List (K × Value)→Option Value
  | []=>none
  | p::t=>if k=p.1 then some p.2 else aHK k t
def aHF (k:K):List (K × Value)→Nat→Option (Nat × Value)
  | [],_=>none
  | p::t,i=>if k=p.1 then some (i,p.2) else aHF k t (i+1)
def aHC (k:K) (v:Value):List (K × Value)→List (K × Value)
  | []=>[(k,v)]
  | p::t=>if k=p.1 then (k,v)::t else p::aHC k v t
def aHH (kE:K→Value) (h:Hp) (b:Nat) (kvs:List (K × Value)):Prop :=
  ∃ es clock,h b=some (.map es clock)∧es.toList.map (fun e=>(e.key,e.val))=kvs.map (fun p=>(kE p.1,p.2))∧(∀ e ∈ es.toList,e.born<clock)∧(es.toList.map (·.born)).Nodup
def mp (kE:K→Value) (b:Nat) (kvs:List (K × Value)):Asr:=⟨fun k=>k=b,fun h=>aHH kE h b kvs,fun h h' hk ⟨es,c,h1,h2⟩=>⟨es,c,by rw [hk b rfl]; exact h1,h2⟩⟩
variable {P:Program} {w w0:World} {t kt:TypeId} {kE:K→Value} {kvs:List (K × Value)} {b:Nat} {k:K} {z:Value} {G:World→K→Prop}
def tMapOf (P:Program) (t:TypeId):Option (TypeId × Value) :=
  match P.underlying t with
  | some (.map k e)=>match iQ P e with
    | some z=>some (k,z)
    | none=>none
  | _=>none
end
section
variable {K:Type} {kE:K→Value} {kvs:List (K × Value)}
variable {r:Option Nat} {P:Program} {ops:Array Oper} {Q:Exit→Act→World→Prop} {a:Act} {w w0:World} {n:Nat} {ds:List Deferred} {L:List (Nat × Value)} {X:Nat→Prop} {B M M':List Asr}
  {d i j b:Nat} {ty t kt:TypeId} {pos:String} {af:Array Edge} {rest:List Nat}
end
section
variable {K:Type} [DecidableEq K] {kE:K→Value} {kvs:List (K × Value)} {k:K} {G:World→K→Prop}
variable {r:Option Nat} {P:Program} {ops:Array Oper} {Q:Exit→Act→World→Prop} {a:Act} {w w0:World} {n:Nat} {ds:List Deferred} {L:List (Nat × Value)} {X:Nat→Prop} {B M M':List Asr}
  {d i j b:Nat} {ty t kt:TypeId} {pos:String} {af:Array Edge} {rest:List Nat} {x y zz:Operand} {v z u:Value}
end
def aFN (l:List Asr):Asr :=
  ⟨fun b=>∃ p ∈ l,p.fp b,fun h=>(∀ p ∈ l,p.holds h)∧l.Pairwise (fun p q:Asr=>∀ b:Nat,p.fp b→¬ q.fp b),
   fun h h' hk ⟨h1,h2⟩=>⟨fun p hp=>p.loc h h' (fun b hb=>hk b ⟨p,hp,hb⟩) (h1 p hp),h2⟩⟩
section
variable {h:Hp} {m:Nat} {old:Nat→Prop} {l l' N M:List Asr} {p q:Asr} {w0 w:World} {X:Nat→Prop} {B:List Asr}
theorem Sep.big:∀ {l:List Asr},Sep h m old (aFN l::M)↔Sep h m old (l++M)
  | []=>by
    constructor
    · exact fun hs=>hs.2
    · exact fun hs=>⟨⟨⟨by simp,.nil⟩,fun b ⟨p,hp,_⟩=>by simp at hp,fun q _ b ⟨p,hp,_⟩=>by simp at hp⟩,hs⟩
  | p::l=>by
    have ih:=Sep.big (l:=l)
    constructor
    · rintro ⟨⟨⟨h1,h2⟩,h3,h4⟩,h5⟩
      rw [List.pairwise_cons] at h2
      refine ⟨⟨h1 p List.mem_cons_self,fun b hb=>h3 b ⟨p,List.mem_cons_self,hb⟩,fun q hq b hb=>?_⟩,ih.1 ⟨⟨⟨fun q hq=>h1 q (List.mem_cons_of_mem _ hq),h2.2⟩,fun b ⟨q,hq,hb⟩=>h3 b ⟨q,List.mem_cons_of_mem _ hq,hb⟩,fun q hq b ⟨r,hr,hb⟩=>h4 q hq b ⟨r,List.mem_cons_of_mem _ hr,hb⟩⟩,h5⟩⟩
      rcases List.mem_append.1 hq with hq | hq
      · exact h2.1 q hq b hb
      · exact h4 q hq b ⟨p,List.mem_cons_self,hb⟩
    · rintro ⟨⟨h1,h2,h3⟩,h4⟩
      obtain ⟨⟨⟨g1,g2⟩,g3,g4⟩,g5⟩:=ih.2 h4
      refine ⟨⟨⟨fun q hq=>?_,List.pairwise_cons.2 ⟨fun q hq b hb=>h3 q (List.mem_append_left _ hq) b hb,g2⟩⟩,?_,?_⟩,g5⟩
      · rcases List.mem_cons.1 hq with rfl | hq
        · exact h1
        · exact g1 q hq
      · rintro b ⟨q,hq,hb⟩
        rcases List.mem_cons.1 hq with rfl | hq
        · exact h2 b hb
        · exact g3 b ⟨q,hq,hb⟩
      · rintro q hq b ⟨s,hs,hb⟩
        rcases List.mem_cons.1 hs with rfl | hs
        · exact h3 q (List.mem_append_right _ hq) b hb
        · exact g4 q hq b ⟨s,hs,hb⟩
theorem Sep.tail {M':List Asr} (he:∀ q ∈ M',∀ b,q.fp b→∃ q' ∈ M,q'.fp b) (hm:Sep h m old M→Sep h m old M'):∀ {N:List Asr},Sep h m old (N++M)→Sep h m old (N++M')
  | [],hs=>hm hs
  | p::N,hs=>⟨⟨hs.1.1,hs.1.2.1,fun q hq b hb hqb=>by
      rcases List.mem_append.1 hq with h1 | h1
      · exact hs.1.2.2 q (List.mem_append_left _ h1) b hb hqb
      · obtain ⟨q',h2,h3⟩:=he q h1 b hqb
        exact hs.1.2.2 q' (List.mem_append_right _ h2) b hb h3⟩,Sep.tail he hm hs.2⟩
theorem St.tail {M':List Asr} (hS:St w0 w X B (N++M)) (he:∀ q ∈ M',∀ b,q.fp b→∃ q' ∈ M,q'.fp b) (hm:Sep (hp w) w.heap.size (fun b=>X b∨w0.heap.size≤b) M→Sep (hp w) w.heap.size (fun b=>X b∨w0.heap.size≤b) M'):St w0 w X B (N++M') :=
  ⟨hS.os,hS.tape,hS.output,hS.size,hS.old,Sep.tail he hm hS.sep,hS.bor⟩
theorem St.zZ (hS:St w0 w X B (N++aFN l::M)):St w0 w X B (N++(l++M)) :=
  hS.tail (fun q hq b hb=>by
    rcases List.mem_append.1 hq with h1 | h1
    · exact ⟨_,List.mem_cons_self,q,h1,hb⟩
    · exact ⟨q,List.mem_cons_of_mem _ h1,hb⟩) Sep.big.1
theorem St.xH (hS:St w0 w X B (N++(l++M))):St w0 w X B (N++aFN l::M) :=
  hS.tail (fun q hq b hb=>by
    rcases List.mem_cons.1 hq with rfl | h1
    · obtain ⟨p,hp,hb⟩:=hb
      exact ⟨p,List.mem_append_left _ hp,hb⟩
    · exact ⟨q,List.mem_append_right _ h1,hb⟩) Sep.big.2
end
def aGA (t:TypeId) (c:Int):Value:=.iface t (.agg #[.int .i64 c])
def RetP {G:Type} (P:Program) (t:TypeId) (f:FuncId) (args:Array Value) (w:World) (v:G→Value) (R:G→World→Prop) (Rp:Int→World→Prop):Prop :=
  Calls P f args w fun e w'=>(∃ g,e=.returned (v g)∧R g w')∨∃ c,e=.panicked [⟨aGA t c,false,false⟩]∧Rp c w'
section
variable {r:Option Nat} {P:Program} {Q:Exit→Act→World→Prop} {ops:Array Oper} {i:Nat} {rest:List Nat} {a:Act} {w w0 w':World} {n:Nat} {ds:List Deferred} {L:List (Nat × Value)}
  {d:Nat} {op:Op} {ty t:TypeId} {pos:String} {af:Array Edge} {X:Nat→Prop} {B M:List Asr} {G:Type} {v:G→Value} {R:G→World→Prop} {Rp:Int→World→Prop} {f:FuncId} {args:Array Value} {x:Operand}
theorem O.panic {u:Value} (hf:Fr a n ds L) (ho:ops[i]? = some ⟨none,.panic x,ty,pos,af,none⟩) (hx:ev L x=some (.iface t u)) (k:Q (.panic [⟨.iface t u,false,false⟩]) a w):O r P ops Q (i::rest) a w:=by
  unfold O wpOpsIn
  simp only [ho]
  rw [if_pos (by simp [Region.wanted])]
  refine ⟨fun _ _=>trivial,?_⟩
  rw [qc (o:=⟨none,.panic x,ty,pos,af,none⟩) rfl]
  have he:(execOp a.eval ⟨none,.panic x,ty,pos,af,none⟩).run P w=.halt (.panic (.iface t u)) w:=by
    simp only [execOp,hf.eval hx,Instr.panic,goPanic,Sem.run_bind]
    rfl
  rw [he]
  exact k
end
end Go.SL

namespace Go.SL
open Go
section
variable {w0 w:World} {X:Nat→Prop} {B M N l:List Asr} {p:Asr} {s e:Nat} {vs:List Value} {xss:List (List Int)} {v:Value} {x:List Int}
def slsA (e:TypeId) (vs:List Value) (xss:List (List Int)):List Asr:=(List.range vs.length).map fun (i:Nat)=>sl e 1 (vs.getD i undef) (xss.getD i []).length (ints (xss.getD i []))
end
end Go.SL

namespace Go.SL
open Go
section
variable {P:Program} {w:World} {n:Nat} {ds:List Deferred} {L:List (Nat × Value)} {ty t t':TypeId} {x y:Operand} {p q:Int}
end
theorem W.aGl {r:Option Nat} {P:Program} {Q:Exit→Act→World→Prop} {a:Act} {w:World} {x:Code} {K:Act→World→Prop} (R:Act→World→Prop) (h:W r P x (Exit.then R Q) a w) (hy:∀ a w,R a w→K a w):W r P x (Exit.then K Q) a w:=by
  refine h.mono fun e a w hq=>?_
  cases e <;> first | exact hq | exact hy a w hq
end Go.SL

namespace Go.SL
open Go
def fps (M:List Asr):Nat→Prop:=fun b=>∃ p ∈ M,p.fp b
def Lt (w:World) (X:Nat→Prop) (p:Asr):Prop:=p.holds (hp w)∧∀ b,p.fp b→b<w.heap.size∧¬ X b
section
variable {h:Hp} {m:Nat} {old:Nat→Prop} {w w0 w1 w2 w':World} {X X':Nat→Prop} {B M N K:List Asr} {p q:Asr} {i j e:Nat} {v:Value} {x:List Int} {vs:List Value} {xss:List (List Int)}
theorem Sep.aGs:∀ {M:List Asr},Sep h m old (M++K)→∀ q ∈ M,∀ p ∈ K,∀ b,q.fp b→¬ p.fp b
  | [],_,q,hq,_,_,_,_=>by cases hq
  | r::t,hm,q,hq,p,hp,b,hb=>by
    rcases List.mem_cons.1 hq with rfl | hq
    · exact hm.1.2.2 p (List.mem_append_right _ hp) b hb
    · exact Sep.aGs hm.2 q hq p hp b hb
theorem St.lt (hS:St w0 w X B M) (hp:p ∈ B):Lt w X p:=by
  have h:=hS.bor p hp
  refine ⟨p.loc _ _ (fun b hb=>hS.old b (h.2 b hb).1 (h.2 b hb).2) h.1,fun b hb=>⟨Nat.lt_of_lt_of_le (h.2 b hb).1 hS.size,(h.2 b hb).2⟩⟩
theorem St.back {B':List Asr} (hS:St w0 w X B (M++K)) (hc:St w w' (fps M) B' N):St w0 w' X B (N++K):=by
  refine hS.aF8 (X':=fps M) hc.noB (fun b ⟨p,hp,hb⟩=>⟨p,List.mem_append_left _ hp,hb⟩) (List.sublist_append_right _ _) (fun q hq b hb ⟨p,hp,hpb⟩=>Sep.aGs hS.sep p hp q hq b hpb hb)
theorem Lt.at (hS:St w w X B M) (hi:B[i]? = some p):Lt w X p:=hS.lt (List.mem_of_getElem? hi)
theorem Lt.inn (hS:St w w X B M) (hi:B[i]? = some (SL.inn vs xss)) (hj:j<vs.length):Lt w X (rdv 1 (vs.getD j undef) (xss.getD j []).length (ints (xss.getD j []))):=by
  have h:=Lt.at hS hi
  exact ⟨h.1.2 j hj,fun b hb=>h.2 b ⟨j,hj,hb.1,hb.2⟩⟩
theorem Lt.sl {n:Nat} {xs:List Value} {sz:Nat} (hS:St w w X B M) (hi:B[i]? = some (SL.sl e sz v n xs)):Lt w X (rdv sz v n xs):=by
  have h:=Lt.at hS hi
  exact ⟨oQ.rd h.1,fun b hb=>h.2 b hb.2⟩
end
def IterM (P:Program) (gf:FuncId) (lb:Array Value) (e:TypeId) (xss:List (List Int)) (BL:List Asr):Prop :=
  ∀ (l:Nat) (γ:Type) (U:γ→Asr) (Fc:Nat→γ→Prop) (g:γ) (w1:World),Fc 0 g→St w1 w1 (fps [U g]) BL [U g] →
    (∀ k x,xss[k]? = some x→∀ g' v w,Fc k g'→St w1 w (fps [U g]) [] [sl e 1 v x.length (ints x),U g'] →
      YieldAt (FW none) 0 P l #[v] w (fun e' w'=>e'=.returned (.bool true)∧∃ g'',Fc (k+1) g''∧St w w' (fps [sl e 1 v x.length (ints x),U g']) [] [U g''])) →
    Calls P gf (#[.func (.yield l) #[] #[]]++lb) w1 (fun e' w'=>(∃ v,e'=.returned v)∧∃ g',Fc xss.length g'∧St w1 w' (fps [U g]) [] [U g'])
section
variable {P:Program} {Q:Exit→Act→World→Prop} {a:Act} {w w0 w':World} {n:Nat} {ds:List Deferred} {L:List (Nat × Value)} {X:Nat→Prop} {B M:List Asr}
end
end Go.SL

namespace Go.SL
open Go
section
variable {w0 w:World} {X:Nat→Prop} {B M:List Asr} {us vs:List Value} {xss yss:List (List Int)} {h:Hp}
theorem yF.one (hh:yF h vs xss):bV vs=true:=by
  have:∀ (l:List Value),(∀ u ∈ l,bV [u]=true)→bV l=true:=by
    intro l
    induction l with
    | nil=>intro _; rfl
    | cons u t ih=>exact fun hu=>aB (hu u List.mem_cons_self) (ih fun v hv=>hu v (List.mem_cons_of_mem _ hv))
  refine this vs fun u hu=>?_
  obtain ⟨i,hi,rfl⟩:=List.getElem_of_mem hu
  have h1:=hh.2 i hi
  rw [List.getD_eq_getElem?_getD,List.getElem?_eq_getElem hi] at h1
  exact (sI.cells h1).2
theorem yF.app (h1:yF h us xss) (h2:yF h vs yss):yF h (us++vs) (xss++yss):=by
  have l1:=h1.1
  have l2:=h2.1
  refine ⟨by simp [l1,l2],fun i hi=>?_⟩
  by_cases hlt:i<us.length
  · have:=h1.2 i hlt
    simpa [List.getD_eq_getElem?_getD,List.getElem?_append_left hlt,List.getElem?_append_left (show i<xss.length by omega)] using this
  · have hi2:i-us.length<vs.length:=by simp at hi; omega
    have:=h2.2 (i-us.length) hi2
    simpa [List.getD_eq_getElem?_getD,List.getElem?_append_right (show us.length≤i by omega),List.getElem?_append_right (show xss.length≤i by omega),l1] using this
end
def aEW (v:Value) (l:List Int) (k:Nat):Value:=vsub 1 v (k:Int) (l.length:Int)
section
variable {h:Hp} {v:Value} {l:List Int} {k:Nat} {P:Program} {w:World} {n:Nat} {ds:List Deferred} {L:List (Nat × Value)} {ty t e:TypeId} {x lo:Operand} {kd:IntKind}
theorem yX (l:List Int):encs (fun x:Int=>[Value.int .i64 x]) l=ints l:=by
  unfold encs ints
  induction l with
  | nil=>rfl
  | cons a t ih=>simp only [List.flatMap_cons,List.map_cons,ih]; rfl
theorem aEF (hr:sI h 1 v l.length (ints l)) (hf:vfit v):aV h 1 (fun x:Int=>[Value.int .i64 x]) v l:=⟨by rw [yX]; exact hr,hf⟩
theorem aDL:lsub l (k:Int) (l.length:Int)=l.drop k:=by unfold lsub; simp
theorem sI.aEW (hr:sI h 1 v l.length (ints l)) (hf:vfit v) (hk:k≤l.length):sI h 1 (SL.aEW v l k) (l.drop k).length (ints (l.drop k))∧vfit (SL.aEW v l k):=by
  have h1:=(aEF hr hf).sub (a:=(k:Int)) (b:=(l.length:Int)) (fun _=>rfl) ⟨by omega,by omega,by omega⟩
  rw [aDL] at h1
  refine ⟨?_,h1.2⟩
  have:=h1.1
  rwa [yX] at this
end
section
variable {P:Program} {w:World} {n k:Nat} {ds:List Deferred} {L:List (Nat × Value)} {ty t t':TypeId} {x y:Operand}
end
end Go.SL

namespace Go.SL
open Go
section
variable {r:Option Nat} {P:Program} {ops:Array Oper} {Q:Exit→Act→World→Prop} {a:Act} {w w0:World} {n:Nat} {ds:List Deferred} {L:List (Nat × Value)} {X:Nat→Prop} {B M:List Asr}
end
end Go.SL
