/- Part of a proof: walks printed by a program. -/
import Derived.Test.YtjahppldcbbccaaGreatDoorWac
set_option linter.unusedVariables false
set_option linter.unusedSimpArgs false
set_option maxHeartbeats 1000000
set_option maxRecDepth 8000
namespace Go.Proofs.YtjahppldcbbccaaGreatDoor
open Go Go.SL Go.IntKind
theorem zey (F:Nat):∀ n:Nat,n≤F→∀ (x1:Int) (x2:Int) (b3:Nat) (b4:Nat) (s5:MTab) (b6:Nat) (s7:Value) (x8:List (Int × Int × Int × Int)) (b9:Nat) (w0:World) (h_s7:rdEOK (hp w0) 4 E27 s7 x8) (h_b4:memoH w0 45 2 E45 (bestN F F x8) b4 s5) (h_b3:w0.heap[b3]? = some (.cells #[.map (some b4)] 54 (0,0))) (h_b6:w0.heap[b6]? = some (.cells #[s7] 28 (0,0))) (h_b9:w0.heap[b9]? = some (.cells #[.func (.func 15) #[] #[Pv b3 0,Pv b6 0,Pv b9 0]] 55 (0,0))) (ap_s7:∀ k,(rE27 s7 x8).fp k→¬ (memoA 45 2 E45 (bestN F F x8) b4 s5).fp k) (ap_b3:∀ k,(pt b3 (Cs #[.map (some b4)] 54)).fp k→¬ (memoA 45 2 E45 (bestN F F x8) b4 s5).fp k) (ap_b6:∀ k,(pt b6 (Cs #[s7] 28)).fp k→¬ (memoA 45 2 E45 (bestN F F x8) b4 s5).fp k) (ap_b9:∀ k,(pt b9 (Cs #[.func (.func 15) #[] #[Pv b3 0,Pv b6 0,Pv b9 0]] 55)).fp k→¬ (memoA 45 2 E45 (bestN F F x8) b4 s5).fp k) (r:(List (Int × Int)) × Int × Int) (M:zaA F n x1 x2 x8=some r),Ret Tryz.prog 15 #[Iv x1,Iv x2,Pv b3 0,Pv b6 0,Pv b9 0] w0 (G:=Value × MTab) (λ(g1,g2)=>.agg #[g1,Iv r.2.1,Iv r.2.2]) (λ(g1,g2) w=>St w0 w (λk=>(memoA 45 2 E45 (bestN F F x8) b4 s5).fp k) [] [memIn (bestN F F x8) g2 g1 r.1,memoA 45 2 E45 (bestN F F x8) b4 g2]):=by
  intro n
  induction n with
  | zero=>intros; rename_i M; exact absurd (show none=some _ from M) (by simp)
  | succ n ih=>intro hn x1 x2 b3 b4 s5 b6 s7 x8 b9 w0 h_s7 h_b4 h_b3 h_b6 h_b9 ap_s7 ap_b3 ap_b6 ap_b9 r M; exact zej F (zaA F n) (ih (by omega)) (λx1 x2 x8 r h=>zex F (n+1) hn x1 x2 x8 r h) x1 x2 b3 b4 s5 b6 s7 x8 b9 w0 h_s7 h_b4 h_b3 h_b6 h_b9 ap_s7 ap_b3 ap_b6 ap_b9 r M
theorem zeU (F:Nat) (x1 x2:Int) (b3 b4:Nat) (s5:MTab) (b6:Nat) (s7:Value) (x8:List (Int × Int × Int × Int)) (b9:Nat) (w0:World) (h_s7:rdEOK (hp w0) 4 E27 s7 x8) (h_b4:memoH w0 45 2 E45 (bestN F F x8) b4 s5) (h_b3:w0.heap[b3]? = some (.cells #[.map (some b4)] 54 (0,0))) (h_b6:w0.heap[b6]? = some (.cells #[s7] 28 (0,0))) (h_b9:w0.heap[b9]? = some (.cells #[.func (.func 15) #[] #[Pv b3 0,Pv b6 0,Pv b9 0]] 55 (0,0))) (ap_s7:∀ k,(rE27 s7 x8).fp k→¬ (memoA 45 2 E45 (bestN F F x8) b4 s5).fp k) (ap_b3:∀ k,(pt b3 (Cs #[.map (some b4)] 54)).fp k→¬ (memoA 45 2 E45 (bestN F F x8) b4 s5).fp k) (ap_b6:∀ k,(pt b6 (Cs #[s7] 28)).fp k→¬ (memoA 45 2 E45 (bestN F F x8) b4 s5).fp k) (ap_b9:∀ k,(pt b9 (Cs #[.func (.func 15) #[] #[Pv b3 0,Pv b6 0,Pv b9 0]] 55)).fp k→¬ (memoA 45 2 E45 (bestN F F x8) b4 s5).fp k) (r:(List (Int × Int)) × Int × Int) (M:zcS F x1 x2 x8=some r) :
    Ret Tryz.prog 15 #[Iv x1,Iv x2,Pv b3 0,Pv b6 0,Pv b9 0] w0 (G:=Value × MTab) (λ(g1,g2)=>.agg #[g1,Iv r.2.1,Iv r.2.2]) (λ(g1,g2) w=>St w0 w (λk=>(memoA 45 2 E45 (bestN F F x8) b4 s5).fp k) [] [memIn (bestN F F x8) g2 g1 r.1,memoA 45 2 E45 (bestN F F x8) b4 g2]) :=
  zey F F (Nat.le_refl _) x1 x2 b3 b4 s5 b6 s7 x8 b9 w0 h_s7 h_b4 h_b3 h_b6 h_b9 ap_s7 ap_b3 ap_b6 ap_b9 r M
def zhI (F:Nat) (x2:List (Int × Int × Int × Int)):Option ((List (Int × Int)) × Int × Int) :=
  (zgg F x2).bind λx4=>if x4≠(0:Int) then (some (([]:List (Int × Int)),0,x4)) else ((zcS F 0 (-5000000000000000) x2).bind λx9=>some (x9.1,x9.2.2,0))
theorem zji (F:Nat) (s1:Value) (x2:List (Int × Int × Int × Int)) (w0:World) (h_s1:rdEOK (hp w0) 4 E27 s1 x2) (r:(List (Int × Int)) × Int × Int) (M:zhI F x2=some r) :
    Ret Tryz.prog 6 #[s1] w0 (G:=Value) (λg1=>.tuple #[g1,Iv r.2.1,Iv r.2.2]) (λg1 w=>St w0 w noX [] [sE45 g1 r.1]):=by
 unfold zhI at M; refine roW Tryz.func6 C C C (λa H=>?_); have X:St w0 w0 noX [rE27 s1 x2] []:=Sbw (lnc (lendRd h_s1) lnn); refine sg (l:=[0,1,2,3]) C<|O.box (cs:=#[s1]) H X C C C (rdc (X.b 0 C))<|?_; intro b3 w a hb3 X H; refine mv2 H C C λa H=>mv H C λa H=>nk<|W.seq<|sg (l:=[0,1,2]) C<|ov (v:=s1) H C (Z.load1 zhg C (X.p 0 C) C) λa H=>?_; obtain ⟨x4,hx4,M⟩:=hm_b M; refine oc H C zjT (zhB F s1 x2 _ (X.b 0 C) x4 hx4) ?_; rintro _ w Y a H; replace X:=X.cl Y; refine mv H C λa H=>nk<|sg (l:=[0,1]) C<|mv H C λa H=>ov H C (Z.neq C C) λa H=>nk<|?_; refine W.ifdI H C (λhc5=>?_) (λhc5=>?_)
 ·replace M:=hm_p M hc5; refine sg (l:=[0,1,2,3]) C<|mv2 H C C λa H=>mv2 H C C λa H=>nk<|W.ret<|ktr<|?_; replace X:=X.nilE 45 2 E45; obtain rfl:=oj M; refine post3 H C (rkt C) (rkt C) (rkt C) ?_; replace X:=X.nilE 45 2 E45; replace X:=X.sl [1]; exact ⟨(.slice none 0 0),C,X.noB⟩
 ·replace M:=hm_n M hc5; refine W.skip<|ksq<|sg (l:=[0,1,2]) C<|O.makeMemo 45 2 E45 (bestN F F x2) H X C C<|?_; intro b6 w a X H; refine O.alloc (cs:=#[.map none]) H X C C zkh C ?_; intro b7 w a hb7 X H; refine ost 0 #[.map (some b6)] H X C C C zkf C C C (bl C) C ?_; intro w X; refine nk<|sg (l:=[0]) C<|O.alloc (cs:=#[.nilFunc]) H X C C zki C<|?_; intro b8 w a hb8 X H; refine nk<|sg (l:=[0,1]) C<|ov (v:=.func (.func 15) #[] #[Pv b7 0,Pv b3 0,Pv b8 0]) H C (Z.makeFunc C C C C) λa H=>ost 0 #[.func (.func 15) #[] #[Pv b7 0,Pv b3 0,Pv b8 0]] H X C C C zkg C C C (bl C) C<|?_; intro w X; refine nk<|sg (l:=[0,1,2,3]) C<|ov H C (Z.load1 zjN C (X.p 0 C) C) λa H=>?_; obtain ⟨x9,hx9,M⟩:=hm_b M; refine oc H C zjU (zeU F 0 (-5000000000000000) b7 b6 ([]) b3 s1 x2 b8 _ (X.b 0 C) (X.lentAt (i:=2) C) (X.p 1 C) (X.p 3 C) (X.p 0 C) (X.apart (i:=2) (j:=0) C C) (X.apMM (i:=2) (j:=1) C C (by decide)) (X.apMM (i:=2) (j:=3) C C (by decide)) (X.apMM (i:=2) (j:=0) C C (by decide)) x9 hx9) ?_; rintro ⟨s10,s11⟩ w Y a H; replace X:=X.cz Y 2 λ_ h=>h; refine O.alloc (cs:=#[.slice none 0 0,Iv 0,Iv 0]) H X C C zbj C ?_; intro b12 w a hb12 X H; refine ost 0 #[s10,Iv x9.2.1,Iv x9.2.2] H X C C C zbn C (occ (rdo (X.memRd (i:=2) (j:=1) C C)) (occ C (occ C C))) C (bl C) C ?_; intro w X; refine nk ?_; replace X:=X.sl [1,1,1]; refine W.seq<|W.drawQ (λw=>St w0 w noX [rE27 s1 x2] [pt b12 (Cs #[s10,Iv x9.2.1,Iv x9.2.2] 57),memIn (bestN F F x2) s11 s10 x9.1,memoA 45 2 E45 (bestN F F x2) b6 s11]) P_mixed C (by kernel_rfl) C X.drew<|?_; clear X; (try clear w); refine OQ.val (v:=Pv b12 0) H C (λw X=>Z.field zcn C C) λa H=>OQ.val (v:=s10) H C (λw X=>Z.load1 zeA C (X.p 0 C) C) λa H=>OQ.val (v:=Pv b12 2) H C (λw X=>Z.field zcY C C) λa H=>OQ.val (v:=Iv x9.2.2) H C (λw X=>Z.load1 zax C (X.p 0 C) C) λa H=>OQ.val (v:=s10) H C (λw X=>Z.assign C) λa H=>OQ.val (v:=Iv x9.2.2) H C (λw X=>Z.assign C) λa H=>OQ.val (v:=Iv 0) H C (λw X=>Z.assign C) λa H=>?_; refine OQ.nil ?_; intro w X; refine ksq ?_; replace X:=X.sl [0,1,1]; refine W.ret ?_; replace X:=X.memOwn (i:=1) (j:=0) (M':=[memIn (bestN F F x2) s11 s10 x9.1,sE45 s10 x9.1]) C C C; obtain rfl:=oj M; refine post3 H C (rkt C) (rkt C) (rkt C) ?_; replace X:=X.sl [0,1]; exact ⟨s10,C,X.noB⟩
def zfi (F:Nat) (x1:Int) (x4:List (Int × Int × Int × Int)):Option Bool :=
  some ((decide (x1<(0:Int)))||(decide (x1≥((x4.length:Int):Int))))
theorem zia (F:Nat) (x1:Int) (b2:Nat) (s3:Value) (x4:List (Int × Int × Int × Int)) (w0:World) (h_s3:rdEOK (hp w0) 4 E27 s3 x4) (h_b2:w0.heap[b2]? = some (.cells #[s3] 28 (0,0))) (r:Bool) (M:zfi F x1 x4=some r) :
    Ret Tryz.prog 32 #[Iv x1,Pv b2 0] w0 (G:=Unit) (λ_=>Bv r) (λ_ w=>St w0 w noX [] []):=by
 unfold zfi at M; refine roW Tryz.func32 C C C (λa H=>?_); have X:St w0 w0 noX [rE27 s3 x4,pt b2 (Cs #[s3] 28)] []:=Sbw (lnc (lendRd h_s3) (lnc (lendPt h_b2) lnn)); refine sg (l:=[0]) C<|mv H C λa H=>nk<|sg (l:=[0,1,2,3,4,5,6,7,8]) C<|mv H C λa H=>ov H C (Z.lss C C) λa H=>mv H C λa H=>?_; refine O.cutN (l₁:=[3,4,5,6,7]) (l₂:=_) (λa w=>Fr a 12 [] [(3,Bv false),(11,Bv ((decide (x1<(0:Int)))||(decide (x1≥((x4.length:Int):Int)))))]∧St w0 w noX [rE27 s3 x4,pt b2 (Cs #[s3] 28)] []) C ?_ ?_
 ·rcases Bool.eq_false_or_eq_true (decide (x1<(0:Int))) with hb5 | hb5
  ·refine sk H C hb5 λa H=>sk H C hb5 λa H=>sk H C hb5 λa H=>sk H C hb5 λa H=>?_; refine ov (v:=Bv ((decide (x1<(0:Int)))||(decide (x1≥((x4.length:Int):Int))))) H C (Z.pick C C C (by rw [hb5]; rfl)) ?_; clear H a; intro a H; exact O.nil ⟨C,H.q C,X⟩
  ·refine og H C hb5 (Z.move C) λa H=>og (v:=s3) H C hb5 (Z.load1 zhg C (X.bptAt (i:=1) C) C) λa H=>og (v:=Iv (x4.length:Int)) H C hb5 (Z.lenE (e:=27) (by simpa using zeB) C (X.b 0 C)) λa H=>og H C hb5 (Z.geq C C) λa H=>?_; refine ov (v:=Bv ((decide (x1<(0:Int)))||(decide (x1≥((x4.length:Int):Int))))) H C (Z.pick C C C (by rw [hb5]; rfl)) ?_; clear H a; intro a H; exact O.nil ⟨C,H.q C,X⟩
 clear H X a; (try clear w); rintro a w ⟨H,X⟩; refine mv H C λa H=>nk<|W.ret<|?_; obtain rfl:=oj M; refine post1 H C (rkt C) ?_; exact ⟨(),C,X.noB⟩
def zbd (F:Nat) :Option Int :=
  some (-1)
def zbe (F:Nat) (x2:List Int) (x5:List (Int × Int × Int × Int)) (rec7:Int→Option Int) (x6:Int):Option Int :=
  if x6<((x2.length:Int):Int) then ((idx x2 x6).bind λx9=>(zfi F x9 x5).bind λx10=>if (x10)=true then (some x6) else (rec7 (i64.wrap (x6+1)))) else (zbd F)
def zaB (F:Nat) (x2:List Int) (x5:List (Int × Int × Int × Int)):Nat→Int→Option Int
  | 0,_=>none
  | n+1,x6=>zbe F x2 x5 (zaB F x2 x5 n) x6
def zbl (F:Nat) (x2:List Int) (x5:List (Int × Int × Int × Int)):Option Int :=
  zaB F x2 x5 F 0
theorem zdz (F:Nat) (s1:Value) (x2:List Int) (b3:Nat) (s4:Value) (x5:List (Int × Int × Int × Int)) (w0:World) (h_s1:rdEOK (hp w0) 1 E3 s1 x2) (h_s4:rdEOK (hp w0) 4 E27 s4 x5) (h_b3:w0.heap[b3]? = some (.cells #[s4] 28 (0,0))) (r:Int) (M:zbl F x2 x5=some r) :
    Ret Tryz.prog 53 #[s1,.func (.func 32) #[] #[Pv b3 0]] w0 (G:=Unit) (λ_=>Iv r) (λ_ w=>St w0 w noX [] []):=by
 unfold zbl at M; refine roW Tryz.func53 C C C (λa H=>?_); have X:St w0 w0 noX [rdE 1 E3 s1 x2,rE27 s4 x5,pt b3 (Cs #[s4] 28)] []:=Sbw (lnc (lendRd h_s1) (lnc (lendRd h_s4) (lnc (lendPt h_b3) lnn))); refine sg (l:=[0]) C<|mv H C λa H=>nk<|?_; refine W.seqR (λa w=>Fr a 19 [] [(4,Iv 0)]∧St w0 w noX [rdE 1 E3 s1 x2,rE27 s4 x5,pt b3 (Cs #[s4] 28)] []∧zbd F=some r) ?_ ?_
 ·refine sg (l:=[0,1,2]) C<|mv H C λa H=>ov (v:=Iv (x2.length:Int)) H C (Z.lenE (e:=3) (by simpa using zaI) C (X.b 0 C)) λa H=>mv H C λa H=>nk<|?_; refine W.block<|W.loop (G:=Nat × Int) (λg a w=>match g with | (k7,x6)=>Fr a 19 [] [(0,s1),(1,.func (.func 32) #[] #[Pv b3 0]),(4,Iv 0),(7,Iv (x2.length:Int)),(8,Iv x6)]∧St w0 w noX [rdE 1 E3 s1 x2,rE27 s4 x5,pt b3 (Cs #[s4] 28)] []∧zaB F x2 x5 k7 x6=some r) (λg=>match g with | (k7,x6)=>k7) (F,0) ⟨H.q C,X,M⟩<|?_; clear H X M a; (try clear w); rintro ⟨k7,x6⟩ a w ⟨H,X,M⟩
  rcases k7 with _ | k7
  · nomatch M
  replace M:zbe F x2 x5 (zaB F x2 x5 k7) x6=some r:=M; obtain ⟨rec7,hrec7⟩:∃ f,f=zaB F x2 x5 k7:=⟨_,C⟩; rw [← hrec7] at M; unfold zbe at M; refine sg (l:=[0]) C<|ov H C (Z.lss C C) λa H=>nk<|W.seq<|?_; refine W.ifdI H C (λhc8=>?_) (λhc8=>?_)
  ·replace M:=hm_p M hc8; refine W.skip<|ksq<|W.seq<|W.block<|sg (l:=[0,1]) C<|mv2 H C C λa H=>nk<|sg (l:=[0,1,2,3,4,5]) C<|mv H C λa H=>?_; refine mv2 H C C λa H=>?_; obtain ⟨x9,hx9,M⟩:=hm_b M; refine ov H C (Z.ixE zaI za3 C C (X.b 0 C) hx9) λa H=>ov H C (Z.ldE1 (o:=0) zax E3_len C (X.b 0 C) hx9 C C) λa H=>?_; obtain ⟨x10,hx10,M⟩:=hm_b M; refine oc H C zkQ (zia F x9 b3 s4 x5 _ (X.b 1 C) (X.bptAt (i:=2) C) x10 hx10) ?_; rintro _ w Y a H; replace X:=X.cl Y; refine nk ?_; refine W.if_ H C (λhc11=>?_) (λhc11=>?_)
   ·replace M:=hm_t M hc11; refine sg (l:=[0,1]) C<|mv2 H C C λa H=>nk<|W.ret<|kbr<|ktr<|ktr<|kbr<|ktr<|?_; obtain rfl:=oj M; refine post1 H C (rkt C) ?_; exact ⟨(),C,X.noB⟩
   ·replace M:=hm_f M hc11; refine W.skip<|kbn<|ksq<|wrL (l:=[0,1]) C<|ov H C (Z.add C C) λa H=>mv H C λa H=>O.nil<|?_; refine kth ⟨(k7,i64.wrap (x6+1)),⟨H.q C,X,?_⟩,Nat.lt_succ_self _⟩; rw [hrec7] at M; exact M
  ·replace M:=hm_n M hc8; refine W.exit<|kte<|kte<|kbk<|?_; exact kth ⟨H.q C,X,M⟩
 ·clear H X M a; (try clear w); rintro a w ⟨H,X,M⟩; unfold zbd at M; refine sg (l:=[0]) C<|mv H C λa H=>nk<|W.ret<|?_; obtain rfl:=oj M; refine post1 H C (rkt C) ?_; exact ⟨(),C,X.noB⟩
def zbf (F:Nat) (x2:List Int) (x5:List (Int × Int × Int × Int)):Option Bool :=
  (zbl F x2 x5).bind λx6=>some (decide (x6≥(0:Int)))
theorem zc7 (F:Nat) (s1:Value) (x2:List Int) (b3:Nat) (s4:Value) (x5:List (Int × Int × Int × Int)) (w0:World) (h_s1:rdEOK (hp w0) 1 E3 s1 x2) (h_s4:rdEOK (hp w0) 4 E27 s4 x5) (h_b3:w0.heap[b3]? = some (.cells #[s4] 28 (0,0))) (r:Bool) (M:zbf F x2 x5=some r) :
    Ret Tryz.prog 31 #[s1,.func (.func 32) #[] #[Pv b3 0]] w0 (G:=Unit) (λ_=>Bv r) (λ_ w=>St w0 w noX [] []):=by
 unfold zbf at M; refine roW Tryz.func31 C C C (λa H=>?_); have X:St w0 w0 noX [rdE 1 E3 s1 x2,rE27 s4 x5,pt b3 (Cs #[s4] 28)] []:=Sbw (lnc (lendRd h_s1) (lnc (lendRd h_s4) (lnc (lendPt h_b3) lnn))); refine sg (l:=[0]) C<|mv H C λa H=>nk<|sg (l:=[0,1,2,3,4]) C<|mv2 H C C λa H=>?_; obtain ⟨x6,hx6,M⟩:=hm_b M; refine oc H C zkY (zdz F s1 x2 b3 s4 x5 _ (X.b 0 C) (X.b 1 C) (X.bptAt (i:=2) C) x6 hx6) ?_; rintro _ w Y a H; replace X:=X.cl Y; refine ov H C (Z.geq C C) λa H=>mv H C λa H=>nk<|W.ret<|?_; obtain rfl:=oj M; refine post1 H C (rkt C) ?_; exact ⟨(),C,X.noB⟩
def zdC (F:Nat) (x2:List Int):Option (List Int) :=
  if (([]:List Int).length:Int)≤4294967296 then if (x2.length:Int)≤4294967296 then some (([]:List Int)++x2) else none else none
theorem zha (F:Nat) (s1:Value) (x2:List Int) (w0:World) (h_s1:rdEOK (hp w0) 1 E3 s1 x2) (r:List Int) (M:zdC F x2=some r) :
    Ret Tryz.prog 33 #[s1] w0 (G:=Value) (λg1=>g1) (λg1 w=>St w0 w noX [] [sE3 g1 r]):=by
 unfold zdC at M; refine roW Tryz.func33 C C C (λa H=>?_); have X:St w0 w0 noX [rdE 1 E3 s1 x2] []:=Sbw (lnc (lendRd h_s1) lnn); refine sg (l:=[0]) C<|mv H C λa H=>nk<|W.seq<|sg (l:=[0,1]) C<|mv H C λa H=>?_
 rcases nil_or (X.b 0 C) with ⟨_,hn3,hl⟩ | ⟨_,_,_,hn3⟩
 ·refine ov (v:=.bool true) H C (Z.eqNil1 zaI hn3 C C) λa H=>?_
  subst hl
  replace M:some []=some r:=by simpa using M
  refine nk<|W.if_tt H C<|sg (l:=[0]) C<|mv H C λa H=>nk<|W.ret<|ktr<|?_; replace X:=X.nilE 3 1 E3; obtain rfl:=oj M; refine post1 H C (rkt C) ?_; replace X:=X.nilE 3 1 E3; replace X:=X.sl [1]; exact ⟨(.slice none 0 0),C,X.noB⟩
 ·refine ov (v:=.bool false) H C (Z.eqNil2 zaI hn3 C C) λa H=>nk<|W.if_ff H C<|W.skip<|ksq<|sg (l:=[0,1,2,3]) C<|O.buildSlice0 H X C C zaI za3 C<|?_; intro b4 w a hb4 X H; obtain ⟨s5,hs5⟩:∃ v,v=Value.slice (some ⟨b4,0,none⟩) 0 0:=⟨_,C⟩; rw [← hs5] at H X; replace X:St w0 _ noX [rdE 1 E3 s1 x2] [sE3 s5 ([]:List Int)]:=X; refine mv H C λa H=>?_; obtain ⟨hg6,M⟩:=hm_g M; obtain ⟨hg7,M⟩:=hm_g M; refine O.appendEV (j:=0) (l':=([]:List Int)++x2) H X C C zaI za3 zkd ziL C C C C C (X.b 0 C) E3_one hg6 hg7 C C ?_; intro s8 w a X H; replace X:St w0 _ noX [rdE 1 E3 s1 x2] [sE3 s8 (([]:List Int)++x2)]:=X; refine mv H C λa H=>nk<|W.ret<|?_; obtain rfl:=oj M; refine post1 H C (rkt C) ?_; exact ⟨s8,C,X.noB⟩
def zgh (F:Nat) (x1:Int):Option Int :=
  (zdF F x1).bind λx2=>some x2
theorem ziu (F:Nat) (x1:Int) (w0:World) (r:Int) (M:zgh F x1=some r) :
    Ret Tryz.prog 55 #[Uv x1] w0 (G:=Unit) (λ_=>Iv r) (λ_ w=>St w0 w noX [] []):=by
 unfold zgh at M; refine roW Tryz.func55 C C C (λa H=>?_); have X:St w0 w0 noX [] []:=Sbw lnn; refine sg (l:=[0]) C<|mv H C λa H=>nk<|W.seq<|W.if_ff H C<|W.skip<|ksq<|sg (l:=[0,1,2]) C<|mv H C λa H=>?_; obtain ⟨x2,hx2,M⟩:=hm_b M; refine oc H C zj1 (zgc F x1 _ x2 hx2) ?_; rintro _ w Y a H; replace X:=X.cl Y; refine mv H C λa H=>nk<|W.ret<|?_; obtain rfl:=oj M; refine post1 H C (rkt C) ?_; exact ⟨(),C,X.noB⟩
def zew (F:Nat) (x1:Int):Option Bool :=
  some (decide (x1≠(x1:Int)))
theorem zgP (F:Nat) (x1:Int) (w0:World) (r:Bool) (M:zew F x1=some r) :
    Ret Tryz.prog 112 #[Iv x1] w0 (G:=Unit) (λ_=>Bv r) (λ_ w=>St w0 w noX [] []):=by
 unfold zew at M; refine roW Tryz.func112 C C C (λa H=>?_); have X:St w0 w0 noX [] []:=Sbw lnn; refine sg (l:=[0]) C<|mv H C λa H=>nk<|sg (l:=[0,1,2,3]) C<|mv2 H C C λa H=>ov H C (Z.neq C C) λa H=>mv H C λa H=>nk<|W.ret<|?_; obtain rfl:=oj M; refine post1 H C (rkt C) ?_; exact ⟨(),C,X.noB⟩
def zdG (F:Nat) (x1 x2:Int) (x4:Bool):Option Bool :=
  some (x4||(decide (x1<(x2:Int))))
def zgG (F:Nat) (x1 x2:Int):Option Bool :=
  (zew F x1).bind λx3=>if (x3)=true then ((zew F x2).bind λx7=>zdG F x1 x2 (!x7)) else (zdG F x1 x2 false)
theorem ziB (F:Nat) (x1 x2:Int) (w0:World) (r:Bool) (M:zgG F x1 x2=some r) :
    Ret Tryz.prog 80 #[Iv x1,Iv x2] w0 (G:=Unit) (λ_=>Bv r) (λ_ w=>St w0 w noX [] []):=by
 unfold zgG at M; refine roW Tryz.func80 C C C (λa H=>?_); have X:St w0 w0 noX [] []:=Sbw lnn; refine sg (l:=[0]) C<|mv H C λa H=>nk<|sg (l:=[0,1,2,3,4,5,6,7,8,9,10,11,12]) C<|mv H C λa H=>?_; obtain ⟨x3,hx3,M⟩:=hm_b M; refine oc H C zjz (zgP F x1 _ x3 hx3) ?_; rintro _ w Y a H; replace X:=X.cl Y; refine mv H C λa H=>?_; refine O.cutN (l₁:=[3,4,5,6]) (l₂:=_) (λa w=>∃ (x4:Bool),Fr a 17 [] [(0,Iv x1),(1,Iv x2),(4,Bv false),(11,Bv x4)]∧St w0 w noX [] []∧zdG F x1 x2 x4=some r) C ?_ ?_
 ·rcases Bool.eq_false_or_eq_true (x3) with hb6 | hb6
  ·replace M:=hm_t M hb6; refine og H C hb6 (Z.move C) λa H=>?_; obtain ⟨x7,hx7,M⟩:=hm_b M; refine O.gcallR H C C C hb6 C C (RunE.call (av:=#[Iv x2]) zjz C C C) (zgP F x2 _ x7 hx7) ?_; rintro _ w Y a H; replace X:=X.cl Y; refine og H C hb6 (Z.not C) λa H=>?_; refine ov (v:=Bv (!x7)) H C (Z.pick C C C (by rw [hb6]; rfl)) ?_; clear H a; intro a H; exact O.nil ⟨C,!x7,H.q C,X,M⟩
  ·replace M:=hm_f M hb6; refine sk H C hb6 λa H=>sk H C hb6 λa H=>sk H C hb6 λa H=>?_; refine ov (v:=Bv false) H C (Z.pick C C C (by rw [hb6]; rfl)) ?_; clear H a; intro a H; exact O.nil ⟨C,false,H.q C,X,M⟩
 clear H X M a; (try clear w); rintro a w ⟨x4,H,X,M⟩; unfold zdG at M; refine mv H C λa H=>?_; refine O.cutN (l₁:=[8,9,10,11]) (l₂:=_) (λa w=>Fr a 17 [] [(4,Bv false),(16,Bv (x4||(decide (x1<(x2:Int)))))]∧St w0 w noX [] []) C ?_ ?_
 ·rcases Bool.eq_false_or_eq_true (x4) with hb5 | hb5
  ·refine sk H C hb5 λa H=>sk H C hb5 λa H=>sk H C hb5 λa H=>?_; refine ov (v:=Bv (x4||(decide (x1<(x2:Int))))) H C (Z.pick C C C (by rw [hb5]; rfl)) ?_; clear H a; intro a H; exact O.nil ⟨C,H.q C,X⟩
  ·refine og H C hb5 (Z.move C) λa H=>og H C hb5 (Z.move C) λa H=>og H C hb5 (Z.lss C C) λa H=>?_; refine ov (v:=Bv (x4||(decide (x1<(x2:Int))))) H C (Z.pick C C C (by rw [hb5]; rfl)) ?_; clear H a; intro a H; exact O.nil ⟨C,H.q C,X⟩
 clear H X a; (try clear w); rintro a w ⟨H,X⟩; refine mv H C λa H=>nk<|W.ret<|?_; obtain rfl:=oj M; refine post1 H C (rkt C) ?_; exact ⟨(),C,X.noB⟩
def zbq (F:Nat) (rec7:(List Int)→Int→Option (List Int)) (x6:Int) (x9:List Int) (x10:Int):Option (List Int) :=
  rec7 x9 (i64.wrap (x6+1))
def za6 (F:Nat) (x11:List Int) (x12:Int) (rec13 rec7:(List Int)→Int→Option (List Int)) (x6:Int) (x14:Bool):Option (List Int) :=
  if (x14)=true then ((idx x11 (i64.wrap (x12-1))).bind λx16=>(idx x11 x12).bind λx17=>(idx (x11.set (Int.toNat x12) x16) (i64.wrap (x12-1))).bind λx18=>rec13 ((x11.set (Int.toNat x12) x16).set (Int.toNat (i64.wrap (x12-1))) x17) (i64.wrap (x12-1))) else (zbq F rec7 x6 x11 x12)
def zbr (F:Nat) (x3:Int) (rec7:(List Int)→Int→Option (List Int)) (x6:Int) (rec13:(List Int)→Int→Option (List Int)) (x11:List Int) (x12:Int):Option (List Int) :=
  if x12>(x3:Int) then ((idx x11 x12).bind λx20=>(idx x11 (i64.wrap (x12-1))).bind λx21=>(zgG F x20 x21).bind λx22=>za6 F x11 x12 rec13 rec7 x6 x22) else (za6 F x11 x12 rec13 rec7 x6 false)
def zaO (F:Nat) (x3:Int) (rec7:(List Int)→Int→Option (List Int)) (x6:Int):Nat→(List Int)→Int→Option (List Int)
  | 0,_,_=>none
  | n+1,x11,x12=>zbr F x3 rec7 x6 (zaO F x3 rec7 x6 n) x11 x12
def zbs (F:Nat) (x4 x3:Int) (rec7:(List Int)→Int→Option (List Int)) (x5:List Int) (x6:Int):Option (List Int) :=
  if x6<(x4:Int) then (zaO F x3 rec7 x6 F x5 x6) else (some x5)
def zaP (F:Nat) (x4 x3:Int):Nat→(List Int)→Int→Option (List Int)
  | 0,_,_=>none
  | n+1,x5,x6=>zbs F x4 x3 (zaP F x4 x3 n) x5 x6
def zbC (F:Nat) (x2:List Int) (x3 x4:Int):Option (List Int) :=
  zaP F x4 x3 F x2 (i64.wrap (x3+1))
theorem zek (F:Nat) (s1:Value) (x2:List Int) (x3 x4:Int) (w0:World) (h_s1:slOK (hp w0) 3 1 s1 x2.length (encs E3 x2)) (r:List Int) (M:zbC F x2 x3 x4=some r) :
    Ret Tryz.prog 74 #[s1,Iv x3,Iv x4] w0 (G:=Unit) (λ_=>.tuple #[]) (λ_ w=>St w0 w (λk=>s1.ownBlock=some k) [] [sE3 s1 r]):=by
 unfold zbC at M; refine roW Tryz.func74 C C C (λa H=>?_); have X:St w0 w0 (λk=>s1.ownBlock=some k) [] [sE3 s1 x2]:=St.ownE h_s1 lnn (apAll_nil (q:=sE3 s1 x2)); refine sg (l:=[0,1,2]) C<|mv H C λa H=>ov H C (Z.add C C) λa H=>mv H C λa H=>nk<|?_; refine W.block<|W.loop (G:=Nat × (List Int) × Int) (λg a w=>match g with | (k7,x5,x6)=>Fr a 49 [] [(0,s1),(1,Iv x3),(2,Iv x4),(6,Iv x6)]∧St w0 w (λk=>s1.ownBlock=some k) [] [sE3 s1 x5]∧zaP F x4 x3 k7 x5 x6=some r) (λg=>match g with | (k7,x5,x6)=>k7) (F,x2,i64.wrap (x3+1)) ⟨H.q C,X,M⟩<|?_; clear H X M a; (try clear w); rintro ⟨k7,x5,x6⟩ a w ⟨H,X,M⟩
 rcases k7 with _ | k7
 · nomatch M
 replace M:zbs F x4 x3 (zaP F x4 x3 k7) x5 x6=some r:=M; obtain ⟨rec7,hrec7⟩:∃ f,f=zaP F x4 x3 k7:=⟨_,C⟩; rw [← hrec7] at M; unfold zbs at M; refine W.seq<|sg (l:=[0,1,2]) C<|mv2 H C C λa H=>ov H C (Z.lss C C) λa H=>nk<|?_; refine W.ifdI H C (λhc8=>?_) (λhc8=>?_)
 ·replace M:=hm_p M hc8; refine W.skip<|ksq<|?_; refine W.seqR (λa w=>∃ (x9:List Int) (x10:Int),Fr a 49 [] [(0,s1),(1,Iv x3),(2,Iv x4),(6,Iv x6),(7,Iv x10)]∧St w0 w (λk=>s1.ownBlock=some k) [] [sE3 s1 x9]∧zbq F rec7 x6 x9 x10=some r) ?_ ?_
  ·refine W.block<|sg (l:=[0,1]) C<|mv2 H C C λa H=>nk<|?_; refine W.block<|W.loop (G:=Nat × (List Int) × Int) (λg a w=>match g with | (k13,x11,x12)=>Fr a 49 [] [(0,s1),(1,Iv x3),(2,Iv x4),(6,Iv x6),(7,Iv x12)]∧St w0 w (λk=>s1.ownBlock=some k) [] [sE3 s1 x11]∧zaO F x3 rec7 x6 k13 x11 x12=some r) (λg=>match g with | (k13,x11,x12)=>k13) (F,x5,x6) ⟨H.q C,X,M⟩<|?_; clear H X M a; (try clear w); rintro ⟨k13,x11,x12⟩ a w ⟨H,X,M⟩
   rcases k13 with _ | k13
   · nomatch M
   replace M:zbr F x3 rec7 x6 (zaO F x3 rec7 x6 k13) x11 x12=some r:=M; obtain ⟨rec13,hrec13⟩:∃ f,f=zaO F x3 rec7 x6 k13:=⟨_,C⟩; rw [← hrec13] at M; unfold zbr at M; refine W.seq ?_; refine W.seqR (λa w=>∃ (x14:Bool),Fr a 49 [] [(0,s1),(1,Iv x3),(2,Iv x4),(6,Iv x6),(7,Iv x12),(30,Bv x14)]∧St w0 w (λk=>s1.ownBlock=some k) [] [sE3 s1 x11]∧za6 F x11 x12 rec13 rec7 x6 x14=some r) ?_ ?_
   ·rcases Bool.eq_false_or_eq_true (decide (x12>(x3:Int))) with hb19 | hb19
    ·have hb19p:=of_decide_eq_true hb19; replace M:=hm_p M hb19p; obtain ⟨x20,hx20,M⟩:=hm_b M; obtain ⟨x21,hx21,M⟩:=hm_b M; obtain ⟨x22,hx22,M⟩:=hm_b M; refine W.drawQ (λw=>St w0 w (λk=>s1.ownBlock=some k) [] [sE3 s1 x11]) P_mixed C (by kernel_rfl) C X.drew ?_; clear X; (try clear w); refine OQ.val (v:=Iv x12) H C (λw X=>Z.move C) λa H=>OQ.val (v:=Iv x3) H C (λw X=>Z.move C) λa H=>OQ.val (v:=Bv (decide (x12>(x3:Int)))) H C (λw X=>Z.gtr C C) λa H=>OQ.val (v:=Bv (decide (x12>(x3:Int)))) H C (λw X=>Z.move C) λa H=>OQ.gval (v:=s1) H C C hb19 C (λw X=>Z.move C) λa H=>OQ.gval (v:=Iv x12) H C C hb19 C (λw X=>Z.move C) λa H=>OQ.gval (v:=ix s1 (Int.toNat x12*1)) H C C hb19 C (λw X=>Z.ixE zaI za3 C C (X.s 0 C) hx20) λa H=>OQ.gval (v:=Iv x20) H C C hb19 C (λw X=>Z.ldE1 (o:=0) zax E3_len C (X.s 0 C) hx20 C C) λa H=>OQ.gval (v:=s1) H C C hb19 C (λw X=>Z.move C) λa H=>OQ.gval (v:=Iv x12) H C C hb19 C (λw X=>Z.move C) λa H=>?_; refine OQ.gval (v:=Iv (i64.wrap (x12-1))) H C C hb19 C (λw X=>Z.sub C C) λa H=>OQ.gval (v:=ix s1 (Int.toNat (i64.wrap (x12-1))*1)) H C C hb19 C (λw X=>Z.ixE zaI za3 C C (X.s 0 C) hx21) λa H=>OQ.gval (v:=Iv x21) H C C hb19 C (λw X=>Z.ldE1 (o:=0) zax E3_len C (X.s 0 C) hx21 C C) λa H=>OQ.gcallRq (v:=Bv x22) H C C hb19 C (λw X=>RunE.call (av:=#[Iv x20,Iv x21]) zla C C C) (λw X=>ziB F x20 x21 _ x22 hx22) λa H=>?_; refine OQ.val (v:=Bv x22) H C (λw X=>Z.pick C C C (by rw [hb19]; rfl)) ?_; clear H a; intro a H; refine OQ.nil ?_; intro w X; exact kth ⟨x22,H.q C,X,M⟩
    ·have hb19p:=of_decide_eq_false hb19; replace M:=hm_n M hb19p; refine W.drawQ (λw=>St w0 w (λk=>s1.ownBlock=some k) [] [sE3 s1 x11]) P_mixed C (by kernel_rfl) C X.drew ?_; clear X; (try clear w); refine OQ.val (v:=Iv x12) H C (λw X=>Z.move C) λa H=>OQ.val (v:=Iv x3) H C (λw X=>Z.move C) λa H=>OQ.val (v:=Bv (decide (x12>(x3:Int)))) H C (λw X=>Z.gtr C C) λa H=>OQ.val (v:=Bv (decide (x12>(x3:Int)))) H C (λw X=>Z.move C) λa H=>OQ.skipB H C C hb19 C λa H=>OQ.skipB H C C hb19 C λa H=>OQ.skipB H C C hb19 C λa H=>OQ.skipB H C C hb19 C λa H=>OQ.skipB H C C hb19 C λa H=>OQ.skipB H C C hb19 C λa H=>?_; refine OQ.skipB H C C hb19 C λa H=>OQ.skipB H C C hb19 C λa H=>OQ.skipB H C C hb19 C λa H=>OQ.skipB H C C hb19 C λa H=>?_; refine OQ.val (v:=Bv false) H C (λw X=>Z.pick C C C (by rw [hb19]; rfl)) ?_; clear H a; intro a H; refine OQ.nil ?_; intro w X; exact kth ⟨false,H.q C,X,M⟩
   ·clear H X M a; (try clear w); rintro a w ⟨x14,H,X,M⟩; unfold za6 at M; refine W.if_ H C (λhc15=>?_) (λhc15=>?_)
    ·replace M:=hm_t M hc15; refine W.skip<|ksq<|W.seq<|W.block<|?_; have J:Fr a 49 [] []:=H.to trivial; obtain ⟨x16,hx16,M⟩:=hm_b M; obtain ⟨x17,hx17,M⟩:=hm_b M; obtain ⟨x18,hx18,M⟩:=hm_b M; refine W.drawK (γ:=Unit) (L0:=[(0,s1),(1,Iv x3),(2,Iv x4),(6,Iv x6),(7,Iv x12)]) (L1:=[]) () [15,17] [] [0,1,2,3,4,5,6,7,8,9,10,11,12,13,14,16] (λi=>match i with | 4=>[3] | 7=>[6] | 8=>[5,7] | 9=>[8] | 12=>[10,11] | 13=>[12] | 14=>[0,1,5,6,7,8,9,13] | 15=>[0,1,5,6,7,8,9,13,14] | 16=>[0,1,2,3,4,5,6,7,8,9,10,11,12,13,14,15] | 17=>[0,1,2,3,4,5,6,7,8,9,10,11,12,13,14,15,16] | _=>[]) (λ_=>[]) (λi=>match i with | 15=>[16,17] | _=>[]) (λ_=>[]) (λi=>match i with | 16=>1 | 17=>1 | _=>0) (λi=>match i with | 2=>1 | 3=>1 | 4=>1 | 15=>1 | 16=>1 | 17=>2 | _=>0) (λ(g:Unit) j=>match j with | 0=>s1 | 1=>Iv x12 | 2=>s1 | 3=>Iv x12 | 4=>Iv (i64.wrap (x12-1)) | 5=>s1 | 6=>Iv x12 | 7=>Iv (i64.wrap (x12-1)) | 8=>ix s1 (Int.toNat (i64.wrap (x12-1))*1) | 9=>Iv x16 | 10=>s1 | 11=>Iv x12 | 12=>ix s1 (Int.toNat x12*1) | 13=>Iv x17 | 14=>ix s1 (Int.toNat x12*1) | 16=>ix s1 (Int.toNat (i64.wrap (x12-1))*1) | _=>undef) (λk s (g:Unit) w=>match k with | 0=>St w0 w (λk=>s1.ownBlock=some k) [] [sE3 s1 x11] | 1=>St w0 w (λk=>s1.ownBlock=some k) [] [sE3 s1 (x11.set (Int.toNat x12) x16)] | _=>St w0 w (λk=>s1.ownBlock=some k) [] [sE3 s1 ((x11.set (Int.toNat x12) x16).set (Int.toNat (i64.wrap (x12-1))) x17)]) P_mixed (by kernel_rfl) (H.q C) J X.drew ?_ ?_ ?_ ?_
     ·clear H J X; refine ⟨λk s g w _ _ _ X a H=>Q.val (v:=s1) C C C X H (Z.move C),λk s g w _ _ _ X a H=>Q.val (v:=Iv x12) C C C X H (Z.move C),λk s g w _ _ _ X a H=>Q.val (v:=s1) C C C X H (Z.move C),λk s g w _ _ _ X a H=>Q.val (v:=Iv x12) C C C X H (Z.move C),λk s g w _ _ _ X a H=>Q.val (v:=Iv (i64.wrap (x12-1))) C C C X H (Z.sub C C),λk s g w _ _ _ X a H=>Q.val (v:=s1) C C C X H (Z.move C),λk s g w _ _ _ X a H=>Q.val (v:=Iv x12) C C C X H (Z.move C),λk s g w _ _ _ X a H=>Q.val (v:=Iv (i64.wrap (x12-1))) C C C X H (Z.sub C C),?_,?_,λk s g w _ _ _ X a H=>Q.val (v:=s1) C C C X H (Z.move C),λk s g w _ _ _ X a H=>Q.val (v:=Iv x12) C C C X H (Z.move C),?_,?_,?_,?_,trivial⟩
      ·intro k s g w h1_ h2_ hsp X a H
       rcases k with _ | k
       ·exact Q.val (v:=ix s1 (Int.toNat (i64.wrap (x12-1))*1)) C C C X H (Z.ixE zaI za3 C C (X.s 0 C) hx16)
       ·simp at h2_
      ·intro k s g w h1_ h2_ hsp X a H
       rcases k with _ | k
       ·exact Q.val (v:=Iv x16) C C C X H (Z.ldE1 (o:=0) zax E3_len C (X.s 0 C) hx16 C C)
       ·simp at h2_
      ·intro k s g w h1_ h2_ hsp X a H
       rcases k with _ | k
       ·exact Q.val (v:=ix s1 (Int.toNat x12*1)) C C C X H (Z.ixE zaI za3 C C (X.s 0 C) hx17)
       ·simp at h2_
      ·intro k s g w h1_ h2_ hsp X a H
       rcases k with _ | k
       ·exact Q.val (v:=Iv x17) C C C X H (Z.ldE1 (o:=0) zax E3_len C (X.s 0 C) hx17 C C)
       ·simp at h2_
      ·intro k s g w h1_ h2_ hsp X a H
       rcases k with _ | k
       ·exact Q.val (v:=ix s1 (Int.toNat x12*1)) C C C X H (Z.ixE zaI za3 C C (X.s 0 C) hx17)
       ·simp at h2_
      ·intro k s g w h1_ h2_ hsp X a H
       rcases k with _ | _ | k
       ·exact absurd h1_ (by decide)
       ·exact Q.val (v:=ix s1 (Int.toNat (i64.wrap (x12-1))*1)) C C C X H (Z.ixE zaI za3 C C (X.s 0 C) hx18)
       ·simp at h2_
     ·clear H J X; refine ⟨?_,?_,trivial⟩
      ·intro s g w hsp X a H; refine O.storeE (j:=0) (o:=0) (y0:=x16) (l':=x11.set (Int.toNat x12) x16) (M':=[sE3 s1 (x11.set (Int.toNat x12) x16)]) H X C C C za3 C C C E3_len hx17 C C C C ?_; intro w X; exact nG H ⟨(λd hd=>by cases (show none=some d from hd)),(λ_ _ _=>C),X⟩
      ·intro s g w hsp X a H; refine O.storeE (j:=0) (o:=0) (y0:=x17) (l':=(x11.set (Int.toNat x12) x16).set (Int.toNat (i64.wrap (x12-1))) x17) (M':=[sE3 s1 ((x11.set (Int.toNat x12) x16).set (Int.toNat (i64.wrap (x12-1))) x17)]) H X C C C za3 C C C E3_len hx18 C C C C ?_; intro w X; exact nG H ⟨(λd hd=>by cases (show none=some d from hd)),(λ_ _ _=>C),X⟩
     ·clear H J X; exact trivial
     clear H J X; intro s g a w hs H X; refine kbn<|ksq<|wrL (l:=[0,1,2]) C<|mv H C λa H=>ov H C (Z.sub C C) λa H=>mv H C λa H=>O.nil<|?_; refine kth ⟨(k13,(x11.set (Int.toNat x12) x16).set (Int.toNat (i64.wrap (x12-1))) x17,i64.wrap (x12-1)),⟨H.q C,X,?_⟩,Nat.lt_succ_self _⟩; rw [hrec13] at M; exact M
    ·replace M:=hm_f M hc15; refine W.exit<|kte<|kte<|kbk<|kbn<|?_; exact kth ⟨x11,x12,H.q C,X,M⟩
  ·clear H X M a; (try clear w); rintro a w ⟨x9,x10,H,X,M⟩; unfold zbq at M; refine wrL (l:=[0,1,2]) C<|mv H C λa H=>ov H C (Z.add C C) λa H=>mv H C λa H=>O.nil<|?_; refine kth ⟨(k7,x9,i64.wrap (x6+1)),⟨H.q C,X,?_⟩,Nat.lt_succ_self _⟩; rw [hrec7] at M; exact M
 ·replace M:=hm_n M hc8; refine W.exit<|kte<|kte<|kbk<|post_normal<|?_; obtain rfl:=oj M; refine post0 H C  ?_; exact ⟨(),C,X.noB⟩
def zbO (F:Nat) (x4 x3:Int) (x2:List Int) (rec6:Option (List Int)) :Option (List Int) :=
  if (i64.wrap (x4-x3))≤(12:Int) then ((zbC F x2 x3 x4).bind λx8=>some x8) else (none)
def za4 (F:Nat) (x4 x3:Int) (x2:List Int):Nat→Option (List Int)
  | 0=>none
  | n+1=>zbO F x4 x3 x2 (za4 F x4 x3 x2 n)
def zb6 (F:Nat) (x2:List Int) (x3 x4 x5:Int):Option (List Int) :=
  za4 F x4 x3 x2 F
theorem zfJ (F:Nat) (s1:Value) (x2:List Int) (x3 x4 x5:Int) (w0:World) (h_s1:slOK (hp w0) 3 1 s1 x2.length (encs E3 x2)) (r:List Int) (M:zb6 F x2 x3 x4 x5=some r) :
    Ret Tryz.prog 54 #[s1,Iv x3,Iv x4,Iv x5] w0 (G:=Unit) (λ_=>.tuple #[]) (λ_ w=>St w0 w (λk=>s1.ownBlock=some k) [] [sE3 s1 r]):=by
 unfold zb6 at M; refine roW Tryz.func54 C C C (λa H=>?_); have X:St w0 w0 (λk=>s1.ownBlock=some k) [] [sE3 s1 x2]:=St.ownE h_s1 lnn (apAll_nil (q:=sE3 s1 x2)); refine sg (l:=[0]) C<|mv H C λa H=>nk<|sg (l:=[0]) C<|mv H C λa H=>nk<|W.block<|W.loop (G:=Nat) (λg a w=>match g with | k6=>Fr a 134 [] [(0,s1),(1,Iv x3),(2,Iv x4),(3,Iv x5),(8,Bv true),(9,Bv true)]∧St w0 w (λk=>s1.ownBlock=some k) [] [sE3 s1 x2]∧za4 F x4 x3 x2 k6=some r) (λg=>match g with | k6=>k6) (F) ⟨H.q C,X,M⟩<|?_; clear H X M a; (try clear w); rintro k6 a w ⟨H,X,M⟩
 rcases k6 with _ | k6
 · nomatch M
 replace M:zbO F x4 x3 x2 (za4 F x4 x3 x2 k6)=some r:=M; obtain ⟨rec6,hrec6⟩:∃ f,f=za4 F x4 x3 x2 k6:=⟨_,C⟩; rw [← hrec6] at M; unfold zbO at M; refine W.block<|sg (l:=[0,1,2,3]) C<|mv2 H C C λa H=>ov H C (Z.sub C C) λa H=>mv H C λa H=>nk<|W.seq<|sg (l:=[0,1]) C<|mv H C λa H=>?_; refine ov H C (Z.leq C C) λa H=>nk<|?_; refine W.ifdI H C (λhc7=>?_) (λhc7=>?_)
 ·replace M:=hm_p M hc7; refine sg (l:=[0,1,2,3]) C<|mv2 H C C λa H=>mv H C λa H=>?_; obtain ⟨x8,hx8,M⟩:=hm_b M; refine oc H C zk9 (zek F s1 x2 x3 x4 _ (X.slS (j:=0) C) x8 hx8) ?_; rintro _ w Y a H; replace X:=X.cz Y 0 λ_ h=>h; refine nk<|W.ret<|ktr<|kbr<|ktr<|kbr<|?_; obtain rfl:=oj M; refine post0 H C  ?_; exact ⟨(),C,X.noB⟩
 ·replace M:=hm_n M hc7; refine W.skip<|ksq<|?_; nomatch M
def zdc (F:Nat) (x2:List Int):Option (List Int) :=
  (zgh F (u64.wrap (x2.length:Int))).bind λx3=>(zb6 F x2 0 (x2.length:Int) x3).bind λx4=>some x4
theorem zg4 (F:Nat) (s1:Value) (x2:List Int) (w0:World) (h_s1:slOK (hp w0) 3 1 s1 x2.length (encs E3 x2)) (r:List Int) (M:zdc F x2=some r) :
    Ret Tryz.prog 34 #[s1] w0 (G:=Unit) (λ_=>.tuple #[]) (λ_ w=>St w0 w (λk=>s1.ownBlock=some k) [] [sE3 s1 r]):=by
 unfold zdc at M; refine roW Tryz.func34 C C C (λa H=>?_); have X:St w0 w0 (λk=>s1.ownBlock=some k) [] [sE3 s1 x2]:=St.ownE h_s1 lnn (apAll_nil (q:=sE3 s1 x2)); refine sg (l:=[0,1,2]) C<|mv H C λa H=>ov (v:=Iv (x2.length:Int)) H C (Z.lenE (e:=3) (by simpa using zaI) C (X.s 0 C)) λa H=>mv H C λa H=>nk<|wrL (l:=[0,1,2,3,4,5]) C<|mv2 H C C λa H=>mv H C λa H=>ov (v:=Uv (u64.wrap (x2.length:Int))) H C (Z.conv zj6 zjk C) λa H=>?_; obtain ⟨x3,hx3,M⟩:=hm_b M; refine oc H C zk0 (ziu F (u64.wrap (x2.length:Int)) _ x3 hx3) ?_; rintro _ w Y a H; replace X:=X.cl Y; obtain ⟨x4,hx4,M⟩:=hm_b M; refine oc H C zkZ (zfJ F s1 x2 0 (x2.length:Int) x3 _ (X.slS (j:=0) C) x4 hx4) ?_; rintro _ w Y a H; replace X:=X.cz Y 0 λ_ h=>h; refine O.nil<|post_normal<|?_; obtain rfl:=oj M; refine post0 H C  ?_; exact ⟨(),C,X.noB⟩
def zb7 (F:Nat) (x2:List Int):Option (List Int) :=
  some x2
def zb8 (F:Nat) (rec5:Int→Option (List Int)) (x4:Int):Option (List Int) :=
  rec5 (i64.wrap (x4+1))
def zb9 (F:Nat) (x4:Int) (x2:List Int):Option (List Int) :=
  if sbd 0 x4 ((lcopy x2 (List.replicate (Int.toNat (x2.length:Int)-Int.toNat x4) (0:Int)) x4 (Int.toNat (x2.length:Int)-Int.toNat x4)).length:Int) then some (lsub (lcopy x2 (List.replicate (Int.toNat (x2.length:Int)-Int.toNat x4) (0:Int)) x4 (Int.toNat (x2.length:Int)-Int.toNat x4)) 0 x4) else none
def zca (F:Nat) (x2:List Int) (x4:Int) (rec12:Option (List Int)) :Option (List Int) :=
  if 1<(((lsub x2 x4 (x2.length:Int)).length:Int):Int) then (none) else (zb9 F x4 x2)
def zbh (F:Nat) (x2:List Int) (x4:Int):Nat→Option (List Int)
  | 0=>none
  | n+1=>zca F x2 x4 (zbh F x2 x4 n)
def zcb (F:Nat) (x2:List Int) (rec5:Int→Option (List Int)) (x4:Int):Option (List Int) :=
  if x4<((x2.length:Int):Int) then ((idx x2 x4).bind λx7=>(idx x2 (i64.wrap (x4-1))).bind λx8=>if x7=(x8:Int) then (if sbd x4 (x2.length:Int) (x2.length:Int) then zbh F x2 x4 F else none) else (zb8 F rec5 x4)) else (zb7 F x2)
def zbi (F:Nat) (x2:List Int):Nat→Int→Option (List Int)
  | 0,_=>none
  | n+1,x4=>zcb F x2 (zbi F x2 n) x4
def zcB (F:Nat) (x2:List Int):Option (List Int) :=
  if (x2.length:Int)<(2:Int) then (some x2) else (zbi F x2 F 1)
theorem zgk (F:Nat) (s1:Value) (x2:List Int) (w0:World) (h_s1:slOK (hp w0) 3 1 s1 x2.length (encs E3 x2)) (r:List Int) (M:zcB F x2=some r) :
    Ret Tryz.prog 35 #[s1] w0 (G:=Value) (λg1=>g1) (λg1 w=>St w0 w (λk=>s1.ownBlock=some k) [] [sE3 g1 r]):=by
 unfold zcB at M; refine roW Tryz.func35 C C C (λa H=>?_); have X:St w0 w0 (λk=>s1.ownBlock=some k) [] [sE3 s1 x2]:=St.ownE h_s1 lnn (apAll_nil (q:=sE3 s1 x2)); refine sg (l:=[0]) C<|mv H C λa H=>nk<|W.seq<|sg (l:=[0,1,2]) C<|mv H C λa H=>ov (v:=Iv (x2.length:Int)) H C (Z.lenE (e:=3) (by simpa using zaI) C (X.s 0 C)) λa H=>ov H C (Z.lss C C) λa H=>nk<|?_; refine W.ifdI H C (λhc3=>?_) (λhc3=>?_)
 ·replace M:=hm_p M hc3; refine sg (l:=[0,1]) C<|mv2 H C C λa H=>nk<|W.ret<|ktr<|?_; obtain rfl:=oj M; refine post1 H C (rkt C) ?_; exact ⟨s1,C,X.noB⟩
 ·replace M:=hm_n M hc3; refine W.skip<|ksq<|?_; refine W.seqR (λa w=>Fr a 61 [] [(0,s1),(2,.slice none 0 0)]∧St w0 w (λk=>s1.ownBlock=some k) [] [sE3 s1 x2]∧zb7 F x2=some r) ?_ ?_
  ·refine sg (l:=[0]) C<|mv H C λa H=>nk<|W.block<|W.loop (G:=Nat × Int) (λg a w=>match g with | (k5,x4)=>Fr a 61 [] [(0,s1),(2,.slice none 0 0),(3,Iv x4)]∧St w0 w (λk=>s1.ownBlock=some k) [] [sE3 s1 x2]∧zbi F x2 k5 x4=some r) (λg=>match g with | (k5,x4)=>k5) (F,1) ⟨H.q C,X,M⟩<|?_; clear H X M a; (try clear w); rintro ⟨k5,x4⟩ a w ⟨H,X,M⟩
   rcases k5 with _ | k5
   · nomatch M
   replace M:zcb F x2 (zbi F x2 k5) x4=some r:=M; obtain ⟨rec5,hrec5⟩:∃ f,f=zbi F x2 k5:=⟨_,C⟩; rw [← hrec5] at M; unfold zcb at M; refine W.seq<|sg (l:=[0,1,2,3]) C<|mv2 H C C λa H=>ov (v:=Iv (x2.length:Int)) H C (Z.lenE (e:=3) (by simpa using zaI) C (X.s 0 C)) λa H=>ov H C (Z.lss C C) λa H=>nk<|?_; refine W.ifdI H C (λhc6=>?_) (λhc6=>?_)
   ·replace M:=hm_p M hc6; refine W.skip<|ksq<|?_; refine W.seqR (λa w=>Fr a 61 [] [(0,s1),(2,.slice none 0 0),(3,Iv x4)]∧St w0 w (λk=>s1.ownBlock=some k) [] [sE3 s1 x2]∧zb8 F rec5 x4=some r) ?_ ?_
    ·refine W.block<|W.seq<|?_; obtain ⟨x7,hx7,M⟩:=hm_b M; obtain ⟨x8,hx8,M⟩:=hm_b M; refine W.drawQ (λw=>St w0 w (λk=>s1.ownBlock=some k) [] [sE3 s1 x2]) P_mixed C (by kernel_rfl) C X.drew ?_; clear X; (try clear w); refine OQ.val (v:=s1) H C (λw X=>Z.move C) λa H=>OQ.val (v:=Iv x4) H C (λw X=>Z.move C) λa H=>OQ.val (v:=ix s1 (Int.toNat x4*1)) H C (λw X=>Z.ixE zaI za3 C C (X.s 0 C) hx7) λa H=>OQ.val (v:=Iv x7) H C (λw X=>Z.ldE1 (o:=0) zax E3_len C (X.s 0 C) hx7 C C) λa H=>OQ.val (v:=s1) H C (λw X=>Z.move C) λa H=>OQ.val (v:=Iv x4) H C (λw X=>Z.move C) λa H=>OQ.val (v:=Iv (i64.wrap (x4-1))) H C (λw X=>Z.sub C C) λa H=>OQ.val (v:=ix s1 (Int.toNat (i64.wrap (x4-1))*1)) H C (λw X=>Z.ixE zaI za3 C C (X.s 0 C) hx8) λa H=>OQ.val (v:=Iv x8) H C (λw X=>Z.ldE1 (o:=0) zax E3_len C (X.s 0 C) hx8 C C) λa H=>OQ.val (v:=Bv (decide (x7=(x8:Int)))) H C (λw X=>Z.eql C C) λa H=>?_; refine OQ.nil ?_; intro w X; refine ksq ?_; refine W.ifdI H C (λhc9=>?_) (λhc9=>?_)
     ·replace M:=hm_p M hc9; refine sg (l:=[0,1,2,3]) C<|mv2 H C C λa H=>?_; obtain ⟨hg10,M⟩:=hm_g M; refine ov (v:=vsub 1 s1 x4 (x2.length:Int)) H C (Z.sliceL zaI za3 C C (X.s 0 C) hg10) λa H=>mv H C λa H=>nk<|?_; refine W.seqR (λa w=>Fr a 61 [] [(0,s1),(2,.slice none 0 0),(3,Iv x4),(5,Iv 1)]∧St w0 w (λk=>s1.ownBlock=some k) [] [sE3 s1 x2]∧zb9 F x4 x2=some r) ?_ ?_
      ·refine sg (l:=[0]) C<|mv H C λa H=>nk<|W.block<|W.loop (G:=Nat) (λg a w=>match g with | k12=>Fr a 61 [] [(0,s1),(2,.slice none 0 0),(3,Iv x4),(4,vsub 1 s1 x4 (x2.length:Int)),(5,Iv 1)]∧St w0 w (λk=>s1.ownBlock=some k) [] [sE3 s1 x2]∧zbh F x2 x4 k12=some r) (λg=>match g with | k12=>k12) (F) ⟨H.q C,X,M⟩<|?_; clear H X M a; (try clear w); rintro k12 a w ⟨H,X,M⟩
       rcases k12 with _ | k12
       · nomatch M
       replace M:zca F x2 x4 (zbh F x2 x4 k12)=some r:=M; obtain ⟨rec12,hrec12⟩:∃ f,f=zbh F x2 x4 k12:=⟨_,C⟩; rw [← hrec12] at M; unfold zca at M; refine W.seq<|sg (l:=[0,1,2,3]) C<|mv2 H C C λa H=>ov (v:=Iv ((lsub x2 x4 (x2.length:Int)).length:Int)) H C (Z.lenE (e:=3) (by simpa using zaI) C (rdEOK.sub (X.s 0 C) E3_len hg10)) λa H=>ov H C (Z.lss C C) λa H=>nk<|?_; refine W.ifdI H C (λhc13=>?_) (λhc13=>?_)
       ·replace M:=hm_p M hc13; refine W.skip<|ksq<|?_; nomatch M
       ·replace M:=hm_n M hc13; refine W.exit<|kte<|kte<|kbk<|?_; exact kth ⟨H.q C,X,M⟩
      ·clear H X M a; (try clear w); rintro a w ⟨H,X,M⟩; unfold zb9 at M; refine sg (l:=[0,1,2,3]) C<|mv2 H C C λa H=>ov (v:=vsub 1 s1 x4 (x2.length:Int)) H C (Z.sliceL zaI za3 C C (X.s 0 C) hg10) λa H=>?_; refine O.clearW (j:=0) (enc:=E3) (x0:=(0:Int)) (M':=[sE3 s1 (lcopy x2 (List.replicate (Int.toNat (x2.length:Int)-Int.toNat x4) (0:Int)) x4 (Int.toNat (x2.length:Int)-Int.toNat x4))]) H X C zaI za3 ziL C (by decide) C C E3_len E3_one hg10 C C ?_; clear X; intro w X; refine nk<|sg (l:=[0,1,2,3]) C<|mv2 H C C λa H=>?_; obtain ⟨hg11,M⟩:=hm_g M; refine ov (v:=vsub 1 s1 0 x4) H C (Z.sliceH zaI za3 C C (X.s 0 C) hg11) λa H=>mv H C λa H=>nk<|W.ret<|kbr<|ktr<|ktr<|kbr<|ktr<|?_; replace X:=X.takeS (j:=0) (M':=[sE3 (vsub 1 s1 0 x4) (lsub (lcopy x2 (List.replicate (Int.toNat (x2.length:Int)-Int.toNat x4) (0:Int)) x4 (Int.toNat (x2.length:Int)-Int.toNat x4)) 0 x4)]) C E3_len hg11 C; obtain rfl:=oj M; refine post1 H C (rkt C) ?_; exact ⟨vsub 1 s1 0 x4,C,X.noB⟩
     ·replace M:=hm_n M hc9; refine W.skip<|kbn<|?_; exact kth ⟨H.q C,X,M⟩
    ·clear H X M a; (try clear w); rintro a w ⟨H,X,M⟩; unfold zb8 at M; refine wrL (l:=[0,1,2]) C<|mv H C λa H=>ov H C (Z.add C C) λa H=>mv H C λa H=>O.nil<|?_; refine kth ⟨(k5,i64.wrap (x4+1)),⟨H.q C,X,?_⟩,Nat.lt_succ_self _⟩; rw [hrec5] at M; exact M
   ·replace M:=hm_n M hc6; refine W.exit<|kte<|kte<|kbk<|?_; exact kth ⟨H.q C,X,M⟩
  ·clear H X M a; (try clear w); rintro a w ⟨H,X,M⟩; unfold zb7 at M; refine sg (l:=[0,1]) C<|mv2 H C C λa H=>nk<|W.ret<|?_; obtain rfl:=oj M; refine post1 H C (rkt C) ?_; exact ⟨s1,C,X.noB⟩
def zfK (F:Nat) (x18:List (Int × Int)) (x19 x20:Int):Option ((List (Int × Int)) × Int) :=
  some (x18,0)
def zfL (F:Nat) (x4:List Int) (x2:List (Int × Int × Int × Int)) (rec26:(List (Int × Int))→Int→Int→Int→Option ((List (Int × Int)) × Int)) (x22:List (Int × Int)) (x23 x24 x25:Int):Option ((List (Int × Int)) × Int) :=
  if x25<((x4.length:Int):Int) then ((idx x4 x25).bind λx28=>(idx x2 x28).bind λx29=>(zdy F x22 x23 x24 x28 x29.1 x29.2.1 x29.2.2.1 x29.2.2.2).bind λx30=>if (!x30.2.2.2)=true then (some (([]:List (Int × Int)),16)) else (rec26 x30.1 x30.2.1 x30.2.2.1 (i64.wrap (x25+1)))) else (zfK F x22 x23 x24)
def zc8 (F:Nat) (x4:List Int) (x2:List (Int × Int × Int × Int)):Nat→(List (Int × Int))→Int→Int→Int→Option ((List (Int × Int)) × Int)
  | 0,_,_,_,_=>none
  | n+1,x22,x23,x24,x25=>zfL F x4 x2 (zc8 F x4 x2 n) x22 x23 x24 x25
def zg5 (F:Nat) (x2:List (Int × Int × Int × Int)) (x4:List Int):Option ((List (Int × Int)) × Int) :=
  (zgg F x2).bind λx6=>if x6≠(0:Int) then (none) else ((zbf F x4 x2).bind λx8=>if (x8)=true then (some (([]:List (Int × Int)),2)) else ((zdC F x4).bind λx10=>(zdc F x10).bind λx12=>(zcB F x12).bind λx13=>if (x13.length:Int)≠((x4.length:Int):Int) then (some (([]:List (Int × Int)),14)) else (zc8 F x4 x2 F ([]:List (Int × Int)) 0 0 0)))
theorem ziT (F:Nat) (s1:Value) (x2:List (Int × Int × Int × Int)) (s3:Value) (x4:List Int) (w0:World) (h_s1:rdEOK (hp w0) 4 E27 s1 x2) (h_s3:rdEOK (hp w0) 1 E3 s3 x4) (r:(List (Int × Int)) × Int) (M:zg5 F x2 x4=some r) :
    Ret Tryz.prog 12 #[s1,s3] w0 (G:=Value) (λg1=>.tuple #[g1,Iv r.2]) (λg1 w=>St w0 w noX [] [sE45 g1 r.1]):=by
 unfold zg5 at M; refine roW Tryz.func12 C C C (λa H=>?_); have X:St w0 w0 noX [rE27 s1 x2,rdE 1 E3 s3 x4] []:=Sbw (lnc (lendRd h_s1) (lnc (lendRd h_s3) lnn)); refine sg (l:=[0,1,2]) C<|O.box (cs:=#[s1]) H X C C C (rdc (X.b 0 C))<|?_; intro b5 w a hb5 X H; refine mv2 H C C λa H=>nk<|W.seq<|sg (l:=[0,1,2]) C<|ov (v:=s1) H C (Z.load1 zhg C (X.p 0 C) C) λa H=>?_; obtain ⟨x6,hx6,M⟩:=hm_b M; refine oc H C zjT (zhB F s1 x2 _ (X.b 0 C) x6 hx6) ?_; rintro _ w Y a H; replace X:=X.cl Y; refine mv H C λa H=>nk<|sg (l:=[0,1]) C<|mv H C λa H=>ov H C (Z.neq C C) λa H=>nk<|?_; refine W.ifdI H C (λhc7=>?_) (λhc7=>?_)
 ·nomatch hm_p M hc7
 ·replace M:=hm_n M hc7; refine W.skip<|ksq<|W.seq<|sg (l:=[0,1,2]) C<|mv H C λa H=>ov (v:=.func (.func 32) #[] #[Pv b5 0]) H C (Z.makeFunc C C C C) λa H=>?_; obtain ⟨x8,hx8,M⟩:=hm_b M; refine oc H C zkP (zc7 F s3 x4 b5 s1 x2 _ (X.b 1 C) (X.b 0 C) (X.p 0 C) x8 hx8) ?_; rintro _ w Y a H; replace X:=X.cl Y; refine nk ?_; refine W.if_ H C (λhc9=>?_) (λhc9=>?_)
  ·replace M:=hm_t M hc9; refine sg (l:=[0,1]) C<|mv2 H C C λa H=>nk<|W.ret<|ktr<|?_; replace X:=X.nilE 45 2 E45; obtain rfl:=oj M; refine post2 H C (rkt C) (rkt C) ?_; replace X:=X.nilE 45 2 E45; replace X:=X.sl [1]; exact ⟨(.slice none 0 0),C,X.noB⟩
  ·replace M:=hm_f M hc9; refine W.skip<|ksq<|sg (l:=[0,1,2]) C<|mv H C λa H=>?_; obtain ⟨x10,hx10,M⟩:=hm_b M; refine oc H C zkR (zha F s3 x4 _ (X.b 1 C) x10 hx10) ?_; rintro s11 w Y a H; replace X:=X.cl Y; refine mv H C λa H=>nk<|sg (l:=[0,1]) C<|mv H C λa H=>?_; obtain ⟨x12,hx12,M⟩:=hm_b M; refine oc H C zkS (zg4 F s11 x10 _ (X.slS (j:=0) C) x12 hx12) ?_; rintro _ w Y a H; replace X:=X.cz Y 0 λ_ h=>h; refine nk<|W.seq<|sg (l:=[0,1,2,3,4,5]) C<|mv H C λa H=>?_; obtain ⟨x13,hx13,M⟩:=hm_b M; refine oc H C zkT (zgk F s11 x12 _ (X.slS (j:=0) C) x13 hx13) ?_; rintro s14 w Y a H; replace X:=X.cz Y 0 λ_ h=>h; refine ov (v:=Iv (x13.length:Int)) H C (Z.lenE (e:=3) (by simpa using zaI) C (X.s 0 C)) λa H=>mv H C λa H=>ov (v:=Iv (x4.length:Int)) H C (Z.lenE (e:=3) (by simpa using zaI) C (X.b 1 C)) λa H=>ov H C (Z.neq C C) λa H=>nk<|?_; replace X:=X.sl [0,1]; refine W.ifdI H C (λhc15=>?_) (λhc15=>?_)
   ·replace M:=hm_p M hc15; refine sg (l:=[0,1]) C<|mv2 H C C λa H=>nk<|W.ret<|ktr<|?_; replace X:=X.nilE 45 2 E45; obtain rfl:=oj M; refine post2 H C (rkt C) (rkt C) ?_; replace X:=X.nilE 45 2 E45; replace X:=X.sl [1]; exact ⟨(.slice none 0 0),C,X.noB⟩
   ·replace M:=hm_n M hc15; refine W.skip<|ksq<|sg (l:=[0]) C<|O.alloc (cs:=#[.slice none 0 0,Iv 0,Iv 0]) H X C C zbj C<|?_; intro b16 w a hb16 X H; refine nk ?_; refine W.seqR (λa w=>∃ (s17:Value) (x18:List (Int × Int)) (x19:Int) (x20:Int),Fr a 53 [] [(4,.slice none 0 0),(5,Iv 0),(8,Pv b16 0)]∧St w0 w noX [rE27 s1 x2,rdE 1 E3 s3 x4] [sE45 s17 x18,pt b16 (Cs #[s17,Iv x19,Iv x20] 57)]∧zfK F x18 x19 x20=some r) ?_ ?_
    ·refine sg (l:=[0,1,2]) C<|mv H C λa H=>ov (v:=Iv (x4.length:Int)) H C (Z.lenE (e:=3) (by simpa using zaI) C (X.b 1 C)) λa H=>mv H C λa H=>nk<|?_; refine W.block ?_; replace X:=X.nilE 45 2 E45; replace X:=X.fr 1; replace X:=X.fr 1; replace X:=X.fr 2; refine W.loop (G:=Nat × Value × (List (Int × Int)) × Int × Int × Int) (λg a w=>match g with | (k26,s21,x22,x23,x24,x25)=>Fr a 53 [] [(2,Pv b5 0),(4,.slice none 0 0),(5,Iv 0),(8,Pv b16 0),(31,s3),(32,Iv (x4.length:Int)),(33,Iv x25)]∧St w0 w noX [rE27 s1 x2,rdE 1 E3 s3 x4] [pt b5 (Cs #[s1] 28),sE45 s21 x22,pt b16 (Cs #[s21,Iv x23,Iv x24] 57)]∧zc8 F x4 x2 k26 x22 x23 x24 x25=some r) (λg=>match g with | (k26,s21,x22,x23,x24,x25)=>k26) (F,(.slice none 0 0),([]:List (Int × Int)),0,0,0) ⟨H.q C,X,M⟩ ?_; clear H X M a; (try clear w); rintro ⟨k26,s21,x22,x23,x24,x25⟩ a w ⟨H,X,M⟩
     rcases k26 with _ | k26
     · nomatch M
     replace M:zfL F x4 x2 (zc8 F x4 x2 k26) x22 x23 x24 x25=some r:=M; obtain ⟨rec26,hrec26⟩:∃ f,f=zc8 F x4 x2 k26:=⟨_,C⟩; rw [← hrec26] at M; unfold zfL at M; refine sg (l:=[0]) C<|ov H C (Z.lss C C) λa H=>nk<|W.seq<|?_; refine W.ifdI H C (λhc27=>?_) (λhc27=>?_)
     ·replace M:=hm_p M hc27; refine W.skip<|ksq<|W.seq<|W.block<|sg (l:=[0,1,2]) C<|?_; obtain ⟨x28,hx28,M⟩:=hm_b M; refine ov H C (Z.ixE zaI za3 C C (X.b 1 C) hx28) λa H=>ov H C (Z.ldE1 (o:=0) zax E3_len C (X.b 1 C) hx28 C C) λa H=>mv H C λa H=>nk<|W.seq<|?_; have J:Fr a 53 [] []:=H.to trivial; obtain ⟨x29,hx29,M⟩:=hm_b M; obtain ⟨x30,hx30,M⟩:=hm_b M; replace X:=X.drew; replace X:=X.emp; refine W.drawK (γ:=Nat × Value) (L0:=[(2,Pv b5 0),(4,.slice none 0 0),(5,Iv 0),(8,Pv b16 0),(10,Iv x28),(31,s3),(32,Iv (x4.length:Int)),(33,Iv x25)]) (L1:=[]) (0,undef) [6,11] [10] [0,1,2,3,4,5,7,8,9,12] (λi=>match i with | 4=>[2,3] | 5=>[4] | 6=>[0,1,5] | 7=>[6] | 8=>[7] | 9=>[7] | 11=>[0,1,2,3,4,5,6,7,8,10] | 12=>[0,1,2,3,4,5,6,7,8,9,10,11] | _=>[]) (λi=>match i with | 11=>[10] | 12=>[10] | _=>[]) (λi=>match i with | 6=>[7,8,9,11,12] | 10=>[11,12] | 11=>[12] | _=>[]) (λ_=>[]) (λi=>match i with | 7=>1 | 8=>1 | 9=>1 | 11=>1 | 12=>2 | _=>0) (λi=>match i with | 6=>1 | 7=>1 | 8=>1 | 9=>2 | 10=>1 | 11=>2 | 12=>2 | _=>0) (λ(g:Nat × Value) j=>match j with | 0=>.agg #[s21,Iv x23,Iv x24] | 1=>Iv x28 | 2=>s1 | 3=>Iv x28 | 4=>ix s1 (Int.toNat x28*4) | 5=>.agg #[Iv x29.1,Iv x29.2.1,Iv x29.2.2.1,Iv x29.2.2.2] | 6=>.tuple #[.agg #[g.2,Iv x30.2.1,Iv x30.2.2.1],Bv x30.2.2.2] | 7=>.tuple #[.agg #[g.2,Iv x30.2.1,Iv x30.2.2.1],Bv x30.2.2.2] | 8=>.agg #[g.2,Iv x30.2.1,Iv x30.2.2.1] | 9=>Bv x30.2.2.2 | 10=>Pv g.1 0 | 12=>Bv x30.2.2.2 | _=>undef) (λk s (g:Nat × Value) w=>match k with | 0=>St w0 w noX [rE27 s1 x2,rdE 1 E3 s3 x4] [condA (s 10) (pt g.1 (Cs #[.slice none 0 0,Iv 0,Iv 0] 57)),pt b5 (Cs #[s1] 28),sE45 s21 x22,pt b16 (Cs #[s21,Iv x23,Iv x24] 57)] | 1=>St w0 w noX [rE27 s1 x2,rdE 1 E3 s3 x4] [sE45 g.2 x30.1,condA (s 10) (pt g.1 (Cs #[.slice none 0 0,Iv 0,Iv 0] 57)),pt b5 (Cs #[s1] 28),sE45 s21 x22,pt b16 (Cs #[s21,Iv x23,Iv x24] 57)] | _=>St w0 w noX [rE27 s1 x2,rdE 1 E3 s3 x4] [sE45 g.2 x30.1,pt g.1 (Cs #[g.2,Iv x30.2.1,Iv x30.2.2.1] 57),pt b5 (Cs #[s1] 28),sE45 s21 x22,pt b16 (Cs #[s21,Iv x23,Iv x24] 57)]) P_mixed (by kernel_rfl) (H.q C) J X ?_ ?_ ?_ ?_
      ·clear H J X; refine ⟨?_,λk s g w _ _ _ X a H=>Q.val (v:=Iv x28) C C C X H (Z.move C),?_,λk s g w _ _ _ X a H=>Q.val (v:=Iv x28) C C C X H (Z.move C),?_,?_,λk s g w _ _ _ X a H=>Q.val (v:=.tuple #[.agg #[g.2,Iv x30.2.1,Iv x30.2.2.1],Bv x30.2.2.2]) C C C X H (Z.move C),λk s g w _ _ _ X a H=>Q.val (v:=.agg #[g.2,Iv x30.2.1,Iv x30.2.2.1]) C C C X H (Z.extract C C),λk s g w _ _ _ X a H=>Q.val (v:=Bv x30.2.2.2) C C C X H (Z.extract C C),λk s g w _ _ _ X a H=>Q.val (v:=Bv x30.2.2.2) C C C X H (Z.assign C),trivial⟩
       ·intro k s g w h1_ h2_ hsp X a H; obtain ⟨b32,s31⟩:=g
        rcases k with _ | k
        ·exact Q.val (v:=.agg #[s21,Iv x23,Iv x24]) C C C X H (lN (cs':=#[s21,Iv x23,Iv x24]) A_57 C (X.p 3 C) C C)
        ·simp at h2_
       ·intro k s g w h1_ h2_ hsp X a H; obtain ⟨b32,s31⟩:=g
        rcases k with _ | k
        ·exact Q.val (v:=s1) C C C X H (Z.load1 zhg C (X.p 1 C) C)
        ·simp at h2_
       ·intro k s g w h1_ h2_ hsp X a H; obtain ⟨b32,s31⟩:=g
        rcases k with _ | k
        ·exact Q.val (v:=ix s1 (Int.toNat x28*4)) C C C X H (Z.ixE zeB zdh C C (X.b 0 C) hx29)
        ·simp at h2_
       ·intro k s g w h1_ h2_ hsp X a H; obtain ⟨b32,s31⟩:=g
        rcases k with _ | k
        ·exact Q.val (v:=.agg #[Iv x29.1,Iv x29.2.1,Iv x29.2.2.1,Iv x29.2.2.2]) C C C X H (Z.ldEN (us:=[Iv x29.1,Iv x29.2.1,Iv x29.2.2.1,Iv x29.2.2.2]) (o:=0) zhT zdh C E27_len C (X.b 0 C) hx29 C C C)
        ·simp at h2_
      ·clear H J X; refine ⟨?_,?_,trivial⟩
       ·intro s g w hsp X a H; obtain ⟨b32,s31⟩:=g; refine oc H C zjV (zgO F s21 x22 x23 x24 x28 x29.1 x29.2.1 x29.2.2.1 x29.2.2.2 _ (X.s 2 C) x30 hx30) ?_; rintro s31 w Y a H; replace X:=X.cl Y; exact nE 44 H (b32,s31) C C (jl 13 (by kernel_rfl) λ_=>C) X
       ·intro s g w hsp X a H; obtain ⟨b32,s31⟩:=g; have h10_:s 10=true:=hsp 10 (by simp); have X:St w0 w noX [rE27 s1 x2,rdE 1 E3 s3 x4] [sE45 s31 x30.1,condA (s 10) (pt b32 (Cs #[.slice none 0 0,Iv 0,Iv 0] 57)),pt b5 (Cs #[s1] 28),sE45 s21 x22,pt b16 (Cs #[s21,Iv x23,Iv x24] 57)]:=X; clear X; rw [h10_] at X; replace X:St w0 w noX [rE27 s1 x2,rdE 1 E3 s3 x4] [sE45 s31 x30.1,pt b32 (Cs #[.slice none 0 0,Iv 0,Iv 0] 57),pt b5 (Cs #[s1] 28),sE45 s21 x22,pt b16 (Cs #[s21,Iv x23,Iv x24] 57)]:=X; refine ost 1 #[s31,Iv x30.2.1,Iv x30.2.2.1] H X C C C zbn C (occ (rdo (X.s 0 C)) (occ C (occ C C))) C (bl C) C ?_; intro w X; exact O.nil ⟨C,(b32,s31),H.to trivial,(λd hd=>by cases (show none=some d from hd)),(λ_ _ _=>C),X⟩
      ·clear H J X; refine ⟨?_,trivial⟩
       ·intro k s g w h1_ h2_ hs0 X a H; obtain ⟨b32,s31⟩:=g
        rcases k with _ | _ | k
        ·refine oaC (j:=0) (cs:=#[.slice none 0 0,Iv 0,Iv 0]) H X C hs0 C C zbj C ?_; clear H X a; intro b32 w a X H; exact nE 11 H (b32,s31) C C (jl 13 (by kernel_rfl) λ_=>C) X
        ·refine oaC (j:=1) (cs:=#[.slice none 0 0,Iv 0,Iv 0]) H X C hs0 C C zbj C ?_; clear H X a; intro b32 w a X H; exact nE 11 H (b32,s31) C C (jl 13 (by kernel_rfl) λ_=>C) X
        ·simp at h2_
      clear H J X; intro s g a w hs H X; obtain ⟨b32,s31⟩:=g; have h10_:s 10=true:=hs 10 (by simp); refine ksq<|W.seq<|sg (l:=[0,1]) C<|mv H C λa H=>ov H C (Z.not C) λa H=>nk<|?_; refine W.if_ H C (λhc33=>?_) (λhc33=>?_)
      ·replace M:=hm_t M hc33; refine sg (l:=[0,1]) C<|mv2 H C C λa H=>nk<|W.ret<|ktr<|kbr<|ktr<|ktr<|kbr<|?_; refine ktr ?_; replace X:=X.nilE 45 2 E45; obtain rfl:=oj M; refine post2 H C (rkt C) (rkt C) ?_; replace X:=X.nilE 45 2 E45; replace X:=X.sl [1]; exact ⟨(.slice none 0 0),C,X.noB⟩
      ·replace M:=hm_f M hc33; refine W.skip<|ksq<|wrL (l:=[0,1]) C<|ov H C (lN (cs':=#[s31,Iv x30.2.1,Iv x30.2.2.1]) A_57 C (X.p 1 C) C C) λa H=>ost 4 #[s31,Iv x30.2.1,Iv x30.2.2.1] H X C C C zbn C (occ (rdo (X.s 0 C)) (occ C (occ C C))) C (bl C) C<|?_; intro w X; refine O.nil<|kbn<|ksq<|?_; replace X:=X.sl [1,0,1,0,1]; refine wrL (l:=[0,1]) C<|ov H C (Z.add C C) λa H=>mv H C λa H=>O.nil<|?_; replace X:=X.fr 2; replace X:=X.fr 1; replace X:=X.fr 2; refine kth ⟨(k26,s31,x30.1,x30.2.1,x30.2.2.1,i64.wrap (x25+1)),⟨H.q C,X,?_⟩,Nat.lt_succ_self _⟩; rw [hrec26] at M; exact M
     ·replace M:=hm_n M hc27; refine W.exit<|kte<|kte<|kbk<|?_; replace X:=X.sl [0,1,1]; exact kth ⟨s21,x22,x23,x24,H.q C,X,M⟩
    ·clear H X M a; (try clear w); rintro a w ⟨s17,x18,x19,x20,H,X,M⟩; unfold zfK at M; refine sg (l:=[0,1,2,3]) C<|ov H C (Z.field zcn C C) λa H=>ov (v:=s17) H C (Z.load1 zeA C (X.p 1 C) C) λa H=>mv2 H C C λa H=>nk<|?_; replace X:=X.sl [1]; refine W.ret ?_; obtain rfl:=oj M; refine post2 H C (rkt C) (rkt C) ?_; exact ⟨s17,C,X.noB⟩
end Go.Proofs.YtjahppldcbbccaaGreatDoor
