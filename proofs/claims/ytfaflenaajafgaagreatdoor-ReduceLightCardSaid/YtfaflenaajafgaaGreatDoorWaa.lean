/- Part of a proof: walks printed by a program. -/
import Derived.Test.YtfaflenaajafgaaGreatDoorSL27
import Derived.Test.YtfaflenaajafgaaGreatDoorSLx
import Derived.Test.YtfaflenaajafgaaGreatDoorProg
set_option linter.unusedVariables false
set_option linter.unusedSimpArgs false
set_option maxHeartbeats 1000000
set_option maxRecDepth 8000
namespace Go.Proofs.YtfaflenaajafgaaGreatDoor
open Go Go.SL Go.IntKind
theorem C {α:Sort _} {a:α}:a=a:=rfl
abbrev I (x:Int):Value:=.int .i64 x
abbrev B (x:Bool):Value:=.bool x
noncomputable abbrev P:Program:=Tryz.prog
def strc1:ByteArray:=⟨((([0,1,2,2,3,3,3,3,4,4,4,4,4,4,4,4,5,5,5,5,5,5,5,5,5,5,5,5,5,5,5,5,6,6,6,6,6,6,6,6,6,6,6,6,6,6,6,6,6,6,6,6,6,6,6,6,6,6,6,6,6,6,6,6]++[7,7,7,7,7,7,7,7,7,7,7,7,7,7,7,7,7,7,7,7,7,7,7,7,7,7,7,7,7,7,7,7,7,7,7,7,7,7,7,7,7,7,7,7,7,7,7,7,7,7,7,7,7,7,7,7,7,7,7,7,7,7,7,7])++([8,8,8,8,8,8,8,8,8,8,8,8,8,8,8,8,8,8,8,8,8,8,8,8,8,8,8,8,8,8,8,8,8,8,8,8,8,8,8,8,8,8,8,8,8,8,8,8,8,8,8,8,8,8,8,8,8,8,8,8,8,8,8,8]++[8,8,8,8,8,8,8,8,8,8,8,8,8,8,8,8,8,8,8,8,8,8,8,8,8,8,8,8,8,8,8,8,8,8,8,8,8,8,8,8,8,8,8,8,8,8,8,8,8,8,8,8,8,8,8,8,8,8,8,8,8,8,8,8])):List UInt8).toArray⟩
theorem zid:cOK P 100=true:=by kernel_rfl
theorem ziS:cOK P 101=true:=by kernel_rfl
theorem zie:cOK P 102=true:=by kernel_rfl
theorem zgI:cOK P 104=true:=by kernel_rfl
theorem ziT:cOK P 105=true:=by kernel_rfl
theorem ziU:cOK P 106=true:=by kernel_rfl
theorem ziV:cOK P 107=true:=by kernel_rfl
theorem ziW:cOK P 108=true:=by kernel_rfl
theorem zcM:cOK P 109=true:=by kernel_rfl
theorem ziX:cOK P 111=true:=by kernel_rfl
theorem ziY:cOK P 112=true:=by kernel_rfl
theorem zgJ:cOK P 113=true:=by kernel_rfl
theorem zhz:cOK P 114=true:=by kernel_rfl
theorem ziZ:cOK P 115=true:=by kernel_rfl
theorem zif:cOK P 117=true:=by kernel_rfl
theorem zgK:cOK P 118=true:=by kernel_rfl
theorem zfz:cOK P 120=true:=by kernel_rfl
theorem zi0:cOK P 121=true:=by kernel_rfl
theorem zi1:cOK P 123=true:=by kernel_rfl
theorem zi2:cOK P 124=true:=by kernel_rfl
theorem zi3:cOK P 125=true:=by kernel_rfl
theorem zi4:cOK P 126=true:=by kernel_rfl
theorem zhA:cOK P 127=true:=by kernel_rfl
theorem zig:cOK P 128=true:=by kernel_rfl
theorem zeh:cOK P 129=true:=by kernel_rfl
theorem zb2:cOK P 130=true:=by kernel_rfl
theorem zbn:cOK P 131=true:=by kernel_rfl
theorem zi5:cOK P 132=true:=by kernel_rfl
theorem zi6:cOK P 134=true:=by kernel_rfl
theorem zfA:cOK P 135=true:=by kernel_rfl
theorem zih:cOK P 137=true:=by kernel_rfl
theorem zi7:cOK P 138=true:=by kernel_rfl
theorem zdC:cOK P 139=true:=by kernel_rfl
theorem zeQ:cOK P 140=true:=by kernel_rfl
theorem zi8:cOK P 141=true:=by kernel_rfl
theorem zi9:cOK P 142=true:=by kernel_rfl
theorem zii:cOK P 143=true:=by kernel_rfl
theorem zgL:cOK P 144=true:=by kernel_rfl
theorem zja:cOK P 147=true:=by kernel_rfl
theorem zij:cOK P 148=true:=by kernel_rfl
theorem zjb:cOK P 149=true:=by kernel_rfl
theorem zjm:cOK P 15=true:=by kernel_rfl
theorem zhB:cOK P 150=true:=by kernel_rfl
theorem zdD:cOK P 151=true:=by kernel_rfl
theorem zjc:cOK P 152=true:=by kernel_rfl
theorem zjd:cOK P 154=true:=by kernel_rfl
theorem zje:cOK P 155=true:=by kernel_rfl
theorem zjf:cOK P 156=true:=by kernel_rfl
theorem zjg:cOK P 157=true:=by kernel_rfl
theorem zjn:cOK P 16=true:=by kernel_rfl
theorem zik:cOK P 162=true:=by kernel_rfl
theorem zil:cOK P 163=true:=by kernel_rfl
theorem zjh:cOK P 164=true:=by kernel_rfl
theorem zim:cOK P 165=true:=by kernel_rfl
theorem zin:cOK P 166=true:=by kernel_rfl
theorem zjo:cOK P 17=true:=by kernel_rfl
theorem zc2:cOK P 18=true:=by kernel_rfl
theorem zjp:cOK P 19=true:=by kernel_rfl
theorem zcJ:cOK P 20=true:=by kernel_rfl
theorem zjq:cOK P 21=true:=by kernel_rfl
theorem zjr:cOK P 22=true:=by kernel_rfl
theorem ziu:cOK P 29=true:=by kernel_rfl
theorem ziv:cOK P 30=true:=by kernel_rfl
theorem ze1:cOK P 31=true:=by kernel_rfl
theorem zgD:cOK P 32=true:=by kernel_rfl
theorem zjs:cOK P 34=true:=by kernel_rfl
theorem zjE:cOK P 4=true:=by kernel_rfl
theorem zjt:cOK P 47=true:=by kernel_rfl
theorem ziw:cOK P 48=true:=by kernel_rfl
theorem zhP:cOK P 49=true:=by kernel_rfl
theorem zio:cOK P 5=true:=by kernel_rfl
theorem zfB:cOK P 53=true:=by kernel_rfl
theorem zju:cOK P 57=true:=by kernel_rfl
theorem zhQ:cOK P 58=true:=by kernel_rfl
theorem zjv:cOK P 59=true:=by kernel_rfl
theorem zg8:cOK P 6=true:=by kernel_rfl
theorem zhk:cOK P 60=true:=by kernel_rfl
theorem ze2:cOK P 61=true:=by kernel_rfl
theorem zhR:cOK P 62=true:=by kernel_rfl
theorem zfC:cOK P 63=true:=by kernel_rfl
theorem zhl:cOK P 64=true:=by kernel_rfl
theorem zjw:cOK P 65=true:=by kernel_rfl
theorem zix:cOK P 66=true:=by kernel_rfl
theorem zhm:cOK P 67=true:=by kernel_rfl
theorem zhn:cOK P 68=true:=by kernel_rfl
theorem zca:cOK P 7=true:=by kernel_rfl
theorem zjx:cOK P 73=true:=by kernel_rfl
theorem zjy:cOK P 74=true:=by kernel_rfl
theorem zjz:cOK P 75=true:=by kernel_rfl
theorem zhS:cOK P 77=true:=by kernel_rfl
theorem ziy:cOK P 78=true:=by kernel_rfl
theorem ziz:cOK P 79=true:=by kernel_rfl
theorem zdV:cOK P 8=true:=by kernel_rfl
theorem zjA:cOK P 80=true:=by kernel_rfl
theorem zho:cOK P 81=true:=by kernel_rfl
theorem zjB:cOK P 82=true:=by kernel_rfl
theorem zgc:cOK P 83=true:=by kernel_rfl
theorem zhT:cOK P 84=true:=by kernel_rfl
theorem ziA:cOK P 88=true:=by kernel_rfl
theorem zjC:cOK P 89=true:=by kernel_rfl
theorem zfT:cOK P 9=true:=by kernel_rfl
theorem zjD:cOK P 90=true:=by kernel_rfl
theorem zhp:cOK P 94=true:=by kernel_rfl
theorem zhq:cOK P 95=true:=by kernel_rfl
theorem zhr:cOK P 96=true:=by kernel_rfl
theorem zgE:cOK P 97=true:=by kernel_rfl
theorem ziB:cOK P 98=true:=by kernel_rfl
theorem ziC:cOK P 99=true:=by kernel_rfl
theorem P_mixed:P.follows .mixedOrders=true:=by kernel_rfl
theorem ziN:tAgg P 105=some true:=by kernel_rfl
theorem zdA:tAgg P 170=some true:=by kernel_rfl
theorem zcH:tAgg P 174=some true:=by kernel_rfl
theorem zaf:tAgg P 2=some false:=by kernel_rfl
theorem zcN:tAgg P 23=some false:=by kernel_rfl
theorem zai:tAgg P 26=some false:=by kernel_rfl
theorem zag:tAgg P 28=some true:=by kernel_rfl
theorem zbl:tAgg P 3=some false:=by kernel_rfl
theorem zap:tAgg P 4=some false:=by kernel_rfl
theorem zb3:tAgg P 44=some true:=by kernel_rfl
theorem zdi:tAgg P 59=some false:=by kernel_rfl
theorem zam:tAgg P 61=some false:=by kernel_rfl
theorem zcp:tAgg P 93=some true:=by kernel_rfl
theorem zc8:tArr P 105=some (3,2):=by kernel_rfl
theorem zdB:tArr P 175=some (4,174):=by kernel_rfl
theorem zg9:tArr P 176=some (2,2):=by kernel_rfl
theorem zha:tArr P 182=some (2,28):=by kernel_rfl
theorem zfD:P.underlying 4=some .bool:=by kernel_rfl
theorem za5:tBytes P 61=some 4:=by kernel_rfl
theorem ziO:P.cellsOf 2=1:=by kernel_rfl
theorem zc9:tElem P 179=some 174:=by kernel_rfl
theorem zew:tElem P 181=some 93:=by kernel_rfl
theorem zac:tElem P 26=some 61:=by kernel_rfl
theorem za4:tElem P 74=some 28:=by kernel_rfl
theorem ziP:P.eqGuardType P.depth 105=false:=by kernel_rfl
theorem ziQ:P.eqGuardType P.depth 174=false:=by kernel_rfl
theorem zc3:tField P 110 4=some 4:=by kernel_rfl
theorem zaz:tField P 170 0=some 0:=by kernel_rfl
theorem zaQ:tField P 170 1=some 2:=by kernel_rfl
theorem zbk:tField P 174 0=some 0:=by kernel_rfl
theorem zeN:tField P 174 1=some 1:=by kernel_rfl
theorem zaj:tField P 28 0=some 0:=by kernel_rfl
theorem zah:tField P 28 1=some 1:=by kernel_rfl
theorem zcO:tField P 44 0=some 0:=by kernel_rfl
theorem zaS:tField P 44 1=some 2:=by kernel_rfl
theorem zgd:tField P 64 0=some 0:=by kernel_rfl
theorem zhb:tField P 64 1=some 1:=by kernel_rfl
theorem zbe:tField P 93 0=some 0:=by kernel_rfl
theorem zbf:tField P 93 1=some 1:=by kernel_rfl
theorem zji:tFs P 174=some [(2,0),(59,1)]:=by kernel_rfl
theorem ziH:tIface P 20=true:=by kernel_rfl
theorem zjj:(P.info? 2).isSome=true:=by kernel_rfl
theorem ze3:tInt P 2=some .i64:=by kernel_rfl
theorem ziD:tInt P 3=some .i64:=by kernel_rfl
theorem ziE:tInt P 5=some .u8:=by kernel_rfl
theorem ziq:tInt P 58=some .u64:=by kernel_rfl
theorem zaD:tInt P 59=some .u64:=by kernel_rfl
theorem za6:tInt P 61=some .u32:=by kernel_rfl
theorem zcb:tPlaces P 170=some #[(0,2),(2,1)]:=by kernel_rfl
theorem zir:tPlaces P 174=some #[(0,1),(1,1)]:=by kernel_rfl
theorem zbv:tPlaces P 28=some #[(0,1),(1,1)]:=by kernel_rfl
theorem zhx:tPlaces P 44=some #[(0,2),(2,2)]:=by kernel_rfl
theorem zhy:tPlaces P 93=some #[(0,1),(1,1)]:=by kernel_rfl
theorem ziI:tSize P 105=some 3:=by kernel_rfl
theorem zan:tSize P 170=some 3:=by kernel_rfl
theorem zak:tSize P 174=some 2:=by kernel_rfl
theorem zb4:tSize P 2=some 1:=by kernel_rfl
theorem zcI:tSize P 23=some 1:=by kernel_rfl
theorem zh0:tSize P 26=some 1:=by kernel_rfl
theorem zaa:tSize P 28=some 2:=by kernel_rfl
theorem zge:tSize P 3=some 1:=by kernel_rfl
theorem zjk:tSize P 4=some 1:=by kernel_rfl
theorem zaA:tSize P 44=some 4:=by kernel_rfl
theorem zh1:tSize P 59=some 1:=by kernel_rfl
theorem zae:tSize P 61=some 1:=by kernel_rfl
theorem zar:tSize P 93=some 2:=by kernel_rfl
theorem zgM:P.underlying 9=some .string:=by kernel_rfl
theorem ze4:(P.underlying 2).isSome=true:=by kernel_rfl
theorem ziF:(P.underlying 3).isSome=true:=by kernel_rfl
theorem ziG:(P.underlying 5).isSome=true:=by kernel_rfl
theorem zaI:(P.underlying 59).isSome=true:=by kernel_rfl
theorem za7:(P.underlying 61).isSome=true:=by kernel_rfl
theorem ziJ:tZero P 105=some (.agg #[I 0,I 0,I 0]):=by kernel_rfl
theorem zao:tZero P 170=some (.agg #[B false,.slice none 0 0,I 0]):=by kernel_rfl
theorem zb7:tZero P 174=some (.agg #[I 0,Uv 0]):=by kernel_rfl
theorem ziK:tZero P 175=some (.agg #[I 0,Uv 0,I 0,Uv 0,I 0,Uv 0,I 0,Uv 0]):=by kernel_rfl
theorem ziL:tZero P 176=some (.agg #[I 0,I 0]):=by kernel_rfl
theorem ziM:tZero P 182=some (.agg #[B false,.slice none 0 0,B false,.slice none 0 0]):=by kernel_rfl
theorem zfU:tZero P 23=some (I 0):=by kernel_rfl
theorem zh2:tZero P 26=some (.slice none 0 0):=by kernel_rfl
theorem zab:tZero P 28=some (.agg #[B false,.slice none 0 0]):=by kernel_rfl
theorem zjl:tZero P 3=some (I 0):=by kernel_rfl
theorem zbp:tZero P 44=some (.agg #[B false,.slice none 0 0,B false,.slice none 0 0]):=by kernel_rfl
theorem ziR:tZero P 59=some (Uv 0):=by kernel_rfl
theorem zaB:tZero P 61=some (.int .u32 0):=by kernel_rfl
theorem zaT:tZero P 93=some (.agg #[I 0,I 0]):=by kernel_rfl
def E61 (x:Int):List Value:=[.int .u32 x]
theorem E61_len (x:Int):(E61 x).length=1:=C
theorem E61_one (x:Int):oneCells (E61 x)=true:=C
theorem A_105:tAgg P 105=some true∧tSize P 105=some 3:=⟨ziN,ziI⟩
theorem A_170:tAgg P 170=some true∧tSize P 170=some 3:=⟨zdA,zan⟩
theorem A_174:tAgg P 174=some true∧tSize P 174=some 2:=⟨zcH,zak⟩
theorem A_28:tAgg P 28=some true∧tSize P 28=some 2:=⟨zag,zaa⟩
theorem A_44:tAgg P 44=some true∧tSize P 44=some 4:=⟨zb3,zaA⟩
theorem A_93:tAgg P 93=some true∧tSize P 93=some 2:=⟨zcp,zar⟩
abbrev Sh (x:Value):Array Value:=#[.func (.func 38) #[] #[],.func (.func 39) #[] #[],.func (.func 40) #[] #[],.func (.func 41) #[] #[],x]
abbrev Sh0 (x:Value):Array Value:=#[.func (.func 73) #[] #[],.func (.func 74) #[] #[],.func (.func 75) #[] #[],.func (.func 76) #[] #[],x]
abbrev pI3 (b:Nat) (x:Int):Asr:=pt b (Cs #[I x] 3)
abbrev pI2 (b:Nat) (x:Int):Asr:=pt b (Cs #[I x] 2)
abbrev pI23 (b:Nat) (x:Int):Asr:=pt b (Cs #[I x] 23)
abbrev pS0110 (b:Nat) (x:Int):Asr:=pt b (Cs (Sh0 (I x)) 110)
abbrev pW28 (b:Nat) (x:Bool) (s:Value):Asr:=pt b (Cs #[B x,s] 28)
abbrev pB170 (b:Nat) (x:Bool) (s:Value) (y:Int):Asr:=pt b (Cs #[B x,s,I y] 170)
abbrev pJ93 (b:Nat) (x y:Int):Asr:=pt b (Cs #[I x,I y] 93)
abbrev D:Value→List (Int)→Asr:=slE 61 1 E61
abbrev E:Value→List (Int)→Asr:=rdE 1 E61
def zeD (F:Nat) (x1:Int):Option Bool :=
  some (((decide (x1≥(65:Int)))&&(decide (x1≤(90:Int))))||((decide (x1≥(97:Int)))&&(decide (x1≤(122:Int)))))
theorem zgN (F:Nat) (x1:Int) (w0:World) (r:Bool) (M:zeD F x1=some r) :
    Ret P 34 #[.int .i32 x1] w0 (G:=Unit) (λ_=>B r) (λ_ w=>St w0 w noX [] []):=by
 unfold zeD at M; refine roW Tryz.func34 C C C (λa H=>?_); have X:St w0 w0 noX [] []:=Sbw lnn; refine sg (l:=[0]) C<|mv H C λa H=>nk<|sg (l:=[0,1,2,3,4,5,6,7,8,9,10,11,12,13,14]) C<|mv H C λa H=>ov H C (Z.geq C C) λa H=>mv H C λa H=>?_; refine O.cutN (l₁:=[3,4,5]) (l₂:=_) (λa w=>Fr a 17 [] [(0,.int .i32 x1),(2,B false),(8,B ((decide (x1≥(65:Int)))&&(decide (x1≤(90:Int)))))]∧St w0 w noX [] []) C ?_ ?_
 ·rcases Bool.eq_false_or_eq_true (decide (x1≥(65:Int))) with hb2 | hb2
  ·refine og H C hb2 (Z.move C) λa H=>og H C hb2 (Z.leq C C) λa H=>?_; refine ov (v:=B ((decide (x1≥(65:Int)))&&(decide (x1≤(90:Int))))) H C (Z.pick C C C (by rw [hb2]; rfl)) ?_; clear H a; intro a H; exact O.nil ⟨C,H.q C,X⟩
  ·refine sk H C hb2 λa H=>sk H C hb2 λa H=>?_; refine ov (v:=B ((decide (x1≥(65:Int)))&&(decide (x1≤(90:Int))))) H C (Z.pick C C C (by rw [hb2]; rfl)) ?_; clear H a; intro a H; exact O.nil ⟨C,H.q C,X⟩
 clear H X a; (try clear w); rintro a w ⟨H,X⟩; refine mv H C λa H=>?_; refine O.cutN (l₁:=[7,8,9,10,11,12,13]) (l₂:=_) (λa w=>Fr a 17 [] [(2,B false),(16,B (((decide (x1≥(65:Int)))&&(decide (x1≤(90:Int))))||((decide (x1≥(97:Int)))&&(decide (x1≤(122:Int))))))]∧St w0 w noX [] []) C ?_ ?_
 ·rcases Bool.eq_false_or_eq_true ((decide (x1≥(65:Int)))&&(decide (x1≤(90:Int)))) with hb3 | hb3
  ·refine sk H C hb3 λa H=>sk H C hb3 λa H=>sk H C hb3 λa H=>O.skipU H C C C C λa H=>O.skipU H C C C C λa H=>sk H C hb3 λa H=>?_; refine ov (v:=B (((decide (x1≥(65:Int)))&&(decide (x1≤(90:Int))))||((decide (x1≥(97:Int)))&&(decide (x1≤(122:Int)))))) H C (Z.pick C C C (by rw [hb3]; rfl)) ?_; clear H a; intro a H; exact O.nil ⟨C,H.q C,X⟩
  ·refine og H C hb3 (Z.move C) λa H=>og H C hb3 (Z.geq C C) λa H=>og H C hb3 (Z.move C) λa H=>?_; refine O.cutN (l₁:=[10,11,12]) (l₂:=_) (λa w=>Fr a 17 [] [(0,.int .i32 x1),(2,B false),(8,B ((decide (x1≥(65:Int)))&&(decide (x1≤(90:Int))))),(9,B ((decide (x1≥(65:Int)))&&(decide (x1≤(90:Int))))),(10,.int .i32 x1),(11,B (decide (x1≥(97:Int)))),(12,B (decide (x1≥(97:Int)))),(15,B ((decide (x1≥(97:Int)))&&(decide (x1≤(122:Int)))))]∧St w0 w noX [] []) C ?_ ?_
   ·rcases Bool.eq_false_or_eq_true (decide (x1≥(97:Int))) with hb4 | hb4
    ·refine og H C hb4 (Z.move C) λa H=>og H C hb4 (Z.leq C C) λa H=>?_; refine og (v:=B ((decide (x1≥(97:Int)))&&(decide (x1≤(122:Int))))) H C hb3 (Z.pick C C C (by rw [hb4]; rfl)) ?_; clear H a; intro a H; exact O.nil ⟨C,H.q C,X⟩
    ·refine sk H C hb4 λa H=>sk H C hb4 λa H=>?_; refine og (v:=B ((decide (x1≥(97:Int)))&&(decide (x1≤(122:Int))))) H C hb3 (Z.pick C C C (by rw [hb4]; rfl)) ?_; clear H a; intro a H; exact O.nil ⟨C,H.q C,X⟩
   clear H X a; (try clear w); rintro a w ⟨H,X⟩; refine ov (v:=B (((decide (x1≥(65:Int)))&&(decide (x1≤(90:Int))))||((decide (x1≥(97:Int)))&&(decide (x1≤(122:Int)))))) H C (Z.pick C C C (by rw [hb3]; rfl)) ?_; clear H a; intro a H; exact O.nil ⟨C,H.q C,X⟩
 clear H X a; (try clear w); rintro a w ⟨H,X⟩; refine mv H C λa H=>nk<|W.ret<|?_; obtain rfl:=oj M; refine post1 H C (rkt C) ?_; exact ⟨(),C,X.noB⟩
def zei (F:Nat) :Option Unit :=
  some ()
def zej (F:Nat) (x1:ByteArray) (rec4:Int→Option Unit) (x3:Int):Option Unit :=
  if (shas x1 x3)=true then ((zeD F (srun x1 x3)).bind λx6=>if ((!x6)&&((decide ((srun x1 x3)<(48:Int)))||(decide ((srun x1 x3)>(57:Int)))))=true then (none) else (rec4 (spos x1 x3))) else (zei F)
def zcc (F:Nat) (x1:ByteArray):Nat→Int→Option Unit
  | 0,_=>none
  | n+1,x3=>zej F x1 (zcc F x1 n) x3
def ze5 (F:Nat) (x1:ByteArray):Option Unit :=
  zcc F x1 F 0
theorem zhc (F:Nat) (x1:ByteArray) (w0:World) (r:Unit) (M:ze5 F x1=some r) :
    Ret P 28 #[.string x1] w0 (G:=Unit) (λ_=>B true) (λ_ w=>St w0 w noX [] []):=by
 unfold ze5 at M; refine roW Tryz.func28 C C C (λa H=>?_); have X:St w0 w0 noX [] []:=Sbw lnn; refine sg (l:=[0]) C<|mv H C λa H=>nk<|?_; refine W.seqR (λa w=>Fr a 21 [] [(2,B false)]∧St w0 w noX [] []∧zei F=some r) ?_ ?_
 ·refine sg (l:=[0,1]) C<|mv H C λa H=>?_; refine O.rangeS H X C C C zgM ?_; clear H X a; intro b2 w a X H; refine nk ?_; refine W.block<|W.loop (G:=Nat × Int) (λg a w=>match g with | (k4,x3)=>Fr a 21 [] [(2,B false),(6,Pv b2 0)]∧St w0 w noX [] [pt b2 (.stringIter x1 (Int.toNat x3))]∧zcc F x1 k4 x3=some r) (λg=>match g with | (k4,x3)=>k4) (F,0) ⟨H.q C,X,M⟩<|?_; clear H X M a; (try clear w); rintro ⟨k4,x3⟩ a w ⟨H,X,M⟩
  rcases k4 with _ | k4
  · nomatch M
  replace M:zej F x1 (zcc F x1 k4) x3=some r:=M; obtain ⟨rec4,hrec4⟩:∃ f,f=zcc F x1 k4:=⟨_,C⟩; rw [← hrec4] at M; unfold zej at M; refine sg (l:=[0,1]) C ?_
  rcases Bool.eq_false_or_eq_true (shas x1 x3) with hn5 | hn5
  ·replace M:=hm_t M hn5; refine O.nextT (j:=0) (M':=[pt b2 (.stringIter x1 (Int.toNat (spos x1 x3)))]) H X C C C C hn5 C ?_; clear H X a; intro w a X H; refine ex H C C C λa H=>nk<|W.seq<|W.if_tt H C<|W.skip<|ksq<|W.block<|sg (l:=[0,1]) C<|ex H C C C λa H=>mv H C λa H=>?_; refine nk<|sg (l:=[0,1,2,3,4,5,6,7,8,9,10]) C<|mv H C λa H=>?_; refine hb M λx6 hx6 M=>oq H X C zjs (zgN F (srun x1 x3) _ x6 hx6) ?_; rintro _ w X a H; refine ov H C (Z.not C) λa H=>mv H C λa H=>?_; refine O.cutN (l₁:=[4,5,6,7,8,9,10]) (l₂:=_) (λa w=>Fr a 21 [] [(2,B false),(6,Pv b2 0),(20,B ((!x6)&&((decide ((srun x1 x3)<(48:Int)))||(decide ((srun x1 x3)>(57:Int))))))]∧St w0 w noX [] [pt b2 (.stringIter x1 (Int.toNat (spos x1 x3)))]) C ?_ ?_
   ·rcases Bool.eq_false_or_eq_true (!x6) with hb7 | hb7
    ·refine og H C hb7 (Z.move C) λa H=>og H C hb7 (Z.lss C C) λa H=>og H C hb7 (Z.move C) λa H=>?_; refine O.cutN (l₁:=[7,8,9]) (l₂:=_) (λa w=>Fr a 21 [] [(2,B false),(4,.int .i32 (srun x1 x3)),(6,Pv b2 0),(10,.int .i32 (srun x1 x3)),(11,B x6),(12,B (!x6)),(13,B (!x6)),(14,.int .i32 (srun x1 x3)),(15,B (decide ((srun x1 x3)<(48:Int)))),(16,B (decide ((srun x1 x3)<(48:Int)))),(19,B ((decide ((srun x1 x3)<(48:Int)))||(decide ((srun x1 x3)>(57:Int)))))]∧St w0 w noX [] [pt b2 (.stringIter x1 (Int.toNat (spos x1 x3)))]) C ?_ ?_
     ·rcases Bool.eq_false_or_eq_true (decide ((srun x1 x3)<(48:Int))) with hb8 | hb8
      ·refine sk H C hb8 λa H=>sk H C hb8 λa H=>?_; refine og (v:=B ((decide ((srun x1 x3)<(48:Int)))||(decide ((srun x1 x3)>(57:Int))))) H C hb7 (Z.pick C C C (by rw [hb8]; rfl)) ?_; clear H a; intro a H; exact O.nil ⟨C,H.q C,X⟩
      ·refine og H C hb8 (Z.move C) λa H=>og H C hb8 (Z.gtr C C) λa H=>?_; refine og (v:=B ((decide ((srun x1 x3)<(48:Int)))||(decide ((srun x1 x3)>(57:Int))))) H C hb7 (Z.pick C C C (by rw [hb8]; rfl)) ?_; clear H a; intro a H; exact O.nil ⟨C,H.q C,X⟩
     clear H X a; (try clear w); rintro a w ⟨H,X⟩; refine ov (v:=B ((!x6)&&((decide ((srun x1 x3)<(48:Int)))||(decide ((srun x1 x3)>(57:Int)))))) H C (Z.pick C C C (by rw [hb7]; rfl)) ?_; clear H a; intro a H; exact O.nil ⟨C,H.q C,X⟩
    ·refine sk H C hb7 λa H=>sk H C hb7 λa H=>sk H C hb7 λa H=>O.skipU H C C C C λa H=>O.skipU H C C C C λa H=>sk H C hb7 λa H=>?_; refine ov (v:=B ((!x6)&&((decide ((srun x1 x3)<(48:Int)))||(decide ((srun x1 x3)>(57:Int)))))) H C (Z.pick C C C (by rw [hb7]; rfl)) ?_; clear H a; intro a H; exact O.nil ⟨C,H.q C,X⟩
   clear H X a; (try clear w); rintro a w ⟨H,X⟩; refine nk ?_; refine W.if_ H C (λhc9=>?_) (λhc9=>?_)
   ·nomatch hm_t M hc9
   ·replace M:=hm_f M hc9; refine W.skip<|kbn<|?_; refine kth ⟨(k4,spos x1 x3),⟨H.q C,X,?_⟩,Nat.lt_succ_self _⟩; rw [hrec4] at M; exact M
  ·replace M:=hm_f M hn5; refine O.nextF (j:=0) H X C C C C hn5 λa H=>ex H C C C λa H=>nk<|W.seq<|W.if_ff H C<|W.exit<|kte<|kte<|kbk<|?_; replace X:=X.s0; exact kth ⟨H.q C,X,M⟩
 ·clear H X M a; (try clear w); rintro a w ⟨H,X,M⟩; unfold zei at M; refine sg (l:=[0]) C<|mv H C λa H=>nk<|W.ret<|?_; obtain rfl:=oj M; refine post1 H C (rkt C) ?_; exact ⟨(),C,X.noB⟩
def zcP (F:Nat) (x2:List Int) (x3:Int):Option (List Int) :=
  if sbd 0 x3 (x2.length:Int) then some (lsub x2 0 x3) else none
def zb5 (F:Nat) (rec6:Int→Option (List Int)) (x5:Int) (x2:List Int) (x7:Bool):Option (List Int) :=
  if (x7)=true then (rec6 (i64.wrap (x5-1))) else (zcP F x2 x5)
def zbE (F:Nat) (x2:List Int) (rec6:Int→Option (List Int)) (x5:Int):Option (List Int) :=
  if x5>(0:Int) then ((idx x2 (i64.wrap (x5-1))).bind λx10=>zb5 F rec6 x5 x2 (decide (x10=(0:Int)))) else (zb5 F rec6 x5 x2 false)
def zbg (F:Nat) (x2:List Int):Nat→Int→Option (List Int)
  | 0,_=>none
  | n+1,x5=>zbE F x2 (zbg F x2 n) x5
def za9 (F:Nat) (x2:List Int):Option (List Int) :=
  zbg F x2 F (x2.length:Int)
theorem zbh (F:Nat) (s1:Value) (x2:List Int) (w0:World) (h_s1:slOK (hp w0) 61 1 s1 x2.length (encs E61 x2)) (r:List Int) (M:za9 F x2=some r) :
    Ret P 31 #[s1] w0 (G:=Value) (λg1=>g1) (λg1 w=>St w0 w (λk=>s1.ownBlock=some k) [] [D g1 r]):=by
 unfold za9 at M; refine roW Tryz.func31 C C C (λa H=>?_); have X:St w0 w0 (λk=>s1.ownBlock=some k) [] [D s1 x2]:=St.ownE h_s1 lnn (apAll_nil (q:=D s1 x2)); refine sg (l:=[0]) C<|mv H C λa H=>nk<|sg (l:=[0,1,2]) C<|mv H C λa H=>ov (v:=I (x2.length:Int)) H C (Z.lenE (e:=61) (by simpa using zac) C (X.s 0 C)) λa H=>mv H C λa H=>nk<|?_; refine W.seqR (λa w=>∃ (x3:Int),Fr a 21 [] [(0,s1),(2,.slice none 0 0),(3,I x3)]∧St w0 w (λk=>s1.ownBlock=some k) [] [D s1 x2]∧zcP F x2 x3=some r) ?_ ?_
 ·refine W.block<|W.loop (G:=Nat × Int) (λg a w=>match g with | (k6,x5)=>Fr a 21 [] [(0,s1),(2,.slice none 0 0),(3,I x5)]∧St w0 w (λk=>s1.ownBlock=some k) [] [D s1 x2]∧zbg F x2 k6 x5=some r) (λg=>match g with | (k6,x5)=>k6) (F,(x2.length:Int)) ⟨H.q C,X,M⟩<|?_; clear H X M a; (try clear w); rintro ⟨k6,x5⟩ a w ⟨H,X,M⟩
  rcases k6 with _ | k6
  · nomatch M
  replace M:zbE F x2 (zbg F x2 k6) x5=some r:=M; obtain ⟨rec6,hrec6⟩:∃ f,f=zbg F x2 k6:=⟨_,C⟩; rw [← hrec6] at M; unfold zbE at M; refine W.seq<|sg (l:=[0,1,2,3,4,5,6,7,8,9]) C<|mv H C λa H=>ov H C (Z.gtr C C) λa H=>mv H C λa H=>?_; refine O.cutN (l₁:=[3,4,5,6,7,8,9]) (l₂:=_) (λa w=>∃ (x7:Bool),Fr a 21 [] [(0,s1),(2,.slice none 0 0),(3,I x5),(15,B x7)]∧St w0 w (λk=>s1.ownBlock=some k) [] [D s1 x2]∧zb5 F rec6 x5 x2 x7=some r) C ?_ ?_
  ·rcases Bool.eq_false_or_eq_true (decide (x5>(0:Int))) with hb9 | hb9
   ·have hb9p:=of_decide_eq_true hb9; replace M:=hm_p M hb9p; refine og H C hb9 (Z.move C) λa H=>og H C hb9 (Z.move C) λa H=>og H C hb9 (Z.sub C C) λa H=>?_; refine hb M λx10 hx10 M=>og H C hb9 (Z.ixE zac zae C C (X.s 0 C) hx10) λa H=>og H C hb9 (Z.ldE1 (o:=0) zam E61_len C (X.s 0 C) hx10 C C) λa H=>og H C hb9 (Z.eql C C) λa H=>?_; refine ov (v:=B (decide (x10=(0:Int)))) H C (Z.pick C C C (by rw [hb9]; rfl)) ?_; clear H a; intro a H; exact O.nil ⟨C,decide (x10=(0:Int)),H.q C,X,M⟩
   ·have hb9p:=of_decide_eq_false hb9; replace M:=hm_n M hb9p; refine sk H C hb9 λa H=>sk H C hb9 λa H=>sk H C hb9 λa H=>sk H C hb9 λa H=>sk H C hb9 λa H=>sk H C hb9 λa H=>?_; refine ov (v:=B false) H C (Z.pick C C C (by rw [hb9]; rfl)) ?_; clear H a; intro a H; exact O.nil ⟨C,false,H.q C,X,M⟩
  clear H X M a; (try clear w); rintro a w ⟨x7,H,X,M⟩; unfold zb5 at M; refine nk ?_; refine W.if_ H C (λhc8=>?_) (λhc8=>?_)
  ·replace M:=hm_t M hc8; refine W.skip<|ksq<|W.block<|wrL (l:=[0,1,2]) C<|mv H C λa H=>ov H C (Z.sub C C) λa H=>mv H C λa H=>O.nil<|kbn<|?_; refine kth ⟨(k6,i64.wrap (x5-1)),⟨H.q C,X,?_⟩,Nat.lt_succ_self _⟩; rw [hrec6] at M; exact M
  ·replace M:=hm_f M hc8; refine W.exit<|kte<|kte<|kbk<|?_; exact kth ⟨x5,H.q C,X,M⟩
 ·clear H X M a; (try clear w); rintro a w ⟨x3,H,X,M⟩; unfold zcP at M; refine sg (l:=[0,1,2,3]) C<|mv2 H C C λa H=>?_; obtain ⟨hg4,M⟩:=hm_g M; refine ov (v:=vsub 1 s1 0 x3) H C (Z.sliceH zac zae C C (X.s 0 C) hg4) λa H=>mv H C λa H=>nk<|W.ret<|?_; replace X:=X.takeS (j:=0) (M':=[D (vsub 1 s1 0 x3) (lsub x2 0 x3)]) C E61_len hg4 C; obtain rfl:=oj M; refine post1 H C (rkt C) ?_; exact ⟨vsub 1 s1 0 x3,C,X.noB⟩
def zaC (F:Nat) (x1:Bool) (x3:List Int):Option (Bool × (List Int) × Int) :=
  (za9 F x3).bind λx5=>if (x5.length:Int)>(4096:Int) then (some (false,([]:List Int),16)) else (some (x1&&(decide ((x5.length:Int)>(0:Int))),x5,0))
theorem zaE (F:Nat) (x1:Bool) (s2:Value) (x3:List Int) (w0:World) (h_s2:slOK (hp w0) 61 1 s2 x3.length (encs E61 x3)) (r:Bool × (List Int) × Int) (M:zaC F x1 x3=some r) :
    Ret P 20 #[B x1,s2] w0 (G:=Value) (λg1=>.tuple #[.agg #[B r.1,g1],I r.2.2]) (λg1 w=>St w0 w (λk=>s2.ownBlock=some k) [] [D g1 r.2.1]):=by
 unfold zaC at M; refine roW Tryz.func20 C C C (λa H=>?_); have X:St w0 w0 (λk=>s2.ownBlock=some k) [] [D s2 x3]:=St.ownE h_s2 lnn (apAll_nil (q:=D s2 x3)); refine sg (l:=[0,1]) C<|O.alloc (cs:=#[B false,.slice none 0 0]) H X C C zab C<|?_; intro b4 w a hb4 X H; refine mv H C λa H=>nk<|sg (l:=[0,1,2]) C<|mv H C λa H=>?_; refine hb M λx5 hx5 M=>oc H C ze1 (zbh F s2 x3 _ (X.slS (j:=1) C) x5 hx5) ?_; rintro s6 w Y a H; replace X:=X.cz Y 1 λ_ h=>h; refine mv H C λa H=>nk<|W.seq<|sg (l:=[0,1,2]) C<|mv H C λa H=>ov (v:=I (x5.length:Int)) H C (Z.lenE (e:=61) (by simpa using zac) C (X.s 0 C)) λa H=>ov H C (Z.gtr C C) λa H=>nk<|?_; refine W.ifdI H C (λhc7=>?_) (λhc7=>?_)
 ·replace M:=hm_p M hc7; refine sg (l:=[0,1,2]) C<|ov (v:=.agg #[B false,.slice none 0 0]) H C (Z.buildS (cs':=#[B false,.slice none 0 0]) zbv zab C (by kernel_rfl)) λa H=>ost 1 #[B false,.slice none 0 0] H X C C C zaa C C C (bl C) C<|?_; intro w X; refine mv H C λa H=>nk<|W.ret<|ktr<|?_; replace X:=X.nilE 61 1 E61; obtain rfl:=oj M; refine post2 H C (rkn (cs':=#[B false,.slice none 0 0]) C zag zaa (X.p 2 C) (bl C) C) (rkt C) ?_; replace X:=X.nilE 61 1 E61; replace X:=X.sl [1]; exact ⟨(.slice none 0 0),C,X.noB⟩
 ·replace M:=hm_n M hc7; refine W.skip<|ksq<|sg (l:=[0,1,2,3,4,5,6,7,8,9]) C<|mv2 H C C λa H=>?_; refine O.cutN (l₁:=[2,3,4,5]) (l₂:=_) (λa w=>Fr a 20 [] [(1,s6),(4,Pv b4 0),(5,I 0),(17,B (x1&&(decide ((x5.length:Int)>(0:Int)))))]∧St w0 w (λk=>s2.ownBlock=some k) [] [D s6 x5,pt b4 (Cs #[B false,.slice none 0 0] 28)]) C ?_ ?_
  ·rcases Bool.eq_false_or_eq_true (x1) with hb8 | hb8
   ·refine og H C hb8 (Z.move C) λa H=>og (v:=I (x5.length:Int)) H C hb8 (Z.lenE (e:=61) (by simpa using zac) C (X.s 0 C)) λa H=>og H C hb8 (Z.gtr C C) λa H=>?_; refine ov (v:=B (x1&&(decide ((x5.length:Int)>(0:Int))))) H C (Z.pick C C C (by rw [hb8]; rfl)) ?_; clear H a; intro a H; exact O.nil ⟨C,H.q C,X⟩
   ·refine sk H C hb8 λa H=>sk H C hb8 λa H=>sk H C hb8 λa H=>?_; refine ov (v:=B (x1&&(decide ((x5.length:Int)>(0:Int))))) H C (Z.pick C C C (by rw [hb8]; rfl)) ?_; clear H a; intro a H; exact O.nil ⟨C,H.q C,X⟩
  clear H X a; (try clear w); rintro a w ⟨H,X⟩; refine mv H C λa H=>?_; refine ov (v:=.agg #[B (x1&&(decide ((x5.length:Int)>(0:Int)))),s6]) H C (Z.buildS (cs':=#[B (x1&&(decide ((x5.length:Int)>(0:Int)))),s6]) zbv zab C (by simp only [Instr.fill,(rdc (X.s 0 C))]; rfl)) ?_; clear H a; intro a H; refine ost 1 #[B (x1&&(decide ((x5.length:Int)>(0:Int)))),s6] H X C C C zaa C (occ C (occ (rdo (X.s 0 C)) C)) C (bl C) C ?_; intro w X; refine mv H C λa H=>nk<|W.ret<|?_; obtain rfl:=oj M; refine post2 H C (rkn (cs':=#[B (x1&&(decide ((x5.length:Int)>(0:Int)))),s6]) C zag zaa (X.p 1 C) (bl C) C) (rkt C) ?_; replace X:=X.sl [1]; exact ⟨s6,C,X.noB⟩
def zcK (F:Nat) (x1 x3:Int):Option (Bool × (List Int)) :=
  (zaC F (decide (x1<(0:Int))) ([u32.wrap x3,u32.wrap (Int.fdiv x3 (2^32))])).bind λx6=>some (x6.1,x6.2.1)
def zay (F:Nat) (x1:Int):Option (Bool × (List Int)) :=
  if x1<(0:Int) then (zcK F x1 (u64.wrap (0-(u64.wrap x1)))) else (zcK F x1 (u64.wrap x1))
theorem zav (F:Nat) (x1:Int) (w0:World) (r:Bool × (List Int)) (M:zay F x1=some r) :
    Ret P 7 #[I x1] w0 (G:=Value) (λg1=>.agg #[B r.1,g1]) (λg1 w=>St w0 w noX [] [D g1 r.2]):=by
 unfold zay at M; refine roW Tryz.func7 C C C (λa H=>?_); have X:St w0 w0 noX [] []:=Sbw lnn; refine sg (l:=[0]) C<|O.alloc (cs:=#[B false,.slice none 0 0]) H X C C zab C<|?_; intro b2 w a hb2 X H; refine nk<|sg (l:=[0,1,2]) C<|mv H C λa H=>ov (v:=Uv (u64.wrap x1)) H C (Z.conv ze4 zaD C) λa H=>mv H C λa H=>nk<|?_; refine W.seqR (λa w=>∃ (x3:Int),Fr a 25 [] [(0,I x1),(2,Pv b2 0),(3,Uv x3)]∧St w0 w noX [] [pt b2 (Cs #[B false,.slice none 0 0] 28)]∧zcK F x1 x3=some r) ?_ ?_
 ·refine sg (l:=[0,1]) C<|mv H C λa H=>ov H C (Z.lss C C) λa H=>nk<|?_; refine W.ifdI H C (λhc9=>?_) (λhc9=>?_)
  ·replace M:=hm_p M hc9; refine wrL (l:=[0,1,2]) C<|mv H C λa H=>ov (v:=Uv (u64.wrap (0-(u64.wrap x1)))) H C (Z.neg C) λa H=>mv H C λa H=>O.nil<|?_; exact kth ⟨u64.wrap (0-(u64.wrap x1)),H.q C,X,M⟩
  ·replace M:=hm_n M hc9; refine W.skip ?_; exact kth ⟨u64.wrap x1,H.q C,X,M⟩
 ·clear H X M a; (try clear w); rintro a w ⟨x3,H,X,M⟩; unfold zcK at M; refine sg (l:=[0,1,2,3,4,5,6,7,8,9,10,11,12,13,14]) C<|mv H C λa H=>ov H C (Z.lss C C) λa H=>mv H C λa H=>ov (v:=.int .u32 (u32.wrap x3)) H C (Z.conv zaI za6 C) λa H=>mv H C λa H=>ov (v:=Uv (Int.fdiv x3 (2^32))) H C (Z.shr (q:=32) C C (by decide)) λa H=>ov (v:=.int .u32 (u32.wrap (Int.fdiv x3 (2^32)))) H C (Z.conv zaI za6 C) λa H=>O.buildSlice (cs':=#[.int .u32 (u32.wrap x3),.int .u32 (u32.wrap (Int.fdiv x3 (2^32)))]) (zs:=#[.int .u32 0,.int .u32 0]) H X C C zac zae zaB C C C C C<|?_; intro b4 w a hb4 X H; replace X:=X.ptE (j:=0) (enc:=E61) (xs:=[u32.wrap x3,u32.wrap (Int.fdiv x3 (2^32))]) (N:=2) (M':=[D (.slice (some ⟨b4,0,none⟩) 2 2) ([u32.wrap x3,u32.wrap (Int.fdiv x3 (2^32))]),pt b2 (Cs #[B false,.slice none 0 0] 28)]) C C C C C C; obtain ⟨s5,hs5⟩:∃ v,v=(.slice (some ⟨b4,0,none⟩) 2 2:Value):=⟨_,C⟩; rw [← hs5] at H X; replace X:St w0 _ noX [] [D s5 ([u32.wrap x3,u32.wrap (Int.fdiv x3 (2^32))]),pt b2 (Cs #[B false,.slice none 0 0] 28)]:=X; refine hb M λx6 hx6 M=>oc H C zcJ (zaE F (decide (x1<(0:Int))) s5 ([u32.wrap x3,u32.wrap (Int.fdiv x3 (2^32))]) _ (X.slS (j:=0) C) x6 hx6) ?_; rintro s7 w Y a H; replace X:=X.cz Y 0 λ_ h=>h; refine mv H C λa H=>ex H C C C λa H=>ex H C C C λa H=>O.alloc (cs:=#[B false,.slice none 0 0]) H X C C zab C<|?_; intro b8 w a hb8 X H; refine ost 0 #[B x6.1,s7] H X C C C zaa C (occ C (occ (rdo (X.s 1 C)) C)) C (bl C) C ?_; intro w X; refine mv H C λa H=>nk<|sg (l:=[0,1]) C<|ov H C (lN (cs':=#[B x6.1,s7]) A_28 C (X.p 0 C) C C) λa H=>ost 2 #[B x6.1,s7] H X C C C zaa C (occ C (occ (rdo (X.s 1 C)) C)) C (bl C) C<|?_; intro w X; refine nk ?_; replace X:=X.sl [0,1,1]; refine W.ret ?_; obtain rfl:=oj M; refine post1 H C (rkn (cs':=#[B x6.1,s7]) C zag zaa (X.p 1 C) (bl C) C) ?_; replace X:=X.sl [1]; exact ⟨s7,C,X.noB⟩
def zda (F:Nat) :Option Int :=
  some 0
def zcd (F:Nat) (x4:List Int) (x2 x6:Bool):Option Int :=
  if (x6||((decide ((x4.length:Int)=(0:Int)))&&x2))=true then (some 8) else (zda F)
def zce (F:Nat) (x4:List Int) (x2 x11:Bool):Option Int :=
  zcd F x4 x2 x11
def za1 (F:Nat) (x2:Bool) (x4:List Int):Option Int :=
  if (x4.length:Int)>(4096:Int) then (zcd F x4 x2 true) else (if (x4.length:Int)>(0:Int) then ((idx x4 (i64.wrap ((x4.length:Int)-1))).bind λx13=>zce F x4 x2 (decide (x13=(0:Int)))) else (zce F x4 x2 false))
theorem zbF (F b1:Nat) (x2:Bool) (s3:Value) (x4:List Int) (w0:World) (h_s3:rdEOK (hp w0) 1 E61 s3 x4) (h_b1:w0.heap[b1]? = some (.cells #[B x2,s3] 28 (0,0))) (r:Int) (M:za1 F x2 x4=some r) :
    Ret P 18 #[.slice (some ⟨b1,0,none⟩) 1 1] w0 (G:=Unit) (λ_=>I r) (λ_ w=>St w0 w noX [] []):=by
 unfold za1 at M; refine roW Tryz.func18 C C C (λa H=>?_); have X:St w0 w0 noX [E s3 x4,pW28 b1 x2 s3] []:=Sbw (lnc (lendRd h_s3) (lnc (lendPt h_b1) lnn)); refine sg (l:=[0]) C<|mv H C λa H=>nk<|?_; refine W.seqR (λa w=>Fr a 39 [] [(2,I 0)]∧St w0 w noX [E s3 x4,pW28 b1 x2 s3] []∧zda F=some r) ?_ ?_
 ·refine sg (l:=[0,1,2]) C<|mv H C λa H=>ov (v:=I 1) H C (Z.len (e:=28) (by simpa using za4) C) λa H=>mv H C λa H=>nk<|W.block<|?_; refine W.loopH (LH.step ?_); refine sg (l:=[0]) C<|ov H C (Z.lss (p:=0) (q:=1) C C) λa H=>nk<|W.seq<|W.if_tt H C<|W.skip<|ksq<|W.seq<|W.block<|sg (l:=[0,1,2,3]) C<|?_; refine ov H C (Z.indexSl (j:=0) (m:=0) za4 zaa C C C (by decide) C) λa H=>ov H C (Z.loadN (cs':=#[B x2,s3]) zag zaa C (X.bptAt (i:=1) C) (bl C) C) λa H=>O.alloc (cs:=#[B false,.slice none 0 0]) H X C C zab C<|?_; intro b5 w a hb5 X H; refine ost 0 #[B x2,s3] H X C C C zaa C (occ C (occ (rdo (X.b 0 C)) C)) C (bl C) C ?_; intro w X; refine nk<|sg (l:=[0,1,2,3]) C<|ov H C (Z.field zah C C) λa H=>ov (v:=s3) H C (Z.load1 zai C (X.p 0 C) C) λa H=>ov (v:=I (x4.length:Int)) H C (Z.lenE (e:=61) (by simpa using zac) C (X.b 0 C)) λa H=>mv H C λa H=>nk<|sg (l:=[0,1,2,3,4,5,6,7,8,9,10,11,12,13,14,15,16,17,18,19,20,21,22]) C<|mv H C λa H=>ov H C (Z.gtr C C) λa H=>?_; refine mv H C λa H=>?_; refine O.cutN (l₁:=[3,4,5,6,7,8,9,10,11,12,13,14]) (l₂:=_) (λa w=>∃ (x6:Bool),Fr a 39 [] [(2,I 0),(4,Pv b5 0),(5,I (x4.length:Int)),(6,.slice (some ⟨b1,0,none⟩) 1 1),(7,I 1),(8,I 0),(29,B x6)]∧St w0 w noX [E s3 x4,pW28 b1 x2 s3] [pW28 b5 x2 s3]∧zcd F x4 x2 x6=some r) C ?_ ?_
  ·rcases Bool.eq_false_or_eq_true (decide ((x4.length:Int)>(4096:Int))) with hb10 | hb10
   ·have hb10p:=of_decide_eq_true hb10; replace M:=hm_p M hb10p; refine sk H C hb10 λa H=>sk H C hb10 λa H=>sk H C hb10 λa H=>O.skipU H C C C C λa H=>O.skipU H C C C C λa H=>O.skipU H C C C C λa H=>O.skipU H C C C C λa H=>O.skipU H C C C C λa H=>O.skipU H C C C C λa H=>O.skipU H C C C C λa H=>?_; refine sk H C hb10 λa H=>?_; refine ov (v:=B true) H C (Z.pick C C C (by rw [hb10]; rfl)) ?_; clear H a; intro a H; exact O.nil ⟨C,true,H.q C,X,M⟩
   ·have hb10p:=of_decide_eq_false hb10; replace M:=hm_n M hb10p; refine og H C hb10 (Z.move C) λa H=>og H C hb10 (Z.gtr C C) λa H=>og H C hb10 (Z.move C) λa H=>?_; refine O.cutN (l₁:=[6,7,8,9,10,11,12,13]) (l₂:=_) (λa w=>∃ (x11:Bool),Fr a 39 [] [(2,I 0),(4,Pv b5 0),(5,I (x4.length:Int)),(6,.slice (some ⟨b1,0,none⟩) 1 1),(7,I 1),(8,I 0),(15,I (x4.length:Int)),(16,B (decide ((x4.length:Int)>(4096:Int)))),(17,B (decide ((x4.length:Int)>(4096:Int)))),(18,I (x4.length:Int)),(19,B (decide ((x4.length:Int)>(0:Int)))),(20,B (decide ((x4.length:Int)>(0:Int)))),(28,B x11)]∧St w0 w noX [E s3 x4,pW28 b1 x2 s3] [pW28 b5 x2 s3]∧zce F x4 x2 x11=some r) C ?_ ?_
    ·rcases Bool.eq_false_or_eq_true (decide ((x4.length:Int)>(0:Int))) with hb12 | hb12
     ·have hb12p:=of_decide_eq_true hb12; replace M:=hm_p M hb12p; refine og H C hb12 (Z.field zah C C) λa H=>og (v:=s3) H C hb12 (Z.load1 zai C (X.p 0 C) C) λa H=>og H C hb12 (Z.move C) λa H=>og H C hb12 (Z.sub C C) λa H=>?_; refine hb M λx13 hx13 M=>og H C hb12 (Z.ixE zac zae C C (X.b 0 C) hx13) λa H=>og H C hb12 (Z.ldE1 (o:=0) zam E61_len C (X.b 0 C) hx13 C C) λa H=>og H C hb12 (Z.eql C C) λa H=>?_; refine og (v:=B (decide (x13=(0:Int)))) H C hb10 (Z.pick C C C (by rw [hb12]; rfl)) ?_; clear H a; intro a H; exact O.nil ⟨C,decide (x13=(0:Int)),H.q C,X,M⟩
     ·have hb12p:=of_decide_eq_false hb12; replace M:=hm_n M hb12p; refine sk H C hb12 λa H=>sk H C hb12 λa H=>sk H C hb12 λa H=>sk H C hb12 λa H=>sk H C hb12 λa H=>sk H C hb12 λa H=>sk H C hb12 λa H=>?_; refine og (v:=B false) H C hb10 (Z.pick C C C (by rw [hb12]; rfl)) ?_; clear H a; intro a H; exact O.nil ⟨C,false,H.q C,X,M⟩
    clear H X M a; (try clear w); rintro a w ⟨x11,H,X,M⟩; unfold zce at M; refine ov (v:=B x11) H C (Z.pick C C C (by rw [hb10]; rfl)) ?_; clear H a; intro a H; exact O.nil ⟨C,x11,H.q C,X,M⟩
  clear H X M a; (try clear w); rintro a w ⟨x6,H,X,M⟩; unfold zcd at M; refine mv H C λa H=>?_; refine O.cutN (l₁:=[16,17,18,19,20,21,22]) (l₂:=_) (λa w=>Fr a 39 [] [(2,I 0),(6,.slice (some ⟨b1,0,none⟩) 1 1),(7,I 1),(8,I 0),(37,B (x6||((decide ((x4.length:Int)=(0:Int)))&&x2)))]∧St w0 w noX [E s3 x4,pW28 b1 x2 s3] [pW28 b5 x2 s3]) C ?_ ?_
  ·rcases Bool.eq_false_or_eq_true (x6) with hb7 | hb7
   ·refine sk H C hb7 λa H=>sk H C hb7 λa H=>sk H C hb7 λa H=>O.skipU H C C C C λa H=>O.skipU H C C C C λa H=>sk H C hb7 λa H=>?_; refine ov (v:=B (x6||((decide ((x4.length:Int)=(0:Int)))&&x2))) H C (Z.pick C C C (by rw [hb7]; rfl)) ?_; clear H a; intro a H; exact O.nil ⟨C,H.q C,X⟩
   ·refine og H C hb7 (Z.move C) λa H=>og H C hb7 (Z.eql C C) λa H=>og H C hb7 (Z.move C) λa H=>?_; refine O.cutN (l₁:=[19,20,21]) (l₂:=_) (λa w=>Fr a 39 [] [(2,I 0),(4,Pv b5 0),(5,I (x4.length:Int)),(6,.slice (some ⟨b1,0,none⟩) 1 1),(7,I 1),(8,I 0),(29,B x6),(30,B x6),(31,I (x4.length:Int)),(32,B (decide ((x4.length:Int)=(0:Int)))),(33,B (decide ((x4.length:Int)=(0:Int)))),(36,B ((decide ((x4.length:Int)=(0:Int)))&&x2))]∧St w0 w noX [E s3 x4,pW28 b1 x2 s3] [pW28 b5 x2 s3]) C ?_ ?_
    ·rcases Bool.eq_false_or_eq_true (decide ((x4.length:Int)=(0:Int))) with hb8 | hb8
     ·refine og H C hb8 (Z.field zaj C C) λa H=>og H C hb8 (Z.load1 zap C (X.p 0 C) C) λa H=>?_; refine og (v:=B ((decide ((x4.length:Int)=(0:Int)))&&x2)) H C hb7 (Z.pick C C C (by rw [hb8]; rfl)) ?_; clear H a; intro a H; exact O.nil ⟨C,H.q C,X⟩
     ·refine sk H C hb8 λa H=>sk H C hb8 λa H=>?_; refine og (v:=B ((decide ((x4.length:Int)=(0:Int)))&&x2)) H C hb7 (Z.pick C C C (by rw [hb8]; rfl)) ?_; clear H a; intro a H; exact O.nil ⟨C,H.q C,X⟩
    clear H X a; (try clear w); rintro a w ⟨H,X⟩; refine ov (v:=B (x6||((decide ((x4.length:Int)=(0:Int)))&&x2))) H C (Z.pick C C C (by rw [hb7]; rfl)) ?_; clear H a; intro a H; exact O.nil ⟨C,H.q C,X⟩
  clear H X a; (try clear w); rintro a w ⟨H,X⟩; refine nk ?_; replace X:=X.s0; refine W.if_ H C (λhc9=>?_) (λhc9=>?_)
  ·replace M:=hm_t M hc9; refine sg (l:=[0]) C<|mv H C λa H=>nk<|W.ret<|kbr<|ktr<|ktr<|kbr<|ktr<|?_; obtain rfl:=oj M; refine post1 H C (rkt C) ?_; exact ⟨(),C,X.noB⟩
  ·replace M:=hm_f M hc9; refine W.skip<|kbn<|ksq<|wrL (l:=[0,1]) C<|ov H C (Z.add (p:=0) (q:=1) C C) λa H=>mv H C λa H=>O.nil<|?_; refine kth (LH.step ?_); refine sg (l:=[0]) C<|ov H C (Z.lss (p:=1) (q:=1) C C) λa H=>nk<|W.seq<|W.if_ff H C<|W.exit<|kte<|kte<|kbk<|?_; exact kth ⟨H.q C,X,M⟩
 ·clear H X M a; (try clear w); rintro a w ⟨H,X,M⟩; unfold zda at M; refine sg (l:=[0]) C<|mv H C λa H=>nk<|W.ret<|?_; obtain rfl:=oj M; refine post1 H C (rkt C) ?_; exact ⟨(),C,X.noB⟩
def zdq (F:Nat) (x1:Bool) (x3:List Int):Option Int :=
  (za1 F x1 x3).bind λx6=>some x6
theorem zd3 (F:Nat) (x1:Bool) (s2:Value) (x3:List Int) (w0:World) (h_s2:rdEOK (hp w0) 1 E61 s2 x3) (r:Int) (M:zdq F x1 x3=some r) :
    Ret P 95 #[.agg #[B x1,s2]] w0 (G:=Unit) (λ_=>I r) (λ_ w=>St w0 w noX [] []):=by
 unfold zdq at M; refine roW Tryz.func95 C C C (λa H=>?_); have X:St w0 w0 noX [E s2 x3] []:=Sbw (lnc (lendRd h_s2) lnn); refine sg (l:=[0,1]) C<|O.box (cs:=#[B x1,s2]) H X C C C C<|?_; intro b4 w a hb4 X H; refine mv H C λa H=>nk<|sg (l:=[0,1,2,3]) C<|ov H C (lN (cs':=#[B x1,s2]) A_28 C (X.p 0 C) C C) λa H=>O.buildSlice (cs':=#[B x1,s2]) (zs:=#[B false,.slice none 0 0]) H X C C za4 zaa zab C C C C C<|?_; intro b5 w a hb5 X H; refine hb M λx6 hx6 M=>oq H X C zc2 (zbF F b5 x1 s2 x3 _ (X.b 0 C) (X.p 0 C) x6 hx6) ?_; rintro _ w X a H; refine mv H C λa H=>nk<|?_; replace X:=X.s0; refine W.ret ?_; obtain rfl:=oj M; refine post1 H C (rkt C) ?_; exact ⟨(),C,X.noB⟩
def zdb (F:Nat) :Option Int :=
  some 0
def zcf (F:Nat) (x7:List Int) (x5 x14:Bool):Option Int :=
  if (x14||((decide ((x7.length:Int)=(0:Int)))&&x5))=true then (some 8) else (zdb F)
def zcg (F:Nat) (x7:List Int) (x5 x19:Bool):Option Int :=
  zcf F x7 x5 x19
def zbG (F:Nat) (x4:List Int) (x2:Bool) (x7:List Int) (x5 x9:Bool):Option Int :=
  if (x9||((decide ((x4.length:Int)=(0:Int)))&&x2))=true then (some 8) else (if (x7.length:Int)>(4096:Int) then (zcf F x7 x5 true) else (if (x7.length:Int)>(0:Int) then ((idx x7 (i64.wrap ((x7.length:Int)-1))).bind λx21=>zcg F x7 x5 (decide (x21=(0:Int)))) else (zcg F x7 x5 false)))
def zch (F:Nat) (x4:List Int) (x2:Bool) (x7:List Int) (x5 x23:Bool):Option Int :=
  zbG F x4 x2 x7 x5 x23
def za2 (F:Nat) (x2:Bool) (x4:List Int) (x5:Bool) (x7:List Int):Option Int :=
  if (x4.length:Int)>(4096:Int) then (zbG F x4 x2 x7 x5 true) else (if (x4.length:Int)>(0:Int) then ((idx x4 (i64.wrap ((x4.length:Int)-1))).bind λx25=>zch F x4 x2 x7 x5 (decide (x25=(0:Int)))) else (zch F x4 x2 x7 x5 false))
theorem zbH (F b1:Nat) (x2:Bool) (s3:Value) (x4:List Int) (x5:Bool) (s6:Value) (x7:List Int) (w0:World) (h_s3:rdEOK (hp w0) 1 E61 s3 x4) (h_s6:rdEOK (hp w0) 1 E61 s6 x7) (h_b1:w0.heap[b1]? = some (.cells #[B x2,s3,B x5,s6] 28 (0,0))) (r:Int) (M:za2 F x2 x4 x5 x7=some r) :
    Ret P 18 #[.slice (some ⟨b1,0,none⟩) 2 2] w0 (G:=Unit) (λ_=>I r) (λ_ w=>St w0 w noX [] []):=by
 unfold za2 at M; refine roW Tryz.func18 C C C (λa H=>?_); have X:St w0 w0 noX [E s3 x4,E s6 x7,pt b1 (Cs #[B x2,s3,B x5,s6] 28)] []:=Sbw (lnc (lendRd h_s3) (lnc (lendRd h_s6) (lnc (lendPt h_b1) lnn))); refine sg (l:=[0]) C<|mv H C λa H=>nk<|?_; refine W.seqR (λa w=>Fr a 39 [] [(2,I 0)]∧St w0 w noX [E s3 x4,E s6 x7,pt b1 (Cs #[B x2,s3,B x5,s6] 28)] []∧zdb F=some r) ?_ ?_
 ·refine sg (l:=[0,1,2]) C<|mv H C λa H=>ov (v:=I 2) H C (Z.len (e:=28) (by simpa using za4) C) λa H=>mv H C λa H=>nk<|W.block<|?_; refine W.loopH (LH.step ?_); refine sg (l:=[0]) C<|ov H C (Z.lss (p:=0) (q:=2) C C) λa H=>nk<|W.seq<|W.if_tt H C<|W.skip<|ksq<|W.seq<|W.block<|sg (l:=[0,1,2,3]) C<|?_; refine ov H C (Z.indexSl (j:=0) (m:=0) za4 zaa C C C (by decide) C) λa H=>ov H C (Z.loadN (cs':=#[B x2,s3]) zag zaa C (X.bptAt (i:=2) C) (bl C) C) λa H=>O.alloc (cs:=#[B false,.slice none 0 0]) H X C C zab C<|?_; intro b8 w a hb8 X H; refine ost 0 #[B x2,s3] H X C C C zaa C (occ C (occ (rdo (X.b 0 C)) C)) C (bl C) C ?_; intro w X; refine nk<|sg (l:=[0,1,2,3]) C<|ov H C (Z.field zah C C) λa H=>ov (v:=s3) H C (Z.load1 zai C (X.p 0 C) C) λa H=>ov (v:=I (x4.length:Int)) H C (Z.lenE (e:=61) (by simpa using zac) C (X.b 0 C)) λa H=>mv H C λa H=>nk<|sg (l:=[0,1,2,3,4,5,6,7,8,9,10,11,12,13,14,15,16,17,18,19,20,21,22]) C<|mv H C λa H=>ov H C (Z.gtr C C) λa H=>?_; refine mv H C λa H=>?_; refine O.cutN (l₁:=[3,4,5,6,7,8,9,10,11,12,13,14]) (l₂:=_) (λa w=>∃ (x9:Bool),Fr a 39 [] [(2,I 0),(4,Pv b8 0),(5,I (x4.length:Int)),(6,.slice (some ⟨b1,0,none⟩) 2 2),(7,I 2),(8,I 0),(29,B x9)]∧St w0 w noX [E s3 x4,E s6 x7,pt b1 (Cs #[B x2,s3,B x5,s6] 28)] [pW28 b8 x2 s3]∧zbG F x4 x2 x7 x5 x9=some r) C ?_ ?_
  ·rcases Bool.eq_false_or_eq_true (decide ((x4.length:Int)>(4096:Int))) with hb22 | hb22
   ·have hb22p:=of_decide_eq_true hb22; replace M:=hm_p M hb22p; refine sk H C hb22 λa H=>sk H C hb22 λa H=>sk H C hb22 λa H=>O.skipU H C C C C λa H=>O.skipU H C C C C λa H=>O.skipU H C C C C λa H=>O.skipU H C C C C λa H=>O.skipU H C C C C λa H=>O.skipU H C C C C λa H=>O.skipU H C C C C λa H=>?_; refine sk H C hb22 λa H=>?_; refine ov (v:=B true) H C (Z.pick C C C (by rw [hb22]; rfl)) ?_; clear H a; intro a H; exact O.nil ⟨C,true,H.q C,X,M⟩
   ·have hb22p:=of_decide_eq_false hb22; replace M:=hm_n M hb22p; refine og H C hb22 (Z.move C) λa H=>og H C hb22 (Z.gtr C C) λa H=>og H C hb22 (Z.move C) λa H=>?_; refine O.cutN (l₁:=[6,7,8,9,10,11,12,13]) (l₂:=_) (λa w=>∃ (x23:Bool),Fr a 39 [] [(2,I 0),(4,Pv b8 0),(5,I (x4.length:Int)),(6,.slice (some ⟨b1,0,none⟩) 2 2),(7,I 2),(8,I 0),(15,I (x4.length:Int)),(16,B (decide ((x4.length:Int)>(4096:Int)))),(17,B (decide ((x4.length:Int)>(4096:Int)))),(18,I (x4.length:Int)),(19,B (decide ((x4.length:Int)>(0:Int)))),(20,B (decide ((x4.length:Int)>(0:Int)))),(28,B x23)]∧St w0 w noX [E s3 x4,E s6 x7,pt b1 (Cs #[B x2,s3,B x5,s6] 28)] [pW28 b8 x2 s3]∧zch F x4 x2 x7 x5 x23=some r) C ?_ ?_
    ·rcases Bool.eq_false_or_eq_true (decide ((x4.length:Int)>(0:Int))) with hb24 | hb24
     ·have hb24p:=of_decide_eq_true hb24; replace M:=hm_p M hb24p; refine og H C hb24 (Z.field zah C C) λa H=>og (v:=s3) H C hb24 (Z.load1 zai C (X.p 0 C) C) λa H=>og H C hb24 (Z.move C) λa H=>og H C hb24 (Z.sub C C) λa H=>?_; refine hb M λx25 hx25 M=>og H C hb24 (Z.ixE zac zae C C (X.b 0 C) hx25) λa H=>og H C hb24 (Z.ldE1 (o:=0) zam E61_len C (X.b 0 C) hx25 C C) λa H=>og H C hb24 (Z.eql C C) λa H=>?_; refine og (v:=B (decide (x25=(0:Int)))) H C hb22 (Z.pick C C C (by rw [hb24]; rfl)) ?_; clear H a; intro a H; exact O.nil ⟨C,decide (x25=(0:Int)),H.q C,X,M⟩
     ·have hb24p:=of_decide_eq_false hb24; replace M:=hm_n M hb24p; refine sk H C hb24 λa H=>sk H C hb24 λa H=>sk H C hb24 λa H=>sk H C hb24 λa H=>sk H C hb24 λa H=>sk H C hb24 λa H=>sk H C hb24 λa H=>?_; refine og (v:=B false) H C hb22 (Z.pick C C C (by rw [hb24]; rfl)) ?_; clear H a; intro a H; exact O.nil ⟨C,false,H.q C,X,M⟩
    clear H X M a; (try clear w); rintro a w ⟨x23,H,X,M⟩; unfold zch at M; refine ov (v:=B x23) H C (Z.pick C C C (by rw [hb22]; rfl)) ?_; clear H a; intro a H; exact O.nil ⟨C,x23,H.q C,X,M⟩
  clear H X M a; (try clear w); rintro a w ⟨x9,H,X,M⟩; unfold zbG at M; refine mv H C λa H=>?_; refine O.cutN (l₁:=[16,17,18,19,20,21,22]) (l₂:=_) (λa w=>Fr a 39 [] [(2,I 0),(6,.slice (some ⟨b1,0,none⟩) 2 2),(7,I 2),(8,I 0),(37,B (x9||((decide ((x4.length:Int)=(0:Int)))&&x2)))]∧St w0 w noX [E s3 x4,E s6 x7,pt b1 (Cs #[B x2,s3,B x5,s6] 28)] [pW28 b8 x2 s3]) C ?_ ?_
  ·rcases Bool.eq_false_or_eq_true (x9) with hb10 | hb10
   ·refine sk H C hb10 λa H=>sk H C hb10 λa H=>sk H C hb10 λa H=>O.skipU H C C C C λa H=>O.skipU H C C C C λa H=>sk H C hb10 λa H=>?_; refine ov (v:=B (x9||((decide ((x4.length:Int)=(0:Int)))&&x2))) H C (Z.pick C C C (by rw [hb10]; rfl)) ?_; clear H a; intro a H; exact O.nil ⟨C,H.q C,X⟩
   ·refine og H C hb10 (Z.move C) λa H=>og H C hb10 (Z.eql C C) λa H=>og H C hb10 (Z.move C) λa H=>?_; refine O.cutN (l₁:=[19,20,21]) (l₂:=_) (λa w=>Fr a 39 [] [(2,I 0),(4,Pv b8 0),(5,I (x4.length:Int)),(6,.slice (some ⟨b1,0,none⟩) 2 2),(7,I 2),(8,I 0),(29,B x9),(30,B x9),(31,I (x4.length:Int)),(32,B (decide ((x4.length:Int)=(0:Int)))),(33,B (decide ((x4.length:Int)=(0:Int)))),(36,B ((decide ((x4.length:Int)=(0:Int)))&&x2))]∧St w0 w noX [E s3 x4,E s6 x7,pt b1 (Cs #[B x2,s3,B x5,s6] 28)] [pW28 b8 x2 s3]) C ?_ ?_
    ·rcases Bool.eq_false_or_eq_true (decide ((x4.length:Int)=(0:Int))) with hb11 | hb11
     ·refine og H C hb11 (Z.field zaj C C) λa H=>og H C hb11 (Z.load1 zap C (X.p 0 C) C) λa H=>?_; refine og (v:=B ((decide ((x4.length:Int)=(0:Int)))&&x2)) H C hb10 (Z.pick C C C (by rw [hb11]; rfl)) ?_; clear H a; intro a H; exact O.nil ⟨C,H.q C,X⟩
     ·refine sk H C hb11 λa H=>sk H C hb11 λa H=>?_; refine og (v:=B ((decide ((x4.length:Int)=(0:Int)))&&x2)) H C hb10 (Z.pick C C C (by rw [hb11]; rfl)) ?_; clear H a; intro a H; exact O.nil ⟨C,H.q C,X⟩
    clear H X a; (try clear w); rintro a w ⟨H,X⟩; refine ov (v:=B (x9||((decide ((x4.length:Int)=(0:Int)))&&x2))) H C (Z.pick C C C (by rw [hb10]; rfl)) ?_; clear H a; intro a H; exact O.nil ⟨C,H.q C,X⟩
  clear H X a; (try clear w); rintro a w ⟨H,X⟩; refine nk ?_; replace X:=X.s0; refine W.if_ H C (λhc12=>?_) (λhc12=>?_)
  ·replace M:=hm_t M hc12; refine sg (l:=[0]) C<|mv H C λa H=>nk<|W.ret<|kbr<|ktr<|ktr<|kbr<|ktr<|?_; obtain rfl:=oj M; refine post1 H C (rkt C) ?_; exact ⟨(),C,X.noB⟩
  ·replace M:=hm_f M hc12; refine W.skip<|kbn<|ksq<|wrL (l:=[0,1]) C<|ov H C (Z.add (p:=0) (q:=1) C C) λa H=>mv H C λa H=>O.nil<|?_; refine kth (LH.step ?_); refine sg (l:=[0]) C<|ov H C (Z.lss (p:=1) (q:=2) C C) λa H=>nk<|W.seq<|W.if_tt H C<|W.skip<|ksq<|W.seq<|W.block<|sg (l:=[0,1,2,3]) C<|?_; refine ov H C (Z.indexSl (j:=1) (m:=2) za4 zaa C C C (by decide) C) λa H=>ov H C (Z.loadN (cs':=#[B x5,s6]) zag zaa C (X.bptAt (i:=2) C) (bl C) C) λa H=>O.alloc (cs:=#[B false,.slice none 0 0]) H X C C zab C<|?_; intro b13 w a hb13 X H; refine ost 0 #[B x5,s6] H X C C C zaa C (occ C (occ (rdo (X.b 1 C)) C)) C (bl C) C ?_; intro w X; refine nk<|sg (l:=[0,1,2,3]) C<|ov H C (Z.field zah C C) λa H=>ov (v:=s6) H C (Z.load1 zai C (X.p 0 C) C) λa H=>ov (v:=I (x7.length:Int)) H C (Z.lenE (e:=61) (by simpa using zac) C (X.b 1 C)) λa H=>mv H C λa H=>nk<|sg (l:=[0,1,2,3,4,5,6,7,8,9,10,11,12,13,14,15,16,17,18,19,20,21,22]) C<|mv H C λa H=>ov H C (Z.gtr C C) λa H=>?_; refine mv H C λa H=>?_; refine O.cutN (l₁:=[3,4,5,6,7,8,9,10,11,12,13,14]) (l₂:=_) (λa w=>∃ (x14:Bool),Fr a 39 [] [(2,I 0),(4,Pv b13 0),(5,I (x7.length:Int)),(6,.slice (some ⟨b1,0,none⟩) 2 2),(7,I 2),(8,I 1),(29,B x14)]∧St w0 w noX [E s3 x4,E s6 x7,pt b1 (Cs #[B x2,s3,B x5,s6] 28)] [pW28 b13 x5 s6]∧zcf F x7 x5 x14=some r) C ?_ ?_
   ·rcases Bool.eq_false_or_eq_true (decide ((x7.length:Int)>(4096:Int))) with hb18 | hb18
    ·have hb18p:=of_decide_eq_true hb18; replace M:=hm_p M hb18p; refine sk H C hb18 λa H=>sk H C hb18 λa H=>sk H C hb18 λa H=>O.skipU H C C C C λa H=>O.skipU H C C C C λa H=>O.skipU H C C C C λa H=>O.skipU H C C C C λa H=>O.skipU H C C C C λa H=>O.skipU H C C C C λa H=>O.skipU H C C C C λa H=>?_; refine sk H C hb18 λa H=>?_; refine ov (v:=B true) H C (Z.pick C C C (by rw [hb18]; rfl)) ?_; clear H a; intro a H; exact O.nil ⟨C,true,H.q C,X,M⟩
    ·have hb18p:=of_decide_eq_false hb18; replace M:=hm_n M hb18p; refine og H C hb18 (Z.move C) λa H=>og H C hb18 (Z.gtr C C) λa H=>og H C hb18 (Z.move C) λa H=>?_; refine O.cutN (l₁:=[6,7,8,9,10,11,12,13]) (l₂:=_) (λa w=>∃ (x19:Bool),Fr a 39 [] [(2,I 0),(4,Pv b13 0),(5,I (x7.length:Int)),(6,.slice (some ⟨b1,0,none⟩) 2 2),(7,I 2),(8,I 1),(15,I (x7.length:Int)),(16,B (decide ((x7.length:Int)>(4096:Int)))),(17,B (decide ((x7.length:Int)>(4096:Int)))),(18,I (x7.length:Int)),(19,B (decide ((x7.length:Int)>(0:Int)))),(20,B (decide ((x7.length:Int)>(0:Int)))),(28,B x19)]∧St w0 w noX [E s3 x4,E s6 x7,pt b1 (Cs #[B x2,s3,B x5,s6] 28)] [pW28 b13 x5 s6]∧zcg F x7 x5 x19=some r) C ?_ ?_
     ·rcases Bool.eq_false_or_eq_true (decide ((x7.length:Int)>(0:Int))) with hb20 | hb20
      ·have hb20p:=of_decide_eq_true hb20; replace M:=hm_p M hb20p; refine og H C hb20 (Z.field zah C C) λa H=>og (v:=s6) H C hb20 (Z.load1 zai C (X.p 0 C) C) λa H=>og H C hb20 (Z.move C) λa H=>og H C hb20 (Z.sub C C) λa H=>?_; refine hb M λx21 hx21 M=>og H C hb20 (Z.ixE zac zae C C (X.b 1 C) hx21) λa H=>og H C hb20 (Z.ldE1 (o:=0) zam E61_len C (X.b 1 C) hx21 C C) λa H=>og H C hb20 (Z.eql C C) λa H=>?_; refine og (v:=B (decide (x21=(0:Int)))) H C hb18 (Z.pick C C C (by rw [hb20]; rfl)) ?_; clear H a; intro a H; exact O.nil ⟨C,decide (x21=(0:Int)),H.q C,X,M⟩
      ·have hb20p:=of_decide_eq_false hb20; replace M:=hm_n M hb20p; refine sk H C hb20 λa H=>sk H C hb20 λa H=>sk H C hb20 λa H=>sk H C hb20 λa H=>sk H C hb20 λa H=>sk H C hb20 λa H=>sk H C hb20 λa H=>?_; refine og (v:=B false) H C hb18 (Z.pick C C C (by rw [hb20]; rfl)) ?_; clear H a; intro a H; exact O.nil ⟨C,false,H.q C,X,M⟩
     clear H X M a; (try clear w); rintro a w ⟨x19,H,X,M⟩; unfold zcg at M; refine ov (v:=B x19) H C (Z.pick C C C (by rw [hb18]; rfl)) ?_; clear H a; intro a H; exact O.nil ⟨C,x19,H.q C,X,M⟩
   clear H X M a; (try clear w); rintro a w ⟨x14,H,X,M⟩; unfold zcf at M; refine mv H C λa H=>?_; refine O.cutN (l₁:=[16,17,18,19,20,21,22]) (l₂:=_) (λa w=>Fr a 39 [] [(2,I 0),(6,.slice (some ⟨b1,0,none⟩) 2 2),(7,I 2),(8,I 1),(37,B (x14||((decide ((x7.length:Int)=(0:Int)))&&x5)))]∧St w0 w noX [E s3 x4,E s6 x7,pt b1 (Cs #[B x2,s3,B x5,s6] 28)] [pW28 b13 x5 s6]) C ?_ ?_
   ·rcases Bool.eq_false_or_eq_true (x14) with hb15 | hb15
    ·refine sk H C hb15 λa H=>sk H C hb15 λa H=>sk H C hb15 λa H=>O.skipU H C C C C λa H=>O.skipU H C C C C λa H=>sk H C hb15 λa H=>?_; refine ov (v:=B (x14||((decide ((x7.length:Int)=(0:Int)))&&x5))) H C (Z.pick C C C (by rw [hb15]; rfl)) ?_; clear H a; intro a H; exact O.nil ⟨C,H.q C,X⟩
    ·refine og H C hb15 (Z.move C) λa H=>og H C hb15 (Z.eql C C) λa H=>og H C hb15 (Z.move C) λa H=>?_; refine O.cutN (l₁:=[19,20,21]) (l₂:=_) (λa w=>Fr a 39 [] [(2,I 0),(4,Pv b13 0),(5,I (x7.length:Int)),(6,.slice (some ⟨b1,0,none⟩) 2 2),(7,I 2),(8,I 1),(29,B x14),(30,B x14),(31,I (x7.length:Int)),(32,B (decide ((x7.length:Int)=(0:Int)))),(33,B (decide ((x7.length:Int)=(0:Int)))),(36,B ((decide ((x7.length:Int)=(0:Int)))&&x5))]∧St w0 w noX [E s3 x4,E s6 x7,pt b1 (Cs #[B x2,s3,B x5,s6] 28)] [pW28 b13 x5 s6]) C ?_ ?_
     ·rcases Bool.eq_false_or_eq_true (decide ((x7.length:Int)=(0:Int))) with hb16 | hb16
      ·refine og H C hb16 (Z.field zaj C C) λa H=>og H C hb16 (Z.load1 zap C (X.p 0 C) C) λa H=>?_; refine og (v:=B ((decide ((x7.length:Int)=(0:Int)))&&x5)) H C hb15 (Z.pick C C C (by rw [hb16]; rfl)) ?_; clear H a; intro a H; exact O.nil ⟨C,H.q C,X⟩
      ·refine sk H C hb16 λa H=>sk H C hb16 λa H=>?_; refine og (v:=B ((decide ((x7.length:Int)=(0:Int)))&&x5)) H C hb15 (Z.pick C C C (by rw [hb16]; rfl)) ?_; clear H a; intro a H; exact O.nil ⟨C,H.q C,X⟩
     clear H X a; (try clear w); rintro a w ⟨H,X⟩; refine ov (v:=B (x14||((decide ((x7.length:Int)=(0:Int)))&&x5))) H C (Z.pick C C C (by rw [hb15]; rfl)) ?_; clear H a; intro a H; exact O.nil ⟨C,H.q C,X⟩
   clear H X a; (try clear w); rintro a w ⟨H,X⟩; refine nk ?_; replace X:=X.s0; refine W.if_ H C (λhc17=>?_) (λhc17=>?_)
   ·replace M:=hm_t M hc17; refine sg (l:=[0]) C<|mv H C λa H=>nk<|W.ret<|kbr<|ktr<|ktr<|kbr<|ktr<|?_; obtain rfl:=oj M; refine post1 H C (rkt C) ?_; exact ⟨(),C,X.noB⟩
   ·replace M:=hm_f M hc17; refine W.skip<|kbn<|ksq<|wrL (l:=[0,1]) C<|ov H C (Z.add (p:=1) (q:=1) C C) λa H=>mv H C λa H=>O.nil<|?_; refine kth (LH.step ?_); refine sg (l:=[0]) C<|ov H C (Z.lss (p:=2) (q:=2) C C) λa H=>nk<|W.seq<|W.if_ff H C<|W.exit<|kte<|kte<|kbk<|?_; exact kth ⟨H.q C,X,M⟩
 ·clear H X M a; (try clear w); rintro a w ⟨H,X,M⟩; unfold zdb at M; refine sg (l:=[0]) C<|mv H C λa H=>nk<|W.ret<|?_; obtain rfl:=oj M; refine post1 H C (rkt C) ?_; exact ⟨(),C,X.noB⟩
def zd1 (F:Nat) (x2:List Int):Option Unit :=
  some ()
theorem zfE (F:Nat) (s1:Value) (x2:List Int) (w0:World) (h_s1:rdEOK (hp w0) 1 E61 s1 x2) (r:Unit) (M:zd1 F x2=some r) :
    Ret P 49 #[s1] w0 (G:=Nat) (λg1=>.func (.func 84) #[] #[Pv g1 0]) (λg1 w=>St w0 w noX [] [pt g1 (Cs #[s1] 26)]):=by
 unfold zd1 at M; refine roW Tryz.func49 C C C (λa H=>?_); have X:St w0 w0 noX [E s1 x2] []:=Sbw (lnc (lendRd h_s1) lnn); refine sg (l:=[0,1]) C<|O.box (cs:=#[s1]) H X C C C (rdc (X.b 0 C))<|?_; intro b3 w a hb3 X H; refine mv H C λa H=>nk<|sg (l:=[0,1]) C<|ov (v:=.func (.func 84) #[] #[Pv b3 0]) H C (Z.makeFunc C C C C) λa H=>mv H C λa H=>nk<|W.ret<|?_; obtain rfl:=oj M; refine post1 H C (rkt C) ?_; exact ⟨b3,C,X.noB⟩
theorem iter_84 (b:Nat) (s:Value) (l:List Int):IterX P 84 #[Pv b 0] ((downL l).map λp=>(I p.1,.int .u32 p.2)) (RdAt 26 1 E61 b s l):=by
  intro lp R S hdrew hrd hy w h0; refine calls_of_W (l:=[.func (.yield lp) #[] #[],Pv b 0]) Tryz.func84 C C C (λa H=>?_); replace H:Fr a 19 [] [(0,.func (.yield lp) #[] #[]),(1,Pv b 0)]:=H.q C; obtain ⟨hb,hr⟩:=hrd 0 w h0; have hlen:=hr.le; refine sg (l:=[0,1,2,3]) C<|ov (v:=s) H C (Z.load1 zai C hb C) λa H=>ov H C (Z.lenE (e:=61) (by simpa using zac) C hr) λa H=>ov H C (Z.sub C C) λa H=>mv H C λa H=>nk<|?_; have hw1:IntKind.i64.wrap ((l.length:Int)-1)=(l.length:Int)-1-(0:Nat):=by
    rw [IntKind.wrap_i64]; unfold maxLen at hlen; omega
  rw [hw1] at H; replace H:Fr a 19 [] [(0,.func (.yield lp) #[] #[]),(1,Pv b 0),(3,I ((l.length:Int)-1-(0:Nat)))]:=H.q C; refine W.block<|W.loop (G:=Nat) (λk a w=>Fr a 19 [] [(0,.func (.yield lp) #[] #[]),(1,Pv b 0),(3,I ((l.length:Int)-1-k))]∧R k w∧k≤l.length) (λk=>l.length-k) 0 ⟨H,h0,Nat.zero_le _⟩<|?_; clear H hb hr h0 a; (try clear w); rintro k a w ⟨H,hR,hk⟩; obtain ⟨hb,hr⟩:=hrd k w hR; refine W.seq<|sg (l:=[0,1]) C<|mv H C λa H=>ov H C (Z.geq C C) λa H=>nk<|?_; refine W.ifdI H C (λhc=>?_) (λhc=>?_)
  · refine W.skip ?_
    refine ksq ?_; have hk1:k<l.length:=by omega
    have hi:idx l ((l.length:Int)-1-k)=some l[l.length-1-k]:=by
      unfold idx; rw [if_pos (by omega),List.getElem?_eq_some_iff]; refine ⟨by omega,?_⟩
      congr 1; omega
    have hx:((downL l).map λp=>(I p.1,Value.int .u32 p.2))[k]? = some (I ((l.length:Int)-1-k),.int .u32 l[l.length-1-k]):=by
      rw [List.getElem?_map,downL_get hk1]; simp only [Option.map_some,Option.some.injEq,Prod.mk.injEq,and_true]
      congr 1; omega
    refine W.seq<|W.block<|sg (l:=[0,1,2,3,4,5,6,7]) C<|mv H C λa H=>mv H C λa H=>ov (v:=s) H C (Z.load1 zai C hb C) λa H=>mv H C λa H=>ov (v:=ix s _) H C (Z.ixE zac zae C C hr hi) λa H=>ov H C (Z.ldE1 (o:=0) zam E61_len C hr hi C C) λa H=>O.yield2 H C C C C C (hy k _ hx w hR)<|?_; clear H hR hb hr a; (try clear w); intro c w a hc2 H; refine ov H C (Z.not C) λa H=>nk<|?_
    rcases hc2 with ⟨rfl,hR⟩ | ⟨rfl,hR⟩
    · refine W.if_ff H C ?_
      refine W.skip<|kbn<|ksq<|wrL (l:=[0,1,2]) C<|mv H C λa H=>ov H C (Z.sub C C) λa H=>mv H C λa H=>O.nil<|?_; have hw2:IntKind.i64.wrap ((l.length:Int)-1-k-1)=(l.length:Int)-1-(k+1:Nat):=by
        rw [IntKind.wrap_i64]; unfold maxLen at hlen; omega
      rw [hw2] at H; refine kth ⟨k+1,⟨H.q C,hR,by omega⟩,by omega⟩
    · refine W.if_tt H C ?_
      refine W.ret<|kbr<|ktr<|ktr<|kbr<|?_; refine post0 (H.to (L':=[]) trivial) C ⟨⟨_,C⟩,.inr hR⟩
  · refine W.exit ?_
    refine kte<|kte<|kbk<|?_; have hk2:k=l.length:=by omega
    subst hk2
    refine post_normal ?_; refine post0 (H.to (L':=[]) trivial) C ⟨⟨_,C⟩,.inl (by rw [List.length_map,downL_len]; exact hR)⟩
def zbX (F:Nat) (x14:Int):Option Int :=
  some x14
def zdk (F:Nat)  :Option Int :=
  some 0
def zcw (F:Nat) (x4:List Int) (rec11:Option Int) (x12 x13:Int) :Option Int :=
  (idx x4 x12).bind λx15=>if x13<(x15:Int) then (zbX F (-1)) else (if x13>(x15:Int) then (zbX F 1) else (rec11))
def zaO (F:Nat) (x4:List Int):List (Int × Int)→Option Int
  | []=>zdk F
  | p::t=>zcw F x4 (zaO F x4 t) p.1 p.2
def zbm (F:Nat) (x2 x4:List Int):Option Int :=
  if (x2.length:Int)≠((x4.length:Int):Int) then (if (x2.length:Int)<((x4.length:Int):Int) then (some (-1)) else (some 1)) else ((zd1 F x2).bind λx9=>zaO F x4 (downL x2))
theorem zcx (F:Nat) (s1:Value) (x2:List Int) (s3:Value) (x4:List Int) (w0:World) (h_s1:rdEOK (hp w0) 1 E61 s1 x2) (h_s3:rdEOK (hp w0) 1 E61 s3 x4) (r:Int) (M:zbm F x2 x4=some r) :
    Ret P 32 #[s1,s3] w0 (G:=Unit) (λ_=>I r) (λ_ w=>St w0 w noX [] []):=by
 unfold zbm at M; refine ret_of_WM (lv:=[s1,s3]) Tryz.func32 C C C (λa H=>?_); have X:St w0 w0 noX [E s1 x2,E s3 x4] []:=Sbw (lnc (lendRd h_s1) (lnc (lendRd h_s3) lnn)); replace X:=X.mk0; refine sg (l:=[0,1]) C<|O.box (cs:=#[s3]) H X C C C (rdc (X.b 1 C))<|?_; intro b5 w a hb5 X H; refine O.alloc (cs:=#[I 0]) H X C C zjl C ?_; intro b6 w a hb6 X H; refine nk<|W.seq<|sg (l:=[0,1,2,3,4]) C<|mv H C λa H=>ov (v:=I (x2.length:Int)) H C (Z.lenE (e:=61) (by simpa using zac) C (X.b 0 C)) λa H=>ov (v:=s3) H C (Z.load1 zai C (X.p 1 C) C) λa H=>ov (v:=I (x4.length:Int)) H C (Z.lenE (e:=61) (by simpa using zac) C (X.b 1 C)) λa H=>ov H C (Z.neq C C) λa H=>nk<|?_; refine W.ifdI H C (λhc7=>?_) (λhc7=>?_)
 ·replace M:=hm_p M hc7; refine W.seq<|sg (l:=[0,1,2,3,4]) C<|mv H C λa H=>ov (v:=I (x2.length:Int)) H C (Z.lenE (e:=61) (by simpa using zac) C (X.b 0 C)) λa H=>ov (v:=s3) H C (Z.load1 zai C (X.p 1 C) C) λa H=>ov (v:=I (x4.length:Int)) H C (Z.lenE (e:=61) (by simpa using zac) C (X.b 1 C)) λa H=>ov H C (Z.lss C C) λa H=>nk<|?_; refine W.ifdI H C (λhc8=>?_) (λhc8=>?_)
  ·replace M:=hm_p M hc8; refine sg (l:=[0]) C<|ost 0 #[I (-1)] H X C C C zge C C C (bl C) C<|?_; intro w X; refine nk<|W.ret<|ktr<|ktr<|?_; replace X:=X.fr 1; replace X:=X.fr 1; replace X:=X.fr 2; refine postM (Ds:=[]) X H (λw a H X=>?_); obtain rfl:=oj M; refine post1 H C (rkc C zbl (X.p 0 C) C) ?_; replace X:=X.s0; exact ⟨(),C,X.noB⟩
  ·replace M:=hm_n M hc8; refine W.skip<|ksq<|sg (l:=[0]) C<|ost 0 #[I 1] H X C C C zge C C C (bl C) C<|?_; intro w X; refine nk<|W.ret<|ktr<|?_; replace X:=X.fr 1; replace X:=X.fr 1; replace X:=X.fr 2; refine postM (Ds:=[]) X H (λw a H X=>?_); obtain rfl:=oj M; refine post1 H C (rkc C zbl (X.p 0 C) C) ?_; replace X:=X.s0; exact ⟨(),C,X.noB⟩
 ·replace M:=hm_n M hc7; refine W.skip<|ksq<|W.seq<|sg (l:=[0,1]) C<|mv H C λa H=>?_; refine hb M λx9 hx9 M=>oq H X C zhP (zfE F s1 x2 _ (X.b 0 C) x9 hx9) ?_; rintro b10 w X a H; refine nk<|W.block<|?_; replace X:=X.fr 1; replace X:=X.fr 2; replace X:=X.fr 3; refine W.rangeFn2 (G:=Unit) (G2:=Int) (gf:=84) (lb:=#[Pv b10 0]) (xs:=(downL x2).map (λp:Int × Int=>(I p.1,Value.int .u32 p.2))) (λx y=>[(3,Pv b5 0),(4,Pv b6 0),(5,x),(6,y),(18,.func (.func 84) #[] #[Pv b10 0]),(19,x),(20,y)]) (λg=>match g with | _=>[mkA [],pt b5 (Cs #[s3] 26),pI3 b6 0,pt b10 (Cs #[s1] 26)]) (λk g=>match g with | _=>zaO F x4 ((downL x2).drop k)=some r) () (RdAt 26 1 E61 b10 s1 x2) (λg=>match g with | x14=>[mkA [],pt b5 (Cs #[s3] 26),pI3 b6 x14,pt b10 (Cs #[s1] 26)]) (λg=>match g with | x14=>zbX F x14=some r) H C C C zhT X M (iter_84 _ _ _) ?_ ?_ ?_ ?_ ?_
  ·rintro _ w X; replace X:St w0 w noX [E s1 x2,E s3 x4] [mkA [],pt b5 (Cs #[s3] 26),pI3 b6 0,pt b10 (Cs #[s1] 26)]:=X; exact ⟨X.ptAt (i:=3) C,(X.b 0 C)⟩
  ·clear H X M a; (try clear w); intro l x y w a H; refine sg (l:=[0]) C<|mv H C λa H=>nk<|wrL (l:=[0]) C<|mv H C λa H=>O.nil<|?_; exact ⟨C,H.q C,C⟩
  ·clear H X M a; (try clear w); rintro dl11 do11 dD11 k11 x y _ w hx M X a H; obtain ⟨⟨x12,x13⟩,hp,hxy⟩:=down_x hx; obtain ⟨rfl,rfl⟩:=Prod.mk.inj hxy; replace X:St w0 w noX [E s1 x2,E s3 x4] [pt dl11 do11,pt dD11 (.deferred (some [])),mkA [],pt b5 (Cs #[s3] 26),pI3 b6 0,pt b10 (Cs #[s1] 26)]:=X; replace M:zaO F x4 ((downL x2).drop k11)=some r:=M; rw [drop_cons hp] at M; replace M:zcw F x4 (zaO F x4 ((downL x2).drop (k11+1))) x12 x13=some r:=M; obtain ⟨rec11,hrec11⟩:∃ f,f=zaO F x4 ((downL x2).drop (k11+1)):=⟨_,C⟩; rw [← hrec11] at M; unfold zcw at M; refine W.block<|W.seq<|sg (l:=[0,1,2,3,4,5]) C<|mv H C λa H=>ov (v:=s3) H C (Z.load1 zai C (X.p 3 C) C) λa H=>mv H C λa H=>?_; refine hb M λx15 hx15 M=>ov H C (Z.ixE zac zae C C (X.b 1 C) hx15) λa H=>ov H C (Z.ldE1 (o:=0) zam E61_len C (X.b 1 C) hx15 C C) λa H=>ov H C (Z.lss C C) λa H=>nk<|?_; refine W.ifdI H C (λhc16=>?_) (λhc16=>?_)
   ·replace M:=hm_p M hc16; refine sg (l:=[0]) C<|ost 4 #[I (-1)] H X C C C zge C C C (bl C) C<|?_; intro w X; refine nk<|W.ret<|ktr<|kbr<|?_; exact .inr ⟨C,-1,M,X⟩
   ·replace M:=hm_n M hc16; refine W.skip<|ksq<|sg (l:=[0,1,2,3,4,5]) C<|mv H C λa H=>ov (v:=s3) H C (Z.load1 zai C (X.p 3 C) C) λa H=>mv H C λa H=>ov H C (Z.ixE zac zae C C (X.b 1 C) hx15) λa H=>ov H C (Z.ldE1 (o:=0) zam E61_len C (X.b 1 C) hx15 C C) λa H=>ov H C (Z.gtr C C) λa H=>nk<|?_; refine W.ifdI H C (λhc17=>?_) (λhc17=>?_)
    ·replace M:=hm_p M hc17; refine sg (l:=[0]) C<|ost 4 #[I 1] H X C C C zge C C C (bl C) C<|?_; intro w X; refine nk<|W.ret<|kbr<|?_; exact .inr ⟨C,1,M,X⟩
    ·replace M:=hm_n M hc17; refine W.skip<|kbn<|?_; exact .inl ⟨C,(),by rw [hrec11] at M; exact M,X⟩
  ·clear H X M a; (try clear w); rintro dD11 _ a w M X H; replace M:zaO F x4 ((downL x2).drop ((downL x2).map (λp:Int × Int=>(I p.1,Value.int .u32 p.2))).length)=some r:=M; rw [List.length_map,List.drop_length] at M; replace M:zdk F=some r:=M; unfold zdk at M; replace H:Fr a 33 (mkDs (dD11::[])) [(3,Pv b5 0),(4,Pv b6 0),(18,.func (.func 84) #[] #[Pv b10 0])]:=H.q C; replace X:St w0 w noX [E s1 x2,E s3 x4] (pt dD11 (.deferred (some []))::[mkA [],pt b5 (Cs #[s3] 26),pI3 b6 0,pt b10 (Cs #[s1] 26)]):=X; replace X:=X.mkCons; refine kbn<|ksq<|sg (l:=[0]) C<|ost 2 #[I 0] H X C C C zge C C C (bl C) C<|?_; intro w X; refine nk<|W.ret<|?_; refine postM (Ds:=(dD11::[])) X H (λw a H X=>?_); obtain rfl:=oj M; refine post1 H C (rkc C zbl (X.p 1 C) C) ?_; replace X:=X.s0; exact ⟨(),C,X.noB⟩
  ·clear H X M a; (try clear w); rintro dD11 x14 a w M X H; replace M:zbX F x14=some r:=M; unfold zbX at M; replace H:Fr a 33 (mkDs (dD11::[])) [(3,Pv b5 0),(4,Pv b6 0),(18,.func (.func 84) #[] #[Pv b10 0])]:=H.q C; replace X:St w0 w noX [E s1 x2,E s3 x4] (pt dD11 (.deferred (some []))::[mkA [],pt b5 (Cs #[s3] 26),pI3 b6 x14,pt b10 (Cs #[s1] 26)]):=X; replace X:=X.mkCons; refine kbr<|ktr<|?_; refine postM (Ds:=(dD11::[])) X H (λw a H X=>?_); obtain rfl:=oj M; refine post1 H C (rkc C zbl (X.p 1 C) C) ?_; replace X:=X.s0; exact ⟨(),C,X.noB⟩
def zdE (F:Nat) (x1:Bool) (x3:List Int) (x4:Bool) (x6:List Int):Option Int :=
  if (x1&&(!x4))=true then (some (-1)) else (if ((!x1)&&x4)=true then (some 1) else (if (x1)=true then ((zbm F x6 x3).bind λx14=>some x14) else ((zbm F x3 x6).bind λx15=>some x15)))
theorem zg6 (F:Nat) (x1:Bool) (s2:Value) (x3:List Int) (x4:Bool) (s5:Value) (x6:List Int) (w0:World) (h_s2:rdEOK (hp w0) 1 E61 s2 x3) (h_s5:rdEOK (hp w0) 1 E61 s5 x6) (r:Int) (M:zdE F x1 x3 x4 x6=some r) :
    Ret P 22 #[.agg #[B x1,s2],.agg #[B x4,s5]] w0 (G:=Unit) (λ_=>I r) (λ_ w=>St w0 w noX [] []):=by
 unfold zdE at M; refine roW Tryz.func22 C C C (λa H=>?_); have X:St w0 w0 noX [E s2 x3,E s5 x6] []:=Sbw (lnc (lendRd h_s2) (lnc (lendRd h_s5) lnn)); refine sg (l:=[0,1,2]) C<|O.box (cs:=#[B x1,s2]) H X C C C C<|?_; intro b7 w a hb7 X H; refine O.box (cs:=#[B x4,s5]) H X C C C C ?_; intro b8 w a hb8 X H; refine mv H C λa H=>nk<|W.seq<|W.block<|sg (l:=[0,1,2,3,4,5,6,7]) C<|ov H C (Z.field zgd C C) λa H=>ov H C (Z.load1 zap C (X.p 1 C) C) λa H=>mv H C λa H=>?_; refine O.cutN (l₁:=[3,4,5,6]) (l₂:=_) (λa w=>Fr a 34 [] [(2,Pv b7 0),(3,Pv b8 0),(4,I 0),(12,B (x1&&(!x4)))]∧St w0 w noX [E s2 x3,E s5 x6] [pW28 b8 x4 s5,pt b7 (Cs #[B x1,s2] 64)]) C ?_ ?_
 ·rcases Bool.eq_false_or_eq_true (x1) with hb9 | hb9
  ·refine og H C hb9 (Z.field zaj C C) λa H=>og H C hb9 (Z.load1 zap C (X.p 0 C) C) λa H=>og H C hb9 (Z.not C) λa H=>?_; refine ov (v:=B (x1&&(!x4))) H C (Z.pick C C C (by rw [hb9]; rfl)) ?_; clear H a; intro a H; exact O.nil ⟨C,H.q C,X⟩
  ·refine sk H C hb9 λa H=>sk H C hb9 λa H=>sk H C hb9 λa H=>?_; refine ov (v:=B (x1&&(!x4))) H C (Z.pick C C C (by rw [hb9]; rfl)) ?_; clear H a; intro a H; exact O.nil ⟨C,H.q C,X⟩
 clear H X a; (try clear w); rintro a w ⟨H,X⟩; refine mv H C λa H=>nk<|?_; refine W.if_ H C (λhc10=>?_) (λhc10=>?_)
 ·replace M:=hm_t M hc10; refine sg (l:=[0]) C<|mv H C λa H=>nk<|W.ret<|kbr<|ktr<|?_; obtain rfl:=oj M; refine post1 H C (rkt C) ?_; replace X:=X.s0; exact ⟨(),C,X.noB⟩
 ·replace M:=hm_f M hc10; refine sg (l:=[0,1,2,3,4,5,6,7]) C<|ov H C (Z.field zgd C C) λa H=>ov H C (Z.load1 zap C (X.p 1 C) C) λa H=>ov H C (Z.not C) λa H=>mv H C λa H=>?_; refine O.cutN (l₁:=[4,5,6]) (l₂:=_) (λa w=>Fr a 34 [] [(2,Pv b7 0),(3,Pv b8 0),(4,I 0),(20,B ((!x1)&&x4))]∧St w0 w noX [E s2 x3,E s5 x6] [pW28 b8 x4 s5,pt b7 (Cs #[B x1,s2] 64)]) C ?_ ?_
  ·rcases Bool.eq_false_or_eq_true (!x1) with hb11 | hb11
   ·refine og H C hb11 (Z.field zaj C C) λa H=>og H C hb11 (Z.load1 zap C (X.p 0 C) C) λa H=>?_; refine ov (v:=B ((!x1)&&x4)) H C (Z.pick C C C (by rw [hb11]; rfl)) ?_; clear H a; intro a H; exact O.nil ⟨C,H.q C,X⟩
   ·refine sk H C hb11 λa H=>sk H C hb11 λa H=>?_; refine ov (v:=B ((!x1)&&x4)) H C (Z.pick C C C (by rw [hb11]; rfl)) ?_; clear H a; intro a H; exact O.nil ⟨C,H.q C,X⟩
  clear H X a; (try clear w); rintro a w ⟨H,X⟩; refine mv H C λa H=>nk<|?_; refine W.if_ H C (λhc12=>?_) (λhc12=>?_)
  ·replace M:=hm_t M hc12; refine sg (l:=[0]) C<|mv H C λa H=>nk<|W.ret<|kbr<|ktr<|?_; obtain rfl:=oj M; refine post1 H C (rkt C) ?_; replace X:=X.s0; exact ⟨(),C,X.noB⟩
  ·replace M:=hm_f M hc12; refine sg (l:=[0,1,2]) C<|ov H C (Z.field zgd C C) λa H=>ov H C (Z.load1 zap C (X.p 1 C) C) λa H=>mv H C λa H=>nk<|?_; refine W.if_ H C (λhc13=>?_) (λhc13=>?_)
   ·replace M:=hm_t M hc13; refine sg (l:=[0,1,2,3,4,5]) C<|ov H C (Z.field zah C C) λa H=>ov (v:=s5) H C (Z.load1 zai C (X.p 0 C) C) λa H=>ov H C (Z.field zhb C C) λa H=>ov (v:=s2) H C (Z.load1 zai C (X.p 1 C) C) λa H=>?_; refine hb M λx14 hx14 M=>oq H X C zgD (zcx F s5 x6 s2 x3 _ (X.b 1 C) (X.b 0 C) x14 hx14) ?_; rintro _ w X a H; refine mv H C λa H=>nk<|W.ret<|kbr<|ktr<|?_; obtain rfl:=oj M; refine post1 H C (rkt C) ?_; replace X:=X.s0; exact ⟨(),C,X.noB⟩
   ·replace M:=hm_f M hc13; refine W.skip<|kbn<|ksq<|sg (l:=[0,1,2,3,4,5]) C<|ov H C (Z.field zhb C C) λa H=>ov (v:=s2) H C (Z.load1 zai C (X.p 1 C) C) λa H=>ov H C (Z.field zah C C) λa H=>ov (v:=s5) H C (Z.load1 zai C (X.p 0 C) C) λa H=>?_; refine hb M λx15 hx15 M=>oq H X C zgD (zcx F s2 x3 s5 x6 _ (X.b 0 C) (X.b 1 C) x15 hx15) ?_; rintro _ w X a H; refine mv H C λa H=>nk<|?_; replace X:=X.s0; refine W.ret ?_; obtain rfl:=oj M; refine post1 H C (rkt C) ?_; exact ⟨(),C,X.noB⟩
def zbA (F:Nat) (x1:Bool) (x3:List Int) (x4:Bool) (x6:List Int):Option (Int × Int) :=
  (za2 F x1 x3 x4 x6).bind λx10=>if x10≠(0:Int) then (some (0,x10)) else ((zdE F x1 x3 x4 x6).bind λx12=>some (x12,0))
theorem zbY (F:Nat) (x1:Bool) (s2:Value) (x3:List Int) (x4:Bool) (s5:Value) (x6:List Int) (w0:World) (h_s2:rdEOK (hp w0) 1 E61 s2 x3) (h_s5:rdEOK (hp w0) 1 E61 s5 x6) (r:Int × Int) (M:zbA F x1 x3 x4 x6=some r) :
    Ret P 9 #[.agg #[B x1,s2],.agg #[B x4,s5]] w0 (G:=Unit) (λ_=>.tuple #[I r.1,I r.2]) (λ_ w=>St w0 w noX [] []):=by
 unfold zbA at M; refine roW Tryz.func9 C C C (λa H=>?_); have X:St w0 w0 noX [E s2 x3,E s5 x6] []:=Sbw (lnc (lendRd h_s2) (lnc (lendRd h_s5) lnn)); refine sg (l:=[0,1,2,3]) C<|O.box (cs:=#[B x1,s2]) H X C C C C<|?_; intro b7 w a hb7 X H; refine O.box (cs:=#[B x4,s5]) H X C C C C ?_; intro b8 w a hb8 X H; refine mv2 H C C λa H=>nk<|W.seq<|sg (l:=[0,1,2,3,4]) C<|ov H C (lN (cs':=#[B x1,s2]) A_28 C (X.p 1 C) C C) λa H=>ov H C (lN (cs':=#[B x4,s5]) A_28 C (X.p 0 C) C C) λa H=>O.buildSlice (cs':=#[B x1,s2,B x4,s5]) (zs:=#[B false,.slice none 0 0,B false,.slice none 0 0]) H X C C za4 zaa zab C C C C C<|?_; intro b9 w a hb9 X H; refine hb M λx10 hx10 M=>oq H X C zc2 (zbH F b9 x1 s2 x3 x4 s5 x6 _ (X.b 0 C) (X.b 1 C) (X.p 0 C) x10 hx10) ?_; rintro _ w X a H; refine mv H C λa H=>nk<|?_; replace X:=X.sl [0,1,1]; refine sg (l:=[0,1]) C<|mv H C λa H=>ov H C (Z.neq C C) λa H=>nk<|?_; refine W.ifdI H C (λhc11=>?_) (λhc11=>?_)
 ·replace M:=hm_p M hc11; refine sg (l:=[0,1,2]) C<|mv2 H C C λa H=>mv H C λa H=>nk<|W.ret<|ktr<|?_; obtain rfl:=oj M; refine post2 H C (rkt C) (rkt C) ?_; replace X:=X.s0; exact ⟨(),C,X.noB⟩
 ·replace M:=hm_n M hc11; refine W.skip<|ksq<|sg (l:=[0,1,2]) C<|ov H C (lN (cs':=#[B x1,s2]) A_28 C (X.p 1 C) C C) λa H=>ov (v:=.func (.func 22) #[.agg #[B x1,s2]] #[]) H C (Z.makeFunc C C C C) λa H=>mv H C λa H=>nk<|?_; replace X:=X.sl [1]; refine sg (l:=[0,1,2,3,4]) C<|mv H C λa H=>ov H C (lN (cs':=#[B x4,s5]) A_28 C (X.p 0 C) C C) λa H=>?_; refine hb M λx12 hx12 M=>oq H X C zjr (zg6 F x1 s2 x3 x4 s5 x6 _ (X.b 0 C) (X.b 1 C) x12 hx12) ?_; rintro _ w X a H; refine mv2 H C C λa H=>nk<|?_; replace X:=X.s0; refine W.ret ?_; obtain rfl:=oj M; refine post2 H C (rkt C) (rkt C) ?_; exact ⟨(),C,X.noB⟩
def zgv (F:Nat) (x1:Bool) (x3:List Int):Option (Int × Int) :=
  (zbA F x1 x3 false ([]:List Int)).bind λx5=>some x5
theorem zhU (F:Nat) (x1:Bool) (s2:Value) (x3:List Int) (w0:World) (h_s2:rdEOK (hp w0) 1 E61 s2 x3) (r:Int × Int) (M:zgv F x1 x3=some r) :
    Ret P 138 #[.agg #[B x1,s2]] w0 (G:=Unit) (λ_=>.tuple #[I r.1,I r.2]) (λ_ w=>St w0 w noX [] []):=by
 unfold zgv at M; refine roW Tryz.func138 C C C (λa H=>?_); have X:St w0 w0 noX [E s2 x3] []:=Sbw (lnc (lendRd h_s2) lnn); refine sg (l:=[0,1,2]) C<|O.box (cs:=#[B x1,s2]) H X C C C C<|?_; intro b4 w a hb4 X H; refine mv2 H C C λa H=>nk<|sg (l:=[0,1,2,3,4,5,6]) C<|ov H C (lN (cs':=#[B x1,s2]) A_28 C (X.p 0 C) C C) λa H=>ov (v:=.agg #[B false,.slice none 0 0]) H C (Z.buildS (cs':=#[B false,.slice none 0 0]) zbv zab C (by kernel_rfl)) λa H=>?_; refine hb M λx5 hx5 M=>oq H X C zfT (zbY F x1 s2 x3 false (.slice none 0 0) ([]:List Int) _ (X.b 0 C) rdEOK_nil x5 hx5) ?_; rintro _ w X a H; refine ex H C C C λa H=>ex H C C C λa H=>mv2 H C C λa H=>nk<|?_; replace X:=X.s0; refine W.ret ?_; obtain rfl:=oj M; refine post2 H C (rkt C) (rkt C) ?_; exact ⟨(),C,X.noB⟩
def zba (F:Nat) (x1:Bool) (x3:List Int):Option Int :=
  (zgv F x1 x3).bind λx5=>some x5.1
theorem za0 (F:Nat) (x1:Bool) (s2:Value) (x3:List Int) (w0:World) (h_s2:rdEOK (hp w0) 1 E61 s2 x3) (r:Int) (M:zba F x1 x3=some r) :
    Ret P 109 #[.agg #[B x1,s2]] w0 (G:=Unit) (λ_=>I r) (λ_ w=>St w0 w noX [] []):=by
 unfold zba at M; refine roW Tryz.func109 C C C (λa H=>?_); have X:St w0 w0 noX [E s2 x3] []:=Sbw (lnc (lendRd h_s2) lnn); refine sg (l:=[0,1]) C<|O.box (cs:=#[B x1,s2]) H X C C C C<|?_; intro b4 w a hb4 X H; refine mv H C λa H=>nk<|sg (l:=[0,1,2,3,4,5,6]) C<|ov H C (lN (cs':=#[B x1,s2]) A_28 C (X.p 0 C) C C) λa H=>?_; refine hb M λx5 hx5 M=>oq H X C zi7 (zhU F x1 s2 x3 _ (X.b 0 C) x5 hx5) ?_; rintro _ w X a H; refine mv H C λa H=>ex H C C C λa H=>ex H C C C λa H=>mv2 H C C λa H=>nk<|?_; replace X:=X.s0; refine sg (l:=[0,1]) C<|mv2 H C C λa H=>nk<|W.ret<|?_; obtain rfl:=oj M; refine post1 H C (rkt C) ?_; exact ⟨(),C,X.noB⟩
def zaN (F:Nat) (x1:Int):Option (Bool × (List Int)) :=
  (zay F x1).bind λx3=>some x3
theorem zaF (F:Nat) (x1:Int) (w0:World) (r:Bool × (List Int)) (M:zaN F x1=some r) :
    Ret P 131 #[I x1] w0 (G:=Value) (λg1=>.agg #[B r.1,g1]) (λg1 w=>St w0 w noX [] [D g1 r.2]):=by
 unfold zaN at M; refine roW Tryz.func131 C C C (λa H=>?_); have X:St w0 w0 noX [] []:=Sbw lnn; refine sg (l:=[0]) C<|O.alloc (cs:=#[B false,.slice none 0 0]) H X C C zab C<|?_; intro b2 w a hb2 X H; refine nk<|sg (l:=[0,1,2]) C<|mv H C λa H=>?_; refine hb M λx3 hx3 M=>oq H X C zca (zav F x1 _ x3 hx3) ?_; rintro s4 w X a H; refine ost 1 #[B x3.1,s4] H X C C C zaa C (occ C (occ (rdo (X.s 0 C)) C)) C (bl C) C ?_; intro w X; refine nk<|W.ret<|?_; obtain rfl:=oj M; refine post1 H C (rkn (cs':=#[B x3.1,s4]) C zag zaa (X.p 1 C) (bl C) C) ?_; replace X:=X.sl [1]; exact ⟨s4,C,X.noB⟩
def zfF (F:Nat) (x7:List Int) (x8:Int):Option (List Int) :=
  if (x7.length:Int)≤4294967296 then some (x7++[u32.wrap x8]) else none
def zfG (F:Nat) (x2:List Int) (x3:Int) (rec16:(List Int)→Int→Int→Option (List Int)) (x13:List Int) (x14 x15:Int):Option (List Int) :=
  if x15<((x2.length:Int):Int) then ((idx x2 x15).bind λx18=>if 0≤(Int.tmod x3 32) then (some (bitor .u64 x14 (u64.wrap ((u64.wrap x18)*2^(min (Int.toNat (Int.tmod x3 32)) (IntKind.bits .u64)))))).bind λx20=>if (x13.length:Int)≤4294967296 then rec16 (x13++[u32.wrap x20]) (Int.fdiv x20 (2^32)) (i64.wrap (x15+1)) else none else none) else (zfF F x13 x14)
def zdr (F:Nat) (x2:List Int) (x3:Int):Nat→(List Int)→Int→Int→Option (List Int)
  | 0,_,_,_=>none
  | n+1,x13,x14,x15=>zfG F x2 x3 (zdr F x2 x3 n) x13 x14 x15
def zeK (F:Nat) (x2:List Int) (x3:Int):Option (List Int) :=
  if 0≤(i64.wrap (Int.tdiv x3 32))∧(i64.wrap (Int.tdiv x3 32))≤(i64.wrap ((i64.wrap ((i64.wrap (Int.tdiv x3 32))+(x2.length:Int)))+1))∧(i64.wrap ((i64.wrap ((i64.wrap (Int.tdiv x3 32))+(x2.length:Int)))+1))≤4294967296 then zdr F x2 x3 F (List.replicate (Int.toNat (i64.wrap (Int.tdiv x3 32))) (0:Int)) 0 0 else none
theorem zfH (F:Nat) (s1:Value) (x2:List Int) (x3:Int) (w0:World) (h_s1:rdEOK (hp w0) 1 E61 s1 x2) (r:List Int) (M:zeK F x2 x3=some r) :
    Ret P 113 #[s1,I x3] w0 (G:=Value) (λg1=>g1) (λg1 w=>St w0 w noX [] [D g1 r]):=by
 unfold zeK at M; refine roW Tryz.func113 C C C (λa H=>?_); have X:St w0 w0 noX [E s1 x2] []:=Sbw (lnc (lendRd h_s1) lnn); refine sg (l:=[0]) C<|mv H C λa H=>nk<|sg (l:=[0,1,2,3,4,5,6,7,8,9]) C<|mv H C λa H=>ov (v:=I (i64.wrap (Int.tdiv x3 32))) H C (Z.quo (q:=32) C C (by decide)) λa H=>mv H C λa H=>ov (v:=I (i64.wrap (Int.tdiv x3 32))) H C (Z.quo (q:=32) C C (by decide)) λa H=>mv H C λa H=>ov (v:=I (x2.length:Int)) H C (Z.lenE (e:=61) (by simpa using zac) C (X.b 0 C)) λa H=>?_; refine ov H C (Z.add C C) λa H=>ov H C (Z.add C C) λa H=>?_; obtain ⟨hg4,M⟩:=hm_g M; refine O.makeCapE (enc:=E61) (x0:=(0:Int)) H X C C zac zae za5 zaB C C C hg4 C E61_len C ?_; intro s5 w a X H; refine mv H C λa H=>nk<|sg (l:=[0]) C<|mv H C λa H=>nk<|?_; refine W.seqR (λa w=>∃ (s6:Value) (x7:List Int) (x8:Int),Fr a 44 [] [(4,.slice none 0 0),(5,s6),(6,Uv x8)]∧St w0 w noX [E s1 x2] [D s6 x7]∧zfF F x7 x8=some r) ?_ ?_
 ·refine sg (l:=[0,1,2]) C<|mv H C λa H=>ov (v:=I (x2.length:Int)) H C (Z.lenE (e:=61) (by simpa using zac) C (X.b 0 C)) λa H=>mv H C λa H=>nk<|?_; refine W.block<|W.loop (G:=Nat × Value × (List Int) × Int × Int) (λg a w=>match g with | (k16,s12,x13,x14,x15)=>Fr a 44 [] [(1,I x3),(4,.slice none 0 0),(5,s12),(6,Uv x14),(18,s1),(19,I (x2.length:Int)),(20,I x15)]∧St w0 w noX [E s1 x2] [D s12 x13]∧zdr F x2 x3 k16 x13 x14 x15=some r) (λg=>match g with | (k16,s12,x13,x14,x15)=>k16) (F,s5,List.replicate (Int.toNat (i64.wrap (Int.tdiv x3 32))) (0:Int),0,0) ⟨H.q C,X,M⟩<|?_; clear H X M a; (try clear w); rintro ⟨k16,s12,x13,x14,x15⟩ a w ⟨H,X,M⟩
  rcases k16 with _ | k16
  · nomatch M
  replace M:zfG F x2 x3 (zdr F x2 x3 k16) x13 x14 x15=some r:=M; obtain ⟨rec16,hrec16⟩:∃ f,f=zdr F x2 x3 k16:=⟨_,C⟩; rw [← hrec16] at M; unfold zfG at M; refine sg (l:=[0]) C<|ov H C (Z.lss C C) λa H=>nk<|W.seq<|?_; refine W.ifdI H C (λhc17=>?_) (λhc17=>?_)
  ·replace M:=hm_p M hc17; refine W.skip<|ksq<|W.seq<|W.block<|sg (l:=[0,1,2]) C<|?_; refine hb M λx18 hx18 M=>ov H C (Z.ixE zac zae C C (X.b 0 C) hx18) λa H=>ov H C (Z.ldE1 (o:=0) zam E61_len C (X.b 0 C) hx18 C C) λa H=>mv H C λa H=>nk<|sg (l:=[0,1,2,3,4,5,6,7]) C<|mv2 H C C λa H=>ov (v:=Uv (u64.wrap x18)) H C (Z.conv za7 zaD C) λa H=>mv H C λa H=>ov (v:=I (Int.tmod x3 32)) H C (Z.rem (q:=32) C C (by decide)) λa H=>?_; obtain ⟨hg19,M⟩:=hm_g M; refine ov (v:=Uv (u64.wrap ((u64.wrap x18)*2^(min (Int.toNat (Int.tmod x3 32)) (IntKind.bits .u64))))) H C (Z.shl C C hg19) λa H=>ov (v:=Uv (bitor .u64 x14 (u64.wrap ((u64.wrap x18)*2^(min (Int.toNat (Int.tmod x3 32)) (IntKind.bits .u64)))))) H C (Z.bitor C C) λa H=>mv H C λa H=>nk<|?_; obtain ⟨x20,hx20,M⟩:=hm_b M; rw [oj hx20] at H; refine sg (l:=[0,1,2,3,4,5]) C<|mv2 H C C λa H=>ov (v:=.int .u32 (u32.wrap x20)) H C (Z.conv zaI za6 C) λa H=>O.buildSlice (cs':=#[.int .u32 (u32.wrap x20)]) (zs:=#[.int .u32 0]) H X C C zac zae zaB C C C C C<|?_; intro b21 w a hb21 X H; obtain ⟨hg22,M⟩:=hm_g M; refine O.appendE1 (j:=1) (jj:=0) (enc:=E61) (m:=[u32.wrap x20]) (l':=x13++[u32.wrap x20]) H X C C zac zae za5 zaB C C C C C C C C C C hg22 C C C ?_; intro s23 w a X H; replace X:St w0 _ noX [E s1 x2] [pt b21 (Cs #[.int .u32 (u32.wrap x20)] 61),D s23 (x13++[u32.wrap x20])]:=X; refine mv H C λa H=>nk<|?_; replace X:=X.sl [0,1]; refine wrL (l:=[0,1,2]) C<|mv H C λa H=>ov (v:=Uv (Int.fdiv x20 (2^32))) H C (Z.shr (q:=32) C C (by decide)) λa H=>mv H C λa H=>O.nil<|kbn<|ksq<|wrL (l:=[0,1]) C<|ov H C (Z.add C C) λa H=>mv H C λa H=>?_; refine O.nil ?_; refine kth ⟨(k16,s23,x13++[u32.wrap x20],Int.fdiv x20 (2^32),i64.wrap (x15+1)),⟨H.q C,X,?_⟩,Nat.lt_succ_self _⟩; rw [hrec16] at M; exact M
  ·replace M:=hm_n M hc17; refine W.exit<|kte<|kte<|kbk<|?_; exact kth ⟨s12,x13,x14,H.q C,X,M⟩
 ·clear H X M a; (try clear w); rintro a w ⟨s6,x7,x8,H,X,M⟩; unfold zfF at M; refine sg (l:=[0,1,2,3,4,5]) C<|mv2 H C C λa H=>ov (v:=.int .u32 (u32.wrap x8)) H C (Z.conv zaI za6 C) λa H=>O.buildSlice (cs':=#[.int .u32 (u32.wrap x8)]) (zs:=#[.int .u32 0]) H X C C zac zae zaB C C C C C<|?_; intro b9 w a hb9 X H; obtain ⟨hg10,M⟩:=hm_g M; refine O.appendE1 (j:=1) (jj:=0) (enc:=E61) (m:=[u32.wrap x8]) (l':=x7++[u32.wrap x8]) H X C C zac zae za5 zaB C C C C C C C C C C hg10 C C C ?_; intro s11 w a X H; replace X:St w0 _ noX [E s1 x2] [pt b9 (Cs #[.int .u32 (u32.wrap x8)] 61),D s11 (x7++[u32.wrap x8])]:=X; refine mv H C λa H=>nk<|?_; replace X:=X.sl [0,1]; refine W.ret ?_; obtain rfl:=oj M; refine post1 H C (rkt C) ?_; exact ⟨s11,C,X.noB⟩
def zfI (F:Nat) (x1:Int):Option Bool :=
  some (decide (x1>(0:Int)))
theorem zhs (F:Nat) (x1:Int) (w0:World) (r:Bool) (M:zfI F x1=some r) :
    Ret P 142 #[.int .u32 x1] w0 (G:=Unit) (λ_=>B r) (λ_ w=>St w0 w noX [] []):=by
 unfold zfI at M; refine roW Tryz.func142 C C C (λa H=>?_); have X:St w0 w0 noX [] []:=Sbw lnn; refine sg (l:=[0]) C<|mv H C λa H=>nk<|sg (l:=[0,1,2]) C<|mv H C λa H=>ov H C (Z.gtr C C) λa H=>mv H C λa H=>nk<|W.ret<|?_; obtain rfl:=oj M; refine post1 H C (rkt C) ?_; exact ⟨(),C,X.noB⟩
def zaJ (F:Nat) :Option Int :=
  some (-1)
def zaK (F:Nat) (x2:List Int) (rec4:Int→Option Int) (x3:Int):Option Int :=
  if x3<((x2.length:Int):Int) then ((idx x2 x3).bind λx6=>(zfI F x6).bind λx7=>if (x7)=true then (some x3) else (rec4 (i64.wrap (x3+1)))) else (zaJ F)
def zaq (F:Nat) (x2:List Int):Nat→Int→Option Int
  | 0,_=>none
  | n+1,x3=>zaK F x2 (zaq F x2 n) x3
def zaP (F:Nat) (x2:List Int):Option Int :=
  zaq F x2 F 0
theorem zcL (F:Nat) (s1:Value) (x2:List Int) (w0:World) (h_s1:rdEOK (hp w0) 1 E61 s1 x2) (r:Int) (M:zaP F x2=some r) :
    Ret P 155 #[s1,.func (.func 142) #[] #[]] w0 (G:=Unit) (λ_=>I r) (λ_ w=>St w0 w noX [] []):=by
 unfold zaP at M; refine roW Tryz.func155 C C C (λa H=>?_); have X:St w0 w0 noX [E s1 x2] []:=Sbw (lnc (lendRd h_s1) lnn); refine sg (l:=[0]) C<|mv H C λa H=>nk<|?_; refine W.seqR (λa w=>Fr a 19 [] [(4,I 0)]∧St w0 w noX [E s1 x2] []∧zaJ F=some r) ?_ ?_
 ·refine sg (l:=[0,1,2]) C<|mv H C λa H=>ov (v:=I (x2.length:Int)) H C (Z.lenE (e:=61) (by simpa using zac) C (X.b 0 C)) λa H=>mv H C λa H=>nk<|?_; refine W.block<|W.loop (G:=Nat × Int) (λg a w=>match g with | (k4,x3)=>Fr a 19 [] [(0,s1),(1,.func (.func 142) #[] #[]),(4,I 0),(7,I (x2.length:Int)),(8,I x3)]∧St w0 w noX [E s1 x2] []∧zaq F x2 k4 x3=some r) (λg=>match g with | (k4,x3)=>k4) (F,0) ⟨H.q C,X,M⟩<|?_; clear H X M a; (try clear w); rintro ⟨k4,x3⟩ a w ⟨H,X,M⟩
  rcases k4 with _ | k4
  · nomatch M
  replace M:zaK F x2 (zaq F x2 k4) x3=some r:=M; obtain ⟨rec4,hrec4⟩:∃ f,f=zaq F x2 k4:=⟨_,C⟩; rw [← hrec4] at M; unfold zaK at M; refine sg (l:=[0]) C<|ov H C (Z.lss C C) λa H=>nk<|W.seq<|?_; refine W.ifdI H C (λhc5=>?_) (λhc5=>?_)
  ·replace M:=hm_p M hc5; refine W.skip<|ksq<|W.seq<|W.block<|sg (l:=[0,1]) C<|mv2 H C C λa H=>nk<|sg (l:=[0,1,2,3,4,5]) C<|mv H C λa H=>?_; refine mv2 H C C λa H=>?_; refine hb M λx6 hx6 M=>ov H C (Z.ixE zac zae C C (X.b 0 C) hx6) λa H=>ov H C (Z.ldE1 (o:=0) zam E61_len C (X.b 0 C) hx6 C C) λa H=>?_; refine hb M λx7 hx7 M=>oq H X C zi9 (zhs F x6 _ x7 hx7) ?_; rintro _ w X a H; refine nk ?_; refine W.if_ H C (λhc8=>?_) (λhc8=>?_)
   ·replace M:=hm_t M hc8; refine sg (l:=[0,1]) C<|mv2 H C C λa H=>nk<|W.ret<|kbr<|ktr<|ktr<|kbr<|ktr<|?_; obtain rfl:=oj M; refine post1 H C (rkt C) ?_; exact ⟨(),C,X.noB⟩
   ·replace M:=hm_f M hc8; refine W.skip<|kbn<|ksq<|wrL (l:=[0,1]) C<|ov H C (Z.add C C) λa H=>mv H C λa H=>O.nil<|?_; refine kth ⟨(k4,i64.wrap (x3+1)),⟨H.q C,X,?_⟩,Nat.lt_succ_self _⟩; rw [hrec4] at M; exact M
  ·replace M:=hm_n M hc5; refine W.exit<|kte<|kte<|kbk<|?_; exact kth ⟨H.q C,X,M⟩
 ·clear H X M a; (try clear w); rintro a w ⟨H,X,M⟩; unfold zaJ at M; refine sg (l:=[0]) C<|mv H C λa H=>nk<|W.ret<|?_; obtain rfl:=oj M; refine post1 H C (rkt C) ?_; exact ⟨(),C,X.noB⟩
def zaL (F:Nat) (x2:List Int):Option Bool :=
  (zaP F x2).bind λx3=>some (decide (x3≥(0:Int)))
theorem zcq (F:Nat) (s1:Value) (x2:List Int) (w0:World) (h_s1:rdEOK (hp w0) 1 E61 s1 x2) (r:Bool) (M:zaL F x2=some r) :
    Ret P 141 #[s1,.func (.func 142) #[] #[]] w0 (G:=Unit) (λ_=>B r) (λ_ w=>St w0 w noX [] []):=by
 unfold zaL at M; refine roW Tryz.func141 C C C (λa H=>?_); have X:St w0 w0 noX [E s1 x2] []:=Sbw (lnc (lendRd h_s1) lnn); refine sg (l:=[0]) C<|mv H C λa H=>nk<|sg (l:=[0,1,2,3,4]) C<|mv2 H C C λa H=>?_; refine hb M λx3 hx3 M=>oq H X C zje (zcL F s1 x2 _ (X.b 0 C) x3 hx3) ?_; rintro _ w X a H; refine ov H C (Z.geq C C) λa H=>mv H C λa H=>nk<|W.ret<|?_; obtain rfl:=oj M; refine post1 H C (rkt C) ?_; exact ⟨(),C,X.noB⟩
def ze6 (F:Nat) (x7:Bool) (x18:List Int) (x19:Int):Option ((List Int) × Bool) :=
  some (x18,x7||(decide (x19>(0:Int))))
def ze7 (F:Nat) (x3:Int) (rec15:(List Int)→Int→Option ((List Int) × Bool)) (x16 x17:Int) (x18:List Int) (x19:Int):Option ((List Int) × Bool) :=
  (some (bitor .u64 (u64.wrap (x19*2^32)) (u64.wrap x17))).bind λx21=>if 0≤(Int.tmod x3 32) then (idx x18 x16).bind λx23=>if 0≤(Int.tmod x3 32) then rec15 (x18.set (Int.toNat x16) (u32.wrap (Int.fdiv x21 (2^(min (Int.toNat (Int.tmod x3 32)) (IntKind.bits .u64)))))) (bitand .u64 x21 (u64.wrap ((u64.wrap (1*2^(min (Int.toNat (Int.tmod x3 32)) (IntKind.bits .u64))))-1))) else none else none
def zbL (F:Nat) (x3:Int) (x7:Bool):List (Int × Int)→(List Int)→Int→Option ((List Int) × Bool)
  | [],x18,x19=>ze6 F x7 x18 x19
  | p::t,x18,x19=>ze7 F x3 (zbL F x3 x7 t) p.1 p.2 x18 x19
def zek (F:Nat) (x2:List Int) (x3:Int):Option ((List Int) × Bool) :=
  (some (if (x2.length:Int)<(i64.wrap (Int.tdiv x3 32)) then (x2.length:Int) else (i64.wrap (Int.tdiv x3 32)))).bind λx5=>if sbd 0 x5 (x2.length:Int) then (zaL F (lsub x2 0 x5)).bind λx7=>if 0≤(i64.wrap ((x2.length:Int)-x5))∧(i64.wrap ((x2.length:Int)-x5))≤4294967296 then if sbd x5 (x2.length:Int) (x2.length:Int) then (zd1 F (lsub x2 x5 (x2.length:Int))).bind λx13=>zbL F x3 x7 (downL (lsub x2 x5 (x2.length:Int))) (List.replicate (Int.toNat (i64.wrap ((x2.length:Int)-x5))) (0:Int)) 0 else none else none else none
theorem ze8 (F:Nat) (s1:Value) (x2:List Int) (x3:Int) (w0:World) (h_s1:rdEOK (hp w0) 1 E61 s1 x2) (r:(List Int) × Bool) (M:zek F x2 x3=some r) :
    Ret P 114 #[s1,I x3] w0 (G:=Value) (λg1=>.tuple #[g1,B r.2]) (λg1 w=>St w0 w noX [] [D g1 r.1]):=by
 unfold zek at M; refine ret_of_WM (lv:=[s1,I x3]) Tryz.func114 C C C (λa H=>?_); have X:St w0 w0 noX [E s1 x2] []:=Sbw (lnc (lendRd h_s1) lnn); replace X:=X.mk0; refine sg (l:=[0,1,2]) C<|O.box (cs:=#[I x3]) H X C C C C<|?_; intro b4 w a hb4 X H; refine mv2 H C C λa H=>nk<|sg (l:=[0,1,2,3,4,5]) C<|ov H C (Z.load1 zbl C (X.p 0 C) C) λa H=>ov (v:=I (i64.wrap (Int.tdiv x3 32))) H C (Z.quo (q:=32) C C (by decide)) λa H=>mv H C λa H=>ov (v:=I (x2.length:Int)) H C (Z.lenE (e:=61) (by simpa using zac) C (X.b 0 C)) λa H=>ov (v:=I (if (x2.length:Int)<(i64.wrap (Int.tdiv x3 32)) then (x2.length:Int) else (i64.wrap (Int.tdiv x3 32)))) H C (Z.min C C) λa H=>mv H C λa H=>?_; refine nk ?_; obtain ⟨x5,hx5,M⟩:=hm_b M; rw [oj hx5] at H; refine sg (l:=[0,1,2,3,4]) C<|mv2 H C C λa H=>?_; obtain ⟨hg6,M⟩:=hm_g M; refine ov (v:=vsub 1 s1 0 x5) H C (Z.sliceH zac zae C C (X.b 0 C) hg6) λa H=>?_; refine hb M λx7 hx7 M=>oq H X C zi8 (zcq F (vsub 1 s1 0 x5) (lsub x2 0 x5) _ (rdEOK.sub (X.b 0 C) E61_len hg6) x7 hx7) ?_; rintro _ w X a H; refine mv H C λa H=>nk<|sg (l:=[0,1,2,3,4,5,6]) C<|mv H C λa H=>ov (v:=I (x2.length:Int)) H C (Z.lenE (e:=61) (by simpa using zac) C (X.b 0 C)) λa H=>mv H C λa H=>ov H C (Z.sub C C) λa H=>?_; obtain ⟨hg8,M⟩:=hm_g M; refine O.makeE (enc:=E61) (x0:=(0:Int)) H X C C zac zae za5 zaB C C C hg8 C E61_len C ?_; intro s9 w a X H; refine O.alloc (cs:=#[.slice none 0 0]) H X C C zh2 C ?_; intro b10 w a hb10 X H; refine O.store (m:=1) (j:=0) (cs':=#[s9]) (M':=[pt b10 (Cs #[s9] 26),D s9 (List.replicate (Int.toNat (i64.wrap ((x2.length:Int)-x5))) (0:Int)),pI3 b4 x3,mkA []]) H X C C C zh0 (by rw [rdc (X.s 1 C)]; rfl) (by rw [rdc (X.s 1 C)]; exact rdo (X.s 1 C)) C (bl C) (by rw [rdc (X.s 1 C)]; rfl) C ?_; intro w X; refine nk<|sg (l:=[0]) C<|O.alloc (cs:=#[Uv 0]) H X C C ziR C<|?_; intro b11 w a hb11 X H; refine nk<|W.seq<|sg (l:=[0,1,2,3]) C<|mv2 H C C λa H=>?_; obtain ⟨hg12,M⟩:=hm_g M; refine ov (v:=vsub 1 s1 x5 (x2.length:Int)) H C (Z.sliceL zac zae C C (X.b 0 C) hg12) λa H=>?_; refine hb M λx13 hx13 M=>oq H X C zhP (zfE F (vsub 1 s1 x5 (x2.length:Int)) (lsub x2 x5 (x2.length:Int)) _ (rdEOK.sub (X.b 0 C) E61_len hg12) x13 hx13) ?_; rintro b14 w X a H; refine nk<|W.block<|?_; replace X:=X.fr 1; replace X:=X.fr 2; replace X:=X.fr 3; replace X:=X.fr 4; replace X:=X.fr 5; refine W.rangeFn2 (G:=(List Int) × Int) (G2:=Unit) (gf:=84) (lb:=#[Pv b14 0]) (xs:=(downL (lsub x2 x5 (x2.length:Int))).map (λp:Int × Int=>(I p.1,Value.int .u32 p.2))) (λx y=>[(3,Pv b4 0),(4,.slice none 0 0),(5,B false),(7,B x7),(8,Pv b10 0),(9,Pv b11 0),(10,x),(11,y),(29,.func (.func 84) #[] #[Pv b14 0]),(30,x),(31,y)]) (λg=>match g with | (x18,x19)=>[mkA [],pI3 b4 x3,D s9 x18,pt b10 (Cs #[s9] 26),pt b11 (Cs #[Uv x19] 59),pt b14 (Cs #[vsub 1 s1 x5 (x2.length:Int)] 26)]) (λk g=>match g with | (x18,x19)=>zbL F x3 x7 ((downL (lsub x2 x5 (x2.length:Int))).drop k) x18 x19=some r) (List.replicate (Int.toNat (i64.wrap ((x2.length:Int)-x5))) (0:Int),0) (RdAt 26 1 E61 b14 (vsub 1 s1 x5 (x2.length:Int)) (lsub x2 x5 (x2.length:Int))) (λg=>match g with | _=>[]) (λg=>match g with | _=>False) H C C C zhT X M (iter_84 _ _ _) ?_ ?_ ?_ ?_ ?_
 ·rintro ⟨x18,x19⟩ w X; replace X:St w0 w noX [E s1 x2] [mkA [],pI3 b4 x3,D s9 x18,pt b10 (Cs #[s9] 26),pt b11 (Cs #[Uv x19] 59),pt b14 (Cs #[vsub 1 s1 x5 (x2.length:Int)] 26)]:=X; exact ⟨X.ptAt (i:=5) C,(rdEOK.sub (X.b 0 C) E61_len hg12)⟩
 ·clear H X M a; (try clear w); intro l x y w a H; refine sg (l:=[0]) C<|mv H C λa H=>nk<|wrL (l:=[0]) C<|mv H C λa H=>O.nil<|?_; exact ⟨C,H.q C,C⟩
 ·clear H X M a; (try clear w); rintro dl15 do15 dD15 k15 x y ⟨x18,x19⟩ w hx M X a H; obtain ⟨⟨x16,x17⟩,hp,hxy⟩:=down_x hx; obtain ⟨rfl,rfl⟩:=Prod.mk.inj hxy; replace X:St w0 w noX [E s1 x2] [pt dl15 do15,pt dD15 (.deferred (some [])),mkA [],pI3 b4 x3,D s9 x18,pt b10 (Cs #[s9] 26),pt b11 (Cs #[Uv x19] 59),pt b14 (Cs #[vsub 1 s1 x5 (x2.length:Int)] 26)]:=X; replace M:zbL F x3 x7 ((downL (lsub x2 x5 (x2.length:Int))).drop k15) x18 x19=some r:=M; rw [drop_cons hp] at M; replace M:ze7 F x3 (zbL F x3 x7 ((downL (lsub x2 x5 (x2.length:Int))).drop (k15+1))) x16 x17 x18 x19=some r:=M; obtain ⟨rec15,hrec15⟩:∃ f,f=zbL F x3 x7 ((downL (lsub x2 x5 (x2.length:Int))).drop (k15+1)):=⟨_,C⟩; rw [← hrec15] at M; unfold ze7 at M; refine W.block<|sg (l:=[0,1,2,3,4,5]) C<|ov H C (Z.load1 zdi C (X.p 6 C) C) λa H=>ov (v:=Uv (u64.wrap (x19*2^32))) H C (Z.shl (q:=32) C C (by decide)) λa H=>mv H C λa H=>ov (v:=Uv (u64.wrap x17)) H C (Z.conv za7 zaD C) λa H=>ov (v:=Uv (bitor .u64 (u64.wrap (x19*2^32)) (u64.wrap x17))) H C (Z.bitor C C) λa H=>ost 6 #[Uv (bitor .u64 (u64.wrap (x19*2^32)) (u64.wrap x17))] H X C C C zh1 C C C (bl C) C<|?_; intro w X; refine nk ?_; obtain ⟨x21,hx21,M⟩:=hm_b M; rw [oj hx21] at X; refine W.seq ?_; have J:Fr a 57 [] []:=H.to trivial; obtain ⟨hg22,M⟩:=hm_g M; refine hb M λx23 hx23 M=>W.drawK (γ:=Unit) (L0:=[(3,Pv b4 0),(4,.slice none 0 0),(5,B false),(8,Pv b10 0),(9,Pv b11 0),(10,I x16)]) (L1:=[]) () [8] [] [0,1,2,3,4,5,6,7] (λi=>match i with | 4=>[3] | 5=>[2,4] | 6=>[5] | 7=>[0,1,2,3,4,5,6] | 8=>[0,1,2,3,4,5,6,7] | _=>[]) (λ_=>[]) (λ_=>[]) (λ_=>[]) (λ_=>0) (λi=>match i with | 8=>1 | _=>0) (λ(g:Unit) j=>match j with | 0=>s9 | 1=>I x16 | 2=>Uv x21 | 3=>I x3 | 4=>I (Int.tmod x3 32) | 5=>Uv (Int.fdiv x21 (2^(min (Int.toNat (Int.tmod x3 32)) (IntKind.bits .u64)))) | 6=>.int .u32 (u32.wrap (Int.fdiv x21 (2^(min (Int.toNat (Int.tmod x3 32)) (IntKind.bits .u64))))) | 7=>ix s9 (Int.toNat x16*1) | _=>undef) (λk s (g:Unit) w=>match k with | 0=>St w0 w noX [E s1 x2] [pt dl15 do15,pt dD15 (.deferred (some [])),mkA [],pI3 b4 x3,D s9 x18,pt b10 (Cs #[s9] 26),pt b11 (Cs #[Uv x21] 59),pt b14 (Cs #[vsub 1 s1 x5 (x2.length:Int)] 26)] | _=>St w0 w noX [E s1 x2] [pt dl15 do15,pt dD15 (.deferred (some [])),mkA [],pI3 b4 x3,D s9 (x18.set (Int.toNat x16) (u32.wrap (Int.fdiv x21 (2^(min (Int.toNat (Int.tmod x3 32)) (IntKind.bits .u64)))))),pt b10 (Cs #[s9] 26),pt b11 (Cs #[Uv x21] 59),pt b14 (Cs #[vsub 1 s1 x5 (x2.length:Int)] 26)]) P_mixed (by kernel_rfl) (H.q C) J X.drew ?_ ?_ ?_ ?_
  ·clear H J X; refine ⟨?_,λk s g w _ _ _ X a H=>Q.val (v:=I x16) C C C X H (Z.move C),?_,?_,λk s g w _ _ _ X a H=>Q.val (v:=I (Int.tmod x3 32)) C C C X H (Z.rem (q:=32) C C (by decide)),λk s g w _ _ _ X a H=>Q.val (v:=Uv (Int.fdiv x21 (2^(min (Int.toNat (Int.tmod x3 32)) (IntKind.bits .u64))))) C C C X H (Z.shr C C hg22),λk s g w _ _ _ X a H=>Q.val (v:=.int .u32 (u32.wrap (Int.fdiv x21 (2^(min (Int.toNat (Int.tmod x3 32)) (IntKind.bits .u64)))))) C C C X H (Z.conv zaI za6 C),?_,trivial⟩
   ·intro k s g w h1_ h2_ hsp X a H
    rcases k with _ | k
    ·exact Q.val (v:=s9) C C C X H (Z.load1 zai C (X.p 5 C) C)
    ·simp at h2_
   ·intro k s g w h1_ h2_ hsp X a H
    rcases k with _ | k
    ·exact Q.val (v:=Uv x21) C C C X H (Z.load1 zdi C (X.p 6 C) C)
    ·simp at h2_
   ·intro k s g w h1_ h2_ hsp X a H
    rcases k with _ | k
    ·exact Q.val (v:=I x3) C C C X H (Z.load1 zbl C (X.p 3 C) C)
    ·simp at h2_
   ·intro k s g w h1_ h2_ hsp X a H
    rcases k with _ | k
    ·exact Q.val (v:=ix s9 (Int.toNat x16*1)) C C C X H (Z.ixE zac zae C C (X.s 4 C) hx23)
    ·simp at h2_
  ·clear H J X; refine ⟨?_,trivial⟩
   ·intro s g w hsp X a H; refine O.storeE (j:=4) (o:=0) (y0:=(u32.wrap (Int.fdiv x21 (2^(min (Int.toNat (Int.tmod x3 32)) (IntKind.bits .u64)))))) (l':=x18.set (Int.toNat x16) (u32.wrap (Int.fdiv x21 (2^(min (Int.toNat (Int.tmod x3 32)) (IntKind.bits .u64)))))) (M':=[pt dl15 do15,pt dD15 (.deferred (some [])),mkA [],pI3 b4 x3,D s9 (x18.set (Int.toNat x16) (u32.wrap (Int.fdiv x21 (2^(min (Int.toNat (Int.tmod x3 32)) (IntKind.bits .u64)))))),pt b10 (Cs #[s9] 26),pt b11 (Cs #[Uv x21] 59),pt b14 (Cs #[vsub 1 s1 x5 (x2.length:Int)] 26)]) H X C C C zae C C C E61_len hx23 C C C C ?_; intro w X; exact nG H ⟨(λd hd=>by cases (show none=some d from hd)),(λ_ _ _=>C),X⟩
  ·clear H J X; exact trivial
  clear H J X; intro s g a w hs H X; refine ksq ?_; have J:Fr a 57 [] []:=H.to trivial; obtain ⟨hg24,M⟩:=hm_g M; refine W.drawK (γ:=Unit) (L0:=[(3,Pv b4 0),(4,.slice none 0 0),(5,B false),(9,Pv b11 0)]) (L1:=[]) () [6] [] [0,1,2,3,4,5] (λi=>match i with | 2=>[1] | 3=>[2] | 4=>[3] | 5=>[0,4] | 6=>[0,1,2,3,4,5] | _=>[]) (λ_=>[]) (λ_=>[]) (λ_=>[]) (λ_=>0) (λi=>match i with | 6=>1 | _=>0) (λ(g:Unit) j=>match j with | 0=>Uv x21 | 1=>I x3 | 2=>I (Int.tmod x3 32) | 3=>Uv (u64.wrap (1*2^(min (Int.toNat (Int.tmod x3 32)) (IntKind.bits .u64)))) | 4=>Uv (u64.wrap ((u64.wrap (1*2^(min (Int.toNat (Int.tmod x3 32)) (IntKind.bits .u64))))-1)) | 5=>Uv (bitand .u64 x21 (u64.wrap ((u64.wrap (1*2^(min (Int.toNat (Int.tmod x3 32)) (IntKind.bits .u64))))-1))) | _=>undef) (λk s (g:Unit) w=>match k with | 0=>St w0 w noX [E s1 x2] [pt dl15 do15,pt dD15 (.deferred (some [])),mkA [],pI3 b4 x3,D s9 (x18.set (Int.toNat x16) (u32.wrap (Int.fdiv x21 (2^(min (Int.toNat (Int.tmod x3 32)) (IntKind.bits .u64)))))),pt b10 (Cs #[s9] 26),pt b11 (Cs #[Uv x21] 59),pt b14 (Cs #[vsub 1 s1 x5 (x2.length:Int)] 26)] | _=>St w0 w noX [E s1 x2] [pt dl15 do15,pt dD15 (.deferred (some [])),mkA [],pI3 b4 x3,D s9 (x18.set (Int.toNat x16) (u32.wrap (Int.fdiv x21 (2^(min (Int.toNat (Int.tmod x3 32)) (IntKind.bits .u64)))))),pt b10 (Cs #[s9] 26),pt b11 (Cs #[Uv (bitand .u64 x21 (u64.wrap ((u64.wrap (1*2^(min (Int.toNat (Int.tmod x3 32)) (IntKind.bits .u64))))-1)))] 59),pt b14 (Cs #[vsub 1 s1 x5 (x2.length:Int)] 26)]) P_mixed (by kernel_rfl) (H.q C) J X.drew ?_ ?_ ?_ ?_
  ·clear H J X; refine ⟨?_,?_,λk s g w _ _ _ X a H=>Q.val (v:=I (Int.tmod x3 32)) C C C X H (Z.rem (q:=32) C C (by decide)),λk s g w _ _ _ X a H=>Q.val (v:=Uv (u64.wrap (1*2^(min (Int.toNat (Int.tmod x3 32)) (IntKind.bits .u64))))) C C C X H (Z.shl C C hg24),λk s g w _ _ _ X a H=>Q.val (v:=Uv (u64.wrap ((u64.wrap (1*2^(min (Int.toNat (Int.tmod x3 32)) (IntKind.bits .u64))))-1))) C C C X H (Z.sub C C),λk s g w _ _ _ X a H=>Q.val (v:=Uv (bitand .u64 x21 (u64.wrap ((u64.wrap (1*2^(min (Int.toNat (Int.tmod x3 32)) (IntKind.bits .u64))))-1)))) C C C X H (Z.bitand C C),trivial⟩
   ·intro k s g w h1_ h2_ hsp X a H
    rcases k with _ | k
    ·exact Q.val (v:=Uv x21) C C C X H (Z.load1 zdi C (X.p 6 C) C)
    ·simp at h2_
   ·intro k s g w h1_ h2_ hsp X a H
    rcases k with _ | k
    ·exact Q.val (v:=I x3) C C C X H (Z.load1 zbl C (X.p 3 C) C)
    ·simp at h2_
  ·clear H J X; refine ⟨?_,trivial⟩
   ·intro s g w hsp X a H; refine ost 6 #[Uv (bitand .u64 x21 (u64.wrap ((u64.wrap (1*2^(min (Int.toNat (Int.tmod x3 32)) (IntKind.bits .u64))))-1)))] H X C C C zh1 C C C (bl C) C ?_; intro w X; exact nG H ⟨(λd hd=>by cases (show none=some d from hd)),(λ_ _ _=>C),X⟩
  ·clear H J X; exact trivial
  clear H J X; intro s g a w hs H X; refine kbn ?_; exact .inl ⟨C,(x18.set (Int.toNat x16) (u32.wrap (Int.fdiv x21 (2^(min (Int.toNat (Int.tmod x3 32)) (IntKind.bits .u64))))),bitand .u64 x21 (u64.wrap ((u64.wrap (1*2^(min (Int.toNat (Int.tmod x3 32)) (IntKind.bits .u64))))-1))),by rw [hrec15] at M; exact M,X⟩
 ·clear H X M a; (try clear w); rintro dD15 ⟨x18,x19⟩ a w M X H; replace M:zbL F x3 x7 ((downL (lsub x2 x5 (x2.length:Int))).drop ((downL (lsub x2 x5 (x2.length:Int))).map (λp:Int × Int=>(I p.1,Value.int .u32 p.2))).length) x18 x19=some r:=M; rw [List.length_map,List.drop_length] at M; replace M:ze6 F x7 x18 x19=some r:=M; unfold ze6 at M; replace H:Fr a 57 (mkDs (dD15::[])) [(3,Pv b4 0),(4,.slice none 0 0),(5,B false),(7,B x7),(8,Pv b10 0),(9,Pv b11 0),(29,.func (.func 84) #[] #[Pv b14 0])]:=H.q C; replace X:St w0 w noX [E s1 x2] (pt dD15 (.deferred (some []))::[mkA [],pI3 b4 x3,D s9 x18,pt b10 (Cs #[s9] 26),pt b11 (Cs #[Uv x19] 59),pt b14 (Cs #[vsub 1 s1 x5 (x2.length:Int)] 26)]):=X; replace X:=X.mkCons; refine kbn<|ksq<|W.seq<|W.drawQ (λw=>St w0 w noX [E s1 x2] [mkA (dD15::[]),pI3 b4 x3,D s9 x18,pt b10 (Cs #[s9] 26),pt b11 (Cs #[Uv x19] 59),pt b14 (Cs #[vsub 1 s1 x5 (x2.length:Int)] 26)]) P_mixed C (by kernel_rfl) C X.drew<|?_; clear X; (try clear w); refine OQ.val (v:=s9) H C (λw X=>Z.load1 zai C (X.p 3 C) C) λa H=>OQ.val (v:=B x7) H C (λw X=>Z.move C) λa H=>OQ.val (v:=B x7) H C (λw X=>Z.move C) λa H=>?_; refine OQ.cutK (K':=λa=>Fr a 57 (mkDs (dD15::[])) [(4,.slice none 0 0),(5,B false),(7,B x7),(8,Pv b10 0),(9,Pv b11 0),(51,s9),(52,B x7),(53,B x7),(56,B (x7||(decide (x19>(0:Int)))))]) 3 ?_ ?_
  · rcases Bool.eq_false_or_eq_true (x7) with hb20 | hb20
    · refine OQ.skipB H C C hb20 C ?_; clear H a; intro a H
      refine OQ.skipB H C C hb20 C λa H=>?_; refine OQ.val (v:=B (x7||(decide (x19>(0:Int))))) H C (λw X=>Z.pick C C C (by rw [hb20]; rfl)) ?_; clear H a; intro a H; exact OQ.nil (H.q C)
    · refine OQ.gval (v:=Uv x19) H C C hb20 C (λw X=>Z.load1 zdi C (X.p 4 C) C) ?_; clear H a; intro a H
      refine OQ.gval (v:=B (decide (x19>(0:Int)))) H C C hb20 C (λw X=>Z.gtr C C) λa H=>?_; refine OQ.val (v:=B (x7||(decide (x19>(0:Int))))) H C (λw X=>Z.pick C C C (by rw [hb20]; rfl)) ?_; clear H a; intro a H; exact OQ.nil (H.q C)
  clear H a; intro a H; refine OQ.val (v:=s9) H C (λw X=>Z.assign C) λa H=>OQ.val (v:=B (x7||(decide (x19>(0:Int))))) H C (λw X=>Z.assign C) λa H=>?_; refine OQ.nil ?_; intro w X; refine ksq<|W.ret<|?_; refine postM (Ds:=(dD15::[])) X H (λw a H X=>?_); obtain rfl:=oj M; refine post2 H C (rkt C) (rkt C) ?_; replace X:=X.sl [0,1]; exact ⟨s9,C,X.noB⟩
 ·rintro dD15 _ a w M _ _; exact M.elim
def zgf (F:Nat) (x1:Bool) (x3:List Int) (x4:Int):Option (Bool × (List Int) × Int) :=
  (za1 F x1 x3).bind λx8=>if x8≠(0:Int) then (none) else (if ((decide (x4<(-131072:Int)))||(decide (x4>(131072:Int))))=true then (none) else (if x4≥(0:Int) then ((zeK F x3 x4).bind λx13=>(zaC F x1 x13).bind λx15=>some x15) else ((zek F x3 (i64.wrap (0-x4))).bind λx17=>if (x1&&x17.2)=true then (none) else ((zaC F x1 x17.1).bind λx21=>some x21))))
theorem zhH (F:Nat) (x1:Bool) (s2:Value) (x3:List Int) (x4:Int) (w0:World) (h_s2:rdEOK (hp w0) 1 E61 s2 x3) (r:Bool × (List Int) × Int) (M:zgf F x1 x3 x4=some r) :
    Ret P 164 #[.agg #[B x1,s2],I x4] w0 (G:=Value) (λg1=>.tuple #[.agg #[B r.1,g1],I r.2.2]) (λg1 w=>St w0 w noX [] [D g1 r.2.1]):=by
 unfold zgf at M; refine roW Tryz.func164 C C C (λa H=>?_); have X:St w0 w0 noX [E s2 x3] []:=Sbw (lnc (lendRd h_s2) lnn); refine sg (l:=[0,1,2]) C<|O.box (cs:=#[B x1,s2]) H X C C C C<|?_; intro b5 w a hb5 X H; refine O.alloc (cs:=#[B false,.slice none 0 0]) H X C C zab C ?_; intro b6 w a hb6 X H; refine mv H C λa H=>nk<|W.seq<|sg (l:=[0,1,2,3]) C<|ov H C (lN (cs':=#[B x1,s2]) A_28 C (X.p 1 C) C C) λa H=>O.buildSlice (cs':=#[B x1,s2]) (zs:=#[B false,.slice none 0 0]) H X C C za4 zaa zab C C C C C<|?_; intro b7 w a hb7 X H; refine hb M λx8 hx8 M=>oq H X C zc2 (zbF F b7 x1 s2 x3 _ (X.b 0 C) (X.p 0 C) x8 hx8) ?_; rintro _ w X a H; refine mv H C λa H=>nk<|?_; replace X:=X.sl [0,1,1]; refine sg (l:=[0,1]) C<|mv H C λa H=>ov H C (Z.neq C C) λa H=>nk<|?_; refine W.ifdI H C (λhc9=>?_) (λhc9=>?_)
 ·nomatch hm_p M hc9
 ·replace M:=hm_n M hc9; refine W.skip<|ksq<|W.seq<|sg (l:=[0]) C<|mv H C λa H=>nk<|W.block<|sg (l:=[0,1,2,3,4,5,6,7,8,9]) C<|mv2 H C C λa H=>?_; refine ov (v:=I (-131072)) H C (Z.neg (m:=131072) C) λa H=>ov H C (Z.lss C C) λa H=>mv H C λa H=>?_; refine O.cutN (l₁:=[5,6,7,8]) (l₂:=_) (λa w=>Fr a 62 [] [(1,I x4),(2,Pv b5 0),(4,Pv b6 0),(5,I 0),(26,B ((decide (x4<(-131072:Int)))||(decide (x4>(131072:Int)))))]∧St w0 w noX [E s2 x3] [pt b6 (Cs #[B false,.slice none 0 0] 28),pW28 b5 x1 s2]) C ?_ ?_
  ·rcases Bool.eq_false_or_eq_true (decide (x4<(-131072:Int))) with hb10 | hb10
   ·refine sk H C hb10 λa H=>sk H C hb10 λa H=>sk H C hb10 λa H=>?_; refine ov (v:=B ((decide (x4<(-131072:Int)))||(decide (x4>(131072:Int))))) H C (Z.pick C C C (by rw [hb10]; rfl)) ?_; clear H a; intro a H; exact O.nil ⟨C,H.q C,X⟩
   ·refine og H C hb10 (Z.move C) λa H=>og H C hb10 (Z.move C) λa H=>og H C hb10 (Z.gtr C C) λa H=>?_; refine ov (v:=B ((decide (x4<(-131072:Int)))||(decide (x4>(131072:Int))))) H C (Z.pick C C C (by rw [hb10]; rfl)) ?_; clear H a; intro a H; exact O.nil ⟨C,H.q C,X⟩
  clear H X a; (try clear w); rintro a w ⟨H,X⟩; refine mv H C λa H=>nk<|?_; refine W.if_ H C (λhc11=>?_) (λhc11=>?_)
  ·nomatch hm_t M hc11
  ·replace M:=hm_f M hc11; refine sg (l:=[0,1,2]) C<|mv H C λa H=>ov H C (Z.geq C C) λa H=>mv H C λa H=>nk<|?_; refine W.ifdI H C (λhc12=>?_) (λhc12=>?_)
   ·replace M:=hm_p M hc12; refine W.seq ?_; have J:Fr a 62 [] [(5,I 0)]:=H.q C; obtain ⟨x13,hx13,M⟩:=hm_b M; refine hb M λx15 hx15 M=>W.drawK (γ:=Value × Value) (L0:=[(1,I x4),(2,Pv b5 0),(4,Pv b6 0),(28,B (decide (x4≥(0:Int))))]) (L1:=[(5,I 0)]) (undef,undef) [5,6,9] [] [0,1,2,3,4,7,8,10] (λi=>match i with | 1=>[0] | 3=>[2] | 5=>[3,4] | 6=>[1,5] | 7=>[6] | 8=>[6] | 9=>[0,1,2,3,4,5,6,7,8] | 10=>[0,1,2,3,4,5,6,7,8,9] | _=>[]) (λ_=>[]) (λi=>match i with | 5=>[6,7,8,9,10] | 6=>[7,8,9,10] | 9=>[10] | _=>[]) (λ_=>[]) (λi=>match i with | 6=>1 | 7=>2 | 8=>2 | 9=>2 | 10=>3 | _=>0) (λi=>match i with | 0=>1 | 1=>1 | 5=>1 | 6=>2 | 7=>2 | 8=>2 | 9=>3 | 10=>3 | _=>0) (λ(g:Value × Value) j=>match j with | 0=>Pv b5 0 | 1=>B x1 | 2=>Pv b5 1 | 3=>s2 | 4=>I x4 | 5=>g.1 | 6=>.tuple #[.agg #[B x15.1,g.2],I x15.2.2] | 7=>.agg #[B x15.1,g.2] | 8=>I x15.2.2 | 10=>I x15.2.2 | _=>undef) (λk s (g:Value × Value) w=>match k with | 0=>St w0 w noX [E s2 x3] [pt b6 (Cs #[B false,.slice none 0 0] 28),pW28 b5 x1 s2] | 1=>St w0 w noX [E s2 x3] [D g.1 x13,pt b6 (Cs #[B false,.slice none 0 0] 28),pW28 b5 x1 s2] | 2=>St w0 w noX [E s2 x3] [D g.2 x15.2.1,pt b6 (Cs #[B false,.slice none 0 0] 28),pW28 b5 x1 s2] | _=>St w0 w noX [E s2 x3] [D g.2 x15.2.1,pt b6 (Cs #[B x15.1,g.2] 28),pW28 b5 x1 s2]) P_mixed (by kernel_rfl) (H.q C) J X.drew ?_ ?_ ?_ ?_
    ·clear H J X; refine ⟨λk s g w _ _ _ X a H=>Q.val (v:=Pv b5 0) C C C X H (Z.field zaj C C),?_,λk s g w _ _ _ X a H=>Q.val (v:=Pv b5 1) C C C X H (Z.field zah C C),?_,λk s g w _ _ _ X a H=>Q.val (v:=I x4) C C C X H (Z.move C),λk s g w _ _ _ X a H=>Q.val (v:=.agg #[B x15.1,g.2]) C C C X H (Z.extract C C),λk s g w _ _ _ X a H=>Q.val (v:=I x15.2.2) C C C X H (Z.extract C C),λk s g w _ _ _ X a H=>Q.val (v:=I x15.2.2) C C C X H (Z.assign C),trivial⟩
     ·intro k s g w h1_ h2_ hsp X a H; obtain ⟨s14,s16⟩:=g
      rcases k with _ | _ | k
      ·exact Q.val (v:=B x1) C C C X H (Z.load1 zap C (X.p 1 C) C)
      ·exact Q.val (v:=B x1) C C C X H (Z.load1 zap C (X.p 2 C) C)
      ·simp at h2_
     ·intro k s g w h1_ h2_ hsp X a H; obtain ⟨s14,s16⟩:=g
      rcases k with _ | k
      ·exact Q.val (v:=s2) C C C X H (Z.load1 zai C (X.p 1 C) C)
      ·simp at h2_
    ·clear H J X; refine ⟨?_,?_,?_,trivial⟩
     ·intro s g w hsp X a H; obtain ⟨s14,s16⟩:=g; refine oq H X C zgJ (zfH F s2 x3 x4 _ (X.b 0 C) x13 hx13) ?_; rintro s14 w X a H; exact nE 36 H (s14,s16) C C (jl 11 (by kernel_rfl) λ_=>C) X
     ·intro s g w hsp X a H; obtain ⟨s14,s16⟩:=g; refine oc H C zcJ (zaE F x1 s14 x13 _ (X.slS (j:=0) C) x15 hx15) ?_; rintro s16 w Y a H; replace X:=X.cz Y 0 λ_ h=>h; exact nE 37 H (s14,s16) C C (jl 11 (by kernel_rfl) λ_=>C) X
     ·intro s g w hsp X a H; obtain ⟨s14,s16⟩:=g; refine ost 1 #[B x15.1,s16] H X C C C zaa C (occ C (occ (rdo (X.s 0 C)) C)) C (bl C) C ?_; intro w X; exact O.nil ⟨C,(s14,s16),H.to trivial,(λd hd=>by cases (show none=some d from hd)),(λ_ _ _=>C),X⟩
    ·clear H J X; exact trivial
    clear H J X; intro s g a w hs H X; obtain ⟨s14,s16⟩:=g; refine ksq<|W.ret<|kbr<|ktr<|?_; obtain rfl:=oj M; refine post2 H C (rkn (cs':=#[B x15.1,s16]) C zag zaa (X.p 1 C) (bl C) C) (rkt C) ?_; replace X:=X.sl [1]; exact ⟨s16,C,X.noB⟩
   ·replace M:=hm_n M hc12; refine W.skip<|kbn<|ksq<|sg (l:=[0,1,2,3,4,5,6,7,8,9]) C<|ov H C (Z.field zah C C) λa H=>ov (v:=s2) H C (Z.load1 zai C (X.p 1 C) C) λa H=>mv H C λa H=>ov (v:=I (i64.wrap (0-x4))) H C (Z.neg C) λa H=>?_; refine hb M λx17 hx17 M=>oq H X C zhz (ze8 F s2 x3 (i64.wrap (0-x4)) _ (X.b 0 C) x17 hx17) ?_; rintro s18 w X a H; refine mv H C λa H=>ex H C C C λa H=>ex H C C C λa H=>mv2 H C C λa H=>nk<|W.seq<|sg (l:=[0,1,2,3,4]) C<|ov H C (Z.field zaj C C) λa H=>ov H C (Z.load1 zap C (X.p 2 C) C) λa H=>?_; refine mv H C λa H=>?_; refine O.cutN (l₁:=[3,4]) (l₂:=_) (λa w=>Fr a 62 [] [(2,Pv b5 0),(4,Pv b6 0),(5,I 0),(8,s18),(52,B (x1&&x17.2))]∧St w0 w noX [E s2 x3] [D s18 x17.1,pt b6 (Cs #[B false,.slice none 0 0] 28),pW28 b5 x1 s2]) C ?_ ?_
    ·rcases Bool.eq_false_or_eq_true (x1) with hb19 | hb19
     ·refine og H C hb19 (Z.move C) λa H=>?_; refine ov (v:=B (x1&&x17.2)) H C (Z.pick C C C (by rw [hb19]; rfl)) ?_; clear H a; intro a H; exact O.nil ⟨C,H.q C,X⟩
     ·refine sk H C hb19 λa H=>?_; refine ov (v:=B (x1&&x17.2)) H C (Z.pick C C C (by rw [hb19]; rfl)) ?_; clear H a; intro a H; exact O.nil ⟨C,H.q C,X⟩
    clear H X a; (try clear w); rintro a w ⟨H,X⟩; refine nk ?_; refine W.if_ H C (λhc20=>?_) (λhc20=>?_)
    ·nomatch hm_t M hc20
    ·replace M:=hm_f M hc20; refine W.skip<|ksq<|sg (l:=[0,1,2,3,4,5,6,7]) C<|ov H C (Z.field zaj C C) λa H=>ov H C (Z.load1 zap C (X.p 2 C) C) λa H=>mv H C λa H=>?_; refine hb M λx21 hx21 M=>oc H C zcJ (zaE F x1 s18 x17.1 _ (X.slS (j:=0) C) x21 hx21) ?_; rintro s22 w Y a H; replace X:=X.cz Y 0 λ_ h=>h; refine ex H C C C λa H=>ex H C C C λa H=>ost 1 #[B x21.1,s22] H X C C C zaa C (occ C (occ (rdo (X.s 0 C)) C)) C (bl C) C<|?_; intro w X; refine mv H C λa H=>nk<|?_; replace X:=X.sl [1,1]; refine W.ret ?_; obtain rfl:=oj M; refine post2 H C (rkn (cs':=#[B x21.1,s22]) C zag zaa (X.p 1 C) (bl C) C) (rkt C) ?_; replace X:=X.sl [1]; exact ⟨s22,C,X.noB⟩
def zbi (F:Nat) (x1:Bool) (x3:List Int) (x4:Int):Option (Bool × (List Int)) :=
  (zgf F x1 x3 x4).bind λx7=>some (x7.1,x7.2.1)
theorem zbd (F:Nat) (x1:Bool) (s2:Value) (x3:List Int) (x4:Int) (w0:World) (h_s2:rdEOK (hp w0) 1 E61 s2 x3) (r:Bool × (List Int)) (M:zbi F x1 x3 x4=some r) :
    Ret P 151 #[.agg #[B x1,s2],I x4] w0 (G:=Value) (λg1=>.agg #[B r.1,g1]) (λg1 w=>St w0 w noX [] [D g1 r.2]):=by
 unfold zbi at M; refine roW Tryz.func151 C C C (λa H=>?_); have X:St w0 w0 noX [E s2 x3] []:=Sbw (lnc (lendRd h_s2) lnn); refine sg (l:=[0,1]) C<|O.box (cs:=#[B x1,s2]) H X C C C C<|?_; intro b5 w a hb5 X H; refine O.alloc (cs:=#[B false,.slice none 0 0]) H X C C zab C ?_; intro b6 w a hb6 X H; refine nk<|sg (l:=[0,1,2,3,4,5,6,7,8]) C<|ov H C (lN (cs':=#[B x1,s2]) A_28 C (X.p 1 C) C C) λa H=>mv H C λa H=>?_; refine hb M λx7 hx7 M=>oq H X C zjh (zhH F x1 s2 x3 x4 _ (X.b 0 C) x7 hx7) ?_; rintro s8 w X a H; refine mv H C λa H=>ex H C C C λa H=>ex H C C C λa H=>O.alloc (cs:=#[B false,.slice none 0 0]) H X C C zab C<|?_; intro b9 w a hb9 X H; refine ost 0 #[B x7.1,s8] H X C C C zaa C (occ C (occ (rdo (X.s 1 C)) C)) C (bl C) C ?_; intro w X; refine mv H C λa H=>nk<|?_; replace X:=X.sl [1,1,1]; refine sg (l:=[0,1]) C<|ov H C (lN (cs':=#[B x7.1,s8]) A_28 C (X.p 0 C) C C) λa H=>ost 2 #[B x7.1,s8] H X C C C zaa C (occ C (occ (rdo (X.s 1 C)) C)) C (bl C) C<|?_; intro w X; refine nk ?_; replace X:=X.sl [0,1,1]; refine W.ret ?_; obtain rfl:=oj M; refine post1 H C (rkn (cs':=#[B x7.1,s8]) C zag zaa (X.p 1 C) (bl C) C) ?_; replace X:=X.sl [1]; exact ⟨s8,C,X.noB⟩
def zaw (F:Nat) (x2:List Int):Option (List Int) :=
  if (([]:List Int).length:Int)≤4294967296 then if (x2.length:Int)≤4294967296 then some (([]:List Int)++x2) else none else none
theorem zaG (F:Nat) (s1:Value) (x2:List Int) (w0:World) (h_s1:rdEOK (hp w0) 1 E61 s1 x2) (r:List Int) (M:zaw F x2=some r) :
    Ret P 120 #[s1] w0 (G:=Value) (λg1=>g1) (λg1 w=>St w0 w noX [] [D g1 r]):=by
 unfold zaw at M; refine roW Tryz.func120 C C C (λa H=>?_); have X:St w0 w0 noX [E s1 x2] []:=Sbw (lnc (lendRd h_s1) lnn); refine sg (l:=[0]) C<|mv H C λa H=>nk<|W.seq<|sg (l:=[0,1]) C<|mv H C λa H=>?_
 rcases nil_or (X.b 0 C) with ⟨_,hn3,hl⟩ | ⟨_,_,_,hn3⟩
 ·refine ov (v:=.bool true) H C (Z.eqNil1 zac hn3 C C) λa H=>?_
  subst hl
  replace M:some []=some r:=by simpa using M
  refine nk<|W.if_tt H C<|sg (l:=[0]) C<|mv H C λa H=>nk<|W.ret<|ktr<|?_; replace X:=X.nilE 61 1 E61; obtain rfl:=oj M; refine post1 H C (rkt C) ?_; replace X:=X.nilE 61 1 E61; replace X:=X.sl [1]; exact ⟨(.slice none 0 0),C,X.noB⟩
 ·refine ov (v:=.bool false) H C (Z.eqNil2 zac hn3 C C) λa H=>nk<|W.if_ff H C<|W.skip<|ksq<|sg (l:=[0,1,2,3]) C<|O.buildSlice0 H X C C zac zae C<|?_; intro b4 w a hb4 X H; obtain ⟨s5,hs5⟩:∃ v,v=Value.slice (some ⟨b4,0,none⟩) 0 0:=⟨_,C⟩; rw [← hs5] at H X; replace X:St w0 _ noX [E s1 x2] [D s5 ([]:List Int)]:=X; refine mv H C λa H=>?_; obtain ⟨hg6,M⟩:=hm_g M; obtain ⟨hg7,M⟩:=hm_g M; refine O.appendEV (j:=0) (l':=([]:List Int)++x2) H X C C zac zae za5 zaB C C C C C (X.b 0 C) E61_one hg6 hg7 C C ?_; intro s8 w a X H; replace X:St w0 _ noX [E s1 x2] [D s8 (([]:List Int)++x2)]:=X; refine mv H C λa H=>nk<|W.ret<|?_; obtain rfl:=oj M; refine post1 H C (rkt C) ?_; exact ⟨s8,C,X.noB⟩
def zdl (F:Nat) (x1 x2 x3:Int):Option (Int × Int) :=
  if ((decide (x3≠(0:Int)))&&(decide (x3≤(x1:Int))))=true then (none) else ((some (bitor .u64 (u64.wrap ((u64.wrap x1)*2^32)) (u64.wrap x2))).bind λx6=>if (u64.wrap x3)≠(0:Int) then if (u64.wrap x3)≠(0:Int) then (some (u32.wrap (Int.tmod x6 (u64.wrap x3)))).bind λx9=>(some (u32.wrap (u64.wrap (Int.tdiv x6 (u64.wrap x3))))).bind λx10=>some (x10,x9) else none else none)
theorem ze9 (F:Nat) (x1 x2 x3:Int) (w0:World) (r:Int × Int) (M:zdl F x1 x2 x3=some r) :
    Ret P 148 #[.int .u32 x1,.int .u32 x2,.int .u32 x3] w0 (G:=Unit) (λ_=>.tuple #[.int .u32 r.1,.int .u32 r.2]) (λ_ w=>St w0 w noX [] []):=by
 unfold zdl at M; refine roW Tryz.func148 C C C (λa H=>?_); have X:St w0 w0 noX [] []:=Sbw lnn; refine sg (l:=[0,1]) C<|mv2 H C C λa H=>nk<|W.seq<|sg (l:=[0,1,2,3,4,5,6]) C<|mv H C λa H=>ov H C (Z.neq C C) λa H=>mv H C λa H=>?_; refine O.cutN (l₁:=[3,4,5,6]) (l₂:=_) (λa w=>Fr a 33 [] [(0,.int .u32 x1),(1,.int .u32 x2),(2,.int .u32 x3),(6,.int .u32 0),(7,.int .u32 0),(15,B ((decide (x3≠(0:Int)))&&(decide (x3≤(x1:Int)))))]∧St w0 w noX [] []) C ?_ ?_
 ·rcases Bool.eq_false_or_eq_true (decide (x3≠(0:Int))) with hb4 | hb4
  ·refine og H C hb4 (Z.move C) λa H=>og H C hb4 (Z.move C) λa H=>og H C hb4 (Z.leq C C) λa H=>?_; refine ov (v:=B ((decide (x3≠(0:Int)))&&(decide (x3≤(x1:Int))))) H C (Z.pick C C C (by rw [hb4]; rfl)) ?_; clear H a; intro a H; exact O.nil ⟨C,H.q C,X⟩
  ·refine sk H C hb4 λa H=>sk H C hb4 λa H=>sk H C hb4 λa H=>?_; refine ov (v:=B ((decide (x3≠(0:Int)))&&(decide (x3≤(x1:Int))))) H C (Z.pick C C C (by rw [hb4]; rfl)) ?_; clear H a; intro a H; exact O.nil ⟨C,H.q C,X⟩
 clear H X a; (try clear w); rintro a w ⟨H,X⟩; refine nk ?_; refine W.if_ H C (λhc5=>?_) (λhc5=>?_)
 ·replace M:=hm_t M hc5; nomatch M
 ·replace M:=hm_f M hc5; refine W.skip<|ksq<|sg (l:=[0,1,2,3,4,5,6]) C<|mv H C λa H=>ov (v:=Uv (u64.wrap x1)) H C (Z.conv za7 zaD C) λa H=>ov (v:=Uv (u64.wrap ((u64.wrap x1)*2^32))) H C (Z.shl (q:=32) C C (by decide)) λa H=>mv H C λa H=>ov (v:=Uv (u64.wrap x2)) H C (Z.conv za7 zaD C) λa H=>ov (v:=Uv (bitor .u64 (u64.wrap ((u64.wrap x1)*2^32)) (u64.wrap x2))) H C (Z.bitor C C) λa H=>mv H C λa H=>?_; refine nk ?_; obtain ⟨x6,hx6,M⟩:=hm_b M; rw [oj hx6] at H; refine W.seq ?_; obtain ⟨hg7,M⟩:=hm_g M; obtain ⟨hg8,M⟩:=hm_g M; refine W.drawQ (λw=>St w0 w noX [] []) P_mixed C (by kernel_rfl) C X.drew ?_; clear X; (try clear w); refine OQ.val (v:=Uv x6) H C (λw X=>Z.move C) λa H=>OQ.val (v:=.int .u32 x3) H C (λw X=>Z.move C) λa H=>OQ.val (v:=Uv (u64.wrap x3)) H C (λw X=>Z.conv za7 zaD C) λa H=>OQ.val (v:=Uv (u64.wrap (Int.tdiv x6 (u64.wrap x3)))) H C (λw X=>Z.quo C C hg7) λa H=>OQ.val (v:=.int .u32 (u32.wrap (u64.wrap (Int.tdiv x6 (u64.wrap x3))))) H C (λw X=>Z.conv zaI za6 C) λa H=>OQ.val (v:=Uv x6) H C (λw X=>Z.move C) λa H=>OQ.val (v:=.int .u32 x3) H C (λw X=>Z.move C) λa H=>OQ.val (v:=Uv (u64.wrap x3)) H C (λw X=>Z.conv za7 zaD C) λa H=>OQ.val (v:=Uv (Int.tmod x6 (u64.wrap x3))) H C (λw X=>Z.rem C C hg8) λa H=>OQ.val (v:=.int .u32 (u32.wrap (Int.tmod x6 (u64.wrap x3)))) H C (λw X=>Z.conv zaI za6 C) λa H=>?_; refine OQ.val (v:=.int .u32 (u32.wrap (u64.wrap (Int.tdiv x6 (u64.wrap x3))))) H C (λw X=>Z.assign C) λa H=>OQ.val (v:=.int .u32 (u32.wrap (Int.tmod x6 (u64.wrap x3)))) H C (λw X=>Z.assign C) λa H=>?_; refine OQ.nil ?_; intro w X; refine ksq ?_; obtain ⟨x9,hx9,M⟩:=hm_b M; rw [oj hx9] at H; obtain ⟨x10,hx10,M⟩:=hm_b M; rw [oj hx10] at H; refine W.ret ?_; obtain rfl:=oj M; refine post2 H C (rkt C) (rkt C) ?_; exact ⟨(),C,X.noB⟩
def zfa (F:Nat) (x14:List Int) (x15:Int):Option ((List Int) × Int) :=
  (za9 F x14).bind λx16=>some (x16,x15)
def zfb (F:Nat) (x3:Int) (rec11:(List Int)→Int→Option ((List Int) × Int)) (x12 x13:Int) (x14:List Int) (x15:Int):Option ((List Int) × Int) :=
  (zdl F x15 x13 x3).bind λx18=>(idx x14 x12).bind λx19=>rec11 (x14.set (Int.toNat x12) x18.1) x18.2
def zbM (F:Nat) (x3:Int):List (Int × Int)→(List Int)→Int→Option ((List Int) × Int)
  | [],x14,x15=>zfa F x14 x15
  | p::t,x14,x15=>zfb F x3 (zbM F x3 t) p.1 p.2 x14 x15
def zgg (F:Nat) (x2:List Int) (x3:Int):Option ((List Int) × Int) :=
  if 0≤(x2.length:Int)∧(x2.length:Int)≤4294967296 then (zd1 F x2).bind λx9=>zbM F x3 (downL x2) (List.replicate (Int.toNat (x2.length:Int)) (0:Int)) 0 else none
theorem zhI (F:Nat) (s1:Value) (x2:List Int) (x3:Int) (w0:World) (h_s1:rdEOK (hp w0) 1 E61 s1 x2) (r:(List Int) × Int) (M:zgg F x2 x3=some r) :
    Ret P 123 #[s1,.int .u32 x3] w0 (G:=Value) (λg1=>.tuple #[g1,.int .u32 r.2]) (λg1 w=>St w0 w noX [] [D g1 r.1]):=by
 unfold zgg at M; refine ret_of_WM (lv:=[s1,.int .u32 x3]) Tryz.func123 C C C (λa H=>?_); have X:St w0 w0 noX [E s1 x2] []:=Sbw (lnc (lendRd h_s1) lnn); replace X:=X.mk0; refine sg (l:=[0,1,2]) C<|O.box (cs:=#[.int .u32 x3]) H X C C C C<|?_; intro b4 w a hb4 X H; refine mv2 H C C λa H=>nk<|sg (l:=[0,1,2,3,4]) C<|mv H C λa H=>ov (v:=I (x2.length:Int)) H C (Z.lenE (e:=61) (by simpa using zac) C (X.b 0 C)) λa H=>?_; obtain ⟨hg5,M⟩:=hm_g M; refine O.makeE (enc:=E61) (x0:=(0:Int)) H X C C zac zae za5 zaB C C C hg5 C E61_len C ?_; intro s6 w a X H; refine O.alloc (cs:=#[.slice none 0 0]) H X C C zh2 C ?_; intro b7 w a hb7 X H; refine O.store (m:=1) (j:=0) (cs':=#[s6]) (M':=[pt b7 (Cs #[s6] 26),D s6 (List.replicate (Int.toNat (x2.length:Int)) (0:Int)),pt b4 (Cs #[.int .u32 x3] 61),mkA []]) H X C C C zh0 (by rw [rdc (X.s 1 C)]; rfl) (by rw [rdc (X.s 1 C)]; exact rdo (X.s 1 C)) C (bl C) (by rw [rdc (X.s 1 C)]; rfl) C ?_; intro w X; refine nk<|sg (l:=[0]) C<|O.alloc (cs:=#[.int .u32 0]) H X C C zaB C<|?_; intro b8 w a hb8 X H; refine nk<|W.seq<|sg (l:=[0,1]) C<|mv H C λa H=>?_; refine hb M λx9 hx9 M=>oq H X C zhP (zfE F s1 x2 _ (X.b 0 C) x9 hx9) ?_; rintro b10 w X a H; refine nk<|W.block<|?_; replace X:=X.fr 1; replace X:=X.fr 2; replace X:=X.fr 3; replace X:=X.fr 4; replace X:=X.fr 5; refine W.rangeFn2 (G:=(List Int) × Int) (G2:=Unit) (gf:=84) (lb:=#[Pv b10 0]) (xs:=(downL x2).map (λp:Int × Int=>(I p.1,Value.int .u32 p.2))) (λx y=>[(3,Pv b4 0),(4,.slice none 0 0),(5,.int .u32 0),(6,Pv b7 0),(7,Pv b8 0),(8,x),(9,y),(14,.func (.func 84) #[] #[Pv b10 0]),(15,x),(16,y)]) (λg=>match g with | (x14,x15)=>[mkA [],pt b4 (Cs #[.int .u32 x3] 61),D s6 x14,pt b7 (Cs #[s6] 26),pt b8 (Cs #[.int .u32 x15] 61),pt b10 (Cs #[s1] 26)]) (λk g=>match g with | (x14,x15)=>zbM F x3 ((downL x2).drop k) x14 x15=some r) (List.replicate (Int.toNat (x2.length:Int)) (0:Int),0) (RdAt 26 1 E61 b10 s1 x2) (λg=>match g with | _=>[]) (λg=>match g with | _=>False) H C C C zhT X M (iter_84 _ _ _) ?_ ?_ ?_ ?_ ?_
 ·rintro ⟨x14,x15⟩ w X; replace X:St w0 w noX [E s1 x2] [mkA [],pt b4 (Cs #[.int .u32 x3] 61),D s6 x14,pt b7 (Cs #[s6] 26),pt b8 (Cs #[.int .u32 x15] 61),pt b10 (Cs #[s1] 26)]:=X; exact ⟨X.ptAt (i:=5) C,(X.b 0 C)⟩
 ·clear H X M a; (try clear w); intro l x y w a H; refine sg (l:=[0]) C<|mv H C λa H=>nk<|wrL (l:=[0]) C<|mv H C λa H=>O.nil<|?_; exact ⟨C,H.q C,C⟩
 ·clear H X M a; (try clear w); rintro dl11 do11 dD11 k11 x y ⟨x14,x15⟩ w hx M X a H; obtain ⟨⟨x12,x13⟩,hp,hxy⟩:=down_x hx; obtain ⟨rfl,rfl⟩:=Prod.mk.inj hxy; replace X:St w0 w noX [E s1 x2] [pt dl11 do11,pt dD11 (.deferred (some [])),mkA [],pt b4 (Cs #[.int .u32 x3] 61),D s6 x14,pt b7 (Cs #[s6] 26),pt b8 (Cs #[.int .u32 x15] 61),pt b10 (Cs #[s1] 26)]:=X; replace M:zbM F x3 ((downL x2).drop k11) x14 x15=some r:=M; rw [drop_cons hp] at M; replace M:zfb F x3 (zbM F x3 ((downL x2).drop (k11+1))) x12 x13 x14 x15=some r:=M; obtain ⟨rec11,hrec11⟩:∃ f,f=zbM F x3 ((downL x2).drop (k11+1)):=⟨_,C⟩; rw [← hrec11] at M; unfold zfb at M; refine W.block ?_; have J:Fr a 30 [] []:=H.to trivial; obtain ⟨x18,hx18,M⟩:=hm_b M; refine hb M λx19 hx19 M=>W.drawK (γ:=Unit) (L0:=[(3,Pv b4 0),(4,.slice none 0 0),(5,.int .u32 0),(6,Pv b7 0),(7,Pv b8 0),(8,I x12),(9,.int .u32 x13),(14,.func (.func 84) #[] #[Pv b10 0]),(15,I x12),(16,.int .u32 x13)]) (L1:=[]) () [5,10,11] [] [0,1,2,3,4,6,7,8,9] (λi=>match i with | 5=>[2,3,4] | 6=>[5] | 7=>[6] | 8=>[6] | 9=>[0,1,2,3,4,5,6,7] | 10=>[0,1,2,3,4,5,6,7,9] | 11=>[0,1,2,3,4,5,6,7,8,9,10] | _=>[]) (λ_=>[]) (λi=>match i with | 5=>[6,7,8,9,10,11] | 10=>[11] | _=>[]) (λ_=>[]) (λi=>match i with | 6=>1 | 7=>1 | 8=>1 | 9=>1 | 10=>1 | 11=>2 | _=>0) (λi=>match i with | 0=>1 | 1=>1 | 5=>1 | 6=>1 | 7=>1 | 8=>2 | 9=>1 | 10=>2 | 11=>3 | _=>0) (λ(g:Unit) j=>match j with | 0=>s6 | 1=>I x12 | 2=>.int .u32 x15 | 3=>.int .u32 x13 | 4=>.int .u32 x3 | 5=>.tuple #[.int .u32 x18.1,.int .u32 x18.2] | 6=>.tuple #[.int .u32 x18.1,.int .u32 x18.2] | 7=>.int .u32 x18.1 | 8=>.int .u32 x18.2 | 9=>ix s6 (Int.toNat x12*1) | _=>undef) (λk s (g:Unit) w=>match k with | 0=>St w0 w noX [E s1 x2] [pt dl11 do11,pt dD11 (.deferred (some [])),mkA [],pt b4 (Cs #[.int .u32 x3] 61),D s6 x14,pt b7 (Cs #[s6] 26),pt b8 (Cs #[.int .u32 x15] 61),pt b10 (Cs #[s1] 26)] | 1=>St w0 w noX [E s1 x2] [pt dl11 do11,pt dD11 (.deferred (some [])),mkA [],pt b4 (Cs #[.int .u32 x3] 61),D s6 x14,pt b7 (Cs #[s6] 26),pt b8 (Cs #[.int .u32 x15] 61),pt b10 (Cs #[s1] 26)] | 2=>St w0 w noX [E s1 x2] [pt dl11 do11,pt dD11 (.deferred (some [])),mkA [],pt b4 (Cs #[.int .u32 x3] 61),D s6 (x14.set (Int.toNat x12) x18.1),pt b7 (Cs #[s6] 26),pt b8 (Cs #[.int .u32 x15] 61),pt b10 (Cs #[s1] 26)] | _=>St w0 w noX [E s1 x2] [pt dl11 do11,pt dD11 (.deferred (some [])),mkA [],pt b4 (Cs #[.int .u32 x3] 61),D s6 (x14.set (Int.toNat x12) x18.1),pt b7 (Cs #[s6] 26),pt b8 (Cs #[.int .u32 x18.2] 61),pt b10 (Cs #[s1] 26)]) P_mixed (by kernel_rfl) (H.q C) J X.drew ?_ ?_ ?_ ?_
  ·clear H J X; refine ⟨?_,λk s g w _ _ _ X a H=>Q.val (v:=I x12) C C C X H (Z.move C),?_,λk s g w _ _ _ X a H=>Q.val (v:=.int .u32 x13) C C C X H (Z.move C),?_,λk s g w _ _ _ X a H=>Q.val (v:=.tuple #[.int .u32 x18.1,.int .u32 x18.2]) C C C X H (Z.move C),λk s g w _ _ _ X a H=>Q.val (v:=.int .u32 x18.1) C C C X H (Z.extract C C),λk s g w _ _ _ X a H=>Q.val (v:=.int .u32 x18.2) C C C X H (Z.extract C C),?_,trivial⟩
   ·intro k s g w h1_ h2_ hsp X a H
    rcases k with _ | _ | k
    ·exact Q.val (v:=s6) C C C X H (Z.load1 zai C (X.p 5 C) C)
    ·exact Q.val (v:=s6) C C C X H (Z.load1 zai C (X.p 5 C) C)
    ·simp at h2_
   ·intro k s g w h1_ h2_ hsp X a H
    rcases k with _ | k
    ·exact Q.val (v:=.int .u32 x15) C C C X H (Z.load1 zam C (X.p 6 C) C)
    ·simp at h2_
   ·intro k s g w h1_ h2_ hsp X a H
    rcases k with _ | k
    ·exact Q.val (v:=.int .u32 x3) C C C X H (Z.load1 zam C (X.p 3 C) C)
    ·simp at h2_
   ·intro k s g w h1_ h2_ hsp X a H
    rcases k with _ | _ | k
    ·exact absurd h1_ (by decide)
    ·exact Q.val (v:=ix s6 (Int.toNat x12*1)) C C C X H (Z.ixE zac zae C C (X.s 4 C) hx19)
    ·simp at h2_
  ·clear H J X; refine ⟨?_,?_,?_,trivial⟩
   ·intro s g w hsp X a H; refine oq H X C zij (ze9 F x15 x13 x3 _ x18 hx18) ?_; rintro _ w X a H; exact nG H ⟨(gt (d:=23) H C C),(λ_ _ _=>C),X⟩
   ·intro s g w hsp X a H; refine O.storeE (j:=4) (o:=0) (y0:=x18.1) (l':=x14.set (Int.toNat x12) x18.1) (M':=[pt dl11 do11,pt dD11 (.deferred (some [])),mkA [],pt b4 (Cs #[.int .u32 x3] 61),D s6 (x14.set (Int.toNat x12) x18.1),pt b7 (Cs #[s6] 26),pt b8 (Cs #[.int .u32 x15] 61),pt b10 (Cs #[s1] 26)]) H X C C C zae C C C E61_len hx19 C C C C ?_; intro w X; exact nG H ⟨(λd hd=>by cases (show none=some d from hd)),(λ_ _ _=>C),X⟩
   ·intro s g w hsp X a H; refine ost 6 #[.int .u32 x18.2] H X C C C zae C C C (bl C) C ?_; intro w X; exact nG H ⟨(λd hd=>by cases (show none=some d from hd)),(λ_ _ _=>C),X⟩
  ·clear H J X; exact trivial
  clear H J X; intro s g a w hs H X; refine kbn ?_; exact .inl ⟨C,(x14.set (Int.toNat x12) x18.1,x18.2),by rw [hrec11] at M; exact M,X⟩
 ·clear H X M a; (try clear w); rintro dD11 ⟨x14,x15⟩ a w M X H; replace M:zbM F x3 ((downL x2).drop ((downL x2).map (λp:Int × Int=>(I p.1,Value.int .u32 p.2))).length) x14 x15=some r:=M; rw [List.length_map,List.drop_length] at M; replace M:zfa F x14 x15=some r:=M; unfold zfa at M; replace H:Fr a 30 (mkDs (dD11::[])) [(3,Pv b4 0),(4,.slice none 0 0),(5,.int .u32 0),(6,Pv b7 0),(7,Pv b8 0),(14,.func (.func 84) #[] #[Pv b10 0])]:=H.q C; replace X:St w0 w noX [E s1 x2] (pt dD11 (.deferred (some []))::[mkA [],pt b4 (Cs #[.int .u32 x3] 61),D s6 x14,pt b7 (Cs #[s6] 26),pt b8 (Cs #[.int .u32 x15] 61),pt b10 (Cs #[s1] 26)]):=X; replace X:=X.mkCons; refine kbn<|ksq<|W.seq<|?_; have J:Fr a 30 (mkDs (dD11::[])) [(4,.slice none 0 0),(5,.int .u32 0)]:=H.q C; replace H:Fr a 30 (mkDs (dD11::[])) [(6,Pv b7 0),(7,Pv b8 0)]:=H.q C; refine hb M λx16 hx16 M=>W.drawK (γ:=Value) (L0:=[(6,Pv b7 0),(7,Pv b8 0)]) (L1:=[(4,.slice none 0 0),(5,.int .u32 0)]) (undef) [1] [] [0,2,3,4] (λi=>match i with | 1=>[0] | 3=>[0,1] | 4=>[0,1,2,3] | _=>[]) (λ_=>[]) (λi=>match i with | 1=>[3,4] | _=>[]) (λ_=>[]) (λi=>match i with | 3=>1 | 4=>1 | _=>0) (λi=>match i with | 1=>1 | 2=>1 | 3=>1 | 4=>1 | _=>0) (λ(g:Value) j=>match j with | 0=>s6 | 1=>g | 2=>.int .u32 x15 | 3=>g | 4=>.int .u32 x15 | _=>undef) (λk s (g:Value) w=>match k with | 0=>St w0 w noX [E s1 x2] [mkA (dD11::[]),pt b4 (Cs #[.int .u32 x3] 61),D s6 x14,pt b7 (Cs #[s6] 26),pt b8 (Cs #[.int .u32 x15] 61),pt b10 (Cs #[s1] 26)] | _=>St w0 w noX [E s1 x2] [D g x16,mkA (dD11::[]),pt b4 (Cs #[.int .u32 x3] 61),pt b7 (Cs #[s6] 26),pt b8 (Cs #[.int .u32 x15] 61),pt b10 (Cs #[s1] 26)]) P_mixed (by kernel_rfl) (H.q C) J X.drew ?_ ?_ ?_ ?_
  ·clear H J X; refine ⟨?_,?_,λk s g w _ _ _ X a H=>Q.val (v:=g) C C C X H (Z.assign C),λk s g w _ _ _ X a H=>Q.val (v:=.int .u32 x15) C C C X H (Z.assign C),trivial⟩
   ·intro k s s17 w h1_ h2_ hsp X a H
    rcases k with _ | k
    ·replace H:Fr a 30 (mkDs (dD11::[])) [(6,Pv b7 0),(7,Pv b8 0)]:=H.q C; exact Q.val (v:=s6) C C C X H (Z.load1 zai C (X.p 3 C) C)
    ·simp at h2_
   ·intro k s s17 w h1_ h2_ hsp X a H
    rcases k with _ | _ | k
    ·replace H:Fr a 30 (mkDs (dD11::[])) [(6,Pv b7 0),(7,Pv b8 0)]:=H.q C; exact Q.val (v:=.int .u32 x15) C C C X H (Z.load1 zam C (X.p 4 C) C)
    ·replace H:Fr a 30 (mkDs (dD11::[])) [(6,Pv b7 0),(7,Pv b8 0)]:=H.q C; exact Q.val (v:=.int .u32 x15) C C C X H (Z.load1 zam C (X.p 4 C) C)
    ·simp at h2_
  ·clear H J X; refine ⟨?_,trivial⟩
   ·intro s s17 w hsp X a H; replace H:Fr a 30 (mkDs (dD11::[])) [(27,s6),(6,Pv b7 0),(7,Pv b8 0)]:=H.q C; refine oc H C ze1 (zbh F s6 x14 _ (X.slS (j:=2) C) x16 hx16) ?_; rintro s17 w Y a H; replace X:=X.cz Y 2 λ_ h=>h; exact nE 28 H s17 C C (jl 5 (by kernel_rfl) λ_=>C) X
  ·clear H J X; exact trivial
  clear H J X; intro s s17 a w hs H X; replace H:Fr a 30 (mkDs (dD11::[])) [(27,s6),(28,s17),(29,.int .u32 x15),(4,s17),(5,.int .u32 x15),(6,Pv b7 0),(7,Pv b8 0)]:=H.q C; refine ksq<|W.ret<|?_; replace X:=X.fr 5; replace X:=X.fr 5; replace X:=X.fr 5; replace X:=X.fr 5; replace X:=X.fr 4; replace X:=X.fr 5; refine postM (Ds:=(dD11::[])) X H (λw a H X=>?_); obtain rfl:=oj M; refine post2 H C (rkt C) (rkt C) ?_; replace X:=X.sl [1]; exact ⟨s17,C,X.noB⟩
 ·rintro dD11 _ a w M _ _; exact M.elim
def zcz (F:Nat) (x4 x5:Int):Option Int :=
  (strIdx strc1 (IntKind.u8.wrap x4)).bind λx6=>(some (i64.wrap (x5+(i64.wrap x6)))).bind λx7=>some x7
def zcA (F:Nat) (x2 x3:Int):Option Int :=
  if x2≥(256:Int) then (zcz F (Int.fdiv x2 (2^8)) (i64.wrap (x3+8))) else (zcz F x2 x3)
def zdm (F:Nat) (x1:Int):Option Int :=
  if x1≥(65536:Int) then (zcA F (Int.fdiv x1 (2^16)) 16) else (zcA F x1 0)
theorem zfc (F:Nat) (x1:Int) (w0:World) (r:Int) (M:zdm F x1=some r) :
    Ret P 29 #[.int .u32 x1] w0 (G:=Unit) (λ_=>I r) (λ_ w=>St w0 w noX [] []):=by
 unfold zdm at M; refine roW Tryz.func29 C C C (λa H=>?_); have X:St w0 w0 noX [] []:=Sbw lnn; refine sg (l:=[0]) C<|mv H C λa H=>nk<|?_; refine W.seqR (λa w=>∃ (x2:Int) (x3:Int),Fr a 19 [] [(0,.int .u32 x2),(2,I x3)]∧St w0 w noX [] []∧zcA F x2 x3=some r) ?_ ?_
 ·refine sg (l:=[0,1]) C<|mv H C λa H=>ov H C (Z.geq C C) λa H=>nk<|?_; refine W.ifdI H C (λhc9=>?_) (λhc9=>?_)
  ·replace M:=hm_p M hc9; refine sg (l:=[0,1,2]) C<|mv H C λa H=>ov (v:=.int .u32 (Int.fdiv x1 (2^16))) H C (Z.shr (q:=16) C C (by decide)) λa H=>mv H C λa H=>nk<|wrL (l:=[0]) C<|mv H C λa H=>O.nil<|?_; exact kth ⟨Int.fdiv x1 (2^16),16,H.q C,X,M⟩
  ·replace M:=hm_n M hc9; refine W.skip ?_; exact kth ⟨x1,0,H.q C,X,M⟩
 ·clear H X M a; (try clear w); rintro a w ⟨x2,x3,H,X,M⟩; unfold zcA at M; refine W.seqR (λa w=>∃ (x4:Int) (x5:Int),Fr a 19 [] [(0,.int .u32 x4),(2,I x5)]∧St w0 w noX [] []∧zcz F x4 x5=some r) ?_ ?_
  ·refine sg (l:=[0,1]) C<|mv H C λa H=>ov H C (Z.geq C C) λa H=>nk<|?_; refine W.ifdI H C (λhc8=>?_) (λhc8=>?_)
   ·replace M:=hm_p M hc8; refine sg (l:=[0,1,2]) C<|mv H C λa H=>ov (v:=.int .u32 (Int.fdiv x2 (2^8))) H C (Z.shr (q:=8) C C (by decide)) λa H=>mv H C λa H=>nk<|wrL (l:=[0,1,2]) C<|mv H C λa H=>ov H C (Z.add C C) λa H=>mv H C λa H=>O.nil<|?_; exact kth ⟨Int.fdiv x2 (2^8),i64.wrap (x3+8),H.q C,X,M⟩
   ·replace M:=hm_n M hc8; refine W.skip ?_; exact kth ⟨x2,x3,H.q C,X,M⟩
  ·clear H X M a; (try clear w); rintro a w ⟨x4,x5,H,X,M⟩; unfold zcz at M; refine sg (l:=[0,1,2,3,4,5,6]) C<|mv2 H C C λa H=>ov (v:=.int .u8 (IntKind.u8.wrap x4)) H C (Z.conv za7 ziE C) λa H=>?_; refine hb M λx6 hx6 M=>ov H C (Z.indexStr zgM C C hx6) λa H=>ov (v:=I (i64.wrap x6)) H C (Z.conv ziG ziD C) λa H=>ov H C (Z.add C C) λa H=>mv H C λa H=>nk<|?_; obtain ⟨x7,hx7,M⟩:=hm_b M; rw [oj hx7] at H; refine W.ret ?_; obtain rfl:=oj M; refine post1 H C (rkt C) ?_; exact ⟨(),C,X.noB⟩
def zcr (F:Nat) (x1:Int):Option Int :=
  (zdm F x1).bind λx2=>some (i64.wrap (32-x2))
theorem zfx (F:Nat) (x1:Int) (w0:World) (r:Int) (M:zcr F x1=some r) :
    Ret P 124 #[.int .u32 x1] w0 (G:=Unit) (λ_=>I r) (λ_ w=>St w0 w noX [] []):=by
 unfold zcr at M; refine roW Tryz.func124 C C C (λa H=>?_); have X:St w0 w0 noX [] []:=Sbw lnn; refine sg (l:=[0]) C<|mv H C λa H=>nk<|sg (l:=[0,1,2,3]) C<|mv H C λa H=>?_; refine hb M λx2 hx2 M=>oq H X C ziu (zfc F x1 _ x2 hx2) ?_; rintro _ w X a H; refine ov H C (Z.sub C C) λa H=>mv H C λa H=>nk<|W.ret<|?_; obtain rfl:=oj M; refine post1 H C (rkt C) ?_; exact ⟨(),C,X.noB⟩
def zcy (F:Nat) (x1 x2 x3:Int):Option (Int × Int) :=
  (some (u32.wrap ((u32.wrap (x1-x2))-x3))).bind λx4=>(some (Int.fdiv (bitor .u32 (bitand .u32 (bitxor .u32 (4294967295) x1) x2) (bitand .u32 (bitxor .u32 (4294967295) (bitxor .u32 x1 x2)) x4)) (2^31))).bind λx5=>some (x4,x5)
theorem zdF (F:Nat) (x1 x2 x3:Int) (w0:World) (r:Int × Int) (M:zcy F x1 x2 x3=some r) :
    Ret P 127 #[.int .u32 x1,.int .u32 x2,.int .u32 x3] w0 (G:=Unit) (λ_=>.tuple #[.int .u32 r.1,.int .u32 r.2]) (λ_ w=>St w0 w noX [] []):=by
 unfold zcy at M; refine roW Tryz.func127 C C C (λa H=>?_); have X:St w0 w0 noX [] []:=Sbw lnn; refine sg (l:=[0,1]) C<|mv2 H C C λa H=>nk<|sg (l:=[0,1,2,3,4,5]) C<|mv2 H C C λa H=>ov H C (Z.sub C C) λa H=>mv H C λa H=>ov H C (Z.sub C C) λa H=>?_; refine mv H C λa H=>nk<|?_; obtain ⟨x4,hx4,M⟩:=hm_b M; rw [oj hx4] at H; refine sg (l:=[0,1,2,3,4,5,6,7,8,9,10,11,12]) C<|mv H C λa H=>ov (v:=.int .u32 (bitxor .u32 (4294967295) x1)) H C (Z.com (c:=4294967295) C C) λa H=>mv H C λa H=>ov (v:=.int .u32 (bitand .u32 (bitxor .u32 (4294967295) x1) x2)) H C (Z.bitand C C) λa H=>mv2 H C C λa H=>ov (v:=.int .u32 (bitxor .u32 x1 x2)) H C (Z.bitxor C C) λa H=>ov (v:=.int .u32 (bitxor .u32 (4294967295) (bitxor .u32 x1 x2))) H C (Z.com (c:=4294967295) C C) λa H=>mv H C λa H=>?_; refine ov (v:=.int .u32 (bitand .u32 (bitxor .u32 (4294967295) (bitxor .u32 x1 x2)) x4)) H C (Z.bitand C C) λa H=>ov (v:=.int .u32 (bitor .u32 (bitand .u32 (bitxor .u32 (4294967295) x1) x2) (bitand .u32 (bitxor .u32 (4294967295) (bitxor .u32 x1 x2)) x4))) H C (Z.bitor C C) λa H=>ov (v:=.int .u32 (Int.fdiv (bitor .u32 (bitand .u32 (bitxor .u32 (4294967295) x1) x2) (bitand .u32 (bitxor .u32 (4294967295) (bitxor .u32 x1 x2)) x4)) (2^31))) H C (Z.shr (q:=31) C C (by decide)) λa H=>mv H C λa H=>nk<|?_; obtain ⟨x5,hx5,M⟩:=hm_b M; rw [oj hx5] at H; refine W.ret ?_; obtain rfl:=oj M; refine post2 H C (rkt C) (rkt C) ?_; exact ⟨(),C,X.noB⟩
def zdG (F:Nat) (x4 x6:List Int) (x7 x8:Int):Option (Bool × (List Int)) :=
  (idx x6 (x4.length:Int)).bind λx9=>(zcy F x9 (u32.wrap x7) x8).bind λx10=>some (decide (x10.2=(0:Int)),x6.set (Int.toNat (x4.length:Int)) x10.1)
def zdH (F:Nat) (x4:List Int) (x5:Int) (rec15:(List Int)→Int→Int→Int→Option (Bool × (List Int))) (x11:List Int) (x12 x13 x14:Int):Option (Bool × (List Int)) :=
  if x14<((x4.length:Int):Int) then ((idx x4 x14).bind λx17=>(some (u64.wrap (x12+(u64.wrap ((u64.wrap x5)*(u64.wrap x17)))))).bind λx18=>(idx x11 x14).bind λx19=>(zcy F x19 (u32.wrap x18) x13).bind λx20=>rec15 (x11.set (Int.toNat x14) x20.1) (Int.fdiv x18 (2^32)) x20.2 (i64.wrap (x14+1))) else (zdG F x4 x11 x12 x13)
def zbN (F:Nat) (x4:List Int) (x5:Int):Nat→(List Int)→Int→Int→Int→Option (Bool × (List Int))
  | 0,_,_,_,_=>none
  | n+1,x11,x12,x13,x14=>zdH F x4 x5 (zbN F x4 x5 n) x11 x12 x13 x14
def zeE (F:Nat) (x2 x4:List Int) (x5:Int):Option (Bool × (List Int)) :=
  zbN F x4 x5 F x2 0 0 0
theorem zgO (F:Nat) (s1:Value) (x2:List Int) (s3:Value) (x4:List Int) (x5:Int) (w0:World) (h_s1:slOK (hp w0) 61 1 s1 x2.length (encs E61 x2)) (h_s3:rdEOK (hp w0) 1 E61 s3 x4) (ap_s3:∀ k,(E s3 x4).fp k→¬ (D s1 x2).fp k) (r:Bool × (List Int)) (M:zeE F x2 x4 x5=some r) :
    Ret P 149 #[s1,s3,.int .u32 x5] w0 (G:=Unit) (λ_=>B r.1) (λ_ w=>St w0 w (λk=>s1.ownBlock=some k) [] [D s1 r.2]):=by
 unfold zeE at M; refine roW Tryz.func149 C C C (λa H=>?_); have X:St w0 w0 (λk=>s1.ownBlock=some k) [E s3 x4] [D s1 x2]:=St.ownE h_s1 (lnc (lendRd h_s3) lnn) (apAll_cons ap_s3 (apAll_nil (q:=D s1 x2))); refine sg (l:=[0]) C<|mv H C λa H=>nk<|sg (l:=[0]) C<|mv H C λa H=>nk<|sg (l:=[0]) C<|mv H C λa H=>nk<|?_; refine W.seqR (λa w=>∃ (x6:List Int) (x7:Int) (x8:Int),Fr a 61 [] [(0,s1),(1,s3),(6,B false),(7,Uv x7),(8,.int .u32 x8)]∧St w0 w (λk=>s1.ownBlock=some k) [E s3 x4] [D s1 x6]∧zdG F x4 x6 x7 x8=some r) ?_ ?_
 ·refine sg (l:=[0,1,2]) C<|mv H C λa H=>ov (v:=I (x4.length:Int)) H C (Z.lenE (e:=61) (by simpa using zac) C (X.b 0 C)) λa H=>mv H C λa H=>nk<|W.block<|W.loop (G:=Nat × (List Int) × Int × Int × Int) (λg a w=>match g with | (k15,x11,x12,x13,x14)=>Fr a 61 [] [(0,s1),(1,s3),(2,.int .u32 x5),(6,B false),(7,Uv x12),(8,.int .u32 x13),(12,s3),(13,I (x4.length:Int)),(14,I x14)]∧St w0 w (λk=>s1.ownBlock=some k) [E s3 x4] [D s1 x11]∧zbN F x4 x5 k15 x11 x12 x13 x14=some r) (λg=>match g with | (k15,x11,x12,x13,x14)=>k15) (F,x2,0,0,0) ⟨H.q C,X,M⟩<|?_; clear H X M a; (try clear w); rintro ⟨k15,x11,x12,x13,x14⟩ a w ⟨H,X,M⟩
  rcases k15 with _ | k15
  · nomatch M
  replace M:zdH F x4 x5 (zbN F x4 x5 k15) x11 x12 x13 x14=some r:=M; obtain ⟨rec15,hrec15⟩:∃ f,f=zbN F x4 x5 k15:=⟨_,C⟩; rw [← hrec15] at M; unfold zdH at M; refine sg (l:=[0]) C<|ov H C (Z.lss C C) λa H=>nk<|W.seq<|?_; refine W.ifdI H C (λhc16=>?_) (λhc16=>?_)
  ·replace M:=hm_p M hc16; refine W.skip<|ksq<|W.seq<|W.block<|sg (l:=[0,1,2,3,4]) C<|mv H C λa H=>?_; refine hb M λx17 hx17 M=>ov H C (Z.ixE zac zae C C (X.b 0 C) hx17) λa H=>ov H C (Z.ldE1 (o:=0) zam E61_len C (X.b 0 C) hx17 C C) λa H=>mv2 H C C λa H=>nk<|sg (l:=[0,1,2,3,4,5,6,7]) C<|mv2 H C C λa H=>ov (v:=Uv (u64.wrap x5)) H C (Z.conv za7 zaD C) λa H=>mv H C λa H=>?_; refine ov (v:=Uv (u64.wrap x17)) H C (Z.conv za7 zaD C) λa H=>ov H C (Z.mul C C) λa H=>ov H C (Z.add C C) λa H=>mv H C λa H=>nk<|?_; obtain ⟨x18,hx18,M⟩:=hm_b M; rw [oj hx18] at H; refine sg (l:=[0,1,2,3,4,5,6,7,8,9,10,11,12,13,14,15]) C<|mv2 H C C λa H=>mv2 H C C λa H=>?_; refine hb M λx19 hx19 M=>ov H C (Z.ixE zac zae C C (X.s 0 C) hx19) λa H=>ov H C (Z.ldE1 (o:=0) zam E61_len C (X.s 0 C) hx19 C C) λa H=>mv H C λa H=>ov (v:=.int .u32 (u32.wrap x18)) H C (Z.conv zaI za6 C) λa H=>mv H C λa H=>?_; refine hb M λx20 hx20 M=>oq H X C zhA (zdF F x19 (u32.wrap x18) x13 _ x20 hx20) ?_; rintro _ w X a H; refine mv H C λa H=>ex H C C C λa H=>ex H C C C λa H=>ov H C (Z.ixE zac zae C C (X.s 0 C) hx19) λa H=>O.storeE (j:=0) (o:=0) (y0:=x20.1) (l':=x11.set (Int.toNat x14) x20.1) (M':=[D s1 (x11.set (Int.toNat x14) x20.1)]) H X C C C zae C C C E61_len hx19 C C C C<|?_; intro w X; refine mv H C λa H=>nk<|wrL (l:=[0,1,2]) C<|mv H C λa H=>ov (v:=Uv (Int.fdiv x18 (2^32))) H C (Z.shr (q:=32) C C (by decide)) λa H=>mv H C λa H=>O.nil<|kbn<|ksq<|wrL (l:=[0,1]) C<|?_; refine ov H C (Z.add C C) λa H=>mv H C λa H=>O.nil<|?_; refine kth ⟨(k15,x11.set (Int.toNat x14) x20.1,Int.fdiv x18 (2^32),x20.2,i64.wrap (x14+1)),⟨H.q C,X,?_⟩,Nat.lt_succ_self _⟩; rw [hrec15] at M; exact M
  ·replace M:=hm_n M hc16; refine W.exit<|kte<|kte<|kbk<|?_; exact kth ⟨x11,x12,x13,H.q C,X,M⟩
 ·clear H X M a; (try clear w); rintro a w ⟨x6,x7,x8,H,X,M⟩; unfold zdG at M; refine sg (l:=[0,1,2]) C<|mv H C λa H=>ov (v:=I (x4.length:Int)) H C (Z.lenE (e:=61) (by simpa using zac) C (X.b 0 C)) λa H=>mv H C λa H=>nk<|sg (l:=[0,1,2,3,4,5,6,7,8,9,10,11,12,13,14,15]) C<|mv2 H C C λa H=>mv2 H C C λa H=>?_; refine hb M λx9 hx9 M=>ov H C (Z.ixE zac zae C C (X.s 0 C) hx9) λa H=>ov H C (Z.ldE1 (o:=0) zam E61_len C (X.s 0 C) hx9 C C) λa H=>mv H C λa H=>ov (v:=.int .u32 (u32.wrap x7)) H C (Z.conv zaI za6 C) λa H=>mv H C λa H=>?_; refine hb M λx10 hx10 M=>oq H X C zhA (zdF F x9 (u32.wrap x7) x8 _ x10 hx10) ?_; rintro _ w X a H; refine mv H C λa H=>ex H C C C λa H=>ex H C C C λa H=>ov H C (Z.ixE zac zae C C (X.s 0 C) hx9) λa H=>O.storeE (j:=0) (o:=0) (y0:=x10.1) (l':=x6.set (Int.toNat (x4.length:Int)) x10.1) (M':=[D s1 (x6.set (Int.toNat (x4.length:Int)) x10.1)]) H X C C C zae C C C E61_len hx9 C C C C<|?_; intro w X; refine mv H C λa H=>nk<|sg (l:=[0,1,2]) C<|mv H C λa H=>ov H C (Z.eql C C) λa H=>mv H C λa H=>nk<|W.ret<|?_; obtain rfl:=oj M; refine post1 H C (rkt C) ?_; exact ⟨(),C,X.noB⟩
def zeR (F:Nat) (x3 x4:Int) (x2 x6:List Int) (rec9:Int→Option (Int × (List Int))) (x8:Int):Option (Int × (List Int)) :=
  if sbd x3 x4 (x2.length:Int) then (zaw F (lsub x2 x3 x4)).bind λx11=>(zeE F x11 x6 x8).bind λx13=>if (x13.1)=true then (some (x8,lcopy x2 x13.2 x3 (min x13.2.length (Int.toNat x4-Int.toNat x3)))) else (rec9 (u32.wrap (x8-1))) else none
def zcQ (F:Nat) (x3 x4:Int) (x2 x6:List Int):Nat→Int→Option (Int × (List Int))
  | 0,_=>none
  | n+1,x8=>zeR F x3 x4 x2 x6 (zcQ F x3 x4 x2 x6 n) x8
def zdI (F:Nat) (x3 x4:Int) (x2 x6:List Int) (x7:Int):Option (Int × (List Int)) :=
  zcQ F x3 x4 x2 x6 F x7
def zfW (F:Nat) (x2:List Int) (x3 x4:Int) (x6:List Int):Option (Int × (List Int)) :=
  if sbd x3 x4 (x2.length:Int) then (idx (lsub x2 x3 x4) (x6.length:Int)).bind λx16=>(idx x6 (i64.wrap ((x6.length:Int)-1))).bind λx17=>if x16<(x17:Int) then ((idx (lsub x2 x3 x4) (i64.wrap ((x6.length:Int)-1))).bind λx19=>(zdl F x16 x19 x17).bind λx20=>zdI F x3 x4 x2 x6 x20.1) else (zdI F x3 x4 x2 x6 4294967295) else none
theorem zhC (F:Nat) (s1:Value) (x2:List Int) (x3 x4:Int) (s5:Value) (x6:List Int) (w0:World) (h_s1:slOK (hp w0) 61 1 s1 x2.length (encs E61 x2)) (h_s5:rdEOK (hp w0) 1 E61 s5 x6) (ap_s5:∀ k,(E s5 x6).fp k→¬ (D s1 x2).fp k) (r:Int × (List Int)) (M:zfW F x2 x3 x4 x6=some r) :
    Ret P 125 #[vsub 1 s1 x3 x4,s5] w0 (G:=Unit) (λ_=>.int .u32 r.1) (λ_ w=>St w0 w (λk=>s1.ownBlock=some k) [] [D s1 r.2]):=by
 unfold zfW at M; refine roW Tryz.func125 C C C (λa H=>?_); have X:St w0 w0 (λk=>s1.ownBlock=some k) [E s5 x6] [D s1 x2]:=St.ownE h_s1 (lnc (lendRd h_s5) lnn) (apAll_cons ap_s5 (apAll_nil (q:=D s1 x2))); refine sg (l:=[0]) C<|mv H C λa H=>nk<|sg (l:=[0,1,2]) C<|mv H C λa H=>ov (v:=I (x6.length:Int)) H C (Z.lenE (e:=61) (by simpa using zac) C (X.b 0 C)) λa H=>mv H C λa H=>nk<|sg (l:=[0]) C<|mv H C λa H=>?_; refine nk ?_; refine W.seqR (λa w=>∃ (x7:Int),Fr a 50 [] [(0,vsub 1 s1 x3 x4),(1,s5),(4,.int .u32 0),(6,.int .u32 x7)]∧St w0 w (λk=>s1.ownBlock=some k) [E s5 x6] [D s1 x2]∧zdI F x3 x4 x2 x6 x7=some r) ?_ ?_
 ·refine W.seq ?_; obtain ⟨hg15,M⟩:=hm_g M; obtain ⟨x16,hx16,M⟩:=hm_b M; refine hb M λx17 hx17 M=>W.drawQ (λw=>St w0 w (λk=>s1.ownBlock=some k) [E s5 x6] [D s1 x2]) P_mixed C (by kernel_rfl) C X.drew ?_; clear X; (try clear w); refine OQ.val (v:=vsub 1 s1 x3 x4) H C (λw X=>Z.move C) λa H=>OQ.val (v:=I (x6.length:Int)) H C (λw X=>Z.move C) λa H=>OQ.val (v:=ix s1 (Int.toNat (x3+(x6.length:Int))*1)) H C (λw X=>Z.ixW zac zae C C (X.s 0 C) E61_len hg15 hx16) λa H=>OQ.val (v:=.int .u32 x16) H C (λw X=>Z.ldE1 (o:=0) zam E61_len C (X.s 0 C) (idx_lsub hg15 hx16) C C) λa H=>OQ.val (v:=s5) H C (λw X=>Z.move C) λa H=>OQ.val (v:=I (x6.length:Int)) H C (λw X=>Z.move C) λa H=>OQ.val (v:=I (i64.wrap ((x6.length:Int)-1))) H C (λw X=>Z.sub C C) λa H=>OQ.val (v:=ix s5 (Int.toNat (i64.wrap ((x6.length:Int)-1))*1)) H C (λw X=>Z.ixE zac zae C C (X.b 0 C) hx17) λa H=>OQ.val (v:=.int .u32 x17) H C (λw X=>Z.ldE1 (o:=0) zam E61_len C (X.b 0 C) hx17 C C) λa H=>OQ.val (v:=B (decide (x16<(x17:Int)))) H C (λw X=>Z.lss C C) λa H=>?_; refine OQ.nil ?_; intro w X; refine ksq ?_; refine W.ifdI H C (λhc18=>?_) (λhc18=>?_)
  ·replace M:=hm_p M hc18; obtain ⟨x19,hx19,M⟩:=hm_b M; refine hb M λx20 hx20 M=>W.drawQ (λw=>St w0 w (λk=>s1.ownBlock=some k) [E s5 x6] [D s1 x2]) P_mixed C (by kernel_rfl) C X.drew ?_; clear X; (try clear w); refine OQ.val (v:=vsub 1 s1 x3 x4) H C (λw X=>Z.move C) λa H=>OQ.val (v:=I (x6.length:Int)) H C (λw X=>Z.move C) λa H=>OQ.val (v:=ix s1 (Int.toNat (x3+(x6.length:Int))*1)) H C (λw X=>Z.ixW zac zae C C (X.s 0 C) E61_len hg15 hx16) λa H=>OQ.val (v:=.int .u32 x16) H C (λw X=>Z.ldE1 (o:=0) zam E61_len C (X.s 0 C) (idx_lsub hg15 hx16) C C) λa H=>OQ.val (v:=vsub 1 s1 x3 x4) H C (λw X=>Z.move C) λa H=>OQ.val (v:=I (x6.length:Int)) H C (λw X=>Z.move C) λa H=>OQ.val (v:=I (i64.wrap ((x6.length:Int)-1))) H C (λw X=>Z.sub C C) λa H=>OQ.val (v:=ix s1 (Int.toNat (x3+(i64.wrap ((x6.length:Int)-1)))*1)) H C (λw X=>Z.ixW zac zae C C (X.s 0 C) E61_len hg15 hx19) λa H=>OQ.val (v:=.int .u32 x19) H C (λw X=>Z.ldE1 (o:=0) zam E61_len C (X.s 0 C) (idx_lsub hg15 hx19) C C) λa H=>OQ.val (v:=s5) H C (λw X=>Z.move C) λa H=>?_; refine OQ.val (v:=I (x6.length:Int)) H C (λw X=>Z.move C) λa H=>OQ.val (v:=I (i64.wrap ((x6.length:Int)-1))) H C (λw X=>Z.sub C C) λa H=>OQ.val (v:=ix s5 (Int.toNat (i64.wrap ((x6.length:Int)-1))*1)) H C (λw X=>Z.ixE zac zae C C (X.b 0 C) hx17) λa H=>OQ.val (v:=.int .u32 x17) H C (λw X=>Z.ldE1 (o:=0) zam E61_len C (X.b 0 C) hx17 C C) λa H=>OQ.callRq (v:=.tuple #[.int .u32 x20.1,.int .u32 x20.2]) H C (λw X=>RunE.call (av:=#[.int .u32 x16,.int .u32 x19,.int .u32 x17]) zij C C C) (λw X=>ze9 F x16 x19 x17 _ x20 hx20) λa H=>OQ.val (v:=.tuple #[.int .u32 x20.1,.int .u32 x20.2]) H C (λw X=>Z.move C) λa H=>OQ.val (v:=.int .u32 x20.1) H C (λw X=>Z.extract C C) λa H=>OQ.val (v:=.int .u32 x20.2) H C (λw X=>Z.extract C C) λa H=>OQ.val (v:=.int .u32 x20.1) H C (λw X=>Z.assign C) λa H=>?_; refine OQ.nil ?_; intro w X; exact kth ⟨x20.1,H.q C,X,M⟩
  ·replace M:=hm_n M hc18; refine W.skip ?_; exact kth ⟨4294967295,H.q C,X,M⟩
 ·clear H X M a; (try clear w); rintro a w ⟨x7,H,X,M⟩; unfold zdI at M; refine W.block<|W.loop (G:=Nat × Int) (λg a w=>match g with | (k9,x8)=>Fr a 50 [] [(0,vsub 1 s1 x3 x4),(1,s5),(4,.int .u32 0),(6,.int .u32 x8)]∧St w0 w (λk=>s1.ownBlock=some k) [E s5 x6] [D s1 x2]∧zcQ F x3 x4 x2 x6 k9 x8=some r) (λg=>match g with | (k9,x8)=>k9) (F,x7) ⟨H.q C,X,M⟩<|?_; clear H X M a; (try clear w); rintro ⟨k9,x8⟩ a w ⟨H,X,M⟩
  rcases k9 with _ | k9
  · nomatch M
  replace M:zeR F x3 x4 x2 x6 (zcQ F x3 x4 x2 x6 k9) x8=some r:=M; obtain ⟨rec9,hrec9⟩:∃ f,f=zcQ F x3 x4 x2 x6 k9:=⟨_,C⟩; rw [← hrec9] at M; unfold zeR at M; refine W.block<|sg (l:=[0,1,2]) C<|mv H C λa H=>?_; obtain ⟨hg10,M⟩:=hm_g M; refine hb M λx11 hx11 M=>oq H X C zfz (zaG F (vsub 1 s1 x3 x4) (lsub x2 x3 x4) _ (rdEOK.sub (X.s 0 C) E61_len hg10) x11 hx11) ?_; rintro s12 w X a H; refine mv H C λa H=>nk<|W.seq<|sg (l:=[0,1,2,3]) C<|mv2 H C C λa H=>mv H C λa H=>?_; refine hb M λx13 hx13 M=>oc H C zjb (zgO F s12 x11 s5 x6 x8 _ (X.slS (j:=0) C) (X.b 0 C) (X.apart (i:=0) (j:=0) C C) x13 hx13) ?_; rintro _ w Y a H; replace X:=X.cz Y 0 λ_ h=>h; refine nk ?_; refine W.if_ H C (λhc14=>?_) (λhc14=>?_)
  ·replace M:=hm_t M hc14; refine sg (l:=[0,1,2]) C<|mv2 H C C λa H=>O.copyW (j:=1) (p1:=x3) (p2:=x4) (M':=[D s12 x13.2,D s1 (lcopy x2 x13.2 x3 (min x13.2.length (Int.toNat x4-Int.toNat x3)))]) H X C C zac zae C C C (X.s 0 C) E61_len E61_one hg10 C C<|?_; intro w a X H; refine nk ?_; replace X:=X.sl [0,1]; refine sg (l:=[0,1]) C<|mv2 H C C λa H=>nk<|W.ret<|ktr<|kbr<|ktr<|kbr<|?_; obtain rfl:=oj M; refine post1 H C (rkt C) ?_; exact ⟨(),C,X.noB⟩
  ·replace M:=hm_f M hc14; refine W.skip<|ksq<|?_; replace X:=X.sl [0,1]; refine wrL (l:=[0,1,2]) C<|mv H C λa H=>ov H C (Z.sub C C) λa H=>mv H C λa H=>O.nil<|kbn<|?_; refine kth ⟨(k9,u32.wrap (x8-1)),⟨H.q C,X,?_⟩,Nat.lt_succ_self _⟩; rw [hrec9] at M; exact M
def zeS (F:Nat) (x18:Int) (x26 x27:List Int):Option ((List Int) × (List Int)) :=
  (za9 F x27).bind λx28=>(zek F x28 x18).bind λx30=>(za9 F x26).bind λx32=>(za9 F x30.1).bind λx34=>some (x32,x34)
def zeT (F:Nat) (x4 x19:List Int) (x18:Int) (rec40:(List Int)→(List Int)→Int→Option ((List Int) × (List Int))) (x37 x38:List Int) (x39:Int):Option ((List Int) × (List Int)) :=
  if x39≥(0:Int) then (if sbd x39 (i64.wrap ((i64.wrap (x39+(x4.length:Int)))+1)) (x38.length:Int) then (zfW F x38 x39 (i64.wrap ((i64.wrap (x39+(x4.length:Int)))+1)) (lsub x19 0 (x4.length:Int))).bind λx43=>(idx x37 x39).bind λx44=>rec40 (x37.set (Int.toNat x39) x43.1) x43.2 (i64.wrap (x39-1)) else none) else (zeS F x18 x37 x38)
def zcR (F:Nat) (x4 x19:List Int) (x18:Int):Nat→(List Int)→(List Int)→Int→Option ((List Int) × (List Int))
  | 0,_,_,_=>none
  | n+1,x37,x38,x39=>zeT F x4 x19 x18 (zcR F x4 x19 x18 n) x37 x38 x39
def zcs (F:Nat) (x2 x4:List Int):Option ((List Int) × (List Int)) :=
  (zbm F x2 x4).bind λx5=>if x5<(0:Int) then ((zaw F x2).bind λx7=>some (([]:List Int),x7)) else (if (x4.length:Int)=(1:Int) then ((idx x4 0).bind λx10=>(zgg F x2 x10).bind λx11=>(za9 F ([x11.2])).bind λx15=>some (x11.1,x15)) else ((idx x4 (i64.wrap ((x4.length:Int)-1))).bind λx17=>(zcr F x17).bind λx18=>(zeK F x4 x18).bind λx19=>if sbd 0 (x4.length:Int) (x19.length:Int) then (zeK F x2 x18).bind λx22=>if 0≤(i64.wrap ((x22.length:Int)-(x4.length:Int)))∧(i64.wrap ((x22.length:Int)-(x4.length:Int)))≤4294967296 then (some (i64.wrap (((List.replicate (Int.toNat (i64.wrap ((x22.length:Int)-(x4.length:Int)))) (0:Int)).length:Int)-1))).bind λx36=>zcR F x4 x19 x18 F (List.replicate (Int.toNat (i64.wrap ((x22.length:Int)-(x4.length:Int)))) (0:Int)) x22 x36 else none else none))
theorem zcS (F:Nat) (s1:Value) (x2:List Int) (s3:Value) (x4:List Int) (w0:World) (h_s1:rdEOK (hp w0) 1 E61 s1 x2) (h_s3:rdEOK (hp w0) 1 E61 s3 x4) (r:(List Int) × (List Int)) (M:zcs F x2 x4=some r) :
    Ret P 97 #[s1,s3] w0 (G:=Value × Value) (λ(g1,g2)=>.tuple #[g1,g2]) (λ(g1,g2) w=>St w0 w noX [] [D g1 r.1,D g2 r.2]):=by
 unfold zcs at M; refine roW Tryz.func97 C C C (λa H=>?_); have X:St w0 w0 noX [E s1 x2,E s3 x4] []:=Sbw (lnc (lendRd h_s1) (lnc (lendRd h_s3) lnn)); refine sg (l:=[0,1]) C<|mv2 H C C λa H=>nk<|W.seq<|sg (l:=[0,1,2,3]) C<|mv2 H C C λa H=>?_; refine hb M λx5 hx5 M=>oq H X C zgD (zcx F s1 x2 s3 x4 _ (X.b 0 C) (X.b 1 C) x5 hx5) ?_; rintro _ w X a H; refine ov H C (Z.lss C C) λa H=>nk<|?_; refine W.ifdI H C (λhc6=>?_) (λhc6=>?_)
 ·replace M:=hm_p M hc6; refine sg (l:=[0,1,2,3]) C<|mv H C λa H=>?_; refine hb M λx7 hx7 M=>oq H X C zfz (zaG F s1 x2 _ (X.b 0 C) x7 hx7) ?_; rintro s8 w X a H; refine mv2 H C C λa H=>nk<|W.ret<|ktr<|?_; replace X:=X.nilE 61 1 E61; obtain rfl:=oj M; refine post2 H C (rkt C) (rkt C) ?_; replace X:=X.nilE 61 1 E61; replace X:=X.sl [1,0,1]; exact ⟨((.slice none 0 0),s8),C,X.noB⟩
 ·replace M:=hm_n M hc6; refine W.skip<|ksq<|sg (l:=[0,1,2]) C<|mv H C λa H=>ov (v:=I (x4.length:Int)) H C (Z.lenE (e:=61) (by simpa using zac) C (X.b 1 C)) λa H=>mv H C λa H=>nk<|W.seq<|sg (l:=[0,1]) C<|mv H C λa H=>?_; refine ov H C (Z.eql C C) λa H=>nk<|?_; refine W.ifdI H C (λhc9=>?_) (λhc9=>?_)
  ·replace M:=hm_p M hc9; refine sg (l:=[0,1,2,3,4,5,6,7,8,9]) C<|mv2 H C C λa H=>?_; refine hb M λx10 hx10 M=>ov H C (Z.ixE zac zae C C (X.b 1 C) hx10) λa H=>ov H C (Z.ldE1 (o:=0) zam E61_len C (X.b 1 C) hx10 C C) λa H=>?_; refine hb M λx11 hx11 M=>oq H X C zi1 (zhI F s1 x2 x10 _ (X.b 0 C) x11 hx11) ?_; rintro s12 w X a H; refine mv H C λa H=>ex H C C C λa H=>ex H C C C λa H=>mv2 H C C λa H=>nk<|sg (l:=[0,1,2,3,4,5]) C<|mv2 H C C λa H=>O.buildSlice (cs':=#[.int .u32 x11.2]) (zs:=#[.int .u32 0]) H X C C zac zae zaB C C C C C<|?_; intro b13 w a hb13 X H; replace X:=X.ptE (j:=0) (enc:=E61) (xs:=[x11.2]) (N:=1) (M':=[D (.slice (some ⟨b13,0,none⟩) 1 1) ([x11.2]),D s12 x11.1]) C C C C C C; obtain ⟨s14,hs14⟩:∃ v,v=(.slice (some ⟨b13,0,none⟩) 1 1:Value):=⟨_,C⟩; rw [← hs14] at H X; replace X:St w0 _ noX [E s1 x2,E s3 x4] [D s14 ([x11.2]),D s12 x11.1]:=X; refine hb M λx15 hx15 M=>oc H C ze1 (zbh F s14 ([x11.2]) _ (X.slS (j:=0) C) x15 hx15) ?_; rintro s16 w Y a H; replace X:=X.cz Y 0 λ_ h=>h; refine mv2 H C C λa H=>nk<|W.ret<|ktr<|?_; obtain rfl:=oj M; refine post2 H C (rkt C) (rkt C) ?_; replace X:=X.fr 1; exact ⟨(s12,s16),C,X.noB⟩
  ·replace M:=hm_n M hc9; refine W.skip<|ksq<|sg (l:=[0,1,2,3,4,5,6]) C<|mv2 H C C λa H=>ov H C (Z.sub C C) λa H=>?_; refine hb M λx17 hx17 M=>ov H C (Z.ixE zac zae C C (X.b 1 C) hx17) λa H=>ov H C (Z.ldE1 (o:=0) zam E61_len C (X.b 1 C) hx17 C C) λa H=>?_; refine hb M λx18 hx18 M=>oq H X C zi2 (zfx F x17 _ x18 hx18) ?_; rintro _ w X a H; refine mv H C λa H=>nk<|W.seq<|?_; have J:Fr a 84 [] []:=H.to trivial; obtain ⟨x19,hx19,M⟩:=hm_b M; obtain ⟨hg21,M⟩:=hm_g M; refine hb M λx22 hx22 M=>W.drawK (γ:=Value × Value) (L0:=[(0,s1),(1,s3),(4,.slice none 0 0),(5,.slice none 0 0),(6,I (x4.length:Int)),(9,I x18)]) (L1:=[]) (undef,undef) [2,7] [] [0,1,3,4,5,6,8,9] (λi=>match i with | 2=>[0,1] | 4=>[2,3] | 7=>[2,5,6] | 8=>[0,1,2,3,4,7] | 9=>[0,1,2,3,4,5,6,7,8] | _=>[]) (λ_=>[]) (λi=>match i with | 2=>[4,7,8,9] | 7=>[8,9] | _=>[]) (λ_=>[]) (λi=>match i with | 4=>1 | 7=>1 | 8=>2 | 9=>2 | _=>0) (λi=>match i with | 2=>1 | 3=>2 | 4=>2 | 5=>1 | 6=>1 | 7=>2 | 8=>2 | 9=>2 | _=>0) (λ(g:Value × Value) j=>match j with | 0=>s3 | 1=>I x18 | 2=>g.1 | 3=>I (x4.length:Int) | 4=>vsub 1 g.1 0 (x4.length:Int) | 5=>s1 | 6=>I x18 | 7=>g.2 | 8=>vsub 1 g.1 0 (x4.length:Int) | 9=>g.2 | _=>undef) (λk s (g:Value × Value) w=>match k with | 0=>St w0 w noX [E s1 x2,E s3 x4] [] | 1=>St w0 w noX [E s1 x2,E s3 x4] [D g.1 x19] | _=>St w0 w noX [E s1 x2,E s3 x4] [D g.2 x22,D g.1 x19]) P_mixed (by kernel_rfl) (H.q C) J X.drew ?_ ?_ ?_ ?_
   ·clear H J X; refine ⟨λk s g w _ _ _ X a H=>Q.val (v:=s3) C C C X H (Z.move C),λk s g w _ _ _ X a H=>Q.val (v:=I x18) C C C X H (Z.move C),λk s g w _ _ _ X a H=>Q.val (v:=I (x4.length:Int)) C C C X H (Z.move C),?_,λk s g w _ _ _ X a H=>Q.val (v:=s1) C C C X H (Z.move C),λk s g w _ _ _ X a H=>Q.val (v:=I x18) C C C X H (Z.move C),λk s g w _ _ _ X a H=>Q.val (v:=vsub 1 g.1 0 (x4.length:Int)) C C C X H (Z.assign C),λk s g w _ _ _ X a H=>Q.val (v:=g.2) C C C X H (Z.assign C),trivial⟩
    ·intro k s g w h1_ h2_ hsp X a H; obtain ⟨s20,s23⟩:=g
     rcases k with _ | _ | _ | k
     ·exact absurd h1_ (by decide)
     ·exact Q.val (v:=vsub 1 s20 0 (x4.length:Int)) C C C X H (Z.sliceH zac zae C C (X.s 0 C) hg21)
     ·exact Q.val (v:=vsub 1 s20 0 (x4.length:Int)) C C C X H (Z.sliceH zac zae C C (X.s 1 C) hg21)
     ·simp at h2_
   ·clear H J X; refine ⟨?_,?_,trivial⟩
    ·intro s g w hsp X a H; obtain ⟨s20,s23⟩:=g; refine oq H X C zgJ (zfH F s3 x4 x18 _ (X.b 1 C) x19 hx19) ?_; rintro s20 w X a H; exact nE 43 H (s20,s23) C C (jl 10 (by kernel_rfl) λ_=>C) X
    ·intro s g w hsp X a H; obtain ⟨s20,s23⟩:=g; refine oq H X C zgJ (zfH F s1 x2 x18 _ (X.b 0 C) x22 hx22) ?_; rintro s23 w X a H; exact nE 48 H (s20,s23) C C (jl 10 (by kernel_rfl) λ_=>C) X
   ·clear H J X; exact trivial
   clear H J X; intro s g a w hs H X; obtain ⟨s20,s23⟩:=g; refine ksq<|sg (l:=[0,1,2,3,4,5]) C<|mv H C λa H=>ov (v:=I (x22.length:Int)) H C (Z.lenE (e:=61) (by simpa using zac) C (X.s 0 C)) λa H=>mv H C λa H=>ov H C (Z.sub C C) λa H=>?_; obtain ⟨hg24,M⟩:=hm_g M; refine O.makeE (enc:=E61) (x0:=(0:Int)) H X C C zac zae za5 zaB C C C hg24 C E61_len C ?_; intro s25 w a X H; refine mv H C λa H=>nk<|?_; refine W.seqR (λa w=>∃ (x26:List Int) (x27:List Int),Fr a 84 [] [(4,s25),(5,.slice none 0 0),(9,I x18),(11,s23)]∧St w0 w noX [E s1 x2,E s3 x4] [D s25 x26,D s23 x27]∧zeS F x18 x26 x27=some r) ?_ ?_
   ·refine sg (l:=[0,1,2,3]) C<|mv H C λa H=>ov (v:=I ((List.replicate (Int.toNat (i64.wrap ((x22.length:Int)-(x4.length:Int)))) (0:Int)).length:Int)) H C (Z.lenE (e:=61) (by simpa using zac) C (X.s 0 C)) λa H=>ov H C (Z.sub C C) λa H=>mv H C λa H=>nk<|?_; obtain ⟨x36,hx36,M⟩:=hm_b M; rw [oj hx36] at H; refine W.block ?_; replace X:=X.fr 1; replace X:=X.fr 2; replace X:=X.fr 2; refine W.loop (G:=Nat × (List Int) × (List Int) × Int) (λg a w=>match g with | (k40,x37,x38,x39)=>Fr a 84 [] [(4,s25),(5,.slice none 0 0),(6,I (x4.length:Int)),(9,I x18),(10,vsub 1 s20 0 (x4.length:Int)),(11,s23),(12,I x39)]∧St w0 w noX [E s1 x2,E s3 x4] [D s25 x37,D s20 x19,D s23 x38]∧zcR F x4 x19 x18 k40 x37 x38 x39=some r) (λg=>match g with | (k40,x37,x38,x39)=>k40) (F,List.replicate (Int.toNat (i64.wrap ((x22.length:Int)-(x4.length:Int)))) (0:Int),x22,x36) ⟨H.q C,X,M⟩ ?_; clear H X M a; (try clear w); rintro ⟨k40,x37,x38,x39⟩ a w ⟨H,X,M⟩
    rcases k40 with _ | k40
    · nomatch M
    replace M:zeT F x4 x19 x18 (zcR F x4 x19 x18 k40) x37 x38 x39=some r:=M; obtain ⟨rec40,hrec40⟩:∃ f,f=zcR F x4 x19 x18 k40:=⟨_,C⟩; rw [← hrec40] at M; unfold zeT at M; refine W.seq<|sg (l:=[0,1]) C<|mv H C λa H=>ov H C (Z.geq C C) λa H=>nk<|?_; refine W.ifdI H C (λhc41=>?_) (λhc41=>?_)
    ·replace M:=hm_p M hc41; refine W.skip<|ksq<|W.seq<|W.block<|wrL (l:=[0,1,2,3,4,5,6,7,8,9,10,11,12]) C<|mv2 H C C λa H=>mv2 H C C λa H=>mv H C λa H=>?_; refine mv H C λa H=>ov H C (Z.add C C) λa H=>ov H C (Z.add C C) λa H=>?_; obtain ⟨hg42,M⟩:=hm_g M; refine ov (v:=vsub 1 s23 x39 (i64.wrap ((i64.wrap (x39+(x4.length:Int)))+1))) H C (Z.sliceLH zac zae C C C (X.s 2 C) hg42) λa H=>mv H C λa H=>?_; refine hb M λx43 hx43 M=>oc H C zi3 (zhC F s23 x38 x39 (i64.wrap ((i64.wrap (x39+(x4.length:Int)))+1)) (vsub 1 s20 0 (x4.length:Int)) (lsub x19 0 (x4.length:Int)) _ (X.slS (j:=2) C) (rdEOK.sub (X.s 1 C) E61_len hg21) (apWin (X.s 1 C) hg21 (apRd (X.apMM (i:=2) (j:=1) C C (by decide)))) x43 hx43) ?_; rintro _ w Y a H; replace X:=X.cz Y 2 λ_ h=>h; refine hb M λx44 hx44 M=>ov H C (Z.ixE zac zae C C (X.s 1 C) hx44) λa H=>O.storeE (j:=1) (o:=0) (y0:=x43.1) (l':=x37.set (Int.toNat x39) x43.1) (M':=[D s23 x43.2,D s25 (x37.set (Int.toNat x39) x43.1),D s20 x19]) H X C C C zae C C C E61_len hx44 C C C C<|?_; intro w X; refine O.nil<|kbn<|ksq<|wrL (l:=[0,1,2]) C<|mv H C λa H=>ov H C (Z.sub C C) λa H=>mv H C λa H=>O.nil<|?_; replace X:=X.fr 2; replace X:=X.fr 2; refine kth ⟨(k40,x37.set (Int.toNat x39) x43.1,x43.2,i64.wrap (x39-1)),⟨H.q C,X,?_⟩,Nat.lt_succ_self _⟩; rw [hrec40] at M; exact M
    ·replace M:=hm_n M hc41; refine W.exit<|kte<|kte<|kbk<|?_; replace X:=X.sl [1,0,1]; exact kth ⟨x37,x38,H.q C,X,M⟩
   ·clear H X M a; (try clear w); rintro a w ⟨x26,x27,H,X,M⟩; unfold zeS at M; refine sg (l:=[0,1,2,3,4,5,6,7]) C<|mv H C λa H=>?_; refine hb M λx28 hx28 M=>oc H C ze1 (zbh F s23 x27 _ (X.slS (j:=1) C) x28 hx28) ?_; rintro s29 w Y a H; replace X:=X.cz Y 1 λ_ h=>h; refine mv H C λa H=>?_; refine hb M λx30 hx30 M=>oq H X C zhz (ze8 F s29 x28 x18 _ (X.s 0 C) x30 hx30) ?_; rintro s31 w X a H; refine mv H C λa H=>ex H C C C λa H=>ex H C C C λa H=>mv H C λa H=>nk<|?_; replace X:=X.sl [1,0,1]; refine sg (l:=[0,1,2,3,4,5]) C<|mv H C λa H=>?_; refine hb M λx32 hx32 M=>oc H C ze1 (zbh F s25 x26 _ (X.slS (j:=1) C) x32 hx32) ?_; rintro s33 w Y a H; replace X:=X.cz Y 1 λ_ h=>h; refine mv H C λa H=>?_; refine hb M λx34 hx34 M=>oc H C ze1 (zbh F s31 x30.1 _ (X.slS (j:=1) C) x34 hx34) ?_; rintro s35 w Y a H; replace X:=X.cz Y 1 λ_ h=>h; refine mv2 H C C λa H=>nk<|W.ret<|?_; obtain rfl:=oj M; refine post2 H C (rkt C) (rkt C) ?_; replace X:=X.fr 1; exact ⟨(s33,s35),C,X.noB⟩
def zc4 (F:Nat) (x1:Bool) (x3:List Int) (x4:Bool) (x6:List Int):Option (Bool × (List Int) × Bool × (List Int) × Int) :=
  (za2 F x1 x3 x4 x6).bind λx12=>if x12≠(0:Int) then (none) else (if (x6.length:Int)=(0:Int) then (none) else ((zcs F x3 x6).bind λx15=>if ((decide ((x15.2.length:Int)>(0:Int)))&&(!(x1 == x4)))=true then (none) else ((zaC F (!(x1 == x4)) x15.1).bind λx20=>if x20.2.2≠(0:Int) then (none) else ((zaC F x4 x15.2).bind λx23=>some (x20.1,x20.2.1,x23.1,x23.2.1,x23.2.2)))))
theorem zdJ (F:Nat) (x1:Bool) (s2:Value) (x3:List Int) (x4:Bool) (s5:Value) (x6:List Int) (w0:World) (h_s2:rdEOK (hp w0) 1 E61 s2 x3) (h_s5:rdEOK (hp w0) 1 E61 s5 x6) (r:Bool × (List Int) × Bool × (List Int) × Int) (M:zc4 F x1 x3 x4 x6=some r) :
    Ret P 64 #[.agg #[B x1,s2],.agg #[B x4,s5]] w0 (G:=Value × Value) (λ(g1,g2)=>.tuple #[.agg #[B r.1,g1],.agg #[B r.2.2.1,g2],I r.2.2.2.2]) (λ(g1,g2) w=>St w0 w noX [] [D g1 r.2.1,D g2 r.2.2.2.1]):=by
 unfold zc4 at M; refine roW Tryz.func64 C C C (λa H=>?_); have X:St w0 w0 noX [E s2 x3,E s5 x6] []:=Sbw (lnc (lendRd h_s2) (lnc (lendRd h_s5) lnn)); refine sg (l:=[0,1,2,3,4]) C<|O.box (cs:=#[B x1,s2]) H X C C C C<|?_; intro b7 w a hb7 X H; refine O.box (cs:=#[B x4,s5]) H X C C C C ?_; intro b8 w a hb8 X H; refine O.alloc (cs:=#[B false,.slice none 0 0]) H X C C zab C ?_; intro b9 w a hb9 X H; refine O.alloc (cs:=#[B false,.slice none 0 0]) H X C C zab C ?_; intro b10 w a hb10 X H; refine mv H C λa H=>nk<|W.seq<|sg (l:=[0,1,2,3,4]) C<|ov H C (lN (cs':=#[B x1,s2]) A_28 C (X.p 3 C) C C) λa H=>ov H C (lN (cs':=#[B x4,s5]) A_28 C (X.p 2 C) C C) λa H=>O.buildSlice (cs':=#[B x1,s2,B x4,s5]) (zs:=#[B false,.slice none 0 0,B false,.slice none 0 0]) H X C C za4 zaa zab C C C C C<|?_; intro b11 w a hb11 X H; refine hb M λx12 hx12 M=>oq H X C zc2 (zbH F b11 x1 s2 x3 x4 s5 x6 _ (X.b 0 C) (X.b 1 C) (X.p 0 C) x12 hx12) ?_; rintro _ w X a H; refine mv H C λa H=>nk<|?_; replace X:=X.sl [0,1,1,1,1]; refine sg (l:=[0,1]) C<|mv H C λa H=>ov H C (Z.neq C C) λa H=>nk<|?_; refine W.ifdI H C (λhc13=>?_) (λhc13=>?_)
 ·nomatch hm_p M hc13
 ·replace M:=hm_n M hc13; refine W.skip<|ksq<|W.seq<|sg (l:=[0,1,2,3]) C<|ov H C (Z.field zah C C) λa H=>ov (v:=s5) H C (Z.load1 zai C (X.p 2 C) C) λa H=>ov (v:=I (x6.length:Int)) H C (Z.lenE (e:=61) (by simpa using zac) C (X.b 1 C)) λa H=>ov H C (Z.eql C C) λa H=>nk<|?_; refine W.ifdI H C (λhc14=>?_) (λhc14=>?_)
  ·nomatch hm_p M hc14
  ·replace M:=hm_n M hc14; refine W.skip<|ksq<|sg (l:=[0,1,2,3,4,5,6,7,8,9]) C<|ov H C (Z.field zah C C) λa H=>ov (v:=s2) H C (Z.load1 zai C (X.p 3 C) C) λa H=>ov H C (Z.field zah C C) λa H=>ov (v:=s5) H C (Z.load1 zai C (X.p 2 C) C) λa H=>?_; refine hb M λx15 hx15 M=>oq H X C zgE (zcS F s2 x3 s5 x6 _ (X.b 0 C) (X.b 1 C) x15 hx15) ?_; rintro ⟨s16,s17⟩ w X a H; refine mv H C λa H=>ex H C C C λa H=>ex H C C C λa H=>mv2 H C C λa H=>nk<|W.seq<|sg (l:=[0,1,2,3,4,5,6,7,8,9]) C<|mv H C λa H=>ov (v:=I (x15.2.length:Int)) H C (Z.lenE (e:=61) (by simpa using zac) C (X.s 1 C)) λa H=>?_; refine ov H C (Z.gtr C C) λa H=>mv H C λa H=>?_; refine O.cutN (l₁:=[4,5,6,7,8,9]) (l₂:=_) (λa w=>Fr a 75 [] [(2,Pv b7 0),(3,Pv b8 0),(4,Pv b9 0),(5,Pv b10 0),(6,I 0),(8,s16),(9,s17),(42,B ((decide ((x15.2.length:Int)>(0:Int)))&&(!(x1 == x4))))]∧St w0 w noX [E s2 x3,E s5 x6] [D s16 x15.1,D s17 x15.2,pt b10 (Cs #[B false,.slice none 0 0] 28),pt b9 (Cs #[B false,.slice none 0 0] 28),pW28 b8 x4 s5,pW28 b7 x1 s2]) C ?_ ?_
   ·rcases Bool.eq_false_or_eq_true (decide ((x15.2.length:Int)>(0:Int))) with hb18 | hb18
    ·refine og H C hb18 (Z.field zaj C C) λa H=>og H C hb18 (Z.load1 zap C (X.p 5 C) C) λa H=>og H C hb18 (Z.field zaj C C) λa H=>og H C hb18 (Z.load1 zap C (X.p 4 C) C) λa H=>og (v:=B (!(x1 == x4))) H C hb18 (Z.neBool zfD C C) λa H=>?_; refine ov (v:=B ((decide ((x15.2.length:Int)>(0:Int)))&&(!(x1 == x4)))) H C (Z.pick C C C (by rw [hb18]; rfl)) ?_; clear H a; intro a H; exact O.nil ⟨C,H.q C,X⟩
    ·refine sk H C hb18 λa H=>sk H C hb18 λa H=>sk H C hb18 λa H=>sk H C hb18 λa H=>sk H C hb18 λa H=>?_; refine ov (v:=B ((decide ((x15.2.length:Int)>(0:Int)))&&(!(x1 == x4)))) H C (Z.pick C C C (by rw [hb18]; rfl)) ?_; clear H a; intro a H; exact O.nil ⟨C,H.q C,X⟩
   clear H X a; (try clear w); rintro a w ⟨H,X⟩; refine nk ?_; refine W.if_ H C (λhc19=>?_) (λhc19=>?_)
   ·nomatch hm_t M hc19
   ·replace M:=hm_f M hc19; refine W.skip<|ksq<|W.seq<|sg (l:=[0,1,2,3,4,5,6,7,8,9,10,11]) C<|ov H C (Z.field zaj C C) λa H=>ov H C (Z.load1 zap C (X.p 5 C) C) λa H=>ov H C (Z.field zaj C C) λa H=>ov H C (Z.load1 zap C (X.p 4 C) C) λa H=>ov (v:=B (!(x1 == x4))) H C (Z.neBool zfD C C) λa H=>mv H C λa H=>?_; refine hb M λx20 hx20 M=>oc H C zcJ (zaE F (!(x1 == x4)) s16 x15.1 _ (X.slS (j:=0) C) x20 hx20) ?_; rintro s21 w Y a H; replace X:=X.cz Y 0 λ_ h=>h; refine mv H C λa H=>ex H C C C λa H=>ex H C C C λa H=>ost 3 #[B x20.1,s21] H X C C C zaa C (occ C (occ (rdo (X.s 0 C)) C)) C (bl C) C<|?_; intro w X; refine mv H C λa H=>nk<|?_; replace X:=X.sl [1,1,1,1,1]; refine sg (l:=[0,1]) C<|mv H C λa H=>ov H C (Z.neq C C) λa H=>nk<|?_; refine W.ifdI H C (λhc22=>?_) (λhc22=>?_)
    ·nomatch hm_p M hc22
    ·replace M:=hm_n M hc22; refine W.skip<|ksq<|sg (l:=[0,1,2,3,4,5,6,7,8]) C<|ov H C (Z.field zaj C C) λa H=>ov H C (Z.load1 zap C (X.p 4 C) C) λa H=>mv H C λa H=>?_; refine hb M λx23 hx23 M=>oc H C zcJ (zaE F x4 s17 x15.2 _ (X.slS (j:=1) C) x23 hx23) ?_; rintro s24 w Y a H; replace X:=X.cz Y 1 λ_ h=>h; refine mv H C λa H=>ex H C C C λa H=>ex H C C C λa H=>ost 2 #[B x23.1,s24] H X C C C zaa C (occ C (occ (rdo (X.s 0 C)) C)) C (bl C) C<|?_; intro w X; refine mv H C λa H=>nk<|?_; replace X:=X.sl [1,1,1,1]; refine W.seq ?_; have J:Fr a 75 [] [(6,I x23.2.2)]:=H.q C; refine W.drawK (γ:=Unit) (L0:=[(4,Pv b9 0),(5,Pv b10 0)]) (L1:=[(6,I x23.2.2)]) () [3,4] [] [0,1,2,5] (λi=>match i with | 3=>[0] | 4=>[0,1,3] | 5=>[0,1,2,3,4] | _=>[]) (λ_=>[]) (λi=>match i with | 3=>[4,5] | 4=>[5] | _=>[]) (λi=>match i with | 2=>[6] | _=>[]) (λi=>match i with | 4=>1 | 5=>2 | _=>0) (λi=>match i with | 1=>1 | 2=>2 | 3=>1 | 4=>2 | 5=>2 | _=>0) (λ(g:Unit) j=>match j with | 0=>.agg #[B x20.1,s21] | 1=>.agg #[B x23.1,s24] | 2=>I x23.2.2 | 5=>I x23.2.2 | _=>undef) (λk s (g:Unit) w=>match k with | 0=>St w0 w noX [E s2 x3,E s5 x6] [D s24 x23.2.1,D s21 x20.2.1,pW28 b10 x23.1 s24,pW28 b9 x20.1 s21] | 1=>St w0 w noX [E s2 x3,E s5 x6] [D s24 x23.2.1,D s21 x20.2.1,pW28 b10 x23.1 s24,pW28 b9 x20.1 s21] | _=>St w0 w noX [E s2 x3,E s5 x6] [D s24 x23.2.1,D s21 x20.2.1,pW28 b10 x23.1 s24,pW28 b9 x20.1 s21]) P_mixed (by kernel_rfl) (H.q C) J X.drew ?_ ?_ ?_ ?_
     ·clear H J X; refine ⟨?_,?_,λk s g w _ _ _ X a H=>Q.val (v:=I x23.2.2) C C C X H (Z.move C),λk s g w _ _ _ X a H=>Q.val (v:=I x23.2.2) C C C X H (Z.assign C),trivial⟩
      ·intro k s g w h1_ h2_ hsp X a H
       rcases k with _ | k
       ·exact Q.val (v:=.agg #[B x20.1,s21]) C C C X H (lN (cs':=#[B x20.1,s21]) A_28 C (X.p 3 C) C C)
       ·simp at h2_
      ·intro k s g w h1_ h2_ hsp X a H
       rcases k with _ | _ | k
       ·exact Q.val (v:=.agg #[B x23.1,s24]) C C C X H (lN (cs':=#[B x23.1,s24]) A_28 C (X.p 2 C) C C)
       ·exact Q.val (v:=.agg #[B x23.1,s24]) C C C X H (lN (cs':=#[B x23.1,s24]) A_28 C (X.p 2 C) C C)
       ·simp at h2_
     ·clear H J X; refine ⟨?_,?_,trivial⟩
      ·intro s g w hsp X a H; refine ost 3 #[B x20.1,s21] H X C C C zaa C (occ C (occ (rdo (X.s 1 C)) C)) C (bl C) C ?_; intro w X; exact nG H ⟨(λd hd=>by cases (show none=some d from hd)),(λ_ _ _=>C),X⟩
      ·intro s g w hsp X a H; refine ost 2 #[B x23.1,s24] H X C C C zaa C (occ C (occ (rdo (X.s 0 C)) C)) C (bl C) C ?_; intro w X; exact nG H ⟨(λd hd=>by cases (show none=some d from hd)),(λ_ _ _=>C),X⟩
     ·clear H J X; exact trivial
     clear H J X; intro s g a w hs H X; refine ksq<|W.ret<|?_; obtain rfl:=oj M; refine post3 H C (rkn (cs':=#[B x20.1,s21]) C zag zaa (X.p 3 C) (bl C) C) (rkn (cs':=#[B x23.1,s24]) C zag zaa (X.p 2 C) (bl C) C) (rkt C) ?_; replace X:=X.fr 1; replace X:=X.sl [1,1]; exact ⟨(s21,s24),C,X.noB⟩
def zb8 (F:Nat) (x1:Bool) (x3:List Int) (x4:Bool) (x6:List Int):Option (Bool × (List Int)) :=
  (zc4 F x1 x3 x4 x6).bind λx10=>some (x10.1,x10.2.1)
theorem zbZ (F:Nat) (x1:Bool) (s2:Value) (x3:List Int) (x4:Bool) (s5:Value) (x6:List Int) (w0:World) (h_s2:rdEOK (hp w0) 1 E61 s2 x3) (h_s5:rdEOK (hp w0) 1 E61 s5 x6) (r:Bool × (List Int)) (M:zb8 F x1 x3 x4 x6=some r) :
    Ret P 129 #[.agg #[B x1,s2],.agg #[B x4,s5]] w0 (G:=Value) (λg1=>.agg #[B r.1,g1]) (λg1 w=>St w0 w noX [] [D g1 r.2]):=by
 unfold zb8 at M; refine roW Tryz.func129 C C C (λa H=>?_); have X:St w0 w0 noX [E s2 x3,E s5 x6] []:=Sbw (lnc (lendRd h_s2) (lnc (lendRd h_s5) lnn)); refine sg (l:=[0,1,2]) C<|O.box (cs:=#[B x1,s2]) H X C C C C<|?_; intro b7 w a hb7 X H; refine O.box (cs:=#[B x4,s5]) H X C C C C ?_; intro b8 w a hb8 X H; refine O.alloc (cs:=#[B false,.slice none 0 0]) H X C C zab C ?_; intro b9 w a hb9 X H; refine nk<|sg (l:=[0,1,2,3,4,5,6,7,8,9,10,11]) C<|ov H C (lN (cs':=#[B x1,s2]) A_28 C (X.p 2 C) C C) λa H=>ov H C (lN (cs':=#[B x4,s5]) A_28 C (X.p 1 C) C C) λa H=>?_; refine hb M λx10 hx10 M=>oq H X C zhl (zdJ F x1 s2 x3 x4 s5 x6 _ (X.b 0 C) (X.b 1 C) x10 hx10) ?_; rintro ⟨s11,s12⟩ w X a H; refine mv H C λa H=>ex H C C C λa H=>ex H C C C λa H=>ex H C C C λa H=>O.alloc (cs:=#[B false,.slice none 0 0]) H X C C zab C<|?_; intro b13 w a hb13 X H; refine O.alloc (cs:=#[B false,.slice none 0 0]) H X C C zab C ?_; intro b14 w a hb14 X H; refine ost 1 #[B x10.1,s11] H X C C C zaa C (occ C (occ (rdo (X.s 2 C)) C)) C (bl C) C ?_; intro w X; refine ost 0 #[B x10.2.2.1,s12] H X C C C zaa C (occ C (occ (rdo (X.s 3 C)) C)) C (bl C) C ?_; intro w X; refine mv H C λa H=>nk<|?_; replace X:=X.sl [0,1,1,0,1]; refine sg (l:=[0,1]) C<|ov H C (lN (cs':=#[B x10.1,s11]) A_28 C (X.p 0 C) C C) λa H=>ost 2 #[B x10.1,s11] H X C C C zaa C (occ C (occ (rdo (X.s 1 C)) C)) C (bl C) C<|?_; intro w X; refine nk ?_; replace X:=X.sl [0,1,1]; refine W.ret ?_; obtain rfl:=oj M; refine post1 H C (rkn (cs':=#[B x10.1,s11]) C zag zaa (X.p 1 C) (bl C) C) ?_; replace X:=X.sl [1]; exact ⟨s11,C,X.noB⟩
def zeF (F:Nat) (x1 x2 x3:Int):Option (Int × Int) :=
  (some (u64.wrap ((u64.wrap ((u64.wrap x1)+(u64.wrap x2)))+(u64.wrap x3)))).bind λx4=>(some (u32.wrap (Int.fdiv x4 (2^32)))).bind λx5=>some (u32.wrap x4,x5)
theorem zgP (F:Nat) (x1 x2 x3:Int) (w0:World) (r:Int × Int) (M:zeF F x1 x2 x3=some r) :
    Ret P 126 #[.int .u32 x1,.int .u32 x2,.int .u32 x3] w0 (G:=Unit) (λ_=>.tuple #[.int .u32 r.1,.int .u32 r.2]) (λ_ w=>St w0 w noX [] []):=by
 unfold zeF at M; refine roW Tryz.func126 C C C (λa H=>?_); have X:St w0 w0 noX [] []:=Sbw lnn; refine sg (l:=[0,1]) C<|mv2 H C C λa H=>nk<|sg (l:=[0,1,2,3,4,5,6,7,8]) C<|mv H C λa H=>ov (v:=Uv (u64.wrap x1)) H C (Z.conv za7 zaD C) λa H=>mv H C λa H=>ov (v:=Uv (u64.wrap x2)) H C (Z.conv za7 zaD C) λa H=>ov H C (Z.add C C) λa H=>?_; refine mv H C λa H=>ov (v:=Uv (u64.wrap x3)) H C (Z.conv za7 zaD C) λa H=>ov H C (Z.add C C) λa H=>mv H C λa H=>nk<|?_; obtain ⟨x4,hx4,M⟩:=hm_b M; rw [oj hx4] at H; refine sg (l:=[0,1,2]) C<|mv H C λa H=>ov (v:=.int .u32 (u32.wrap x4)) H C (Z.conv zaI za6 C) λa H=>mv H C λa H=>nk<|sg (l:=[0,1,2,3]) C<|mv H C λa H=>ov (v:=Uv (Int.fdiv x4 (2^32))) H C (Z.shr (q:=32) C C (by decide)) λa H=>ov (v:=.int .u32 (u32.wrap (Int.fdiv x4 (2^32)))) H C (Z.conv zaI za6 C) λa H=>mv H C λa H=>?_; refine nk ?_; obtain ⟨x5,hx5,M⟩:=hm_b M; rw [oj hx5] at H; refine W.ret ?_; obtain rfl:=oj M; refine post2 H C (rkt C) (rkt C) ?_; exact ⟨(),C,X.noB⟩
def zfJ (F:Nat) (x6 x11:List Int) (x12:Int):Option (List Int) :=
  (idx x11 (x6.length:Int)).bind λx13=>some (x11.set (Int.toNat (x6.length:Int)) x12)
def zex (F:Nat) (x19 x15:Int) (x14:List Int) (x16:Int) (rec17:(List Int)→Int→Int→Option (List Int)) (x20:Int):Option (List Int) :=
  (zeF F x19 x20 x15).bind λx21=>(idx x14 x16).bind λx22=>rec17 (x14.set (Int.toNat x16) x21.1) x21.2 (i64.wrap (x16+1))
def zfK (F:Nat) (x6 x8:List Int) (rec17:(List Int)→Int→Int→Option (List Int)) (x14:List Int) (x15 x16:Int):Option (List Int) :=
  if x16<((x6.length:Int):Int) then ((idx x6 x16).bind λx19=>if x16<((x8.length:Int):Int) then ((idx x8 x16).bind λx24=>zex F x19 x15 x14 x16 rec17 x24) else (zex F x19 x15 x14 x16 rec17 0)) else (zfJ F x6 x14 x15)
def zds (F:Nat) (x6 x8:List Int):Nat→(List Int)→Int→Int→Option (List Int)
  | 0,_,_,_=>none
  | n+1,x14,x15,x16=>zfK F x6 x8 (zds F x6 x8 n) x14 x15 x16
def zey (F:Nat) (x6 x8:List Int):Option (List Int) :=
  if 0≤(i64.wrap ((x6.length:Int)+1))∧(i64.wrap ((x6.length:Int)+1))≤4294967296 then zds F x6 x8 F (List.replicate (Int.toNat (i64.wrap ((x6.length:Int)+1))) (0:Int)) 0 0 else none
def zfR (F:Nat) (x2 x4:List Int):Option (List Int) :=
  if (x2.length:Int)<((x4.length:Int):Int) then (zey F x4 x2) else (zey F x2 x4)
theorem zgF (F:Nat) (s1:Value) (x2:List Int) (s3:Value) (x4:List Int) (w0:World) (h_s1:rdEOK (hp w0) 1 E61 s1 x2) (h_s3:rdEOK (hp w0) 1 E61 s3 x4) (r:List Int) (M:zfR F x2 x4=some r) :
    Ret P 98 #[s1,s3] w0 (G:=Value) (λg1=>g1) (λg1 w=>St w0 w noX [] [D g1 r]):=by
 unfold zfR at M; refine roW Tryz.func98 C C C (λa H=>?_); have X:St w0 w0 noX [E s1 x2,E s3 x4] []:=Sbw (lnc (lendRd h_s1) (lnc (lendRd h_s3) lnn)); refine sg (l:=[0]) C<|mv H C λa H=>nk<|?_; refine W.seqR (λa w=>∃ (s5:Value) (x6:List Int) (s7:Value) (x8:List Int),Fr a 53 [] [(0,s5),(1,s7),(4,.slice none 0 0)]∧St w0 w noX [E s1 x2,E s3 x4,E s5 x6,E s7 x8] []∧zey F x6 x8=some r) ?_ ?_
 ·refine sg (l:=[0,1,2,3,4]) C<|mv H C λa H=>ov (v:=I (x2.length:Int)) H C (Z.lenE (e:=61) (by simpa using zac) C (X.b 0 C)) λa H=>mv H C λa H=>ov (v:=I (x4.length:Int)) H C (Z.lenE (e:=61) (by simpa using zac) C (X.b 1 C)) λa H=>ov H C (Z.lss C C) λa H=>nk<|?_; refine W.ifdI H C (λhc25=>?_) (λhc25=>?_)
  ·replace M:=hm_p M hc25; refine wrL (l:=[0,1,2,3]) C<|mv2 H C C λa H=>mv2 H C C λa H=>O.nil<|?_; replace X:=X.selB (B':=[E s1 x2,E s3 x4,E s3 x4,E s1 x2]) [0,1,1,0] C; exact kth ⟨s3,x4,s1,x2,H.q C,X,M⟩
  ·replace M:=hm_n M hc25; refine W.skip ?_; replace X:=X.selB (B':=[E s1 x2,E s3 x4,E s1 x2,E s3 x4]) [0,1,0,1] C; exact kth ⟨s1,x2,s3,x4,H.q C,X,M⟩
 ·clear H X M a; (try clear w); rintro a w ⟨s5,x6,s7,x8,H,X,M⟩; unfold zey at M; refine sg (l:=[0,1,2,3,4]) C<|mv H C λa H=>ov (v:=I (x6.length:Int)) H C (Z.lenE (e:=61) (by simpa using zac) C (X.b 2 C)) λa H=>ov H C (Z.add C C) λa H=>?_; obtain ⟨hg9,M⟩:=hm_g M; refine O.makeE (enc:=E61) (x0:=(0:Int)) H X C C zac zae za5 zaB C C C hg9 C E61_len C ?_; intro s10 w a X H; refine mv H C λa H=>nk<|sg (l:=[0]) C<|mv H C λa H=>nk<|?_; refine W.seqR (λa w=>∃ (x11:List Int) (x12:Int),Fr a 53 [] [(0,s5),(4,.slice none 0 0),(5,s10),(6,.int .u32 x12)]∧St w0 w noX [E s1 x2,E s3 x4,E s5 x6,E s7 x8] [D s10 x11]∧zfJ F x6 x11 x12=some r) ?_ ?_
  ·refine sg (l:=[0,1,2]) C<|mv H C λa H=>ov (v:=I (x6.length:Int)) H C (Z.lenE (e:=61) (by simpa using zac) C (X.b 2 C)) λa H=>mv H C λa H=>nk<|W.block<|W.loop (G:=Nat × (List Int) × Int × Int) (λg a w=>match g with | (k17,x14,x15,x16)=>Fr a 53 [] [(0,s5),(1,s7),(4,.slice none 0 0),(5,s10),(6,.int .u32 x15),(21,s5),(22,I (x6.length:Int)),(23,I x16)]∧St w0 w noX [E s1 x2,E s3 x4,E s5 x6,E s7 x8] [D s10 x14]∧zds F x6 x8 k17 x14 x15 x16=some r) (λg=>match g with | (k17,x14,x15,x16)=>k17) (F,List.replicate (Int.toNat (i64.wrap ((x6.length:Int)+1))) (0:Int),0,0) ⟨H.q C,X,M⟩<|?_; clear H X M a; (try clear w); rintro ⟨k17,x14,x15,x16⟩ a w ⟨H,X,M⟩
   rcases k17 with _ | k17
   · nomatch M
   replace M:zfK F x6 x8 (zds F x6 x8 k17) x14 x15 x16=some r:=M; obtain ⟨rec17,hrec17⟩:∃ f,f=zds F x6 x8 k17:=⟨_,C⟩; rw [← hrec17] at M; unfold zfK at M; refine sg (l:=[0]) C<|ov H C (Z.lss C C) λa H=>nk<|W.seq<|?_; refine W.ifdI H C (λhc18=>?_) (λhc18=>?_)
   ·replace M:=hm_p M hc18; refine W.skip<|ksq<|W.seq<|W.block<|sg (l:=[0,1,2,3,4]) C<|mv H C λa H=>?_; refine hb M λx19 hx19 M=>ov H C (Z.ixE zac zae C C (X.b 2 C) hx19) λa H=>ov H C (Z.ldE1 (o:=0) zam E61_len C (X.b 2 C) hx19 C C) λa H=>mv2 H C C λa H=>nk<|sg (l:=[0]) C<|mv H C λa H=>nk<|?_; refine W.seqR (λa w=>∃ (x20:Int),Fr a 53 [] [(0,s5),(1,s7),(4,.slice none 0 0),(5,s10),(6,.int .u32 x15),(7,I x16),(8,.int .u32 x19),(9,.int .u32 x20),(21,s5),(22,I (x6.length:Int)),(23,I x16)]∧St w0 w noX [E s1 x2,E s3 x4,E s5 x6,E s7 x8] [D s10 x14]∧zex F x19 x15 x14 x16 rec17 x20=some r) ?_ ?_
    ·refine sg (l:=[0,1,2,3]) C<|mv2 H C C λa H=>ov (v:=I (x8.length:Int)) H C (Z.lenE (e:=61) (by simpa using zac) C (X.b 3 C)) λa H=>ov H C (Z.lss C C) λa H=>nk<|?_; refine W.ifdI H C (λhc23=>?_) (λhc23=>?_)
     ·replace M:=hm_p M hc23; refine wrL (l:=[0,1,2,3,4]) C<|mv2 H C C λa H=>?_; refine hb M λx24 hx24 M=>ov H C (Z.ixE zac zae C C (X.b 3 C) hx24) λa H=>ov H C (Z.ldE1 (o:=0) zam E61_len C (X.b 3 C) hx24 C C) λa H=>mv H C λa H=>O.nil<|?_; exact kth ⟨x24,H.q C,X,M⟩
     ·replace M:=hm_n M hc23; refine W.skip ?_; exact kth ⟨0,H.q C,X,M⟩
    ·clear H X M a; (try clear w); rintro a w ⟨x20,H,X,M⟩; unfold zex at M; refine wrL (l:=[0,1,2,3,4,5,6,7,8,9,10,11]) C<|mv2 H C C λa H=>mv2 H C C λa H=>mv H C λa H=>?_; refine hb M λx21 hx21 M=>oq H X C zi4 (zgP F x19 x20 x15 _ x21 hx21) ?_; rintro _ w X a H; refine mv H C λa H=>ex H C C C λa H=>ex H C C C λa H=>?_; refine hb M λx22 hx22 M=>ov H C (Z.ixE zac zae C C (X.s 0 C) hx22) λa H=>O.storeE (j:=0) (o:=0) (y0:=x21.1) (l':=x14.set (Int.toNat x16) x21.1) (M':=[D s10 (x14.set (Int.toNat x16) x21.1)]) H X C C C zae C C C E61_len hx22 C C C C<|?_; intro w X; refine mv H C λa H=>O.nil<|kbn<|ksq<|wrL (l:=[0,1]) C<|ov H C (Z.add C C) λa H=>mv H C λa H=>O.nil<|?_; refine kth ⟨(k17,x14.set (Int.toNat x16) x21.1,x21.2,i64.wrap (x16+1)),⟨H.q C,X,?_⟩,Nat.lt_succ_self _⟩; rw [hrec17] at M; exact M
   ·replace M:=hm_n M hc18; refine W.exit<|kte<|kte<|kbk<|?_; exact kth ⟨x14,x15,H.q C,X,M⟩
  ·clear H X M a; (try clear w); rintro a w ⟨x11,x12,H,X,M⟩; unfold zfJ at M; refine sg (l:=[0,1,2,3,4,5]) C<|mv2 H C C λa H=>ov (v:=I (x6.length:Int)) H C (Z.lenE (e:=61) (by simpa using zac) C (X.b 2 C)) λa H=>mv H C λa H=>?_; refine hb M λx13 hx13 M=>ov H C (Z.ixE zac zae C C (X.s 0 C) hx13) λa H=>O.storeE (j:=0) (o:=0) (y0:=x12) (l':=x11.set (Int.toNat (x6.length:Int)) x12) (M':=[D s10 (x11.set (Int.toNat (x6.length:Int)) x12)]) H X C C C zae C C C E61_len hx13 C C C C<|?_; intro w X; refine nk<|sg (l:=[0,1]) C<|mv2 H C C λa H=>nk<|W.ret<|?_; obtain rfl:=oj M; refine post1 H C (rkt C) ?_; exact ⟨s10,C,X.noB⟩
def zfd (F:Nat) (x7:List Int):Option (List Int) :=
  some x7
def zd4 (F:Nat) (x13 x9:Int) (x8:List Int) (x10:Int) (rec11:(List Int)→Int→Int→Option (List Int)) (x14:Int):Option (List Int) :=
  (zcy F x13 x14 x9).bind λx15=>(idx x8 x10).bind λx16=>rec11 (x8.set (Int.toNat x10) x15.1) x15.2 (i64.wrap (x10+1))
def zfe (F:Nat) (x2 x4:List Int) (rec11:(List Int)→Int→Int→Option (List Int)) (x8:List Int) (x9 x10:Int):Option (List Int) :=
  if x10<((x2.length:Int):Int) then ((idx x2 x10).bind λx13=>if x10<((x4.length:Int):Int) then ((idx x4 x10).bind λx18=>zd4 F x13 x9 x8 x10 rec11 x18) else (zd4 F x13 x9 x8 x10 rec11 0)) else (zfd F x8)
def zdc (F:Nat) (x2 x4:List Int):Nat→(List Int)→Int→Int→Option (List Int)
  | 0,_,_,_=>none
  | n+1,x8,x9,x10=>zfe F x2 x4 (zdc F x2 x4 n) x8 x9 x10
def zff (F:Nat) (x2 x4:List Int):Option (List Int) :=
  if 0≤(x2.length:Int)∧(x2.length:Int)≤4294967296 then zdc F x2 x4 F (List.replicate (Int.toNat (x2.length:Int)) (0:Int)) 0 0 else none
theorem zgp (F:Nat) (s1:Value) (x2:List Int) (s3:Value) (x4:List Int) (w0:World) (h_s1:rdEOK (hp w0) 1 E61 s1 x2) (h_s3:rdEOK (hp w0) 1 E61 s3 x4) (r:List Int) (M:zff F x2 x4=some r) :
    Ret P 99 #[s1,s3] w0 (G:=Value) (λg1=>g1) (λg1 w=>St w0 w noX [] [D g1 r]):=by
 unfold zff at M; refine roW Tryz.func99 C C C (λa H=>?_); have X:St w0 w0 noX [E s1 x2,E s3 x4] []:=Sbw (lnc (lendRd h_s1) (lnc (lendRd h_s3) lnn)); refine sg (l:=[0]) C<|mv H C λa H=>nk<|sg (l:=[0,1,2,3]) C<|mv H C λa H=>ov (v:=I (x2.length:Int)) H C (Z.lenE (e:=61) (by simpa using zac) C (X.b 0 C)) λa H=>?_; obtain ⟨hg5,M⟩:=hm_g M; refine O.makeE (enc:=E61) (x0:=(0:Int)) H X C C zac zae za5 zaB C C C hg5 C E61_len C ?_; intro s6 w a X H; refine mv H C λa H=>nk<|sg (l:=[0]) C<|mv H C λa H=>nk<|?_; refine W.seqR (λa w=>∃ (x7:List Int),Fr a 40 [] [(4,.slice none 0 0),(5,s6)]∧St w0 w noX [E s1 x2,E s3 x4] [D s6 x7]∧zfd F x7=some r) ?_ ?_
 ·refine sg (l:=[0,1,2]) C<|mv H C λa H=>ov (v:=I (x2.length:Int)) H C (Z.lenE (e:=61) (by simpa using zac) C (X.b 0 C)) λa H=>mv H C λa H=>nk<|?_; refine W.block<|W.loop (G:=Nat × (List Int) × Int × Int) (λg a w=>match g with | (k11,x8,x9,x10)=>Fr a 40 [] [(1,s3),(4,.slice none 0 0),(5,s6),(6,.int .u32 x9),(13,s1),(14,I (x2.length:Int)),(15,I x10)]∧St w0 w noX [E s1 x2,E s3 x4] [D s6 x8]∧zdc F x2 x4 k11 x8 x9 x10=some r) (λg=>match g with | (k11,x8,x9,x10)=>k11) (F,List.replicate (Int.toNat (x2.length:Int)) (0:Int),0,0) ⟨H.q C,X,M⟩<|?_; clear H X M a; (try clear w); rintro ⟨k11,x8,x9,x10⟩ a w ⟨H,X,M⟩
  rcases k11 with _ | k11
  · nomatch M
  replace M:zfe F x2 x4 (zdc F x2 x4 k11) x8 x9 x10=some r:=M; obtain ⟨rec11,hrec11⟩:∃ f,f=zdc F x2 x4 k11:=⟨_,C⟩; rw [← hrec11] at M; unfold zfe at M; refine sg (l:=[0]) C<|ov H C (Z.lss C C) λa H=>nk<|W.seq<|?_; refine W.ifdI H C (λhc12=>?_) (λhc12=>?_)
  ·replace M:=hm_p M hc12; refine W.skip<|ksq<|W.seq<|W.block<|sg (l:=[0,1,2,3,4]) C<|mv H C λa H=>?_; refine hb M λx13 hx13 M=>ov H C (Z.ixE zac zae C C (X.b 0 C) hx13) λa H=>ov H C (Z.ldE1 (o:=0) zam E61_len C (X.b 0 C) hx13 C C) λa H=>mv2 H C C λa H=>nk<|sg (l:=[0]) C<|mv H C λa H=>nk<|?_; refine W.seqR (λa w=>∃ (x14:Int),Fr a 40 [] [(1,s3),(4,.slice none 0 0),(5,s6),(6,.int .u32 x9),(7,I x10),(8,.int .u32 x13),(9,.int .u32 x14),(13,s1),(14,I (x2.length:Int)),(15,I x10)]∧St w0 w noX [E s1 x2,E s3 x4] [D s6 x8]∧zd4 F x13 x9 x8 x10 rec11 x14=some r) ?_ ?_
   ·refine sg (l:=[0,1,2,3]) C<|mv2 H C C λa H=>ov (v:=I (x4.length:Int)) H C (Z.lenE (e:=61) (by simpa using zac) C (X.b 1 C)) λa H=>ov H C (Z.lss C C) λa H=>nk<|?_; refine W.ifdI H C (λhc17=>?_) (λhc17=>?_)
    ·replace M:=hm_p M hc17; refine wrL (l:=[0,1,2,3,4]) C<|mv2 H C C λa H=>?_; refine hb M λx18 hx18 M=>ov H C (Z.ixE zac zae C C (X.b 1 C) hx18) λa H=>ov H C (Z.ldE1 (o:=0) zam E61_len C (X.b 1 C) hx18 C C) λa H=>mv H C λa H=>O.nil<|?_; exact kth ⟨x18,H.q C,X,M⟩
    ·replace M:=hm_n M hc17; refine W.skip ?_; exact kth ⟨0,H.q C,X,M⟩
   ·clear H X M a; (try clear w); rintro a w ⟨x14,H,X,M⟩; unfold zd4 at M; refine wrL (l:=[0,1,2,3,4,5,6,7,8,9,10,11]) C<|mv2 H C C λa H=>mv2 H C C λa H=>mv H C λa H=>?_; refine hb M λx15 hx15 M=>oq H X C zhA (zdF F x13 x14 x9 _ x15 hx15) ?_; rintro _ w X a H; refine mv H C λa H=>ex H C C C λa H=>ex H C C C λa H=>?_; refine hb M λx16 hx16 M=>ov H C (Z.ixE zac zae C C (X.s 0 C) hx16) λa H=>O.storeE (j:=0) (o:=0) (y0:=x15.1) (l':=x8.set (Int.toNat x10) x15.1) (M':=[D s6 (x8.set (Int.toNat x10) x15.1)]) H X C C C zae C C C E61_len hx16 C C C C<|?_; intro w X; refine mv H C λa H=>O.nil<|kbn<|ksq<|wrL (l:=[0,1]) C<|ov H C (Z.add C C) λa H=>mv H C λa H=>O.nil<|?_; refine kth ⟨(k11,x8.set (Int.toNat x10) x15.1,x15.2,i64.wrap (x10+1)),⟨H.q C,X,?_⟩,Nat.lt_succ_self _⟩; rw [hrec11] at M; exact M
  ·replace M:=hm_n M hc12; refine W.exit<|kte<|kte<|kbk<|?_; exact kth ⟨x8,H.q C,X,M⟩
 ·clear H X M a; (try clear w); rintro a w ⟨x7,H,X,M⟩; unfold zfd at M; refine sg (l:=[0,1]) C<|mv2 H C C λa H=>nk<|W.ret<|?_; obtain rfl:=oj M; refine post1 H C (rkt C) ?_; exact ⟨s6,C,X.noB⟩
def zf9 (F:Nat) (x1:Bool) (x3:List Int) (x4:Bool) (x6:List Int):Option (Bool × (List Int) × Int) :=
  (zbm F x3 x6).bind λx10=>if (x1 == x4)=true then ((zfR F x3 x6).bind λx12=>(zaC F x1 x12).bind λx14=>some x14) else (if x10≥(0:Int) then ((zff F x3 x6).bind λx17=>(zaC F x1 x17).bind λx19=>some x19) else ((zff F x6 x3).bind λx21=>(zaC F x4 x21).bind λx23=>some x23))
theorem zg2 (F:Nat) (x1:Bool) (s2:Value) (x3:List Int) (x4:Bool) (s5:Value) (x6:List Int) (w0:World) (h_s2:rdEOK (hp w0) 1 E61 s2 x3) (h_s5:rdEOK (hp w0) 1 E61 s5 x6) (r:Bool × (List Int) × Int) (M:zf9 F x1 x3 x4 x6=some r) :
    Ret P 100 #[.agg #[B x1,s2],.agg #[B x4,s5]] w0 (G:=Value) (λg1=>.tuple #[.agg #[B r.1,g1],I r.2.2]) (λg1 w=>St w0 w noX [] [D g1 r.2.1]):=by
 unfold zf9 at M; refine roW Tryz.func100 C C C (λa H=>?_); have X:St w0 w0 noX [E s2 x3,E s5 x6] []:=Sbw (lnc (lendRd h_s2) (lnc (lendRd h_s5) lnn)); refine sg (l:=[0,1,2,3]) C<|O.box (cs:=#[B x1,s2]) H X C C C C<|?_; intro b7 w a hb7 X H; refine O.box (cs:=#[B x4,s5]) H X C C C C ?_; intro b8 w a hb8 X H; refine O.alloc (cs:=#[B false,.slice none 0 0]) H X C C zab C ?_; intro b9 w a hb9 X H; refine mv H C λa H=>nk<|W.seq<|sg (l:=[0,1,2,3,4,5]) C<|ov H C (Z.field zah C C) λa H=>ov (v:=s2) H C (Z.load1 zai C (X.p 2 C) C) λa H=>ov H C (Z.field zah C C) λa H=>ov (v:=s5) H C (Z.load1 zai C (X.p 1 C) C) λa H=>?_; refine hb M λx10 hx10 M=>oq H X C zgD (zcx F s2 x3 s5 x6 _ (X.b 0 C) (X.b 1 C) x10 hx10) ?_; rintro _ w X a H; refine mv H C λa H=>nk<|W.block<|sg (l:=[0,1,2,3,4,5]) C<|ov H C (Z.field zaj C C) λa H=>ov H C (Z.load1 zap C (X.p 2 C) C) λa H=>ov H C (Z.field zaj C C) λa H=>ov H C (Z.load1 zap C (X.p 1 C) C) λa H=>ov (v:=B (x1 == x4)) H C (Z.eqBool zfD C C) λa H=>mv H C λa H=>?_; refine nk ?_; refine W.if_ H C (λhc11=>?_) (λhc11=>?_)
 ·replace M:=hm_t M hc11; refine W.seq ?_; have J:Fr a 51 [] [(5,I 0)]:=H.q C; obtain ⟨x12,hx12,M⟩:=hm_b M; refine hb M λx14 hx14 M=>W.drawK (γ:=Value × Value) (L0:=[(2,Pv b7 0),(3,Pv b8 0),(4,Pv b9 0),(6,I x10),(12,B (x1 == x4))]) (L1:=[(5,I 0)]) (undef,undef) [6,7,10] [] [0,1,2,3,4,5,8,9,11] (λi=>match i with | 1=>[0] | 3=>[2] | 5=>[4] | 6=>[3,5] | 7=>[1,6] | 8=>[7] | 9=>[7] | 10=>[0,1,2,3,4,5,6,7,8,9] | 11=>[0,1,2,3,4,5,6,7,8,9,10] | _=>[]) (λ_=>[]) (λi=>match i with | 6=>[7,8,9,10,11] | 7=>[8,9,10,11] | 10=>[11] | _=>[]) (λ_=>[]) (λi=>match i with | 7=>1 | 8=>2 | 9=>2 | 10=>2 | 11=>3 | _=>0) (λi=>match i with | 0=>1 | 1=>1 | 6=>1 | 7=>2 | 8=>2 | 9=>2 | 10=>3 | 11=>3 | _=>0) (λ(g:Value × Value) j=>match j with | 0=>Pv b7 0 | 1=>B x1 | 2=>Pv b7 1 | 3=>s2 | 4=>Pv b8 1 | 5=>s5 | 6=>g.1 | 7=>.tuple #[.agg #[B x14.1,g.2],I x14.2.2] | 8=>.agg #[B x14.1,g.2] | 9=>I x14.2.2 | 11=>I x14.2.2 | _=>undef) (λk s (g:Value × Value) w=>match k with | 0=>St w0 w noX [E s2 x3,E s5 x6] [pt b9 (Cs #[B false,.slice none 0 0] 28),pW28 b8 x4 s5,pW28 b7 x1 s2] | 1=>St w0 w noX [E s2 x3,E s5 x6] [D g.1 x12,pt b9 (Cs #[B false,.slice none 0 0] 28),pW28 b8 x4 s5,pW28 b7 x1 s2] | 2=>St w0 w noX [E s2 x3,E s5 x6] [D g.2 x14.2.1,pt b9 (Cs #[B false,.slice none 0 0] 28),pW28 b8 x4 s5,pW28 b7 x1 s2] | _=>St w0 w noX [E s2 x3,E s5 x6] [D g.2 x14.2.1,pt b9 (Cs #[B x14.1,g.2] 28),pW28 b8 x4 s5,pW28 b7 x1 s2]) P_mixed (by kernel_rfl) (H.q C) J X.drew ?_ ?_ ?_ ?_
  ·clear H J X; refine ⟨λk s g w _ _ _ X a H=>Q.val (v:=Pv b7 0) C C C X H (Z.field zaj C C),?_,λk s g w _ _ _ X a H=>Q.val (v:=Pv b7 1) C C C X H (Z.field zah C C),?_,λk s g w _ _ _ X a H=>Q.val (v:=Pv b8 1) C C C X H (Z.field zah C C),?_,λk s g w _ _ _ X a H=>Q.val (v:=.agg #[B x14.1,g.2]) C C C X H (Z.extract C C),λk s g w _ _ _ X a H=>Q.val (v:=I x14.2.2) C C C X H (Z.extract C C),λk s g w _ _ _ X a H=>Q.val (v:=I x14.2.2) C C C X H (Z.assign C),trivial⟩
   ·intro k s g w h1_ h2_ hsp X a H; obtain ⟨s13,s15⟩:=g
    rcases k with _ | _ | k
    ·exact Q.val (v:=B x1) C C C X H (Z.load1 zap C (X.p 2 C) C)
    ·exact Q.val (v:=B x1) C C C X H (Z.load1 zap C (X.p 3 C) C)
    ·simp at h2_
   ·intro k s g w h1_ h2_ hsp X a H; obtain ⟨s13,s15⟩:=g
    rcases k with _ | k
    ·exact Q.val (v:=s2) C C C X H (Z.load1 zai C (X.p 2 C) C)
    ·simp at h2_
   ·intro k s g w h1_ h2_ hsp X a H; obtain ⟨s13,s15⟩:=g
    rcases k with _ | k
    ·exact Q.val (v:=s5) C C C X H (Z.load1 zai C (X.p 1 C) C)
    ·simp at h2_
  ·clear H J X; refine ⟨?_,?_,?_,trivial⟩
   ·intro s g w hsp X a H; obtain ⟨s13,s15⟩:=g; refine oq H X C ziB (zgF F s2 x3 s5 x6 _ (X.b 0 C) (X.b 1 C) x12 hx12) ?_; rintro s13 w X a H; exact nE 24 H (s13,s15) C C (jl 12 (by kernel_rfl) λ_=>C) X
   ·intro s g w hsp X a H; obtain ⟨s13,s15⟩:=g; refine oc H C zcJ (zaE F x1 s13 x12 _ (X.slS (j:=0) C) x14 hx14) ?_; rintro s15 w Y a H; replace X:=X.cz Y 0 λ_ h=>h; exact nE 25 H (s13,s15) C C (jl 12 (by kernel_rfl) λ_=>C) X
   ·intro s g w hsp X a H; obtain ⟨s13,s15⟩:=g; refine ost 1 #[B x14.1,s15] H X C C C zaa C (occ C (occ (rdo (X.s 0 C)) C)) C (bl C) C ?_; intro w X; exact O.nil ⟨C,(s13,s15),H.to trivial,(λd hd=>by cases (show none=some d from hd)),(λ_ _ _=>C),X⟩
  ·clear H J X; exact trivial
  clear H J X; intro s g a w hs H X; obtain ⟨s13,s15⟩:=g; refine ksq<|W.ret<|kbr<|ktr<|?_; obtain rfl:=oj M; refine post2 H C (rkn (cs':=#[B x14.1,s15]) C zag zaa (X.p 1 C) (bl C) C) (rkt C) ?_; replace X:=X.sl [1]; exact ⟨s15,C,X.noB⟩
 ·replace M:=hm_f M hc11; refine sg (l:=[0,1,2]) C<|mv H C λa H=>ov H C (Z.geq C C) λa H=>mv H C λa H=>nk<|?_; refine W.ifdI H C (λhc16=>?_) (λhc16=>?_)
  ·replace M:=hm_p M hc16; refine W.seq ?_; have J:Fr a 51 [] [(5,I 0)]:=H.q C; obtain ⟨x17,hx17,M⟩:=hm_b M; refine hb M λx19 hx19 M=>W.drawK (γ:=Value × Value) (L0:=[(2,Pv b7 0),(3,Pv b8 0),(4,Pv b9 0),(28,B (decide (x10≥(0:Int))))]) (L1:=[(5,I 0)]) (undef,undef) [6,7,10] [] [0,1,2,3,4,5,8,9,11] (λi=>match i with | 1=>[0] | 3=>[2] | 5=>[4] | 6=>[3,5] | 7=>[1,6] | 8=>[7] | 9=>[7] | 10=>[0,1,2,3,4,5,6,7,8,9] | 11=>[0,1,2,3,4,5,6,7,8,9,10] | _=>[]) (λ_=>[]) (λi=>match i with | 6=>[7,8,9,10,11] | 7=>[8,9,10,11] | 10=>[11] | _=>[]) (λ_=>[]) (λi=>match i with | 7=>1 | 8=>2 | 9=>2 | 10=>2 | 11=>3 | _=>0) (λi=>match i with | 0=>1 | 1=>1 | 6=>1 | 7=>2 | 8=>2 | 9=>2 | 10=>3 | 11=>3 | _=>0) (λ(g:Value × Value) j=>match j with | 0=>Pv b7 0 | 1=>B x1 | 2=>Pv b7 1 | 3=>s2 | 4=>Pv b8 1 | 5=>s5 | 6=>g.1 | 7=>.tuple #[.agg #[B x19.1,g.2],I x19.2.2] | 8=>.agg #[B x19.1,g.2] | 9=>I x19.2.2 | 11=>I x19.2.2 | _=>undef) (λk s (g:Value × Value) w=>match k with | 0=>St w0 w noX [E s2 x3,E s5 x6] [pt b9 (Cs #[B false,.slice none 0 0] 28),pW28 b8 x4 s5,pW28 b7 x1 s2] | 1=>St w0 w noX [E s2 x3,E s5 x6] [D g.1 x17,pt b9 (Cs #[B false,.slice none 0 0] 28),pW28 b8 x4 s5,pW28 b7 x1 s2] | 2=>St w0 w noX [E s2 x3,E s5 x6] [D g.2 x19.2.1,pt b9 (Cs #[B false,.slice none 0 0] 28),pW28 b8 x4 s5,pW28 b7 x1 s2] | _=>St w0 w noX [E s2 x3,E s5 x6] [D g.2 x19.2.1,pt b9 (Cs #[B x19.1,g.2] 28),pW28 b8 x4 s5,pW28 b7 x1 s2]) P_mixed (by kernel_rfl) (H.q C) J X.drew ?_ ?_ ?_ ?_
   ·clear H J X; refine ⟨λk s g w _ _ _ X a H=>Q.val (v:=Pv b7 0) C C C X H (Z.field zaj C C),?_,λk s g w _ _ _ X a H=>Q.val (v:=Pv b7 1) C C C X H (Z.field zah C C),?_,λk s g w _ _ _ X a H=>Q.val (v:=Pv b8 1) C C C X H (Z.field zah C C),?_,λk s g w _ _ _ X a H=>Q.val (v:=.agg #[B x19.1,g.2]) C C C X H (Z.extract C C),λk s g w _ _ _ X a H=>Q.val (v:=I x19.2.2) C C C X H (Z.extract C C),λk s g w _ _ _ X a H=>Q.val (v:=I x19.2.2) C C C X H (Z.assign C),trivial⟩
    ·intro k s g w h1_ h2_ hsp X a H; obtain ⟨s18,s20⟩:=g
     rcases k with _ | _ | k
     ·exact Q.val (v:=B x1) C C C X H (Z.load1 zap C (X.p 2 C) C)
     ·exact Q.val (v:=B x1) C C C X H (Z.load1 zap C (X.p 3 C) C)
     ·simp at h2_
    ·intro k s g w h1_ h2_ hsp X a H; obtain ⟨s18,s20⟩:=g
     rcases k with _ | k
     ·exact Q.val (v:=s2) C C C X H (Z.load1 zai C (X.p 2 C) C)
     ·simp at h2_
    ·intro k s g w h1_ h2_ hsp X a H; obtain ⟨s18,s20⟩:=g
     rcases k with _ | k
     ·exact Q.val (v:=s5) C C C X H (Z.load1 zai C (X.p 1 C) C)
     ·simp at h2_
   ·clear H J X; refine ⟨?_,?_,?_,trivial⟩
    ·intro s g w hsp X a H; obtain ⟨s18,s20⟩:=g; refine oq H X C ziC (zgp F s2 x3 s5 x6 _ (X.b 0 C) (X.b 1 C) x17 hx17) ?_; rintro s18 w X a H; exact nE 37 H (s18,s20) C C (jl 12 (by kernel_rfl) λ_=>C) X
    ·intro s g w hsp X a H; obtain ⟨s18,s20⟩:=g; refine oc H C zcJ (zaE F x1 s18 x17 _ (X.slS (j:=0) C) x19 hx19) ?_; rintro s20 w Y a H; replace X:=X.cz Y 0 λ_ h=>h; exact nE 38 H (s18,s20) C C (jl 12 (by kernel_rfl) λ_=>C) X
    ·intro s g w hsp X a H; obtain ⟨s18,s20⟩:=g; refine ost 1 #[B x19.1,s20] H X C C C zaa C (occ C (occ (rdo (X.s 0 C)) C)) C (bl C) C ?_; intro w X; exact O.nil ⟨C,(s18,s20),H.to trivial,(λd hd=>by cases (show none=some d from hd)),(λ_ _ _=>C),X⟩
   ·clear H J X; exact trivial
   clear H J X; intro s g a w hs H X; obtain ⟨s18,s20⟩:=g; refine ksq<|W.ret<|kbr<|ktr<|?_; obtain rfl:=oj M; refine post2 H C (rkn (cs':=#[B x19.1,s20]) C zag zaa (X.p 1 C) (bl C) C) (rkt C) ?_; replace X:=X.sl [1]; exact ⟨s20,C,X.noB⟩
  ·replace M:=hm_n M hc16; refine W.skip<|kbn<|ksq<|W.seq<|?_; have J:Fr a 51 [] [(5,I 0)]:=H.q C; obtain ⟨x21,hx21,M⟩:=hm_b M; refine hb M λx23 hx23 M=>W.drawK (γ:=Value × Value) (L0:=[(2,Pv b7 0),(3,Pv b8 0),(4,Pv b9 0)]) (L1:=[(5,I 0)]) (undef,undef) [6,7,10] [] [0,1,2,3,4,5,8,9,11] (λi=>match i with | 1=>[0] | 3=>[2] | 5=>[4] | 6=>[3,5] | 7=>[1,6] | 8=>[7] | 9=>[7] | 10=>[0,1,2,3,4,5,6,7,8,9] | 11=>[0,1,2,3,4,5,6,7,8,9,10] | _=>[]) (λ_=>[]) (λi=>match i with | 6=>[7,8,9,10,11] | 7=>[8,9,10,11] | 10=>[11] | _=>[]) (λ_=>[]) (λi=>match i with | 7=>1 | 8=>2 | 9=>2 | 10=>2 | 11=>3 | _=>0) (λi=>match i with | 0=>1 | 1=>1 | 6=>1 | 7=>2 | 8=>2 | 9=>2 | 10=>3 | 11=>3 | _=>0) (λ(g:Value × Value) j=>match j with | 0=>Pv b8 0 | 1=>B x4 | 2=>Pv b8 1 | 3=>s5 | 4=>Pv b7 1 | 5=>s2 | 6=>g.1 | 7=>.tuple #[.agg #[B x23.1,g.2],I x23.2.2] | 8=>.agg #[B x23.1,g.2] | 9=>I x23.2.2 | 11=>I x23.2.2 | _=>undef) (λk s (g:Value × Value) w=>match k with | 0=>St w0 w noX [E s2 x3,E s5 x6] [pt b9 (Cs #[B false,.slice none 0 0] 28),pW28 b8 x4 s5,pW28 b7 x1 s2] | 1=>St w0 w noX [E s2 x3,E s5 x6] [D g.1 x21,pt b9 (Cs #[B false,.slice none 0 0] 28),pW28 b8 x4 s5,pW28 b7 x1 s2] | 2=>St w0 w noX [E s2 x3,E s5 x6] [D g.2 x23.2.1,pt b9 (Cs #[B false,.slice none 0 0] 28),pW28 b8 x4 s5,pW28 b7 x1 s2] | _=>St w0 w noX [E s2 x3,E s5 x6] [D g.2 x23.2.1,pt b9 (Cs #[B x23.1,g.2] 28),pW28 b8 x4 s5,pW28 b7 x1 s2]) P_mixed (by kernel_rfl) (H.q C) J X.drew ?_ ?_ ?_ ?_
   ·clear H J X; refine ⟨λk s g w _ _ _ X a H=>Q.val (v:=Pv b8 0) C C C X H (Z.field zaj C C),?_,λk s g w _ _ _ X a H=>Q.val (v:=Pv b8 1) C C C X H (Z.field zah C C),?_,λk s g w _ _ _ X a H=>Q.val (v:=Pv b7 1) C C C X H (Z.field zah C C),?_,λk s g w _ _ _ X a H=>Q.val (v:=.agg #[B x23.1,g.2]) C C C X H (Z.extract C C),λk s g w _ _ _ X a H=>Q.val (v:=I x23.2.2) C C C X H (Z.extract C C),λk s g w _ _ _ X a H=>Q.val (v:=I x23.2.2) C C C X H (Z.assign C),trivial⟩
    ·intro k s g w h1_ h2_ hsp X a H; obtain ⟨s22,s24⟩:=g
     rcases k with _ | _ | k
     ·exact Q.val (v:=B x4) C C C X H (Z.load1 zap C (X.p 1 C) C)
     ·exact Q.val (v:=B x4) C C C X H (Z.load1 zap C (X.p 2 C) C)
     ·simp at h2_
    ·intro k s g w h1_ h2_ hsp X a H; obtain ⟨s22,s24⟩:=g
     rcases k with _ | k
     ·exact Q.val (v:=s5) C C C X H (Z.load1 zai C (X.p 1 C) C)
     ·simp at h2_
    ·intro k s g w h1_ h2_ hsp X a H; obtain ⟨s22,s24⟩:=g
     rcases k with _ | k
     ·exact Q.val (v:=s2) C C C X H (Z.load1 zai C (X.p 2 C) C)
     ·simp at h2_
   ·clear H J X; refine ⟨?_,?_,?_,trivial⟩
    ·intro s g w hsp X a H; obtain ⟨s22,s24⟩:=g; refine oq H X C ziC (zgp F s5 x6 s2 x3 _ (X.b 1 C) (X.b 0 C) x21 hx21) ?_; rintro s22 w X a H; exact nE 47 H (s22,s24) C C (jl 12 (by kernel_rfl) λ_=>C) X
    ·intro s g w hsp X a H; obtain ⟨s22,s24⟩:=g; refine oc H C zcJ (zaE F x4 s22 x21 _ (X.slS (j:=0) C) x23 hx23) ?_; rintro s24 w Y a H; replace X:=X.cz Y 0 λ_ h=>h; exact nE 48 H (s22,s24) C C (jl 12 (by kernel_rfl) λ_=>C) X
    ·intro s g w hsp X a H; obtain ⟨s22,s24⟩:=g; refine ost 1 #[B x23.1,s24] H X C C C zaa C (occ C (occ (rdo (X.s 0 C)) C)) C (bl C) C ?_; intro w X; exact O.nil ⟨C,(s22,s24),H.to trivial,(λd hd=>by cases (show none=some d from hd)),(λ_ _ _=>C),X⟩
   ·clear H J X; exact trivial
   clear H J X; intro s g a w hs H X; obtain ⟨s22,s24⟩:=g; refine ksq ?_; replace X:=X.sl [1,1]; refine W.ret ?_; obtain rfl:=oj M; refine post2 H C (rkn (cs':=#[B x23.1,s24]) C zag zaa (X.p 1 C) (bl C) C) (rkt C) ?_; replace X:=X.sl [1]; exact ⟨s24,C,X.noB⟩
def zez (F:Nat) (x1:Bool) (x3:List Int) (x4:Bool) (x6:List Int):Option (Bool × (List Int) × Int) :=
  (za2 F x1 x3 x4 x6).bind λx11=>if x11≠(0:Int) then (none) else ((zf9 F x1 x3 x4 x6).bind λx13=>some x13)
theorem zeO (F:Nat) (x1:Bool) (s2:Value) (x3:List Int) (x4:Bool) (s5:Value) (x6:List Int) (w0:World) (h_s2:rdEOK (hp w0) 1 E61 s2 x3) (h_s5:rdEOK (hp w0) 1 E61 s5 x6) (r:Bool × (List Int) × Int) (M:zez F x1 x3 x4 x6=some r) :
    Ret P 67 #[.agg #[B x1,s2],.agg #[B x4,s5]] w0 (G:=Value) (λg1=>.tuple #[.agg #[B r.1,g1],I r.2.2]) (λg1 w=>St w0 w noX [] [D g1 r.2.1]):=by
 unfold zez at M; refine roW Tryz.func67 C C C (λa H=>?_); have X:St w0 w0 noX [E s2 x3,E s5 x6] []:=Sbw (lnc (lendRd h_s2) (lnc (lendRd h_s5) lnn)); refine sg (l:=[0,1,2,3]) C<|O.box (cs:=#[B x1,s2]) H X C C C C<|?_; intro b7 w a hb7 X H; refine O.box (cs:=#[B x4,s5]) H X C C C C ?_; intro b8 w a hb8 X H; refine O.alloc (cs:=#[B false,.slice none 0 0]) H X C C zab C ?_; intro b9 w a hb9 X H; refine mv H C λa H=>nk<|W.seq<|sg (l:=[0,1,2,3,4]) C<|ov H C (lN (cs':=#[B x1,s2]) A_28 C (X.p 2 C) C C) λa H=>ov H C (lN (cs':=#[B x4,s5]) A_28 C (X.p 1 C) C C) λa H=>O.buildSlice (cs':=#[B x1,s2,B x4,s5]) (zs:=#[B false,.slice none 0 0,B false,.slice none 0 0]) H X C C za4 zaa zab C C C C C<|?_; intro b10 w a hb10 X H; refine hb M λx11 hx11 M=>oq H X C zc2 (zbH F b10 x1 s2 x3 x4 s5 x6 _ (X.b 0 C) (X.b 1 C) (X.p 0 C) x11 hx11) ?_; rintro _ w X a H; refine mv H C λa H=>nk<|?_; replace X:=X.sl [0,1,1,1]; refine sg (l:=[0,1]) C<|mv H C λa H=>ov H C (Z.neq C C) λa H=>nk<|?_; refine W.ifdI H C (λhc12=>?_) (λhc12=>?_)
 ·nomatch hm_p M hc12
 ·replace M:=hm_n M hc12; refine W.skip<|ksq<|sg (l:=[0,1,2,3,4,5,6]) C<|ov H C (lN (cs':=#[B x1,s2]) A_28 C (X.p 2 C) C C) λa H=>ov H C (lN (cs':=#[B x4,s5]) A_28 C (X.p 1 C) C C) λa H=>?_; refine hb M λx13 hx13 M=>oq H X C zid (zg2 F x1 s2 x3 x4 s5 x6 _ (X.b 0 C) (X.b 1 C) x13 hx13) ?_; rintro s14 w X a H; refine ex H C C C λa H=>ex H C C C λa H=>ost 1 #[B x13.1,s14] H X C C C zaa C (occ C (occ (rdo (X.s 0 C)) C)) C (bl C) C<|?_; intro w X; refine mv H C λa H=>nk<|?_; replace X:=X.sl [1,1]; refine W.ret ?_; obtain rfl:=oj M; refine post2 H C (rkn (cs':=#[B x13.1,s14]) C zag zaa (X.p 1 C) (bl C) C) (rkt C) ?_; replace X:=X.sl [1]; exact ⟨s14,C,X.noB⟩
def zcB (F:Nat) (x1:Bool) (x3:List Int) (x4:Bool) (x6:List Int):Option (Bool × (List Int)) :=
  (zez F x1 x3 x4 x6).bind λx10=>some (x10.1,x10.2.1)
theorem zct (F:Nat) (x1:Bool) (s2:Value) (x3:List Int) (x4:Bool) (s5:Value) (x6:List Int) (w0:World) (h_s2:rdEOK (hp w0) 1 E61 s2 x3) (h_s5:rdEOK (hp w0) 1 E61 s5 x6) (r:Bool × (List Int)) (M:zcB F x1 x3 x4 x6=some r) :
    Ret P 140 #[.agg #[B x1,s2],.agg #[B x4,s5]] w0 (G:=Value) (λg1=>.agg #[B r.1,g1]) (λg1 w=>St w0 w noX [] [D g1 r.2]):=by
 unfold zcB at M; refine roW Tryz.func140 C C C (λa H=>?_); have X:St w0 w0 noX [E s2 x3,E s5 x6] []:=Sbw (lnc (lendRd h_s2) (lnc (lendRd h_s5) lnn)); refine sg (l:=[0,1,2]) C<|O.box (cs:=#[B x1,s2]) H X C C C C<|?_; intro b7 w a hb7 X H; refine O.box (cs:=#[B x4,s5]) H X C C C C ?_; intro b8 w a hb8 X H; refine O.alloc (cs:=#[B false,.slice none 0 0]) H X C C zab C ?_; intro b9 w a hb9 X H; refine nk<|sg (l:=[0,1,2,3,4,5,6,7,8]) C<|ov H C (lN (cs':=#[B x1,s2]) A_28 C (X.p 2 C) C C) λa H=>ov H C (lN (cs':=#[B x4,s5]) A_28 C (X.p 1 C) C C) λa H=>?_; refine hb M λx10 hx10 M=>oq H X C zhm (zeO F x1 s2 x3 x4 s5 x6 _ (X.b 0 C) (X.b 1 C) x10 hx10) ?_; rintro s11 w X a H; refine mv H C λa H=>ex H C C C λa H=>ex H C C C λa H=>O.alloc (cs:=#[B false,.slice none 0 0]) H X C C zab C<|?_; intro b12 w a hb12 X H; refine ost 0 #[B x10.1,s11] H X C C C zaa C (occ C (occ (rdo (X.s 1 C)) C)) C (bl C) C ?_; intro w X; refine mv H C λa H=>nk<|?_; replace X:=X.sl [1,1,1]; refine sg (l:=[0,1]) C<|ov H C (lN (cs':=#[B x10.1,s11]) A_28 C (X.p 0 C) C C) λa H=>ost 2 #[B x10.1,s11] H X C C C zaa C (occ C (occ (rdo (X.s 1 C)) C)) C (bl C) C<|?_; intro w X; refine nk ?_; replace X:=X.sl [0,1,1]; refine W.ret ?_; obtain rfl:=oj M; refine post1 H C (rkn (cs':=#[B x10.1,s11]) C zag zaa (X.p 1 C) (bl C) C) ?_; replace X:=X.sl [1]; exact ⟨s11,C,X.noB⟩
def zga (F:Nat) (x1:Bool) (x3:List Int) (x4:Bool) (x6:List Int):Option (Bool × (List Int) × Int) :=
  (za2 F x1 x3 x4 x6).bind λx11=>if x11≠(0:Int) then (none) else ((zf9 F x1 x3 (!x4) x6).bind λx13=>some x13)
theorem zg3 (F:Nat) (x1:Bool) (s2:Value) (x3:List Int) (x4:Bool) (s5:Value) (x6:List Int) (w0:World) (h_s2:rdEOK (hp w0) 1 E61 s2 x3) (h_s5:rdEOK (hp w0) 1 E61 s5 x6) (r:Bool × (List Int) × Int) (M:zga F x1 x3 x4 x6=some r) :
    Ret P 66 #[.agg #[B x1,s2],.agg #[B x4,s5]] w0 (G:=Value) (λg1=>.tuple #[.agg #[B r.1,g1],I r.2.2]) (λg1 w=>St w0 w noX [] [D g1 r.2.1]):=by
 unfold zga at M; refine roW Tryz.func66 C C C (λa H=>?_); have X:St w0 w0 noX [E s2 x3,E s5 x6] []:=Sbw (lnc (lendRd h_s2) (lnc (lendRd h_s5) lnn)); refine sg (l:=[0,1,2,3]) C<|O.box (cs:=#[B x1,s2]) H X C C C C<|?_; intro b7 w a hb7 X H; refine O.box (cs:=#[B x4,s5]) H X C C C C ?_; intro b8 w a hb8 X H; refine O.alloc (cs:=#[B false,.slice none 0 0]) H X C C zab C ?_; intro b9 w a hb9 X H; refine mv H C λa H=>nk<|W.seq<|sg (l:=[0,1,2,3,4]) C<|ov H C (lN (cs':=#[B x1,s2]) A_28 C (X.p 2 C) C C) λa H=>ov H C (lN (cs':=#[B x4,s5]) A_28 C (X.p 1 C) C C) λa H=>O.buildSlice (cs':=#[B x1,s2,B x4,s5]) (zs:=#[B false,.slice none 0 0,B false,.slice none 0 0]) H X C C za4 zaa zab C C C C C<|?_; intro b10 w a hb10 X H; refine hb M λx11 hx11 M=>oq H X C zc2 (zbH F b10 x1 s2 x3 x4 s5 x6 _ (X.b 0 C) (X.b 1 C) (X.p 0 C) x11 hx11) ?_; rintro _ w X a H; refine mv H C λa H=>nk<|?_; replace X:=X.sl [0,1,1,1]; refine sg (l:=[0,1]) C<|mv H C λa H=>ov H C (Z.neq C C) λa H=>nk<|?_; refine W.ifdI H C (λhc12=>?_) (λhc12=>?_)
 ·nomatch hm_p M hc12
 ·replace M:=hm_n M hc12; refine W.skip<|ksq<|sg (l:=[0,1,2,3,4]) C<|ov H C (Z.field zaj C C) λa H=>ov H C (Z.load1 zap C (X.p 1 C) C) λa H=>ov H C (Z.not C) λa H=>ov H C (Z.field zaj C C) λa H=>ost 1 #[B (!x4),s5] H X C C C zjk C C C (bl C) C<|?_; intro w X; refine nk<|sg (l:=[0,1,2,3,4,5,6]) C<|ov H C (lN (cs':=#[B x1,s2]) A_28 C (X.p 2 C) C C) λa H=>ov H C (lN (cs':=#[B (!x4),s5]) A_28 C (X.p 1 C) C C) λa H=>?_; refine hb M λx13 hx13 M=>oq H X C zid (zg2 F x1 s2 x3 (!x4) s5 x6 _ (X.b 0 C) (X.b 1 C) x13 hx13) ?_; rintro s14 w X a H; refine ex H C C C λa H=>ex H C C C λa H=>ost 1 #[B x13.1,s14] H X C C C zaa C (occ C (occ (rdo (X.s 0 C)) C)) C (bl C) C<|?_; intro w X; refine mv H C λa H=>nk<|?_; replace X:=X.sl [1,1]; refine W.ret ?_; obtain rfl:=oj M; refine post2 H C (rkn (cs':=#[B x13.1,s14]) C zag zaa (X.p 1 C) (bl C) C) (rkt C) ?_; replace X:=X.sl [1]; exact ⟨s14,C,X.noB⟩
def zbO (F:Nat) (x1:Bool) (x3:List Int) (x4:Bool) (x6:List Int):Option (Bool × (List Int)) :=
  (zga F x1 x3 x4 x6).bind λx10=>some (x10.1,x10.2.1)
theorem zbB (F:Nat) (x1:Bool) (s2:Value) (x3:List Int) (x4:Bool) (s5:Value) (x6:List Int) (w0:World) (h_s2:rdEOK (hp w0) 1 E61 s2 x3) (h_s5:rdEOK (hp w0) 1 E61 s5 x6) (r:Bool × (List Int)) (M:zbO F x1 x3 x4 x6=some r) :
    Ret P 139 #[.agg #[B x1,s2],.agg #[B x4,s5]] w0 (G:=Value) (λg1=>.agg #[B r.1,g1]) (λg1 w=>St w0 w noX [] [D g1 r.2]):=by
 unfold zbO at M; refine roW Tryz.func139 C C C (λa H=>?_); have X:St w0 w0 noX [E s2 x3,E s5 x6] []:=Sbw (lnc (lendRd h_s2) (lnc (lendRd h_s5) lnn)); refine sg (l:=[0,1,2]) C<|O.box (cs:=#[B x1,s2]) H X C C C C<|?_; intro b7 w a hb7 X H; refine O.box (cs:=#[B x4,s5]) H X C C C C ?_; intro b8 w a hb8 X H; refine O.alloc (cs:=#[B false,.slice none 0 0]) H X C C zab C ?_; intro b9 w a hb9 X H; refine nk<|sg (l:=[0,1,2,3,4,5,6,7,8]) C<|ov H C (lN (cs':=#[B x1,s2]) A_28 C (X.p 2 C) C C) λa H=>ov H C (lN (cs':=#[B x4,s5]) A_28 C (X.p 1 C) C C) λa H=>?_; refine hb M λx10 hx10 M=>oq H X C zix (zg3 F x1 s2 x3 x4 s5 x6 _ (X.b 0 C) (X.b 1 C) x10 hx10) ?_; rintro s11 w X a H; refine mv H C λa H=>ex H C C C λa H=>ex H C C C λa H=>O.alloc (cs:=#[B false,.slice none 0 0]) H X C C zab C<|?_; intro b12 w a hb12 X H; refine ost 0 #[B x10.1,s11] H X C C C zaa C (occ C (occ (rdo (X.s 1 C)) C)) C (bl C) C ?_; intro w X; refine mv H C λa H=>nk<|?_; replace X:=X.sl [1,1,1]; refine sg (l:=[0,1]) C<|ov H C (lN (cs':=#[B x10.1,s11]) A_28 C (X.p 0 C) C C) λa H=>ost 2 #[B x10.1,s11] H X C C C zaa C (occ C (occ (rdo (X.s 1 C)) C)) C (bl C) C<|?_; intro w X; refine nk ?_; replace X:=X.sl [0,1,1]; refine W.ret ?_; obtain rfl:=oj M; refine post1 H C (rkn (cs':=#[B x10.1,s11]) C zag zaa (X.p 1 C) (bl C) C) ?_; replace X:=X.sl [1]; exact ⟨s11,C,X.noB⟩
def zdK (F:Nat) (x14:Bool) (x16:List Int) (x17:Int):Option (Bool × (List Int) × Int) :=
  (some (i64.wrap ((i64.wrap (2*x17))+4))).bind λx19=>some (x14,x16,x19)
def zdL (F:Nat) (rec41:Bool→(List Int)→Bool→(List Int)→Int→Int→Option (Bool × (List Int) × Int)) (x42:Bool) (x44:List Int) (x39 x40:Int) (x51:Bool) (x53:List Int):Option (Bool × (List Int) × Int) :=
  rec41 x42 x44 x51 x53 (i64.wrap (x39+1)) (i64.wrap (x40+1))
def zeU (F:Nat) (x36:Bool) (x38:List Int) (x39 x40:Int) (rec41:Bool→(List Int)→Bool→(List Int)→Int→Int→Option (Bool × (List Int) × Int)) (x42:Bool) (x44:List Int) (x45:Bool) (x47:List Int):Option (Bool × (List Int) × Int) :=
  (zba F x45 x47).bind λx49=>if x49=(0:Int) then (zdK F x36 x38 x39) else (if (Int.tmod x40 2)=(0:Int) then ((zcB F x36 x38 x45 x47).bind λx55=>zdL F rec41 x42 x44 x39 x40 x55.1 x55.2) else ((zbO F x36 x38 x45 x47).bind λx57=>zdL F rec41 x42 x44 x39 x40 x57.1 x57.2))
def zeV (F:Nat) (x1:Int) (rec41:Bool→(List Int)→Bool→(List Int)→Int→Int→Option (Bool × (List Int) × Int)) (x33:Bool) (x35:List Int) (x36:Bool) (x38:List Int) (x39 x40:Int):Option (Bool × (List Int) × Int) :=
  (zaN F (i64.wrap ((i64.wrap (2*x40))+1))).bind λx60=>(zb8 F x33 x35 x60.1 x60.2).bind λx62=>(zaN F (i64.wrap (x1*x1))).bind λx65=>(zb8 F x33 x35 x65.1 x65.2).bind λx67=>zeU F x36 x38 x39 x40 rec41 x67.1 x67.2 x62.1 x62.2
def zcT (F:Nat) (x1:Int):Nat→Bool→(List Int)→Bool→(List Int)→Int→Int→Option (Bool × (List Int) × Int)
  | 0,_,_,_,_,_,_=>none
  | n+1,x33,x35,x36,x38,x39,x40=>zeV F x1 (zcT F x1 n) x33 x35 x36 x38 x39 x40
def zdM (F:Nat) (x1:Int) (x21:Bool) (x23:List Int) (x30:Bool) (x32:List Int):Option (Bool × (List Int) × Int) :=
  zcT F x1 F x21 x23 x30 x32 1 1
def zeW (F:Nat) (x1:Int) (x21:Bool) (x23:List Int) (x24:Bool) (x26:List Int):Option (Bool × (List Int) × Int) :=
  (zba F x24 x26).bind λx28=>if x28=(0:Int) then (zdK F false ([]:List Int) 0) else (if (Int.tmod 0 2)=(0:Int) then ((zcB F false ([]:List Int) x24 x26).bind λx70=>zdM F x1 x21 x23 x70.1 x70.2) else ((zbO F false ([]:List Int) x24 x26).bind λx72=>zdM F x1 x21 x23 x72.1 x72.2))
def zdW (F:Nat) (x1 x2:Int):Option (Bool × (List Int) × Int) :=
  (zaN F 1).bind λx5=>(zbi F x5.1 x5.2 x2).bind λx7=>(zaN F x1).bind λx9=>(zb8 F x7.1 x7.2 x9.1 x9.2).bind λx11=>(zaN F 1).bind λx75=>(zb8 F x11.1 x11.2 x75.1 x75.2).bind λx77=>(zaN F (i64.wrap (x1*x1))).bind λx80=>(zb8 F x11.1 x11.2 x80.1 x80.2).bind λx82=>zeW F x1 x82.1 x82.2 x77.1 x77.2
theorem zeX (F:Nat) (x1 x2:Int) (w0:World) (r:Bool × (List Int) × Int) (M:zdW F x1 x2=some r) :
    Ret P 150 #[I x1,I x2] w0 (G:=Value) (λg1=>.agg #[B r.1,g1,I r.2.2]) (λg1 w=>St w0 w noX [] [D g1 r.2.1]):=by
 unfold zdW at M; refine roW Tryz.func150 C C C (λa H=>?_); have X:St w0 w0 noX [] []:=Sbw lnn; refine sg (l:=[0,1]) C<|O.box (cs:=#[I x1]) H X C C C C<|?_; intro b3 w a hb3 X H; refine O.alloc (cs:=#[B false,.slice none 0 0,I 0]) H X C C zao C ?_; intro b4 w a hb4 X H; refine nk<|W.seq<|?_; have J:Fr a 24 [] []:=H.to trivial; obtain ⟨x5,hx5,M⟩:=hm_b M; obtain ⟨x7,hx7,M⟩:=hm_b M; obtain ⟨x9,hx9,M⟩:=hm_b M; obtain ⟨x11,hx11,M⟩:=hm_b M; replace X:=X.drew; replace X:=X.emp; refine W.drawK (γ:=Nat × Value × Value × Value × Value) (L0:=[(1,I x2),(2,Pv b3 0),(4,Pv b4 0)]) (L1:=[]) (0,undef,undef,undef,undef) [0,2,4,5,7] [6] [1,3] (λi=>match i with | 2=>[0,1] | 4=>[2,3] | 5=>[2,4] | 7=>[0,1,2,3,4,5,6] | _=>[]) (λi=>match i with | 7=>[6] | _=>[]) (λi=>match i with | 0=>[2,4,5,7] | 2=>[4,5,7] | 4=>[5,7] | 5=>[7] | 6=>[7] | _=>[]) (λ_=>[]) (λi=>match i with | 2=>1 | 4=>2 | 5=>3 | 7=>4 | _=>0) (λi=>match i with | 0=>1 | 1=>1 | 2=>2 | 3=>2 | 4=>3 | 5=>4 | 6=>4 | 7=>5 | _=>0) (λ(g:Nat × Value × Value × Value × Value) j=>match j with | 0=>.agg #[B x5.1,g.2.1] | 1=>I x2 | 2=>.agg #[B x7.1,g.2.2.1] | 3=>I x1 | 4=>.agg #[B x9.1,g.2.2.2.1] | 5=>.agg #[B x11.1,g.2.2.2.2] | 6=>Pv g.1 0 | _=>undef) (λk s (g:Nat × Value × Value × Value × Value) w=>match k with | 0=>St w0 w noX [] [condA (s 6) (pt g.1 (Cs #[B false,.slice none 0 0] 28)),pt b4 (Cs #[B false,.slice none 0 0,I 0] 170),pI2 b3 x1] | 1=>St w0 w noX [] [D g.2.1 x5.2,condA (s 6) (pt g.1 (Cs #[B false,.slice none 0 0] 28)),pt b4 (Cs #[B false,.slice none 0 0,I 0] 170),pI2 b3 x1] | 2=>St w0 w noX [] [D g.2.2.1 x7.2,D g.2.1 x5.2,condA (s 6) (pt g.1 (Cs #[B false,.slice none 0 0] 28)),pt b4 (Cs #[B false,.slice none 0 0,I 0] 170),pI2 b3 x1] | 3=>St w0 w noX [] [D g.2.2.2.1 x9.2,D g.2.2.1 x7.2,D g.2.1 x5.2,condA (s 6) (pt g.1 (Cs #[B false,.slice none 0 0] 28)),pt b4 (Cs #[B false,.slice none 0 0,I 0] 170),pI2 b3 x1] | 4=>St w0 w noX [] [D g.2.2.2.2 x11.2,D g.2.2.2.1 x9.2,D g.2.2.1 x7.2,D g.2.1 x5.2,condA (s 6) (pt g.1 (Cs #[B false,.slice none 0 0] 28)),pt b4 (Cs #[B false,.slice none 0 0,I 0] 170),pI2 b3 x1] | _=>St w0 w noX [] [D g.2.2.2.2 x11.2,D g.2.2.2.1 x9.2,D g.2.2.1 x7.2,D g.2.1 x5.2,pt g.1 (Cs #[B x11.1,g.2.2.2.2] 28),pt b4 (Cs #[B false,.slice none 0 0,I 0] 170),pI2 b3 x1]) P_mixed (by kernel_rfl) (H.q C) J X ?_ ?_ ?_ ?_
 ·clear H J X; refine ⟨λk s g w _ _ _ X a H=>Q.val (v:=I x2) C C C X H (Z.move C),?_,trivial⟩
  ·intro k s g w h1_ h2_ hsp X a H; obtain ⟨b13,s6,s8,s10,s12⟩:=g
   rcases k with _ | _ | _ | k
   ·exact Q.val (v:=I x1) C C C X H (Z.load1 zaf C (X.p 2 C) C)
   ·exact Q.val (v:=I x1) C C C X H (Z.load1 zaf C (X.p 3 C) C)
   ·exact Q.val (v:=I x1) C C C X H (Z.load1 zaf C (X.p 4 C) C)
   ·simp at h2_
 ·clear H J X; refine ⟨?_,?_,?_,?_,?_,trivial⟩
  ·intro s g w hsp X a H; obtain ⟨b13,s6,s8,s10,s12⟩:=g; refine oq H X C zbn (zaF F 1 _ x5 hx5) ?_; rintro s6 w X a H; exact nE 8 H (b13,s6,s8,s10,s12) C C (jl 8 (by kernel_rfl) λ_=>C) X
  ·intro s g w hsp X a H; obtain ⟨b13,s6,s8,s10,s12⟩:=g; refine oq H X C zdD (zbd F x5.1 s6 x5.2 x2 _ (X.s 0 C) x7 hx7) ?_; rintro s8 w X a H; exact nE 10 H (b13,s6,s8,s10,s12) C C (jl 8 (by kernel_rfl) λ_=>C) X
  ·intro s g w hsp X a H; obtain ⟨b13,s6,s8,s10,s12⟩:=g; refine oq H X C zbn (zaF F x1 _ x9 hx9) ?_; rintro s10 w X a H; exact nE 12 H (b13,s6,s8,s10,s12) C C (jl 8 (by kernel_rfl) λ_=>C) X
  ·intro s g w hsp X a H; obtain ⟨b13,s6,s8,s10,s12⟩:=g; refine oq H X C zeh (zbZ F x7.1 s8 x7.2 x9.1 s10 x9.2 _ (X.s 1 C) (X.s 0 C) x11 hx11) ?_; rintro s12 w X a H; exact nE 13 H (b13,s6,s8,s10,s12) C C (jl 8 (by kernel_rfl) λ_=>C) X
  ·intro s g w hsp X a H; obtain ⟨b13,s6,s8,s10,s12⟩:=g; have h6_:s 6=true:=hsp 6 (by simp); have X:St w0 w noX [] [D s12 x11.2,D s10 x9.2,D s8 x7.2,D s6 x5.2,condA (s 6) (pt b13 (Cs #[B false,.slice none 0 0] 28)),pt b4 (Cs #[B false,.slice none 0 0,I 0] 170),pI2 b3 x1]:=X; clear X; rw [h6_] at X; replace X:St w0 w noX [] [D s12 x11.2,D s10 x9.2,D s8 x7.2,D s6 x5.2,pt b13 (Cs #[B false,.slice none 0 0] 28),pt b4 (Cs #[B false,.slice none 0 0,I 0] 170),pI2 b3 x1]:=X; refine ost 4 #[B x11.1,s12] H X C C C zaa C (occ C (occ (rdo (X.s 0 C)) C)) C (bl C) C ?_; intro w X; exact O.nil ⟨C,(b13,s6,s8,s10,s12),H.to trivial,(λd hd=>by cases (show none=some d from hd)),(λ_ _ _=>C),X⟩
 ·clear H J X; refine ⟨?_,trivial⟩
  ·intro k s g w h1_ h2_ hs0 X a H; obtain ⟨b13,s6,s8,s10,s12⟩:=g
   rcases k with _ | _ | _ | _ | _ | k
   ·refine oaC (j:=0) (cs:=#[B false,.slice none 0 0]) H X C hs0 C C zab C ?_; clear H X a; intro b13 w a X H; exact nE 5 H (b13,s6,s8,s10,s12) C C (jl 8 (by kernel_rfl) λ_=>C) X
   ·refine oaC (j:=1) (cs:=#[B false,.slice none 0 0]) H X C hs0 C C zab C ?_; clear H X a; intro b13 w a X H; exact nE 5 H (b13,s6,s8,s10,s12) C C (jl 8 (by kernel_rfl) λ_=>C) X
   ·refine oaC (j:=2) (cs:=#[B false,.slice none 0 0]) H X C hs0 C C zab C ?_; clear H X a; intro b13 w a X H; exact nE 5 H (b13,s6,s8,s10,s12) C C (jl 8 (by kernel_rfl) λ_=>C) X
   ·refine oaC (j:=3) (cs:=#[B false,.slice none 0 0]) H X C hs0 C C zab C ?_; clear H X a; intro b13 w a X H; exact nE 5 H (b13,s6,s8,s10,s12) C C (jl 8 (by kernel_rfl) λ_=>C) X
   ·refine oaC (j:=4) (cs:=#[B false,.slice none 0 0]) H X C hs0 C C zab C ?_; clear H X a; intro b13 w a X H; exact nE 5 H (b13,s6,s8,s10,s12) C C (jl 8 (by kernel_rfl) λ_=>C) X
   ·simp at h2_
 clear H J X; intro s g a w hs H X; obtain ⟨b13,s6,s8,s10,s12⟩:=g; have h6_:s 6=true:=hs 6 (by simp); refine ksq ?_; replace X:=X.sl [1,0,0,0,1,1,1]; refine sg (l:=[0,1,2,3,4,5,6,7]) C<|ov (v:=.func (.func 163) #[] #[Pv b13 0,Pv b3 0]) H C (Z.makeFunc C C C C) λa H=>?_; refine O.callI (R:=λv w=>∃ (x14:Bool) (s15:Value) (x16:List Int) (x17:Int),v=.tuple #[.agg #[B x14,s15],I x17]∧St w0 w noX [] [pt b4 (Cs #[B false,.slice none 0 0,I 0] 170),D s15 x16]∧zdK F x14 x16 x17=some r) (lv:=[.func (.func 163) #[] #[Pv b13 0,Pv b3 0]]) H C C C (RunE.call (av:=#[.func (.func 163) #[] #[Pv b13 0,Pv b3 0]]) zik C C C) Tryz.func162 C C C ?_ ?_
 ·clear H a; intro a H; refine sg (l:=[0,1]) C<|O.alloc (cs:=#[B false,.slice none 0 0]) H X C C zab C<|?_; intro b20 w a hb20 X H; refine mv H C λa H=>nk<|sg (l:=[0]) C<|mv H C λa H=>nk<|W.block<|?_; refine W.loopH (LH.step ?_); refine W.seq<|W.block<|sg (l:=[0,1,2,3,4]) C<|mv2 H C C λa H=>?_; refine O.callI (R:=λv w=>∃ (x21:Bool) (s22:Value) (x23:List Int) (x24:Bool) (s25:Value) (x26:List Int),v=.agg #[B x24,s25]∧St w0 w noX [] [D s22 x23,pW28 b13 x21 s22,pI2 b3 x1,pt b20 (Cs #[B false,.slice none 0 0] 28),D s25 x26,pt b4 (Cs #[B false,.slice none 0 0,I 0] 170)]∧zeW F x1 x21 x23 x24 x26=some r) (lv:=[I 0,Pv b13 0,Pv b3 0]) H C C C (RunE.call (av:=#[I 0,Pv b13 0,Pv b3 0]) zil C C C) Tryz.func163 C C C ?_ ?_
  ·clear H a; intro a H; refine sg (l:=[0]) C<|O.alloc (cs:=#[B false,.slice none 0 0]) H X C C zab C<|?_; intro b74 w a hb74 X H; refine nk<|W.seq<|?_; have J:Fr a 19 [] []:=H.to trivial; obtain ⟨x75,hx75,M⟩:=hm_b M; obtain ⟨x77,hx77,M⟩:=hm_b M; replace X:=X.drew; replace X:=X.emp; refine W.drawK (γ:=Nat × Value × Value) (L0:=[(0,I 0),(1,Pv b13 0),(2,Pv b3 0),(4,Pv b74 0)]) (L1:=[]) (0,undef,undef) [4,5,7] [6] [0,1,2,3] (λi=>match i with | 2=>[1] | 3=>[2] | 4=>[3] | 5=>[0,4] | 7=>[0,1,2,3,4,5,6] | _=>[]) (λi=>match i with | 7=>[6] | _=>[]) (λi=>match i with | 4=>[5,7] | 5=>[7] | 6=>[7] | _=>[]) (λ_=>[]) (λi=>match i with | 5=>1 | 7=>2 | _=>0) (λi=>match i with | 0=>1 | 4=>1 | 5=>2 | 6=>2 | 7=>3 | _=>0) (λ(g:Nat × Value × Value) j=>match j with | 0=>.agg #[B x11.1,s12] | 1=>I 0 | 2=>I 0 | 3=>I 1 | 4=>.agg #[B x75.1,g.2.1] | 5=>.agg #[B x77.1,g.2.2] | 6=>Pv g.1 0 | _=>undef) (λk s (g:Nat × Value × Value) w=>match k with | 0=>St w0 w noX [] [condA (s 6) (pt g.1 (Cs #[B false,.slice none 0 0] 28)),pt b74 (Cs #[B false,.slice none 0 0] 28),pt b20 (Cs #[B false,.slice none 0 0] 28),D s12 x11.2,pW28 b13 x11.1 s12,pt b4 (Cs #[B false,.slice none 0 0,I 0] 170),pI2 b3 x1] | 1=>St w0 w noX [] [D g.2.1 x75.2,condA (s 6) (pt g.1 (Cs #[B false,.slice none 0 0] 28)),pt b74 (Cs #[B false,.slice none 0 0] 28),pt b20 (Cs #[B false,.slice none 0 0] 28),D s12 x11.2,pW28 b13 x11.1 s12,pt b4 (Cs #[B false,.slice none 0 0,I 0] 170),pI2 b3 x1] | 2=>St w0 w noX [] [D g.2.2 x77.2,D g.2.1 x75.2,condA (s 6) (pt g.1 (Cs #[B false,.slice none 0 0] 28)),pt b74 (Cs #[B false,.slice none 0 0] 28),pt b20 (Cs #[B false,.slice none 0 0] 28),D s12 x11.2,pW28 b13 x11.1 s12,pt b4 (Cs #[B false,.slice none 0 0,I 0] 170),pI2 b3 x1] | _=>St w0 w noX [] [D g.2.2 x77.2,D g.2.1 x75.2,pt g.1 (Cs #[B x77.1,g.2.2] 28),pt b74 (Cs #[B false,.slice none 0 0] 28),pt b20 (Cs #[B false,.slice none 0 0] 28),D s12 x11.2,pW28 b13 x11.1 s12,pt b4 (Cs #[B false,.slice none 0 0,I 0] 170),pI2 b3 x1]) P_mixed (by kernel_rfl) (H.q C) J X ?_ ?_ ?_ ?_
   ·clear H J X; refine ⟨?_,λk s g w _ _ _ X a H=>Q.val (v:=I 0) C C C X H (Z.move C),λk s g w _ _ _ X a H=>Q.val (v:=I 0) C C C X H (Z.mul (p:=2) (q:=0) C C),λk s g w _ _ _ X a H=>Q.val (v:=I 1) C C C X H (Z.add (p:=0) (q:=1) C C),trivial⟩
    ·intro k s g w h1_ h2_ hsp X a H; obtain ⟨b79,s76,s78⟩:=g
     rcases k with _ | _ | k
     ·exact Q.val (v:=.agg #[B x11.1,s12]) C C C X H (lN (cs':=#[B x11.1,s12]) A_28 C (X.p 4 C) C C)
     ·exact Q.val (v:=.agg #[B x11.1,s12]) C C C X H (lN (cs':=#[B x11.1,s12]) A_28 C (X.p 5 C) C C)
     ·simp at h2_
   ·clear H J X; refine ⟨?_,?_,?_,trivial⟩
    ·intro s g w hsp X a H; obtain ⟨b79,s76,s78⟩:=g; refine oq H X C zbn (zaF F 1 _ x75 hx75) ?_; rintro s76 w X a H; exact nE 10 H (b79,s76,s78) C C (jl 8 (by kernel_rfl) λ_=>C) X
    ·intro s g w hsp X a H; obtain ⟨b79,s76,s78⟩:=g; refine oq H X C zeh (zbZ F x11.1 s12 x11.2 x75.1 s76 x75.2 _ (X.s 4 C) (X.s 0 C) x77 hx77) ?_; rintro s78 w X a H; exact nE 11 H (b79,s76,s78) C C (jl 8 (by kernel_rfl) λ_=>C) X
    ·intro s g w hsp X a H; obtain ⟨b79,s76,s78⟩:=g; have h6_:s 6=true:=hsp 6 (by simp); have X:St w0 w noX [] [D s78 x77.2,D s76 x75.2,condA (s 6) (pt b79 (Cs #[B false,.slice none 0 0] 28)),pt b74 (Cs #[B false,.slice none 0 0] 28),pt b20 (Cs #[B false,.slice none 0 0] 28),D s12 x11.2,pW28 b13 x11.1 s12,pt b4 (Cs #[B false,.slice none 0 0,I 0] 170),pI2 b3 x1]:=X; clear X; rw [h6_] at X; replace X:St w0 w noX [] [D s78 x77.2,D s76 x75.2,pt b79 (Cs #[B false,.slice none 0 0] 28),pt b74 (Cs #[B false,.slice none 0 0] 28),pt b20 (Cs #[B false,.slice none 0 0] 28),D s12 x11.2,pW28 b13 x11.1 s12,pt b4 (Cs #[B false,.slice none 0 0,I 0] 170),pI2 b3 x1]:=X; refine ost 2 #[B x77.1,s78] H X C C C zaa C (occ C (occ (rdo (X.s 0 C)) C)) C (bl C) C ?_; intro w X; exact O.nil ⟨C,(b79,s76,s78),H.to trivial,(λd hd=>by cases (show none=some d from hd)),(λ_ _ _=>C),X⟩
   ·clear H J X; refine ⟨?_,trivial⟩
    ·intro k s g w h1_ h2_ hs0 X a H; obtain ⟨b79,s76,s78⟩:=g
     rcases k with _ | _ | _ | k
     ·refine oaC (j:=0) (cs:=#[B false,.slice none 0 0]) H X C hs0 C C zab C ?_; clear H X a; intro b79 w a X H; exact nE 5 H (b79,s76,s78) C C (jl 8 (by kernel_rfl) λ_=>C) X
     ·refine oaC (j:=1) (cs:=#[B false,.slice none 0 0]) H X C hs0 C C zab C ?_; clear H X a; intro b79 w a X H; exact nE 5 H (b79,s76,s78) C C (jl 8 (by kernel_rfl) λ_=>C) X
     ·refine oaC (j:=2) (cs:=#[B false,.slice none 0 0]) H X C hs0 C C zab C ?_; clear H X a; intro b79 w a X H; exact nE 5 H (b79,s76,s78) C C (jl 8 (by kernel_rfl) λ_=>C) X
     ·simp at h2_
   clear H J X; intro s g a w hs H X; obtain ⟨b79,s76,s78⟩:=g; have h6_:s 6=true:=hs 6 (by simp); refine ksq ?_; replace X:=X.sl [1,0,1,1,1,1,1,1,1]; refine W.seq ?_; have J:Fr a 19 [] []:=H.to trivial; obtain ⟨x80,hx80,M⟩:=hm_b M; refine hb M λx82 hx82 M=>W.drawK (γ:=Value × Value) (L0:=[(1,Pv b13 0),(2,Pv b3 0),(4,Pv b74 0),(5,Pv b79 0)]) (L1:=[]) (undef,undef) [4,5,6] [] [0,1,2,3] (λi=>match i with | 3=>[1,2] | 4=>[3] | 5=>[0,4] | 6=>[0,1,2,3,4,5] | _=>[]) (λ_=>[]) (λi=>match i with | 4=>[5,6] | 5=>[6] | _=>[]) (λ_=>[]) (λi=>match i with | 5=>1 | 6=>2 | _=>0) (λi=>match i with | 0=>1 | 4=>1 | 5=>2 | 6=>3 | _=>0) (λ(g:Value × Value) j=>match j with | 0=>.agg #[B x11.1,s12] | 1=>I x1 | 2=>I x1 | 3=>I (i64.wrap (x1*x1)) | 4=>.agg #[B x80.1,g.1] | 5=>.agg #[B x82.1,g.2] | _=>undef) (λk s (g:Value × Value) w=>match k with | 0=>St w0 w noX [] [D s78 x77.2,pW28 b79 x77.1 s78,pt b74 (Cs #[B false,.slice none 0 0] 28),pt b20 (Cs #[B false,.slice none 0 0] 28),D s12 x11.2,pW28 b13 x11.1 s12,pt b4 (Cs #[B false,.slice none 0 0,I 0] 170),pI2 b3 x1] | 1=>St w0 w noX [] [D g.1 x80.2,D s78 x77.2,pW28 b79 x77.1 s78,pt b74 (Cs #[B false,.slice none 0 0] 28),pt b20 (Cs #[B false,.slice none 0 0] 28),D s12 x11.2,pW28 b13 x11.1 s12,pt b4 (Cs #[B false,.slice none 0 0,I 0] 170),pI2 b3 x1] | 2=>St w0 w noX [] [D g.2 x82.2,D g.1 x80.2,D s78 x77.2,pW28 b79 x77.1 s78,pt b74 (Cs #[B false,.slice none 0 0] 28),pt b20 (Cs #[B false,.slice none 0 0] 28),D s12 x11.2,pW28 b13 x11.1 s12,pt b4 (Cs #[B false,.slice none 0 0,I 0] 170),pI2 b3 x1] | _=>St w0 w noX [] [D g.2 x82.2,D g.1 x80.2,D s78 x77.2,pW28 b79 x77.1 s78,pt b74 (Cs #[B false,.slice none 0 0] 28),pt b20 (Cs #[B false,.slice none 0 0] 28),D s12 x11.2,pt b13 (Cs #[B x82.1,g.2] 28),pt b4 (Cs #[B false,.slice none 0 0,I 0] 170),pI2 b3 x1]) P_mixed (by kernel_rfl) (H.q C) J X.drew ?_ ?_ ?_ ?_
   ·clear H J X; refine ⟨?_,?_,?_,λk s g w _ _ _ X a H=>Q.val (v:=I (i64.wrap (x1*x1))) C C C X H (Z.mul C C),trivial⟩
    ·intro k s g w h1_ h2_ hsp X a H; obtain ⟨s81,s83⟩:=g
     rcases k with _ | _ | k
     ·exact Q.val (v:=.agg #[B x11.1,s12]) C C C X H (lN (cs':=#[B x11.1,s12]) A_28 C (X.p 5 C) C C)
     ·exact Q.val (v:=.agg #[B x11.1,s12]) C C C X H (lN (cs':=#[B x11.1,s12]) A_28 C (X.p 6 C) C C)
     ·simp at h2_
    ·intro k s g w h1_ h2_ hsp X a H; obtain ⟨s81,s83⟩:=g
     rcases k with _ | k
     ·exact Q.val (v:=I x1) C C C X H (Z.load1 zaf C (X.p 7 C) C)
     ·simp at h2_
    ·intro k s g w h1_ h2_ hsp X a H; obtain ⟨s81,s83⟩:=g
     rcases k with _ | k
     ·exact Q.val (v:=I x1) C C C X H (Z.load1 zaf C (X.p 7 C) C)
     ·simp at h2_
   ·clear H J X; refine ⟨?_,?_,?_,trivial⟩
    ·intro s g w hsp X a H; obtain ⟨s81,s83⟩:=g; refine oq H X C zbn (zaF F (i64.wrap (x1*x1)) _ x80 hx80) ?_; rintro s81 w X a H; exact nE 16 H (s81,s83) C C (jl 7 (by kernel_rfl) λ_=>C) X
    ·intro s g w hsp X a H; obtain ⟨s81,s83⟩:=g; refine oq H X C zeh (zbZ F x11.1 s12 x11.2 x80.1 s81 x80.2 _ (X.s 5 C) (X.s 0 C) x82 hx82) ?_; rintro s83 w X a H; exact nE 17 H (s81,s83) C C (jl 7 (by kernel_rfl) λ_=>C) X
    ·intro s g w hsp X a H; obtain ⟨s81,s83⟩:=g; refine ost 7 #[B x82.1,s83] H X C C C zaa C (occ C (occ (rdo (X.s 0 C)) C)) C (bl C) C ?_; intro w X; exact O.nil ⟨C,(s81,s83),H.to trivial,(λd hd=>by cases (show none=some d from hd)),(λ_ _ _=>C),X⟩
   ·clear H J X; exact trivial
   clear H J X; intro s g a w hs H X; obtain ⟨s81,s83⟩:=g; refine ksq ?_; replace X:=X.sl [1,0,1,1,1,1,0,1,1,1]; refine sg (l:=[0,1]) C<|ov H C (lN (cs':=#[B x77.1,s78]) A_28 C (X.p 2 C) C C) λa H=>ost 3 #[B x77.1,s78] H X C C C zaa C (occ C (occ (rdo (X.s 1 C)) C)) C (bl C) C<|?_; intro w X; refine nk ?_; replace X:=X.sl [1,1,0,1,1,1,1,1]; refine W.ret<|post1 H C (rkn (cs':=#[B x77.1,s78]) C zag zaa (X.p 2 C) (bl C) C)<|?_; replace X:=X.fr 5; replace X:=X.fr 2; replace X:=X.fr 4; replace X:=X.fr 6; replace X:=X.fr 6; replace X:=X.fr 5; replace X:=X.sl [1,1,1,1,1,1]; exact ⟨_,C,x82.1,s83,x82.2,x77.1,s78,x77.2,C,X,M⟩
  ·clear H X M a; (try clear w); rintro v w ⟨x21,s22,x23,x24,s25,x26,hv,X,M⟩ a H; rw [hv] at H; clear hv v; unfold zeW at M; refine O.alloc (cs:=#[B false,.slice none 0 0]) H X C C zab C ?_; intro b27 w a hb27 X H; refine ost 0 #[B x24,s25] H X C C C zaa C (occ C (occ (rdo (X.s 5 C)) C)) C (bl C) C ?_; intro w X; refine nk<|W.seq<|sg (l:=[0,1,2]) C<|ov H C (lN (cs':=#[B x24,s25]) A_28 C (X.p 0 C) C C) λa H=>?_; refine hb M λx28 hx28 M=>oq H X C zcM (za0 F x24 s25 x26 _ (X.s 5 C) x28 hx28) ?_; rintro _ w X a H; refine ov H C (Z.eql C C) λa H=>nk<|?_; refine W.ifdI H C (λhc29=>?_) (λhc29=>?_)
   ·replace M:=hm_p M hc29; refine sg (l:=[0,1,2,3]) C<|ov H C (lN (cs':=#[B false,.slice none 0 0]) A_28 C (X.p 4 C) C C) λa H=>mv H C λa H=>ost 4 #[B false,.slice none 0 0] H X C C C zaa C C C (bl C) C<|?_; intro w X; refine mv H C λa H=>nk<|W.ret<|ktr<|kbr<|ktr<|ktr<|kbr<|post2 H C (rkn (cs':=#[B false,.slice none 0 0]) C zag zaa (X.p 4 C) (bl C) C) (rkt C)<|?_; replace X:=X.nilE 61 1 E61; replace X:=X.fr 7; replace X:=X.sl [1,1]; exact ⟨_,C,false,(.slice none 0 0),([]:List Int),0,C,X,M⟩
   ·replace M:=hm_n M hc29; refine W.skip<|ksq<|?_; refine W.seqR (λa w=>∃ (x30:Bool) (s31:Value) (x32:List Int),Fr a 27 [] [(0,.func (.func 163) #[] #[Pv b13 0,Pv b3 0]),(2,Pv b20 0),(3,I 0),(4,I 0)]∧St w0 w noX [] [D s22 x23,pW28 b13 x21 s22,pI2 b3 x1,D s31 x32,pW28 b20 x30 s31,pt b4 (Cs #[B false,.slice none 0 0,I 0] 170)]∧zdM F x1 x21 x23 x30 x32=some r) ?_ ?_
    ·refine sg (l:=[0,1,2]) C<|mv H C λa H=>ov (v:=I (Int.tmod 0 2)) H C (Z.rem (q:=2) C C (by decide)) λa H=>ov H C (Z.eql C C) λa H=>nk<|?_; refine W.ifdI H C (λhc69=>?_) (λhc69=>?_)
     ·replace M:=hm_p M hc69; refine wrL (l:=[0,1,2,3]) C<|ov H C (lN (cs':=#[B false,.slice none 0 0]) A_28 C (X.p 4 C) C C) λa H=>ov H C (lN (cs':=#[B x24,s25]) A_28 C (X.p 0 C) C C) λa H=>?_; refine hb M λx70 hx70 M=>oq H X C zeQ (zct F false (.slice none 0 0) ([]:List Int) x24 s25 x26 _ rdEOK_nil (X.s 5 C) x70 hx70) ?_; rintro s71 w X a H; refine ost 5 #[B x70.1,s71] H X C C C zaa C (occ C (occ (rdo (X.s 0 C)) C)) C (bl C) C ?_; intro w X; refine O.nil ?_; replace X:=X.fr 7; replace X:=X.fr 6; replace X:=X.fr 2; replace X:=X.fr 6; replace X:=X.fr 6; replace X:=X.fr 6; replace X:=X.sl [1,1,1,1,1,1]; exact kth ⟨x70.1,s71,x70.2,H.q C,X,M⟩
     ·replace M:=hm_n M hc69; refine wrL (l:=[0,1,2,3]) C<|ov H C (lN (cs':=#[B false,.slice none 0 0]) A_28 C (X.p 4 C) C C) λa H=>ov H C (lN (cs':=#[B x24,s25]) A_28 C (X.p 0 C) C C) λa H=>?_; refine hb M λx72 hx72 M=>oq H X C zdC (zbB F false (.slice none 0 0) ([]:List Int) x24 s25 x26 _ rdEOK_nil (X.s 5 C) x72 hx72) ?_; rintro s73 w X a H; refine ost 5 #[B x72.1,s73] H X C C C zaa C (occ C (occ (rdo (X.s 0 C)) C)) C (bl C) C ?_; intro w X; refine O.nil ?_; replace X:=X.fr 7; replace X:=X.fr 6; replace X:=X.fr 2; replace X:=X.fr 6; replace X:=X.fr 6; replace X:=X.fr 6; replace X:=X.sl [1,1,1,1,1,1]; exact kth ⟨x72.1,s73,x72.2,H.q C,X,M⟩
    ·clear H X M a; (try clear w); rintro a w ⟨x30,s31,x32,H,X,M⟩; unfold zdM at M; refine wrL (l:=[0,1,2]) C<|mv H C λa H=>ov H C (Z.add (p:=0) (q:=1) C C) λa H=>mv H C λa H=>O.nil<|kbn<|ksq<|wrL (l:=[0,1,2]) C<|mv H C λa H=>ov H C (Z.add (p:=0) (q:=1) C C) λa H=>?_; refine mv H C λa H=>O.nil<|kth<|LH.loop (G:=Nat × Bool × Value × (List Int) × Bool × Value × (List Int) × Int × Int) (λg a w=>match g with | (k41,x33,s34,x35,x36,s37,x38,x39,x40)=>Fr a 27 [] [(0,.func (.func 163) #[] #[Pv b13 0,Pv b3 0]),(2,Pv b20 0),(3,I x39),(4,I x40)]∧St w0 w noX [] [D s34 x35,pW28 b13 x33 s34,pI2 b3 x1,D s37 x38,pW28 b20 x36 s37,pt b4 (Cs #[B false,.slice none 0 0,I 0] 170)]∧zcT F x1 k41 x33 x35 x36 x38 x39 x40=some r) (λg=>match g with | (k41,x33,s34,x35,x36,s37,x38,x39,x40)=>k41) (F,x21,s22,x23,x30,s31,x32,1,1) ⟨H.q C,X,M⟩<|?_; clear H X M a; (try clear w); rintro ⟨k41,x33,s34,x35,x36,s37,x38,x39,x40⟩ a w ⟨H,X,M⟩
     rcases k41 with _ | k41
     · nomatch M
     replace M:zeV F x1 (zcT F x1 k41) x33 x35 x36 x38 x39 x40=some r:=M; obtain ⟨rec41,hrec41⟩:∃ f,f=zcT F x1 k41:=⟨_,C⟩; rw [← hrec41] at M; unfold zeV at M; refine W.seq<|W.block<|sg (l:=[0,1,2,3,4]) C<|mv2 H C C λa H=>?_; refine O.callI (R:=λv w=>∃ (x42:Bool) (s43:Value) (x44:List Int) (x45:Bool) (s46:Value) (x47:List Int),v=.agg #[B x45,s46]∧St w0 w noX [] [D s43 x44,pW28 b13 x42 s43,pI2 b3 x1,D s37 x38,pW28 b20 x36 s37,D s46 x47,pt b4 (Cs #[B false,.slice none 0 0,I 0] 170)]∧zeU F x36 x38 x39 x40 rec41 x42 x44 x45 x47=some r) (lv:=[I x40,Pv b13 0,Pv b3 0]) H C C C (RunE.call (av:=#[I x40,Pv b13 0,Pv b3 0]) zil C C C) Tryz.func163 C C C ?_ ?_
     ·clear H a; intro a H; refine sg (l:=[0]) C<|O.alloc (cs:=#[B false,.slice none 0 0]) H X C C zab C<|?_; intro b59 w a hb59 X H; refine nk<|W.seq<|?_; have J:Fr a 19 [] []:=H.to trivial; obtain ⟨x60,hx60,M⟩:=hm_b M; obtain ⟨x62,hx62,M⟩:=hm_b M; replace X:=X.drew; replace X:=X.emp; refine W.drawK (γ:=Nat × Value × Value) (L0:=[(0,I x40),(1,Pv b13 0),(2,Pv b3 0),(4,Pv b59 0)]) (L1:=[]) (0,undef,undef) [4,5,7] [6] [0,1,2,3] (λi=>match i with | 2=>[1] | 3=>[2] | 4=>[3] | 5=>[0,4] | 7=>[0,1,2,3,4,5,6] | _=>[]) (λi=>match i with | 7=>[6] | _=>[]) (λi=>match i with | 4=>[5,7] | 5=>[7] | 6=>[7] | _=>[]) (λ_=>[]) (λi=>match i with | 5=>1 | 7=>2 | _=>0) (λi=>match i with | 0=>1 | 4=>1 | 5=>2 | 6=>2 | 7=>3 | _=>0) (λ(g:Nat × Value × Value) j=>match j with | 0=>.agg #[B x33,s34] | 1=>I x40 | 2=>I (i64.wrap (2*x40)) | 3=>I (i64.wrap ((i64.wrap (2*x40))+1)) | 4=>.agg #[B x60.1,g.2.1] | 5=>.agg #[B x62.1,g.2.2] | 6=>Pv g.1 0 | _=>undef) (λk s (g:Nat × Value × Value) w=>match k with | 0=>St w0 w noX [] [condA (s 6) (pt g.1 (Cs #[B false,.slice none 0 0] 28)),pt b59 (Cs #[B false,.slice none 0 0] 28),D s34 x35,pW28 b13 x33 s34,pI2 b3 x1,D s37 x38,pW28 b20 x36 s37,pt b4 (Cs #[B false,.slice none 0 0,I 0] 170)] | 1=>St w0 w noX [] [D g.2.1 x60.2,condA (s 6) (pt g.1 (Cs #[B false,.slice none 0 0] 28)),pt b59 (Cs #[B false,.slice none 0 0] 28),D s34 x35,pW28 b13 x33 s34,pI2 b3 x1,D s37 x38,pW28 b20 x36 s37,pt b4 (Cs #[B false,.slice none 0 0,I 0] 170)] | 2=>St w0 w noX [] [D g.2.2 x62.2,D g.2.1 x60.2,condA (s 6) (pt g.1 (Cs #[B false,.slice none 0 0] 28)),pt b59 (Cs #[B false,.slice none 0 0] 28),D s34 x35,pW28 b13 x33 s34,pI2 b3 x1,D s37 x38,pW28 b20 x36 s37,pt b4 (Cs #[B false,.slice none 0 0,I 0] 170)] | _=>St w0 w noX [] [D g.2.2 x62.2,D g.2.1 x60.2,pt g.1 (Cs #[B x62.1,g.2.2] 28),pt b59 (Cs #[B false,.slice none 0 0] 28),D s34 x35,pW28 b13 x33 s34,pI2 b3 x1,D s37 x38,pW28 b20 x36 s37,pt b4 (Cs #[B false,.slice none 0 0,I 0] 170)]) P_mixed (by kernel_rfl) (H.q C) J X ?_ ?_ ?_ ?_
      ·clear H J X; refine ⟨?_,λk s g w _ _ _ X a H=>Q.val (v:=I x40) C C C X H (Z.move C),λk s g w _ _ _ X a H=>Q.val (v:=I (i64.wrap (2*x40))) C C C X H (Z.mul C C),λk s g w _ _ _ X a H=>Q.val (v:=I (i64.wrap ((i64.wrap (2*x40))+1))) C C C X H (Z.add C C),trivial⟩
       ·intro k s g w h1_ h2_ hsp X a H; obtain ⟨b64,s61,s63⟩:=g
        rcases k with _ | _ | k
        ·exact Q.val (v:=.agg #[B x33,s34]) C C C X H (lN (cs':=#[B x33,s34]) A_28 C (X.p 3 C) C C)
        ·exact Q.val (v:=.agg #[B x33,s34]) C C C X H (lN (cs':=#[B x33,s34]) A_28 C (X.p 4 C) C C)
        ·simp at h2_
      ·clear H J X; refine ⟨?_,?_,?_,trivial⟩
       ·intro s g w hsp X a H; obtain ⟨b64,s61,s63⟩:=g; refine oq H X C zbn (zaF F (i64.wrap ((i64.wrap (2*x40))+1)) _ x60 hx60) ?_; rintro s61 w X a H; exact nE 10 H (b64,s61,s63) C C (jl 8 (by kernel_rfl) λ_=>C) X
       ·intro s g w hsp X a H; obtain ⟨b64,s61,s63⟩:=g; refine oq H X C zeh (zbZ F x33 s34 x35 x60.1 s61 x60.2 _ (X.s 3 C) (X.s 0 C) x62 hx62) ?_; rintro s63 w X a H; exact nE 11 H (b64,s61,s63) C C (jl 8 (by kernel_rfl) λ_=>C) X
       ·intro s g w hsp X a H; obtain ⟨b64,s61,s63⟩:=g; have h6_:s 6=true:=hsp 6 (by simp); have X:St w0 w noX [] [D s63 x62.2,D s61 x60.2,condA (s 6) (pt b64 (Cs #[B false,.slice none 0 0] 28)),pt b59 (Cs #[B false,.slice none 0 0] 28),D s34 x35,pW28 b13 x33 s34,pI2 b3 x1,D s37 x38,pW28 b20 x36 s37,pt b4 (Cs #[B false,.slice none 0 0,I 0] 170)]:=X; clear X; rw [h6_] at X; replace X:St w0 w noX [] [D s63 x62.2,D s61 x60.2,pt b64 (Cs #[B false,.slice none 0 0] 28),pt b59 (Cs #[B false,.slice none 0 0] 28),D s34 x35,pW28 b13 x33 s34,pI2 b3 x1,D s37 x38,pW28 b20 x36 s37,pt b4 (Cs #[B false,.slice none 0 0,I 0] 170)]:=X; refine ost 2 #[B x62.1,s63] H X C C C zaa C (occ C (occ (rdo (X.s 0 C)) C)) C (bl C) C ?_; intro w X; exact O.nil ⟨C,(b64,s61,s63),H.to trivial,(λd hd=>by cases (show none=some d from hd)),(λ_ _ _=>C),X⟩
      ·clear H J X; refine ⟨?_,trivial⟩
       ·intro k s g w h1_ h2_ hs0 X a H; obtain ⟨b64,s61,s63⟩:=g
        rcases k with _ | _ | _ | k
        ·refine oaC (j:=0) (cs:=#[B false,.slice none 0 0]) H X C hs0 C C zab C ?_; clear H X a; intro b64 w a X H; exact nE 5 H (b64,s61,s63) C C (jl 8 (by kernel_rfl) λ_=>C) X
        ·refine oaC (j:=1) (cs:=#[B false,.slice none 0 0]) H X C hs0 C C zab C ?_; clear H X a; intro b64 w a X H; exact nE 5 H (b64,s61,s63) C C (jl 8 (by kernel_rfl) λ_=>C) X
        ·refine oaC (j:=2) (cs:=#[B false,.slice none 0 0]) H X C hs0 C C zab C ?_; clear H X a; intro b64 w a X H; exact nE 5 H (b64,s61,s63) C C (jl 8 (by kernel_rfl) λ_=>C) X
        ·simp at h2_
      clear H J X; intro s g a w hs H X; obtain ⟨b64,s61,s63⟩:=g; have h6_:s 6=true:=hs 6 (by simp); refine ksq ?_; replace X:=X.sl [1,0,1,1,1,1,1,1,1,1]; refine W.seq ?_; have J:Fr a 19 [] []:=H.to trivial; obtain ⟨x65,hx65,M⟩:=hm_b M; refine hb M λx67 hx67 M=>W.drawK (γ:=Value × Value) (L0:=[(1,Pv b13 0),(2,Pv b3 0),(4,Pv b59 0),(5,Pv b64 0)]) (L1:=[]) (undef,undef) [4,5,6] [] [0,1,2,3] (λi=>match i with | 3=>[1,2] | 4=>[3] | 5=>[0,4] | 6=>[0,1,2,3,4,5] | _=>[]) (λ_=>[]) (λi=>match i with | 4=>[5,6] | 5=>[6] | _=>[]) (λ_=>[]) (λi=>match i with | 5=>1 | 6=>2 | _=>0) (λi=>match i with | 0=>1 | 4=>1 | 5=>2 | 6=>3 | _=>0) (λ(g:Value × Value) j=>match j with | 0=>.agg #[B x33,s34] | 1=>I x1 | 2=>I x1 | 3=>I (i64.wrap (x1*x1)) | 4=>.agg #[B x65.1,g.1] | 5=>.agg #[B x67.1,g.2] | _=>undef) (λk s (g:Value × Value) w=>match k with | 0=>St w0 w noX [] [D s63 x62.2,pW28 b64 x62.1 s63,pt b59 (Cs #[B false,.slice none 0 0] 28),D s34 x35,pW28 b13 x33 s34,pI2 b3 x1,D s37 x38,pW28 b20 x36 s37,pt b4 (Cs #[B false,.slice none 0 0,I 0] 170)] | 1=>St w0 w noX [] [D g.1 x65.2,D s63 x62.2,pW28 b64 x62.1 s63,pt b59 (Cs #[B false,.slice none 0 0] 28),D s34 x35,pW28 b13 x33 s34,pI2 b3 x1,D s37 x38,pW28 b20 x36 s37,pt b4 (Cs #[B false,.slice none 0 0,I 0] 170)] | 2=>St w0 w noX [] [D g.2 x67.2,D g.1 x65.2,D s63 x62.2,pW28 b64 x62.1 s63,pt b59 (Cs #[B false,.slice none 0 0] 28),D s34 x35,pW28 b13 x33 s34,pI2 b3 x1,D s37 x38,pW28 b20 x36 s37,pt b4 (Cs #[B false,.slice none 0 0,I 0] 170)] | _=>St w0 w noX [] [D g.2 x67.2,D g.1 x65.2,D s63 x62.2,pW28 b64 x62.1 s63,pt b59 (Cs #[B false,.slice none 0 0] 28),D s34 x35,pt b13 (Cs #[B x67.1,g.2] 28),pI2 b3 x1,D s37 x38,pW28 b20 x36 s37,pt b4 (Cs #[B false,.slice none 0 0,I 0] 170)]) P_mixed (by kernel_rfl) (H.q C) J X.drew ?_ ?_ ?_ ?_
      ·clear H J X; refine ⟨?_,?_,?_,λk s g w _ _ _ X a H=>Q.val (v:=I (i64.wrap (x1*x1))) C C C X H (Z.mul C C),trivial⟩
       ·intro k s g w h1_ h2_ hsp X a H; obtain ⟨s66,s68⟩:=g
        rcases k with _ | _ | k
        ·exact Q.val (v:=.agg #[B x33,s34]) C C C X H (lN (cs':=#[B x33,s34]) A_28 C (X.p 4 C) C C)
        ·exact Q.val (v:=.agg #[B x33,s34]) C C C X H (lN (cs':=#[B x33,s34]) A_28 C (X.p 5 C) C C)
        ·simp at h2_
       ·intro k s g w h1_ h2_ hsp X a H; obtain ⟨s66,s68⟩:=g
        rcases k with _ | k
        ·exact Q.val (v:=I x1) C C C X H (Z.load1 zaf C (X.p 5 C) C)
        ·simp at h2_
       ·intro k s g w h1_ h2_ hsp X a H; obtain ⟨s66,s68⟩:=g
        rcases k with _ | k
        ·exact Q.val (v:=I x1) C C C X H (Z.load1 zaf C (X.p 5 C) C)
        ·simp at h2_
      ·clear H J X; refine ⟨?_,?_,?_,trivial⟩
       ·intro s g w hsp X a H; obtain ⟨s66,s68⟩:=g; refine oq H X C zbn (zaF F (i64.wrap (x1*x1)) _ x65 hx65) ?_; rintro s66 w X a H; exact nE 16 H (s66,s68) C C (jl 7 (by kernel_rfl) λ_=>C) X
       ·intro s g w hsp X a H; obtain ⟨s66,s68⟩:=g; refine oq H X C zeh (zbZ F x33 s34 x35 x65.1 s66 x65.2 _ (X.s 4 C) (X.s 0 C) x67 hx67) ?_; rintro s68 w X a H; exact nE 17 H (s66,s68) C C (jl 7 (by kernel_rfl) λ_=>C) X
       ·intro s g w hsp X a H; obtain ⟨s66,s68⟩:=g; refine ost 6 #[B x67.1,s68] H X C C C zaa C (occ C (occ (rdo (X.s 0 C)) C)) C (bl C) C ?_; intro w X; exact O.nil ⟨C,(s66,s68),H.to trivial,(λd hd=>by cases (show none=some d from hd)),(λ_ _ _=>C),X⟩
      ·clear H J X; exact trivial
      clear H J X; intro s g a w hs H X; obtain ⟨s66,s68⟩:=g; refine ksq ?_; replace X:=X.sl [1,0,1,1,1,0,1,1,1,1,1]; refine sg (l:=[0,1]) C<|ov H C (lN (cs':=#[B x62.1,s63]) A_28 C (X.p 2 C) C C) λa H=>ost 3 #[B x62.1,s63] H X C C C zaa C (occ C (occ (rdo (X.s 1 C)) C)) C (bl C) C<|?_; intro w X; refine nk ?_; replace X:=X.sl [1,1,0,1,1,1,1,1,1]; refine W.ret<|post1 H C (rkn (cs':=#[B x62.1,s63]) C zag zaa (X.p 2 C) (bl C) C)<|?_; replace X:=X.fr 7; replace X:=X.fr 2; replace X:=X.fr 7; replace X:=X.fr 7; replace X:=X.fr 7; replace X:=X.fr 7; replace X:=X.fr 6; replace X:=X.sl [1,1,1,1,1,1,1]; exact ⟨_,C,x67.1,s68,x67.2,x62.1,s63,x62.2,C,X,M⟩
     ·clear H X M a; (try clear w); rintro v w ⟨x42,s43,x44,x45,s46,x47,hv,X,M⟩ a H; rw [hv] at H; clear hv v; unfold zeU at M; refine O.alloc (cs:=#[B false,.slice none 0 0]) H X C C zab C ?_; intro b48 w a hb48 X H; refine ost 0 #[B x45,s46] H X C C C zaa C (occ C (occ (rdo (X.s 6 C)) C)) C (bl C) C ?_; intro w X; refine nk<|W.seq<|sg (l:=[0,1,2]) C<|ov H C (lN (cs':=#[B x45,s46]) A_28 C (X.p 0 C) C C) λa H=>?_; refine hb M λx49 hx49 M=>oq H X C zcM (za0 F x45 s46 x47 _ (X.s 6 C) x49 hx49) ?_; rintro _ w X a H; refine ov H C (Z.eql C C) λa H=>nk<|?_; refine W.ifdI H C (λhc50=>?_) (λhc50=>?_)
      ·replace M:=hm_p M hc50; refine sg (l:=[0,1,2,3]) C<|ov H C (lN (cs':=#[B x36,s37]) A_28 C (X.p 5 C) C C) λa H=>mv H C λa H=>ost 5 #[B x36,s37] H X C C C zaa C (occ C (occ (rdo (X.s 4 C)) C)) C (bl C) C<|?_; intro w X; refine mv H C λa H=>nk<|W.ret<|ktr<|kbr<|ktr<|ktr<|kbr<|post2 H C (rkn (cs':=#[B x36,s37]) C zag zaa (X.p 5 C) (bl C) C) (rkt C)<|?_; replace X:=X.fr 4; replace X:=X.fr 7; replace X:=X.sl [1,1]; exact ⟨_,C,x36,s37,x38,x39,C,X,M⟩
      ·replace M:=hm_n M hc50; refine W.skip<|ksq<|?_; refine W.seqR (λa w=>∃ (x51:Bool) (s52:Value) (x53:List Int),Fr a 27 [] [(0,.func (.func 163) #[] #[Pv b13 0,Pv b3 0]),(2,Pv b20 0),(3,I x39),(4,I x40)]∧St w0 w noX [] [D s43 x44,pW28 b13 x42 s43,pI2 b3 x1,D s52 x53,pW28 b20 x51 s52,pt b4 (Cs #[B false,.slice none 0 0,I 0] 170)]∧zdL F rec41 x42 x44 x39 x40 x51 x53=some r) ?_ ?_
       ·refine sg (l:=[0,1,2]) C<|mv H C λa H=>ov (v:=I (Int.tmod x40 2)) H C (Z.rem (q:=2) C C (by decide)) λa H=>ov H C (Z.eql C C) λa H=>nk<|?_; refine W.ifdI H C (λhc54=>?_) (λhc54=>?_)
        ·replace M:=hm_p M hc54; refine wrL (l:=[0,1,2,3]) C<|ov H C (lN (cs':=#[B x36,s37]) A_28 C (X.p 5 C) C C) λa H=>ov H C (lN (cs':=#[B x45,s46]) A_28 C (X.p 0 C) C C) λa H=>?_; refine hb M λx55 hx55 M=>oq H X C zeQ (zct F x36 s37 x38 x45 s46 x47 _ (X.s 4 C) (X.s 6 C) x55 hx55) ?_; rintro s56 w X a H; refine ost 6 #[B x55.1,s56] H X C C C zaa C (occ C (occ (rdo (X.s 0 C)) C)) C (bl C) C ?_; intro w X; refine O.nil ?_; replace X:=X.fr 8; replace X:=X.fr 7; replace X:=X.fr 2; replace X:=X.fr 6; replace X:=X.fr 6; replace X:=X.fr 6; replace X:=X.sl [1,1,1,1,1,1]; exact kth ⟨x55.1,s56,x55.2,H.q C,X,M⟩
        ·replace M:=hm_n M hc54; refine wrL (l:=[0,1,2,3]) C<|ov H C (lN (cs':=#[B x36,s37]) A_28 C (X.p 5 C) C C) λa H=>ov H C (lN (cs':=#[B x45,s46]) A_28 C (X.p 0 C) C C) λa H=>?_; refine hb M λx57 hx57 M=>oq H X C zdC (zbB F x36 s37 x38 x45 s46 x47 _ (X.s 4 C) (X.s 6 C) x57 hx57) ?_; rintro s58 w X a H; refine ost 6 #[B x57.1,s58] H X C C C zaa C (occ C (occ (rdo (X.s 0 C)) C)) C (bl C) C ?_; intro w X; refine O.nil ?_; replace X:=X.fr 8; replace X:=X.fr 7; replace X:=X.fr 2; replace X:=X.fr 6; replace X:=X.fr 6; replace X:=X.fr 6; replace X:=X.sl [1,1,1,1,1,1]; exact kth ⟨x57.1,s58,x57.2,H.q C,X,M⟩
       ·clear H X M a; (try clear w); rintro a w ⟨x51,s52,x53,H,X,M⟩; unfold zdL at M; refine wrL (l:=[0,1,2]) C<|mv H C λa H=>ov H C (Z.add C C) λa H=>mv H C λa H=>O.nil<|kbn<|ksq<|wrL (l:=[0,1,2]) C<|mv H C λa H=>ov H C (Z.add C C) λa H=>?_; refine mv H C λa H=>O.nil<|?_; refine kth ⟨(k41,x42,s43,x44,x51,s52,x53,i64.wrap (x39+1),i64.wrap (x40+1)),⟨H.q C,X,?_⟩,Nat.lt_succ_self _⟩; rw [hrec41] at M; exact M
 ·clear H X M a; (try clear w); rintro v w ⟨x14,s15,x16,x17,hv,X,M⟩ a H; rw [hv] at H; clear hv v; unfold zdK at M; refine mv H C λa H=>ex H C C C λa H=>ex H C C C λa H=>O.alloc (cs:=#[B false,.slice none 0 0]) H X C C zab C<|?_; intro b18 w a hb18 X H; refine ost 0 #[B x14,s15] H X C C C zaa C (occ C (occ (rdo (X.s 2 C)) C)) C (bl C) C ?_; intro w X; refine mv H C λa H=>nk<|sg (l:=[0,1,2,3,4,5]) C<|ov H C (lN (cs':=#[B x14,s15]) A_28 C (X.p 0 C) C C) λa H=>mv H C λa H=>ov H C (Z.mul C C) λa H=>ov H C (Z.add C C) λa H=>ov (v:=.agg #[B x14,s15,I (i64.wrap ((i64.wrap (2*x17))+4))]) H C (Z.buildS (cs':=#[B x14,s15,I (i64.wrap ((i64.wrap (2*x17))+4))]) zcb zao C (by kernel_rfl)) λa H=>ost 1 #[B x14,s15,I (i64.wrap ((i64.wrap (2*x17))+4))] H X C C C zan C (occ C (occ (rdo (X.s 2 C)) (occ C C))) C (bl C) C<|?_; intro w X; refine nk ?_; replace X:=X.sl [0,1,1]; obtain ⟨x19,hx19,M⟩:=hm_b M; rw [oj hx19] at X; refine W.ret ?_; obtain rfl:=oj M; refine post1 H C (rkn (cs':=#[B x14,s15,I x19]) C zdA zan (X.p 0 C) (bl C) C) ?_; replace X:=X.sl [0,1]; exact ⟨s15,C,X.noB⟩
def zd5 (F:Nat) (x7:List Int):Option (List Int) :=
  some x7
def zd6 (F:Nat) (rec10:(List Int)→Int→Option (List Int)) (x9:Int) (x12:List Int) (x13 x14:Int):Option (List Int) :=
  rec10 x12 (i64.wrap (x9+1))
def zdd (F:Nat) (x9:Int) (x4:List Int) (rec10:(List Int)→Int→Option (List Int)) (x16:List Int) (x17 x18:Int):Option (List Int) :=
  (idx x16 (i64.wrap (x9+(x4.length:Int)))).bind λx19=>zd6 F rec10 x9 (x16.set (Int.toNat (i64.wrap (x9+(x4.length:Int)))) (u32.wrap x17)) x17 x18
def zbP (F:Nat) (x4:List Int) (x9 x15:Int) (rec10:(List Int)→Int→Option (List Int)) (rec23:(List Int)→Int→Int→Option (List Int)) (x20:List Int) (x21 x22:Int):Option (List Int) :=
  if x22<((x4.length:Int):Int) then ((idx x4 x22).bind λx25=>(idx x20 (i64.wrap (x9+x22))).bind λx26=>(some (u64.wrap (x21+(u64.wrap ((u64.wrap ((u64.wrap x15)*(u64.wrap x25)))+(u64.wrap x26)))))).bind λx27=>rec23 (x20.set (Int.toNat (i64.wrap (x9+x22))) (u32.wrap x27)) (Int.fdiv x27 (2^32)) (i64.wrap (x22+1))) else (zdd F x9 x4 rec10 x20 x21 x22)
def za3 (F:Nat) (x4:List Int) (x9 x15:Int) (rec10:(List Int)→Int→Option (List Int)):Nat→(List Int)→Int→Int→Option (List Int)
  | 0,_,_,_=>none
  | n+1,x20,x21,x22=>zbP F x4 x9 x15 rec10 (za3 F x4 x9 x15 rec10 n) x20 x21 x22
def zbQ (F:Nat) (x2 x4:List Int) (rec10:(List Int)→Int→Option (List Int)) (x8:List Int) (x9:Int):Option (List Int) :=
  if x9<((x2.length:Int):Int) then ((idx x2 x9).bind λx15=>za3 F x4 x9 x15 rec10 F x8 0 0) else (zd5 F x8)
def zaU (F:Nat) (x2 x4:List Int):Nat→(List Int)→Int→Option (List Int)
  | 0,_,_=>none
  | n+1,x8,x9=>zbQ F x2 x4 (zaU F x2 x4 n) x8 x9
def zel (F:Nat) (x2 x4:List Int):Option (List Int) :=
  if 0≤(i64.wrap ((x2.length:Int)+(x4.length:Int)))∧(i64.wrap ((x2.length:Int)+(x4.length:Int)))≤4294967296 then zaU F x2 x4 F (List.replicate (Int.toNat (i64.wrap ((x2.length:Int)+(x4.length:Int)))) (0:Int)) 0 else none
theorem zhJ (F:Nat) (s1:Value) (x2:List Int) (s3:Value) (x4:List Int) (w0:World) (h_s1:rdEOK (hp w0) 1 E61 s1 x2) (h_s3:rdEOK (hp w0) 1 E61 s3 x4) (r:List Int) (M:zel F x2 x4=some r) :
    Ret P 21 #[s1,s3] w0 (G:=Value) (λg1=>g1) (λg1 w=>St w0 w noX [] [D g1 r]):=by
 unfold zel at M; refine roW Tryz.func21 C C C (λa H=>?_); have X:St w0 w0 noX [E s1 x2,E s3 x4] []:=Sbw (lnc (lendRd h_s1) (lnc (lendRd h_s3) lnn)); refine sg (l:=[0]) C<|mv H C λa H=>nk<|sg (l:=[0,1,2,3,4,5,6]) C<|mv H C λa H=>ov (v:=I (x2.length:Int)) H C (Z.lenE (e:=61) (by simpa using zac) C (X.b 0 C)) λa H=>mv H C λa H=>ov (v:=I (x4.length:Int)) H C (Z.lenE (e:=61) (by simpa using zac) C (X.b 1 C)) λa H=>ov H C (Z.add C C) λa H=>?_; obtain ⟨hg5,M⟩:=hm_g M; refine O.makeE (enc:=E61) (x0:=(0:Int)) H X C C zac zae za5 zaB C C C hg5 C E61_len C ?_; intro s6 w a X H; refine mv H C λa H=>nk<|?_; refine W.seqR (λa w=>∃ (x7:List Int),Fr a 66 [] [(4,.slice none 0 0),(5,s6)]∧St w0 w noX [E s1 x2,E s3 x4] [D s6 x7]∧zd5 F x7=some r) ?_ ?_
 ·refine sg (l:=[0,1,2]) C<|mv H C λa H=>ov (v:=I (x2.length:Int)) H C (Z.lenE (e:=61) (by simpa using zac) C (X.b 0 C)) λa H=>mv H C λa H=>nk<|?_; refine W.block<|W.loop (G:=Nat × (List Int) × Int) (λg a w=>match g with | (k10,x8,x9)=>Fr a 66 [] [(1,s3),(4,.slice none 0 0),(5,s6),(17,s1),(18,I (x2.length:Int)),(19,I x9)]∧St w0 w noX [E s1 x2,E s3 x4] [D s6 x8]∧zaU F x2 x4 k10 x8 x9=some r) (λg=>match g with | (k10,x8,x9)=>k10) (F,List.replicate (Int.toNat (i64.wrap ((x2.length:Int)+(x4.length:Int)))) (0:Int),0) ⟨H.q C,X,M⟩<|?_; clear H X M a; (try clear w); rintro ⟨k10,x8,x9⟩ a w ⟨H,X,M⟩
  rcases k10 with _ | k10
  · nomatch M
  replace M:zbQ F x2 x4 (zaU F x2 x4 k10) x8 x9=some r:=M; obtain ⟨rec10,hrec10⟩:∃ f,f=zaU F x2 x4 k10:=⟨_,C⟩; rw [← hrec10] at M; unfold zbQ at M; refine sg (l:=[0]) C<|ov H C (Z.lss C C) λa H=>nk<|W.seq<|?_; refine W.ifdI H C (λhc11=>?_) (λhc11=>?_)
  ·replace M:=hm_p M hc11; refine W.skip<|ksq<|?_; refine W.seqR (λa w=>∃ (x12:List Int) (x13:Int) (x14:Int),Fr a 66 [] [(1,s3),(4,.slice none 0 0),(5,s6),(8,Uv x13),(17,s1),(18,I (x2.length:Int)),(19,I x9),(26,I x14)]∧St w0 w noX [E s1 x2,E s3 x4] [D s6 x12]∧zd6 F rec10 x9 x12 x13 x14=some r) ?_ ?_
   ·refine W.block<|sg (l:=[0,1,2,3,4]) C<|mv H C λa H=>?_; refine hb M λx15 hx15 M=>ov H C (Z.ixE zac zae C C (X.b 0 C) hx15) λa H=>ov H C (Z.ldE1 (o:=0) zam E61_len C (X.b 0 C) hx15 C C) λa H=>mv2 H C C λa H=>nk<|sg (l:=[0]) C<|mv H C λa H=>nk<|?_; refine W.seqR (λa w=>∃ (x16:List Int) (x17:Int) (x18:Int),Fr a 66 [] [(1,s3),(4,.slice none 0 0),(5,s6),(6,I x9),(8,Uv x17),(17,s1),(18,I (x2.length:Int)),(19,I x9),(26,I x18)]∧St w0 w noX [E s1 x2,E s3 x4] [D s6 x16]∧zdd F x9 x4 rec10 x16 x17 x18=some r) ?_ ?_
    ·refine sg (l:=[0,1,2]) C<|mv H C λa H=>ov (v:=I (x4.length:Int)) H C (Z.lenE (e:=61) (by simpa using zac) C (X.b 1 C)) λa H=>mv H C λa H=>nk<|W.block<|W.loop (G:=Nat × (List Int) × Int × Int) (λg a w=>match g with | (k23,x20,x21,x22)=>Fr a 66 [] [(1,s3),(4,.slice none 0 0),(5,s6),(6,I x9),(7,.int .u32 x15),(8,Uv x21),(17,s1),(18,I (x2.length:Int)),(19,I x9),(24,s3),(25,I (x4.length:Int)),(26,I x22)]∧St w0 w noX [E s1 x2,E s3 x4] [D s6 x20]∧za3 F x4 x9 x15 rec10 k23 x20 x21 x22=some r) (λg=>match g with | (k23,x20,x21,x22)=>k23) (F,x8,0,0) ⟨H.q C,X,M⟩<|?_; clear H X M a; (try clear w); rintro ⟨k23,x20,x21,x22⟩ a w ⟨H,X,M⟩
     rcases k23 with _ | k23
     · nomatch M
     replace M:zbP F x4 x9 x15 rec10 (za3 F x4 x9 x15 rec10 k23) x20 x21 x22=some r:=M; obtain ⟨rec23,hrec23⟩:∃ f,f=za3 F x4 x9 x15 rec10 k23:=⟨_,C⟩; rw [← hrec23] at M; unfold zbP at M; refine sg (l:=[0]) C<|ov H C (Z.lss C C) λa H=>nk<|W.seq<|?_; refine W.ifdI H C (λhc24=>?_) (λhc24=>?_)
     ·replace M:=hm_p M hc24; refine W.skip<|ksq<|W.seq<|W.block<|sg (l:=[0,1,2,3,4]) C<|mv H C λa H=>?_; refine hb M λx25 hx25 M=>ov H C (Z.ixE zac zae C C (X.b 1 C) hx25) λa H=>ov H C (Z.ldE1 (o:=0) zam E61_len C (X.b 1 C) hx25 C C) λa H=>mv2 H C C λa H=>nk<|sg (l:=[0,1,2,3,4,5,6,7,8,9,10,11,12,13,14,15]) C<|mv2 H C C λa H=>ov (v:=Uv (u64.wrap x15)) H C (Z.conv za7 zaD C) λa H=>mv H C λa H=>?_; refine ov (v:=Uv (u64.wrap x25)) H C (Z.conv za7 zaD C) λa H=>ov H C (Z.mul C C) λa H=>mv2 H C C λa H=>mv H C λa H=>ov H C (Z.add C C) λa H=>?_; refine hb M λx26 hx26 M=>ov H C (Z.ixE zac zae C C (X.s 0 C) hx26) λa H=>ov H C (Z.ldE1 (o:=0) zam E61_len C (X.s 0 C) hx26 C C) λa H=>ov (v:=Uv (u64.wrap x26)) H C (Z.conv za7 zaD C) λa H=>ov H C (Z.add C C) λa H=>ov H C (Z.add C C) λa H=>mv H C λa H=>nk<|?_; obtain ⟨x27,hx27,M⟩:=hm_b M; rw [oj hx27] at H; refine sg (l:=[0,1,2,3,4,5,6,7]) C<|mv2 H C C λa H=>mv H C λa H=>ov H C (Z.add C C) λa H=>mv H C λa H=>ov (v:=.int .u32 (u32.wrap x27)) H C (Z.conv zaI za6 C) λa H=>ov H C (Z.ixE zac zae C C (X.s 0 C) hx26) λa H=>O.storeE (j:=0) (o:=0) (y0:=(u32.wrap x27)) (l':=x20.set (Int.toNat (i64.wrap (x9+x22))) (u32.wrap x27)) (M':=[D s6 (x20.set (Int.toNat (i64.wrap (x9+x22))) (u32.wrap x27))]) H X C C C zae C C C E61_len hx26 C C C C<|?_; intro w X; refine nk<|wrL (l:=[0,1,2]) C<|mv H C λa H=>ov (v:=Uv (Int.fdiv x27 (2^32))) H C (Z.shr (q:=32) C C (by decide)) λa H=>mv H C λa H=>O.nil<|kbn<|ksq<|wrL (l:=[0,1]) C<|ov H C (Z.add C C) λa H=>?_; refine mv H C λa H=>O.nil<|?_; refine kth ⟨(k23,x20.set (Int.toNat (i64.wrap (x9+x22))) (u32.wrap x27),Int.fdiv x27 (2^32),i64.wrap (x22+1)),⟨H.q C,X,?_⟩,Nat.lt_succ_self _⟩; rw [hrec23] at M; exact M
     ·replace M:=hm_n M hc24; refine W.exit<|kte<|kte<|kbk<|?_; exact kth ⟨x20,x21,x22,H.q C,X,M⟩
    ·clear H X M a; (try clear w); rintro a w ⟨x16,x17,x18,H,X,M⟩; unfold zdd at M; refine wrL (l:=[0,1,2,3,4,5,6,7,8]) C<|mv2 H C C λa H=>mv H C λa H=>ov (v:=I (x4.length:Int)) H C (Z.lenE (e:=61) (by simpa using zac) C (X.b 1 C)) λa H=>ov H C (Z.add C C) λa H=>mv H C λa H=>ov (v:=.int .u32 (u32.wrap x17)) H C (Z.conv zaI za6 C) λa H=>?_; refine hb M λx19 hx19 M=>ov H C (Z.ixE zac zae C C (X.s 0 C) hx19) λa H=>O.storeE (j:=0) (o:=0) (y0:=(u32.wrap x17)) (l':=x16.set (Int.toNat (i64.wrap (x9+(x4.length:Int)))) (u32.wrap x17)) (M':=[D s6 (x16.set (Int.toNat (i64.wrap (x9+(x4.length:Int)))) (u32.wrap x17))]) H X C C C zae C C C E61_len hx19 C C C C<|?_; intro w X; refine O.nil<|kbn<|?_; exact kth ⟨x16.set (Int.toNat (i64.wrap (x9+(x4.length:Int)))) (u32.wrap x17),x17,x18,H.q C,X,M⟩
   ·clear H X M a; (try clear w); rintro a w ⟨x12,x13,x14,H,X,M⟩; unfold zd6 at M; refine wrL (l:=[0,1]) C<|ov H C (Z.add C C) λa H=>mv H C λa H=>O.nil<|?_; refine kth ⟨(k10,x12,i64.wrap (x9+1)),⟨H.q C,X,?_⟩,Nat.lt_succ_self _⟩; rw [hrec10] at M; exact M
  ·replace M:=hm_n M hc11; refine W.exit<|kte<|kte<|kbk<|?_; exact kth ⟨x8,H.q C,X,M⟩
 ·clear H X M a; (try clear w); rintro a w ⟨x7,H,X,M⟩; unfold zd5 at M; refine sg (l:=[0,1]) C<|mv2 H C C λa H=>nk<|W.ret<|?_; obtain rfl:=oj M; refine post1 H C (rkt C) ?_; exact ⟨s6,C,X.noB⟩
def zaV (F:Nat) (x1:Bool) (x3:List Int) (x4:Bool) (x6:List Int):Option (Bool × (List Int) × Int) :=
  (za2 F x1 x3 x4 x6).bind λx11=>if x11≠(0:Int) then (some (false,([]:List Int),x11)) else ((zel F x3 x6).bind λx13=>(zaC F (!(x1 == x4)) x13).bind λx15=>some x15)
theorem zaY (F:Nat) (x1:Bool) (s2:Value) (x3:List Int) (x4:Bool) (s5:Value) (x6:List Int) (w0:World) (h_s2:rdEOK (hp w0) 1 E61 s2 x3) (h_s5:rdEOK (hp w0) 1 E61 s5 x6) (r:Bool × (List Int) × Int) (M:zaV F x1 x3 x4 x6=some r) :
    Ret P 8 #[.agg #[B x1,s2],.agg #[B x4,s5]] w0 (G:=Value) (λg1=>.tuple #[.agg #[B r.1,g1],I r.2.2]) (λg1 w=>St w0 w noX [] [D g1 r.2.1]):=by
 unfold zaV at M; refine roW Tryz.func8 C C C (λa H=>?_); have X:St w0 w0 noX [E s2 x3,E s5 x6] []:=Sbw (lnc (lendRd h_s2) (lnc (lendRd h_s5) lnn)); refine sg (l:=[0,1,2,3]) C<|O.box (cs:=#[B x1,s2]) H X C C C C<|?_; intro b7 w a hb7 X H; refine O.box (cs:=#[B x4,s5]) H X C C C C ?_; intro b8 w a hb8 X H; refine O.alloc (cs:=#[B false,.slice none 0 0]) H X C C zab C ?_; intro b9 w a hb9 X H; refine mv H C λa H=>nk<|W.seq<|sg (l:=[0,1,2,3,4]) C<|ov H C (lN (cs':=#[B x1,s2]) A_28 C (X.p 2 C) C C) λa H=>ov H C (lN (cs':=#[B x4,s5]) A_28 C (X.p 1 C) C C) λa H=>O.buildSlice (cs':=#[B x1,s2,B x4,s5]) (zs:=#[B false,.slice none 0 0,B false,.slice none 0 0]) H X C C za4 zaa zab C C C C C<|?_; intro b10 w a hb10 X H; refine hb M λx11 hx11 M=>oq H X C zc2 (zbH F b10 x1 s2 x3 x4 s5 x6 _ (X.b 0 C) (X.b 1 C) (X.p 0 C) x11 hx11) ?_; rintro _ w X a H; refine mv H C λa H=>nk<|?_; replace X:=X.sl [0,1,1,1]; refine sg (l:=[0,1]) C<|mv H C λa H=>ov H C (Z.neq C C) λa H=>nk<|?_; refine W.ifdI H C (λhc12=>?_) (λhc12=>?_)
 ·replace M:=hm_p M hc12; refine sg (l:=[0,1,2,3]) C<|ov (v:=.agg #[B false,.slice none 0 0]) H C (Z.buildS (cs':=#[B false,.slice none 0 0]) zbv zab C (by kernel_rfl)) λa H=>mv H C λa H=>ost 0 #[B false,.slice none 0 0] H X C C C zaa C C C (bl C) C<|?_; intro w X; refine mv H C λa H=>nk<|W.ret<|ktr<|?_; replace X:=X.nilE 61 1 E61; obtain rfl:=oj M; refine post2 H C (rkn (cs':=#[B false,.slice none 0 0]) C zag zaa (X.p 1 C) (bl C) C) (rkt C) ?_; replace X:=X.nilE 61 1 E61; replace X:=X.sl [1]; exact ⟨(.slice none 0 0),C,X.noB⟩
 ·replace M:=hm_n M hc12; refine W.skip<|ksq<|W.seq<|?_; have J:Fr a 28 [] [(5,I 0)]:=H.q C; obtain ⟨x13,hx13,M⟩:=hm_b M; refine hb M λx15 hx15 M=>W.drawK (γ:=Value × Value) (L0:=[(2,Pv b7 0),(3,Pv b8 0),(4,Pv b9 0)]) (L1:=[(5,I 0)]) (undef,undef) [9,10,13] [] [0,1,2,3,4,5,6,7,8,11,12,14] (λi=>match i with | 1=>[0] | 3=>[2] | 4=>[1,3] | 6=>[5] | 8=>[7] | 9=>[6,8] | 10=>[4,9] | 11=>[10] | 12=>[10] | 13=>[0,1,2,3,4,5,6,7,8,9,10,11,12] | 14=>[0,1,2,3,4,5,6,7,8,9,10,11,12,13] | _=>[]) (λ_=>[]) (λi=>match i with | 9=>[10,11,12,13,14] | 10=>[11,12,13,14] | 13=>[14] | _=>[]) (λ_=>[]) (λi=>match i with | 10=>1 | 11=>2 | 12=>2 | 13=>2 | 14=>3 | _=>0) (λi=>match i with | 0=>1 | 1=>1 | 2=>1 | 3=>1 | 4=>1 | 9=>1 | 10=>2 | 11=>2 | 12=>2 | 13=>3 | 14=>3 | _=>0) (λ(g:Value × Value) j=>match j with | 0=>Pv b7 0 | 1=>B x1 | 2=>Pv b8 0 | 3=>B x4 | 4=>B (!(x1 == x4)) | 5=>Pv b7 1 | 6=>s2 | 7=>Pv b8 1 | 8=>s5 | 9=>g.1 | 10=>.tuple #[.agg #[B x15.1,g.2],I x15.2.2] | 11=>.agg #[B x15.1,g.2] | 12=>I x15.2.2 | 14=>I x15.2.2 | _=>undef) (λk s (g:Value × Value) w=>match k with | 0=>St w0 w noX [E s2 x3,E s5 x6] [pt b9 (Cs #[B false,.slice none 0 0] 28),pW28 b8 x4 s5,pW28 b7 x1 s2] | 1=>St w0 w noX [E s2 x3,E s5 x6] [D g.1 x13,pt b9 (Cs #[B false,.slice none 0 0] 28),pW28 b8 x4 s5,pW28 b7 x1 s2] | 2=>St w0 w noX [E s2 x3,E s5 x6] [D g.2 x15.2.1,pt b9 (Cs #[B false,.slice none 0 0] 28),pW28 b8 x4 s5,pW28 b7 x1 s2] | _=>St w0 w noX [E s2 x3,E s5 x6] [D g.2 x15.2.1,pt b9 (Cs #[B x15.1,g.2] 28),pW28 b8 x4 s5,pW28 b7 x1 s2]) P_mixed (by kernel_rfl) (H.q C) J X.drew ?_ ?_ ?_ ?_
  ·clear H J X; refine ⟨λk s g w _ _ _ X a H=>Q.val (v:=Pv b7 0) C C C X H (Z.field zaj C C),?_,λk s g w _ _ _ X a H=>Q.val (v:=Pv b8 0) C C C X H (Z.field zaj C C),?_,λk s g w _ _ _ X a H=>Q.val (v:=B (!(x1 == x4))) C C C X H (Z.neBool zfD C C),λk s g w _ _ _ X a H=>Q.val (v:=Pv b7 1) C C C X H (Z.field zah C C),?_,λk s g w _ _ _ X a H=>Q.val (v:=Pv b8 1) C C C X H (Z.field zah C C),?_,λk s g w _ _ _ X a H=>Q.val (v:=.agg #[B x15.1,g.2]) C C C X H (Z.extract C C),λk s g w _ _ _ X a H=>Q.val (v:=I x15.2.2) C C C X H (Z.extract C C),λk s g w _ _ _ X a H=>Q.val (v:=I x15.2.2) C C C X H (Z.assign C),trivial⟩
   ·intro k s g w h1_ h2_ hsp X a H; obtain ⟨s14,s16⟩:=g
    rcases k with _ | _ | k
    ·exact Q.val (v:=B x1) C C C X H (Z.load1 zap C (X.p 2 C) C)
    ·exact Q.val (v:=B x1) C C C X H (Z.load1 zap C (X.p 3 C) C)
    ·simp at h2_
   ·intro k s g w h1_ h2_ hsp X a H; obtain ⟨s14,s16⟩:=g
    rcases k with _ | _ | k
    ·exact Q.val (v:=B x4) C C C X H (Z.load1 zap C (X.p 1 C) C)
    ·exact Q.val (v:=B x4) C C C X H (Z.load1 zap C (X.p 2 C) C)
    ·simp at h2_
   ·intro k s g w h1_ h2_ hsp X a H; obtain ⟨s14,s16⟩:=g
    rcases k with _ | k
    ·exact Q.val (v:=s2) C C C X H (Z.load1 zai C (X.p 2 C) C)
    ·simp at h2_
   ·intro k s g w h1_ h2_ hsp X a H; obtain ⟨s14,s16⟩:=g
    rcases k with _ | k
    ·exact Q.val (v:=s5) C C C X H (Z.load1 zai C (X.p 1 C) C)
    ·simp at h2_
  ·clear H J X; refine ⟨?_,?_,?_,trivial⟩
   ·intro s g w hsp X a H; obtain ⟨s14,s16⟩:=g; refine oq H X C zjq (zhJ F s2 x3 s5 x6 _ (X.b 0 C) (X.b 1 C) x13 hx13) ?_; rintro s14 w X a H; exact nE 24 H (s14,s16) C C (jl 15 (by kernel_rfl) λ_=>C) X
   ·intro s g w hsp X a H; obtain ⟨s14,s16⟩:=g; refine oc H C zcJ (zaE F (!(x1 == x4)) s14 x13 _ (X.slS (j:=0) C) x15 hx15) ?_; rintro s16 w Y a H; replace X:=X.cz Y 0 λ_ h=>h; exact nE 25 H (s14,s16) C C (jl 15 (by kernel_rfl) λ_=>C) X
   ·intro s g w hsp X a H; obtain ⟨s14,s16⟩:=g; refine ost 1 #[B x15.1,s16] H X C C C zaa C (occ C (occ (rdo (X.s 0 C)) C)) C (bl C) C ?_; intro w X; exact O.nil ⟨C,(s14,s16),H.to trivial,(λd hd=>by cases (show none=some d from hd)),(λ_ _ _=>C),X⟩
  ·clear H J X; exact trivial
  clear H J X; intro s g a w hs H X; obtain ⟨s14,s16⟩:=g; refine ksq ?_; replace X:=X.sl [1,1]; refine W.ret ?_; obtain rfl:=oj M; refine post2 H C (rkn (cs':=#[B x15.1,s16]) C zag zaa (X.p 1 C) (bl C) C) (rkt C) ?_; replace X:=X.sl [1]; exact ⟨s16,C,X.noB⟩
def za8 (F:Nat) (x1:Bool) (x3:List Int) (x4:Bool) (x6:List Int):Option (Bool × (List Int)) :=
  (zaV F x1 x3 x4 x6).bind λx10=>some (x10.1,x10.2.1)
theorem zaR (F:Nat) (x1:Bool) (s2:Value) (x3:List Int) (x4:Bool) (s5:Value) (x6:List Int) (w0:World) (h_s2:rdEOK (hp w0) 1 E61 s2 x3) (h_s5:rdEOK (hp w0) 1 E61 s5 x6) (r:Bool × (List Int)) (M:za8 F x1 x3 x4 x6=some r) :
    Ret P 130 #[.agg #[B x1,s2],.agg #[B x4,s5]] w0 (G:=Value) (λg1=>.agg #[B r.1,g1]) (λg1 w=>St w0 w noX [] [D g1 r.2]):=by
 unfold za8 at M; refine roW Tryz.func130 C C C (λa H=>?_); have X:St w0 w0 noX [E s2 x3,E s5 x6] []:=Sbw (lnc (lendRd h_s2) (lnc (lendRd h_s5) lnn)); refine sg (l:=[0,1,2]) C<|O.box (cs:=#[B x1,s2]) H X C C C C<|?_; intro b7 w a hb7 X H; refine O.box (cs:=#[B x4,s5]) H X C C C C ?_; intro b8 w a hb8 X H; refine O.alloc (cs:=#[B false,.slice none 0 0]) H X C C zab C ?_; intro b9 w a hb9 X H; refine nk<|sg (l:=[0,1,2,3,4,5,6,7,8]) C<|ov H C (lN (cs':=#[B x1,s2]) A_28 C (X.p 2 C) C C) λa H=>ov H C (lN (cs':=#[B x4,s5]) A_28 C (X.p 1 C) C C) λa H=>?_; refine hb M λx10 hx10 M=>oq H X C zdV (zaY F x1 s2 x3 x4 s5 x6 _ (X.b 0 C) (X.b 1 C) x10 hx10) ?_; rintro s11 w X a H; refine mv H C λa H=>ex H C C C λa H=>ex H C C C λa H=>O.alloc (cs:=#[B false,.slice none 0 0]) H X C C zab C<|?_; intro b12 w a hb12 X H; refine ost 0 #[B x10.1,s11] H X C C C zaa C (occ C (occ (rdo (X.s 1 C)) C)) C (bl C) C ?_; intro w X; refine mv H C λa H=>nk<|?_; replace X:=X.sl [1,1,1]; refine sg (l:=[0,1]) C<|ov H C (lN (cs':=#[B x10.1,s11]) A_28 C (X.p 0 C) C C) λa H=>ost 2 #[B x10.1,s11] H X C C C zaa C (occ C (occ (rdo (X.s 1 C)) C)) C (bl C) C<|?_; intro w X; refine nk ?_; replace X:=X.sl [0,1,1]; refine W.ret ?_; obtain rfl:=oj M; refine post1 H C (rkn (cs':=#[B x10.1,s11]) C zag zaa (X.p 1 C) (bl C) C) ?_; replace X:=X.sl [1]; exact ⟨s11,C,X.noB⟩
def zfg (F:Nat) (x1:Int):Option (Bool × (List Int) × Int) :=
  (zdW F 18 x1).bind λx3=>(zdW F 57 x1).bind λx5=>(zdW F 239 x1).bind λx7=>(zaN F 48).bind λx12=>(za8 F x12.1 x12.2 x3.1 x3.2.1).bind λx14=>(zaN F 32).bind λx16=>(za8 F x16.1 x16.2 x5.1 x5.2.1).bind λx18=>(zcB F x14.1 x14.2 x18.1 x18.2).bind λx20=>(zaN F 20).bind λx23=>(za8 F x23.1 x23.2 x7.1 x7.2.1).bind λx25=>(zbO F x20.1 x20.2 x25.1 x25.2).bind λx27=>(some (i64.wrap ((i64.wrap ((i64.wrap (48*x3.2.2))+(i64.wrap (32*x5.2.2))))+(i64.wrap (20*x7.2.2))))).bind λx29=>some (x27.1,x27.2,x29)
end Go.Proofs.YtfaflenaajafgaaGreatDoor
