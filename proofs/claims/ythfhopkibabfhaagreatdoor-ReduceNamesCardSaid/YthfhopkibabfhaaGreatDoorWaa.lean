/- Part of a proof: walks printed by a program. -/
import Derived.Test.YthfhopkibabfhaaGreatDoorSL27
import Derived.Test.YthfhopkibabfhaaGreatDoorWideNum
import Derived.Test.YthfhopkibabfhaaGreatDoorSLx
import Derived.Test.YthfhopkibabfhaaGreatDoorProg
set_option linter.unusedVariables false
set_option linter.unusedSimpArgs false
set_option maxHeartbeats 1000000
set_option maxRecDepth 8000
namespace Go.Proofs.YthfhopkibabfhaaGreatDoor
open Go Go.SL Go.IntKind
theorem C {α:Sort _} {a:α}:a=a:=rfl
abbrev I (x:Int):Value:=.int .i64 x
abbrev B (x:Bool):Value:=.bool x
noncomputable abbrev P:Program:=Tryz.prog
def strc1:ByteArray:=⟨((([0,1,2,2,3,3,3,3,4,4,4,4,4,4,4,4,5,5,5,5,5,5,5,5,5,5,5,5,5,5,5,5,6,6,6,6,6,6,6,6,6,6,6,6,6,6,6,6,6,6,6,6,6,6,6,6,6,6,6,6,6,6,6,6]++[7,7,7,7,7,7,7,7,7,7,7,7,7,7,7,7,7,7,7,7,7,7,7,7,7,7,7,7,7,7,7,7,7,7,7,7,7,7,7,7,7,7,7,7,7,7,7,7,7,7,7,7,7,7,7,7,7,7,7,7,7,7,7,7])++([8,8,8,8,8,8,8,8,8,8,8,8,8,8,8,8,8,8,8,8,8,8,8,8,8,8,8,8,8,8,8,8,8,8,8,8,8,8,8,8,8,8,8,8,8,8,8,8,8,8,8,8,8,8,8,8,8,8,8,8,8,8,8,8]++[8,8,8,8,8,8,8,8,8,8,8,8,8,8,8,8,8,8,8,8,8,8,8,8,8,8,8,8,8,8,8,8,8,8,8,8,8,8,8,8,8,8,8,8,8,8,8,8,8,8,8,8,8,8,8,8,8,8,8,8,8,8,8,8])):List UInt8).toArray⟩
theorem zjx:cOK P 102=true:=by kernel_rfl
theorem ziR:cOK P 104=true:=by kernel_rfl
theorem zhd:cOK P 105=true:=by kernel_rfl
theorem zh7:cOK P 106=true:=by kernel_rfl
theorem ziS:cOK P 107=true:=by kernel_rfl
theorem zjy:cOK P 108=true:=by kernel_rfl
theorem zjz:cOK P 109=true:=by kernel_rfl
theorem zgC:cOK P 112=true:=by kernel_rfl
theorem zhe:cOK P 113=true:=by kernel_rfl
theorem zgD:cOK P 114=true:=by kernel_rfl
theorem zgE:cOK P 115=true:=by kernel_rfl
theorem ziT:cOK P 116=true:=by kernel_rfl
theorem ziU:cOK P 117=true:=by kernel_rfl
theorem ziV:cOK P 118=true:=by kernel_rfl
theorem zjA:cOK P 119=true:=by kernel_rfl
theorem ziW:cOK P 120=true:=by kernel_rfl
theorem zhf:cOK P 122=true:=by kernel_rfl
theorem zjB:cOK P 123=true:=by kernel_rfl
theorem zjC:cOK P 124=true:=by kernel_rfl
theorem zjD:cOK P 125=true:=by kernel_rfl
theorem zjE:cOK P 126=true:=by kernel_rfl
theorem zcz:cOK P 127=true:=by kernel_rfl
theorem zjF:cOK P 129=true:=by kernel_rfl
theorem zjG:cOK P 130=true:=by kernel_rfl
theorem zhg:cOK P 131=true:=by kernel_rfl
theorem zh8:cOK P 132=true:=by kernel_rfl
theorem ziX:cOK P 140=true:=by kernel_rfl
theorem zhh:cOK P 141=true:=by kernel_rfl
theorem zh9:cOK P 143=true:=by kernel_rfl
theorem zfQ:cOK P 144=true:=by kernel_rfl
theorem zjH:cOK P 146=true:=by kernel_rfl
theorem zjI:cOK P 147=true:=by kernel_rfl
theorem zjJ:cOK P 148=true:=by kernel_rfl
theorem zjK:cOK P 149=true:=by kernel_rfl
theorem zit:cOK P 15=true:=by kernel_rfl
theorem zia:cOK P 150=true:=by kernel_rfl
theorem ziY:cOK P 151=true:=by kernel_rfl
theorem zed:cOK P 152=true:=by kernel_rfl
theorem zbX:cOK P 153=true:=by kernel_rfl
theorem zbu:cOK P 154=true:=by kernel_rfl
theorem zjL:cOK P 155=true:=by kernel_rfl
theorem zjM:cOK P 157=true:=by kernel_rfl
theorem zfR:cOK P 158=true:=by kernel_rfl
theorem zcv:cOK P 16=true:=by kernel_rfl
theorem ziZ:cOK P 160=true:=by kernel_rfl
theorem zjN:cOK P 161=true:=by kernel_rfl
theorem zdy:cOK P 162=true:=by kernel_rfl
theorem zeX:cOK P 163=true:=by kernel_rfl
theorem zjO:cOK P 164=true:=by kernel_rfl
theorem zjP:cOK P 165=true:=by kernel_rfl
theorem zj2:cOK P 17=true:=by kernel_rfl
theorem zjQ:cOK P 171=true:=by kernel_rfl
theorem zjR:cOK P 172=true:=by kernel_rfl
theorem zjS:cOK P 177=true:=by kernel_rfl
theorem zi0:cOK P 178=true:=by kernel_rfl
theorem zjT:cOK P 179=true:=by kernel_rfl
theorem zj3:cOK P 18=true:=by kernel_rfl
theorem zib:cOK P 180=true:=by kernel_rfl
theorem zdz:cOK P 181=true:=by kernel_rfl
theorem zjU:cOK P 182=true:=by kernel_rfl
theorem zjV:cOK P 184=true:=by kernel_rfl
theorem zjW:cOK P 185=true:=by kernel_rfl
theorem zi1:cOK P 188=true:=by kernel_rfl
theorem zi2:cOK P 189=true:=by kernel_rfl
theorem zj4:cOK P 19=true:=by kernel_rfl
theorem zjX:cOK P 190=true:=by kernel_rfl
theorem zi3:cOK P 191=true:=by kernel_rfl
theorem zi4:cOK P 192=true:=by kernel_rfl
theorem zgz:cOK P 20=true:=by kernel_rfl
theorem zj5:cOK P 28=true:=by kernel_rfl
theorem zj6:cOK P 30=true:=by kernel_rfl
theorem zja:cOK P 31=true:=by kernel_rfl
theorem zcQ:cOK P 32=true:=by kernel_rfl
theorem zj7:cOK P 33=true:=by kernel_rfl
theorem zdk:cOK P 34=true:=by kernel_rfl
theorem zcw:cOK P 35=true:=by kernel_rfl
theorem zj8:cOK P 36=true:=by kernel_rfl
theorem zjb:cOK P 41=true:=by kernel_rfl
theorem zj9:cOK P 42=true:=by kernel_rfl
theorem zka:cOK P 43=true:=by kernel_rfl
theorem ziu:cOK P 44=true:=by kernel_rfl
theorem zbE:cOK P 45=true:=by kernel_rfl
theorem ziv:cOK P 46=true:=by kernel_rfl
theorem zkb:cOK P 47=true:=by kernel_rfl
theorem zhQ:cOK P 59=true:=by kernel_rfl
theorem zkc:cOK P 60=true:=by kernel_rfl
theorem zgA:cOK P 61=true:=by kernel_rfl
theorem zjc:cOK P 62=true:=by kernel_rfl
theorem zjd:cOK P 63=true:=by kernel_rfl
theorem zkd:cOK P 64=true:=by kernel_rfl
theorem zfe:cOK P 65=true:=by kernel_rfl
theorem zhR:cOK P 66=true:=by kernel_rfl
theorem zeu:cOK P 67=true:=by kernel_rfl
theorem zke:cOK P 71=true:=by kernel_rfl
theorem zhS:cOK P 72=true:=by kernel_rfl
theorem zkf:cOK P 73=true:=by kernel_rfl
theorem zhT:cOK P 74=true:=by kernel_rfl
theorem zdW:cOK P 75=true:=by kernel_rfl
theorem zg8:cOK P 76=true:=by kernel_rfl
theorem zev:cOK P 77=true:=by kernel_rfl
theorem zhU:cOK P 78=true:=by kernel_rfl
theorem zkg:cOK P 79=true:=by kernel_rfl
theorem zhV:cOK P 80=true:=by kernel_rfl
theorem zhW:cOK P 81=true:=by kernel_rfl
theorem zhX:cOK P 82=true:=by kernel_rfl
theorem zgB:cOK P 83=true:=by kernel_rfl
theorem ziw:cOK P 84=true:=by kernel_rfl
theorem zg9:cOK P 85=true:=by kernel_rfl
theorem zkh:cOK P 86=true:=by kernel_rfl
theorem zki:cOK P 87=true:=by kernel_rfl
theorem zkj:cOK P 88=true:=by kernel_rfl
theorem zkk:cOK P 89=true:=by kernel_rfl
theorem zhY:cOK P 91=true:=by kernel_rfl
theorem zje:cOK P 92=true:=by kernel_rfl
theorem zjf:cOK P 93=true:=by kernel_rfl
theorem zkl:cOK P 94=true:=by kernel_rfl
theorem zkm:cOK P 96=true:=by kernel_rfl
theorem zkn:cOK P 97=true:=by kernel_rfl
theorem P_mixed:P.follows .mixedOrders=true:=by kernel_rfl
theorem zbg:tAgg P 101=some true:=by kernel_rfl
theorem zgb:tAgg P 108=some true:=by kernel_rfl
theorem zjs:tAgg P 113=some true:=by kernel_rfl
theorem zax:tAgg P 116=some false:=by kernel_rfl
theorem zdv:tAgg P 199=some true:=by kernel_rfl
theorem zag:tAgg P 2=some false:=by kernel_rfl
theorem zcu:tAgg P 203=some true:=by kernel_rfl
theorem zan:tAgg P 28=some false:=by kernel_rfl
theorem zbr:tAgg P 3=some false:=by kernel_rfl
theorem zal:tAgg P 30=some true:=by kernel_rfl
theorem zbj:tAgg P 32=some true:=by kernel_rfl
theorem zbI:tAgg P 34=some false:=by kernel_rfl
theorem zav:tAgg P 4=some false:=by kernel_rfl
theorem zde:tAgg P 88=some false:=by kernel_rfl
theorem zar:tAgg P 90=some false:=by kernel_rfl
theorem zdw:tArr P 102=some (2,101):=by kernel_rfl
theorem zhE:tArr P 103=some (2,32):=by kernel_rfl
theorem zbU:tArr P 108=some (3,101):=by kernel_rfl
theorem zbV:tArr P 113=some (3,2):=by kernel_rfl
theorem zdx:tArr P 204=some (4,203):=by kernel_rfl
theorem zhF:tArr P 205=some (2,2):=by kernel_rfl
theorem zhG:tArr P 211=some (2,30):=by kernel_rfl
theorem zfS:P.underlying 4=some .bool:=by kernel_rfl
theorem za7:tBytes P 90=some 4:=by kernel_rfl
theorem zjt:P.cellsOf 2=1:=by kernel_rfl
theorem zaX:tElem P 140=some 30:=by kernel_rfl
theorem zcX:tElem P 208=some 203:=by kernel_rfl
theorem zcl:tElem P 210=some 101:=by kernel_rfl
theorem zab:tElem P 28=some 90:=by kernel_rfl
theorem zju:P.eqGuardType P.depth 113=false:=by kernel_rfl
theorem zjv:P.eqGuardType P.depth 203=false:=by kernel_rfl
theorem zaR:tField P 101 0=some 0:=by kernel_rfl
theorem zaS:tField P 101 1=some 1:=by kernel_rfl
theorem zcR:tField P 118 0=some 0:=by kernel_rfl
theorem ziG:tField P 118 1=some 1:=by kernel_rfl
theorem zbn:tField P 118 2=some 2:=by kernel_rfl
theorem zbC:tField P 118 4=some 4:=by kernel_rfl
theorem zaD:tField P 199 0=some 0:=by kernel_rfl
theorem zaV:tField P 199 1=some 2:=by kernel_rfl
theorem zbo:tField P 203 0=some 0:=by kernel_rfl
theorem zeT:tField P 203 1=some 1:=by kernel_rfl
theorem zao:tField P 30 0=some 0:=by kernel_rfl
theorem zak:tField P 30 1=some 1:=by kernel_rfl
theorem zcA:tField P 32 0=some 0:=by kernel_rfl
theorem zaL:tField P 32 1=some 2:=by kernel_rfl
theorem zgF:tField P 92 0=some 0:=by kernel_rfl
theorem zi5:tField P 92 1=some 1:=by kernel_rfl
theorem zjY:tFs P 203=some [(2,0),(88,1)]:=by kernel_rfl
theorem zjk:tIface P 20=true:=by kernel_rfl
theorem zjZ:(P.info? 2).isSome=true:=by kernel_rfl
theorem zff:tInt P 2=some .i64:=by kernel_rfl
theorem zjg:tInt P 3=some .i64:=by kernel_rfl
theorem zjh:tInt P 5=some .u8:=by kernel_rfl
theorem zi6:tInt P 86=some .u64:=by kernel_rfl
theorem zaF:tInt P 88=some .u64:=by kernel_rfl
theorem za8:tInt P 90=some .u32:=by kernel_rfl
theorem zee:tPlaces P 101=some #[(0,1),(1,1)]:=by kernel_rfl
theorem zi7:tPlaces P 118=some #[(0,1),(1,1),(2,1),(3,1),(4,1)]:=by kernel_rfl
theorem zb3:tPlaces P 199=some #[(0,2),(2,1)]:=by kernel_rfl
theorem zi8:tPlaces P 203=some #[(0,1),(1,1)]:=by kernel_rfl
theorem zg0:tPlaces P 30=some #[(0,1),(1,1)]:=by kernel_rfl
theorem zh6:tPlaces P 32=some #[(0,2),(2,2)]:=by kernel_rfl
theorem zai:tSize P 101=some 2:=by kernel_rfl
theorem zbh:tSize P 108=some 6:=by kernel_rfl
theorem zjl:tSize P 113=some 3:=by kernel_rfl
theorem zat:tSize P 199=some 3:=by kernel_rfl
theorem za9:tSize P 2=some 1:=by kernel_rfl
theorem zap:tSize P 203=some 2:=by kernel_rfl
theorem ziD:tSize P 28=some 1:=by kernel_rfl
theorem zgG:tSize P 3=some 1:=by kernel_rfl
theorem zaa:tSize P 30=some 2:=by kernel_rfl
theorem zaw:tSize P 32=some 4:=by kernel_rfl
theorem zb4:tSize P 34=some 1:=by kernel_rfl
theorem zj0:tSize P 4=some 1:=by kernel_rfl
theorem ziE:tSize P 88=some 1:=by kernel_rfl
theorem zae:tSize P 90=some 1:=by kernel_rfl
theorem zhi:P.underlying 9=some .string:=by kernel_rfl
theorem zfg:(P.underlying 2).isSome=true:=by kernel_rfl
theorem zji:(P.underlying 3).isSome=true:=by kernel_rfl
theorem zjj:(P.underlying 5).isSome=true:=by kernel_rfl
theorem zaM:(P.underlying 88).isSome=true:=by kernel_rfl
theorem za1:(P.underlying 90).isSome=true:=by kernel_rfl
theorem zaq:tZero P 101=some (.agg #[I 0,I 0]):=by kernel_rfl
theorem zjm:tZero P 102=some (.agg #[I 0,I 0,I 0,I 0]):=by kernel_rfl
theorem zjn:tZero P 103=some (.agg #[B false,.slice none 0 0,B false,.slice none 0 0,B false,.slice none 0 0,B false,.slice none 0 0]):=by kernel_rfl
theorem zbY:tZero P 108=some (.agg #[I 0,I 0,I 0,I 0,I 0,I 0]):=by kernel_rfl
theorem zii:tZero P 113=some (.agg #[I 0,I 0,I 0]):=by kernel_rfl
theorem zjo:tZero P 118=some (.agg #[.nilFunc,.nilFunc,.nilFunc,.nilFunc,I 0]):=by kernel_rfl
theorem zau:tZero P 199=some (.agg #[B false,.slice none 0 0,I 0]):=by kernel_rfl
theorem zbZ:tZero P 203=some (.agg #[I 0,Uv 0]):=by kernel_rfl
theorem zjp:tZero P 204=some (.agg #[I 0,Uv 0,I 0,Uv 0,I 0,Uv 0,I 0,Uv 0]):=by kernel_rfl
theorem zjq:tZero P 205=some (.agg #[I 0,I 0]):=by kernel_rfl
theorem zjr:tZero P 211=some (.agg #[B false,.slice none 0 0,B false,.slice none 0 0]):=by kernel_rfl
theorem ziF:tZero P 28=some (.slice none 0 0):=by kernel_rfl
theorem zj1:tZero P 3=some (I 0):=by kernel_rfl
theorem zac:tZero P 30=some (.agg #[B false,.slice none 0 0]):=by kernel_rfl
theorem za0:tZero P 32=some (.agg #[B false,.slice none 0 0,B false,.slice none 0 0]):=by kernel_rfl
theorem zfh:tZero P 34=some (I 0):=by kernel_rfl
theorem zjw:tZero P 88=some (Uv 0):=by kernel_rfl
theorem zaE:tZero P 90=some (.int .u32 0):=by kernel_rfl
def E90 (x:Int):List Value:=[.int .u32 x]
theorem E90_len (x:Int):(E90 x).length=1:=C
theorem E90_one (x:Int):oneCells (E90 x)=true:=C
theorem A_101:tAgg P 101=some true∧tSize P 101=some 2:=⟨zbg,zai⟩
theorem A_108:tAgg P 108=some true∧tSize P 108=some 6:=⟨zgb,zbh⟩
theorem A_113:tAgg P 113=some true∧tSize P 113=some 3:=⟨zjs,zjl⟩
theorem A_199:tAgg P 199=some true∧tSize P 199=some 3:=⟨zdv,zat⟩
theorem A_203:tAgg P 203=some true∧tSize P 203=some 2:=⟨zcu,zap⟩
theorem A_30:tAgg P 30=some true∧tSize P 30=some 2:=⟨zal,zaa⟩
theorem A_32:tAgg P 32=some true∧tSize P 32=some 4:=⟨zbj,zaw⟩
abbrev Sh (x:Value):Array Value:=#[.func (.func 38) #[] #[],.func (.func 39) #[] #[],.func (.func 40) #[] #[],.func (.func 41) #[] #[],x]
abbrev Sh0 (x:Value):Array Value:=#[.func (.func 87) #[] #[],.func (.func 88) #[] #[],.func (.func 89) #[] #[],.func (.func 90) #[] #[],x]
abbrev pP101 (b:Nat) (x:Int×Int):Asr:=pt b (Cs #[I x.1,I x.2] 101)
abbrev pI3 (b:Nat) (x:Int):Asr:=pt b (Cs #[I x] 3)
abbrev pI34 (b:Nat) (x:Int):Asr:=pt b (Cs #[I x] 34)
abbrev pI2 (b:Nat) (x:Int):Asr:=pt b (Cs #[I x] 2)
abbrev pS0118 (b:Nat) (x:Int):Asr:=pt b (Cs (Sh0 (I x)) 118)
abbrev pW30 (b:Nat) (x:Bool) (s:Value):Asr:=pt b (Cs #[B x,s] 30)
abbrev pB199 (b:Nat) (x:Bool) (s:Value) (y:Int):Asr:=pt b (Cs #[B x,s,I y] 199)
abbrev pJ101 (b:Nat) (x y:Int):Asr:=pt b (Cs #[I x,I y] 101)
abbrev D:Value→List (Int)→Asr:=slE 90 1 E90
abbrev E:Value→List (Int)→Asr:=rdE 1 E90
def zeD (F:Nat) (x1:Int):Option Bool :=
  some (((decide (x1≥(65:Int)))&&(decide (x1≤(90:Int))))||((decide (x1≥(97:Int)))&&(decide (x1≤(122:Int)))))
theorem zhj (F:Nat) (x1:Int) (w0:World) (r:Bool) (M:zeD F x1=some r) :
    Ret P 28 #[.int .i32 x1] w0 (G:=Unit) (λ_=>B r) (λ_ w=>St w0 w noX [] []):=by
 unfold zeD at M; refine roW Tryz.func28 C C C (λa H=>?_); have X:St w0 w0 noX [] []:=Sbw lnn; refine sg (l:=[0]) C<|mv H C λa H=>nk<|sg (l:=[0,1,2,3,4,5,6,7,8,9,10,11,12,13,14]) C<|mv H C λa H=>ov H C (Z.geq C C) λa H=>mv H C λa H=>?_; refine O.cutN (l₁:=[3,4,5]) (l₂:=_) (λa w=>Fr a 17 [] [(0,.int .i32 x1),(2,B false),(8,B ((decide (x1≥(65:Int)))&&(decide (x1≤(90:Int)))))]∧St w0 w noX [] []) C ?_ ?_
 ·rcases Bool.eq_false_or_eq_true (decide (x1≥(65:Int))) with hb2 | hb2
  ·refine og H C hb2 (Z.move C) λa H=>og H C hb2 (Z.leq C C) λa H=>?_; refine ov (v:=B ((decide (x1≥(65:Int)))&&(decide (x1≤(90:Int))))) H C (Z.pick C C C (by rw [hb2]; rfl)) ?_; clear H a; intro a H; exact O.nil ⟨C,H.q C,X⟩
  ·refine sk H C hb2 λa H=>sk H C hb2 λa H=>?_; refine ov (v:=B ((decide (x1≥(65:Int)))&&(decide (x1≤(90:Int))))) H C (Z.pick C C C (by rw [hb2]; rfl)) ?_; clear H a; intro a H; exact O.nil ⟨C,H.q C,X⟩
 clear H X a; (try clear w); rintro a w ⟨H,X⟩; refine mv H C λa H=>?_; refine O.cutN (l₁:=[7,8,9,10,11,12,13]) (l₂:=_) (λa w=>Fr a 17 [] [(2,B false),(16,B (((decide (x1≥(65:Int)))&&(decide (x1≤(90:Int))))||((decide (x1≥(97:Int)))&&(decide (x1≤(122:Int))))))]∧St w0 w noX [] []) C ?_ ?_
 ·rcases Bool.eq_false_or_eq_true ((decide (x1≥(65:Int)))&&(decide (x1≤(90:Int)))) with hb3 | hb3
  ·refine sk H C hb3 λa H=>sk H C hb3 λa H=>sk H C hb3 λa H=>O.skipU H C C C C λa H=>O.skipU H C C C C λa H=>sk H C hb3 λa H=>?_; refine ov (v:=B (((decide (x1≥(65:Int)))&&(decide (x1≤(90:Int))))||((decide (x1≥(97:Int)))&&(decide (x1≤(122:Int)))))) H C (Z.pick C C C (by rw [hb3]; rfl)) ?_; clear H a; intro a H; exact O.nil ⟨C,H.q C,X⟩
  ·refine og H C hb3 (Z.move C) λa H=>og H C hb3 (Z.geq C C) λa H=>og H C hb3 (Z.move C) λa H=>?_; refine O.cutN (l₁:=[10,11,12]) (l₂:=_) (λa w=>Fr a 17 [] [(0,.int .i32 x1),(2,B false),(8,B ((decide (x1≥(65:Int)))&&(decide (x1≤(90:Int))))),(9,B ((decide (x1≥(65:Int)))&&(decide (x1≤(90:Int))))),(10,.int .i32 x1),(11,B (decide (x1≥(97:Int)))),(12,B (decide (x1≥(97:Int)))),(15,B ((decide (x1≥(97:Int)))&&(decide (x1≤(122:Int)))))]∧St w0 w noX [] []) C ?_ ?_
   ·rcases Bool.eq_false_or_eq_true (decide (x1≥(97:Int))) with hb4 | hb4
    ·refine og H C hb4 (Z.move C) λa H=>og H C hb4 (Z.leq C C) λa H=>?_; refine og (v:=B ((decide (x1≥(97:Int)))&&(decide (x1≤(122:Int))))) H C hb3 (Z.pick C C C (by rw [hb4]; rfl)) ?_; clear H a; intro a H; exact O.nil ⟨C,H.q C,X⟩
    ·refine sk H C hb4 λa H=>sk H C hb4 λa H=>?_; refine og (v:=B ((decide (x1≥(97:Int)))&&(decide (x1≤(122:Int))))) H C hb3 (Z.pick C C C (by rw [hb4]; rfl)) ?_; clear H a; intro a H; exact O.nil ⟨C,H.q C,X⟩
   clear H X a; (try clear w); rintro a w ⟨H,X⟩; refine ov (v:=B (((decide (x1≥(65:Int)))&&(decide (x1≤(90:Int))))||((decide (x1≥(97:Int)))&&(decide (x1≤(122:Int)))))) H C (Z.pick C C C (by rw [hb3]; rfl)) ?_; clear H a; intro a H; exact O.nil ⟨C,H.q C,X⟩
 clear H X a; (try clear w); rintro a w ⟨H,X⟩; refine mv H C λa H=>nk<|W.ret<|?_; obtain rfl:=oj M; refine post1 H C (rkt C) ?_; exact ⟨(),C,X.noB⟩
def zef (F:Nat) :Option Unit :=
  some ()
def zeg (F:Nat) (x1:ByteArray) (rec4:Int→Option Unit) (x3:Int):Option Unit :=
  if (shas x1 x3)=true then ((zeD F (srun x1 x3)).bind λx6=>if ((!x6)&&((decide ((srun x1 x3)<(48:Int)))||(decide ((srun x1 x3)>(57:Int)))))=true then (none) else (rec4 (spos x1 x3))) else (zef F)
def zb5 (F:Nat) (x1:ByteArray):Nat→Int→Option Unit
  | 0,_=>none
  | n+1,x3=>zeg F x1 (zb5 F x1 n) x3
def zfi (F:Nat) (x1:ByteArray):Option Unit :=
  zb5 F x1 F 0
theorem zhH (F:Nat) (x1:ByteArray) (w0:World) (r:Unit) (M:zfi F x1=some r) :
    Ret P 21 #[.string x1] w0 (G:=Unit) (λ_=>B true) (λ_ w=>St w0 w noX [] []):=by
 unfold zfi at M; refine roW Tryz.func21 C C C (λa H=>?_); have X:St w0 w0 noX [] []:=Sbw lnn; refine sg (l:=[0]) C<|mv H C λa H=>nk<|?_; refine W.seqR (λa w=>Fr a 21 [] [(2,B false)]∧St w0 w noX [] []∧zef F=some r) ?_ ?_
 ·refine sg (l:=[0,1]) C<|mv H C λa H=>?_; refine O.rangeS H X C C C zhi ?_; clear H X a; intro b2 w a X H; refine nk ?_; refine W.block<|W.loop (G:=Nat × Int) (λg a w=>match g with | (k4,x3)=>Fr a 21 [] [(2,B false),(6,Pv b2 0)]∧St w0 w noX [] [pt b2 (.stringIter x1 (Int.toNat x3))]∧zb5 F x1 k4 x3=some r) (λg=>match g with | (k4,x3)=>k4) (F,0) ⟨H.q C,X,M⟩<|?_; clear H X M a; (try clear w); rintro ⟨k4,x3⟩ a w ⟨H,X,M⟩
  rcases k4 with _ | k4
  · nomatch M
  replace M:zeg F x1 (zb5 F x1 k4) x3=some r:=M; obtain ⟨rec4,hrec4⟩:∃ f,f=zb5 F x1 k4:=⟨_,C⟩; rw [← hrec4] at M; unfold zeg at M; refine sg (l:=[0,1]) C ?_
  rcases Bool.eq_false_or_eq_true (shas x1 x3) with hn5 | hn5
  ·replace M:=hm_t M hn5; refine O.nextT (j:=0) (M':=[pt b2 (.stringIter x1 (Int.toNat (spos x1 x3)))]) H X C C C C hn5 C ?_; clear H X a; intro w a X H; refine ex H C C C λa H=>nk<|W.seq<|W.if_tt H C<|W.skip<|ksq<|W.block<|sg (l:=[0,1]) C<|ex H C C C λa H=>mv H C λa H=>?_; refine nk<|sg (l:=[0,1,2,3,4,5,6,7,8,9,10]) C<|mv H C λa H=>?_; refine hb M λx6 hx6 M=>oq H X C zj5 (zhj F (srun x1 x3) _ x6 hx6) ?_; rintro _ w X a H; refine ov H C (Z.not C) λa H=>mv H C λa H=>?_; refine O.cutN (l₁:=[4,5,6,7,8,9,10]) (l₂:=_) (λa w=>Fr a 21 [] [(2,B false),(6,Pv b2 0),(20,B ((!x6)&&((decide ((srun x1 x3)<(48:Int)))||(decide ((srun x1 x3)>(57:Int))))))]∧St w0 w noX [] [pt b2 (.stringIter x1 (Int.toNat (spos x1 x3)))]) C ?_ ?_
   ·rcases Bool.eq_false_or_eq_true (!x6) with hb7 | hb7
    ·refine og H C hb7 (Z.move C) λa H=>og H C hb7 (Z.lss C C) λa H=>og H C hb7 (Z.move C) λa H=>?_; refine O.cutN (l₁:=[7,8,9]) (l₂:=_) (λa w=>Fr a 21 [] [(2,B false),(4,.int .i32 (srun x1 x3)),(6,Pv b2 0),(10,.int .i32 (srun x1 x3)),(11,B x6),(12,B (!x6)),(13,B (!x6)),(14,.int .i32 (srun x1 x3)),(15,B (decide ((srun x1 x3)<(48:Int)))),(16,B (decide ((srun x1 x3)<(48:Int)))),(19,B ((decide ((srun x1 x3)<(48:Int)))||(decide ((srun x1 x3)>(57:Int)))))]∧St w0 w noX [] [pt b2 (.stringIter x1 (Int.toNat (spos x1 x3)))]) C ?_ ?_
     ·rcases Bool.eq_false_or_eq_true (decide ((srun x1 x3)<(48:Int))) with hb8 | hb8
      ·refine sk H C hb8 λa H=>sk H C hb8 λa H=>?_; refine og (v:=B ((decide ((srun x1 x3)<(48:Int)))||(decide ((srun x1 x3)>(57:Int))))) H C hb7 (Z.pick C C C (by rw [hb8]; rfl)) ?_; clear H a; intro a H; exact O.nil ⟨C,H.q C,X⟩
      ·refine og H C hb8 (Z.move C) λa H=>og H C hb8 (Z.gtr C C) λa H=>?_; refine og (v:=B ((decide ((srun x1 x3)<(48:Int)))||(decide ((srun x1 x3)>(57:Int))))) H C hb7 (Z.pick C C C (by rw [hb8]; rfl)) ?_; clear H a; intro a H; exact O.nil ⟨C,H.q C,X⟩
     clear H X a; (try clear w); rintro a w ⟨H,X⟩; refine ov (v:=B ((!x6)&&((decide ((srun x1 x3)<(48:Int)))||(decide ((srun x1 x3)>(57:Int)))))) H C (Z.pick C C C (by rw [hb7]; rfl)) ?_; clear H a; intro a H; exact O.nil ⟨C,H.q C,X⟩
    ·refine sk H C hb7 λa H=>sk H C hb7 λa H=>sk H C hb7 λa H=>O.skipU H C C C C λa H=>O.skipU H C C C C λa H=>sk H C hb7 λa H=>?_; refine ov (v:=B ((!x6)&&((decide ((srun x1 x3)<(48:Int)))||(decide ((srun x1 x3)>(57:Int)))))) H C (Z.pick C C C (by rw [hb7]; rfl)) ?_; clear H a; intro a H; exact O.nil ⟨C,H.q C,X⟩
   clear H X a; (try clear w); rintro a w ⟨H,X⟩; refine nk ?_; refine W.if_ H C (λhc9=>?_) (λhc9=>?_)
   ·nomatch hm_t M hc9
   ·replace M:=hm_f M hc9; refine W.skip<|kbn<|?_; refine kth ⟨(k4,spos x1 x3),⟨H.q C,X,?_⟩,Nat.lt_succ_self _⟩; rw [hrec4] at M; exact M
  ·replace M:=hm_f M hn5; refine O.nextF (j:=0) H X C C C C hn5 λa H=>ex H C C C λa H=>nk<|W.seq<|W.if_ff H C<|W.exit<|kte<|kte<|kbk<|?_; replace X:=X.s0; exact kth ⟨H.q C,X,M⟩
 ·clear H X M a; (try clear w); rintro a w ⟨H,X,M⟩; unfold zef at M; refine sg (l:=[0]) C<|mv H C λa H=>nk<|W.ret<|?_; obtain rfl:=oj M; refine post1 H C (rkt C) ?_; exact ⟨(),C,X.noB⟩
def zeY (F:Nat) (x2:List Int) (x3:Int):Option (List Int) :=
  if sbd 0 x3 (x2.length:Int) then some (lsub x2 0 x3) else none
def zdA (F:Nat) (rec6:Int→Option (List Int)) (x5:Int) (x2:List Int) (x7:Bool):Option (List Int) :=
  if (x7)=true then (rec6 (i64.wrap (x5-1))) else (zeY F x2 x5)
def zeZ (F:Nat) (x2:List Int) (rec6:Int→Option (List Int)) (x5:Int):Option (List Int) :=
  if x5>(0:Int) then ((idx x2 (i64.wrap (x5-1))).bind λx10=>zdA F rec6 x5 x2 (decide (x10=(0:Int)))) else (zdA F rec6 x5 x2 false)
def zcB (F:Nat) (x2:List Int):Nat→Int→Option (List Int)
  | 0,_=>none
  | n+1,x5=>zeZ F x2 (zcB F x2 n) x5
def zbp (F:Nat) (x2:List Int):Option (List Int) :=
  zcB F x2 F (x2.length:Int)
theorem zbk (F:Nat) (s1:Value) (x2:List Int) (w0:World) (h_s1:slOK (hp w0) 90 1 s1 x2.length (encs E90 x2)) (r:List Int) (M:zbp F x2=some r) :
    Ret P 65 #[s1] w0 (G:=Value) (λg1=>g1) (λg1 w=>St w0 w (λk=>s1.ownBlock=some k) [] [D g1 r]):=by
 unfold zbp at M; refine roW Tryz.func65 C C C (λa H=>?_); have X:St w0 w0 (λk=>s1.ownBlock=some k) [] [D s1 x2]:=St.ownE h_s1 lnn (apAll_nil (q:=D s1 x2)); refine sg (l:=[0]) C<|mv H C λa H=>nk<|sg (l:=[0,1,2]) C<|mv H C λa H=>ov (v:=I (x2.length:Int)) H C (Z.lenE (e:=90) (by simpa using zab) C (X.s 0 C)) λa H=>mv H C λa H=>nk<|?_; refine W.seqR (λa w=>∃ (x3:Int),Fr a 21 [] [(0,s1),(2,.slice none 0 0),(3,I x3)]∧St w0 w (λk=>s1.ownBlock=some k) [] [D s1 x2]∧zeY F x2 x3=some r) ?_ ?_
 ·refine W.block<|W.loop (G:=Nat × Int) (λg a w=>match g with | (k6,x5)=>Fr a 21 [] [(0,s1),(2,.slice none 0 0),(3,I x5)]∧St w0 w (λk=>s1.ownBlock=some k) [] [D s1 x2]∧zcB F x2 k6 x5=some r) (λg=>match g with | (k6,x5)=>k6) (F,(x2.length:Int)) ⟨H.q C,X,M⟩<|?_; clear H X M a; (try clear w); rintro ⟨k6,x5⟩ a w ⟨H,X,M⟩
  rcases k6 with _ | k6
  · nomatch M
  replace M:zeZ F x2 (zcB F x2 k6) x5=some r:=M; obtain ⟨rec6,hrec6⟩:∃ f,f=zcB F x2 k6:=⟨_,C⟩; rw [← hrec6] at M; unfold zeZ at M; refine W.seq<|sg (l:=[0,1,2,3,4,5,6,7,8,9]) C<|mv H C λa H=>ov H C (Z.gtr C C) λa H=>mv H C λa H=>?_; refine O.cutN (l₁:=[3,4,5,6,7,8,9]) (l₂:=_) (λa w=>∃ (x7:Bool),Fr a 21 [] [(0,s1),(2,.slice none 0 0),(3,I x5),(15,B x7)]∧St w0 w (λk=>s1.ownBlock=some k) [] [D s1 x2]∧zdA F rec6 x5 x2 x7=some r) C ?_ ?_
  ·rcases Bool.eq_false_or_eq_true (decide (x5>(0:Int))) with hb9 | hb9
   ·have hb9p:=of_decide_eq_true hb9; replace M:=hm_p M hb9p; refine og H C hb9 (Z.move C) λa H=>og H C hb9 (Z.move C) λa H=>og H C hb9 (Z.sub C C) λa H=>?_; refine hb M λx10 hx10 M=>og H C hb9 (Z.ixE zab zae C C (X.s 0 C) hx10) λa H=>og H C hb9 (Z.ldE1 (o:=0) zar E90_len C (X.s 0 C) hx10 C C) λa H=>og H C hb9 (Z.eql C C) λa H=>?_; refine ov (v:=B (decide (x10=(0:Int)))) H C (Z.pick C C C (by rw [hb9]; rfl)) ?_; clear H a; intro a H; exact O.nil ⟨C,decide (x10=(0:Int)),H.q C,X,M⟩
   ·have hb9p:=of_decide_eq_false hb9; replace M:=hm_n M hb9p; refine sk H C hb9 λa H=>sk H C hb9 λa H=>sk H C hb9 λa H=>sk H C hb9 λa H=>sk H C hb9 λa H=>sk H C hb9 λa H=>?_; refine ov (v:=B false) H C (Z.pick C C C (by rw [hb9]; rfl)) ?_; clear H a; intro a H; exact O.nil ⟨C,false,H.q C,X,M⟩
  clear H X M a; (try clear w); rintro a w ⟨x7,H,X,M⟩; unfold zdA at M; refine nk ?_; refine W.if_ H C (λhc8=>?_) (λhc8=>?_)
  ·replace M:=hm_t M hc8; refine W.skip<|ksq<|W.block<|wrL (l:=[0,1,2]) C<|mv H C λa H=>ov H C (Z.sub C C) λa H=>mv H C λa H=>O.nil<|kbn<|?_; refine kth ⟨(k6,i64.wrap (x5-1)),⟨H.q C,X,?_⟩,Nat.lt_succ_self _⟩; rw [hrec6] at M; exact M
  ·replace M:=hm_f M hc8; refine W.exit<|kte<|kte<|kbk<|?_; exact kth ⟨x5,H.q C,X,M⟩
 ·clear H X M a; (try clear w); rintro a w ⟨x3,H,X,M⟩; unfold zeY at M; refine sg (l:=[0,1,2,3]) C<|mv2 H C C λa H=>?_; obtain ⟨hg4,M⟩:=hm_g M; refine ov (v:=vsub 1 s1 0 x3) H C (Z.sliceH zab zae C C (X.s 0 C) hg4) λa H=>mv H C λa H=>nk<|W.ret<|?_; replace X:=X.takeS (j:=0) (M':=[D (vsub 1 s1 0 x3) (lsub x2 0 x3)]) C E90_len hg4 C; obtain rfl:=oj M; refine post1 H C (rkt C) ?_; exact ⟨vsub 1 s1 0 x3,C,X.noB⟩
def zaK (F:Nat) (x1:Bool) (x3:List Int):Option (Bool × (List Int)) :=
  (zbp F x3).bind λx5=>if (x5.length:Int)>(4096:Int) then (none) else (some (x1&&(decide ((x5.length:Int)>(0:Int))),x5))
theorem zaH (F:Nat) (x1:Bool) (s2:Value) (x3:List Int) (w0:World) (h_s2:slOK (hp w0) 90 1 s2 x3.length (encs E90 x3)) (r:Bool × (List Int)) (M:zaK F x1 x3=some r) :
    Ret P 35 #[B x1,s2] w0 (G:=Value) (λg1=>.tuple #[.agg #[B r.1,g1],I 0]) (λg1 w=>St w0 w (λk=>s2.ownBlock=some k) [] [D g1 r.2]):=by
 unfold zaK at M; refine roW Tryz.func35 C C C (λa H=>?_); have X:St w0 w0 (λk=>s2.ownBlock=some k) [] [D s2 x3]:=St.ownE h_s2 lnn (apAll_nil (q:=D s2 x3)); refine sg (l:=[0,1]) C<|O.alloc (cs:=#[B false,.slice none 0 0]) H X C C zac C<|?_; intro b4 w a hb4 X H; refine mv H C λa H=>nk<|sg (l:=[0,1,2]) C<|mv H C λa H=>?_; refine hb M λx5 hx5 M=>oc H C zfe (zbk F s2 x3 _ (X.slS (j:=1) C) x5 hx5) ?_; rintro s6 w Y a H; replace X:=X.cz Y 1 λ_ h=>h; refine mv H C λa H=>nk<|W.seq<|sg (l:=[0,1,2]) C<|mv H C λa H=>ov (v:=I (x5.length:Int)) H C (Z.lenE (e:=90) (by simpa using zab) C (X.s 0 C)) λa H=>ov H C (Z.gtr C C) λa H=>nk<|?_; refine W.ifdI H C (λhc7=>?_) (λhc7=>?_)
 ·nomatch hm_p M hc7
 ·replace M:=hm_n M hc7; refine W.skip<|ksq<|sg (l:=[0,1,2,3,4,5,6,7,8,9]) C<|mv2 H C C λa H=>?_; refine O.cutN (l₁:=[2,3,4,5]) (l₂:=_) (λa w=>Fr a 20 [] [(1,s6),(4,Pv b4 0),(5,I 0),(17,B (x1&&(decide ((x5.length:Int)>(0:Int)))))]∧St w0 w (λk=>s2.ownBlock=some k) [] [D s6 x5,pt b4 (Cs #[B false,.slice none 0 0] 30)]) C ?_ ?_
  ·rcases Bool.eq_false_or_eq_true (x1) with hb8 | hb8
   ·refine og H C hb8 (Z.move C) λa H=>og (v:=I (x5.length:Int)) H C hb8 (Z.lenE (e:=90) (by simpa using zab) C (X.s 0 C)) λa H=>og H C hb8 (Z.gtr C C) λa H=>?_; refine ov (v:=B (x1&&(decide ((x5.length:Int)>(0:Int))))) H C (Z.pick C C C (by rw [hb8]; rfl)) ?_; clear H a; intro a H; exact O.nil ⟨C,H.q C,X⟩
   ·refine sk H C hb8 λa H=>sk H C hb8 λa H=>sk H C hb8 λa H=>?_; refine ov (v:=B (x1&&(decide ((x5.length:Int)>(0:Int))))) H C (Z.pick C C C (by rw [hb8]; rfl)) ?_; clear H a; intro a H; exact O.nil ⟨C,H.q C,X⟩
  clear H X a; (try clear w); rintro a w ⟨H,X⟩; refine mv H C λa H=>?_; refine ov (v:=.agg #[B (x1&&(decide ((x5.length:Int)>(0:Int)))),s6]) H C (Z.buildS (cs':=#[B (x1&&(decide ((x5.length:Int)>(0:Int)))),s6]) zg0 zac C (by simp only [Instr.fill,(rdc (X.s 0 C))]; rfl)) ?_; clear H a; intro a H; refine ost 1 #[B (x1&&(decide ((x5.length:Int)>(0:Int)))),s6] H X C C C zaa C (occ C (occ (rdo (X.s 0 C)) C)) C (bl C) C ?_; intro w X; refine mv H C λa H=>nk<|W.ret<|?_; obtain rfl:=oj M; refine post2 H C (rkn (cs':=#[B (x1&&(decide ((x5.length:Int)>(0:Int)))),s6]) C zal zaa (X.p 1 C) (bl C) C) (rkt C) ?_; replace X:=X.sl [1]; exact ⟨s6,C,X.noB⟩
def zaZ (F:Nat) (x1:Int):Option (Bool × (List Int)) :=
  if x1<(0:Int) then (none) else ((zaK F (decide (x1<(0:Int))) ([u32.wrap (u64.wrap x1),u32.wrap (Int.fdiv (u64.wrap x1) (2^32))])).bind λx6=>some x6)
theorem zaN (F:Nat) (x1:Int) (w0:World) (r:Bool × (List Int)) (M:zaZ F x1=some r) :
    Ret P 16 #[I x1] w0 (G:=Value) (λg1=>.agg #[B r.1,g1]) (λg1 w=>St w0 w noX [] [D g1 r.2]):=by
 unfold zaZ at M; refine roW Tryz.func16 C C C (λa H=>?_); have X:St w0 w0 noX [] []:=Sbw lnn; refine sg (l:=[0]) C<|O.alloc (cs:=#[B false,.slice none 0 0]) H X C C zac C<|?_; intro b2 w a hb2 X H; refine nk<|sg (l:=[0,1,2]) C<|mv H C λa H=>ov (v:=Uv (u64.wrap x1)) H C (Z.conv zfg zaF C) λa H=>mv H C λa H=>nk<|W.seq<|sg (l:=[0,1]) C<|mv H C λa H=>ov H C (Z.lss C C) λa H=>?_; refine nk ?_; refine W.ifdI H C (λhc3=>?_) (λhc3=>?_)
 ·nomatch hm_p M hc3
 ·replace M:=hm_n M hc3; refine W.skip<|ksq<|sg (l:=[0,1,2,3,4,5,6,7,8,9,10,11,12,13,14]) C<|mv H C λa H=>ov H C (Z.lss C C) λa H=>mv H C λa H=>ov (v:=.int .u32 (u32.wrap (u64.wrap x1))) H C (Z.conv zaM za8 C) λa H=>mv H C λa H=>ov (v:=Uv (Int.fdiv (u64.wrap x1) (2^32))) H C (Z.shr (q:=32) C C (by decide)) λa H=>ov (v:=.int .u32 (u32.wrap (Int.fdiv (u64.wrap x1) (2^32)))) H C (Z.conv zaM za8 C) λa H=>?_; refine O.buildSlice (cs':=#[.int .u32 (u32.wrap (u64.wrap x1)),.int .u32 (u32.wrap (Int.fdiv (u64.wrap x1) (2^32)))]) (zs:=#[.int .u32 0,.int .u32 0]) H X C C zab zae zaE C C C C C ?_; intro b4 w a hb4 X H; replace X:=X.ptE (j:=0) (enc:=E90) (xs:=[u32.wrap (u64.wrap x1),u32.wrap (Int.fdiv (u64.wrap x1) (2^32))]) (N:=2) (M':=[D (.slice (some ⟨b4,0,none⟩) 2 2) ([u32.wrap (u64.wrap x1),u32.wrap (Int.fdiv (u64.wrap x1) (2^32))]),pt b2 (Cs #[B false,.slice none 0 0] 30)]) C C C C C C; obtain ⟨s5,hs5⟩:∃ v,v=(.slice (some ⟨b4,0,none⟩) 2 2:Value):=⟨_,C⟩; rw [← hs5] at H X; replace X:St w0 _ noX [] [D s5 ([u32.wrap (u64.wrap x1),u32.wrap (Int.fdiv (u64.wrap x1) (2^32))]),pt b2 (Cs #[B false,.slice none 0 0] 30)]:=X; refine hb M λx6 hx6 M=>oc H C zcw (zaH F (decide (x1<(0:Int))) s5 ([u32.wrap (u64.wrap x1),u32.wrap (Int.fdiv (u64.wrap x1) (2^32))]) _ (X.slS (j:=0) C) x6 hx6) ?_; rintro s7 w Y a H; replace X:=X.cz Y 0 λ_ h=>h; refine mv H C λa H=>ex H C C C λa H=>ex H C C C λa H=>O.alloc (cs:=#[B false,.slice none 0 0]) H X C C zac C<|?_; intro b8 w a hb8 X H; refine ost 0 #[B x6.1,s7] H X C C C zaa C (occ C (occ (rdo (X.s 1 C)) C)) C (bl C) C ?_; intro w X; refine mv H C λa H=>nk<|sg (l:=[0,1]) C<|ov H C (lN (cs':=#[B x6.1,s7]) A_30 C (X.p 0 C) C C) λa H=>ost 2 #[B x6.1,s7] H X C C C zaa C (occ C (occ (rdo (X.s 1 C)) C)) C (bl C) C<|?_; intro w X; refine nk ?_; replace X:=X.sl [0,1,1]; refine W.ret ?_; obtain rfl:=oj M; refine post1 H C (rkn (cs':=#[B x6.1,s7]) C zal zaa (X.p 1 C) (bl C) C) ?_; replace X:=X.sl [1]; exact ⟨s7,C,X.noB⟩
def zeh (F:Nat) :Option Unit :=
  some ()
def zcY (F:Nat) (x4:List Int) (x2 x6:Bool):Option Unit :=
  if (x6||((decide ((x4.length:Int)=(0:Int)))&&x2))=true then (none) else (zeh F)
def zcZ (F:Nat) (x4:List Int) (x2 x11:Bool):Option Unit :=
  zcY F x4 x2 x11
def zbw (F:Nat) (x2:Bool) (x4:List Int):Option Unit :=
  if (x4.length:Int)>(4096:Int) then (zcY F x4 x2 true) else (if (x4.length:Int)>(0:Int) then ((idx x4 (i64.wrap ((x4.length:Int)-1))).bind λx13=>zcZ F x4 x2 (decide (x13=(0:Int)))) else (zcZ F x4 x2 false))
theorem zbF (F b1:Nat) (x2:Bool) (s3:Value) (x4:List Int) (w0:World) (h_s3:rdEOK (hp w0) 1 E90 s3 x4) (h_b1:w0.heap[b1]? = some (.cells #[B x2,s3] 30 (0,0))) (r:Unit) (M:zbw F x2 x4=some r) :
    Ret P 32 #[.slice (some ⟨b1,0,none⟩) 1 1] w0 (G:=Unit) (λ_=>I 0) (λ_ w=>St w0 w noX [] []):=by
 unfold zbw at M; refine roW Tryz.func32 C C C (λa H=>?_); have X:St w0 w0 noX [E s3 x4,pW30 b1 x2 s3] []:=Sbw (lnc (lendRd h_s3) (lnc (lendPt h_b1) lnn)); refine sg (l:=[0]) C<|mv H C λa H=>nk<|?_; refine W.seqR (λa w=>Fr a 39 [] [(2,I 0)]∧St w0 w noX [E s3 x4,pW30 b1 x2 s3] []∧zeh F=some r) ?_ ?_
 ·refine sg (l:=[0,1,2]) C<|mv H C λa H=>ov (v:=I 1) H C (Z.len (e:=30) (by simpa using zaX) C) λa H=>mv H C λa H=>nk<|W.block<|?_; refine W.loopH (LH.step ?_); refine sg (l:=[0]) C<|ov H C (Z.lss (p:=0) (q:=1) C C) λa H=>nk<|W.seq<|W.if_tt H C<|W.skip<|ksq<|W.seq<|W.block<|sg (l:=[0,1,2,3]) C<|?_; refine ov H C (Z.indexSl (j:=0) (m:=0) zaX zaa C C C (by decide) C) λa H=>ov H C (Z.loadN (cs':=#[B x2,s3]) zal zaa C (X.bptAt (i:=1) C) (bl C) C) λa H=>O.alloc (cs:=#[B false,.slice none 0 0]) H X C C zac C<|?_; intro b5 w a hb5 X H; refine ost 0 #[B x2,s3] H X C C C zaa C (occ C (occ (rdo (X.b 0 C)) C)) C (bl C) C ?_; intro w X; refine nk<|sg (l:=[0,1,2,3]) C<|ov H C (Z.field zak C C) λa H=>ov (v:=s3) H C (Z.load1 zan C (X.p 0 C) C) λa H=>ov (v:=I (x4.length:Int)) H C (Z.lenE (e:=90) (by simpa using zab) C (X.b 0 C)) λa H=>mv H C λa H=>nk<|sg (l:=[0,1,2,3,4,5,6,7,8,9,10,11,12,13,14,15,16,17,18,19,20,21,22]) C<|mv H C λa H=>ov H C (Z.gtr C C) λa H=>?_; refine mv H C λa H=>?_; refine O.cutN (l₁:=[3,4,5,6,7,8,9,10,11,12,13,14]) (l₂:=_) (λa w=>∃ (x6:Bool),Fr a 39 [] [(2,I 0),(4,Pv b5 0),(5,I (x4.length:Int)),(6,.slice (some ⟨b1,0,none⟩) 1 1),(7,I 1),(8,I 0),(29,B x6)]∧St w0 w noX [E s3 x4,pW30 b1 x2 s3] [pW30 b5 x2 s3]∧zcY F x4 x2 x6=some r) C ?_ ?_
  ·rcases Bool.eq_false_or_eq_true (decide ((x4.length:Int)>(4096:Int))) with hb10 | hb10
   ·have hb10p:=of_decide_eq_true hb10; replace M:=hm_p M hb10p; refine sk H C hb10 λa H=>sk H C hb10 λa H=>sk H C hb10 λa H=>O.skipU H C C C C λa H=>O.skipU H C C C C λa H=>O.skipU H C C C C λa H=>O.skipU H C C C C λa H=>O.skipU H C C C C λa H=>O.skipU H C C C C λa H=>O.skipU H C C C C λa H=>?_; refine sk H C hb10 λa H=>?_; refine ov (v:=B true) H C (Z.pick C C C (by rw [hb10]; rfl)) ?_; clear H a; intro a H; exact O.nil ⟨C,true,H.q C,X,M⟩
   ·have hb10p:=of_decide_eq_false hb10; replace M:=hm_n M hb10p; refine og H C hb10 (Z.move C) λa H=>og H C hb10 (Z.gtr C C) λa H=>og H C hb10 (Z.move C) λa H=>?_; refine O.cutN (l₁:=[6,7,8,9,10,11,12,13]) (l₂:=_) (λa w=>∃ (x11:Bool),Fr a 39 [] [(2,I 0),(4,Pv b5 0),(5,I (x4.length:Int)),(6,.slice (some ⟨b1,0,none⟩) 1 1),(7,I 1),(8,I 0),(15,I (x4.length:Int)),(16,B (decide ((x4.length:Int)>(4096:Int)))),(17,B (decide ((x4.length:Int)>(4096:Int)))),(18,I (x4.length:Int)),(19,B (decide ((x4.length:Int)>(0:Int)))),(20,B (decide ((x4.length:Int)>(0:Int)))),(28,B x11)]∧St w0 w noX [E s3 x4,pW30 b1 x2 s3] [pW30 b5 x2 s3]∧zcZ F x4 x2 x11=some r) C ?_ ?_
    ·rcases Bool.eq_false_or_eq_true (decide ((x4.length:Int)>(0:Int))) with hb12 | hb12
     ·have hb12p:=of_decide_eq_true hb12; replace M:=hm_p M hb12p; refine og H C hb12 (Z.field zak C C) λa H=>og (v:=s3) H C hb12 (Z.load1 zan C (X.p 0 C) C) λa H=>og H C hb12 (Z.move C) λa H=>og H C hb12 (Z.sub C C) λa H=>?_; refine hb M λx13 hx13 M=>og H C hb12 (Z.ixE zab zae C C (X.b 0 C) hx13) λa H=>og H C hb12 (Z.ldE1 (o:=0) zar E90_len C (X.b 0 C) hx13 C C) λa H=>og H C hb12 (Z.eql C C) λa H=>?_; refine og (v:=B (decide (x13=(0:Int)))) H C hb10 (Z.pick C C C (by rw [hb12]; rfl)) ?_; clear H a; intro a H; exact O.nil ⟨C,decide (x13=(0:Int)),H.q C,X,M⟩
     ·have hb12p:=of_decide_eq_false hb12; replace M:=hm_n M hb12p; refine sk H C hb12 λa H=>sk H C hb12 λa H=>sk H C hb12 λa H=>sk H C hb12 λa H=>sk H C hb12 λa H=>sk H C hb12 λa H=>sk H C hb12 λa H=>?_; refine og (v:=B false) H C hb10 (Z.pick C C C (by rw [hb12]; rfl)) ?_; clear H a; intro a H; exact O.nil ⟨C,false,H.q C,X,M⟩
    clear H X M a; (try clear w); rintro a w ⟨x11,H,X,M⟩; unfold zcZ at M; refine ov (v:=B x11) H C (Z.pick C C C (by rw [hb10]; rfl)) ?_; clear H a; intro a H; exact O.nil ⟨C,x11,H.q C,X,M⟩
  clear H X M a; (try clear w); rintro a w ⟨x6,H,X,M⟩; unfold zcY at M; refine mv H C λa H=>?_; refine O.cutN (l₁:=[16,17,18,19,20,21,22]) (l₂:=_) (λa w=>Fr a 39 [] [(2,I 0),(6,.slice (some ⟨b1,0,none⟩) 1 1),(7,I 1),(8,I 0),(37,B (x6||((decide ((x4.length:Int)=(0:Int)))&&x2)))]∧St w0 w noX [E s3 x4,pW30 b1 x2 s3] [pW30 b5 x2 s3]) C ?_ ?_
  ·rcases Bool.eq_false_or_eq_true (x6) with hb7 | hb7
   ·refine sk H C hb7 λa H=>sk H C hb7 λa H=>sk H C hb7 λa H=>O.skipU H C C C C λa H=>O.skipU H C C C C λa H=>sk H C hb7 λa H=>?_; refine ov (v:=B (x6||((decide ((x4.length:Int)=(0:Int)))&&x2))) H C (Z.pick C C C (by rw [hb7]; rfl)) ?_; clear H a; intro a H; exact O.nil ⟨C,H.q C,X⟩
   ·refine og H C hb7 (Z.move C) λa H=>og H C hb7 (Z.eql C C) λa H=>og H C hb7 (Z.move C) λa H=>?_; refine O.cutN (l₁:=[19,20,21]) (l₂:=_) (λa w=>Fr a 39 [] [(2,I 0),(4,Pv b5 0),(5,I (x4.length:Int)),(6,.slice (some ⟨b1,0,none⟩) 1 1),(7,I 1),(8,I 0),(29,B x6),(30,B x6),(31,I (x4.length:Int)),(32,B (decide ((x4.length:Int)=(0:Int)))),(33,B (decide ((x4.length:Int)=(0:Int)))),(36,B ((decide ((x4.length:Int)=(0:Int)))&&x2))]∧St w0 w noX [E s3 x4,pW30 b1 x2 s3] [pW30 b5 x2 s3]) C ?_ ?_
    ·rcases Bool.eq_false_or_eq_true (decide ((x4.length:Int)=(0:Int))) with hb8 | hb8
     ·refine og H C hb8 (Z.field zao C C) λa H=>og H C hb8 (Z.load1 zav C (X.p 0 C) C) λa H=>?_; refine og (v:=B ((decide ((x4.length:Int)=(0:Int)))&&x2)) H C hb7 (Z.pick C C C (by rw [hb8]; rfl)) ?_; clear H a; intro a H; exact O.nil ⟨C,H.q C,X⟩
     ·refine sk H C hb8 λa H=>sk H C hb8 λa H=>?_; refine og (v:=B ((decide ((x4.length:Int)=(0:Int)))&&x2)) H C hb7 (Z.pick C C C (by rw [hb8]; rfl)) ?_; clear H a; intro a H; exact O.nil ⟨C,H.q C,X⟩
    clear H X a; (try clear w); rintro a w ⟨H,X⟩; refine ov (v:=B (x6||((decide ((x4.length:Int)=(0:Int)))&&x2))) H C (Z.pick C C C (by rw [hb7]; rfl)) ?_; clear H a; intro a H; exact O.nil ⟨C,H.q C,X⟩
  clear H X a; (try clear w); rintro a w ⟨H,X⟩; refine nk ?_; replace X:=X.s0; refine W.if_ H C (λhc9=>?_) (λhc9=>?_)
  ·nomatch hm_t M hc9
  ·replace M:=hm_f M hc9; refine W.skip<|kbn<|ksq<|wrL (l:=[0,1]) C<|ov H C (Z.add (p:=0) (q:=1) C C) λa H=>mv H C λa H=>O.nil<|?_; refine kth (LH.step ?_); refine sg (l:=[0]) C<|ov H C (Z.lss (p:=1) (q:=1) C C) λa H=>nk<|W.seq<|W.if_ff H C<|W.exit<|kte<|kte<|kbk<|?_; exact kth ⟨H.q C,X,M⟩
 ·clear H X M a; (try clear w); rintro a w ⟨H,X,M⟩; unfold zeh at M; refine sg (l:=[0]) C<|mv H C λa H=>nk<|W.ret<|?_; obtain rfl:=oj M; refine post1 H C (rkt C) ?_; exact ⟨(),C,X.noB⟩
def zcm (F:Nat) (x6 x7:Int):Option Int :=
  (strIdx strc1 (IntKind.u8.wrap x6)).bind λx8=>(some (i64.wrap (x7+(i64.wrap x8)))).bind λx9=>some x9
def zcn (F:Nat) (x4 x5:Int):Option Int :=
  if x4≥(256:Int) then (zcm F (Int.fdiv x4 (2^8)) (i64.wrap (x5+8))) else (zcm F x4 x5)
def zco (F:Nat) (x2 x3:Int):Option Int :=
  if x2≥(65536:Int) then (zcn F (Int.fdiv x2 (2^16)) (i64.wrap (x3+16))) else (zcn F x2 x3)
def zdf (F:Nat) (x1:Int):Option Int :=
  if x1≥(4294967296:Int) then (zco F (Int.fdiv x1 (2^32)) 32) else (zco F x1 0)
theorem zfj (F:Nat) (x1:Int) (w0:World) (r:Int) (M:zdf F x1=some r) :
    Ret P 63 #[Uv x1] w0 (G:=Unit) (λ_=>I r) (λ_ w=>St w0 w noX [] []):=by
 unfold zdf at M; refine roW Tryz.func63 C C C (λa H=>?_); have X:St w0 w0 noX [] []:=Sbw lnn; refine sg (l:=[0]) C<|mv H C λa H=>nk<|?_; refine W.seqR (λa w=>∃ (x2:Int) (x3:Int),Fr a 25 [] [(0,Uv x2),(2,I x3)]∧St w0 w noX [] []∧zco F x2 x3=some r) ?_ ?_
 ·refine sg (l:=[0,1]) C<|mv H C λa H=>ov H C (Z.geq C C) λa H=>nk<|?_; refine W.ifdI H C (λhc12=>?_) (λhc12=>?_)
  ·replace M:=hm_p M hc12; refine sg (l:=[0,1,2]) C<|mv H C λa H=>ov (v:=Uv (Int.fdiv x1 (2^32))) H C (Z.shr (q:=32) C C (by decide)) λa H=>mv H C λa H=>nk<|wrL (l:=[0]) C<|mv H C λa H=>O.nil<|?_; exact kth ⟨Int.fdiv x1 (2^32),32,H.q C,X,M⟩
  ·replace M:=hm_n M hc12; refine W.skip ?_; exact kth ⟨x1,0,H.q C,X,M⟩
 ·clear H X M a; (try clear w); rintro a w ⟨x2,x3,H,X,M⟩; unfold zco at M; refine W.seqR (λa w=>∃ (x4:Int) (x5:Int),Fr a 25 [] [(0,Uv x4),(2,I x5)]∧St w0 w noX [] []∧zcn F x4 x5=some r) ?_ ?_
  ·refine sg (l:=[0,1]) C<|mv H C λa H=>ov H C (Z.geq C C) λa H=>nk<|?_; refine W.ifdI H C (λhc11=>?_) (λhc11=>?_)
   ·replace M:=hm_p M hc11; refine sg (l:=[0,1,2]) C<|mv H C λa H=>ov (v:=Uv (Int.fdiv x2 (2^16))) H C (Z.shr (q:=16) C C (by decide)) λa H=>mv H C λa H=>nk<|wrL (l:=[0,1,2]) C<|mv H C λa H=>ov H C (Z.add C C) λa H=>mv H C λa H=>O.nil<|?_; exact kth ⟨Int.fdiv x2 (2^16),i64.wrap (x3+16),H.q C,X,M⟩
   ·replace M:=hm_n M hc11; refine W.skip ?_; exact kth ⟨x2,x3,H.q C,X,M⟩
  ·clear H X M a; (try clear w); rintro a w ⟨x4,x5,H,X,M⟩; unfold zcn at M; refine W.seqR (λa w=>∃ (x6:Int) (x7:Int),Fr a 25 [] [(0,Uv x6),(2,I x7)]∧St w0 w noX [] []∧zcm F x6 x7=some r) ?_ ?_
   ·refine sg (l:=[0,1]) C<|mv H C λa H=>ov H C (Z.geq C C) λa H=>nk<|?_; refine W.ifdI H C (λhc10=>?_) (λhc10=>?_)
    ·replace M:=hm_p M hc10; refine sg (l:=[0,1,2]) C<|mv H C λa H=>ov (v:=Uv (Int.fdiv x4 (2^8))) H C (Z.shr (q:=8) C C (by decide)) λa H=>mv H C λa H=>nk<|wrL (l:=[0,1,2]) C<|mv H C λa H=>ov H C (Z.add C C) λa H=>mv H C λa H=>O.nil<|?_; exact kth ⟨Int.fdiv x4 (2^8),i64.wrap (x5+8),H.q C,X,M⟩
    ·replace M:=hm_n M hc10; refine W.skip ?_; exact kth ⟨x4,x5,H.q C,X,M⟩
   ·clear H X M a; (try clear w); rintro a w ⟨x6,x7,H,X,M⟩; unfold zcm at M; refine sg (l:=[0,1,2,3,4,5,6]) C<|mv2 H C C λa H=>ov (v:=.int .u8 (IntKind.u8.wrap x6)) H C (Z.conv zaM zjh C) λa H=>?_; refine hb M λx8 hx8 M=>ov H C (Z.indexStr zhi C C hx8) λa H=>ov (v:=I (i64.wrap x8)) H C (Z.conv zjj zjg C) λa H=>ov H C (Z.add C C) λa H=>mv H C λa H=>nk<|?_; obtain ⟨x9,hx9,M⟩:=hm_b M; rw [oj hx9] at H; refine W.ret ?_; obtain rfl:=oj M; refine post1 H C (rkt C) ?_; exact ⟨(),C,X.noB⟩
def zfk (F:Nat) (x1:Int):Option Int :=
  (zdf F x1).bind λx2=>some x2
theorem zhI (F:Nat) (x1:Int) (w0:World) (r:Int) (M:zfk F x1=some r) :
    Ret P 33 #[Uv x1] w0 (G:=Unit) (λ_=>I r) (λ_ w=>St w0 w noX [] []):=by
 unfold zfk at M; refine roW Tryz.func33 C C C (λa H=>?_); have X:St w0 w0 noX [] []:=Sbw lnn; refine sg (l:=[0]) C<|mv H C λa H=>nk<|W.seq<|W.if_ff H C<|W.skip<|ksq<|sg (l:=[0,1,2]) C<|mv H C λa H=>?_; refine hb M λx2 hx2 M=>oq H X C zjd (zfj F x1 _ x2 hx2) ?_; rintro _ w X a H; refine mv H C λa H=>nk<|W.ret<|?_; obtain rfl:=oj M; refine post1 H C (rkt C) ?_; exact ⟨(),C,X.noB⟩
def zei (F:Nat) :Option Unit :=
  some ()
def zc0 (F:Nat) (x7:List Int) (x5 x14:Bool):Option Unit :=
  if (x14||((decide ((x7.length:Int)=(0:Int)))&&x5))=true then (none) else (zei F)
def zc1 (F:Nat) (x7:List Int) (x5 x19:Bool):Option Unit :=
  zc0 F x7 x5 x19
def zc2 (F:Nat) (x4:List Int) (x2:Bool) (x7:List Int) (x5 x9:Bool):Option Unit :=
  if (x9||((decide ((x4.length:Int)=(0:Int)))&&x2))=true then (none) else (if (x7.length:Int)>(4096:Int) then (zc0 F x7 x5 true) else (if (x7.length:Int)>(0:Int) then ((idx x7 (i64.wrap ((x7.length:Int)-1))).bind λx21=>zc1 F x7 x5 (decide (x21=(0:Int)))) else (zc1 F x7 x5 false)))
def zc3 (F:Nat) (x4:List Int) (x2:Bool) (x7:List Int) (x5 x23:Bool):Option Unit :=
  zc2 F x4 x2 x7 x5 x23
def zbx (F:Nat) (x2:Bool) (x4:List Int) (x5:Bool) (x7:List Int):Option Unit :=
  if (x4.length:Int)>(4096:Int) then (zc2 F x4 x2 x7 x5 true) else (if (x4.length:Int)>(0:Int) then ((idx x4 (i64.wrap ((x4.length:Int)-1))).bind λx25=>zc3 F x4 x2 x7 x5 (decide (x25=(0:Int)))) else (zc3 F x4 x2 x7 x5 false))
theorem zbG (F b1:Nat) (x2:Bool) (s3:Value) (x4:List Int) (x5:Bool) (s6:Value) (x7:List Int) (w0:World) (h_s3:rdEOK (hp w0) 1 E90 s3 x4) (h_s6:rdEOK (hp w0) 1 E90 s6 x7) (h_b1:w0.heap[b1]? = some (.cells #[B x2,s3,B x5,s6] 30 (0,0))) (r:Unit) (M:zbx F x2 x4 x5 x7=some r) :
    Ret P 32 #[.slice (some ⟨b1,0,none⟩) 2 2] w0 (G:=Unit) (λ_=>I 0) (λ_ w=>St w0 w noX [] []):=by
 unfold zbx at M; refine roW Tryz.func32 C C C (λa H=>?_); have X:St w0 w0 noX [E s3 x4,E s6 x7,pt b1 (Cs #[B x2,s3,B x5,s6] 30)] []:=Sbw (lnc (lendRd h_s3) (lnc (lendRd h_s6) (lnc (lendPt h_b1) lnn))); refine sg (l:=[0]) C<|mv H C λa H=>nk<|?_; refine W.seqR (λa w=>Fr a 39 [] [(2,I 0)]∧St w0 w noX [E s3 x4,E s6 x7,pt b1 (Cs #[B x2,s3,B x5,s6] 30)] []∧zei F=some r) ?_ ?_
 ·refine sg (l:=[0,1,2]) C<|mv H C λa H=>ov (v:=I 2) H C (Z.len (e:=30) (by simpa using zaX) C) λa H=>mv H C λa H=>nk<|W.block<|?_; refine W.loopH (LH.step ?_); refine sg (l:=[0]) C<|ov H C (Z.lss (p:=0) (q:=2) C C) λa H=>nk<|W.seq<|W.if_tt H C<|W.skip<|ksq<|W.seq<|W.block<|sg (l:=[0,1,2,3]) C<|?_; refine ov H C (Z.indexSl (j:=0) (m:=0) zaX zaa C C C (by decide) C) λa H=>ov H C (Z.loadN (cs':=#[B x2,s3]) zal zaa C (X.bptAt (i:=2) C) (bl C) C) λa H=>O.alloc (cs:=#[B false,.slice none 0 0]) H X C C zac C<|?_; intro b8 w a hb8 X H; refine ost 0 #[B x2,s3] H X C C C zaa C (occ C (occ (rdo (X.b 0 C)) C)) C (bl C) C ?_; intro w X; refine nk<|sg (l:=[0,1,2,3]) C<|ov H C (Z.field zak C C) λa H=>ov (v:=s3) H C (Z.load1 zan C (X.p 0 C) C) λa H=>ov (v:=I (x4.length:Int)) H C (Z.lenE (e:=90) (by simpa using zab) C (X.b 0 C)) λa H=>mv H C λa H=>nk<|sg (l:=[0,1,2,3,4,5,6,7,8,9,10,11,12,13,14,15,16,17,18,19,20,21,22]) C<|mv H C λa H=>ov H C (Z.gtr C C) λa H=>?_; refine mv H C λa H=>?_; refine O.cutN (l₁:=[3,4,5,6,7,8,9,10,11,12,13,14]) (l₂:=_) (λa w=>∃ (x9:Bool),Fr a 39 [] [(2,I 0),(4,Pv b8 0),(5,I (x4.length:Int)),(6,.slice (some ⟨b1,0,none⟩) 2 2),(7,I 2),(8,I 0),(29,B x9)]∧St w0 w noX [E s3 x4,E s6 x7,pt b1 (Cs #[B x2,s3,B x5,s6] 30)] [pW30 b8 x2 s3]∧zc2 F x4 x2 x7 x5 x9=some r) C ?_ ?_
  ·rcases Bool.eq_false_or_eq_true (decide ((x4.length:Int)>(4096:Int))) with hb22 | hb22
   ·have hb22p:=of_decide_eq_true hb22; replace M:=hm_p M hb22p; refine sk H C hb22 λa H=>sk H C hb22 λa H=>sk H C hb22 λa H=>O.skipU H C C C C λa H=>O.skipU H C C C C λa H=>O.skipU H C C C C λa H=>O.skipU H C C C C λa H=>O.skipU H C C C C λa H=>O.skipU H C C C C λa H=>O.skipU H C C C C λa H=>?_; refine sk H C hb22 λa H=>?_; refine ov (v:=B true) H C (Z.pick C C C (by rw [hb22]; rfl)) ?_; clear H a; intro a H; exact O.nil ⟨C,true,H.q C,X,M⟩
   ·have hb22p:=of_decide_eq_false hb22; replace M:=hm_n M hb22p; refine og H C hb22 (Z.move C) λa H=>og H C hb22 (Z.gtr C C) λa H=>og H C hb22 (Z.move C) λa H=>?_; refine O.cutN (l₁:=[6,7,8,9,10,11,12,13]) (l₂:=_) (λa w=>∃ (x23:Bool),Fr a 39 [] [(2,I 0),(4,Pv b8 0),(5,I (x4.length:Int)),(6,.slice (some ⟨b1,0,none⟩) 2 2),(7,I 2),(8,I 0),(15,I (x4.length:Int)),(16,B (decide ((x4.length:Int)>(4096:Int)))),(17,B (decide ((x4.length:Int)>(4096:Int)))),(18,I (x4.length:Int)),(19,B (decide ((x4.length:Int)>(0:Int)))),(20,B (decide ((x4.length:Int)>(0:Int)))),(28,B x23)]∧St w0 w noX [E s3 x4,E s6 x7,pt b1 (Cs #[B x2,s3,B x5,s6] 30)] [pW30 b8 x2 s3]∧zc3 F x4 x2 x7 x5 x23=some r) C ?_ ?_
    ·rcases Bool.eq_false_or_eq_true (decide ((x4.length:Int)>(0:Int))) with hb24 | hb24
     ·have hb24p:=of_decide_eq_true hb24; replace M:=hm_p M hb24p; refine og H C hb24 (Z.field zak C C) λa H=>og (v:=s3) H C hb24 (Z.load1 zan C (X.p 0 C) C) λa H=>og H C hb24 (Z.move C) λa H=>og H C hb24 (Z.sub C C) λa H=>?_; refine hb M λx25 hx25 M=>og H C hb24 (Z.ixE zab zae C C (X.b 0 C) hx25) λa H=>og H C hb24 (Z.ldE1 (o:=0) zar E90_len C (X.b 0 C) hx25 C C) λa H=>og H C hb24 (Z.eql C C) λa H=>?_; refine og (v:=B (decide (x25=(0:Int)))) H C hb22 (Z.pick C C C (by rw [hb24]; rfl)) ?_; clear H a; intro a H; exact O.nil ⟨C,decide (x25=(0:Int)),H.q C,X,M⟩
     ·have hb24p:=of_decide_eq_false hb24; replace M:=hm_n M hb24p; refine sk H C hb24 λa H=>sk H C hb24 λa H=>sk H C hb24 λa H=>sk H C hb24 λa H=>sk H C hb24 λa H=>sk H C hb24 λa H=>sk H C hb24 λa H=>?_; refine og (v:=B false) H C hb22 (Z.pick C C C (by rw [hb24]; rfl)) ?_; clear H a; intro a H; exact O.nil ⟨C,false,H.q C,X,M⟩
    clear H X M a; (try clear w); rintro a w ⟨x23,H,X,M⟩; unfold zc3 at M; refine ov (v:=B x23) H C (Z.pick C C C (by rw [hb22]; rfl)) ?_; clear H a; intro a H; exact O.nil ⟨C,x23,H.q C,X,M⟩
  clear H X M a; (try clear w); rintro a w ⟨x9,H,X,M⟩; unfold zc2 at M; refine mv H C λa H=>?_; refine O.cutN (l₁:=[16,17,18,19,20,21,22]) (l₂:=_) (λa w=>Fr a 39 [] [(2,I 0),(6,.slice (some ⟨b1,0,none⟩) 2 2),(7,I 2),(8,I 0),(37,B (x9||((decide ((x4.length:Int)=(0:Int)))&&x2)))]∧St w0 w noX [E s3 x4,E s6 x7,pt b1 (Cs #[B x2,s3,B x5,s6] 30)] [pW30 b8 x2 s3]) C ?_ ?_
  ·rcases Bool.eq_false_or_eq_true (x9) with hb10 | hb10
   ·refine sk H C hb10 λa H=>sk H C hb10 λa H=>sk H C hb10 λa H=>O.skipU H C C C C λa H=>O.skipU H C C C C λa H=>sk H C hb10 λa H=>?_; refine ov (v:=B (x9||((decide ((x4.length:Int)=(0:Int)))&&x2))) H C (Z.pick C C C (by rw [hb10]; rfl)) ?_; clear H a; intro a H; exact O.nil ⟨C,H.q C,X⟩
   ·refine og H C hb10 (Z.move C) λa H=>og H C hb10 (Z.eql C C) λa H=>og H C hb10 (Z.move C) λa H=>?_; refine O.cutN (l₁:=[19,20,21]) (l₂:=_) (λa w=>Fr a 39 [] [(2,I 0),(4,Pv b8 0),(5,I (x4.length:Int)),(6,.slice (some ⟨b1,0,none⟩) 2 2),(7,I 2),(8,I 0),(29,B x9),(30,B x9),(31,I (x4.length:Int)),(32,B (decide ((x4.length:Int)=(0:Int)))),(33,B (decide ((x4.length:Int)=(0:Int)))),(36,B ((decide ((x4.length:Int)=(0:Int)))&&x2))]∧St w0 w noX [E s3 x4,E s6 x7,pt b1 (Cs #[B x2,s3,B x5,s6] 30)] [pW30 b8 x2 s3]) C ?_ ?_
    ·rcases Bool.eq_false_or_eq_true (decide ((x4.length:Int)=(0:Int))) with hb11 | hb11
     ·refine og H C hb11 (Z.field zao C C) λa H=>og H C hb11 (Z.load1 zav C (X.p 0 C) C) λa H=>?_; refine og (v:=B ((decide ((x4.length:Int)=(0:Int)))&&x2)) H C hb10 (Z.pick C C C (by rw [hb11]; rfl)) ?_; clear H a; intro a H; exact O.nil ⟨C,H.q C,X⟩
     ·refine sk H C hb11 λa H=>sk H C hb11 λa H=>?_; refine og (v:=B ((decide ((x4.length:Int)=(0:Int)))&&x2)) H C hb10 (Z.pick C C C (by rw [hb11]; rfl)) ?_; clear H a; intro a H; exact O.nil ⟨C,H.q C,X⟩
    clear H X a; (try clear w); rintro a w ⟨H,X⟩; refine ov (v:=B (x9||((decide ((x4.length:Int)=(0:Int)))&&x2))) H C (Z.pick C C C (by rw [hb10]; rfl)) ?_; clear H a; intro a H; exact O.nil ⟨C,H.q C,X⟩
  clear H X a; (try clear w); rintro a w ⟨H,X⟩; refine nk ?_; replace X:=X.s0; refine W.if_ H C (λhc12=>?_) (λhc12=>?_)
  ·nomatch hm_t M hc12
  ·replace M:=hm_f M hc12; refine W.skip<|kbn<|ksq<|wrL (l:=[0,1]) C<|ov H C (Z.add (p:=0) (q:=1) C C) λa H=>mv H C λa H=>O.nil<|?_; refine kth (LH.step ?_); refine sg (l:=[0]) C<|ov H C (Z.lss (p:=1) (q:=2) C C) λa H=>nk<|W.seq<|W.if_tt H C<|W.skip<|ksq<|W.seq<|W.block<|sg (l:=[0,1,2,3]) C<|?_; refine ov H C (Z.indexSl (j:=1) (m:=2) zaX zaa C C C (by decide) C) λa H=>ov H C (Z.loadN (cs':=#[B x5,s6]) zal zaa C (X.bptAt (i:=2) C) (bl C) C) λa H=>O.alloc (cs:=#[B false,.slice none 0 0]) H X C C zac C<|?_; intro b13 w a hb13 X H; refine ost 0 #[B x5,s6] H X C C C zaa C (occ C (occ (rdo (X.b 1 C)) C)) C (bl C) C ?_; intro w X; refine nk<|sg (l:=[0,1,2,3]) C<|ov H C (Z.field zak C C) λa H=>ov (v:=s6) H C (Z.load1 zan C (X.p 0 C) C) λa H=>ov (v:=I (x7.length:Int)) H C (Z.lenE (e:=90) (by simpa using zab) C (X.b 1 C)) λa H=>mv H C λa H=>nk<|sg (l:=[0,1,2,3,4,5,6,7,8,9,10,11,12,13,14,15,16,17,18,19,20,21,22]) C<|mv H C λa H=>ov H C (Z.gtr C C) λa H=>?_; refine mv H C λa H=>?_; refine O.cutN (l₁:=[3,4,5,6,7,8,9,10,11,12,13,14]) (l₂:=_) (λa w=>∃ (x14:Bool),Fr a 39 [] [(2,I 0),(4,Pv b13 0),(5,I (x7.length:Int)),(6,.slice (some ⟨b1,0,none⟩) 2 2),(7,I 2),(8,I 1),(29,B x14)]∧St w0 w noX [E s3 x4,E s6 x7,pt b1 (Cs #[B x2,s3,B x5,s6] 30)] [pW30 b13 x5 s6]∧zc0 F x7 x5 x14=some r) C ?_ ?_
   ·rcases Bool.eq_false_or_eq_true (decide ((x7.length:Int)>(4096:Int))) with hb18 | hb18
    ·have hb18p:=of_decide_eq_true hb18; replace M:=hm_p M hb18p; refine sk H C hb18 λa H=>sk H C hb18 λa H=>sk H C hb18 λa H=>O.skipU H C C C C λa H=>O.skipU H C C C C λa H=>O.skipU H C C C C λa H=>O.skipU H C C C C λa H=>O.skipU H C C C C λa H=>O.skipU H C C C C λa H=>O.skipU H C C C C λa H=>?_; refine sk H C hb18 λa H=>?_; refine ov (v:=B true) H C (Z.pick C C C (by rw [hb18]; rfl)) ?_; clear H a; intro a H; exact O.nil ⟨C,true,H.q C,X,M⟩
    ·have hb18p:=of_decide_eq_false hb18; replace M:=hm_n M hb18p; refine og H C hb18 (Z.move C) λa H=>og H C hb18 (Z.gtr C C) λa H=>og H C hb18 (Z.move C) λa H=>?_; refine O.cutN (l₁:=[6,7,8,9,10,11,12,13]) (l₂:=_) (λa w=>∃ (x19:Bool),Fr a 39 [] [(2,I 0),(4,Pv b13 0),(5,I (x7.length:Int)),(6,.slice (some ⟨b1,0,none⟩) 2 2),(7,I 2),(8,I 1),(15,I (x7.length:Int)),(16,B (decide ((x7.length:Int)>(4096:Int)))),(17,B (decide ((x7.length:Int)>(4096:Int)))),(18,I (x7.length:Int)),(19,B (decide ((x7.length:Int)>(0:Int)))),(20,B (decide ((x7.length:Int)>(0:Int)))),(28,B x19)]∧St w0 w noX [E s3 x4,E s6 x7,pt b1 (Cs #[B x2,s3,B x5,s6] 30)] [pW30 b13 x5 s6]∧zc1 F x7 x5 x19=some r) C ?_ ?_
     ·rcases Bool.eq_false_or_eq_true (decide ((x7.length:Int)>(0:Int))) with hb20 | hb20
      ·have hb20p:=of_decide_eq_true hb20; replace M:=hm_p M hb20p; refine og H C hb20 (Z.field zak C C) λa H=>og (v:=s6) H C hb20 (Z.load1 zan C (X.p 0 C) C) λa H=>og H C hb20 (Z.move C) λa H=>og H C hb20 (Z.sub C C) λa H=>?_; refine hb M λx21 hx21 M=>og H C hb20 (Z.ixE zab zae C C (X.b 1 C) hx21) λa H=>og H C hb20 (Z.ldE1 (o:=0) zar E90_len C (X.b 1 C) hx21 C C) λa H=>og H C hb20 (Z.eql C C) λa H=>?_; refine og (v:=B (decide (x21=(0:Int)))) H C hb18 (Z.pick C C C (by rw [hb20]; rfl)) ?_; clear H a; intro a H; exact O.nil ⟨C,decide (x21=(0:Int)),H.q C,X,M⟩
      ·have hb20p:=of_decide_eq_false hb20; replace M:=hm_n M hb20p; refine sk H C hb20 λa H=>sk H C hb20 λa H=>sk H C hb20 λa H=>sk H C hb20 λa H=>sk H C hb20 λa H=>sk H C hb20 λa H=>sk H C hb20 λa H=>?_; refine og (v:=B false) H C hb18 (Z.pick C C C (by rw [hb20]; rfl)) ?_; clear H a; intro a H; exact O.nil ⟨C,false,H.q C,X,M⟩
     clear H X M a; (try clear w); rintro a w ⟨x19,H,X,M⟩; unfold zc1 at M; refine ov (v:=B x19) H C (Z.pick C C C (by rw [hb18]; rfl)) ?_; clear H a; intro a H; exact O.nil ⟨C,x19,H.q C,X,M⟩
   clear H X M a; (try clear w); rintro a w ⟨x14,H,X,M⟩; unfold zc0 at M; refine mv H C λa H=>?_; refine O.cutN (l₁:=[16,17,18,19,20,21,22]) (l₂:=_) (λa w=>Fr a 39 [] [(2,I 0),(6,.slice (some ⟨b1,0,none⟩) 2 2),(7,I 2),(8,I 1),(37,B (x14||((decide ((x7.length:Int)=(0:Int)))&&x5)))]∧St w0 w noX [E s3 x4,E s6 x7,pt b1 (Cs #[B x2,s3,B x5,s6] 30)] [pW30 b13 x5 s6]) C ?_ ?_
   ·rcases Bool.eq_false_or_eq_true (x14) with hb15 | hb15
    ·refine sk H C hb15 λa H=>sk H C hb15 λa H=>sk H C hb15 λa H=>O.skipU H C C C C λa H=>O.skipU H C C C C λa H=>sk H C hb15 λa H=>?_; refine ov (v:=B (x14||((decide ((x7.length:Int)=(0:Int)))&&x5))) H C (Z.pick C C C (by rw [hb15]; rfl)) ?_; clear H a; intro a H; exact O.nil ⟨C,H.q C,X⟩
    ·refine og H C hb15 (Z.move C) λa H=>og H C hb15 (Z.eql C C) λa H=>og H C hb15 (Z.move C) λa H=>?_; refine O.cutN (l₁:=[19,20,21]) (l₂:=_) (λa w=>Fr a 39 [] [(2,I 0),(4,Pv b13 0),(5,I (x7.length:Int)),(6,.slice (some ⟨b1,0,none⟩) 2 2),(7,I 2),(8,I 1),(29,B x14),(30,B x14),(31,I (x7.length:Int)),(32,B (decide ((x7.length:Int)=(0:Int)))),(33,B (decide ((x7.length:Int)=(0:Int)))),(36,B ((decide ((x7.length:Int)=(0:Int)))&&x5))]∧St w0 w noX [E s3 x4,E s6 x7,pt b1 (Cs #[B x2,s3,B x5,s6] 30)] [pW30 b13 x5 s6]) C ?_ ?_
     ·rcases Bool.eq_false_or_eq_true (decide ((x7.length:Int)=(0:Int))) with hb16 | hb16
      ·refine og H C hb16 (Z.field zao C C) λa H=>og H C hb16 (Z.load1 zav C (X.p 0 C) C) λa H=>?_; refine og (v:=B ((decide ((x7.length:Int)=(0:Int)))&&x5)) H C hb15 (Z.pick C C C (by rw [hb16]; rfl)) ?_; clear H a; intro a H; exact O.nil ⟨C,H.q C,X⟩
      ·refine sk H C hb16 λa H=>sk H C hb16 λa H=>?_; refine og (v:=B ((decide ((x7.length:Int)=(0:Int)))&&x5)) H C hb15 (Z.pick C C C (by rw [hb16]; rfl)) ?_; clear H a; intro a H; exact O.nil ⟨C,H.q C,X⟩
     clear H X a; (try clear w); rintro a w ⟨H,X⟩; refine ov (v:=B (x14||((decide ((x7.length:Int)=(0:Int)))&&x5))) H C (Z.pick C C C (by rw [hb15]; rfl)) ?_; clear H a; intro a H; exact O.nil ⟨C,H.q C,X⟩
   clear H X a; (try clear w); rintro a w ⟨H,X⟩; refine nk ?_; replace X:=X.s0; refine W.if_ H C (λhc17=>?_) (λhc17=>?_)
   ·nomatch hm_t M hc17
   ·replace M:=hm_f M hc17; refine W.skip<|kbn<|ksq<|wrL (l:=[0,1]) C<|ov H C (Z.add (p:=1) (q:=1) C C) λa H=>mv H C λa H=>O.nil<|?_; refine kth (LH.step ?_); refine sg (l:=[0]) C<|ov H C (Z.lss (p:=2) (q:=2) C C) λa H=>nk<|W.seq<|W.if_ff H C<|W.exit<|kte<|kte<|kbk<|?_; exact kth ⟨H.q C,X,M⟩
 ·clear H X M a; (try clear w); rintro a w ⟨H,X,M⟩; unfold zei at M; refine sg (l:=[0]) C<|mv H C λa H=>nk<|W.ret<|?_; obtain rfl:=oj M; refine post1 H C (rkt C) ?_; exact ⟨(),C,X.noB⟩
def zdZ (F:Nat) (x7:List Int):Option (List Int) :=
  some x7
def zd0 (F:Nat) (rec10:(List Int)→Int→Option (List Int)) (x9:Int) (x12:List Int) (x13 x14:Int):Option (List Int) :=
  rec10 x12 (i64.wrap (x9+1))
def zc4 (F:Nat) (x9:Int) (x4:List Int) (rec10:(List Int)→Int→Option (List Int)) (x16:List Int) (x17 x18:Int):Option (List Int) :=
  (idx x16 (i64.wrap (x9+(x4.length:Int)))).bind λx19=>zd0 F rec10 x9 (x16.set (Int.toNat (i64.wrap (x9+(x4.length:Int)))) (u32.wrap x17)) x17 x18
def zbJ (F:Nat) (x4:List Int) (x9 x15:Int) (rec10:(List Int)→Int→Option (List Int)) (rec23:(List Int)→Int→Int→Option (List Int)) (x20:List Int) (x21 x22:Int):Option (List Int) :=
  if x22<((x4.length:Int):Int) then ((idx x4 x22).bind λx25=>(idx x20 (i64.wrap (x9+x22))).bind λx26=>(some (u64.wrap (x21+(u64.wrap ((u64.wrap ((u64.wrap x15)*(u64.wrap x25)))+(u64.wrap x26)))))).bind λx27=>rec23 (x20.set (Int.toNat (i64.wrap (x9+x22))) (u32.wrap x27)) (Int.fdiv x27 (2^32)) (i64.wrap (x22+1))) else (zc4 F x9 x4 rec10 x20 x21 x22)
def za5 (F:Nat) (x4:List Int) (x9 x15:Int) (rec10:(List Int)→Int→Option (List Int)):Nat→(List Int)→Int→Int→Option (List Int)
  | 0,_,_,_=>none
  | n+1,x20,x21,x22=>zbJ F x4 x9 x15 rec10 (za5 F x4 x9 x15 rec10 n) x20 x21 x22
def zbK (F:Nat) (x2 x4:List Int) (rec10:(List Int)→Int→Option (List Int)) (x8:List Int) (x9:Int):Option (List Int) :=
  if x9<((x2.length:Int):Int) then ((idx x2 x9).bind λx15=>za5 F x4 x9 x15 rec10 F x8 0 0) else (zdZ F x8)
def zaY (F:Nat) (x2 x4:List Int):Nat→(List Int)→Int→Option (List Int)
  | 0,_,_=>none
  | n+1,x8,x9=>zbK F x2 x4 (zaY F x2 x4 n) x8 x9
def zcS (F:Nat) (x2 x4:List Int):Option (List Int) :=
  if 0≤(i64.wrap ((x2.length:Int)+(x4.length:Int)))∧(i64.wrap ((x2.length:Int)+(x4.length:Int)))≤4294967296 then zaY F x2 x4 F (List.replicate (Int.toNat (i64.wrap ((x2.length:Int)+(x4.length:Int)))) (0:Int)) 0 else none
theorem zgH (F:Nat) (s1:Value) (x2:List Int) (s3:Value) (x4:List Int) (w0:World) (h_s1:rdEOK (hp w0) 1 E90 s1 x2) (h_s3:rdEOK (hp w0) 1 E90 s3 x4) (r:List Int) (M:zcS F x2 x4=some r) :
    Ret P 64 #[s1,s3] w0 (G:=Value) (λg1=>g1) (λg1 w=>St w0 w noX [] [D g1 r]):=by
 unfold zcS at M; refine roW Tryz.func64 C C C (λa H=>?_); have X:St w0 w0 noX [E s1 x2,E s3 x4] []:=Sbw (lnc (lendRd h_s1) (lnc (lendRd h_s3) lnn)); refine sg (l:=[0]) C<|mv H C λa H=>nk<|sg (l:=[0,1,2,3,4,5,6]) C<|mv H C λa H=>ov (v:=I (x2.length:Int)) H C (Z.lenE (e:=90) (by simpa using zab) C (X.b 0 C)) λa H=>mv H C λa H=>ov (v:=I (x4.length:Int)) H C (Z.lenE (e:=90) (by simpa using zab) C (X.b 1 C)) λa H=>ov H C (Z.add C C) λa H=>?_; obtain ⟨hg5,M⟩:=hm_g M; refine O.makeE (enc:=E90) (x0:=(0:Int)) H X C C zab zae za7 zaE C C C hg5 C E90_len C ?_; intro s6 w a X H; refine mv H C λa H=>nk<|?_; refine W.seqR (λa w=>∃ (x7:List Int),Fr a 66 [] [(4,.slice none 0 0),(5,s6)]∧St w0 w noX [E s1 x2,E s3 x4] [D s6 x7]∧zdZ F x7=some r) ?_ ?_
 ·refine sg (l:=[0,1,2]) C<|mv H C λa H=>ov (v:=I (x2.length:Int)) H C (Z.lenE (e:=90) (by simpa using zab) C (X.b 0 C)) λa H=>mv H C λa H=>nk<|?_; refine W.block<|W.loop (G:=Nat × (List Int) × Int) (λg a w=>match g with | (k10,x8,x9)=>Fr a 66 [] [(1,s3),(4,.slice none 0 0),(5,s6),(17,s1),(18,I (x2.length:Int)),(19,I x9)]∧St w0 w noX [E s1 x2,E s3 x4] [D s6 x8]∧zaY F x2 x4 k10 x8 x9=some r) (λg=>match g with | (k10,x8,x9)=>k10) (F,List.replicate (Int.toNat (i64.wrap ((x2.length:Int)+(x4.length:Int)))) (0:Int),0) ⟨H.q C,X,M⟩<|?_; clear H X M a; (try clear w); rintro ⟨k10,x8,x9⟩ a w ⟨H,X,M⟩
  rcases k10 with _ | k10
  · nomatch M
  replace M:zbK F x2 x4 (zaY F x2 x4 k10) x8 x9=some r:=M; obtain ⟨rec10,hrec10⟩:∃ f,f=zaY F x2 x4 k10:=⟨_,C⟩; rw [← hrec10] at M; unfold zbK at M; refine sg (l:=[0]) C<|ov H C (Z.lss C C) λa H=>nk<|W.seq<|?_; refine W.ifdI H C (λhc11=>?_) (λhc11=>?_)
  ·replace M:=hm_p M hc11; refine W.skip<|ksq<|?_; refine W.seqR (λa w=>∃ (x12:List Int) (x13:Int) (x14:Int),Fr a 66 [] [(1,s3),(4,.slice none 0 0),(5,s6),(8,Uv x13),(17,s1),(18,I (x2.length:Int)),(19,I x9),(26,I x14)]∧St w0 w noX [E s1 x2,E s3 x4] [D s6 x12]∧zd0 F rec10 x9 x12 x13 x14=some r) ?_ ?_
   ·refine W.block<|sg (l:=[0,1,2,3,4]) C<|mv H C λa H=>?_; refine hb M λx15 hx15 M=>ov H C (Z.ixE zab zae C C (X.b 0 C) hx15) λa H=>ov H C (Z.ldE1 (o:=0) zar E90_len C (X.b 0 C) hx15 C C) λa H=>mv2 H C C λa H=>nk<|sg (l:=[0]) C<|mv H C λa H=>nk<|?_; refine W.seqR (λa w=>∃ (x16:List Int) (x17:Int) (x18:Int),Fr a 66 [] [(1,s3),(4,.slice none 0 0),(5,s6),(6,I x9),(8,Uv x17),(17,s1),(18,I (x2.length:Int)),(19,I x9),(26,I x18)]∧St w0 w noX [E s1 x2,E s3 x4] [D s6 x16]∧zc4 F x9 x4 rec10 x16 x17 x18=some r) ?_ ?_
    ·refine sg (l:=[0,1,2]) C<|mv H C λa H=>ov (v:=I (x4.length:Int)) H C (Z.lenE (e:=90) (by simpa using zab) C (X.b 1 C)) λa H=>mv H C λa H=>nk<|W.block<|W.loop (G:=Nat × (List Int) × Int × Int) (λg a w=>match g with | (k23,x20,x21,x22)=>Fr a 66 [] [(1,s3),(4,.slice none 0 0),(5,s6),(6,I x9),(7,.int .u32 x15),(8,Uv x21),(17,s1),(18,I (x2.length:Int)),(19,I x9),(24,s3),(25,I (x4.length:Int)),(26,I x22)]∧St w0 w noX [E s1 x2,E s3 x4] [D s6 x20]∧za5 F x4 x9 x15 rec10 k23 x20 x21 x22=some r) (λg=>match g with | (k23,x20,x21,x22)=>k23) (F,x8,0,0) ⟨H.q C,X,M⟩<|?_; clear H X M a; (try clear w); rintro ⟨k23,x20,x21,x22⟩ a w ⟨H,X,M⟩
     rcases k23 with _ | k23
     · nomatch M
     replace M:zbJ F x4 x9 x15 rec10 (za5 F x4 x9 x15 rec10 k23) x20 x21 x22=some r:=M; obtain ⟨rec23,hrec23⟩:∃ f,f=za5 F x4 x9 x15 rec10 k23:=⟨_,C⟩; rw [← hrec23] at M; unfold zbJ at M; refine sg (l:=[0]) C<|ov H C (Z.lss C C) λa H=>nk<|W.seq<|?_; refine W.ifdI H C (λhc24=>?_) (λhc24=>?_)
     ·replace M:=hm_p M hc24; refine W.skip<|ksq<|W.seq<|W.block<|sg (l:=[0,1,2,3,4]) C<|mv H C λa H=>?_; refine hb M λx25 hx25 M=>ov H C (Z.ixE zab zae C C (X.b 1 C) hx25) λa H=>ov H C (Z.ldE1 (o:=0) zar E90_len C (X.b 1 C) hx25 C C) λa H=>mv2 H C C λa H=>nk<|sg (l:=[0,1,2,3,4,5,6,7,8,9,10,11,12,13,14,15]) C<|mv2 H C C λa H=>ov (v:=Uv (u64.wrap x15)) H C (Z.conv za1 zaF C) λa H=>mv H C λa H=>?_; refine ov (v:=Uv (u64.wrap x25)) H C (Z.conv za1 zaF C) λa H=>ov H C (Z.mul C C) λa H=>mv2 H C C λa H=>mv H C λa H=>ov H C (Z.add C C) λa H=>?_; refine hb M λx26 hx26 M=>ov H C (Z.ixE zab zae C C (X.s 0 C) hx26) λa H=>ov H C (Z.ldE1 (o:=0) zar E90_len C (X.s 0 C) hx26 C C) λa H=>ov (v:=Uv (u64.wrap x26)) H C (Z.conv za1 zaF C) λa H=>ov H C (Z.add C C) λa H=>ov H C (Z.add C C) λa H=>mv H C λa H=>nk<|?_; obtain ⟨x27,hx27,M⟩:=hm_b M; rw [oj hx27] at H; refine sg (l:=[0,1,2,3,4,5,6,7]) C<|mv2 H C C λa H=>mv H C λa H=>ov H C (Z.add C C) λa H=>mv H C λa H=>ov (v:=.int .u32 (u32.wrap x27)) H C (Z.conv zaM za8 C) λa H=>ov H C (Z.ixE zab zae C C (X.s 0 C) hx26) λa H=>O.storeE (j:=0) (o:=0) (y0:=(u32.wrap x27)) (l':=x20.set (Int.toNat (i64.wrap (x9+x22))) (u32.wrap x27)) (M':=[D s6 (x20.set (Int.toNat (i64.wrap (x9+x22))) (u32.wrap x27))]) H X C C C zae C C C E90_len hx26 C C C C<|?_; intro w X; refine nk<|wrL (l:=[0,1,2]) C<|mv H C λa H=>ov (v:=Uv (Int.fdiv x27 (2^32))) H C (Z.shr (q:=32) C C (by decide)) λa H=>mv H C λa H=>O.nil<|kbn<|ksq<|wrL (l:=[0,1]) C<|ov H C (Z.add C C) λa H=>?_; refine mv H C λa H=>O.nil<|?_; refine kth ⟨(k23,x20.set (Int.toNat (i64.wrap (x9+x22))) (u32.wrap x27),Int.fdiv x27 (2^32),i64.wrap (x22+1)),⟨H.q C,X,?_⟩,Nat.lt_succ_self _⟩; rw [hrec23] at M; exact M
     ·replace M:=hm_n M hc24; refine W.exit<|kte<|kte<|kbk<|?_; exact kth ⟨x20,x21,x22,H.q C,X,M⟩
    ·clear H X M a; (try clear w); rintro a w ⟨x16,x17,x18,H,X,M⟩; unfold zc4 at M; refine wrL (l:=[0,1,2,3,4,5,6,7,8]) C<|mv2 H C C λa H=>mv H C λa H=>ov (v:=I (x4.length:Int)) H C (Z.lenE (e:=90) (by simpa using zab) C (X.b 1 C)) λa H=>ov H C (Z.add C C) λa H=>mv H C λa H=>ov (v:=.int .u32 (u32.wrap x17)) H C (Z.conv zaM za8 C) λa H=>?_; refine hb M λx19 hx19 M=>ov H C (Z.ixE zab zae C C (X.s 0 C) hx19) λa H=>O.storeE (j:=0) (o:=0) (y0:=(u32.wrap x17)) (l':=x16.set (Int.toNat (i64.wrap (x9+(x4.length:Int)))) (u32.wrap x17)) (M':=[D s6 (x16.set (Int.toNat (i64.wrap (x9+(x4.length:Int)))) (u32.wrap x17))]) H X C C C zae C C C E90_len hx19 C C C C<|?_; intro w X; refine O.nil<|kbn<|?_; exact kth ⟨x16.set (Int.toNat (i64.wrap (x9+(x4.length:Int)))) (u32.wrap x17),x17,x18,H.q C,X,M⟩
   ·clear H X M a; (try clear w); rintro a w ⟨x12,x13,x14,H,X,M⟩; unfold zd0 at M; refine wrL (l:=[0,1]) C<|ov H C (Z.add C C) λa H=>mv H C λa H=>O.nil<|?_; refine kth ⟨(k10,x12,i64.wrap (x9+1)),⟨H.q C,X,?_⟩,Nat.lt_succ_self _⟩; rw [hrec10] at M; exact M
  ·replace M:=hm_n M hc11; refine W.exit<|kte<|kte<|kbk<|?_; exact kth ⟨x8,H.q C,X,M⟩
 ·clear H X M a; (try clear w); rintro a w ⟨x7,H,X,M⟩; unfold zdZ at M; refine sg (l:=[0,1]) C<|mv2 H C C λa H=>nk<|W.ret<|?_; obtain rfl:=oj M; refine post1 H C (rkt C) ?_; exact ⟨s6,C,X.noB⟩
section
variable {F : Nat} (hF : 4300000000 ≤ F)
theorem ixn {T : Type} {l : List T} {i : Nat} {x : T} (h : l[i]? = some x) : idx l (i : Int) = some x := by
  unfold idx; rw [if_pos (by omega)]; simpa using h
theorem wS {i : Nat} (h : i ≤ 1000000) : IntKind.i64.wrap ((i : Int) + 1) = ((i + 1 : Nat) : Int) := by rw [i64_of (by omega)]; omega
theorem u32_id {x : Int} (h : 0 ≤ x ∧ x < 4294967296) : IntKind.u32.wrap x = x := by rw [IntKind.wrap_u32]; omega
theorem u32w (x : Int) : IntKind.u32.wrap x = x % 4294967296 := IntKind.wrap_u32 x
theorem fd32 (x : Int) : Int.fdiv x (2 ^ 32) = x / 4294967296 := by rw [fdiv_pow]; rfl
/-! times -/
theorem times_in {a b : List Int} (ha : Lim a) (hb : Lim b) (hla : a.length ≤ 5000) (hlb : b.length ≤ 5000) {i : Nat} {x : Int} (hx : a[i]? = some x) (rec : List Int → Int → Option (List Int)) (o0 : List Int) :
    ∀ (m N k : Nat) (o : List Int) (c : Int), k + m = b.length → m < N → o.length = a.length + b.length → Lim o → 0 ≤ c ∧ c < 4294967296 → (∀ j, i + k ≤ j → o[j]? = o0[j]?) → lval o + c * BP (i + k) = lval o0 + x * BP i * lval (b.take k) →
      ∃ o' c', za5 F b (i : Int) x rec N o c (k : Int) = zc4 F (i : Int) b rec o' c' (b.length : Int) ∧ o'.length = a.length + b.length ∧ Lim o' ∧ (0 ≤ c' ∧ c' < 4294967296) ∧ (∀ j, i + b.length ≤ j → o'[j]? = o0[j]?) ∧ lval o' + c' * BP (i + b.length) = lval o0 + x * BP i * lval b
  | _, 0, _, _, _, _, h, _, _, _, _, _ => by omega
  | 0, N + 1, k, o, c, hk, _, ho, hlo, hc, hj, hv => by
    have e1 : za5 F b (i : Int) x rec (N + 1) o c (k : Int) = zbJ F b (i : Int) x rec (za5 F b (i : Int) x rec N) o c (k : Int) := C
    rw [e1]
    unfold zbJ
    rw [if_neg (by omega)]
    obtain rfl : k = b.length := by omega
    rw [List.take_length] at hv
    exact ⟨o, c, C, ho, hlo, hc, hj, hv⟩
  | m + 1, N + 1, k, o, c, hk, hN, ho, hlo, hc, hj, hv => by
    have e1 : za5 F b (i : Int) x rec (N + 1) o c (k : Int) = zbJ F b (i : Int) x rec (za5 F b (i : Int) x rec N) o c (k : Int) := C
    rw [e1]
    unfold zbJ
    have hil := (List.getElem?_eq_some_iff.1 hx).1
    have hy : b[k]? = some b[k] := List.getElem?_eq_getElem (by omega)
    have hz : o[i + k]? = some o[i + k] := List.getElem?_eq_getElem (by omega)
    have by_ := hb.at hy; have bz := hlo.at hz; have bx := ha.at hx
    rw [if_pos (by omega), ixn hy, Option.bind_some, show IntKind.i64.wrap ((i : Int) + (k : Int)) = ((i + k : Nat) : Int) by rw [i64_of (by omega)]; omega, ixn hz, Option.bind_some, Option.bind_some]
    have M := mul32 bx by_
    generalize hyv : b[k] = y at *
    generalize hzv : o[i + k] = z at *
    have hbig : x * y ≤ 18446744065119617025 := M.2
    rw [u64_id (x := x) (by omega), u64_id (x := y) (by omega), u64_id (x := z) (by omega), u64_id (x := x * y) (by omega), u64_id (x := x * y + z) (by omega), u64_id (by omega), fd32, u32w, Int.toNat_natCast, wS (by omega)]
    have hset : lval (o.set (i + k) ((c + (x * y + z)) % 4294967296)) = lval o + BP (i + k) * ((c + (x * y + z)) % 4294967296 - z) := lval_set _ hz
    have htk := lval_take hy
    refine times_in ha hb hla hlb hx rec o0 m N (k + 1) _ _ (by omega) (by omega) (by simpa using ho) (hlo.set _ (by omega)) (by omega) (λj hj' => ?_) ?_
    · rw [List.getElem?_set_ne (by omega)]; exact hj j (by omega)
    · rw [hset, htk, show i + (k + 1) = (i + k) + 1 by omega, BP_succ]
      have hmod := Int.mul_ediv_add_emod (c + (x * y + z)) 4294967296
      rw [BP_add] at hv ⊢
      generalize (c + (x * y + z)) / 4294967296 = q at *
      generalize (c + (x * y + z)) % 4294967296 = s at *
      generalize BP i = p at *
      generalize BP k = p' at *
      generalize lval (b.take k) = u at *
      generalize lval o = v at *
      generalize lval o0 = v0 at *
      have : s = c + (x * y + z) - 4294967296 * q := by omega
      subst this
      grind
theorem times_out (hF : 4300000000 ≤ F) {a b : List Int} (ha : Lim a) (hb : Lim b) (hla : a.length ≤ 5000) (hlb : b.length ≤ 5000) : ∀ (m N i : Nat) (o : List Int), i + m = a.length → m < N → o.length = a.length + b.length → Lim o → (∀ j, i + b.length ≤ j → j < o.length → o[j]? = some 0) → lval o = lval (a.take i) * lval b →
    ∃ r, zaY F a b N o (i : Int) = some r ∧ r.length = a.length + b.length ∧ Lim r ∧ lval r = lval a * lval b
  | _, 0, _, _, _, h, _, _, _, _ => by omega
  | 0, N + 1, i, o, hi, _, ho, hlo, _, hv => by
    have e1 : zaY F a b (N + 1) o (i : Int) = zbK F a b (zaY F a b N) o (i : Int) := C
    rw [e1]
    unfold zbK zdZ
    rw [if_neg (by omega)]
    rw [show i = a.length by omega, List.take_length] at hv
    exact ⟨o, C, ho, hlo, hv⟩
  | m + 1, N + 1, i, o, hi, hN, ho, hlo, hz, hv => by
    have e1 : zaY F a b (N + 1) o (i : Int) = zbK F a b (zaY F a b N) o (i : Int) := C
    rw [e1]
    unfold zbK
    have hx : a[i]? = some a[i] := List.getElem?_eq_getElem (by omega)
    rw [if_pos (by omega), ixn hx, Option.bind_some]
    obtain ⟨o', c', h1, h2, h3, h4, h5, h6⟩ := times_in (F := F) ha hb hla hlb hx (zaY F a b N) o b.length F 0 o 0 (by omega) (by omega) ho hlo (by omega) (λj _ => C) (by simp [lval])
    rw [show ((0 : Nat) : Int) = 0 from C] at h1
    rw [h1]
    unfold zc4 zd0
    have hy : o'[i + b.length]? = some 0 := by rw [h5 _ (Nat.le_refl _)]; exact hz _ (by omega) (by omega)
    rw [show IntKind.i64.wrap ((i : Int) + (b.length : Int)) = ((i + b.length : Nat) : Int) by rw [i64_of (by omega)]; omega, ixn hy, Option.bind_some, Int.toNat_natCast, wS (by omega), u32_id h4]
    have hset : lval (o'.set (i + b.length) c') = lval o' + BP (i + b.length) * (c' - 0) := lval_set _ hy
    refine times_out hF ha hb hla hlb m N (i + 1) _ (by omega) (by omega) (by simpa using h2) (h3.set _ h4) (λj hj hjl => ?_) ?_
    · simp only [List.length_set] at hjl
      rw [List.getElem?_set_ne (by omega), h5 _ (by omega)]
      exact hz _ (by omega) (by omega)
    · rw [hset, lval_take hx]
      rw [hv] at h6
      grind
include hF in
theorem w_times {a b : List Int} (ha : Lim a) (hb : Lim b) (hla : a.length ≤ 5000) (hlb : b.length ≤ 5000) : ∃ r, zcS F a b = some r ∧ r.length = a.length + b.length ∧ Lim r ∧ lval r = lval a * lval b := by
  unfold zcS
  have e : IntKind.i64.wrap ((a.length : Int) + (b.length : Int)) = ((a.length + b.length : Nat) : Int) := by rw [i64_of (by omega)]; omega
  rw [e, if_pos (by omega), Int.toNat_natCast]
  exact times_out hF ha hb hla hlb a.length F 0 _ (by omega) (by omega) (by simp) (Lim.zeros _) (λj _ hj => by simp at hj; rw [List.getElem?_replicate, if_pos hj]) (by rw [lval_zeros]; simp [lval])
end
/-! times by the numbers -/
def nv : List Int → Nat
  | [] => 0
  | x :: t => x.toNat + 4294967296 * nv t
def toW : Nat → Nat → List Int
  | 0, _ => []
  | n + 1, N => ((N % 4294967296 : Nat) : Int) :: toW n (N / 4294967296)
def limB : List Int → Bool
  | [] => true
  | x :: t => match decide (0 ≤ x) && decide (x < 4294967296) with
    | true => limB t
    | false => false
theorem limB_ok : ∀ {l : List Int}, limB l = true → Lim l
  | [], _ => λx hx => by cases hx
  | x :: t, h => by
    unfold limB at h
    split at h
    · rename_i h1
      simp only [Bool.and_eq_true, decide_eq_true_eq] at h1
      intro y hy
      rcases List.mem_cons.1 hy with rfl | hy
      · exact h1
      · exact limB_ok h y hy
    · cases h
theorem lval_nv : ∀ {l : List Int}, Lim l → lval l = (nv l : Int)
  | [], _ => C
  | x :: t, h => by
    have h1 := h x (by simp)
    have ih := lval_nv (l := t) (λy hy => h y (by simp [hy]))
    show x + 4294967296 * lval t = ((x.toNat + 4294967296 * nv t : Nat) : Int)
    rw [ih]; omega
theorem toW_eq : ∀ {r : List Int} {n N : Nat}, Lim r → r.length = n → lval r = (N : Int) → r = toW n N
  | [], n, N, _, hn, _ => by
    subst hn; rfl
  | x :: t, n, N, h, hn, hv => by
    subst hn
    have h1 := h x (by simp)
    have hv : x + 4294967296 * lval t = (N : Int) := hv
    have ht : Lim t := λy hy => h y (by simp [hy])
    have e1 : lval t = ((N / 4294967296 : Nat) : Int) := by omega
    have e2 : x = ((N % 4294967296 : Nat) : Int) := by omega
    show x :: t = _ :: toW t.length (N / 4294967296)
    rw [← toW_eq ht C e1, ← e2]
def fastT (a b : List Int) : Bool := limB a && limB b && Nat.ble a.length 5000 && Nat.ble b.length 5000
theorem times_fast {a b : List Int} (h : fastT a b = true) : zcS 4300000000 a b = some (toW (a.length + b.length) (nv a * nv b)) := by
  unfold fastT at h
  simp only [Bool.and_eq_true] at h
  obtain ⟨⟨⟨h1, h2⟩, h3⟩, h4⟩ := h
  obtain ⟨r, e1, e2, e3, e4⟩ := w_times (F := 4300000000) (Nat.le_refl _) (limB_ok h1) (limB_ok h2) (Nat.le_of_ble_eq_true h3) (Nat.le_of_ble_eq_true h4)
  rw [e1, ← toW_eq e3 e2 (by rw [e4, lval_nv (limB_ok h1), lval_nv (limB_ok h2)]; exact (Int.natCast_mul _ _).symm)]

def zgI (F:Nat) (x2 x4:List Int):Option (List Int):=match fastT x2 x4 with
  | true=>some (toW (x2.length+x4.length) (nv x2*nv x4))
  | false=>zcS F x2 x4
theorem zij (F:Nat) (s1:Value) (x2:List Int) (s3:Value) (x4:List Int) (w0:World) (h_s1:rdEOK (hp w0) 1 E90 s1 x2) (h_s3:rdEOK (hp w0) 1 E90 s3 x4) (r:List Int) (M:zgI F x2 x4=some r) :
    Ret P 64 #[s1,s3] w0 (G:=Value) (λg1=>g1) (λg1 w=>St w0 w noX [] [D g1 r]):=by
 unfold zgI at M; split at M
 ·rename_i hc; exact zgH 4300000000 s1 x2 s3 x4 w0 h_s1 h_s3 r (by rw [times_fast hc]; exact M)
 ·exact zgH F s1 x2 s3 x4 w0 h_s1 h_s3 r M
def zbs (F:Nat) (x1:Bool) (x3:List Int) (x4:Bool) (x6:List Int):Option (Bool × (List Int)) :=
  (zbx F x1 x3 x4 x6).bind λx11=>(zgI F x3 x6).bind λx12=>(zaK F (!(x1 == x4)) x12).bind λx14=>some x14
theorem zbb (F:Nat) (x1:Bool) (s2:Value) (x3:List Int) (x4:Bool) (s5:Value) (x6:List Int) (w0:World) (h_s2:rdEOK (hp w0) 1 E90 s2 x3) (h_s5:rdEOK (hp w0) 1 E90 s5 x6) (r:Bool × (List Int)) (M:zbs F x1 x3 x4 x6=some r) :
    Ret P 34 #[.agg #[B x1,s2],.agg #[B x4,s5]] w0 (G:=Value) (λg1=>.tuple #[.agg #[B r.1,g1],I 0]) (λg1 w=>St w0 w noX [] [D g1 r.2]):=by
 unfold zbs at M; refine roW Tryz.func34 C C C (λa H=>?_); have X:St w0 w0 noX [E s2 x3,E s5 x6] []:=Sbw (lnc (lendRd h_s2) (lnc (lendRd h_s5) lnn)); refine sg (l:=[0,1,2,3]) C<|O.box (cs:=#[B x1,s2]) H X C C C C<|?_; intro b7 w a hb7 X H; refine O.box (cs:=#[B x4,s5]) H X C C C C ?_; intro b8 w a hb8 X H; refine O.alloc (cs:=#[B false,.slice none 0 0]) H X C C zac C ?_; intro b9 w a hb9 X H; refine mv H C λa H=>nk<|W.seq<|sg (l:=[0,1,2,3,4]) C<|ov H C (lN (cs':=#[B x1,s2]) A_30 C (X.p 2 C) C C) λa H=>ov H C (lN (cs':=#[B x4,s5]) A_30 C (X.p 1 C) C C) λa H=>O.buildSlice (cs':=#[B x1,s2,B x4,s5]) (zs:=#[B false,.slice none 0 0,B false,.slice none 0 0]) H X C C zaX zaa zac C C C C C<|?_; intro b10 w a hb10 X H; refine hb M λx11 hx11 M=>oq H X C zcQ (zbG F b10 x1 s2 x3 x4 s5 x6 _ (X.b 0 C) (X.b 1 C) (X.p 0 C) x11 hx11) ?_; rintro _ w X a H; refine mv H C λa H=>nk<|?_; replace X:=X.sl [0,1,1,1]; refine sg (l:=[0,1]) C<|mv H C λa H=>ov H C (Z.neq (p:=0) (q:=0) C C) λa H=>nk<|W.if_ff H C<|W.skip<|ksq<|W.seq<|?_; have J:Fr a 28 [] [(5,I 0)]:=H.q C; obtain ⟨x12,hx12,M⟩:=hm_b M; refine hb M λx14 hx14 M=>W.drawK (γ:=Value × Value) (L0:=[(2,Pv b7 0),(3,Pv b8 0),(4,Pv b9 0)]) (L1:=[(5,I 0)]) (undef,undef) [9,10,13] [] [0,1,2,3,4,5,6,7,8,11,12,14] (λi=>match i with | 1=>[0] | 3=>[2] | 4=>[1,3] | 6=>[5] | 8=>[7] | 9=>[6,8] | 10=>[4,9] | 11=>[10] | 12=>[10] | 13=>[0,1,2,3,4,5,6,7,8,9,10,11,12] | 14=>[0,1,2,3,4,5,6,7,8,9,10,11,12,13] | _=>[]) (λ_=>[]) (λi=>match i with | 9=>[10,11,12,13,14] | 10=>[11,12,13,14] | 13=>[14] | _=>[]) (λ_=>[]) (λi=>match i with | 10=>1 | 11=>2 | 12=>2 | 13=>2 | 14=>3 | _=>0) (λi=>match i with | 0=>1 | 1=>1 | 2=>1 | 3=>1 | 4=>1 | 9=>1 | 10=>2 | 11=>2 | 12=>2 | 13=>3 | 14=>3 | _=>0) (λ(g:Value × Value) j=>match j with | 0=>Pv b7 0 | 1=>B x1 | 2=>Pv b8 0 | 3=>B x4 | 4=>B (!(x1 == x4)) | 5=>Pv b7 1 | 6=>s2 | 7=>Pv b8 1 | 8=>s5 | 9=>g.1 | 10=>.tuple #[.agg #[B x14.1,g.2],I 0] | 11=>.agg #[B x14.1,g.2] | 12=>I 0 | 14=>I 0 | _=>undef) (λk s (g:Value × Value) w=>match k with | 0=>St w0 w noX [E s2 x3,E s5 x6] [pt b9 (Cs #[B false,.slice none 0 0] 30),pW30 b8 x4 s5,pW30 b7 x1 s2] | 1=>St w0 w noX [E s2 x3,E s5 x6] [D g.1 x12,pt b9 (Cs #[B false,.slice none 0 0] 30),pW30 b8 x4 s5,pW30 b7 x1 s2] | 2=>St w0 w noX [E s2 x3,E s5 x6] [D g.2 x14.2,pt b9 (Cs #[B false,.slice none 0 0] 30),pW30 b8 x4 s5,pW30 b7 x1 s2] | _=>St w0 w noX [E s2 x3,E s5 x6] [D g.2 x14.2,pt b9 (Cs #[B x14.1,g.2] 30),pW30 b8 x4 s5,pW30 b7 x1 s2]) P_mixed (by kernel_rfl) (H.q C) J X.drew ?_ ?_ ?_ ?_
 ·clear H J X; refine ⟨λk s g w _ _ _ X a H=>Q.val (v:=Pv b7 0) C C C X H (Z.field zao C C),?_,λk s g w _ _ _ X a H=>Q.val (v:=Pv b8 0) C C C X H (Z.field zao C C),?_,λk s g w _ _ _ X a H=>Q.val (v:=B (!(x1 == x4))) C C C X H (Z.neBool zfS C C),λk s g w _ _ _ X a H=>Q.val (v:=Pv b7 1) C C C X H (Z.field zak C C),?_,λk s g w _ _ _ X a H=>Q.val (v:=Pv b8 1) C C C X H (Z.field zak C C),?_,λk s g w _ _ _ X a H=>Q.val (v:=.agg #[B x14.1,g.2]) C C C X H (Z.extract C C),λk s g w _ _ _ X a H=>Q.val (v:=I 0) C C C X H (Z.extract C C),λk s g w _ _ _ X a H=>Q.val (v:=I 0) C C C X H (Z.assign C),trivial⟩
  ·intro k s g w h1_ h2_ hsp X a H; obtain ⟨s13,s15⟩:=g
   rcases k with _ | _ | k
   ·exact Q.val (v:=B x1) C C C X H (Z.load1 zav C (X.p 2 C) C)
   ·exact Q.val (v:=B x1) C C C X H (Z.load1 zav C (X.p 3 C) C)
   ·simp at h2_
  ·intro k s g w h1_ h2_ hsp X a H; obtain ⟨s13,s15⟩:=g
   rcases k with _ | _ | k
   ·exact Q.val (v:=B x4) C C C X H (Z.load1 zav C (X.p 1 C) C)
   ·exact Q.val (v:=B x4) C C C X H (Z.load1 zav C (X.p 2 C) C)
   ·simp at h2_
  ·intro k s g w h1_ h2_ hsp X a H; obtain ⟨s13,s15⟩:=g
   rcases k with _ | k
   ·exact Q.val (v:=s2) C C C X H (Z.load1 zan C (X.p 2 C) C)
   ·simp at h2_
  ·intro k s g w h1_ h2_ hsp X a H; obtain ⟨s13,s15⟩:=g
   rcases k with _ | k
   ·exact Q.val (v:=s5) C C C X H (Z.load1 zan C (X.p 1 C) C)
   ·simp at h2_
 ·clear H J X; refine ⟨?_,?_,?_,trivial⟩
  ·intro s g w hsp X a H; obtain ⟨s13,s15⟩:=g; refine oq H X C zkd (zij F s2 x3 s5 x6 _ (X.b 0 C) (X.b 1 C) x12 hx12) ?_; rintro s13 w X a H; exact nE 24 H (s13,s15) C C (jl 15 (by kernel_rfl) λ_=>C) X
  ·intro s g w hsp X a H; obtain ⟨s13,s15⟩:=g; refine oc H C zcw (zaH F (!(x1 == x4)) s13 x12 _ (X.slS (j:=0) C) x14 hx14) ?_; rintro s15 w Y a H; replace X:=X.cz Y 0 λ_ h=>h; exact nE 25 H (s13,s15) C C (jl 15 (by kernel_rfl) λ_=>C) X
  ·intro s g w hsp X a H; obtain ⟨s13,s15⟩:=g; refine ost 1 #[B x14.1,s15] H X C C C zaa C (occ C (occ (rdo (X.s 0 C)) C)) C (bl C) C ?_; intro w X; exact O.nil ⟨C,(s13,s15),H.to trivial,(λd hd=>by cases (show none=some d from hd)),(λ_ _ _=>C),X⟩
 ·clear H J X; exact trivial
 clear H J X; intro s g a w hs H X; obtain ⟨s13,s15⟩:=g; refine ksq ?_; replace X:=X.sl [1,1]; refine W.ret ?_; obtain rfl:=oj M; refine post2 H C (rkn (cs':=#[B x14.1,s15]) C zal zaa (X.p 1 C) (bl C) C) (rkt C) ?_; replace X:=X.sl [1]; exact ⟨s15,C,X.noB⟩
def zge (F:Nat) (x14:Bool) (x16:List Int):Option (Bool × (List Int)) :=
  some (x14,x16)
def zeU (F:Nat) (rec22:Bool→(List Int)→Int→Option (Bool × (List Int))) (x21:Int) (x24:Bool) (x26:List Int):Option (Bool × (List Int)) :=
  rec22 x24 x26 (i64.wrap (x21-1))
def zgf (F:Nat) (x4:Int) (x1:Bool) (x3:List Int) (rec22:Bool→(List Int)→Int→Option (Bool × (List Int))) (x18:Bool) (x20:List Int) (x21:Int):Option (Bool × (List Int)) :=
  if x21≥(0:Int) then ((zbs F x18 x20 x18 x20).bind λx27=>if 0≤x21 then if (bitand .i64 (Int.fdiv x4 (2^(min (Int.toNat x21) (IntKind.bits .i64)))) 1)=(1:Int) then ((zbs F x27.1 x27.2 x1 x3).bind λx31=>zeU F rec22 x21 x31.1 x31.2) else (zeU F rec22 x21 x27.1 x27.2) else none) else (zge F x18 x20)
def zdR (F:Nat) (x4:Int) (x1:Bool) (x3:List Int):Nat→Bool→(List Int)→Int→Option (Bool × (List Int))
  | 0,_,_,_=>none
  | n+1,x18,x20,x21=>zgf F x4 x1 x3 (zdR F x4 x1 x3 n) x18 x20 x21
def zfl (F:Nat) (x1:Bool) (x3:List Int) (x4:Int):Option (Bool × (List Int)) :=
  (zbw F x1 x3).bind λx8=>if ((decide (x4<(0:Int)))||(decide (x4>(1000:Int))))=true then (none) else ((zaZ F 1).bind λx11=>(zfk F (u64.wrap x4)).bind λx17=>zdR F x4 x1 x3 F x11.1 x11.2 (i64.wrap (x17-1)))
theorem zgg (F:Nat) (x1:Bool) (s2:Value) (x3:List Int) (x4:Int) (w0:World) (h_s2:rdEOK (hp w0) 1 E90 s2 x3) (r:Bool × (List Int)) (M:zfl F x1 x3 x4=some r) :
    Ret P 15 #[.agg #[B x1,s2],I x4] w0 (G:=Value) (λg1=>.tuple #[.agg #[B r.1,g1],I 0]) (λg1 w=>St w0 w noX [] [D g1 r.2]):=by
 unfold zfl at M; refine roW Tryz.func15 C C C (λa H=>?_); have X:St w0 w0 noX [E s2 x3] []:=Sbw (lnc (lendRd h_s2) lnn); refine sg (l:=[0,1,2]) C<|O.box (cs:=#[B x1,s2]) H X C C C C<|?_; intro b5 w a hb5 X H; refine O.alloc (cs:=#[B false,.slice none 0 0]) H X C C zac C ?_; intro b6 w a hb6 X H; refine mv H C λa H=>nk<|W.seq<|sg (l:=[0,1,2,3]) C<|ov H C (lN (cs':=#[B x1,s2]) A_30 C (X.p 1 C) C C) λa H=>O.buildSlice (cs':=#[B x1,s2]) (zs:=#[B false,.slice none 0 0]) H X C C zaX zaa zac C C C C C<|?_; intro b7 w a hb7 X H; refine hb M λx8 hx8 M=>oq H X C zcQ (zbF F b7 x1 s2 x3 _ (X.b 0 C) (X.p 0 C) x8 hx8) ?_; rintro _ w X a H; refine mv H C λa H=>nk<|?_; replace X:=X.sl [0,1,1]; refine sg (l:=[0,1]) C<|mv H C λa H=>ov H C (Z.neq (p:=0) (q:=0) C C) λa H=>nk<|W.if_ff H C<|W.skip<|ksq<|W.seq<|sg (l:=[0,1,2,3,4,5]) C<|mv H C λa H=>?_; refine ov H C (Z.lss C C) λa H=>mv H C λa H=>?_; refine O.cutN (l₁:=[3,4,5]) (l₂:=_) (λa w=>Fr a 59 [] [(1,I x4),(2,Pv b5 0),(4,Pv b6 0),(5,I 0),(22,B ((decide (x4<(0:Int)))||(decide (x4>(1000:Int)))))]∧St w0 w noX [E s2 x3] [pt b6 (Cs #[B false,.slice none 0 0] 30),pW30 b5 x1 s2]) C ?_ ?_
 ·rcases Bool.eq_false_or_eq_true (decide (x4<(0:Int))) with hb9 | hb9
  ·refine sk H C hb9 λa H=>sk H C hb9 λa H=>?_; refine ov (v:=B ((decide (x4<(0:Int)))||(decide (x4>(1000:Int))))) H C (Z.pick C C C (by rw [hb9]; rfl)) ?_; clear H a; intro a H; exact O.nil ⟨C,H.q C,X⟩
  ·refine og H C hb9 (Z.move C) λa H=>og H C hb9 (Z.gtr C C) λa H=>?_; refine ov (v:=B ((decide (x4<(0:Int)))||(decide (x4>(1000:Int))))) H C (Z.pick C C C (by rw [hb9]; rfl)) ?_; clear H a; intro a H; exact O.nil ⟨C,H.q C,X⟩
 clear H X a; (try clear w); rintro a w ⟨H,X⟩; refine nk ?_; refine W.if_ H C (λhc10=>?_) (λhc10=>?_)
 ·nomatch hm_t M hc10
 ·replace M:=hm_f M hc10; refine W.skip<|ksq<|sg (l:=[0,1,2]) C<|?_; refine hb M λx11 hx11 M=>oq H X C zcv (zaN F 1 _ x11 hx11) ?_; rintro s12 w X a H; refine O.alloc (cs:=#[B false,.slice none 0 0]) H X C C zac C ?_; intro b13 w a hb13 X H; refine ost 0 #[B x11.1,s12] H X C C C zaa C (occ C (occ (rdo (X.s 1 C)) C)) C (bl C) C ?_; intro w X; refine nk ?_; refine W.seqR (λa w=>∃ (x14:Bool) (s15:Value) (x16:List Int),Fr a 59 [] [(4,Pv b6 0),(5,I 0),(7,Pv b13 0)]∧St w0 w noX [E s2 x3] [pt b6 (Cs #[B false,.slice none 0 0] 30),D s15 x16,pW30 b13 x14 s15]∧zge F x14 x16=some r) ?_ ?_
  ·refine sg (l:=[0,1,2,3,4]) C<|mv H C λa H=>ov (v:=Uv (u64.wrap x4)) H C (Z.conv zji zi6 C) λa H=>?_; refine hb M λx17 hx17 M=>oq H X C zj7 (zhI F (u64.wrap x4) _ x17 hx17) ?_; rintro _ w X a H; refine ov H C (Z.sub C C) λa H=>mv H C λa H=>nk<|?_; refine W.block ?_; replace X:=X.fr 1; replace X:=X.fr 2; replace X:=X.fr 3; refine W.loop (G:=Nat × Bool × Value × (List Int) × Int) (λg a w=>match g with | (k22,x18,s19,x20,x21)=>Fr a 59 [] [(1,I x4),(2,Pv b5 0),(4,Pv b6 0),(5,I 0),(7,Pv b13 0),(8,I x21)]∧St w0 w noX [E s2 x3] [pW30 b5 x1 s2,pt b6 (Cs #[B false,.slice none 0 0] 30),D s19 x20,pW30 b13 x18 s19]∧zdR F x4 x1 x3 k22 x18 x20 x21=some r) (λg=>match g with | (k22,x18,s19,x20,x21)=>k22) (F,x11.1,s12,x11.2,i64.wrap (x17-1)) ⟨H.q C,X,M⟩ ?_; clear H X M a; (try clear w); rintro ⟨k22,x18,s19,x20,x21⟩ a w ⟨H,X,M⟩
   rcases k22 with _ | k22
   · nomatch M
   replace M:zgf F x4 x1 x3 (zdR F x4 x1 x3 k22) x18 x20 x21=some r:=M; obtain ⟨rec22,hrec22⟩:∃ f,f=zdR F x4 x1 x3 k22:=⟨_,C⟩; rw [← hrec22] at M; unfold zgf at M; refine W.seq<|sg (l:=[0,1]) C<|mv H C λa H=>ov H C (Z.geq C C) λa H=>nk<|?_; refine W.ifdI H C (λhc23=>?_) (λhc23=>?_)
   ·replace M:=hm_p M hc23; refine W.skip<|ksq<|W.seq<|W.block<|sg (l:=[0]) C<|mv H C λa H=>nk<|?_; refine W.seqR (λa w=>∃ (x24:Bool) (s25:Value) (x26:List Int),Fr a 59 [] [(1,I x4),(2,Pv b5 0),(4,Pv b6 0),(5,I 0),(7,Pv b13 0),(8,I x21),(9,I 0)]∧St w0 w noX [E s2 x3] [pW30 b5 x1 s2,pt b6 (Cs #[B false,.slice none 0 0] 30),D s25 x26,pW30 b13 x24 s25]∧zeU F rec22 x21 x24 x26=some r) ?_ ?_
    ·refine sg (l:=[0,1,2,3,4,5,6,7]) C<|ov H C (lN (cs':=#[B x18,s19]) A_30 C (X.p 3 C) C C) λa H=>ov H C (lN (cs':=#[B x18,s19]) A_30 C (X.p 3 C) C C) λa H=>?_; refine hb M λx27 hx27 M=>oq H X C zdk (zbb F x18 s19 x20 x18 s19 x20 _ (X.s 2 C) (X.s 2 C) x27 hx27) ?_; rintro s28 w X a H; refine mv H C λa H=>ex H C C C λa H=>ex H C C C λa H=>ost 4 #[B x27.1,s28] H X C C C zaa C (occ C (occ (rdo (X.s 0 C)) C)) C (bl C) C<|?_; intro w X; refine mv H C λa H=>nk<|?_; replace X:=X.sl [1,1,1,0,1]; refine sg (l:=[0,1,2,3,4,5,6,7,8]) C<|mv H C λa H=>ov H C (Z.eql (p:=0) (q:=0) C C) λa H=>mv H C λa H=>og H C C (Z.move C) λa H=>og H C C (Z.move C) λa H=>?_; obtain ⟨hg29,M⟩:=hm_g M; refine og (v:=I (Int.fdiv x4 (2^(min (Int.toNat x21) (IntKind.bits .i64))))) H C C (Z.shr C C hg29) λa H=>og (v:=I (bitand .i64 (Int.fdiv x4 (2^(min (Int.toNat x21) (IntKind.bits .i64)))) 1)) H C C (Z.bitand C C) λa H=>og (v:=B (decide ((bitand .i64 (Int.fdiv x4 (2^(min (Int.toNat x21) (IntKind.bits .i64)))) 1)=(1:Int)))) H C C (Z.eql C C) λa H=>ov (v:=B (decide ((bitand .i64 (Int.fdiv x4 (2^(min (Int.toNat x21) (IntKind.bits .i64)))) 1)=(1:Int)))) H C (Z.pick C C C C) λa H=>nk<|?_; refine W.ifdI H C (λhc30=>?_) (λhc30=>?_)
     ·replace M:=hm_p M hc30; refine wrL (l:=[0,1,2,3,4,5,6,7]) C<|ov H C (lN (cs':=#[B x27.1,s28]) A_30 C (X.p 3 C) C C) λa H=>ov H C (lN (cs':=#[B x1,s2]) A_30 C (X.p 1 C) C C) λa H=>?_; refine hb M λx31 hx31 M=>oq H X C zdk (zbb F x27.1 s28 x27.2 x1 s2 x3 _ (X.s 0 C) (X.b 0 C) x31 hx31) ?_; rintro s32 w X a H; refine mv H C λa H=>ex H C C C λa H=>ex H C C C λa H=>ost 4 #[B x31.1,s32] H X C C C zaa C (occ C (occ (rdo (X.s 0 C)) C)) C (bl C) C<|?_; intro w X; refine mv H C λa H=>O.nil<|?_; replace X:=X.fr 4; replace X:=X.fr 1; replace X:=X.fr 4; replace X:=X.fr 4; replace X:=X.sl [1,1,1,1]; exact kth ⟨x31.1,s32,x31.2,H.q C,X,M⟩
     ·replace M:=hm_n M hc30; refine W.skip ?_; replace X:=X.fr 3; replace X:=X.fr 1; replace X:=X.fr 3; replace X:=X.fr 3; exact kth ⟨x27.1,s28,x27.2,H.q C,X,M⟩
    ·clear H X M a; (try clear w); rintro a w ⟨x24,s25,x26,H,X,M⟩; unfold zeU at M; refine sg (l:=[0,1]) C<|mv H C λa H=>ov H C (Z.neq (p:=0) (q:=0) C C) λa H=>nk<|W.if_ff H C<|W.skip<|kbn<|ksq<|wrL (l:=[0,1,2]) C<|mv H C λa H=>?_; refine ov H C (Z.sub C C) λa H=>mv H C λa H=>O.nil<|?_; refine kth ⟨(k22,x24,s25,x26,i64.wrap (x21-1)),⟨H.q C,X,?_⟩,Nat.lt_succ_self _⟩; rw [hrec22] at M; exact M
   ·replace M:=hm_n M hc23; refine W.exit<|kte<|kte<|kbk<|?_; replace X:=X.sl [0,1,1,1]; exact kth ⟨x18,s19,x20,H.q C,X,M⟩
  ·clear H X M a; (try clear w); rintro a w ⟨x14,s15,x16,H,X,M⟩; unfold zge at M; refine sg (l:=[0,1,2]) C<|ov H C (lN (cs':=#[B x14,s15]) A_30 C (X.p 2 C) C C) λa H=>ost 0 #[B x14,s15] H X C C C zaa C (occ C (occ (rdo (X.s 1 C)) C)) C (bl C) C<|?_; intro w X; refine mv H C λa H=>nk<|?_; replace X:=X.sl [1,1]; refine W.ret ?_; obtain rfl:=oj M; refine post2 H C (rkn (cs':=#[B x14,s15]) C zal zaa (X.p 0 C) (bl C) C) (rkt C) ?_; replace X:=X.sl [0,1]; exact ⟨s15,C,X.noB⟩
def zeE (F:Nat) (x8:Bool) (x10:List Int):Option (Bool × (List Int)) :=
  some (x8,x10)
def zeF (F:Nat) (x11:Int) (rec16:Bool→(List Int)→Int→Option (Bool × (List Int))) (x12:Bool) (x14:List Int) (x15:Int):Option (Bool × (List Int)) :=
  if x15<(x11:Int) then ((zaZ F 10).bind λx18=>(zfl F x18.1 x18.2 1000).bind λx20=>(zbs F x12 x14 x20.1 x20.2).bind λx23=>rec16 x23.1 x23.2 (i64.wrap (x15+1))) else (zeE F x12 x14)
def zci (F:Nat) (x11:Int):Nat→Bool→(List Int)→Int→Option (Bool × (List Int))
  | 0,_,_,_=>none
  | n+1,x12,x14,x15=>zeF F x11 (zci F x11 n) x12 x14 x15
def zfT (F:Nat) (x1:Int):Option (Bool × (List Int)) :=
  (zaZ F 10).bind λx3=>(zfl F x3.1 x3.2 (Int.tmod x1 1000)).bind λx5=>(some (i64.wrap (Int.tdiv x1 1000))).bind λx11=>zci F x11 F x5.1 x5.2 0
theorem zhZ (F:Nat) (x1:Int) (w0:World) (r:Bool × (List Int)) (M:zfT F x1=some r) :
    Ret P 19 #[I x1] w0 (G:=Value) (λg1=>.tuple #[.agg #[B r.1,g1],I 0]) (λg1 w=>St w0 w noX [] [D g1 r.2]):=by
 unfold zfT at M; refine roW Tryz.func19 C C C (λa H=>?_); have X:St w0 w0 noX [] []:=Sbw lnn; refine sg (l:=[0,1]) C<|O.alloc (cs:=#[B false,.slice none 0 0]) H X C C zac C<|?_; intro b2 w a hb2 X H; refine mv H C λa H=>nk<|sg (l:=[0,1,2,3,4,5,6,7,8,9]) C<|?_; refine hb M λx3 hx3 M=>oq H X C zcv (zaN F 10 _ x3 hx3) ?_; rintro s4 w X a H; refine mv H C λa H=>ov (v:=I (Int.tmod x1 1000)) H C (Z.rem (q:=1000) C C (by decide)) λa H=>?_; refine hb M λx5 hx5 M=>oq H X C zit (zgg F x3.1 s4 x3.2 (Int.tmod x1 1000) _ (X.s 0 C) x5 hx5) ?_; rintro s6 w X a H; refine mv H C λa H=>ex H C C C λa H=>ex H C C C λa H=>O.alloc (cs:=#[B false,.slice none 0 0]) H X C C zac C<|?_; intro b7 w a hb7 X H; refine ost 0 #[B x5.1,s6] H X C C C zaa C (occ C (occ (rdo (X.s 1 C)) C)) C (bl C) C ?_; intro w X; refine mv H C λa H=>nk<|?_; replace X:=X.sl [1,1,0,1]; refine W.seq<|sg (l:=[0,1]) C<|mv H C λa H=>ov H C (Z.neq (p:=0) (q:=0) C C) λa H=>nk<|W.if_ff H C<|W.skip<|ksq<|?_; refine W.seqR (λa w=>∃ (x8:Bool) (s9:Value) (x10:List Int),Fr a 44 [] [(2,Pv b2 0),(3,I 0),(4,Pv b7 0)]∧St w0 w noX [] [pt b2 (Cs #[B false,.slice none 0 0] 30),D s9 x10,pW30 b7 x8 s9]∧zeE F x8 x10=some r) ?_ ?_
 ·refine sg (l:=[0,1,2]) C<|mv H C λa H=>ov (v:=I (i64.wrap (Int.tdiv x1 1000))) H C (Z.quo (q:=1000) C C (by decide)) λa H=>mv H C λa H=>nk<|?_; obtain ⟨x11,hx11,M⟩:=hm_b M; rw [oj hx11] at H; refine W.block ?_; replace X:=X.fr 1; replace X:=X.fr 2; refine W.loop (G:=Nat × Bool × Value × (List Int) × Int) (λg a w=>match g with | (k16,x12,s13,x14,x15)=>Fr a 44 [] [(2,Pv b2 0),(3,I 0),(4,Pv b7 0),(20,I x11),(21,I x15)]∧St w0 w noX [] [pt b2 (Cs #[B false,.slice none 0 0] 30),D s13 x14,pW30 b7 x12 s13]∧zci F x11 k16 x12 x14 x15=some r) (λg=>match g with | (k16,x12,s13,x14,x15)=>k16) (F,x5.1,s6,x5.2,0) ⟨H.q C,X,M⟩ ?_; clear H X M a; (try clear w); rintro ⟨k16,x12,s13,x14,x15⟩ a w ⟨H,X,M⟩
  rcases k16 with _ | k16
  · nomatch M
  replace M:zeF F x11 (zci F x11 k16) x12 x14 x15=some r:=M; obtain ⟨rec16,hrec16⟩:∃ f,f=zci F x11 k16:=⟨_,C⟩; rw [← hrec16] at M; unfold zeF at M; refine sg (l:=[0]) C<|ov H C (Z.lss C C) λa H=>nk<|W.seq<|?_; refine W.ifdI H C (λhc17=>?_) (λhc17=>?_)
  ·replace M:=hm_p M hc17; refine W.skip<|ksq<|W.seq<|W.block<|sg (l:=[0,1,2,3,4,5,6,7]) C<|?_; refine hb M λx18 hx18 M=>oq H X C zcv (zaN F 10 _ x18 hx18) ?_; rintro s19 w X a H; refine hb M λx20 hx20 M=>oq H X C zit (zgg F x18.1 s19 x18.2 1000 _ (X.s 0 C) x20 hx20) ?_; rintro s21 w X a H; refine mv H C λa H=>ex H C C C λa H=>ex H C C C λa H=>O.alloc (cs:=#[B false,.slice none 0 0]) H X C C zac C<|?_; intro b22 w a hb22 X H; refine ost 0 #[B x20.1,s21] H X C C C zaa C (occ C (occ (rdo (X.s 1 C)) C)) C (bl C) C ?_; intro w X; refine mv H C λa H=>nk<|?_; replace X:=X.sl [1,1,0,1,1,1]; refine W.seq<|sg (l:=[0,1]) C<|mv H C λa H=>ov H C (Z.neq (p:=0) (q:=0) C C) λa H=>nk<|W.if_ff H C<|W.skip<|ksq<|sg (l:=[0,1,2,3,4,5,6,7]) C<|ov H C (lN (cs':=#[B x12,s13]) A_30 C (X.p 4 C) C C) λa H=>?_; refine ov H C (lN (cs':=#[B x20.1,s21]) A_30 C (X.p 0 C) C C) λa H=>?_; refine hb M λx23 hx23 M=>oq H X C zdk (zbb F x12 s13 x14 x20.1 s21 x20.2 _ (X.s 3 C) (X.s 1 C) x23 hx23) ?_; rintro s24 w X a H; refine mv H C λa H=>ex H C C C λa H=>ex H C C C λa H=>ost 5 #[B x23.1,s24] H X C C C zaa C (occ C (occ (rdo (X.s 0 C)) C)) C (bl C) C<|?_; intro w X; refine mv H C λa H=>nk<|?_; replace X:=X.sl [1,0,0,1,0,1]; refine sg (l:=[0,1]) C<|mv H C λa H=>ov H C (Z.neq (p:=0) (q:=0) C C) λa H=>nk<|W.if_ff H C<|W.skip<|kbn<|ksq<|wrL (l:=[0,1]) C<|ov H C (Z.add C C) λa H=>?_; refine mv H C λa H=>O.nil<|?_; replace X:=X.fr 2; replace X:=X.fr 1; replace X:=X.fr 2; refine kth ⟨(k16,x23.1,s24,x23.2,i64.wrap (x15+1)),⟨H.q C,X,?_⟩,Nat.lt_succ_self _⟩; rw [hrec16] at M; exact M
  ·replace M:=hm_n M hc17; refine W.exit<|kte<|kte<|kbk<|?_; exact kth ⟨x12,s13,x14,H.q C,X,M⟩
 ·clear H X M a; (try clear w); rintro a w ⟨x8,s9,x10,H,X,M⟩; unfold zeE at M; refine sg (l:=[0,1,2]) C<|ov H C (lN (cs':=#[B x8,s9]) A_30 C (X.p 2 C) C C) λa H=>ost 0 #[B x8,s9] H X C C C zaa C (occ C (occ (rdo (X.s 1 C)) C)) C (bl C) C<|?_; intro w X; refine mv H C λa H=>nk<|?_; replace X:=X.sl [1,1]; refine W.ret ?_; obtain rfl:=oj M; refine post2 H C (rkn (cs':=#[B x8,s9]) C zal zaa (X.p 0 C) (bl C) C) (rkt C) ?_; replace X:=X.sl [0,1]; exact ⟨s9,C,X.noB⟩
def zeP (F:Nat) (x2:List Int):Option Unit :=
  some ()
theorem zfU (F:Nat) (s1:Value) (x2:List Int) (w0:World) (h_s1:rdEOK (hp w0) 1 E90 s1 x2) (r:Unit) (M:zeP F x2=some r) :
    Ret P 106 #[s1] w0 (G:=Nat) (λg1=>.func (.func 143) #[] #[Pv g1 0]) (λg1 w=>St w0 w noX [] [pt g1 (Cs #[s1] 28)]):=by
 unfold zeP at M; refine roW Tryz.func106 C C C (λa H=>?_); have X:St w0 w0 noX [E s1 x2] []:=Sbw (lnc (lendRd h_s1) lnn); refine sg (l:=[0,1]) C<|O.box (cs:=#[s1]) H X C C C (rdc (X.b 0 C))<|?_; intro b3 w a hb3 X H; refine mv H C λa H=>nk<|sg (l:=[0,1]) C<|ov (v:=.func (.func 143) #[] #[Pv b3 0]) H C (Z.makeFunc C C C C) λa H=>mv H C λa H=>nk<|W.ret<|?_; obtain rfl:=oj M; refine post1 H C (rkt C) ?_; exact ⟨b3,C,X.noB⟩
theorem iter_143 (b:Nat) (s:Value) (l:List Int):IterX P 143 #[Pv b 0] ((downL l).map λp=>(I p.1,.int .u32 p.2)) (RdAt 28 1 E90 b s l):=by
  intro lp R S hdrew hrd hy w h0; refine calls_of_W (l:=[.func (.yield lp) #[] #[],Pv b 0]) Tryz.func143 C C C (λa H=>?_); replace H:Fr a 19 [] [(0,.func (.yield lp) #[] #[]),(1,Pv b 0)]:=H.q C; obtain ⟨hb,hr⟩:=hrd 0 w h0; have hlen:=hr.le; refine sg (l:=[0,1,2,3]) C<|ov (v:=s) H C (Z.load1 zan C hb C) λa H=>ov H C (Z.lenE (e:=90) (by simpa using zab) C hr) λa H=>ov H C (Z.sub C C) λa H=>mv H C λa H=>nk<|?_; have hw1:IntKind.i64.wrap ((l.length:Int)-1)=(l.length:Int)-1-(0:Nat):=by
    rw [IntKind.wrap_i64]; unfold maxLen at hlen; omega
  rw [hw1] at H; replace H:Fr a 19 [] [(0,.func (.yield lp) #[] #[]),(1,Pv b 0),(3,I ((l.length:Int)-1-(0:Nat)))]:=H.q C; refine W.block<|W.loop (G:=Nat) (λk a w=>Fr a 19 [] [(0,.func (.yield lp) #[] #[]),(1,Pv b 0),(3,I ((l.length:Int)-1-k))]∧R k w∧k≤l.length) (λk=>l.length-k) 0 ⟨H,h0,Nat.zero_le _⟩<|?_; clear H hb hr h0 a; (try clear w); rintro k a w ⟨H,hR,hk⟩; obtain ⟨hb,hr⟩:=hrd k w hR; refine W.seq<|sg (l:=[0,1]) C<|mv H C λa H=>ov H C (Z.geq C C) λa H=>nk<|?_; refine W.ifdI H C (λhc=>?_) (λhc=>?_)
  · refine W.skip ?_
    refine ksq ?_; have hk1:k<l.length:=by omega
    have hi:idx l ((l.length:Int)-1-k)=some l[l.length-1-k]:=by
      unfold idx; rw [if_pos (by omega),List.getElem?_eq_some_iff]; refine ⟨by omega,?_⟩
      congr 1; omega
    have hx:((downL l).map λp=>(I p.1,Value.int .u32 p.2))[k]? = some (I ((l.length:Int)-1-k),.int .u32 l[l.length-1-k]):=by
      rw [List.getElem?_map,downL_get hk1]; simp only [Option.map_some,Option.some.injEq,Prod.mk.injEq,and_true]
      congr 1; omega
    refine W.seq<|W.block<|sg (l:=[0,1,2,3,4,5,6,7]) C<|mv H C λa H=>mv H C λa H=>ov (v:=s) H C (Z.load1 zan C hb C) λa H=>mv H C λa H=>ov (v:=ix s _) H C (Z.ixE zab zae C C hr hi) λa H=>ov H C (Z.ldE1 (o:=0) zar E90_len C hr hi C C) λa H=>O.yield2 H C C C C C (hy k _ hx w hR)<|?_; clear H hR hb hr a; (try clear w); intro c w a hc2 H; refine ov H C (Z.not C) λa H=>nk<|?_
    rcases hc2 with ⟨rfl,hR⟩ | ⟨rfl,hR⟩
    · refine W.if_ff H C ?_
      refine W.skip<|kbn<|ksq<|wrL (l:=[0,1,2]) C<|mv H C λa H=>ov H C (Z.sub C C) λa H=>mv H C λa H=>O.nil<|?_; have hw2:IntKind.i64.wrap ((l.length:Int)-1-k-1)=(l.length:Int)-1-(k+1:Nat):=by
        rw [IntKind.wrap_i64]; unfold maxLen at hlen; omega
      rw [hw2] at H; refine kth ⟨k+1,⟨H.q C,hR,by omega⟩,by omega⟩
    · refine W.if_tt H C ?_
      refine W.ret<|kbr<|ktr<|ktr<|kbr<|?_; refine post0 (H.to (L':=[]) trivial) C ⟨⟨_,C⟩,.inr hR⟩
  · refine W.exit ?_
    refine kte<|kte<|kbk<|?_; have hk2:k=l.length:=by omega
    subst hk2
    refine post_normal ?_; refine post0 (H.to (L':=[]) trivial) C ⟨⟨_,C⟩,.inl (by rw [List.length_map,downL_len]; exact hR)⟩
def zcj (F:Nat) (x14:Int):Option Int :=
  some x14
def zeG (F:Nat)  :Option Int :=
  some 0
def zeH (F:Nat) (x4:List Int) (rec11:Option Int) (x12 x13:Int) :Option Int :=
  (idx x4 x12).bind λx15=>if x13<(x15:Int) then (zcj F (-1)) else (if x13>(x15:Int) then (zcj F 1) else (rec11))
def zbv (F:Nat) (x4:List Int):List (Int × Int)→Option Int
  | []=>zeG F
  | p::t=>zeH F x4 (zbv F x4 t) p.1 p.2
def zcx (F:Nat) (x2 x4:List Int):Option Int :=
  if (x2.length:Int)≠((x4.length:Int):Int) then (if (x2.length:Int)<((x4.length:Int):Int) then (some (-1)) else (some 1)) else ((zeP F x2).bind λx9=>zbv F x4 (downL x2))
theorem zdg (F:Nat) (s1:Value) (x2:List Int) (s3:Value) (x4:List Int) (w0:World) (h_s1:rdEOK (hp w0) 1 E90 s1 x2) (h_s3:rdEOK (hp w0) 1 E90 s3 x4) (r:Int) (M:zcx F x2 x4=some r) :
    Ret P 66 #[s1,s3] w0 (G:=Unit) (λ_=>I r) (λ_ w=>St w0 w noX [] []):=by
 unfold zcx at M; refine ret_of_WM (lv:=[s1,s3]) Tryz.func66 C C C (λa H=>?_); have X:St w0 w0 noX [E s1 x2,E s3 x4] []:=Sbw (lnc (lendRd h_s1) (lnc (lendRd h_s3) lnn)); replace X:=X.mk0; refine sg (l:=[0,1]) C<|O.box (cs:=#[s3]) H X C C C (rdc (X.b 1 C))<|?_; intro b5 w a hb5 X H; refine O.alloc (cs:=#[I 0]) H X C C zj1 C ?_; intro b6 w a hb6 X H; refine nk<|W.seq<|sg (l:=[0,1,2,3,4]) C<|mv H C λa H=>ov (v:=I (x2.length:Int)) H C (Z.lenE (e:=90) (by simpa using zab) C (X.b 0 C)) λa H=>ov (v:=s3) H C (Z.load1 zan C (X.p 1 C) C) λa H=>ov (v:=I (x4.length:Int)) H C (Z.lenE (e:=90) (by simpa using zab) C (X.b 1 C)) λa H=>ov H C (Z.neq C C) λa H=>nk<|?_; refine W.ifdI H C (λhc7=>?_) (λhc7=>?_)
 ·replace M:=hm_p M hc7; refine W.seq<|sg (l:=[0,1,2,3,4]) C<|mv H C λa H=>ov (v:=I (x2.length:Int)) H C (Z.lenE (e:=90) (by simpa using zab) C (X.b 0 C)) λa H=>ov (v:=s3) H C (Z.load1 zan C (X.p 1 C) C) λa H=>ov (v:=I (x4.length:Int)) H C (Z.lenE (e:=90) (by simpa using zab) C (X.b 1 C)) λa H=>ov H C (Z.lss C C) λa H=>nk<|?_; refine W.ifdI H C (λhc8=>?_) (λhc8=>?_)
  ·replace M:=hm_p M hc8; refine sg (l:=[0]) C<|ost 0 #[I (-1)] H X C C C zgG C C C (bl C) C<|?_; intro w X; refine nk<|W.ret<|ktr<|ktr<|?_; replace X:=X.fr 1; replace X:=X.fr 1; replace X:=X.fr 2; refine postM (Ds:=[]) X H (λw a H X=>?_); obtain rfl:=oj M; refine post1 H C (rkc C zbr (X.p 0 C) C) ?_; replace X:=X.s0; exact ⟨(),C,X.noB⟩
  ·replace M:=hm_n M hc8; refine W.skip<|ksq<|sg (l:=[0]) C<|ost 0 #[I 1] H X C C C zgG C C C (bl C) C<|?_; intro w X; refine nk<|W.ret<|ktr<|?_; replace X:=X.fr 1; replace X:=X.fr 1; replace X:=X.fr 2; refine postM (Ds:=[]) X H (λw a H X=>?_); obtain rfl:=oj M; refine post1 H C (rkc C zbr (X.p 0 C) C) ?_; replace X:=X.s0; exact ⟨(),C,X.noB⟩
 ·replace M:=hm_n M hc7; refine W.skip<|ksq<|W.seq<|sg (l:=[0,1]) C<|mv H C λa H=>?_; refine hb M λx9 hx9 M=>oq H X C zh7 (zfU F s1 x2 _ (X.b 0 C) x9 hx9) ?_; rintro b10 w X a H; refine nk<|W.block<|?_; replace X:=X.fr 1; replace X:=X.fr 2; replace X:=X.fr 3; refine W.rangeFn2 (G:=Unit) (G2:=Int) (gf:=143) (lb:=#[Pv b10 0]) (xs:=(downL x2).map (λp:Int × Int=>(I p.1,Value.int .u32 p.2))) (λx y=>[(3,Pv b5 0),(4,Pv b6 0),(5,x),(6,y),(18,.func (.func 143) #[] #[Pv b10 0]),(19,x),(20,y)]) (λg=>match g with | _=>[mkA [],pt b5 (Cs #[s3] 28),pI3 b6 0,pt b10 (Cs #[s1] 28)]) (λk g=>match g with | _=>zbv F x4 ((downL x2).drop k)=some r) () (RdAt 28 1 E90 b10 s1 x2) (λg=>match g with | x14=>[mkA [],pt b5 (Cs #[s3] 28),pI3 b6 x14,pt b10 (Cs #[s1] 28)]) (λg=>match g with | x14=>zcj F x14=some r) H C C C zh9 X M (iter_143 _ _ _) ?_ ?_ ?_ ?_ ?_
  ·rintro _ w X; replace X:St w0 w noX [E s1 x2,E s3 x4] [mkA [],pt b5 (Cs #[s3] 28),pI3 b6 0,pt b10 (Cs #[s1] 28)]:=X; exact ⟨X.ptAt (i:=3) C,(X.b 0 C)⟩
  ·clear H X M a; (try clear w); intro l x y w a H; refine sg (l:=[0]) C<|mv H C λa H=>nk<|wrL (l:=[0]) C<|mv H C λa H=>O.nil<|?_; exact ⟨C,H.q C,C⟩
  ·clear H X M a; (try clear w); rintro dl11 do11 dD11 k11 x y _ w hx M X a H; obtain ⟨⟨x12,x13⟩,hp,hxy⟩:=down_x hx; obtain ⟨rfl,rfl⟩:=Prod.mk.inj hxy; replace X:St w0 w noX [E s1 x2,E s3 x4] [pt dl11 do11,pt dD11 (.deferred (some [])),mkA [],pt b5 (Cs #[s3] 28),pI3 b6 0,pt b10 (Cs #[s1] 28)]:=X; replace M:zbv F x4 ((downL x2).drop k11)=some r:=M; rw [drop_cons hp] at M; replace M:zeH F x4 (zbv F x4 ((downL x2).drop (k11+1))) x12 x13=some r:=M; obtain ⟨rec11,hrec11⟩:∃ f,f=zbv F x4 ((downL x2).drop (k11+1)):=⟨_,C⟩; rw [← hrec11] at M; unfold zeH at M; refine W.block<|W.seq<|sg (l:=[0,1,2,3,4,5]) C<|mv H C λa H=>ov (v:=s3) H C (Z.load1 zan C (X.p 3 C) C) λa H=>mv H C λa H=>?_; refine hb M λx15 hx15 M=>ov H C (Z.ixE zab zae C C (X.b 1 C) hx15) λa H=>ov H C (Z.ldE1 (o:=0) zar E90_len C (X.b 1 C) hx15 C C) λa H=>ov H C (Z.lss C C) λa H=>nk<|?_; refine W.ifdI H C (λhc16=>?_) (λhc16=>?_)
   ·replace M:=hm_p M hc16; refine sg (l:=[0]) C<|ost 4 #[I (-1)] H X C C C zgG C C C (bl C) C<|?_; intro w X; refine nk<|W.ret<|ktr<|kbr<|?_; exact .inr ⟨C,-1,M,X⟩
   ·replace M:=hm_n M hc16; refine W.skip<|ksq<|sg (l:=[0,1,2,3,4,5]) C<|mv H C λa H=>ov (v:=s3) H C (Z.load1 zan C (X.p 3 C) C) λa H=>mv H C λa H=>ov H C (Z.ixE zab zae C C (X.b 1 C) hx15) λa H=>ov H C (Z.ldE1 (o:=0) zar E90_len C (X.b 1 C) hx15 C C) λa H=>ov H C (Z.gtr C C) λa H=>nk<|?_; refine W.ifdI H C (λhc17=>?_) (λhc17=>?_)
    ·replace M:=hm_p M hc17; refine sg (l:=[0]) C<|ost 4 #[I 1] H X C C C zgG C C C (bl C) C<|?_; intro w X; refine nk<|W.ret<|kbr<|?_; exact .inr ⟨C,1,M,X⟩
    ·replace M:=hm_n M hc17; refine W.skip<|kbn<|?_; exact .inl ⟨C,(),by rw [hrec11] at M; exact M,X⟩
  ·clear H X M a; (try clear w); rintro dD11 _ a w M X H; replace M:zbv F x4 ((downL x2).drop ((downL x2).map (λp:Int × Int=>(I p.1,Value.int .u32 p.2))).length)=some r:=M; rw [List.length_map,List.drop_length] at M; replace M:zeG F=some r:=M; unfold zeG at M; replace H:Fr a 33 (mkDs (dD11::[])) [(3,Pv b5 0),(4,Pv b6 0),(18,.func (.func 143) #[] #[Pv b10 0])]:=H.q C; replace X:St w0 w noX [E s1 x2,E s3 x4] (pt dD11 (.deferred (some []))::[mkA [],pt b5 (Cs #[s3] 28),pI3 b6 0,pt b10 (Cs #[s1] 28)]):=X; replace X:=X.mkCons; refine kbn<|ksq<|sg (l:=[0]) C<|ost 2 #[I 0] H X C C C zgG C C C (bl C) C<|?_; intro w X; refine nk<|W.ret<|?_; refine postM (Ds:=(dD11::[])) X H (λw a H X=>?_); obtain rfl:=oj M; refine post1 H C (rkc C zbr (X.p 1 C) C) ?_; replace X:=X.s0; exact ⟨(),C,X.noB⟩
  ·clear H X M a; (try clear w); rintro dD11 x14 a w M X H; replace M:zcj F x14=some r:=M; unfold zcj at M; replace H:Fr a 33 (mkDs (dD11::[])) [(3,Pv b5 0),(4,Pv b6 0),(18,.func (.func 143) #[] #[Pv b10 0])]:=H.q C; replace X:St w0 w noX [E s1 x2,E s3 x4] (pt dD11 (.deferred (some []))::[mkA [],pt b5 (Cs #[s3] 28),pI3 b6 x14,pt b10 (Cs #[s1] 28)]):=X; replace X:=X.mkCons; refine kbr<|ktr<|?_; refine postM (Ds:=(dD11::[])) X H (λw a H X=>?_); obtain rfl:=oj M; refine post1 H C (rkc C zbr (X.p 1 C) C) ?_; replace X:=X.s0; exact ⟨(),C,X.noB⟩
def ze0 (F:Nat) (x1:Bool) (x3:List Int) (x4:Bool) (x6:List Int):Option Int :=
  if (x1&&(!x4))=true then (some (-1)) else (if ((!x1)&&x4)=true then (none) else (if (x1)=true then (none) else ((zcx F x3 x6).bind λx14=>some x14)))
theorem zhB (F:Nat) (x1:Bool) (s2:Value) (x3:List Int) (x4:Bool) (s5:Value) (x6:List Int) (w0:World) (h_s2:rdEOK (hp w0) 1 E90 s2 x3) (h_s5:rdEOK (hp w0) 1 E90 s5 x6) (r:Int) (M:ze0 F x1 x3 x4 x6=some r) :
    Ret P 36 #[.agg #[B x1,s2],.agg #[B x4,s5]] w0 (G:=Unit) (λ_=>I r) (λ_ w=>St w0 w noX [] []):=by
 unfold ze0 at M; refine roW Tryz.func36 C C C (λa H=>?_); have X:St w0 w0 noX [E s2 x3,E s5 x6] []:=Sbw (lnc (lendRd h_s2) (lnc (lendRd h_s5) lnn)); refine sg (l:=[0,1,2]) C<|O.box (cs:=#[B x1,s2]) H X C C C C<|?_; intro b7 w a hb7 X H; refine O.box (cs:=#[B x4,s5]) H X C C C C ?_; intro b8 w a hb8 X H; refine mv H C λa H=>nk<|W.seq<|W.block<|sg (l:=[0,1,2,3,4,5,6,7]) C<|ov H C (Z.field zgF C C) λa H=>ov H C (Z.load1 zav C (X.p 1 C) C) λa H=>mv H C λa H=>?_; refine O.cutN (l₁:=[3,4,5,6]) (l₂:=_) (λa w=>Fr a 34 [] [(2,Pv b7 0),(3,Pv b8 0),(4,I 0),(12,B (x1&&(!x4)))]∧St w0 w noX [E s2 x3,E s5 x6] [pW30 b8 x4 s5,pt b7 (Cs #[B x1,s2] 92)]) C ?_ ?_
 ·rcases Bool.eq_false_or_eq_true (x1) with hb9 | hb9
  ·refine og H C hb9 (Z.field zao C C) λa H=>og H C hb9 (Z.load1 zav C (X.p 0 C) C) λa H=>og H C hb9 (Z.not C) λa H=>?_; refine ov (v:=B (x1&&(!x4))) H C (Z.pick C C C (by rw [hb9]; rfl)) ?_; clear H a; intro a H; exact O.nil ⟨C,H.q C,X⟩
  ·refine sk H C hb9 λa H=>sk H C hb9 λa H=>sk H C hb9 λa H=>?_; refine ov (v:=B (x1&&(!x4))) H C (Z.pick C C C (by rw [hb9]; rfl)) ?_; clear H a; intro a H; exact O.nil ⟨C,H.q C,X⟩
 clear H X a; (try clear w); rintro a w ⟨H,X⟩; refine mv H C λa H=>nk<|?_; refine W.if_ H C (λhc10=>?_) (λhc10=>?_)
 ·replace M:=hm_t M hc10; refine sg (l:=[0]) C<|mv H C λa H=>nk<|W.ret<|kbr<|ktr<|?_; obtain rfl:=oj M; refine post1 H C (rkt C) ?_; replace X:=X.s0; exact ⟨(),C,X.noB⟩
 ·replace M:=hm_f M hc10; refine sg (l:=[0,1,2,3,4,5,6,7]) C<|ov H C (Z.field zgF C C) λa H=>ov H C (Z.load1 zav C (X.p 1 C) C) λa H=>ov H C (Z.not C) λa H=>mv H C λa H=>?_; refine O.cutN (l₁:=[4,5,6]) (l₂:=_) (λa w=>Fr a 34 [] [(2,Pv b7 0),(3,Pv b8 0),(4,I 0),(20,B ((!x1)&&x4))]∧St w0 w noX [E s2 x3,E s5 x6] [pW30 b8 x4 s5,pt b7 (Cs #[B x1,s2] 92)]) C ?_ ?_
  ·rcases Bool.eq_false_or_eq_true (!x1) with hb11 | hb11
   ·refine og H C hb11 (Z.field zao C C) λa H=>og H C hb11 (Z.load1 zav C (X.p 0 C) C) λa H=>?_; refine ov (v:=B ((!x1)&&x4)) H C (Z.pick C C C (by rw [hb11]; rfl)) ?_; clear H a; intro a H; exact O.nil ⟨C,H.q C,X⟩
   ·refine sk H C hb11 λa H=>sk H C hb11 λa H=>?_; refine ov (v:=B ((!x1)&&x4)) H C (Z.pick C C C (by rw [hb11]; rfl)) ?_; clear H a; intro a H; exact O.nil ⟨C,H.q C,X⟩
  clear H X a; (try clear w); rintro a w ⟨H,X⟩; refine mv H C λa H=>nk<|?_; refine W.if_ H C (λhc12=>?_) (λhc12=>?_)
  ·nomatch hm_t M hc12
  ·replace M:=hm_f M hc12; refine sg (l:=[0,1,2]) C<|ov H C (Z.field zgF C C) λa H=>ov H C (Z.load1 zav C (X.p 1 C) C) λa H=>mv H C λa H=>nk<|?_; refine W.if_ H C (λhc13=>?_) (λhc13=>?_)
   ·nomatch hm_t M hc13
   ·replace M:=hm_f M hc13; refine W.skip<|kbn<|ksq<|sg (l:=[0,1,2,3,4,5]) C<|ov H C (Z.field zi5 C C) λa H=>ov (v:=s2) H C (Z.load1 zan C (X.p 1 C) C) λa H=>ov H C (Z.field zak C C) λa H=>ov (v:=s5) H C (Z.load1 zan C (X.p 0 C) C) λa H=>?_; refine hb M λx14 hx14 M=>oq H X C zhR (zdg F s2 x3 s5 x6 _ (X.b 0 C) (X.b 1 C) x14 hx14) ?_; rintro _ w X a H; refine mv H C λa H=>nk<|?_; replace X:=X.s0; refine W.ret ?_; obtain rfl:=oj M; refine post1 H C (rkt C) ?_; exact ⟨(),C,X.noB⟩
def zc5 (F:Nat) (x1:Bool) (x3:List Int) (x4:Bool) (x6:List Int):Option Int :=
  (zbx F x1 x3 x4 x6).bind λx10=>(ze0 F x1 x3 x4 x6).bind λx11=>some x11
theorem zcT (F:Nat) (x1:Bool) (s2:Value) (x3:List Int) (x4:Bool) (s5:Value) (x6:List Int) (w0:World) (h_s2:rdEOK (hp w0) 1 E90 s2 x3) (h_s5:rdEOK (hp w0) 1 E90 s5 x6) (r:Int) (M:zc5 F x1 x3 x4 x6=some r) :
    Ret P 20 #[.agg #[B x1,s2],.agg #[B x4,s5]] w0 (G:=Unit) (λ_=>.tuple #[I r,I 0]) (λ_ w=>St w0 w noX [] []):=by
 unfold zc5 at M; refine roW Tryz.func20 C C C (λa H=>?_); have X:St w0 w0 noX [E s2 x3,E s5 x6] []:=Sbw (lnc (lendRd h_s2) (lnc (lendRd h_s5) lnn)); refine sg (l:=[0,1,2,3]) C<|O.box (cs:=#[B x1,s2]) H X C C C C<|?_; intro b7 w a hb7 X H; refine O.box (cs:=#[B x4,s5]) H X C C C C ?_; intro b8 w a hb8 X H; refine mv2 H C C λa H=>nk<|W.seq<|sg (l:=[0,1,2,3,4]) C<|ov H C (lN (cs':=#[B x1,s2]) A_30 C (X.p 1 C) C C) λa H=>ov H C (lN (cs':=#[B x4,s5]) A_30 C (X.p 0 C) C C) λa H=>O.buildSlice (cs':=#[B x1,s2,B x4,s5]) (zs:=#[B false,.slice none 0 0,B false,.slice none 0 0]) H X C C zaX zaa zac C C C C C<|?_; intro b9 w a hb9 X H; refine hb M λx10 hx10 M=>oq H X C zcQ (zbG F b9 x1 s2 x3 x4 s5 x6 _ (X.b 0 C) (X.b 1 C) (X.p 0 C) x10 hx10) ?_; rintro _ w X a H; refine mv H C λa H=>nk<|?_; replace X:=X.sl [0,1,1]; refine sg (l:=[0,1]) C<|mv H C λa H=>ov H C (Z.neq (p:=0) (q:=0) C C) λa H=>nk<|W.if_ff H C<|W.skip<|ksq<|sg (l:=[0,1,2]) C<|ov H C (lN (cs':=#[B x1,s2]) A_30 C (X.p 1 C) C C) λa H=>ov (v:=.func (.func 36) #[.agg #[B x1,s2]] #[]) H C (Z.makeFunc C C C C) λa H=>?_; refine mv H C λa H=>nk<|?_; replace X:=X.sl [1]; refine sg (l:=[0,1,2,3,4]) C<|mv H C λa H=>ov H C (lN (cs':=#[B x4,s5]) A_30 C (X.p 0 C) C C) λa H=>?_; refine hb M λx11 hx11 M=>oq H X C zj8 (zhB F x1 s2 x3 x4 s5 x6 _ (X.b 0 C) (X.b 1 C) x11 hx11) ?_; rintro _ w X a H; refine mv2 H C C λa H=>nk<|?_; replace X:=X.s0; refine W.ret ?_; obtain rfl:=oj M; refine post2 H C (rkt C) (rkt C) ?_; exact ⟨(),C,X.noB⟩
def zb0 (F:Nat) (x12 x13:Int):Option (Bool × Int) :=
  some (decide (x12≤(0:Int)),x13)
def zb1 (F:Nat) (x8:Bool × (List Int)) (x5:Bool) (x7:List Int) (x11:Int):Option (Bool × Int) :=
  (zc5 F x8.1 x8.2 x5 x7).bind λx12=>if x11=(0:Int) then (zb0 F x12 0) else (zb0 F x12 x11)
def zdY (F:Nat) (x1 x3:Int) (x5:Bool) (x7:List Int):Option (Bool × Int) :=
  (zfT F x1).bind λx8=>if x3=(0:Int) then (zb1 F x8 x5 x7 0) else (zb1 F x8 x5 x7 x3)
theorem zg1 (F:Nat) (x1:Int) (b2:Nat) (x3:Int) (b4:Nat) (x5:Bool) (s6:Value) (x7:List Int) (w0:World) (h_s6:rdEOK (hp w0) 1 E90 s6 x7) (h_b2:w0.heap[b2]? = some (.cells #[I x3] 34 (0,0))) (h_b4:w0.heap[b4]? = some (.cells #[B x5,s6] 30 (0,0))) (ap_s6:∀ k,(E s6 x7).fp k→¬ (pI34 b2 x3).fp k) (ap_b4:∀ k,(pW30 b4 x5 s6).fp k→¬ (pI34 b2 x3).fp k) (r:Bool × Int) (M:zdY F x1 x3 x5 x7=some r) :
    Ret P 18 #[I x1,Pv b2 0,Pv b4 0] w0 (G:=Unit) (λ_=>B r.1) (λ_ w=>St w0 w (λk=>k=b2) [] [pI34 b2 r.2]):=by
 unfold zdY at M; refine roW Tryz.func18 C C C (λa H=>?_); have X:St w0 w0 (λk=>k=b2) [E s6 x7,pW30 b4 x5 s6] [pI34 b2 x3]:=St.ownPt h_b2 (lnc (lendRd h_s6) (lnc (lendPt h_b4) lnn)) (apAll_cons ap_s6 (apAll_cons ap_b4 (apAll_nil (q:=pI34 b2 x3)))); refine sg (l:=[0]) C<|mv H C λa H=>nk<|sg (l:=[0,1,2,3,4,5,6,7]) C<|mv H C λa H=>?_; refine hb M λx8 hx8 M=>oq H X C zj4 (zhZ F x1 _ x8 hx8) ?_; rintro s9 w X a H; refine mv H C λa H=>ex H C C C λa H=>ex H C C C λa H=>O.alloc (cs:=#[B false,.slice none 0 0]) H X C C zac C<|?_; intro b10 w a hb10 X H; refine ost 0 #[B x8.1,s9] H X C C C zaa C (occ C (occ (rdo (X.s 1 C)) C)) C (bl C) C ?_; intro w X; refine mv H C λa H=>nk<|?_; refine W.seqR (λa w=>∃ (x11:Int),Fr a 27 [] [(1,Pv b2 0),(2,Pv b4 0),(4,B false),(5,Pv b10 0),(6,I 0)]∧St w0 w (λk=>k=b2) [E s6 x7,pW30 b4 x5 s6] [pI34 b2 x11,D s9 x8.2,pW30 b10 x8.1 s9]∧zb1 F x8 x5 x7 x11=some r) ?_ ?_
 ·refine sg (l:=[0,1]) C<|ov H C (Z.load1 zbI C (X.p 2 C) C) λa H=>ov H C (Z.eql C C) λa H=>nk<|?_; refine W.ifdI H C (λhc15=>?_) (λhc15=>?_)
  ·replace M:=hm_p M hc15; refine wrL (l:=[0,1]) C<|mv H C λa H=>ost 2 #[I 0] H X C C C zb4 C C C (bl C) C<|?_; intro w X; refine O.nil ?_; replace X:=X.fr 1; replace X:=X.fr 2; exact kth ⟨0,H.q C,X,M⟩
  ·replace M:=hm_n M hc15; refine W.skip ?_; replace X:=X.fr 1; replace X:=X.fr 2; exact kth ⟨x3,H.q C,X,M⟩
 ·clear H X M a; (try clear w); rintro a w ⟨x11,H,X,M⟩; unfold zb1 at M; refine sg (l:=[0,1,2,3,4,5,6,7]) C<|ov H C (lN (cs':=#[B x8.1,s9]) A_30 C (X.p 2 C) C C) λa H=>ov H C (Z.loadN (cs':=#[B x5,s6]) zal zaa C (X.bptAt (i:=1) C) (bl C) C) λa H=>?_; refine hb M λx12 hx12 M=>oq H X C zgz (zcT F x8.1 s9 x8.2 x5 s6 x7 _ (X.s 1 C) (X.b 0 C) x12 hx12) ?_; rintro _ w X a H; refine mv H C λa H=>ex H C C C λa H=>ex H C C C λa H=>mv2 H C C λa H=>nk<|?_; replace X:=X.sl [1]; refine W.seqR (λa w=>∃ (x13:Int),Fr a 27 [] [(4,B false),(7,I x12)]∧St w0 w (λk=>k=b2) [E s6 x7,pW30 b4 x5 s6] [pI34 b2 x13]∧zb0 F x12 x13=some r) ?_ ?_
  ·refine sg (l:=[0,1]) C<|ov H C (Z.load1 zbI C (X.p 0 C) C) λa H=>ov H C (Z.eql C C) λa H=>nk<|?_; refine W.ifdI H C (λhc14=>?_) (λhc14=>?_)
   ·replace M:=hm_p M hc14; refine wrL (l:=[0,1]) C<|mv H C λa H=>ost 0 #[I 0] H X C C C zb4 C C C (bl C) C<|?_; intro w X; refine O.nil ?_; exact kth ⟨0,H.q C,X,M⟩
   ·replace M:=hm_n M hc14; refine W.skip ?_; exact kth ⟨x11,H.q C,X,M⟩
  ·clear H X M a; (try clear w); rintro a w ⟨x13,H,X,M⟩; unfold zb0 at M; refine sg (l:=[0,1,2]) C<|mv H C λa H=>ov H C (Z.leq C C) λa H=>mv H C λa H=>nk<|W.ret<|?_; obtain rfl:=oj M; refine post1 H C (rkt C) ?_; exact ⟨(),C,X.noB⟩
def za2 (F:Nat) (x9 x10:Int):Option (Int × Int) :=
  some (x9,x10)
def za3 (F:Nat) (x6:Bool) (x8:List Int) (rec14:Int→Int→Int→Option (Int × Int)) (x11 x12 x13:Int):Option (Int × Int) :=
  if x11<(x12:Int) then ((some (i64.wrap (x11+(i64.wrap (Int.tdiv (i64.wrap ((i64.wrap (x12-x11))+1)) 2))))).bind λx16=>(zdY F x16 x13 x6 x8).bind λx17=>if (x17.1)=true then (rec14 x16 x12 x17.2) else (rec14 x11 (i64.wrap (x16-1)) x17.2)) else (za2 F x11 x13)
def zaA (F:Nat) (x6:Bool) (x8:List Int):Nat→Int→Int→Int→Option (Int × Int)
  | 0,_,_,_=>none
  | n+1,x11,x12,x13=>za3 F x6 x8 (zaA F x6 x8 n) x11 x12 x13
def zbc (F:Nat) (x1 x2 x4:Int) (x6:Bool) (x8:List Int):Option (Int × Int) :=
  zaA F x6 x8 F x1 x2 x4
theorem zdl (F:Nat) (x1 x2:Int) (b3:Nat) (x4:Int) (b5:Nat) (x6:Bool) (s7:Value) (x8:List Int) (w0:World) (h_s7:rdEOK (hp w0) 1 E90 s7 x8) (h_b3:w0.heap[b3]? = some (.cells #[I x4] 34 (0,0))) (h_b5:w0.heap[b5]? = some (.cells #[B x6,s7] 30 (0,0))) (ap_s7:∀ k,(E s7 x8).fp k→¬ (pI34 b3 x4).fp k) (ap_b5:∀ k,(pW30 b5 x6 s7).fp k→¬ (pI34 b3 x4).fp k) (r:Int × Int) (M:zbc F x1 x2 x4 x6 x8=some r) :
    Ret P 17 #[I x1,I x2,.func (.func 18) #[] #[Pv b3 0,Pv b5 0]] w0 (G:=Unit) (λ_=>I r.1) (λ_ w=>St w0 w (λk=>k=b3) [] [pI34 b3 r.2]):=by
 unfold zbc at M; refine roW Tryz.func17 C C C (λa H=>?_); have X:St w0 w0 (λk=>k=b3) [E s7 x8,pW30 b5 x6 s7] [pI34 b3 x4]:=St.ownPt h_b3 (lnc (lendRd h_s7) (lnc (lendPt h_b5) lnn)) (apAll_cons ap_s7 (apAll_cons ap_b5 (apAll_nil (q:=pI34 b3 x4)))); refine sg (l:=[0]) C<|mv H C λa H=>nk<|?_; refine W.seqR (λa w=>∃ (x9:Int) (x10:Int),Fr a 25 [] [(0,I x9),(6,I 0)]∧St w0 w (λk=>k=b3) [E s7 x8,pW30 b5 x6 s7] [pI34 b3 x10]∧za2 F x9 x10=some r) ?_ ?_
 ·refine W.block<|W.loop (G:=Nat × Int × Int × Int) (λg a w=>match g with | (k14,x11,x12,x13)=>Fr a 25 [] [(0,I x11),(1,I x12),(2,.func (.func 18) #[] #[Pv b3 0,Pv b5 0]),(6,I 0)]∧St w0 w (λk=>k=b3) [E s7 x8,pW30 b5 x6 s7] [pI34 b3 x13]∧zaA F x6 x8 k14 x11 x12 x13=some r) (λg=>match g with | (k14,x11,x12,x13)=>k14) (F,x1,x2,x4) ⟨H.q C,X,M⟩<|?_; clear H X M a; (try clear w); rintro ⟨k14,x11,x12,x13⟩ a w ⟨H,X,M⟩
  rcases k14 with _ | k14
  · nomatch M
  replace M:za3 F x6 x8 (zaA F x6 x8 k14) x11 x12 x13=some r:=M; obtain ⟨rec14,hrec14⟩:∃ f,f=zaA F x6 x8 k14:=⟨_,C⟩; rw [← hrec14] at M; unfold za3 at M; refine W.seq<|sg (l:=[0,1,2]) C<|mv2 H C C λa H=>ov H C (Z.lss C C) λa H=>nk<|?_; refine W.ifdI H C (λhc15=>?_) (λhc15=>?_)
  ·replace M:=hm_p M hc15; refine W.skip<|ksq<|W.block<|sg (l:=[0,1,2,3,4,5,6,7]) C<|mv2 H C C λa H=>mv H C λa H=>ov H C (Z.sub C C) λa H=>ov H C (Z.add C C) λa H=>ov (v:=I (i64.wrap (Int.tdiv (i64.wrap ((i64.wrap (x12-x11))+1)) 2))) H C (Z.quo (q:=2) C C (by decide)) λa H=>?_; refine ov H C (Z.add C C) λa H=>mv H C λa H=>nk<|?_; obtain ⟨x16,hx16,M⟩:=hm_b M; rw [oj hx16] at H; refine sg (l:=[0,1,2]) C<|mv2 H C C λa H=>?_; refine hb M λx17 hx17 M=>oc H C zj3 (zg1 F x16 b3 x13 b5 x6 s7 x8 _ (X.b 0 C) (X.p 0 C) (X.bptAt (i:=1) C) (X.apart (i:=0) (j:=0) C C) (X.apart (i:=0) (j:=1) C C) x17 hx17) ?_; rintro _ w Y a H; replace X:=X.cz Y 0 λ_ h=>h; refine nk ?_; refine W.if_ H C (λhc18=>?_) (λhc18=>?_)
   ·replace M:=hm_t M hc18; refine wrL (l:=[0,1]) C<|mv2 H C C λa H=>O.nil<|kbn<|?_; refine kth ⟨(k14,x16,x12,x17.2),⟨H.q C,X,?_⟩,Nat.lt_succ_self _⟩; rw [hrec14] at M; exact M
   ·replace M:=hm_f M hc18; refine wrL (l:=[0,1,2]) C<|mv H C λa H=>ov H C (Z.sub C C) λa H=>mv H C λa H=>O.nil<|kbn<|?_; refine kth ⟨(k14,x11,i64.wrap (x16-1),x17.2),⟨H.q C,X,?_⟩,Nat.lt_succ_self _⟩; rw [hrec14] at M; exact M
  ·replace M:=hm_n M hc15; refine W.exit<|kte<|kte<|kbk<|?_; exact kth ⟨x11,x13,H.q C,X,M⟩
 ·clear H X M a; (try clear w); rintro a w ⟨x9,x10,H,X,M⟩; unfold za2 at M; refine sg (l:=[0,1]) C<|mv2 H C C λa H=>nk<|W.ret<|?_; obtain rfl:=oj M; refine post1 H C (rkt C) ?_; exact ⟨(),C,X.noB⟩
def zaG (F:Nat) (x1:Int):Option (Int × Int) :=
  if ((decide (x1<(1:Int)))||(decide (x1>(1125899906842624:Int))))=true then (some (0,2)) else ((zaZ F x1).bind λx4=>(zfl F x4.1 x4.2 250).bind λx6=>(zbc F 0 4000 0 x6.1 x6.2).bind λx10=>if x10.2≠(0:Int) then (none) else (some (x10.1,0)))
theorem zgc (F:Nat) (x1:Int) (w0:World) (r:Int × Int) (M:zaG F x1=some r) :
    Ret P 6 #[I x1] w0 (G:=Unit) (λ_=>.tuple #[I r.1,I r.2]) (λ_ w=>St w0 w noX [] []):=by
 unfold zaG at M; refine roW Tryz.func6 C C C (λa H=>?_); have X:St w0 w0 noX [] []:=Sbw lnn; refine sg (l:=[0,1]) C<|mv2 H C C λa H=>nk<|W.seq<|sg (l:=[0,1,2,3,4,5]) C<|mv H C λa H=>ov H C (Z.lss C C) λa H=>mv H C λa H=>?_; refine O.cutN (l₁:=[3,4,5]) (l₂:=_) (λa w=>Fr a 25 [] [(0,I x1),(2,I 0),(3,I 0),(12,B ((decide (x1<(1:Int)))||(decide (x1>(1125899906842624:Int)))))]∧St w0 w noX [] []) C ?_ ?_
 ·rcases Bool.eq_false_or_eq_true (decide (x1<(1:Int))) with hb2 | hb2
  ·refine sk H C hb2 λa H=>sk H C hb2 λa H=>?_; refine ov (v:=B ((decide (x1<(1:Int)))||(decide (x1>(1125899906842624:Int))))) H C (Z.pick C C C (by rw [hb2]; rfl)) ?_; clear H a; intro a H; exact O.nil ⟨C,H.q C,X⟩
  ·refine og H C hb2 (Z.move C) λa H=>og H C hb2 (Z.gtr C C) λa H=>?_; refine ov (v:=B ((decide (x1<(1:Int)))||(decide (x1>(1125899906842624:Int))))) H C (Z.pick C C C (by rw [hb2]; rfl)) ?_; clear H a; intro a H; exact O.nil ⟨C,H.q C,X⟩
 clear H X a; (try clear w); rintro a w ⟨H,X⟩; refine nk ?_; refine W.if_ H C (λhc3=>?_) (λhc3=>?_)
 ·replace M:=hm_t M hc3; refine sg (l:=[0,1]) C<|mv2 H C C λa H=>nk<|W.ret<|ktr<|?_; obtain rfl:=oj M; refine post2 H C (rkt C) (rkt C) ?_; exact ⟨(),C,X.noB⟩
 ·replace M:=hm_f M hc3; refine W.skip<|ksq<|sg (l:=[0,1,2,3,4,5,6,7,8,9]) C<|mv H C λa H=>?_; refine hb M λx4 hx4 M=>oq H X C zcv (zaN F x1 _ x4 hx4) ?_; rintro s5 w X a H; refine hb M λx6 hx6 M=>oq H X C zit (zgg F x4.1 s5 x4.2 250 _ (X.s 0 C) x6 hx6) ?_; rintro s7 w X a H; refine mv H C λa H=>ex H C C C λa H=>ex H C C C λa H=>O.alloc (cs:=#[B false,.slice none 0 0]) H X C C zac C<|?_; intro b8 w a hb8 X H; refine O.alloc (cs:=#[I 0]) H X C C zfh C ?_; intro b9 w a hb9 X H; refine ost 1 #[B x6.1,s7] H X C C C zaa C (occ C (occ (rdo (X.s 2 C)) C)) C (bl C) C ?_; intro w X; refine ost 0 #[I 0] H X C C C zb4 C C C (bl C) C ?_; intro w X; refine nk ?_; replace X:=X.sl [1,1,1]; refine sg (l:=[0,1,2]) C<|ov (v:=.func (.func 18) #[] #[Pv b9 0,Pv b8 0]) H C (Z.makeFunc C C C C) λa H=>?_; refine hb M λx10 hx10 M=>oc H C zj2 (zdl F 0 4000 b9 0 b8 x6.1 s7 x6.2 _ (X.s 2 C) (X.p 0 C) (X.p 1 C) (apRd (X.apMM (i:=0) (j:=2) C C (by decide))) (X.apMM (i:=0) (j:=1) C C (by decide)) x10 hx10) ?_; rintro _ w Y a H; replace X:=X.cz Y 0 λ_ h=>h; refine mv H C λa H=>nk<|?_; replace X:=X.sl [1]; refine W.seq<|sg (l:=[0,1]) C<|ov H C (Z.load1 zbI C (X.p 0 C) C) λa H=>ov H C (Z.neq C C) λa H=>nk<|?_; refine W.ifdI H C (λhc11=>?_) (λhc11=>?_)
  ·nomatch hm_p M hc11
  ·replace M:=hm_n M hc11; refine W.skip<|ksq<|?_; replace X:=X.s0; refine sg (l:=[0,1,2]) C<|mv2 H C C λa H=>mv H C λa H=>nk<|W.ret<|?_; obtain rfl:=oj M; refine post2 H C (rkt C) (rkt C) ?_; exact ⟨(),C,X.noB⟩
theorem fR_0:zaG 10000 0=some (0,2):=by kernel_rfl
theorem fR_1:zaG 10000 1125899906842625=some (0,2):=by kernel_rfl
theorem fR_2:zaG 10000 1=some (0,0):=by kernel_rfl
theorem fR_3:zaG 10000 100=some (500,0):=by kernel_rfl
theorem fR_4:zaG 10000 10000=some (1000,0):=by kernel_rfl
theorem fR_5:zaG 10000 1000=some (750,0):=by kernel_rfl
theorem fR_6:zaG 10000 1125899906842624=some (3762,0):=by kernel_rfl
theorem fR_7:zaG 10000 10=some (250,0):=by kernel_rfl
theorem fR_8:zaG 10000 2=some (75,0):=by kernel_rfl
theorem fR_9:zaG 10000 999=some (749,0):=by kernel_rfl
def tR_:List ((Int) × (Int × Int)):=[(0,(0,2)),(1125899906842625,(0,2)),(1,(0,0)),(100,(500,0)),(10000,(1000,0)),(1000,(750,0)),(1125899906842624,(3762,0)),(10,(250,0)),(2,(75,0)),(999,(749,0))]
theorem tR__ok:AllT (λ(x:Int) r=>zaG 10000 x=some r) tR_:=⟨fR_0,fR_1,fR_2,fR_3,fR_4,fR_5,fR_6,fR_7,fR_8,fR_9,trivial⟩
def zfV (F:Nat) (x1:Int):Option (Int × Int):=match lkT eqI1 x1 tR_ with
  | some r=>some r
  | none=>zaG F x1
theorem zh0 (F:Nat) (x1:Int) (w0:World) (r:Int × Int) (M:zfV F x1=some r) :
    Ret P 6 #[I x1] w0 (G:=Unit) (λ_=>.tuple #[I r.1,I r.2]) (λ_ w=>St w0 w noX [] []):=by
 unfold zfV at M; split at M
 ·rename_i q hl; obtain rfl:=Option.some.inj M; exact zgc 10000 x1 w0 _ (lkT_ok eqI1_ok tR__ok hl)
 ·exact zgc F x1 w0 _ M
def zaB (F:Nat) (x2:List Int):Option (List Int) :=
  if (([]:List Int).length:Int)≤4294967296 then if (x2.length:Int)≤4294967296 then some (([]:List Int)++x2) else none else none
theorem zaJ (F:Nat) (s1:Value) (x2:List Int) (w0:World) (h_s1:rdEOK (hp w0) 1 E90 s1 x2) (r:List Int) (M:zaB F x2=some r) :
    Ret P 144 #[s1] w0 (G:=Value) (λg1=>g1) (λg1 w=>St w0 w noX [] [D g1 r]):=by
 unfold zaB at M; refine roW Tryz.func144 C C C (λa H=>?_); have X:St w0 w0 noX [E s1 x2] []:=Sbw (lnc (lendRd h_s1) lnn); refine sg (l:=[0]) C<|mv H C λa H=>nk<|W.seq<|sg (l:=[0,1]) C<|mv H C λa H=>?_
 rcases nil_or (X.b 0 C) with ⟨_,hn3,hl⟩ | ⟨_,_,_,hn3⟩
 ·refine ov (v:=.bool true) H C (Z.eqNil1 zab hn3 C C) λa H=>?_
  subst hl
  replace M:some []=some r:=by simpa using M
  refine nk<|W.if_tt H C<|sg (l:=[0]) C<|mv H C λa H=>nk<|W.ret<|ktr<|?_; replace X:=X.nilE 90 1 E90; obtain rfl:=oj M; refine post1 H C (rkt C) ?_; replace X:=X.nilE 90 1 E90; replace X:=X.sl [1]; exact ⟨(.slice none 0 0),C,X.noB⟩
 ·refine ov (v:=.bool false) H C (Z.eqNil2 zab hn3 C C) λa H=>nk<|W.if_ff H C<|W.skip<|ksq<|sg (l:=[0,1,2,3]) C<|O.buildSlice0 H X C C zab zae C<|?_; intro b4 w a hb4 X H; obtain ⟨s5,hs5⟩:∃ v,v=Value.slice (some ⟨b4,0,none⟩) 0 0:=⟨_,C⟩; rw [← hs5] at H X; replace X:St w0 _ noX [E s1 x2] [D s5 ([]:List Int)]:=X; refine mv H C λa H=>?_; obtain ⟨hg6,M⟩:=hm_g M; obtain ⟨hg7,M⟩:=hm_g M; refine O.appendEV (j:=0) (l':=([]:List Int)++x2) H X C C zab zae za7 zaE C C C C C (X.b 0 C) E90_one hg6 hg7 C C ?_; intro s8 w a X H; replace X:St w0 _ noX [E s1 x2] [D s8 (([]:List Int)++x2)]:=X; refine mv H C λa H=>nk<|W.ret<|?_; obtain rfl:=oj M; refine post1 H C (rkt C) ?_; exact ⟨s8,C,X.noB⟩
def zdh (F:Nat) (x1 x2 x3:Int):Option (Int × Int) :=
  if ((decide (x3≠(0:Int)))&&(decide (x3≤(x1:Int))))=true then (none) else ((some (bitor .u64 (u64.wrap ((u64.wrap x1)*2^32)) (u64.wrap x2))).bind λx6=>if (u64.wrap x3)≠(0:Int) then if (u64.wrap x3)≠(0:Int) then (some (u32.wrap (Int.tmod x6 (u64.wrap x3)))).bind λx9=>(some (u32.wrap (u64.wrap (Int.tdiv x6 (u64.wrap x3))))).bind λx10=>some (x10,x9) else none else none)
theorem zfm (F:Nat) (x1 x2 x3:Int) (w0:World) (r:Int × Int) (M:zdh F x1 x2 x3=some r) :
    Ret P 178 #[.int .u32 x1,.int .u32 x2,.int .u32 x3] w0 (G:=Unit) (λ_=>.tuple #[.int .u32 r.1,.int .u32 r.2]) (λ_ w=>St w0 w noX [] []):=by
 unfold zdh at M; refine roW Tryz.func178 C C C (λa H=>?_); have X:St w0 w0 noX [] []:=Sbw lnn; refine sg (l:=[0,1]) C<|mv2 H C C λa H=>nk<|W.seq<|sg (l:=[0,1,2,3,4,5,6]) C<|mv H C λa H=>ov H C (Z.neq C C) λa H=>mv H C λa H=>?_; refine O.cutN (l₁:=[3,4,5,6]) (l₂:=_) (λa w=>Fr a 33 [] [(0,.int .u32 x1),(1,.int .u32 x2),(2,.int .u32 x3),(6,.int .u32 0),(7,.int .u32 0),(15,B ((decide (x3≠(0:Int)))&&(decide (x3≤(x1:Int)))))]∧St w0 w noX [] []) C ?_ ?_
 ·rcases Bool.eq_false_or_eq_true (decide (x3≠(0:Int))) with hb4 | hb4
  ·refine og H C hb4 (Z.move C) λa H=>og H C hb4 (Z.move C) λa H=>og H C hb4 (Z.leq C C) λa H=>?_; refine ov (v:=B ((decide (x3≠(0:Int)))&&(decide (x3≤(x1:Int))))) H C (Z.pick C C C (by rw [hb4]; rfl)) ?_; clear H a; intro a H; exact O.nil ⟨C,H.q C,X⟩
  ·refine sk H C hb4 λa H=>sk H C hb4 λa H=>sk H C hb4 λa H=>?_; refine ov (v:=B ((decide (x3≠(0:Int)))&&(decide (x3≤(x1:Int))))) H C (Z.pick C C C (by rw [hb4]; rfl)) ?_; clear H a; intro a H; exact O.nil ⟨C,H.q C,X⟩
 clear H X a; (try clear w); rintro a w ⟨H,X⟩; refine nk ?_; refine W.if_ H C (λhc5=>?_) (λhc5=>?_)
 ·replace M:=hm_t M hc5; nomatch M
 ·replace M:=hm_f M hc5; refine W.skip<|ksq<|sg (l:=[0,1,2,3,4,5,6]) C<|mv H C λa H=>ov (v:=Uv (u64.wrap x1)) H C (Z.conv za1 zaF C) λa H=>ov (v:=Uv (u64.wrap ((u64.wrap x1)*2^32))) H C (Z.shl (q:=32) C C (by decide)) λa H=>mv H C λa H=>ov (v:=Uv (u64.wrap x2)) H C (Z.conv za1 zaF C) λa H=>ov (v:=Uv (bitor .u64 (u64.wrap ((u64.wrap x1)*2^32)) (u64.wrap x2))) H C (Z.bitor C C) λa H=>mv H C λa H=>?_; refine nk ?_; obtain ⟨x6,hx6,M⟩:=hm_b M; rw [oj hx6] at H; refine W.seq ?_; obtain ⟨hg7,M⟩:=hm_g M; obtain ⟨hg8,M⟩:=hm_g M; refine W.drawQ (λw=>St w0 w noX [] []) P_mixed C (by kernel_rfl) C X.drew ?_; clear X; (try clear w); refine OQ.val (v:=Uv x6) H C (λw X=>Z.move C) λa H=>OQ.val (v:=.int .u32 x3) H C (λw X=>Z.move C) λa H=>OQ.val (v:=Uv (u64.wrap x3)) H C (λw X=>Z.conv za1 zaF C) λa H=>OQ.val (v:=Uv (u64.wrap (Int.tdiv x6 (u64.wrap x3)))) H C (λw X=>Z.quo C C hg7) λa H=>OQ.val (v:=.int .u32 (u32.wrap (u64.wrap (Int.tdiv x6 (u64.wrap x3))))) H C (λw X=>Z.conv zaM za8 C) λa H=>OQ.val (v:=Uv x6) H C (λw X=>Z.move C) λa H=>OQ.val (v:=.int .u32 x3) H C (λw X=>Z.move C) λa H=>OQ.val (v:=Uv (u64.wrap x3)) H C (λw X=>Z.conv za1 zaF C) λa H=>OQ.val (v:=Uv (Int.tmod x6 (u64.wrap x3))) H C (λw X=>Z.rem C C hg8) λa H=>OQ.val (v:=.int .u32 (u32.wrap (Int.tmod x6 (u64.wrap x3)))) H C (λw X=>Z.conv zaM za8 C) λa H=>?_; refine OQ.val (v:=.int .u32 (u32.wrap (u64.wrap (Int.tdiv x6 (u64.wrap x3))))) H C (λw X=>Z.assign C) λa H=>OQ.val (v:=.int .u32 (u32.wrap (Int.tmod x6 (u64.wrap x3)))) H C (λw X=>Z.assign C) λa H=>?_; refine OQ.nil ?_; intro w X; refine ksq ?_; obtain ⟨x9,hx9,M⟩:=hm_b M; rw [oj hx9] at H; obtain ⟨x10,hx10,M⟩:=hm_b M; rw [oj hx10] at H; refine W.ret ?_; obtain rfl:=oj M; refine post2 H C (rkt C) (rkt C) ?_; exact ⟨(),C,X.noB⟩
def zfn (F:Nat) (x14:List Int) (x15:Int):Option ((List Int) × Int) :=
  (zbp F x14).bind λx16=>some (x16,x15)
def zfo (F:Nat) (x3:Int) (rec11:(List Int)→Int→Option ((List Int) × Int)) (x12 x13:Int) (x14:List Int) (x15:Int):Option ((List Int) × Int) :=
  (zdh F x15 x13 x3).bind λx18=>(idx x14 x12).bind λx19=>rec11 (x14.set (Int.toNat x12) x18.1) x18.2
def zbL (F:Nat) (x3:Int):List (Int × Int)→(List Int)→Int→Option ((List Int) × Int)
  | [],x14,x15=>zfn F x14 x15
  | p::t,x14,x15=>zfo F x3 (zbL F x3 t) p.1 p.2 x14 x15
def zgJ (F:Nat) (x2:List Int) (x3:Int):Option ((List Int) × Int) :=
  if 0≤(x2.length:Int)∧(x2.length:Int)≤4294967296 then (zeP F x2).bind λx9=>zbL F x3 (downL x2) (List.replicate (Int.toNat (x2.length:Int)) (0:Int)) 0 else none
theorem zik (F:Nat) (s1:Value) (x2:List Int) (x3:Int) (w0:World) (h_s1:rdEOK (hp w0) 1 E90 s1 x2) (r:(List Int) × Int) (M:zgJ F x2 x3=some r) :
    Ret P 146 #[s1,.int .u32 x3] w0 (G:=Value) (λg1=>.tuple #[g1,.int .u32 r.2]) (λg1 w=>St w0 w noX [] [D g1 r.1]):=by
 unfold zgJ at M; refine ret_of_WM (lv:=[s1,.int .u32 x3]) Tryz.func146 C C C (λa H=>?_); have X:St w0 w0 noX [E s1 x2] []:=Sbw (lnc (lendRd h_s1) lnn); replace X:=X.mk0; refine sg (l:=[0,1,2]) C<|O.box (cs:=#[.int .u32 x3]) H X C C C C<|?_; intro b4 w a hb4 X H; refine mv2 H C C λa H=>nk<|sg (l:=[0,1,2,3,4]) C<|mv H C λa H=>ov (v:=I (x2.length:Int)) H C (Z.lenE (e:=90) (by simpa using zab) C (X.b 0 C)) λa H=>?_; obtain ⟨hg5,M⟩:=hm_g M; refine O.makeE (enc:=E90) (x0:=(0:Int)) H X C C zab zae za7 zaE C C C hg5 C E90_len C ?_; intro s6 w a X H; refine O.alloc (cs:=#[.slice none 0 0]) H X C C ziF C ?_; intro b7 w a hb7 X H; refine O.store (m:=1) (j:=0) (cs':=#[s6]) (M':=[pt b7 (Cs #[s6] 28),D s6 (List.replicate (Int.toNat (x2.length:Int)) (0:Int)),pt b4 (Cs #[.int .u32 x3] 90),mkA []]) H X C C C ziD (by rw [rdc (X.s 1 C)]; rfl) (by rw [rdc (X.s 1 C)]; exact rdo (X.s 1 C)) C (bl C) (by rw [rdc (X.s 1 C)]; rfl) C ?_; intro w X; refine nk<|sg (l:=[0]) C<|O.alloc (cs:=#[.int .u32 0]) H X C C zaE C<|?_; intro b8 w a hb8 X H; refine nk<|W.seq<|sg (l:=[0,1]) C<|mv H C λa H=>?_; refine hb M λx9 hx9 M=>oq H X C zh7 (zfU F s1 x2 _ (X.b 0 C) x9 hx9) ?_; rintro b10 w X a H; refine nk<|W.block<|?_; replace X:=X.fr 1; replace X:=X.fr 2; replace X:=X.fr 3; replace X:=X.fr 4; replace X:=X.fr 5; refine W.rangeFn2 (G:=(List Int) × Int) (G2:=Unit) (gf:=143) (lb:=#[Pv b10 0]) (xs:=(downL x2).map (λp:Int × Int=>(I p.1,Value.int .u32 p.2))) (λx y=>[(3,Pv b4 0),(4,.slice none 0 0),(5,.int .u32 0),(6,Pv b7 0),(7,Pv b8 0),(8,x),(9,y),(14,.func (.func 143) #[] #[Pv b10 0]),(15,x),(16,y)]) (λg=>match g with | (x14,x15)=>[mkA [],pt b4 (Cs #[.int .u32 x3] 90),D s6 x14,pt b7 (Cs #[s6] 28),pt b8 (Cs #[.int .u32 x15] 90),pt b10 (Cs #[s1] 28)]) (λk g=>match g with | (x14,x15)=>zbL F x3 ((downL x2).drop k) x14 x15=some r) (List.replicate (Int.toNat (x2.length:Int)) (0:Int),0) (RdAt 28 1 E90 b10 s1 x2) (λg=>match g with | _=>[]) (λg=>match g with | _=>False) H C C C zh9 X M (iter_143 _ _ _) ?_ ?_ ?_ ?_ ?_
 ·rintro ⟨x14,x15⟩ w X; replace X:St w0 w noX [E s1 x2] [mkA [],pt b4 (Cs #[.int .u32 x3] 90),D s6 x14,pt b7 (Cs #[s6] 28),pt b8 (Cs #[.int .u32 x15] 90),pt b10 (Cs #[s1] 28)]:=X; exact ⟨X.ptAt (i:=5) C,(X.b 0 C)⟩
 ·clear H X M a; (try clear w); intro l x y w a H; refine sg (l:=[0]) C<|mv H C λa H=>nk<|wrL (l:=[0]) C<|mv H C λa H=>O.nil<|?_; exact ⟨C,H.q C,C⟩
 ·clear H X M a; (try clear w); rintro dl11 do11 dD11 k11 x y ⟨x14,x15⟩ w hx M X a H; obtain ⟨⟨x12,x13⟩,hp,hxy⟩:=down_x hx; obtain ⟨rfl,rfl⟩:=Prod.mk.inj hxy; replace X:St w0 w noX [E s1 x2] [pt dl11 do11,pt dD11 (.deferred (some [])),mkA [],pt b4 (Cs #[.int .u32 x3] 90),D s6 x14,pt b7 (Cs #[s6] 28),pt b8 (Cs #[.int .u32 x15] 90),pt b10 (Cs #[s1] 28)]:=X; replace M:zbL F x3 ((downL x2).drop k11) x14 x15=some r:=M; rw [drop_cons hp] at M; replace M:zfo F x3 (zbL F x3 ((downL x2).drop (k11+1))) x12 x13 x14 x15=some r:=M; obtain ⟨rec11,hrec11⟩:∃ f,f=zbL F x3 ((downL x2).drop (k11+1)):=⟨_,C⟩; rw [← hrec11] at M; unfold zfo at M; refine W.block ?_; have J:Fr a 30 [] []:=H.to trivial; obtain ⟨x18,hx18,M⟩:=hm_b M; refine hb M λx19 hx19 M=>W.drawK (γ:=Unit) (L0:=[(3,Pv b4 0),(4,.slice none 0 0),(5,.int .u32 0),(6,Pv b7 0),(7,Pv b8 0),(8,I x12),(9,.int .u32 x13),(14,.func (.func 143) #[] #[Pv b10 0]),(15,I x12),(16,.int .u32 x13)]) (L1:=[]) () [5,10,11] [] [0,1,2,3,4,6,7,8,9] (λi=>match i with | 5=>[2,3,4] | 6=>[5] | 7=>[6] | 8=>[6] | 9=>[0,1,2,3,4,5,6,7] | 10=>[0,1,2,3,4,5,6,7,9] | 11=>[0,1,2,3,4,5,6,7,8,9,10] | _=>[]) (λ_=>[]) (λi=>match i with | 5=>[6,7,8,9,10,11] | 10=>[11] | _=>[]) (λ_=>[]) (λi=>match i with | 6=>1 | 7=>1 | 8=>1 | 9=>1 | 10=>1 | 11=>2 | _=>0) (λi=>match i with | 0=>1 | 1=>1 | 5=>1 | 6=>1 | 7=>1 | 8=>2 | 9=>1 | 10=>2 | 11=>3 | _=>0) (λ(g:Unit) j=>match j with | 0=>s6 | 1=>I x12 | 2=>.int .u32 x15 | 3=>.int .u32 x13 | 4=>.int .u32 x3 | 5=>.tuple #[.int .u32 x18.1,.int .u32 x18.2] | 6=>.tuple #[.int .u32 x18.1,.int .u32 x18.2] | 7=>.int .u32 x18.1 | 8=>.int .u32 x18.2 | 9=>ix s6 (Int.toNat x12*1) | _=>undef) (λk s (g:Unit) w=>match k with | 0=>St w0 w noX [E s1 x2] [pt dl11 do11,pt dD11 (.deferred (some [])),mkA [],pt b4 (Cs #[.int .u32 x3] 90),D s6 x14,pt b7 (Cs #[s6] 28),pt b8 (Cs #[.int .u32 x15] 90),pt b10 (Cs #[s1] 28)] | 1=>St w0 w noX [E s1 x2] [pt dl11 do11,pt dD11 (.deferred (some [])),mkA [],pt b4 (Cs #[.int .u32 x3] 90),D s6 x14,pt b7 (Cs #[s6] 28),pt b8 (Cs #[.int .u32 x15] 90),pt b10 (Cs #[s1] 28)] | 2=>St w0 w noX [E s1 x2] [pt dl11 do11,pt dD11 (.deferred (some [])),mkA [],pt b4 (Cs #[.int .u32 x3] 90),D s6 (x14.set (Int.toNat x12) x18.1),pt b7 (Cs #[s6] 28),pt b8 (Cs #[.int .u32 x15] 90),pt b10 (Cs #[s1] 28)] | _=>St w0 w noX [E s1 x2] [pt dl11 do11,pt dD11 (.deferred (some [])),mkA [],pt b4 (Cs #[.int .u32 x3] 90),D s6 (x14.set (Int.toNat x12) x18.1),pt b7 (Cs #[s6] 28),pt b8 (Cs #[.int .u32 x18.2] 90),pt b10 (Cs #[s1] 28)]) P_mixed (by kernel_rfl) (H.q C) J X.drew ?_ ?_ ?_ ?_
  ·clear H J X; refine ⟨?_,λk s g w _ _ _ X a H=>Q.val (v:=I x12) C C C X H (Z.move C),?_,λk s g w _ _ _ X a H=>Q.val (v:=.int .u32 x13) C C C X H (Z.move C),?_,λk s g w _ _ _ X a H=>Q.val (v:=.tuple #[.int .u32 x18.1,.int .u32 x18.2]) C C C X H (Z.move C),λk s g w _ _ _ X a H=>Q.val (v:=.int .u32 x18.1) C C C X H (Z.extract C C),λk s g w _ _ _ X a H=>Q.val (v:=.int .u32 x18.2) C C C X H (Z.extract C C),?_,trivial⟩
   ·intro k s g w h1_ h2_ hsp X a H
    rcases k with _ | _ | k
    ·exact Q.val (v:=s6) C C C X H (Z.load1 zan C (X.p 5 C) C)
    ·exact Q.val (v:=s6) C C C X H (Z.load1 zan C (X.p 5 C) C)
    ·simp at h2_
   ·intro k s g w h1_ h2_ hsp X a H
    rcases k with _ | k
    ·exact Q.val (v:=.int .u32 x15) C C C X H (Z.load1 zar C (X.p 6 C) C)
    ·simp at h2_
   ·intro k s g w h1_ h2_ hsp X a H
    rcases k with _ | k
    ·exact Q.val (v:=.int .u32 x3) C C C X H (Z.load1 zar C (X.p 3 C) C)
    ·simp at h2_
   ·intro k s g w h1_ h2_ hsp X a H
    rcases k with _ | _ | k
    ·exact absurd h1_ (by decide)
    ·exact Q.val (v:=ix s6 (Int.toNat x12*1)) C C C X H (Z.ixE zab zae C C (X.s 4 C) hx19)
    ·simp at h2_
  ·clear H J X; refine ⟨?_,?_,?_,trivial⟩
   ·intro s g w hsp X a H; refine oq H X C zi0 (zfm F x15 x13 x3 _ x18 hx18) ?_; rintro _ w X a H; exact nG H ⟨(gt (d:=23) H C C),(λ_ _ _=>C),X⟩
   ·intro s g w hsp X a H; refine O.storeE (j:=4) (o:=0) (y0:=x18.1) (l':=x14.set (Int.toNat x12) x18.1) (M':=[pt dl11 do11,pt dD11 (.deferred (some [])),mkA [],pt b4 (Cs #[.int .u32 x3] 90),D s6 (x14.set (Int.toNat x12) x18.1),pt b7 (Cs #[s6] 28),pt b8 (Cs #[.int .u32 x15] 90),pt b10 (Cs #[s1] 28)]) H X C C C zae C C C E90_len hx19 C C C C ?_; intro w X; exact nG H ⟨(λd hd=>by cases (show none=some d from hd)),(λ_ _ _=>C),X⟩
   ·intro s g w hsp X a H; refine ost 6 #[.int .u32 x18.2] H X C C C zae C C C (bl C) C ?_; intro w X; exact nG H ⟨(λd hd=>by cases (show none=some d from hd)),(λ_ _ _=>C),X⟩
  ·clear H J X; exact trivial
  clear H J X; intro s g a w hs H X; refine kbn ?_; exact .inl ⟨C,(x14.set (Int.toNat x12) x18.1,x18.2),by rw [hrec11] at M; exact M,X⟩
 ·clear H X M a; (try clear w); rintro dD11 ⟨x14,x15⟩ a w M X H; replace M:zbL F x3 ((downL x2).drop ((downL x2).map (λp:Int × Int=>(I p.1,Value.int .u32 p.2))).length) x14 x15=some r:=M; rw [List.length_map,List.drop_length] at M; replace M:zfn F x14 x15=some r:=M; unfold zfn at M; replace H:Fr a 30 (mkDs (dD11::[])) [(3,Pv b4 0),(4,.slice none 0 0),(5,.int .u32 0),(6,Pv b7 0),(7,Pv b8 0),(14,.func (.func 143) #[] #[Pv b10 0])]:=H.q C; replace X:St w0 w noX [E s1 x2] (pt dD11 (.deferred (some []))::[mkA [],pt b4 (Cs #[.int .u32 x3] 90),D s6 x14,pt b7 (Cs #[s6] 28),pt b8 (Cs #[.int .u32 x15] 90),pt b10 (Cs #[s1] 28)]):=X; replace X:=X.mkCons; refine kbn<|ksq<|W.seq<|?_; have J:Fr a 30 (mkDs (dD11::[])) [(4,.slice none 0 0),(5,.int .u32 0)]:=H.q C; replace H:Fr a 30 (mkDs (dD11::[])) [(6,Pv b7 0),(7,Pv b8 0)]:=H.q C; refine hb M λx16 hx16 M=>W.drawK (γ:=Value) (L0:=[(6,Pv b7 0),(7,Pv b8 0)]) (L1:=[(4,.slice none 0 0),(5,.int .u32 0)]) (undef) [1] [] [0,2,3,4] (λi=>match i with | 1=>[0] | 3=>[0,1] | 4=>[0,1,2,3] | _=>[]) (λ_=>[]) (λi=>match i with | 1=>[3,4] | _=>[]) (λ_=>[]) (λi=>match i with | 3=>1 | 4=>1 | _=>0) (λi=>match i with | 1=>1 | 2=>1 | 3=>1 | 4=>1 | _=>0) (λ(g:Value) j=>match j with | 0=>s6 | 1=>g | 2=>.int .u32 x15 | 3=>g | 4=>.int .u32 x15 | _=>undef) (λk s (g:Value) w=>match k with | 0=>St w0 w noX [E s1 x2] [mkA (dD11::[]),pt b4 (Cs #[.int .u32 x3] 90),D s6 x14,pt b7 (Cs #[s6] 28),pt b8 (Cs #[.int .u32 x15] 90),pt b10 (Cs #[s1] 28)] | _=>St w0 w noX [E s1 x2] [D g x16,mkA (dD11::[]),pt b4 (Cs #[.int .u32 x3] 90),pt b7 (Cs #[s6] 28),pt b8 (Cs #[.int .u32 x15] 90),pt b10 (Cs #[s1] 28)]) P_mixed (by kernel_rfl) (H.q C) J X.drew ?_ ?_ ?_ ?_
  ·clear H J X; refine ⟨?_,?_,λk s g w _ _ _ X a H=>Q.val (v:=g) C C C X H (Z.assign C),λk s g w _ _ _ X a H=>Q.val (v:=.int .u32 x15) C C C X H (Z.assign C),trivial⟩
   ·intro k s s17 w h1_ h2_ hsp X a H
    rcases k with _ | k
    ·replace H:Fr a 30 (mkDs (dD11::[])) [(6,Pv b7 0),(7,Pv b8 0)]:=H.q C; exact Q.val (v:=s6) C C C X H (Z.load1 zan C (X.p 3 C) C)
    ·simp at h2_
   ·intro k s s17 w h1_ h2_ hsp X a H
    rcases k with _ | _ | k
    ·replace H:Fr a 30 (mkDs (dD11::[])) [(6,Pv b7 0),(7,Pv b8 0)]:=H.q C; exact Q.val (v:=.int .u32 x15) C C C X H (Z.load1 zar C (X.p 4 C) C)
    ·replace H:Fr a 30 (mkDs (dD11::[])) [(6,Pv b7 0),(7,Pv b8 0)]:=H.q C; exact Q.val (v:=.int .u32 x15) C C C X H (Z.load1 zar C (X.p 4 C) C)
    ·simp at h2_
  ·clear H J X; refine ⟨?_,trivial⟩
   ·intro s s17 w hsp X a H; replace H:Fr a 30 (mkDs (dD11::[])) [(27,s6),(6,Pv b7 0),(7,Pv b8 0)]:=H.q C; refine oc H C zfe (zbk F s6 x14 _ (X.slS (j:=2) C) x16 hx16) ?_; rintro s17 w Y a H; replace X:=X.cz Y 2 λ_ h=>h; exact nE 28 H s17 C C (jl 5 (by kernel_rfl) λ_=>C) X
  ·clear H J X; exact trivial
  clear H J X; intro s s17 a w hs H X; replace H:Fr a 30 (mkDs (dD11::[])) [(27,s6),(28,s17),(29,.int .u32 x15),(4,s17),(5,.int .u32 x15),(6,Pv b7 0),(7,Pv b8 0)]:=H.q C; refine ksq<|W.ret<|?_; replace X:=X.fr 5; replace X:=X.fr 5; replace X:=X.fr 5; replace X:=X.fr 5; replace X:=X.fr 4; replace X:=X.fr 5; refine postM (Ds:=(dD11::[])) X H (λw a H X=>?_); obtain rfl:=oj M; refine post2 H C (rkt C) (rkt C) ?_; replace X:=X.sl [1]; exact ⟨s17,C,X.noB⟩
 ·rintro dD11 _ a w M _ _; exact M.elim
def zcp (F:Nat) (x4 x5:Int):Option Int :=
  (strIdx strc1 (IntKind.u8.wrap x4)).bind λx6=>(some (i64.wrap (x5+(i64.wrap x6)))).bind λx7=>some x7
def zcq (F:Nat) (x2 x3:Int):Option Int :=
  if x2≥(256:Int) then (zcp F (Int.fdiv x2 (2^8)) (i64.wrap (x3+8))) else (zcp F x2 x3)
def zdi (F:Nat) (x1:Int):Option Int :=
  if x1≥(65536:Int) then (zcq F (Int.fdiv x1 (2^16)) 16) else (zcq F x1 0)
theorem zfp (F:Nat) (x1:Int) (w0:World) (r:Int) (M:zdi F x1=some r) :
    Ret P 62 #[.int .u32 x1] w0 (G:=Unit) (λ_=>I r) (λ_ w=>St w0 w noX [] []):=by
 unfold zdi at M; refine roW Tryz.func62 C C C (λa H=>?_); have X:St w0 w0 noX [] []:=Sbw lnn; refine sg (l:=[0]) C<|mv H C λa H=>nk<|?_; refine W.seqR (λa w=>∃ (x2:Int) (x3:Int),Fr a 19 [] [(0,.int .u32 x2),(2,I x3)]∧St w0 w noX [] []∧zcq F x2 x3=some r) ?_ ?_
 ·refine sg (l:=[0,1]) C<|mv H C λa H=>ov H C (Z.geq C C) λa H=>nk<|?_; refine W.ifdI H C (λhc9=>?_) (λhc9=>?_)
  ·replace M:=hm_p M hc9; refine sg (l:=[0,1,2]) C<|mv H C λa H=>ov (v:=.int .u32 (Int.fdiv x1 (2^16))) H C (Z.shr (q:=16) C C (by decide)) λa H=>mv H C λa H=>nk<|wrL (l:=[0]) C<|mv H C λa H=>O.nil<|?_; exact kth ⟨Int.fdiv x1 (2^16),16,H.q C,X,M⟩
  ·replace M:=hm_n M hc9; refine W.skip ?_; exact kth ⟨x1,0,H.q C,X,M⟩
 ·clear H X M a; (try clear w); rintro a w ⟨x2,x3,H,X,M⟩; unfold zcq at M; refine W.seqR (λa w=>∃ (x4:Int) (x5:Int),Fr a 19 [] [(0,.int .u32 x4),(2,I x5)]∧St w0 w noX [] []∧zcp F x4 x5=some r) ?_ ?_
  ·refine sg (l:=[0,1]) C<|mv H C λa H=>ov H C (Z.geq C C) λa H=>nk<|?_; refine W.ifdI H C (λhc8=>?_) (λhc8=>?_)
   ·replace M:=hm_p M hc8; refine sg (l:=[0,1,2]) C<|mv H C λa H=>ov (v:=.int .u32 (Int.fdiv x2 (2^8))) H C (Z.shr (q:=8) C C (by decide)) λa H=>mv H C λa H=>nk<|wrL (l:=[0,1,2]) C<|mv H C λa H=>ov H C (Z.add C C) λa H=>mv H C λa H=>O.nil<|?_; exact kth ⟨Int.fdiv x2 (2^8),i64.wrap (x3+8),H.q C,X,M⟩
   ·replace M:=hm_n M hc8; refine W.skip ?_; exact kth ⟨x2,x3,H.q C,X,M⟩
  ·clear H X M a; (try clear w); rintro a w ⟨x4,x5,H,X,M⟩; unfold zcp at M; refine sg (l:=[0,1,2,3,4,5,6]) C<|mv2 H C C λa H=>ov (v:=.int .u8 (IntKind.u8.wrap x4)) H C (Z.conv za1 zjh C) λa H=>?_; refine hb M λx6 hx6 M=>ov H C (Z.indexStr zhi C C hx6) λa H=>ov (v:=I (i64.wrap x6)) H C (Z.conv zjj zjg C) λa H=>ov H C (Z.add C C) λa H=>mv H C λa H=>nk<|?_; obtain ⟨x7,hx7,M⟩:=hm_b M; rw [oj hx7] at H; refine W.ret ?_; obtain rfl:=oj M; refine post1 H C (rkt C) ?_; exact ⟨(),C,X.noB⟩
def zcc (F:Nat) (x1:Int):Option Int :=
  (zdi F x1).bind λx2=>some (i64.wrap (32-x2))
theorem zfO (F:Nat) (x1:Int) (w0:World) (r:Int) (M:zcc F x1=some r) :
    Ret P 147 #[.int .u32 x1] w0 (G:=Unit) (λ_=>I r) (λ_ w=>St w0 w noX [] []):=by
 unfold zcc at M; refine roW Tryz.func147 C C C (λa H=>?_); have X:St w0 w0 noX [] []:=Sbw lnn; refine sg (l:=[0]) C<|mv H C λa H=>nk<|sg (l:=[0,1,2,3]) C<|mv H C λa H=>?_; refine hb M λx2 hx2 M=>oq H X C zjc (zfp F x1 _ x2 hx2) ?_; rintro _ w X a H; refine ov H C (Z.sub C C) λa H=>mv H C λa H=>nk<|W.ret<|?_; obtain rfl:=oj M; refine post1 H C (rkt C) ?_; exact ⟨(),C,X.noB⟩
def zfW (F:Nat) (x7:List Int) (x8:Int):Option (List Int) :=
  if (x7.length:Int)≤4294967296 then some (x7++[u32.wrap x8]) else none
def zfX (F:Nat) (x2:List Int) (x3:Int) (rec16:(List Int)→Int→Int→Option (List Int)) (x13:List Int) (x14 x15:Int):Option (List Int) :=
  if x15<((x2.length:Int):Int) then ((idx x2 x15).bind λx18=>if 0≤(Int.tmod x3 32) then (some (bitor .u64 x14 (u64.wrap ((u64.wrap x18)*2^(min (Int.toNat (Int.tmod x3 32)) (IntKind.bits .u64)))))).bind λx20=>if (x13.length:Int)≤4294967296 then rec16 (x13++[u32.wrap x20]) (Int.fdiv x20 (2^32)) (i64.wrap (x15+1)) else none else none) else (zfW F x13 x14)
def zdm (F:Nat) (x2:List Int) (x3:Int):Nat→(List Int)→Int→Int→Option (List Int)
  | 0,_,_,_=>none
  | n+1,x13,x14,x15=>zfX F x2 x3 (zdm F x2 x3 n) x13 x14 x15
def zeQ (F:Nat) (x2:List Int) (x3:Int):Option (List Int) :=
  if 0≤(i64.wrap (Int.tdiv x3 32))∧(i64.wrap (Int.tdiv x3 32))≤(i64.wrap ((i64.wrap ((i64.wrap (Int.tdiv x3 32))+(x2.length:Int)))+1))∧(i64.wrap ((i64.wrap ((i64.wrap (Int.tdiv x3 32))+(x2.length:Int)))+1))≤4294967296 then zdm F x2 x3 F (List.replicate (Int.toNat (i64.wrap (Int.tdiv x3 32))) (0:Int)) 0 0 else none
theorem zfY (F:Nat) (s1:Value) (x2:List Int) (x3:Int) (w0:World) (h_s1:rdEOK (hp w0) 1 E90 s1 x2) (r:List Int) (M:zeQ F x2 x3=some r) :
    Ret P 131 #[s1,I x3] w0 (G:=Value) (λg1=>g1) (λg1 w=>St w0 w noX [] [D g1 r]):=by
 unfold zeQ at M; refine roW Tryz.func131 C C C (λa H=>?_); have X:St w0 w0 noX [E s1 x2] []:=Sbw (lnc (lendRd h_s1) lnn); refine sg (l:=[0]) C<|mv H C λa H=>nk<|sg (l:=[0,1,2,3,4,5,6,7,8,9]) C<|mv H C λa H=>ov (v:=I (i64.wrap (Int.tdiv x3 32))) H C (Z.quo (q:=32) C C (by decide)) λa H=>mv H C λa H=>ov (v:=I (i64.wrap (Int.tdiv x3 32))) H C (Z.quo (q:=32) C C (by decide)) λa H=>mv H C λa H=>ov (v:=I (x2.length:Int)) H C (Z.lenE (e:=90) (by simpa using zab) C (X.b 0 C)) λa H=>?_; refine ov H C (Z.add C C) λa H=>ov H C (Z.add C C) λa H=>?_; obtain ⟨hg4,M⟩:=hm_g M; refine O.makeCapE (enc:=E90) (x0:=(0:Int)) H X C C zab zae za7 zaE C C C hg4 C E90_len C ?_; intro s5 w a X H; refine mv H C λa H=>nk<|sg (l:=[0]) C<|mv H C λa H=>nk<|?_; refine W.seqR (λa w=>∃ (s6:Value) (x7:List Int) (x8:Int),Fr a 44 [] [(4,.slice none 0 0),(5,s6),(6,Uv x8)]∧St w0 w noX [E s1 x2] [D s6 x7]∧zfW F x7 x8=some r) ?_ ?_
 ·refine sg (l:=[0,1,2]) C<|mv H C λa H=>ov (v:=I (x2.length:Int)) H C (Z.lenE (e:=90) (by simpa using zab) C (X.b 0 C)) λa H=>mv H C λa H=>nk<|?_; refine W.block<|W.loop (G:=Nat × Value × (List Int) × Int × Int) (λg a w=>match g with | (k16,s12,x13,x14,x15)=>Fr a 44 [] [(1,I x3),(4,.slice none 0 0),(5,s12),(6,Uv x14),(18,s1),(19,I (x2.length:Int)),(20,I x15)]∧St w0 w noX [E s1 x2] [D s12 x13]∧zdm F x2 x3 k16 x13 x14 x15=some r) (λg=>match g with | (k16,s12,x13,x14,x15)=>k16) (F,s5,List.replicate (Int.toNat (i64.wrap (Int.tdiv x3 32))) (0:Int),0,0) ⟨H.q C,X,M⟩<|?_; clear H X M a; (try clear w); rintro ⟨k16,s12,x13,x14,x15⟩ a w ⟨H,X,M⟩
  rcases k16 with _ | k16
  · nomatch M
  replace M:zfX F x2 x3 (zdm F x2 x3 k16) x13 x14 x15=some r:=M; obtain ⟨rec16,hrec16⟩:∃ f,f=zdm F x2 x3 k16:=⟨_,C⟩; rw [← hrec16] at M; unfold zfX at M; refine sg (l:=[0]) C<|ov H C (Z.lss C C) λa H=>nk<|W.seq<|?_; refine W.ifdI H C (λhc17=>?_) (λhc17=>?_)
  ·replace M:=hm_p M hc17; refine W.skip<|ksq<|W.seq<|W.block<|sg (l:=[0,1,2]) C<|?_; refine hb M λx18 hx18 M=>ov H C (Z.ixE zab zae C C (X.b 0 C) hx18) λa H=>ov H C (Z.ldE1 (o:=0) zar E90_len C (X.b 0 C) hx18 C C) λa H=>mv H C λa H=>nk<|sg (l:=[0,1,2,3,4,5,6,7]) C<|mv2 H C C λa H=>ov (v:=Uv (u64.wrap x18)) H C (Z.conv za1 zaF C) λa H=>mv H C λa H=>ov (v:=I (Int.tmod x3 32)) H C (Z.rem (q:=32) C C (by decide)) λa H=>?_; obtain ⟨hg19,M⟩:=hm_g M; refine ov (v:=Uv (u64.wrap ((u64.wrap x18)*2^(min (Int.toNat (Int.tmod x3 32)) (IntKind.bits .u64))))) H C (Z.shl C C hg19) λa H=>ov (v:=Uv (bitor .u64 x14 (u64.wrap ((u64.wrap x18)*2^(min (Int.toNat (Int.tmod x3 32)) (IntKind.bits .u64)))))) H C (Z.bitor C C) λa H=>mv H C λa H=>nk<|?_; obtain ⟨x20,hx20,M⟩:=hm_b M; rw [oj hx20] at H; refine sg (l:=[0,1,2,3,4,5]) C<|mv2 H C C λa H=>ov (v:=.int .u32 (u32.wrap x20)) H C (Z.conv zaM za8 C) λa H=>O.buildSlice (cs':=#[.int .u32 (u32.wrap x20)]) (zs:=#[.int .u32 0]) H X C C zab zae zaE C C C C C<|?_; intro b21 w a hb21 X H; obtain ⟨hg22,M⟩:=hm_g M; refine O.appendE1 (j:=1) (jj:=0) (enc:=E90) (m:=[u32.wrap x20]) (l':=x13++[u32.wrap x20]) H X C C zab zae za7 zaE C C C C C C C C C C hg22 C C C ?_; intro s23 w a X H; replace X:St w0 _ noX [E s1 x2] [pt b21 (Cs #[.int .u32 (u32.wrap x20)] 90),D s23 (x13++[u32.wrap x20])]:=X; refine mv H C λa H=>nk<|?_; replace X:=X.sl [0,1]; refine wrL (l:=[0,1,2]) C<|mv H C λa H=>ov (v:=Uv (Int.fdiv x20 (2^32))) H C (Z.shr (q:=32) C C (by decide)) λa H=>mv H C λa H=>O.nil<|kbn<|ksq<|wrL (l:=[0,1]) C<|ov H C (Z.add C C) λa H=>mv H C λa H=>?_; refine O.nil ?_; refine kth ⟨(k16,s23,x13++[u32.wrap x20],Int.fdiv x20 (2^32),i64.wrap (x15+1)),⟨H.q C,X,?_⟩,Nat.lt_succ_self _⟩; rw [hrec16] at M; exact M
  ·replace M:=hm_n M hc17; refine W.exit<|kte<|kte<|kbk<|?_; exact kth ⟨s12,x13,x14,H.q C,X,M⟩
 ·clear H X M a; (try clear w); rintro a w ⟨s6,x7,x8,H,X,M⟩; unfold zfW at M; refine sg (l:=[0,1,2,3,4,5]) C<|mv2 H C C λa H=>ov (v:=.int .u32 (u32.wrap x8)) H C (Z.conv zaM za8 C) λa H=>O.buildSlice (cs':=#[.int .u32 (u32.wrap x8)]) (zs:=#[.int .u32 0]) H X C C zab zae zaE C C C C C<|?_; intro b9 w a hb9 X H; obtain ⟨hg10,M⟩:=hm_g M; refine O.appendE1 (j:=1) (jj:=0) (enc:=E90) (m:=[u32.wrap x8]) (l':=x7++[u32.wrap x8]) H X C C zab zae za7 zaE C C C C C C C C C C hg10 C C C ?_; intro s11 w a X H; replace X:St w0 _ noX [E s1 x2] [pt b9 (Cs #[.int .u32 (u32.wrap x8)] 90),D s11 (x7++[u32.wrap x8])]:=X; refine mv H C λa H=>nk<|?_; replace X:=X.sl [0,1]; refine W.ret ?_; obtain rfl:=oj M; refine post1 H C (rkt C) ?_; exact ⟨s11,C,X.noB⟩
def zck (F:Nat) (x1 x2 x3:Int):Option (Int × Int) :=
  (some (u32.wrap ((u32.wrap (x1-x2))-x3))).bind λx4=>(some (Int.fdiv (bitor .u32 (bitand .u32 (bitxor .u32 (4294967295) x1) x2) (bitand .u32 (bitxor .u32 (4294967295) (bitxor .u32 x1 x2)) x4)) (2^31))).bind λx5=>some (x4,x5)
theorem zdB (F:Nat) (x1 x2 x3:Int) (w0:World) (r:Int × Int) (M:zck F x1 x2 x3=some r) :
    Ret P 150 #[.int .u32 x1,.int .u32 x2,.int .u32 x3] w0 (G:=Unit) (λ_=>.tuple #[.int .u32 r.1,.int .u32 r.2]) (λ_ w=>St w0 w noX [] []):=by
 unfold zck at M; refine roW Tryz.func150 C C C (λa H=>?_); have X:St w0 w0 noX [] []:=Sbw lnn; refine sg (l:=[0,1]) C<|mv2 H C C λa H=>nk<|sg (l:=[0,1,2,3,4,5]) C<|mv2 H C C λa H=>ov H C (Z.sub C C) λa H=>mv H C λa H=>ov H C (Z.sub C C) λa H=>?_; refine mv H C λa H=>nk<|?_; obtain ⟨x4,hx4,M⟩:=hm_b M; rw [oj hx4] at H; refine sg (l:=[0,1,2,3,4,5,6,7,8,9,10,11,12]) C<|mv H C λa H=>ov (v:=.int .u32 (bitxor .u32 (4294967295) x1)) H C (Z.com (c:=4294967295) C C) λa H=>mv H C λa H=>ov (v:=.int .u32 (bitand .u32 (bitxor .u32 (4294967295) x1) x2)) H C (Z.bitand C C) λa H=>mv2 H C C λa H=>ov (v:=.int .u32 (bitxor .u32 x1 x2)) H C (Z.bitxor C C) λa H=>ov (v:=.int .u32 (bitxor .u32 (4294967295) (bitxor .u32 x1 x2))) H C (Z.com (c:=4294967295) C C) λa H=>mv H C λa H=>?_; refine ov (v:=.int .u32 (bitand .u32 (bitxor .u32 (4294967295) (bitxor .u32 x1 x2)) x4)) H C (Z.bitand C C) λa H=>ov (v:=.int .u32 (bitor .u32 (bitand .u32 (bitxor .u32 (4294967295) x1) x2) (bitand .u32 (bitxor .u32 (4294967295) (bitxor .u32 x1 x2)) x4))) H C (Z.bitor C C) λa H=>ov (v:=.int .u32 (Int.fdiv (bitor .u32 (bitand .u32 (bitxor .u32 (4294967295) x1) x2) (bitand .u32 (bitxor .u32 (4294967295) (bitxor .u32 x1 x2)) x4)) (2^31))) H C (Z.shr (q:=31) C C (by decide)) λa H=>mv H C λa H=>nk<|?_; obtain ⟨x5,hx5,M⟩:=hm_b M; rw [oj hx5] at H; refine W.ret ?_; obtain rfl:=oj M; refine post2 H C (rkt C) (rkt C) ?_; exact ⟨(),C,X.noB⟩
def zdC (F:Nat) (x4 x6:List Int) (x7 x8:Int):Option (Bool × (List Int)) :=
  (idx x6 (x4.length:Int)).bind λx9=>(zck F x9 (u32.wrap x7) x8).bind λx10=>some (decide (x10.2=(0:Int)),x6.set (Int.toNat (x4.length:Int)) x10.1)
def zdD (F:Nat) (x4:List Int) (x5:Int) (rec15:(List Int)→Int→Int→Int→Option (Bool × (List Int))) (x11:List Int) (x12 x13 x14:Int):Option (Bool × (List Int)) :=
  if x14<((x4.length:Int):Int) then ((idx x4 x14).bind λx17=>(some (u64.wrap (x12+(u64.wrap ((u64.wrap x5)*(u64.wrap x17)))))).bind λx18=>(idx x11 x14).bind λx19=>(zck F x19 (u32.wrap x18) x13).bind λx20=>rec15 (x11.set (Int.toNat x14) x20.1) (Int.fdiv x18 (2^32)) x20.2 (i64.wrap (x14+1))) else (zdC F x4 x11 x12 x13)
def zbM (F:Nat) (x4:List Int) (x5:Int):Nat→(List Int)→Int→Int→Int→Option (Bool × (List Int))
  | 0,_,_,_,_=>none
  | n+1,x11,x12,x13,x14=>zdD F x4 x5 (zbM F x4 x5 n) x11 x12 x13 x14
def zeI (F:Nat) (x2 x4:List Int) (x5:Int):Option (Bool × (List Int)) :=
  zbM F x4 x5 F x2 0 0 0
theorem zhk (F:Nat) (s1:Value) (x2:List Int) (s3:Value) (x4:List Int) (x5:Int) (w0:World) (h_s1:slOK (hp w0) 90 1 s1 x2.length (encs E90 x2)) (h_s3:rdEOK (hp w0) 1 E90 s3 x4) (ap_s3:∀ k,(E s3 x4).fp k→¬ (D s1 x2).fp k) (r:Bool × (List Int)) (M:zeI F x2 x4 x5=some r) :
    Ret P 179 #[s1,s3,.int .u32 x5] w0 (G:=Unit) (λ_=>B r.1) (λ_ w=>St w0 w (λk=>s1.ownBlock=some k) [] [D s1 r.2]):=by
 unfold zeI at M; refine roW Tryz.func179 C C C (λa H=>?_); have X:St w0 w0 (λk=>s1.ownBlock=some k) [E s3 x4] [D s1 x2]:=St.ownE h_s1 (lnc (lendRd h_s3) lnn) (apAll_cons ap_s3 (apAll_nil (q:=D s1 x2))); refine sg (l:=[0]) C<|mv H C λa H=>nk<|sg (l:=[0]) C<|mv H C λa H=>nk<|sg (l:=[0]) C<|mv H C λa H=>nk<|?_; refine W.seqR (λa w=>∃ (x6:List Int) (x7:Int) (x8:Int),Fr a 61 [] [(0,s1),(1,s3),(6,B false),(7,Uv x7),(8,.int .u32 x8)]∧St w0 w (λk=>s1.ownBlock=some k) [E s3 x4] [D s1 x6]∧zdC F x4 x6 x7 x8=some r) ?_ ?_
 ·refine sg (l:=[0,1,2]) C<|mv H C λa H=>ov (v:=I (x4.length:Int)) H C (Z.lenE (e:=90) (by simpa using zab) C (X.b 0 C)) λa H=>mv H C λa H=>nk<|W.block<|W.loop (G:=Nat × (List Int) × Int × Int × Int) (λg a w=>match g with | (k15,x11,x12,x13,x14)=>Fr a 61 [] [(0,s1),(1,s3),(2,.int .u32 x5),(6,B false),(7,Uv x12),(8,.int .u32 x13),(12,s3),(13,I (x4.length:Int)),(14,I x14)]∧St w0 w (λk=>s1.ownBlock=some k) [E s3 x4] [D s1 x11]∧zbM F x4 x5 k15 x11 x12 x13 x14=some r) (λg=>match g with | (k15,x11,x12,x13,x14)=>k15) (F,x2,0,0,0) ⟨H.q C,X,M⟩<|?_; clear H X M a; (try clear w); rintro ⟨k15,x11,x12,x13,x14⟩ a w ⟨H,X,M⟩
  rcases k15 with _ | k15
  · nomatch M
  replace M:zdD F x4 x5 (zbM F x4 x5 k15) x11 x12 x13 x14=some r:=M; obtain ⟨rec15,hrec15⟩:∃ f,f=zbM F x4 x5 k15:=⟨_,C⟩; rw [← hrec15] at M; unfold zdD at M; refine sg (l:=[0]) C<|ov H C (Z.lss C C) λa H=>nk<|W.seq<|?_; refine W.ifdI H C (λhc16=>?_) (λhc16=>?_)
  ·replace M:=hm_p M hc16; refine W.skip<|ksq<|W.seq<|W.block<|sg (l:=[0,1,2,3,4]) C<|mv H C λa H=>?_; refine hb M λx17 hx17 M=>ov H C (Z.ixE zab zae C C (X.b 0 C) hx17) λa H=>ov H C (Z.ldE1 (o:=0) zar E90_len C (X.b 0 C) hx17 C C) λa H=>mv2 H C C λa H=>nk<|sg (l:=[0,1,2,3,4,5,6,7]) C<|mv2 H C C λa H=>ov (v:=Uv (u64.wrap x5)) H C (Z.conv za1 zaF C) λa H=>mv H C λa H=>?_; refine ov (v:=Uv (u64.wrap x17)) H C (Z.conv za1 zaF C) λa H=>ov H C (Z.mul C C) λa H=>ov H C (Z.add C C) λa H=>mv H C λa H=>nk<|?_; obtain ⟨x18,hx18,M⟩:=hm_b M; rw [oj hx18] at H; refine sg (l:=[0,1,2,3,4,5,6,7,8,9,10,11,12,13,14,15]) C<|mv2 H C C λa H=>mv2 H C C λa H=>?_; refine hb M λx19 hx19 M=>ov H C (Z.ixE zab zae C C (X.s 0 C) hx19) λa H=>ov H C (Z.ldE1 (o:=0) zar E90_len C (X.s 0 C) hx19 C C) λa H=>mv H C λa H=>ov (v:=.int .u32 (u32.wrap x18)) H C (Z.conv zaM za8 C) λa H=>mv H C λa H=>?_; refine hb M λx20 hx20 M=>oq H X C zia (zdB F x19 (u32.wrap x18) x13 _ x20 hx20) ?_; rintro _ w X a H; refine mv H C λa H=>ex H C C C λa H=>ex H C C C λa H=>ov H C (Z.ixE zab zae C C (X.s 0 C) hx19) λa H=>O.storeE (j:=0) (o:=0) (y0:=x20.1) (l':=x11.set (Int.toNat x14) x20.1) (M':=[D s1 (x11.set (Int.toNat x14) x20.1)]) H X C C C zae C C C E90_len hx19 C C C C<|?_; intro w X; refine mv H C λa H=>nk<|wrL (l:=[0,1,2]) C<|mv H C λa H=>ov (v:=Uv (Int.fdiv x18 (2^32))) H C (Z.shr (q:=32) C C (by decide)) λa H=>mv H C λa H=>O.nil<|kbn<|ksq<|wrL (l:=[0,1]) C<|?_; refine ov H C (Z.add C C) λa H=>mv H C λa H=>O.nil<|?_; refine kth ⟨(k15,x11.set (Int.toNat x14) x20.1,Int.fdiv x18 (2^32),x20.2,i64.wrap (x14+1)),⟨H.q C,X,?_⟩,Nat.lt_succ_self _⟩; rw [hrec15] at M; exact M
  ·replace M:=hm_n M hc16; refine W.exit<|kte<|kte<|kbk<|?_; exact kth ⟨x11,x12,x13,H.q C,X,M⟩
 ·clear H X M a; (try clear w); rintro a w ⟨x6,x7,x8,H,X,M⟩; unfold zdC at M; refine sg (l:=[0,1,2]) C<|mv H C λa H=>ov (v:=I (x4.length:Int)) H C (Z.lenE (e:=90) (by simpa using zab) C (X.b 0 C)) λa H=>mv H C λa H=>nk<|sg (l:=[0,1,2,3,4,5,6,7,8,9,10,11,12,13,14,15]) C<|mv2 H C C λa H=>mv2 H C C λa H=>?_; refine hb M λx9 hx9 M=>ov H C (Z.ixE zab zae C C (X.s 0 C) hx9) λa H=>ov H C (Z.ldE1 (o:=0) zar E90_len C (X.s 0 C) hx9 C C) λa H=>mv H C λa H=>ov (v:=.int .u32 (u32.wrap x7)) H C (Z.conv zaM za8 C) λa H=>mv H C λa H=>?_; refine hb M λx10 hx10 M=>oq H X C zia (zdB F x9 (u32.wrap x7) x8 _ x10 hx10) ?_; rintro _ w X a H; refine mv H C λa H=>ex H C C C λa H=>ex H C C C λa H=>ov H C (Z.ixE zab zae C C (X.s 0 C) hx9) λa H=>O.storeE (j:=0) (o:=0) (y0:=x10.1) (l':=x6.set (Int.toNat (x4.length:Int)) x10.1) (M':=[D s1 (x6.set (Int.toNat (x4.length:Int)) x10.1)]) H X C C C zae C C C E90_len hx9 C C C C<|?_; intro w X; refine mv H C λa H=>nk<|sg (l:=[0,1,2]) C<|mv H C λa H=>ov H C (Z.eql C C) λa H=>mv H C λa H=>nk<|W.ret<|?_; obtain rfl:=oj M; refine post1 H C (rkt C) ?_; exact ⟨(),C,X.noB⟩
def ze1 (F:Nat) (x3 x4:Int) (x2 x6:List Int) (rec9:Int→Option (Int × (List Int))) (x8:Int):Option (Int × (List Int)) :=
  if sbd x3 x4 (x2.length:Int) then (zaB F (lsub x2 x3 x4)).bind λx11=>(zeI F x11 x6 x8).bind λx13=>if (x13.1)=true then (some (x8,lcopy x2 x13.2 x3 (min x13.2.length (Int.toNat x4-Int.toNat x3)))) else (rec9 (u32.wrap (x8-1))) else none
def zcC (F:Nat) (x3 x4:Int) (x2 x6:List Int):Nat→Int→Option (Int × (List Int))
  | 0,_=>none
  | n+1,x8=>ze1 F x3 x4 x2 x6 (zcC F x3 x4 x2 x6 n) x8
def zdE (F:Nat) (x3 x4:Int) (x2 x6:List Int) (x7:Int):Option (Int × (List Int)) :=
  zcC F x3 x4 x2 x6 F x7
def zgh (F:Nat) (x2:List Int) (x3 x4:Int) (x6:List Int):Option (Int × (List Int)) :=
  if sbd x3 x4 (x2.length:Int) then (idx (lsub x2 x3 x4) (x6.length:Int)).bind λx16=>(idx x6 (i64.wrap ((x6.length:Int)-1))).bind λx17=>if x16<(x17:Int) then ((idx (lsub x2 x3 x4) (i64.wrap ((x6.length:Int)-1))).bind λx19=>(zdh F x16 x19 x17).bind λx20=>zdE F x3 x4 x2 x6 x20.1) else (zdE F x3 x4 x2 x6 4294967295) else none
theorem zic (F:Nat) (s1:Value) (x2:List Int) (x3 x4:Int) (s5:Value) (x6:List Int) (w0:World) (h_s1:slOK (hp w0) 90 1 s1 x2.length (encs E90 x2)) (h_s5:rdEOK (hp w0) 1 E90 s5 x6) (ap_s5:∀ k,(E s5 x6).fp k→¬ (D s1 x2).fp k) (r:Int × (List Int)) (M:zgh F x2 x3 x4 x6=some r) :
    Ret P 148 #[vsub 1 s1 x3 x4,s5] w0 (G:=Unit) (λ_=>.int .u32 r.1) (λ_ w=>St w0 w (λk=>s1.ownBlock=some k) [] [D s1 r.2]):=by
 unfold zgh at M; refine roW Tryz.func148 C C C (λa H=>?_); have X:St w0 w0 (λk=>s1.ownBlock=some k) [E s5 x6] [D s1 x2]:=St.ownE h_s1 (lnc (lendRd h_s5) lnn) (apAll_cons ap_s5 (apAll_nil (q:=D s1 x2))); refine sg (l:=[0]) C<|mv H C λa H=>nk<|sg (l:=[0,1,2]) C<|mv H C λa H=>ov (v:=I (x6.length:Int)) H C (Z.lenE (e:=90) (by simpa using zab) C (X.b 0 C)) λa H=>mv H C λa H=>nk<|sg (l:=[0]) C<|mv H C λa H=>?_; refine nk ?_; refine W.seqR (λa w=>∃ (x7:Int),Fr a 50 [] [(0,vsub 1 s1 x3 x4),(1,s5),(4,.int .u32 0),(6,.int .u32 x7)]∧St w0 w (λk=>s1.ownBlock=some k) [E s5 x6] [D s1 x2]∧zdE F x3 x4 x2 x6 x7=some r) ?_ ?_
 ·refine W.seq ?_; obtain ⟨hg15,M⟩:=hm_g M; obtain ⟨x16,hx16,M⟩:=hm_b M; refine hb M λx17 hx17 M=>W.drawQ (λw=>St w0 w (λk=>s1.ownBlock=some k) [E s5 x6] [D s1 x2]) P_mixed C (by kernel_rfl) C X.drew ?_; clear X; (try clear w); refine OQ.val (v:=vsub 1 s1 x3 x4) H C (λw X=>Z.move C) λa H=>OQ.val (v:=I (x6.length:Int)) H C (λw X=>Z.move C) λa H=>OQ.val (v:=ix s1 (Int.toNat (x3+(x6.length:Int))*1)) H C (λw X=>Z.ixW zab zae C C (X.s 0 C) E90_len hg15 hx16) λa H=>OQ.val (v:=.int .u32 x16) H C (λw X=>Z.ldE1 (o:=0) zar E90_len C (X.s 0 C) (idx_lsub hg15 hx16) C C) λa H=>OQ.val (v:=s5) H C (λw X=>Z.move C) λa H=>OQ.val (v:=I (x6.length:Int)) H C (λw X=>Z.move C) λa H=>OQ.val (v:=I (i64.wrap ((x6.length:Int)-1))) H C (λw X=>Z.sub C C) λa H=>OQ.val (v:=ix s5 (Int.toNat (i64.wrap ((x6.length:Int)-1))*1)) H C (λw X=>Z.ixE zab zae C C (X.b 0 C) hx17) λa H=>OQ.val (v:=.int .u32 x17) H C (λw X=>Z.ldE1 (o:=0) zar E90_len C (X.b 0 C) hx17 C C) λa H=>OQ.val (v:=B (decide (x16<(x17:Int)))) H C (λw X=>Z.lss C C) λa H=>?_; refine OQ.nil ?_; intro w X; refine ksq ?_; refine W.ifdI H C (λhc18=>?_) (λhc18=>?_)
  ·replace M:=hm_p M hc18; obtain ⟨x19,hx19,M⟩:=hm_b M; refine hb M λx20 hx20 M=>W.drawQ (λw=>St w0 w (λk=>s1.ownBlock=some k) [E s5 x6] [D s1 x2]) P_mixed C (by kernel_rfl) C X.drew ?_; clear X; (try clear w); refine OQ.val (v:=vsub 1 s1 x3 x4) H C (λw X=>Z.move C) λa H=>OQ.val (v:=I (x6.length:Int)) H C (λw X=>Z.move C) λa H=>OQ.val (v:=ix s1 (Int.toNat (x3+(x6.length:Int))*1)) H C (λw X=>Z.ixW zab zae C C (X.s 0 C) E90_len hg15 hx16) λa H=>OQ.val (v:=.int .u32 x16) H C (λw X=>Z.ldE1 (o:=0) zar E90_len C (X.s 0 C) (idx_lsub hg15 hx16) C C) λa H=>OQ.val (v:=vsub 1 s1 x3 x4) H C (λw X=>Z.move C) λa H=>OQ.val (v:=I (x6.length:Int)) H C (λw X=>Z.move C) λa H=>OQ.val (v:=I (i64.wrap ((x6.length:Int)-1))) H C (λw X=>Z.sub C C) λa H=>OQ.val (v:=ix s1 (Int.toNat (x3+(i64.wrap ((x6.length:Int)-1)))*1)) H C (λw X=>Z.ixW zab zae C C (X.s 0 C) E90_len hg15 hx19) λa H=>OQ.val (v:=.int .u32 x19) H C (λw X=>Z.ldE1 (o:=0) zar E90_len C (X.s 0 C) (idx_lsub hg15 hx19) C C) λa H=>OQ.val (v:=s5) H C (λw X=>Z.move C) λa H=>?_; refine OQ.val (v:=I (x6.length:Int)) H C (λw X=>Z.move C) λa H=>OQ.val (v:=I (i64.wrap ((x6.length:Int)-1))) H C (λw X=>Z.sub C C) λa H=>OQ.val (v:=ix s5 (Int.toNat (i64.wrap ((x6.length:Int)-1))*1)) H C (λw X=>Z.ixE zab zae C C (X.b 0 C) hx17) λa H=>OQ.val (v:=.int .u32 x17) H C (λw X=>Z.ldE1 (o:=0) zar E90_len C (X.b 0 C) hx17 C C) λa H=>OQ.callRq (v:=.tuple #[.int .u32 x20.1,.int .u32 x20.2]) H C (λw X=>RunE.call (av:=#[.int .u32 x16,.int .u32 x19,.int .u32 x17]) zi0 C C C) (λw X=>zfm F x16 x19 x17 _ x20 hx20) λa H=>OQ.val (v:=.tuple #[.int .u32 x20.1,.int .u32 x20.2]) H C (λw X=>Z.move C) λa H=>OQ.val (v:=.int .u32 x20.1) H C (λw X=>Z.extract C C) λa H=>OQ.val (v:=.int .u32 x20.2) H C (λw X=>Z.extract C C) λa H=>OQ.val (v:=.int .u32 x20.1) H C (λw X=>Z.assign C) λa H=>?_; refine OQ.nil ?_; intro w X; exact kth ⟨x20.1,H.q C,X,M⟩
  ·replace M:=hm_n M hc18; refine W.skip ?_; exact kth ⟨4294967295,H.q C,X,M⟩
 ·clear H X M a; (try clear w); rintro a w ⟨x7,H,X,M⟩; unfold zdE at M; refine W.block<|W.loop (G:=Nat × Int) (λg a w=>match g with | (k9,x8)=>Fr a 50 [] [(0,vsub 1 s1 x3 x4),(1,s5),(4,.int .u32 0),(6,.int .u32 x8)]∧St w0 w (λk=>s1.ownBlock=some k) [E s5 x6] [D s1 x2]∧zcC F x3 x4 x2 x6 k9 x8=some r) (λg=>match g with | (k9,x8)=>k9) (F,x7) ⟨H.q C,X,M⟩<|?_; clear H X M a; (try clear w); rintro ⟨k9,x8⟩ a w ⟨H,X,M⟩
  rcases k9 with _ | k9
  · nomatch M
  replace M:ze1 F x3 x4 x2 x6 (zcC F x3 x4 x2 x6 k9) x8=some r:=M; obtain ⟨rec9,hrec9⟩:∃ f,f=zcC F x3 x4 x2 x6 k9:=⟨_,C⟩; rw [← hrec9] at M; unfold ze1 at M; refine W.block<|sg (l:=[0,1,2]) C<|mv H C λa H=>?_; obtain ⟨hg10,M⟩:=hm_g M; refine hb M λx11 hx11 M=>oq H X C zfQ (zaJ F (vsub 1 s1 x3 x4) (lsub x2 x3 x4) _ (rdEOK.sub (X.s 0 C) E90_len hg10) x11 hx11) ?_; rintro s12 w X a H; refine mv H C λa H=>nk<|W.seq<|sg (l:=[0,1,2,3]) C<|mv2 H C C λa H=>mv H C λa H=>?_; refine hb M λx13 hx13 M=>oc H C zjT (zhk F s12 x11 s5 x6 x8 _ (X.slS (j:=0) C) (X.b 0 C) (X.apart (i:=0) (j:=0) C C) x13 hx13) ?_; rintro _ w Y a H; replace X:=X.cz Y 0 λ_ h=>h; refine nk ?_; refine W.if_ H C (λhc14=>?_) (λhc14=>?_)
  ·replace M:=hm_t M hc14; refine sg (l:=[0,1,2]) C<|mv2 H C C λa H=>O.copyW (j:=1) (p1:=x3) (p2:=x4) (M':=[D s12 x13.2,D s1 (lcopy x2 x13.2 x3 (min x13.2.length (Int.toNat x4-Int.toNat x3)))]) H X C C zab zae C C C (X.s 0 C) E90_len E90_one hg10 C C<|?_; intro w a X H; refine nk ?_; replace X:=X.sl [0,1]; refine sg (l:=[0,1]) C<|mv2 H C C λa H=>nk<|W.ret<|ktr<|kbr<|ktr<|kbr<|?_; obtain rfl:=oj M; refine post1 H C (rkt C) ?_; exact ⟨(),C,X.noB⟩
  ·replace M:=hm_f M hc14; refine W.skip<|ksq<|?_; replace X:=X.sl [0,1]; refine wrL (l:=[0,1,2]) C<|mv H C λa H=>ov H C (Z.sub C C) λa H=>mv H C λa H=>O.nil<|kbn<|?_; refine kth ⟨(k9,u32.wrap (x8-1)),⟨H.q C,X,?_⟩,Nat.lt_succ_self _⟩; rw [hrec9] at M; exact M
def zfZ (F:Nat) (x1:Int):Option Bool :=
  some (decide (x1>(0:Int)))
theorem zh1 (F:Nat) (x1:Int) (w0:World) (r:Bool) (M:zfZ F x1=some r) :
    Ret P 165 #[.int .u32 x1] w0 (G:=Unit) (λ_=>B r) (λ_ w=>St w0 w noX [] []):=by
 unfold zfZ at M; refine roW Tryz.func165 C C C (λa H=>?_); have X:St w0 w0 noX [] []:=Sbw lnn; refine sg (l:=[0]) C<|mv H C λa H=>nk<|sg (l:=[0,1,2]) C<|mv H C λa H=>ov H C (Z.gtr C C) λa H=>mv H C λa H=>nk<|W.ret<|?_; obtain rfl:=oj M; refine post1 H C (rkt C) ?_; exact ⟨(),C,X.noB⟩
def zaO (F:Nat) :Option Int :=
  some (-1)
def zaP (F:Nat) (x2:List Int) (rec4:Int→Option Int) (x3:Int):Option Int :=
  if x3<((x2.length:Int):Int) then ((idx x2 x3).bind λx6=>(zfZ F x6).bind λx7=>if (x7)=true then (some x3) else (rec4 (i64.wrap (x3+1)))) else (zaO F)
def zay (F:Nat) (x2:List Int):Nat→Int→Option Int
  | 0,_=>none
  | n+1,x3=>zaP F x2 (zay F x2 n) x3
def zaU (F:Nat) (x2:List Int):Option Int :=
  zay F x2 F 0
theorem zcy (F:Nat) (s1:Value) (x2:List Int) (w0:World) (h_s1:rdEOK (hp w0) 1 E90 s1 x2) (r:Int) (M:zaU F x2=some r) :
    Ret P 185 #[s1,.func (.func 165) #[] #[]] w0 (G:=Unit) (λ_=>I r) (λ_ w=>St w0 w noX [] []):=by
 unfold zaU at M; refine roW Tryz.func185 C C C (λa H=>?_); have X:St w0 w0 noX [E s1 x2] []:=Sbw (lnc (lendRd h_s1) lnn); refine sg (l:=[0]) C<|mv H C λa H=>nk<|?_; refine W.seqR (λa w=>Fr a 19 [] [(4,I 0)]∧St w0 w noX [E s1 x2] []∧zaO F=some r) ?_ ?_
 ·refine sg (l:=[0,1,2]) C<|mv H C λa H=>ov (v:=I (x2.length:Int)) H C (Z.lenE (e:=90) (by simpa using zab) C (X.b 0 C)) λa H=>mv H C λa H=>nk<|?_; refine W.block<|W.loop (G:=Nat × Int) (λg a w=>match g with | (k4,x3)=>Fr a 19 [] [(0,s1),(1,.func (.func 165) #[] #[]),(4,I 0),(7,I (x2.length:Int)),(8,I x3)]∧St w0 w noX [E s1 x2] []∧zay F x2 k4 x3=some r) (λg=>match g with | (k4,x3)=>k4) (F,0) ⟨H.q C,X,M⟩<|?_; clear H X M a; (try clear w); rintro ⟨k4,x3⟩ a w ⟨H,X,M⟩
  rcases k4 with _ | k4
  · nomatch M
  replace M:zaP F x2 (zay F x2 k4) x3=some r:=M; obtain ⟨rec4,hrec4⟩:∃ f,f=zay F x2 k4:=⟨_,C⟩; rw [← hrec4] at M; unfold zaP at M; refine sg (l:=[0]) C<|ov H C (Z.lss C C) λa H=>nk<|W.seq<|?_; refine W.ifdI H C (λhc5=>?_) (λhc5=>?_)
  ·replace M:=hm_p M hc5; refine W.skip<|ksq<|W.seq<|W.block<|sg (l:=[0,1]) C<|mv2 H C C λa H=>nk<|sg (l:=[0,1,2,3,4,5]) C<|mv H C λa H=>?_; refine mv2 H C C λa H=>?_; refine hb M λx6 hx6 M=>ov H C (Z.ixE zab zae C C (X.b 0 C) hx6) λa H=>ov H C (Z.ldE1 (o:=0) zar E90_len C (X.b 0 C) hx6 C C) λa H=>?_; refine hb M λx7 hx7 M=>oq H X C zjP (zh1 F x6 _ x7 hx7) ?_; rintro _ w X a H; refine nk ?_; refine W.if_ H C (λhc8=>?_) (λhc8=>?_)
   ·replace M:=hm_t M hc8; refine sg (l:=[0,1]) C<|mv2 H C C λa H=>nk<|W.ret<|kbr<|ktr<|ktr<|kbr<|ktr<|?_; obtain rfl:=oj M; refine post1 H C (rkt C) ?_; exact ⟨(),C,X.noB⟩
   ·replace M:=hm_f M hc8; refine W.skip<|kbn<|ksq<|wrL (l:=[0,1]) C<|ov H C (Z.add C C) λa H=>mv H C λa H=>O.nil<|?_; refine kth ⟨(k4,i64.wrap (x3+1)),⟨H.q C,X,?_⟩,Nat.lt_succ_self _⟩; rw [hrec4] at M; exact M
  ·replace M:=hm_n M hc5; refine W.exit<|kte<|kte<|kbk<|?_; exact kth ⟨H.q C,X,M⟩
 ·clear H X M a; (try clear w); rintro a w ⟨H,X,M⟩; unfold zaO at M; refine sg (l:=[0]) C<|mv H C λa H=>nk<|W.ret<|?_; obtain rfl:=oj M; refine post1 H C (rkt C) ?_; exact ⟨(),C,X.noB⟩
def zaQ (F:Nat) (x2:List Int):Option Bool :=
  (zaU F x2).bind λx3=>some (decide (x3≥(0:Int)))
theorem zcd (F:Nat) (s1:Value) (x2:List Int) (w0:World) (h_s1:rdEOK (hp w0) 1 E90 s1 x2) (r:Bool) (M:zaQ F x2=some r) :
    Ret P 164 #[s1,.func (.func 165) #[] #[]] w0 (G:=Unit) (λ_=>B r) (λ_ w=>St w0 w noX [] []):=by
 unfold zaQ at M; refine roW Tryz.func164 C C C (λa H=>?_); have X:St w0 w0 noX [E s1 x2] []:=Sbw (lnc (lendRd h_s1) lnn); refine sg (l:=[0]) C<|mv H C λa H=>nk<|sg (l:=[0,1,2,3,4]) C<|mv2 H C C λa H=>?_; refine hb M λx3 hx3 M=>oq H X C zjW (zcy F s1 x2 _ (X.b 0 C) x3 hx3) ?_; rintro _ w X a H; refine ov H C (Z.geq C C) λa H=>mv H C λa H=>nk<|W.ret<|?_; obtain rfl:=oj M; refine post1 H C (rkt C) ?_; exact ⟨(),C,X.noB⟩
def zfq (F:Nat) (x7:Bool) (x18:List Int) (x19:Int):Option ((List Int) × Bool) :=
  some (x18,x7||(decide (x19>(0:Int))))
def zfr (F:Nat) (x3:Int) (rec15:(List Int)→Int→Option ((List Int) × Bool)) (x16 x17:Int) (x18:List Int) (x19:Int):Option ((List Int) × Bool) :=
  (some (bitor .u64 (u64.wrap (x19*2^32)) (u64.wrap x17))).bind λx21=>if 0≤(Int.tmod x3 32) then (idx x18 x16).bind λx23=>if 0≤(Int.tmod x3 32) then rec15 (x18.set (Int.toNat x16) (u32.wrap (Int.fdiv x21 (2^(min (Int.toNat (Int.tmod x3 32)) (IntKind.bits .u64)))))) (bitand .u64 x21 (u64.wrap ((u64.wrap (1*2^(min (Int.toNat (Int.tmod x3 32)) (IntKind.bits .u64))))-1))) else none else none
def zbN (F:Nat) (x3:Int) (x7:Bool):List (Int × Int)→(List Int)→Int→Option ((List Int) × Bool)
  | [],x18,x19=>zfq F x7 x18 x19
  | p::t,x18,x19=>zfr F x3 (zbN F x3 x7 t) p.1 p.2 x18 x19
def zej (F:Nat) (x2:List Int) (x3:Int):Option ((List Int) × Bool) :=
  (some (if (x2.length:Int)<(i64.wrap (Int.tdiv x3 32)) then (x2.length:Int) else (i64.wrap (Int.tdiv x3 32)))).bind λx5=>if sbd 0 x5 (x2.length:Int) then (zaQ F (lsub x2 0 x5)).bind λx7=>if 0≤(i64.wrap ((x2.length:Int)-x5))∧(i64.wrap ((x2.length:Int)-x5))≤4294967296 then if sbd x5 (x2.length:Int) (x2.length:Int) then (zeP F (lsub x2 x5 (x2.length:Int))).bind λx13=>zbN F x3 x7 (downL (lsub x2 x5 (x2.length:Int))) (List.replicate (Int.toNat (i64.wrap ((x2.length:Int)-x5))) (0:Int)) 0 else none else none else none
theorem zfs (F:Nat) (s1:Value) (x2:List Int) (x3:Int) (w0:World) (h_s1:rdEOK (hp w0) 1 E90 s1 x2) (r:(List Int) × Bool) (M:zej F x2 x3=some r) :
    Ret P 132 #[s1,I x3] w0 (G:=Value) (λg1=>.tuple #[g1,B r.2]) (λg1 w=>St w0 w noX [] [D g1 r.1]):=by
 unfold zej at M; refine ret_of_WM (lv:=[s1,I x3]) Tryz.func132 C C C (λa H=>?_); have X:St w0 w0 noX [E s1 x2] []:=Sbw (lnc (lendRd h_s1) lnn); replace X:=X.mk0; refine sg (l:=[0,1,2]) C<|O.box (cs:=#[I x3]) H X C C C C<|?_; intro b4 w a hb4 X H; refine mv2 H C C λa H=>nk<|sg (l:=[0,1,2,3,4,5]) C<|ov H C (Z.load1 zbr C (X.p 0 C) C) λa H=>ov (v:=I (i64.wrap (Int.tdiv x3 32))) H C (Z.quo (q:=32) C C (by decide)) λa H=>mv H C λa H=>ov (v:=I (x2.length:Int)) H C (Z.lenE (e:=90) (by simpa using zab) C (X.b 0 C)) λa H=>ov (v:=I (if (x2.length:Int)<(i64.wrap (Int.tdiv x3 32)) then (x2.length:Int) else (i64.wrap (Int.tdiv x3 32)))) H C (Z.min C C) λa H=>mv H C λa H=>?_; refine nk ?_; obtain ⟨x5,hx5,M⟩:=hm_b M; rw [oj hx5] at H; refine sg (l:=[0,1,2,3,4]) C<|mv2 H C C λa H=>?_; obtain ⟨hg6,M⟩:=hm_g M; refine ov (v:=vsub 1 s1 0 x5) H C (Z.sliceH zab zae C C (X.b 0 C) hg6) λa H=>?_; refine hb M λx7 hx7 M=>oq H X C zjO (zcd F (vsub 1 s1 0 x5) (lsub x2 0 x5) _ (rdEOK.sub (X.b 0 C) E90_len hg6) x7 hx7) ?_; rintro _ w X a H; refine mv H C λa H=>nk<|sg (l:=[0,1,2,3,4,5,6]) C<|mv H C λa H=>ov (v:=I (x2.length:Int)) H C (Z.lenE (e:=90) (by simpa using zab) C (X.b 0 C)) λa H=>mv H C λa H=>ov H C (Z.sub C C) λa H=>?_; obtain ⟨hg8,M⟩:=hm_g M; refine O.makeE (enc:=E90) (x0:=(0:Int)) H X C C zab zae za7 zaE C C C hg8 C E90_len C ?_; intro s9 w a X H; refine O.alloc (cs:=#[.slice none 0 0]) H X C C ziF C ?_; intro b10 w a hb10 X H; refine O.store (m:=1) (j:=0) (cs':=#[s9]) (M':=[pt b10 (Cs #[s9] 28),D s9 (List.replicate (Int.toNat (i64.wrap ((x2.length:Int)-x5))) (0:Int)),pI3 b4 x3,mkA []]) H X C C C ziD (by rw [rdc (X.s 1 C)]; rfl) (by rw [rdc (X.s 1 C)]; exact rdo (X.s 1 C)) C (bl C) (by rw [rdc (X.s 1 C)]; rfl) C ?_; intro w X; refine nk<|sg (l:=[0]) C<|O.alloc (cs:=#[Uv 0]) H X C C zjw C<|?_; intro b11 w a hb11 X H; refine nk<|W.seq<|sg (l:=[0,1,2,3]) C<|mv2 H C C λa H=>?_; obtain ⟨hg12,M⟩:=hm_g M; refine ov (v:=vsub 1 s1 x5 (x2.length:Int)) H C (Z.sliceL zab zae C C (X.b 0 C) hg12) λa H=>?_; refine hb M λx13 hx13 M=>oq H X C zh7 (zfU F (vsub 1 s1 x5 (x2.length:Int)) (lsub x2 x5 (x2.length:Int)) _ (rdEOK.sub (X.b 0 C) E90_len hg12) x13 hx13) ?_; rintro b14 w X a H; refine nk<|W.block<|?_; replace X:=X.fr 1; replace X:=X.fr 2; replace X:=X.fr 3; replace X:=X.fr 4; replace X:=X.fr 5; refine W.rangeFn2 (G:=(List Int) × Int) (G2:=Unit) (gf:=143) (lb:=#[Pv b14 0]) (xs:=(downL (lsub x2 x5 (x2.length:Int))).map (λp:Int × Int=>(I p.1,Value.int .u32 p.2))) (λx y=>[(3,Pv b4 0),(4,.slice none 0 0),(5,B false),(7,B x7),(8,Pv b10 0),(9,Pv b11 0),(10,x),(11,y),(29,.func (.func 143) #[] #[Pv b14 0]),(30,x),(31,y)]) (λg=>match g with | (x18,x19)=>[mkA [],pI3 b4 x3,D s9 x18,pt b10 (Cs #[s9] 28),pt b11 (Cs #[Uv x19] 88),pt b14 (Cs #[vsub 1 s1 x5 (x2.length:Int)] 28)]) (λk g=>match g with | (x18,x19)=>zbN F x3 x7 ((downL (lsub x2 x5 (x2.length:Int))).drop k) x18 x19=some r) (List.replicate (Int.toNat (i64.wrap ((x2.length:Int)-x5))) (0:Int),0) (RdAt 28 1 E90 b14 (vsub 1 s1 x5 (x2.length:Int)) (lsub x2 x5 (x2.length:Int))) (λg=>match g with | _=>[]) (λg=>match g with | _=>False) H C C C zh9 X M (iter_143 _ _ _) ?_ ?_ ?_ ?_ ?_
 ·rintro ⟨x18,x19⟩ w X; replace X:St w0 w noX [E s1 x2] [mkA [],pI3 b4 x3,D s9 x18,pt b10 (Cs #[s9] 28),pt b11 (Cs #[Uv x19] 88),pt b14 (Cs #[vsub 1 s1 x5 (x2.length:Int)] 28)]:=X; exact ⟨X.ptAt (i:=5) C,(rdEOK.sub (X.b 0 C) E90_len hg12)⟩
 ·clear H X M a; (try clear w); intro l x y w a H; refine sg (l:=[0]) C<|mv H C λa H=>nk<|wrL (l:=[0]) C<|mv H C λa H=>O.nil<|?_; exact ⟨C,H.q C,C⟩
 ·clear H X M a; (try clear w); rintro dl15 do15 dD15 k15 x y ⟨x18,x19⟩ w hx M X a H; obtain ⟨⟨x16,x17⟩,hp,hxy⟩:=down_x hx; obtain ⟨rfl,rfl⟩:=Prod.mk.inj hxy; replace X:St w0 w noX [E s1 x2] [pt dl15 do15,pt dD15 (.deferred (some [])),mkA [],pI3 b4 x3,D s9 x18,pt b10 (Cs #[s9] 28),pt b11 (Cs #[Uv x19] 88),pt b14 (Cs #[vsub 1 s1 x5 (x2.length:Int)] 28)]:=X; replace M:zbN F x3 x7 ((downL (lsub x2 x5 (x2.length:Int))).drop k15) x18 x19=some r:=M; rw [drop_cons hp] at M; replace M:zfr F x3 (zbN F x3 x7 ((downL (lsub x2 x5 (x2.length:Int))).drop (k15+1))) x16 x17 x18 x19=some r:=M; obtain ⟨rec15,hrec15⟩:∃ f,f=zbN F x3 x7 ((downL (lsub x2 x5 (x2.length:Int))).drop (k15+1)):=⟨_,C⟩; rw [← hrec15] at M; unfold zfr at M; refine W.block<|sg (l:=[0,1,2,3,4,5]) C<|ov H C (Z.load1 zde C (X.p 6 C) C) λa H=>ov (v:=Uv (u64.wrap (x19*2^32))) H C (Z.shl (q:=32) C C (by decide)) λa H=>mv H C λa H=>ov (v:=Uv (u64.wrap x17)) H C (Z.conv za1 zaF C) λa H=>ov (v:=Uv (bitor .u64 (u64.wrap (x19*2^32)) (u64.wrap x17))) H C (Z.bitor C C) λa H=>ost 6 #[Uv (bitor .u64 (u64.wrap (x19*2^32)) (u64.wrap x17))] H X C C C ziE C C C (bl C) C<|?_; intro w X; refine nk ?_; obtain ⟨x21,hx21,M⟩:=hm_b M; rw [oj hx21] at X; refine W.seq ?_; have J:Fr a 57 [] []:=H.to trivial; obtain ⟨hg22,M⟩:=hm_g M; refine hb M λx23 hx23 M=>W.drawK (γ:=Unit) (L0:=[(3,Pv b4 0),(4,.slice none 0 0),(5,B false),(8,Pv b10 0),(9,Pv b11 0),(10,I x16)]) (L1:=[]) () [8] [] [0,1,2,3,4,5,6,7] (λi=>match i with | 4=>[3] | 5=>[2,4] | 6=>[5] | 7=>[0,1,2,3,4,5,6] | 8=>[0,1,2,3,4,5,6,7] | _=>[]) (λ_=>[]) (λ_=>[]) (λ_=>[]) (λ_=>0) (λi=>match i with | 8=>1 | _=>0) (λ(g:Unit) j=>match j with | 0=>s9 | 1=>I x16 | 2=>Uv x21 | 3=>I x3 | 4=>I (Int.tmod x3 32) | 5=>Uv (Int.fdiv x21 (2^(min (Int.toNat (Int.tmod x3 32)) (IntKind.bits .u64)))) | 6=>.int .u32 (u32.wrap (Int.fdiv x21 (2^(min (Int.toNat (Int.tmod x3 32)) (IntKind.bits .u64))))) | 7=>ix s9 (Int.toNat x16*1) | _=>undef) (λk s (g:Unit) w=>match k with | 0=>St w0 w noX [E s1 x2] [pt dl15 do15,pt dD15 (.deferred (some [])),mkA [],pI3 b4 x3,D s9 x18,pt b10 (Cs #[s9] 28),pt b11 (Cs #[Uv x21] 88),pt b14 (Cs #[vsub 1 s1 x5 (x2.length:Int)] 28)] | _=>St w0 w noX [E s1 x2] [pt dl15 do15,pt dD15 (.deferred (some [])),mkA [],pI3 b4 x3,D s9 (x18.set (Int.toNat x16) (u32.wrap (Int.fdiv x21 (2^(min (Int.toNat (Int.tmod x3 32)) (IntKind.bits .u64)))))),pt b10 (Cs #[s9] 28),pt b11 (Cs #[Uv x21] 88),pt b14 (Cs #[vsub 1 s1 x5 (x2.length:Int)] 28)]) P_mixed (by kernel_rfl) (H.q C) J X.drew ?_ ?_ ?_ ?_
  ·clear H J X; refine ⟨?_,λk s g w _ _ _ X a H=>Q.val (v:=I x16) C C C X H (Z.move C),?_,?_,λk s g w _ _ _ X a H=>Q.val (v:=I (Int.tmod x3 32)) C C C X H (Z.rem (q:=32) C C (by decide)),λk s g w _ _ _ X a H=>Q.val (v:=Uv (Int.fdiv x21 (2^(min (Int.toNat (Int.tmod x3 32)) (IntKind.bits .u64))))) C C C X H (Z.shr C C hg22),λk s g w _ _ _ X a H=>Q.val (v:=.int .u32 (u32.wrap (Int.fdiv x21 (2^(min (Int.toNat (Int.tmod x3 32)) (IntKind.bits .u64)))))) C C C X H (Z.conv zaM za8 C),?_,trivial⟩
   ·intro k s g w h1_ h2_ hsp X a H
    rcases k with _ | k
    ·exact Q.val (v:=s9) C C C X H (Z.load1 zan C (X.p 5 C) C)
    ·simp at h2_
   ·intro k s g w h1_ h2_ hsp X a H
    rcases k with _ | k
    ·exact Q.val (v:=Uv x21) C C C X H (Z.load1 zde C (X.p 6 C) C)
    ·simp at h2_
   ·intro k s g w h1_ h2_ hsp X a H
    rcases k with _ | k
    ·exact Q.val (v:=I x3) C C C X H (Z.load1 zbr C (X.p 3 C) C)
    ·simp at h2_
   ·intro k s g w h1_ h2_ hsp X a H
    rcases k with _ | k
    ·exact Q.val (v:=ix s9 (Int.toNat x16*1)) C C C X H (Z.ixE zab zae C C (X.s 4 C) hx23)
    ·simp at h2_
  ·clear H J X; refine ⟨?_,trivial⟩
   ·intro s g w hsp X a H; refine O.storeE (j:=4) (o:=0) (y0:=(u32.wrap (Int.fdiv x21 (2^(min (Int.toNat (Int.tmod x3 32)) (IntKind.bits .u64)))))) (l':=x18.set (Int.toNat x16) (u32.wrap (Int.fdiv x21 (2^(min (Int.toNat (Int.tmod x3 32)) (IntKind.bits .u64)))))) (M':=[pt dl15 do15,pt dD15 (.deferred (some [])),mkA [],pI3 b4 x3,D s9 (x18.set (Int.toNat x16) (u32.wrap (Int.fdiv x21 (2^(min (Int.toNat (Int.tmod x3 32)) (IntKind.bits .u64)))))),pt b10 (Cs #[s9] 28),pt b11 (Cs #[Uv x21] 88),pt b14 (Cs #[vsub 1 s1 x5 (x2.length:Int)] 28)]) H X C C C zae C C C E90_len hx23 C C C C ?_; intro w X; exact nG H ⟨(λd hd=>by cases (show none=some d from hd)),(λ_ _ _=>C),X⟩
  ·clear H J X; exact trivial
  clear H J X; intro s g a w hs H X; refine ksq ?_; have J:Fr a 57 [] []:=H.to trivial; obtain ⟨hg24,M⟩:=hm_g M; refine W.drawK (γ:=Unit) (L0:=[(3,Pv b4 0),(4,.slice none 0 0),(5,B false),(9,Pv b11 0)]) (L1:=[]) () [6] [] [0,1,2,3,4,5] (λi=>match i with | 2=>[1] | 3=>[2] | 4=>[3] | 5=>[0,4] | 6=>[0,1,2,3,4,5] | _=>[]) (λ_=>[]) (λ_=>[]) (λ_=>[]) (λ_=>0) (λi=>match i with | 6=>1 | _=>0) (λ(g:Unit) j=>match j with | 0=>Uv x21 | 1=>I x3 | 2=>I (Int.tmod x3 32) | 3=>Uv (u64.wrap (1*2^(min (Int.toNat (Int.tmod x3 32)) (IntKind.bits .u64)))) | 4=>Uv (u64.wrap ((u64.wrap (1*2^(min (Int.toNat (Int.tmod x3 32)) (IntKind.bits .u64))))-1)) | 5=>Uv (bitand .u64 x21 (u64.wrap ((u64.wrap (1*2^(min (Int.toNat (Int.tmod x3 32)) (IntKind.bits .u64))))-1))) | _=>undef) (λk s (g:Unit) w=>match k with | 0=>St w0 w noX [E s1 x2] [pt dl15 do15,pt dD15 (.deferred (some [])),mkA [],pI3 b4 x3,D s9 (x18.set (Int.toNat x16) (u32.wrap (Int.fdiv x21 (2^(min (Int.toNat (Int.tmod x3 32)) (IntKind.bits .u64)))))),pt b10 (Cs #[s9] 28),pt b11 (Cs #[Uv x21] 88),pt b14 (Cs #[vsub 1 s1 x5 (x2.length:Int)] 28)] | _=>St w0 w noX [E s1 x2] [pt dl15 do15,pt dD15 (.deferred (some [])),mkA [],pI3 b4 x3,D s9 (x18.set (Int.toNat x16) (u32.wrap (Int.fdiv x21 (2^(min (Int.toNat (Int.tmod x3 32)) (IntKind.bits .u64)))))),pt b10 (Cs #[s9] 28),pt b11 (Cs #[Uv (bitand .u64 x21 (u64.wrap ((u64.wrap (1*2^(min (Int.toNat (Int.tmod x3 32)) (IntKind.bits .u64))))-1)))] 88),pt b14 (Cs #[vsub 1 s1 x5 (x2.length:Int)] 28)]) P_mixed (by kernel_rfl) (H.q C) J X.drew ?_ ?_ ?_ ?_
  ·clear H J X; refine ⟨?_,?_,λk s g w _ _ _ X a H=>Q.val (v:=I (Int.tmod x3 32)) C C C X H (Z.rem (q:=32) C C (by decide)),λk s g w _ _ _ X a H=>Q.val (v:=Uv (u64.wrap (1*2^(min (Int.toNat (Int.tmod x3 32)) (IntKind.bits .u64))))) C C C X H (Z.shl C C hg24),λk s g w _ _ _ X a H=>Q.val (v:=Uv (u64.wrap ((u64.wrap (1*2^(min (Int.toNat (Int.tmod x3 32)) (IntKind.bits .u64))))-1))) C C C X H (Z.sub C C),λk s g w _ _ _ X a H=>Q.val (v:=Uv (bitand .u64 x21 (u64.wrap ((u64.wrap (1*2^(min (Int.toNat (Int.tmod x3 32)) (IntKind.bits .u64))))-1)))) C C C X H (Z.bitand C C),trivial⟩
   ·intro k s g w h1_ h2_ hsp X a H
    rcases k with _ | k
    ·exact Q.val (v:=Uv x21) C C C X H (Z.load1 zde C (X.p 6 C) C)
    ·simp at h2_
   ·intro k s g w h1_ h2_ hsp X a H
    rcases k with _ | k
    ·exact Q.val (v:=I x3) C C C X H (Z.load1 zbr C (X.p 3 C) C)
    ·simp at h2_
  ·clear H J X; refine ⟨?_,trivial⟩
   ·intro s g w hsp X a H; refine ost 6 #[Uv (bitand .u64 x21 (u64.wrap ((u64.wrap (1*2^(min (Int.toNat (Int.tmod x3 32)) (IntKind.bits .u64))))-1)))] H X C C C ziE C C C (bl C) C ?_; intro w X; exact nG H ⟨(λd hd=>by cases (show none=some d from hd)),(λ_ _ _=>C),X⟩
  ·clear H J X; exact trivial
  clear H J X; intro s g a w hs H X; refine kbn ?_; exact .inl ⟨C,(x18.set (Int.toNat x16) (u32.wrap (Int.fdiv x21 (2^(min (Int.toNat (Int.tmod x3 32)) (IntKind.bits .u64))))),bitand .u64 x21 (u64.wrap ((u64.wrap (1*2^(min (Int.toNat (Int.tmod x3 32)) (IntKind.bits .u64))))-1))),by rw [hrec15] at M; exact M,X⟩
 ·clear H X M a; (try clear w); rintro dD15 ⟨x18,x19⟩ a w M X H; replace M:zbN F x3 x7 ((downL (lsub x2 x5 (x2.length:Int))).drop ((downL (lsub x2 x5 (x2.length:Int))).map (λp:Int × Int=>(I p.1,Value.int .u32 p.2))).length) x18 x19=some r:=M; rw [List.length_map,List.drop_length] at M; replace M:zfq F x7 x18 x19=some r:=M; unfold zfq at M; replace H:Fr a 57 (mkDs (dD15::[])) [(3,Pv b4 0),(4,.slice none 0 0),(5,B false),(7,B x7),(8,Pv b10 0),(9,Pv b11 0),(29,.func (.func 143) #[] #[Pv b14 0])]:=H.q C; replace X:St w0 w noX [E s1 x2] (pt dD15 (.deferred (some []))::[mkA [],pI3 b4 x3,D s9 x18,pt b10 (Cs #[s9] 28),pt b11 (Cs #[Uv x19] 88),pt b14 (Cs #[vsub 1 s1 x5 (x2.length:Int)] 28)]):=X; replace X:=X.mkCons; refine kbn<|ksq<|W.seq<|W.drawQ (λw=>St w0 w noX [E s1 x2] [mkA (dD15::[]),pI3 b4 x3,D s9 x18,pt b10 (Cs #[s9] 28),pt b11 (Cs #[Uv x19] 88),pt b14 (Cs #[vsub 1 s1 x5 (x2.length:Int)] 28)]) P_mixed C (by kernel_rfl) C X.drew<|?_; clear X; (try clear w); refine OQ.val (v:=s9) H C (λw X=>Z.load1 zan C (X.p 3 C) C) λa H=>OQ.val (v:=B x7) H C (λw X=>Z.move C) λa H=>OQ.val (v:=B x7) H C (λw X=>Z.move C) λa H=>?_; refine OQ.cutK (K':=λa=>Fr a 57 (mkDs (dD15::[])) [(4,.slice none 0 0),(5,B false),(7,B x7),(8,Pv b10 0),(9,Pv b11 0),(51,s9),(52,B x7),(53,B x7),(56,B (x7||(decide (x19>(0:Int)))))]) 3 ?_ ?_
  · rcases Bool.eq_false_or_eq_true (x7) with hb20 | hb20
    · refine OQ.skipB H C C hb20 C ?_; clear H a; intro a H
      refine OQ.skipB H C C hb20 C λa H=>?_; refine OQ.val (v:=B (x7||(decide (x19>(0:Int))))) H C (λw X=>Z.pick C C C (by rw [hb20]; rfl)) ?_; clear H a; intro a H; exact OQ.nil (H.q C)
    · refine OQ.gval (v:=Uv x19) H C C hb20 C (λw X=>Z.load1 zde C (X.p 4 C) C) ?_; clear H a; intro a H
      refine OQ.gval (v:=B (decide (x19>(0:Int)))) H C C hb20 C (λw X=>Z.gtr C C) λa H=>?_; refine OQ.val (v:=B (x7||(decide (x19>(0:Int))))) H C (λw X=>Z.pick C C C (by rw [hb20]; rfl)) ?_; clear H a; intro a H; exact OQ.nil (H.q C)
  clear H a; intro a H; refine OQ.val (v:=s9) H C (λw X=>Z.assign C) λa H=>OQ.val (v:=B (x7||(decide (x19>(0:Int))))) H C (λw X=>Z.assign C) λa H=>?_; refine OQ.nil ?_; intro w X; refine ksq<|W.ret<|?_; refine postM (Ds:=(dD15::[])) X H (λw a H X=>?_); obtain rfl:=oj M; refine post2 H C (rkt C) (rkt C) ?_; replace X:=X.sl [0,1]; exact ⟨s9,C,X.noB⟩
 ·rintro dD15 _ a w M _ _; exact M.elim
def ze2 (F:Nat) (x18:Int) (x26 x27:List Int):Option ((List Int) × (List Int)) :=
  (zbp F x27).bind λx28=>(zej F x28 x18).bind λx30=>(zbp F x26).bind λx32=>(zbp F x30.1).bind λx34=>some (x32,x34)
def ze3 (F:Nat) (x4 x19:List Int) (x18:Int) (rec40:(List Int)→(List Int)→Int→Option ((List Int) × (List Int))) (x37 x38:List Int) (x39:Int):Option ((List Int) × (List Int)) :=
  if x39≥(0:Int) then (if sbd x39 (i64.wrap ((i64.wrap (x39+(x4.length:Int)))+1)) (x38.length:Int) then (zgh F x38 x39 (i64.wrap ((i64.wrap (x39+(x4.length:Int)))+1)) (lsub x19 0 (x4.length:Int))).bind λx43=>(idx x37 x39).bind λx44=>rec40 (x37.set (Int.toNat x39) x43.1) x43.2 (i64.wrap (x39-1)) else none) else (ze2 F x18 x37 x38)
def zcD (F:Nat) (x4 x19:List Int) (x18:Int):Nat→(List Int)→(List Int)→Int→Option ((List Int) × (List Int))
  | 0,_,_,_=>none
  | n+1,x37,x38,x39=>ze3 F x4 x19 x18 (zcD F x4 x19 x18 n) x37 x38 x39
def zce (F:Nat) (x2 x4:List Int):Option ((List Int) × (List Int)) :=
  (zcx F x2 x4).bind λx5=>if x5<(0:Int) then ((zaB F x2).bind λx7=>some (([]:List Int),x7)) else (if (x4.length:Int)=(1:Int) then ((idx x4 0).bind λx10=>(zgJ F x2 x10).bind λx11=>(zbp F ([x11.2])).bind λx15=>some (x11.1,x15)) else ((idx x4 (i64.wrap ((x4.length:Int)-1))).bind λx17=>(zcc F x17).bind λx18=>(zeQ F x4 x18).bind λx19=>if sbd 0 (x4.length:Int) (x19.length:Int) then (zeQ F x2 x18).bind λx22=>if 0≤(i64.wrap ((x22.length:Int)-(x4.length:Int)))∧(i64.wrap ((x22.length:Int)-(x4.length:Int)))≤4294967296 then (some (i64.wrap (((List.replicate (Int.toNat (i64.wrap ((x22.length:Int)-(x4.length:Int)))) (0:Int)).length:Int)-1))).bind λx36=>zcD F x4 x19 x18 F (List.replicate (Int.toNat (i64.wrap ((x22.length:Int)-(x4.length:Int)))) (0:Int)) x22 x36 else none else none))
theorem zcE (F:Nat) (s1:Value) (x2:List Int) (s3:Value) (x4:List Int) (w0:World) (h_s1:rdEOK (hp w0) 1 E90 s1 x2) (h_s3:rdEOK (hp w0) 1 E90 s3 x4) (r:(List Int) × (List Int)) (M:zce F x2 x4=some r) :
    Ret P 115 #[s1,s3] w0 (G:=Value × Value) (λ(g1,g2)=>.tuple #[g1,g2]) (λ(g1,g2) w=>St w0 w noX [] [D g1 r.1,D g2 r.2]):=by
 unfold zce at M; refine roW Tryz.func115 C C C (λa H=>?_); have X:St w0 w0 noX [E s1 x2,E s3 x4] []:=Sbw (lnc (lendRd h_s1) (lnc (lendRd h_s3) lnn)); refine sg (l:=[0,1]) C<|mv2 H C C λa H=>nk<|W.seq<|sg (l:=[0,1,2,3]) C<|mv2 H C C λa H=>?_; refine hb M λx5 hx5 M=>oq H X C zhR (zdg F s1 x2 s3 x4 _ (X.b 0 C) (X.b 1 C) x5 hx5) ?_; rintro _ w X a H; refine ov H C (Z.lss C C) λa H=>nk<|?_; refine W.ifdI H C (λhc6=>?_) (λhc6=>?_)
 ·replace M:=hm_p M hc6; refine sg (l:=[0,1,2,3]) C<|mv H C λa H=>?_; refine hb M λx7 hx7 M=>oq H X C zfQ (zaJ F s1 x2 _ (X.b 0 C) x7 hx7) ?_; rintro s8 w X a H; refine mv2 H C C λa H=>nk<|W.ret<|ktr<|?_; replace X:=X.nilE 90 1 E90; obtain rfl:=oj M; refine post2 H C (rkt C) (rkt C) ?_; replace X:=X.nilE 90 1 E90; replace X:=X.sl [1,0,1]; exact ⟨((.slice none 0 0),s8),C,X.noB⟩
 ·replace M:=hm_n M hc6; refine W.skip<|ksq<|sg (l:=[0,1,2]) C<|mv H C λa H=>ov (v:=I (x4.length:Int)) H C (Z.lenE (e:=90) (by simpa using zab) C (X.b 1 C)) λa H=>mv H C λa H=>nk<|W.seq<|sg (l:=[0,1]) C<|mv H C λa H=>?_; refine ov H C (Z.eql C C) λa H=>nk<|?_; refine W.ifdI H C (λhc9=>?_) (λhc9=>?_)
  ·replace M:=hm_p M hc9; refine sg (l:=[0,1,2,3,4,5,6,7,8,9]) C<|mv2 H C C λa H=>?_; refine hb M λx10 hx10 M=>ov H C (Z.ixE zab zae C C (X.b 1 C) hx10) λa H=>ov H C (Z.ldE1 (o:=0) zar E90_len C (X.b 1 C) hx10 C C) λa H=>?_; refine hb M λx11 hx11 M=>oq H X C zjH (zik F s1 x2 x10 _ (X.b 0 C) x11 hx11) ?_; rintro s12 w X a H; refine mv H C λa H=>ex H C C C λa H=>ex H C C C λa H=>mv2 H C C λa H=>nk<|sg (l:=[0,1,2,3,4,5]) C<|mv2 H C C λa H=>O.buildSlice (cs':=#[.int .u32 x11.2]) (zs:=#[.int .u32 0]) H X C C zab zae zaE C C C C C<|?_; intro b13 w a hb13 X H; replace X:=X.ptE (j:=0) (enc:=E90) (xs:=[x11.2]) (N:=1) (M':=[D (.slice (some ⟨b13,0,none⟩) 1 1) ([x11.2]),D s12 x11.1]) C C C C C C; obtain ⟨s14,hs14⟩:∃ v,v=(.slice (some ⟨b13,0,none⟩) 1 1:Value):=⟨_,C⟩; rw [← hs14] at H X; replace X:St w0 _ noX [E s1 x2,E s3 x4] [D s14 ([x11.2]),D s12 x11.1]:=X; refine hb M λx15 hx15 M=>oc H C zfe (zbk F s14 ([x11.2]) _ (X.slS (j:=0) C) x15 hx15) ?_; rintro s16 w Y a H; replace X:=X.cz Y 0 λ_ h=>h; refine mv2 H C C λa H=>nk<|W.ret<|ktr<|?_; obtain rfl:=oj M; refine post2 H C (rkt C) (rkt C) ?_; replace X:=X.fr 1; exact ⟨(s12,s16),C,X.noB⟩
  ·replace M:=hm_n M hc9; refine W.skip<|ksq<|sg (l:=[0,1,2,3,4,5,6]) C<|mv2 H C C λa H=>ov H C (Z.sub C C) λa H=>?_; refine hb M λx17 hx17 M=>ov H C (Z.ixE zab zae C C (X.b 1 C) hx17) λa H=>ov H C (Z.ldE1 (o:=0) zar E90_len C (X.b 1 C) hx17 C C) λa H=>?_; refine hb M λx18 hx18 M=>oq H X C zjI (zfO F x17 _ x18 hx18) ?_; rintro _ w X a H; refine mv H C λa H=>nk<|W.seq<|?_; have J:Fr a 84 [] []:=H.to trivial; obtain ⟨x19,hx19,M⟩:=hm_b M; obtain ⟨hg21,M⟩:=hm_g M; refine hb M λx22 hx22 M=>W.drawK (γ:=Value × Value) (L0:=[(0,s1),(1,s3),(4,.slice none 0 0),(5,.slice none 0 0),(6,I (x4.length:Int)),(9,I x18)]) (L1:=[]) (undef,undef) [2,7] [] [0,1,3,4,5,6,8,9] (λi=>match i with | 2=>[0,1] | 4=>[2,3] | 7=>[2,5,6] | 8=>[0,1,2,3,4,7] | 9=>[0,1,2,3,4,5,6,7,8] | _=>[]) (λ_=>[]) (λi=>match i with | 2=>[4,7,8,9] | 7=>[8,9] | _=>[]) (λ_=>[]) (λi=>match i with | 4=>1 | 7=>1 | 8=>2 | 9=>2 | _=>0) (λi=>match i with | 2=>1 | 3=>2 | 4=>2 | 5=>1 | 6=>1 | 7=>2 | 8=>2 | 9=>2 | _=>0) (λ(g:Value × Value) j=>match j with | 0=>s3 | 1=>I x18 | 2=>g.1 | 3=>I (x4.length:Int) | 4=>vsub 1 g.1 0 (x4.length:Int) | 5=>s1 | 6=>I x18 | 7=>g.2 | 8=>vsub 1 g.1 0 (x4.length:Int) | 9=>g.2 | _=>undef) (λk s (g:Value × Value) w=>match k with | 0=>St w0 w noX [E s1 x2,E s3 x4] [] | 1=>St w0 w noX [E s1 x2,E s3 x4] [D g.1 x19] | _=>St w0 w noX [E s1 x2,E s3 x4] [D g.2 x22,D g.1 x19]) P_mixed (by kernel_rfl) (H.q C) J X.drew ?_ ?_ ?_ ?_
   ·clear H J X; refine ⟨λk s g w _ _ _ X a H=>Q.val (v:=s3) C C C X H (Z.move C),λk s g w _ _ _ X a H=>Q.val (v:=I x18) C C C X H (Z.move C),λk s g w _ _ _ X a H=>Q.val (v:=I (x4.length:Int)) C C C X H (Z.move C),?_,λk s g w _ _ _ X a H=>Q.val (v:=s1) C C C X H (Z.move C),λk s g w _ _ _ X a H=>Q.val (v:=I x18) C C C X H (Z.move C),λk s g w _ _ _ X a H=>Q.val (v:=vsub 1 g.1 0 (x4.length:Int)) C C C X H (Z.assign C),λk s g w _ _ _ X a H=>Q.val (v:=g.2) C C C X H (Z.assign C),trivial⟩
    ·intro k s g w h1_ h2_ hsp X a H; obtain ⟨s20,s23⟩:=g
     rcases k with _ | _ | _ | k
     ·exact absurd h1_ (by decide)
     ·exact Q.val (v:=vsub 1 s20 0 (x4.length:Int)) C C C X H (Z.sliceH zab zae C C (X.s 0 C) hg21)
     ·exact Q.val (v:=vsub 1 s20 0 (x4.length:Int)) C C C X H (Z.sliceH zab zae C C (X.s 1 C) hg21)
     ·simp at h2_
   ·clear H J X; refine ⟨?_,?_,trivial⟩
    ·intro s g w hsp X a H; obtain ⟨s20,s23⟩:=g; refine oq H X C zhg (zfY F s3 x4 x18 _ (X.b 1 C) x19 hx19) ?_; rintro s20 w X a H; exact nE 43 H (s20,s23) C C (jl 10 (by kernel_rfl) λ_=>C) X
    ·intro s g w hsp X a H; obtain ⟨s20,s23⟩:=g; refine oq H X C zhg (zfY F s1 x2 x18 _ (X.b 0 C) x22 hx22) ?_; rintro s23 w X a H; exact nE 48 H (s20,s23) C C (jl 10 (by kernel_rfl) λ_=>C) X
   ·clear H J X; exact trivial
   clear H J X; intro s g a w hs H X; obtain ⟨s20,s23⟩:=g; refine ksq<|sg (l:=[0,1,2,3,4,5]) C<|mv H C λa H=>ov (v:=I (x22.length:Int)) H C (Z.lenE (e:=90) (by simpa using zab) C (X.s 0 C)) λa H=>mv H C λa H=>ov H C (Z.sub C C) λa H=>?_; obtain ⟨hg24,M⟩:=hm_g M; refine O.makeE (enc:=E90) (x0:=(0:Int)) H X C C zab zae za7 zaE C C C hg24 C E90_len C ?_; intro s25 w a X H; refine mv H C λa H=>nk<|?_; refine W.seqR (λa w=>∃ (x26:List Int) (x27:List Int),Fr a 84 [] [(4,s25),(5,.slice none 0 0),(9,I x18),(11,s23)]∧St w0 w noX [E s1 x2,E s3 x4] [D s25 x26,D s23 x27]∧ze2 F x18 x26 x27=some r) ?_ ?_
   ·refine sg (l:=[0,1,2,3]) C<|mv H C λa H=>ov (v:=I ((List.replicate (Int.toNat (i64.wrap ((x22.length:Int)-(x4.length:Int)))) (0:Int)).length:Int)) H C (Z.lenE (e:=90) (by simpa using zab) C (X.s 0 C)) λa H=>ov H C (Z.sub C C) λa H=>mv H C λa H=>nk<|?_; obtain ⟨x36,hx36,M⟩:=hm_b M; rw [oj hx36] at H; refine W.block ?_; replace X:=X.fr 1; replace X:=X.fr 2; replace X:=X.fr 2; refine W.loop (G:=Nat × (List Int) × (List Int) × Int) (λg a w=>match g with | (k40,x37,x38,x39)=>Fr a 84 [] [(4,s25),(5,.slice none 0 0),(6,I (x4.length:Int)),(9,I x18),(10,vsub 1 s20 0 (x4.length:Int)),(11,s23),(12,I x39)]∧St w0 w noX [E s1 x2,E s3 x4] [D s25 x37,D s20 x19,D s23 x38]∧zcD F x4 x19 x18 k40 x37 x38 x39=some r) (λg=>match g with | (k40,x37,x38,x39)=>k40) (F,List.replicate (Int.toNat (i64.wrap ((x22.length:Int)-(x4.length:Int)))) (0:Int),x22,x36) ⟨H.q C,X,M⟩ ?_; clear H X M a; (try clear w); rintro ⟨k40,x37,x38,x39⟩ a w ⟨H,X,M⟩
    rcases k40 with _ | k40
    · nomatch M
    replace M:ze3 F x4 x19 x18 (zcD F x4 x19 x18 k40) x37 x38 x39=some r:=M; obtain ⟨rec40,hrec40⟩:∃ f,f=zcD F x4 x19 x18 k40:=⟨_,C⟩; rw [← hrec40] at M; unfold ze3 at M; refine W.seq<|sg (l:=[0,1]) C<|mv H C λa H=>ov H C (Z.geq C C) λa H=>nk<|?_; refine W.ifdI H C (λhc41=>?_) (λhc41=>?_)
    ·replace M:=hm_p M hc41; refine W.skip<|ksq<|W.seq<|W.block<|wrL (l:=[0,1,2,3,4,5,6,7,8,9,10,11,12]) C<|mv2 H C C λa H=>mv2 H C C λa H=>mv H C λa H=>?_; refine mv H C λa H=>ov H C (Z.add C C) λa H=>ov H C (Z.add C C) λa H=>?_; obtain ⟨hg42,M⟩:=hm_g M; refine ov (v:=vsub 1 s23 x39 (i64.wrap ((i64.wrap (x39+(x4.length:Int)))+1))) H C (Z.sliceLH zab zae C C C (X.s 2 C) hg42) λa H=>mv H C λa H=>?_; refine hb M λx43 hx43 M=>oc H C zjJ (zic F s23 x38 x39 (i64.wrap ((i64.wrap (x39+(x4.length:Int)))+1)) (vsub 1 s20 0 (x4.length:Int)) (lsub x19 0 (x4.length:Int)) _ (X.slS (j:=2) C) (rdEOK.sub (X.s 1 C) E90_len hg21) (apWin (X.s 1 C) hg21 (apRd (X.apMM (i:=2) (j:=1) C C (by decide)))) x43 hx43) ?_; rintro _ w Y a H; replace X:=X.cz Y 2 λ_ h=>h; refine hb M λx44 hx44 M=>ov H C (Z.ixE zab zae C C (X.s 1 C) hx44) λa H=>O.storeE (j:=1) (o:=0) (y0:=x43.1) (l':=x37.set (Int.toNat x39) x43.1) (M':=[D s23 x43.2,D s25 (x37.set (Int.toNat x39) x43.1),D s20 x19]) H X C C C zae C C C E90_len hx44 C C C C<|?_; intro w X; refine O.nil<|kbn<|ksq<|wrL (l:=[0,1,2]) C<|mv H C λa H=>ov H C (Z.sub C C) λa H=>mv H C λa H=>O.nil<|?_; replace X:=X.fr 2; replace X:=X.fr 2; refine kth ⟨(k40,x37.set (Int.toNat x39) x43.1,x43.2,i64.wrap (x39-1)),⟨H.q C,X,?_⟩,Nat.lt_succ_self _⟩; rw [hrec40] at M; exact M
    ·replace M:=hm_n M hc41; refine W.exit<|kte<|kte<|kbk<|?_; replace X:=X.sl [1,0,1]; exact kth ⟨x37,x38,H.q C,X,M⟩
   ·clear H X M a; (try clear w); rintro a w ⟨x26,x27,H,X,M⟩; unfold ze2 at M; refine sg (l:=[0,1,2,3,4,5,6,7]) C<|mv H C λa H=>?_; refine hb M λx28 hx28 M=>oc H C zfe (zbk F s23 x27 _ (X.slS (j:=1) C) x28 hx28) ?_; rintro s29 w Y a H; replace X:=X.cz Y 1 λ_ h=>h; refine mv H C λa H=>?_; refine hb M λx30 hx30 M=>oq H X C zh8 (zfs F s29 x28 x18 _ (X.s 0 C) x30 hx30) ?_; rintro s31 w X a H; refine mv H C λa H=>ex H C C C λa H=>ex H C C C λa H=>mv H C λa H=>nk<|?_; replace X:=X.sl [1,0,1]; refine sg (l:=[0,1,2,3,4,5]) C<|mv H C λa H=>?_; refine hb M λx32 hx32 M=>oc H C zfe (zbk F s25 x26 _ (X.slS (j:=1) C) x32 hx32) ?_; rintro s33 w Y a H; replace X:=X.cz Y 1 λ_ h=>h; refine mv H C λa H=>?_; refine hb M λx34 hx34 M=>oc H C zfe (zbk F s31 x30.1 _ (X.slS (j:=1) C) x34 hx34) ?_; rintro s35 w Y a H; replace X:=X.cz Y 1 λ_ h=>h; refine mv2 H C C λa H=>nk<|W.ret<|?_; obtain rfl:=oj M; refine post2 H C (rkt C) (rkt C) ?_; replace X:=X.fr 1; exact ⟨(s33,s35),C,X.noB⟩
def zgi (F:Nat)  (rec26:(List Int)→(List Int)→Option (Bool × (List Int))) (x23 x25:List Int):Option (Bool × (List Int)) :=
  if (x25.length:Int)>(0:Int) then ((zce F x23 x25).bind λx28=>rec26 x25 x28.2) else ((zaB F x23).bind λx31=>(zaK F false x31).bind λx33=>some x33)
def zdS (F:Nat) :Nat→(List Int)→(List Int)→Option (Bool × (List Int))
  | 0,_,_=>none
  | n+1,x23,x25=>zgi F (zdS F n) x23 x25
def zgx (F:Nat) (x1:Bool) (x3:List Int) (x4:Bool) (x6:List Int):Option (Bool × (List Int)) :=
  (zbx F x1 x3 x4 x6).bind λx11=>(zaB F x3).bind λx12=>if (x6.length:Int)>(0:Int) then ((zce F x12 x6).bind λx15=>if (x15.2.length:Int)>(0:Int) then ((zce F x6 x15.2).bind λx19=>zdS F F x15.2 x19.2) else ((zaB F x6).bind λx35=>(zaK F false x35).bind λx37=>some x37)) else ((zaB F x12).bind λx39=>(zaK F false x39).bind λx41=>some x41)
theorem zhy (F:Nat) (x1:Bool) (s2:Value) (x3:List Int) (x4:Bool) (s5:Value) (x6:List Int) (w0:World) (h_s2:rdEOK (hp w0) 1 E90 s2 x3) (h_s5:rdEOK (hp w0) 1 E90 s5 x6) (r:Bool × (List Int)) (M:zgx F x1 x3 x4 x6=some r) :
    Ret P 107 #[.agg #[B x1,s2],.agg #[B x4,s5]] w0 (G:=Value) (λg1=>.tuple #[.agg #[B r.1,g1],I 0]) (λg1 w=>St w0 w noX [] [D g1 r.2]):=by
 unfold zgx at M; refine roW Tryz.func107 C C C (λa H=>?_); have X:St w0 w0 noX [E s2 x3,E s5 x6] []:=Sbw (lnc (lendRd h_s2) (lnc (lendRd h_s5) lnn)); refine sg (l:=[0,1,2,3]) C<|O.box (cs:=#[B x1,s2]) H X C C C C<|?_; intro b7 w a hb7 X H; refine O.box (cs:=#[B x4,s5]) H X C C C C ?_; intro b8 w a hb8 X H; refine O.alloc (cs:=#[B false,.slice none 0 0]) H X C C zac C ?_; intro b9 w a hb9 X H; refine mv H C λa H=>nk<|W.seq<|sg (l:=[0,1,2,3,4]) C<|ov H C (lN (cs':=#[B x1,s2]) A_30 C (X.p 2 C) C C) λa H=>ov H C (lN (cs':=#[B x4,s5]) A_30 C (X.p 1 C) C C) λa H=>O.buildSlice (cs':=#[B x1,s2,B x4,s5]) (zs:=#[B false,.slice none 0 0,B false,.slice none 0 0]) H X C C zaX zaa zac C C C C C<|?_; intro b10 w a hb10 X H; refine hb M λx11 hx11 M=>oq H X C zcQ (zbG F b10 x1 s2 x3 x4 s5 x6 _ (X.b 0 C) (X.b 1 C) (X.p 0 C) x11 hx11) ?_; rintro _ w X a H; refine mv H C λa H=>nk<|?_; replace X:=X.sl [0,1,1,1]; refine sg (l:=[0,1]) C<|mv H C λa H=>ov H C (Z.neq (p:=0) (q:=0) C C) λa H=>nk<|W.if_ff H C<|W.skip<|ksq<|W.seq<|?_; have J:Fr a 40 [] []:=H.to trivial; refine hb M λx12 hx12 M=>W.drawK (γ:=Value) (L0:=[(2,Pv b7 0),(3,Pv b8 0),(4,Pv b9 0),(5,I 0)]) (L1:=[]) (undef) [2] [] [0,1,3,4,5,6] (λi=>match i with | 1=>[0] | 2=>[1] | 4=>[3] | 5=>[0,1,2] | 6=>[0,1,2,3,4,5] | _=>[]) (λ_=>[]) (λi=>match i with | 2=>[5,6] | _=>[]) (λ_=>[]) (λi=>match i with | 5=>1 | 6=>1 | _=>0) (λi=>match i with | 2=>1 | 3=>1 | 4=>1 | 5=>1 | 6=>1 | _=>0) (λ(g:Value) j=>match j with | 0=>Pv b7 1 | 1=>s2 | 2=>g | 3=>Pv b8 1 | 4=>s5 | 5=>g | 6=>s5 | _=>undef) (λk s (g:Value) w=>match k with | 0=>St w0 w noX [E s2 x3,E s5 x6] [pt b9 (Cs #[B false,.slice none 0 0] 30),pW30 b8 x4 s5,pW30 b7 x1 s2] | _=>St w0 w noX [E s2 x3,E s5 x6] [D g x12,pt b9 (Cs #[B false,.slice none 0 0] 30),pW30 b8 x4 s5,pW30 b7 x1 s2]) P_mixed (by kernel_rfl) (H.q C) J X.drew ?_ ?_ ?_ ?_
 ·clear H J X; refine ⟨λk s g w _ _ _ X a H=>Q.val (v:=Pv b7 1) C C C X H (Z.field zak C C),?_,λk s g w _ _ _ X a H=>Q.val (v:=Pv b8 1) C C C X H (Z.field zak C C),?_,λk s g w _ _ _ X a H=>Q.val (v:=g) C C C X H (Z.assign C),λk s g w _ _ _ X a H=>Q.val (v:=s5) C C C X H (Z.assign C),trivial⟩
  ·intro k s s13 w h1_ h2_ hsp X a H
   rcases k with _ | k
   ·exact Q.val (v:=s2) C C C X H (Z.load1 zan C (X.p 2 C) C)
   ·simp at h2_
  ·intro k s s13 w h1_ h2_ hsp X a H
   rcases k with _ | _ | k
   ·exact Q.val (v:=s5) C C C X H (Z.load1 zan C (X.p 1 C) C)
   ·exact Q.val (v:=s5) C C C X H (Z.load1 zan C (X.p 2 C) C)
   ·simp at h2_
 ·clear H J X; refine ⟨?_,trivial⟩
  ·intro s s13 w hsp X a H; refine oq H X C zfQ (zaJ F s2 x3 _ (X.b 0 C) x12 hx12) ?_; rintro s13 w X a H; exact nE 21 H s13 C C (jl 7 (by kernel_rfl) λ_=>C) X
 ·clear H J X; exact trivial
 clear H J X; intro s s13 a w hs H X; refine ksq ?_; replace X:=X.sl [1,1]; refine W.seq<|W.block<|?_; refine W.loopH (LH.step ?_); refine W.seq<|sg (l:=[0,1,2]) C<|mv H C λa H=>ov (v:=I (x6.length:Int)) H C (Z.lenE (e:=90) (by simpa using zab) C (X.b 1 C)) λa H=>ov H C (Z.gtr C C) λa H=>nk<|?_; refine W.ifdI H C (λhc14=>?_) (λhc14=>?_)
 ·replace M:=hm_p M hc14; refine W.skip<|ksq<|W.block<|sg (l:=[0,1,2,3,4,5,6,7]) C<|mv2 H C C λa H=>?_; refine hb M λx15 hx15 M=>oq H X C zgE (zcE F s13 x12 s5 x6 _ (X.s 0 C) (X.b 1 C) x15 hx15) ?_; rintro ⟨s16,s17⟩ w X a H; refine mv H C λa H=>ex H C C C λa H=>ex H C C C λa H=>mv2 H C C λa H=>nk<|?_; replace X:=X.sl [0,1,1,1]; refine wrL (l:=[0,1,2,3]) C<|mv2 H C C λa H=>mv2 H C C λa H=>O.nil<|kbn<|?_; refine kth (LH.step ?_); replace X:=X.sl [1,0,1]; refine W.seq<|sg (l:=[0,1,2]) C<|mv H C λa H=>ov (v:=I (x15.2.length:Int)) H C (Z.lenE (e:=90) (by simpa using zab) C (X.s 0 C)) λa H=>ov H C (Z.gtr C C) λa H=>nk<|?_; refine W.ifdI H C (λhc18=>?_) (λhc18=>?_)
  ·replace M:=hm_p M hc18; refine W.skip<|ksq<|W.block<|sg (l:=[0,1,2,3,4,5,6,7]) C<|mv2 H C C λa H=>?_; refine hb M λx19 hx19 M=>oq H X C zgE (zcE F s5 x6 s17 x15.2 _ (X.b 1 C) (X.s 0 C) x19 hx19) ?_; rintro ⟨s20,s21⟩ w X a H; refine mv H C λa H=>ex H C C C λa H=>ex H C C C λa H=>mv2 H C C λa H=>nk<|?_; replace X:=X.sl [0,1,1,1]; refine wrL (l:=[0,1,2,3]) C<|mv2 H C C λa H=>mv2 H C C λa H=>O.nil<|kbn<|kth<|?_; replace X:=X.fr 1; replace X:=X.fr 2; refine LH.loop (G:=Nat × Value × (List Int) × Value × (List Int)) (λg a w=>match g with | (k26,s22,x23,s24,x25)=>Fr a 40 [] [(4,Pv b9 0),(5,I 0),(7,s22),(8,s24)]∧St w0 w noX [E s2 x3,E s5 x6] [pt b9 (Cs #[B false,.slice none 0 0] 30),D s22 x23,D s24 x25]∧zdS F k26 x23 x25=some r) (λg=>match g with | (k26,s22,x23,s24,x25)=>k26) (F,s17,x15.2,s21,x19.2) ⟨H.q C,X,M⟩ ?_; clear H X M a; (try clear w); rintro ⟨k26,s22,x23,s24,x25⟩ a w ⟨H,X,M⟩
   rcases k26 with _ | k26
   · nomatch M
   replace M:zgi F (zdS F k26) x23 x25=some r:=M; obtain ⟨rec26,hrec26⟩:∃ f,f=zdS F k26:=⟨_,C⟩; rw [← hrec26] at M; unfold zgi at M; refine W.seq<|sg (l:=[0,1,2]) C<|mv H C λa H=>ov (v:=I (x25.length:Int)) H C (Z.lenE (e:=90) (by simpa using zab) C (X.s 2 C)) λa H=>ov H C (Z.gtr C C) λa H=>nk<|?_; refine W.ifdI H C (λhc27=>?_) (λhc27=>?_)
   ·replace M:=hm_p M hc27; refine W.skip<|ksq<|W.block<|sg (l:=[0,1,2,3,4,5,6,7]) C<|mv2 H C C λa H=>?_; refine hb M λx28 hx28 M=>oq H X C zgE (zcE F s22 x23 s24 x25 _ (X.s 1 C) (X.s 2 C) x28 hx28) ?_; rintro ⟨s29,s30⟩ w X a H; refine mv H C λa H=>ex H C C C λa H=>ex H C C C λa H=>mv2 H C C λa H=>nk<|?_; replace X:=X.sl [0,1,1,1,1]; refine wrL (l:=[0,1,2,3]) C<|mv2 H C C λa H=>mv2 H C C λa H=>O.nil<|kbn<|?_; replace X:=X.fr 3; replace X:=X.fr 2; replace X:=X.sl [1,1,1]; refine kth ⟨(k26,s24,x25,s30,x28.2),⟨H.q C,X,?_⟩,Nat.lt_succ_self _⟩; rw [hrec26] at M; exact M
   ·replace M:=hm_n M hc27; refine W.exit<|kte<|kte<|kbk<|ksq<|?_; replace X:=X.sl [1,1]; refine sg (l:=[0,1,2,3,4,5,6]) C<|mv H C λa H=>?_; refine hb M λx31 hx31 M=>oq H X C zfQ (zaJ F s22 x23 _ (X.s 1 C) x31 hx31) ?_; rintro s32 w X a H; refine hb M λx33 hx33 M=>oc H C zcw (zaH F false s32 x31 _ (X.slS (j:=0) C) x33 hx33) ?_; rintro s34 w Y a H; replace X:=X.cz Y 0 λ_ h=>h; refine ex H C C C λa H=>ex H C C C λa H=>ost 1 #[B x33.1,s34] H X C C C zaa C (occ C (occ (rdo (X.s 0 C)) C)) C (bl C) C<|?_; intro w X; refine mv H C λa H=>nk<|?_; replace X:=X.sl [1,1]; refine W.ret ?_; obtain rfl:=oj M; refine post2 H C (rkn (cs':=#[B x33.1,s34]) C zal zaa (X.p 1 C) (bl C) C) (rkt C) ?_; replace X:=X.sl [1]; exact ⟨s34,C,X.noB⟩
  ·replace M:=hm_n M hc18; refine W.exit<|kte<|kte<|kbk<|ksq<|?_; replace X:=X.sl [0,1]; refine sg (l:=[0,1,2,3,4,5,6]) C<|mv H C λa H=>?_; refine hb M λx35 hx35 M=>oq H X C zfQ (zaJ F s5 x6 _ (X.b 1 C) x35 hx35) ?_; rintro s36 w X a H; refine hb M λx37 hx37 M=>oc H C zcw (zaH F false s36 x35 _ (X.slS (j:=0) C) x37 hx37) ?_; rintro s38 w Y a H; replace X:=X.cz Y 0 λ_ h=>h; refine ex H C C C λa H=>ex H C C C λa H=>ost 1 #[B x37.1,s38] H X C C C zaa C (occ C (occ (rdo (X.s 0 C)) C)) C (bl C) C<|?_; intro w X; refine mv H C λa H=>nk<|W.ret<|?_; obtain rfl:=oj M; refine post2 H C (rkn (cs':=#[B x37.1,s38]) C zal zaa (X.p 1 C) (bl C) C) (rkt C) ?_; replace X:=X.sl [1]; exact ⟨s38,C,X.noB⟩
 ·replace M:=hm_n M hc14; refine W.exit<|kte<|kte<|kbk<|ksq<|sg (l:=[0,1,2,3,4,5,6]) C<|mv H C λa H=>?_; refine hb M λx39 hx39 M=>oq H X C zfQ (zaJ F s13 x12 _ (X.s 0 C) x39 hx39) ?_; rintro s40 w X a H; refine hb M λx41 hx41 M=>oc H C zcw (zaH F false s40 x39 _ (X.slS (j:=0) C) x41 hx41) ?_; rintro s42 w Y a H; replace X:=X.cz Y 0 λ_ h=>h; refine ex H C C C λa H=>ex H C C C λa H=>ost 2 #[B x41.1,s42] H X C C C zaa C (occ C (occ (rdo (X.s 0 C)) C)) C (bl C) C<|?_; intro w X; refine mv H C λa H=>nk<|?_; replace X:=X.sl [1,0,1]; refine W.ret ?_; obtain rfl:=oj M; refine post2 H C (rkn (cs':=#[B x41.1,s42]) C zal zaa (X.p 1 C) (bl C) C) (rkt C) ?_; replace X:=X.sl [1]; exact ⟨s42,C,X.noB⟩
def zeR (F:Nat) (x1:Bool) (x3:List Int):Option Bool :=
  some (decide ((x3.length:Int)=(0:Int)))
theorem zew (F:Nat) (x1:Bool) (s2:Value) (x3:List Int) (w0:World) (h_s2:rdEOK (hp w0) 1 E90 s2 x3) (r:Bool) (M:zeR F x1 x3=some r) :
    Ret P 74 #[.agg #[B x1,s2]] w0 (G:=Unit) (λ_=>B r) (λ_ w=>St w0 w noX [] []):=by
 unfold zeR at M; refine roW Tryz.func74 C C C (λa H=>?_); have X:St w0 w0 noX [E s2 x3] []:=Sbw (lnc (lendRd h_s2) lnn); refine sg (l:=[0,1]) C<|O.box (cs:=#[B x1,s2]) H X C C C C<|?_; intro b4 w a hb4 X H; refine mv H C λa H=>nk<|sg (l:=[0,1,2,3,4]) C<|ov H C (Z.field zak C C) λa H=>ov (v:=s2) H C (Z.load1 zan C (X.p 0 C) C) λa H=>ov (v:=I (x3.length:Int)) H C (Z.lenE (e:=90) (by simpa using zab) C (X.b 0 C)) λa H=>ov H C (Z.eql C C) λa H=>mv H C λa H=>nk<|?_; replace X:=X.s0; refine W.ret ?_; obtain rfl:=oj M; refine post1 H C (rkt C) ?_; exact ⟨(),C,X.noB⟩
def zhl (F:Nat)  :Option (Bool × (List Int)) :=
  (zaZ F 1).bind λx2=>some x2
theorem ziH (F:Nat) (w0:World) (r:Bool × (List Int)) (M:zhl F=some r) :
    Ret P 109 #[] w0 (G:=Value) (λg1=>.agg #[B r.1,g1]) (λg1 w=>St w0 w noX [] [D g1 r.2]):=by
 unfold zhl at M; refine roW Tryz.func109 C C C (λa H=>?_); have X:St w0 w0 noX [] []:=Sbw lnn; refine sg (l:=[0]) C<|O.alloc (cs:=#[B false,.slice none 0 0]) H X C C zac C<|?_; intro b1 w a hb1 X H; refine nk<|sg (l:=[0,1]) C<|?_; refine hb M λx2 hx2 M=>oq H X C zcv (zaN F 1 _ x2 hx2) ?_; rintro s3 w X a H; refine ost 1 #[B x2.1,s3] H X C C C zaa C (occ C (occ (rdo (X.s 0 C)) C)) C (bl C) C ?_; intro w X; refine nk<|W.ret<|?_; obtain rfl:=oj M; refine post1 H C (rkn (cs':=#[B x2.1,s3]) C zal zaa (X.p 1 C) (bl C) C) ?_; replace X:=X.sl [1]; exact ⟨s3,C,X.noB⟩
def zg2 (F:Nat) (x1:Bool) (x3:List Int) (x4:Bool) (x6:List Int):Option Bool :=
  (zc5 F x1 x3 x4 x6).bind λx9=>some (decide (x9=(0:Int)))
theorem zix (F:Nat) (x1:Bool) (s2:Value) (x3:List Int) (x4:Bool) (s5:Value) (x6:List Int) (w0:World) (h_s2:rdEOK (hp w0) 1 E90 s2 x3) (h_s5:rdEOK (hp w0) 1 E90 s5 x6) (r:Bool) (M:zg2 F x1 x3 x4 x6=some r) :
    Ret P 108 #[.agg #[B x1,s2],.agg #[B x4,s5]] w0 (G:=Unit) (λ_=>B r) (λ_ w=>St w0 w noX [] []):=by
 unfold zg2 at M; refine roW Tryz.func108 C C C (λa H=>?_); have X:St w0 w0 noX [E s2 x3,E s5 x6] []:=Sbw (lnc (lendRd h_s2) (lnc (lendRd h_s5) lnn)); refine sg (l:=[0,1,2]) C<|O.box (cs:=#[B x1,s2]) H X C C C C<|?_; intro b7 w a hb7 X H; refine O.box (cs:=#[B x4,s5]) H X C C C C ?_; intro b8 w a hb8 X H; refine mv H C λa H=>nk<|sg (l:=[0,1,2,3,4,5,6,7]) C<|ov H C (lN (cs':=#[B x1,s2]) A_30 C (X.p 1 C) C C) λa H=>ov H C (lN (cs':=#[B x4,s5]) A_30 C (X.p 0 C) C C) λa H=>?_; refine hb M λx9 hx9 M=>oq H X C zgz (zcT F x1 s2 x3 x4 s5 x6 _ (X.b 0 C) (X.b 1 C) x9 hx9) ?_; rintro _ w X a H; refine mv H C λa H=>ex H C C C λa H=>ex H C C C λa H=>mv2 H C C λa H=>nk<|?_; replace X:=X.s0; refine sg (l:=[0,1,2]) C<|mv H C λa H=>ov H C (Z.eql C C) λa H=>mv H C λa H=>nk<|W.ret<|?_; obtain rfl:=oj M; refine post1 H C (rkt C) ?_; exact ⟨(),C,X.noB⟩
def zc6 (F:Nat) (x11:Bool):Option Int :=
  if (x11)=true then (some 8) else (some 0)
def zbd (F:Nat) (x1:Bool) (x3:List Int) (x4:Bool) (x6:List Int):Option Int :=
  (zgx F x1 x3 x4 x6).bind λx8=>if (x4)=true then (zc6 F true) else ((zeR F x4 x6).bind λx14=>if (x14)=true then (zc6 F true) else ((zhl F).bind λx16=>(zg2 F x8.1 x8.2 x16.1 x16.2).bind λx18=>zc6 F (!x18)))
theorem za6 (F:Nat) (x1:Bool) (s2:Value) (x3:List Int) (x4:Bool) (s5:Value) (x6:List Int) (w0:World) (h_s2:rdEOK (hp w0) 1 E90 s2 x3) (h_s5:rdEOK (hp w0) 1 E90 s5 x6) (r:Int) (M:zbd F x1 x3 x4 x6=some r) :
    Ret P 67 #[.agg #[B x1,s2,B x4,s5]] w0 (G:=Unit) (λ_=>I r) (λ_ w=>St w0 w noX [] []):=by
 unfold zbd at M; refine roW Tryz.func67 C C C (λa H=>?_); have X:St w0 w0 noX [E s2 x3,E s5 x6] []:=Sbw (lnc (lendRd h_s2) (lnc (lendRd h_s5) lnn)); refine sg (l:=[0,1]) C<|O.box (cs:=#[B x1,s2,B x4,s5]) H X C C C C<|?_; intro b7 w a hb7 X H; refine mv H C λa H=>nk<|sg (l:=[0,1,2,3,4,5,6,7,8,9,10]) C<|ov H C (Z.field zcA C C) λa H=>ov H C (lN (cs':=#[B x1,s2]) A_30 C (X.p 0 C) C C) λa H=>ov H C (Z.field zaL C C) λa H=>ov H C (lN (cs':=#[B x4,s5]) A_30 C (X.p 0 C) C C) λa H=>?_; refine hb M λx8 hx8 M=>oq H X C ziS (zhy F x1 s2 x3 x4 s5 x6 _ (X.b 0 C) (X.b 1 C) x8 hx8) ?_; rintro s9 w X a H; refine mv H C λa H=>ex H C C C λa H=>ex H C C C λa H=>O.alloc (cs:=#[B false,.slice none 0 0]) H X C C zac C<|?_; intro b10 w a hb10 X H; refine ost 0 #[B x8.1,s9] H X C C C zaa C (occ C (occ (rdo (X.s 1 C)) C)) C (bl C) C ?_; intro w X; refine mv H C λa H=>nk<|W.seq<|?_; refine W.seqR (λa w=>∃ (x11:Bool),Fr a 31 [] [(2,I 0),(30,B x11)]∧St w0 w noX [E s2 x3,E s5 x6] []∧zc6 F x11=some r) ?_ ?_
 ·rcases Bool.eq_false_or_eq_true (x4) with hb13 | hb13
  ·replace M:=hm_t M hb13; have J:Fr a 31 [] []:=H.to trivial; refine W.drawK (γ:=Unit) (L0:=[(1,Pv b7 0),(2,I 0),(3,Pv b10 0),(4,I 0)]) (L1:=[]) () [] [] [0,1,2,3,4,5,6,7,8,9,10,11,12,13,14,15,16,17] (λi=>match i with | 1=>[0] | 2=>[1] | 3=>[2] | 4=>[2,3] | 5=>[2,4] | 6=>[2,5] | 7=>[2,6] | 8=>[7] | 9=>[7,8] | 10=>[7,9] | 11=>[7,10] | 12=>[10,11] | 13=>[12] | 14=>[12] | 15=>[12,13,14] | 16=>[12,15] | 17=>[12,16] | _=>[]) (λ_=>[]) (λ_=>[]) (λ_=>[]) (λ_=>0) (λ_=>0) (λ(g:Unit) j=>match j with | 0=>I 0 | 1=>B false | 2=>B false | 3=>Pv b7 2 | 4=>Pv b7 2 | 5=>B x4 | 6=>B x4 | 7=>B x4 | 8=>undef | 9=>undef | 10=>undef | 11=>B true | 12=>B true | 13=>undef | 14=>undef | 15=>undef | 16=>undef | 17=>B true | _=>undef) (λk s (g:Unit) w=>match k with | _=>St w0 w noX [E s2 x3,E s5 x6] [pW30 b10 x8.1 s9,D s9 x8.2,pt b7 (Cs #[B x1,s2,B x4,s5] 32)]) P_mixed (by kernel_rfl) (H.q C) J X.drew ?_ ?_ ?_ ?_
   ·clear H J X; refine ⟨λk s g w _ _ _ X a H=>Q.val (v:=I 0) C C C X H (Z.move C),λk s g w _ _ _ X a H=>Q.val (v:=B false) C C C X H (Z.neq (p:=0) (q:=0) C C),λk s g w _ _ _ X a H=>Q.val (v:=B false) C C C X H (Z.move C),?_,?_,?_,λk s g w _ _ _ X a H=>Q.val (v:=B x4) C C C X H (Z.pick C C C C),λk s g w _ _ _ X a H=>Q.val (v:=B x4) C C C X H (Z.move C),?_,?_,?_,?_,λk s g w _ _ _ X a H=>Q.val (v:=B true) C C C X H (Z.move C),?_,?_,?_,?_,λk s g w _ _ _ X a H=>Q.val (v:=B true) C C C X H (Z.pick C C C C),trivial⟩
    ·intro k s g w h1_ h2_ hsp X a H
     rcases k with _ | k
     ·have hD0:=X; refine og H C C (Z.field zaL C C) λa H=>?_; exact nD H ⟨(gt (d:=16) H C C),hD0⟩
     ·simp at h2_
    ·intro k s g w h1_ h2_ hsp X a H
     rcases k with _ | k
     ·have hD0:=X; refine og H C C (Z.field zao C C) λa H=>?_; exact nD H ⟨(gt (d:=17) H C C),hD0⟩
     ·simp at h2_
    ·intro k s g w h1_ h2_ hsp X a H
     rcases k with _ | k
     ·have hD0:=X; refine og H C C (Z.load1 zav C (X.p 2 C) C) λa H=>?_; exact nD H ⟨(gt (d:=18) H C C),hD0⟩
     ·simp at h2_
    ·intro k s g w h1_ h2_ hsp X a H
     rcases k with _ | k
     ·have hD0:=X; refine sk H C hb13 λa H=>?_; exact nD H ⟨(gt (d:=21) H C C),hD0⟩
     ·simp at h2_
    ·intro k s g w h1_ h2_ hsp X a H
     rcases k with _ | k
     ·have hD0:=X; refine sk H C hb13 λa H=>?_; exact nD H ⟨(gt (d:=22) H C C),hD0⟩
     ·simp at h2_
    ·intro k s g w h1_ h2_ hsp X a H
     rcases k with _ | k
     ·have hD0:=X; refine sk H C hb13 λa H=>?_; exact nD H ⟨(gt (d:=23) H C C),hD0⟩
     ·simp at h2_
    ·intro k s g w h1_ h2_ hsp X a H
     rcases k with _ | k
     ·have hD0:=X; refine ov (v:=B true) H C (Z.pick C C C (by rw [hb13]; rfl)) ?_; clear H a; intro a H; exact nD H ⟨(gt (d:=24) H C C),hD0⟩
     ·simp at h2_
    ·intro k s g w h1_ h2_ hsp X a H
     rcases k with _ | k
     ·have hD0:=X; refine sk H C C λa H=>?_; exact nD H ⟨(gt (d:=26) H C C),hD0⟩
     ·simp at h2_
    ·intro k s g w h1_ h2_ hsp X a H
     rcases k with _ | k
     ·have hD0:=X; refine sk H C C λa H=>?_; exact nD H ⟨(gt (d:=27) H C C),hD0⟩
     ·simp at h2_
    ·intro k s g w h1_ h2_ hsp X a H
     rcases k with _ | k
     ·have hD0:=X; refine sk H C C λa H=>?_; exact nD H ⟨(gt (d:=28) H C C),hD0⟩
     ·simp at h2_
    ·intro k s g w h1_ h2_ hsp X a H
     rcases k with _ | k
     ·have hD0:=X; refine sk H C C λa H=>?_; exact nD H ⟨(gt (d:=29) H C C),hD0⟩
     ·simp at h2_
   ·clear H J X; exact trivial
   ·clear H J X; exact trivial
   clear H J X; intro s g a w hs H X; replace X:=X.s0; exact kth ⟨true,H.q C,X,M⟩
  ·replace M:=hm_f M hb13; obtain ⟨x14,hx14,M⟩:=hm_b M
   rcases Bool.eq_false_or_eq_true (x14) with hb15 | hb15
   ·replace M:=hm_t M hb15; have J:Fr a 31 [] []:=H.to trivial; refine W.drawK (γ:=Unit) (L0:=[(1,Pv b7 0),(2,I 0),(3,Pv b10 0),(4,I 0)]) (L1:=[]) () [10] [] [0,1,2,3,4,5,6,7,8,9,11,12,13,14,15,16,17] (λi=>match i with | 1=>[0] | 2=>[1] | 3=>[2] | 4=>[2,3] | 5=>[2,4] | 6=>[2,5] | 7=>[2,6] | 8=>[7] | 9=>[7,8] | 10=>[7,9] | 11=>[7,10] | 12=>[10,11] | 13=>[12] | 14=>[12] | 15=>[12,13,14] | 16=>[12,15] | 17=>[12,16] | _=>[]) (λ_=>[]) (λi=>match i with | 10=>[11,12,13,14,15,16,17] | _=>[]) (λ_=>[]) (λi=>match i with | 11=>1 | 12=>1 | 13=>1 | 14=>1 | 15=>1 | 16=>1 | 17=>1 | _=>0) (λi=>match i with | 10=>1 | 11=>1 | 12=>1 | 13=>1 | 14=>1 | 15=>1 | 16=>1 | 17=>1 | _=>0) (λ(g:Unit) j=>match j with | 0=>I 0 | 1=>B false | 2=>B false | 3=>Pv b7 2 | 4=>Pv b7 2 | 5=>B x4 | 6=>B x4 | 7=>B x4 | 8=>Pv b7 2 | 9=>.agg #[B x4,s5] | 10=>B x14 | 11=>B x14 | 12=>B x14 | 13=>undef | 14=>undef | 15=>undef | 16=>undef | 17=>B true | _=>undef) (λk s (g:Unit) w=>match k with | 0=>St w0 w noX [E s2 x3,E s5 x6] [pW30 b10 x8.1 s9,D s9 x8.2,pt b7 (Cs #[B x1,s2,B x4,s5] 32)] | _=>St w0 w noX [E s2 x3,E s5 x6] [pW30 b10 x8.1 s9,D s9 x8.2,pt b7 (Cs #[B x1,s2,B x4,s5] 32)]) P_mixed (by kernel_rfl) (H.q C) J X.drew ?_ ?_ ?_ ?_
    ·clear H J X; refine ⟨λk s g w _ _ _ X a H=>Q.val (v:=I 0) C C C X H (Z.move C),λk s g w _ _ _ X a H=>Q.val (v:=B false) C C C X H (Z.neq (p:=0) (q:=0) C C),λk s g w _ _ _ X a H=>Q.val (v:=B false) C C C X H (Z.move C),?_,?_,?_,λk s g w _ _ _ X a H=>Q.val (v:=B x4) C C C X H (Z.pick C C C C),λk s g w _ _ _ X a H=>Q.val (v:=B x4) C C C X H (Z.move C),?_,?_,?_,λk s g w _ _ _ X a H=>Q.val (v:=B x14) C C C X H (Z.move C),?_,?_,?_,?_,?_,trivial⟩
     ·intro k s g w h1_ h2_ hsp X a H
      rcases k with _ | k
      ·have hD0:=X; refine og H C C (Z.field zaL C C) λa H=>?_; exact nD H ⟨(gt (d:=16) H C C),hD0⟩
      ·simp at h2_
     ·intro k s g w h1_ h2_ hsp X a H
      rcases k with _ | k
      ·have hD0:=X; refine og H C C (Z.field zao C C) λa H=>?_; exact nD H ⟨(gt (d:=17) H C C),hD0⟩
      ·simp at h2_
     ·intro k s g w h1_ h2_ hsp X a H
      rcases k with _ | k
      ·have hD0:=X; refine og H C C (Z.load1 zav C (X.p 2 C) C) λa H=>?_; exact nD H ⟨(gt (d:=18) H C C),hD0⟩
      ·simp at h2_
     ·intro k s g w h1_ h2_ hsp X a H
      rcases k with _ | k
      ·have hD0:=X; refine og H C hb13 (Z.field zaL C C) λa H=>?_; exact nD H ⟨(gt (d:=21) H C C),hD0⟩
      ·simp at h2_
     ·intro k s g w h1_ h2_ hsp X a H
      rcases k with _ | k
      ·have hD0:=X; refine og H C hb13 (lN (cs':=#[B x4,s5]) A_30 C (X.p 2 C) C C) λa H=>?_; exact nD H ⟨(gt (d:=22) H C C),hD0⟩
      ·simp at h2_
     ·intro k s g w h1_ h2_ hsp X a H
      rcases k with _ | _ | k
      ·exact absurd h1_ (by decide)
      ·have hD0:=X; refine ov (v:=B x14) H C (Z.pick C C C (by rw [hb13]; rfl)) ?_; clear H a; intro a H; exact nD H ⟨(gt (d:=24) H C C),hD0⟩
      ·simp at h2_
     ·intro k s g w h1_ h2_ hsp X a H
      rcases k with _ | _ | k
      ·exact absurd h1_ (by decide)
      ·have hD0:=X; refine sk H C hb15 λa H=>?_; exact nD H ⟨(gt (d:=26) H C C),hD0⟩
      ·simp at h2_
     ·intro k s g w h1_ h2_ hsp X a H
      rcases k with _ | _ | k
      ·exact absurd h1_ (by decide)
      ·have hD0:=X; refine sk H C hb15 λa H=>?_; exact nD H ⟨(gt (d:=27) H C C),hD0⟩
      ·simp at h2_
     ·intro k s g w h1_ h2_ hsp X a H
      rcases k with _ | _ | k
      ·exact absurd h1_ (by decide)
      ·have hD0:=X; refine sk H C hb15 λa H=>?_; exact nD H ⟨(gt (d:=28) H C C),hD0⟩
      ·simp at h2_
     ·intro k s g w h1_ h2_ hsp X a H
      rcases k with _ | _ | k
      ·exact absurd h1_ (by decide)
      ·have hD0:=X; refine sk H C hb15 λa H=>?_; exact nD H ⟨(gt (d:=29) H C C),hD0⟩
      ·simp at h2_
     ·intro k s g w h1_ h2_ hsp X a H
      rcases k with _ | _ | k
      ·exact absurd h1_ (by decide)
      ·have hD0:=X; refine ov (v:=B true) H C (Z.pick C C C (by rw [hb15]; rfl)) ?_; clear H a; intro a H; exact nD H ⟨(gt (d:=30) H C C),hD0⟩
      ·simp at h2_
    ·clear H J X; refine ⟨?_,trivial⟩
     ·intro s g w hsp X a H; refine O.gcallR H C C C hb13 C C (RunE.call (av:=#[.agg #[B x4,s5]]) zhT C C C) (zew F x4 s5 x6 _ (X.b 1 C) x14 hx14) ?_; rintro _ w Y a H; replace X:=X.cl Y; exact nG H ⟨(gt (d:=23) H C C),(λ_ _ _=>C),X⟩
    ·clear H J X; exact trivial
    clear H J X; intro s g a w hs H X; replace X:=X.s0; exact kth ⟨true,H.q C,X,M⟩
   ·replace M:=hm_f M hb15; obtain ⟨x16,hx16,M⟩:=hm_b M; obtain ⟨x18,hx18,M⟩:=hm_b M; have J:Fr a 31 [] []:=H.to trivial; refine W.drawK (γ:=Value) (L0:=[(1,Pv b7 0),(2,I 0),(3,Pv b10 0),(4,I 0)]) (L1:=[]) (undef) [10,14,15] [] [0,1,2,3,4,5,6,7,8,9,11,12,13,16,17] (λi=>match i with | 1=>[0] | 2=>[1] | 3=>[2] | 4=>[2,3] | 5=>[2,4] | 6=>[2,5] | 7=>[2,6] | 8=>[7] | 9=>[7,8] | 10=>[7,9] | 11=>[7,10] | 12=>[10,11] | 13=>[12] | 14=>[12] | 15=>[12,13,14] | 16=>[12,15] | 17=>[12,16] | _=>[]) (λ_=>[]) (λi=>match i with | 10=>[11,12,13,14,15,16,17] | 14=>[15,16,17] | 15=>[16,17] | _=>[]) (λ_=>[]) (λi=>match i with | 11=>1 | 12=>1 | 13=>1 | 14=>1 | 15=>2 | 16=>3 | 17=>3 | _=>0) (λi=>match i with | 10=>1 | 11=>1 | 12=>1 | 13=>2 | 14=>2 | 15=>3 | 16=>3 | 17=>3 | _=>0) (λ(g:Value) j=>match j with | 0=>I 0 | 1=>B false | 2=>B false | 3=>Pv b7 2 | 4=>Pv b7 2 | 5=>B x4 | 6=>B x4 | 7=>B x4 | 8=>Pv b7 2 | 9=>.agg #[B x4,s5] | 10=>B x14 | 11=>B x14 | 12=>B x14 | 13=>.agg #[B x8.1,s9] | 14=>.agg #[B x16.1,g] | 15=>B x18 | 16=>B (!x18) | 17=>B (!x18) | _=>undef) (λk s (g:Value) w=>match k with | 0=>St w0 w noX [E s2 x3,E s5 x6] [pW30 b10 x8.1 s9,D s9 x8.2,pt b7 (Cs #[B x1,s2,B x4,s5] 32)] | 1=>St w0 w noX [E s2 x3,E s5 x6] [pW30 b10 x8.1 s9,D s9 x8.2,pt b7 (Cs #[B x1,s2,B x4,s5] 32)] | 2=>St w0 w noX [E s2 x3,E s5 x6] [D g x16.2,pW30 b10 x8.1 s9,D s9 x8.2,pt b7 (Cs #[B x1,s2,B x4,s5] 32)] | _=>St w0 w noX [E s2 x3,E s5 x6] [D g x16.2,pW30 b10 x8.1 s9,D s9 x8.2,pt b7 (Cs #[B x1,s2,B x4,s5] 32)]) P_mixed (by kernel_rfl) (H.q C) J X.drew ?_ ?_ ?_ ?_
    ·clear H J X; refine ⟨λk s g w _ _ _ X a H=>Q.val (v:=I 0) C C C X H (Z.move C),λk s g w _ _ _ X a H=>Q.val (v:=B false) C C C X H (Z.neq (p:=0) (q:=0) C C),λk s g w _ _ _ X a H=>Q.val (v:=B false) C C C X H (Z.move C),?_,?_,?_,λk s g w _ _ _ X a H=>Q.val (v:=B x4) C C C X H (Z.pick C C C C),λk s g w _ _ _ X a H=>Q.val (v:=B x4) C C C X H (Z.move C),?_,?_,?_,λk s g w _ _ _ X a H=>Q.val (v:=B x14) C C C X H (Z.move C),?_,?_,?_,trivial⟩
     ·intro k s s19 w h1_ h2_ hsp X a H
      rcases k with _ | k
      ·have hD0:=X; refine og H C C (Z.field zaL C C) λa H=>?_; exact nD H ⟨(gt (d:=16) H C C),hD0⟩
      ·simp at h2_
     ·intro k s s19 w h1_ h2_ hsp X a H
      rcases k with _ | k
      ·have hD0:=X; refine og H C C (Z.field zao C C) λa H=>?_; exact nD H ⟨(gt (d:=17) H C C),hD0⟩
      ·simp at h2_
     ·intro k s s19 w h1_ h2_ hsp X a H
      rcases k with _ | k
      ·have hD0:=X; refine og H C C (Z.load1 zav C (X.p 2 C) C) λa H=>?_; exact nD H ⟨(gt (d:=18) H C C),hD0⟩
      ·simp at h2_
     ·intro k s s19 w h1_ h2_ hsp X a H
      rcases k with _ | k
      ·have hD0:=X; refine og H C hb13 (Z.field zaL C C) λa H=>?_; exact nD H ⟨(gt (d:=21) H C C),hD0⟩
      ·simp at h2_
     ·intro k s s19 w h1_ h2_ hsp X a H
      rcases k with _ | k
      ·have hD0:=X; refine og H C hb13 (lN (cs':=#[B x4,s5]) A_30 C (X.p 2 C) C C) λa H=>?_; exact nD H ⟨(gt (d:=22) H C C),hD0⟩
      ·simp at h2_
     ·intro k s s19 w h1_ h2_ hsp X a H
      rcases k with _ | _ | k
      ·exact absurd h1_ (by decide)
      ·have hD0:=X; refine ov (v:=B x14) H C (Z.pick C C C (by rw [hb13]; rfl)) ?_; clear H a; intro a H; exact nD H ⟨(gt (d:=24) H C C),hD0⟩
      ·simp at h2_
     ·intro k s s19 w h1_ h2_ hsp X a H
      rcases k with _ | _ | _ | k
      ·exact absurd h1_ (by decide)
      ·have hD0:=X; refine og H C hb15 (lN (cs':=#[B x8.1,s9]) A_30 C (X.p 0 C) C C) λa H=>?_; exact nD H ⟨(gt (d:=26) H C C),hD0⟩
      ·have hD0:=X; refine og H C hb15 (lN (cs':=#[B x8.1,s9]) A_30 C (X.p 1 C) C C) λa H=>?_; exact nD H ⟨(gt (d:=26) H C C),hD0⟩
      ·simp at h2_
     ·intro k s s19 w h1_ h2_ hsp X a H
      rcases k with _ | _ | _ | _ | k
      ·exact absurd h1_ (by decide)
      ·exact absurd h1_ (by decide)
      ·exact absurd h1_ (by decide)
      ·have hD0:=X; refine og H C hb15 (Z.not C) λa H=>?_; exact nD H ⟨(gt (d:=29) H C C),hD0⟩
      ·simp at h2_
     ·intro k s s19 w h1_ h2_ hsp X a H
      rcases k with _ | _ | _ | _ | k
      ·exact absurd h1_ (by decide)
      ·exact absurd h1_ (by decide)
      ·exact absurd h1_ (by decide)
      ·have hD0:=X; refine ov (v:=B (!x18)) H C (Z.pick C C C (by rw [hb15]; rfl)) ?_; clear H a; intro a H; exact nD H ⟨(gt (d:=30) H C C),hD0⟩
      ·simp at h2_
    ·clear H J X; refine ⟨?_,?_,?_,trivial⟩
     ·intro s s19 w hsp X a H; refine O.gcallR H C C C hb13 C C (RunE.call (av:=#[.agg #[B x4,s5]]) zhT C C C) (zew F x4 s5 x6 _ (X.b 1 C) x14 hx14) ?_; rintro _ w Y a H; replace X:=X.cl Y; exact nE 23 H s19 C C (λ_ _ _=>C) X
     ·intro s s19 w hsp X a H; refine O.gcallR H C C C hb15 C C (RunE.call (av:=#[]) zjz C C C) (ziH F _ x16 hx16) ?_; rintro s19 w Y a H; replace X:=X.cl Y; exact nE 27 H s19 C C (jl 18 (by kernel_rfl) λ_=>C) X
     ·intro s s19 w hsp X a H; refine O.gcallR H C C C hb15 C C (RunE.call (av:=#[.agg #[B x8.1,s9],.agg #[B x16.1,s19]]) zjy C C C) (zix F x8.1 s9 x8.2 x16.1 s19 x16.2 _ (X.s 2 C) (X.s 0 C) x18 hx18) ?_; rintro _ w Y a H; replace X:=X.cl Y; exact nE 28 H s19 C C (λ_ _ _=>C) X
    ·clear H J X; exact trivial
    clear H J X; intro s s19 a w hs H X; replace X:=X.s0; exact kth ⟨!x18,H.q C,X,M⟩
 ·clear H X M a; (try clear w); rintro a w ⟨x11,H,X,M⟩; unfold zc6 at M; refine W.if_ H C (λhc12=>?_) (λhc12=>?_)
  ·replace M:=hm_t M hc12; refine sg (l:=[0]) C<|mv H C λa H=>nk<|W.ret<|ktr<|?_; obtain rfl:=oj M; refine post1 H C (rkt C) ?_; exact ⟨(),C,X.noB⟩
  ·replace M:=hm_f M hc12; refine W.skip<|ksq<|sg (l:=[0]) C<|mv H C λa H=>nk<|W.ret<|?_; obtain rfl:=oj M; refine post1 H C (rkt C) ?_; exact ⟨(),C,X.noB⟩
def zcU (F:Nat) (x1:Bool) (x3:List Int) (x4:Bool) (x6:List Int):Option (Bool × (List Int) × Bool × (List Int)) :=
  (zbx F x1 x3 x4 x6).bind λx12=>if (x6.length:Int)=(0:Int) then (none) else ((zce F x3 x6).bind λx14=>if ((decide ((x14.2.length:Int)>(0:Int)))&&(!(x1 == x4)))=true then (none) else ((zaK F (!(x1 == x4)) x14.1).bind λx19=>(zaK F x4 x14.2).bind λx21=>some (x19.1,x19.2,x21.1,x21.2)))
theorem zdF (F:Nat) (x1:Bool) (s2:Value) (x3:List Int) (x4:Bool) (s5:Value) (x6:List Int) (w0:World) (h_s2:rdEOK (hp w0) 1 E90 s2 x3) (h_s5:rdEOK (hp w0) 1 E90 s5 x6) (r:Bool × (List Int) × Bool × (List Int)) (M:zcU F x1 x3 x4 x6=some r) :
    Ret P 78 #[.agg #[B x1,s2],.agg #[B x4,s5]] w0 (G:=Value × Value) (λ(g1,g2)=>.tuple #[.agg #[B r.1,g1],.agg #[B r.2.2.1,g2],I 0]) (λ(g1,g2) w=>St w0 w noX [] [D g1 r.2.1,D g2 r.2.2.2]):=by
 unfold zcU at M; refine roW Tryz.func78 C C C (λa H=>?_); have X:St w0 w0 noX [E s2 x3,E s5 x6] []:=Sbw (lnc (lendRd h_s2) (lnc (lendRd h_s5) lnn)); refine sg (l:=[0,1,2,3,4]) C<|O.box (cs:=#[B x1,s2]) H X C C C C<|?_; intro b7 w a hb7 X H; refine O.box (cs:=#[B x4,s5]) H X C C C C ?_; intro b8 w a hb8 X H; refine O.alloc (cs:=#[B false,.slice none 0 0]) H X C C zac C ?_; intro b9 w a hb9 X H; refine O.alloc (cs:=#[B false,.slice none 0 0]) H X C C zac C ?_; intro b10 w a hb10 X H; refine mv H C λa H=>nk<|W.seq<|sg (l:=[0,1,2,3,4]) C<|ov H C (lN (cs':=#[B x1,s2]) A_30 C (X.p 3 C) C C) λa H=>ov H C (lN (cs':=#[B x4,s5]) A_30 C (X.p 2 C) C C) λa H=>O.buildSlice (cs':=#[B x1,s2,B x4,s5]) (zs:=#[B false,.slice none 0 0,B false,.slice none 0 0]) H X C C zaX zaa zac C C C C C<|?_; intro b11 w a hb11 X H; refine hb M λx12 hx12 M=>oq H X C zcQ (zbG F b11 x1 s2 x3 x4 s5 x6 _ (X.b 0 C) (X.b 1 C) (X.p 0 C) x12 hx12) ?_; rintro _ w X a H; refine mv H C λa H=>nk<|?_; replace X:=X.sl [0,1,1,1,1]; refine sg (l:=[0,1]) C<|mv H C λa H=>ov H C (Z.neq (p:=0) (q:=0) C C) λa H=>nk<|W.if_ff H C<|W.skip<|ksq<|W.seq<|sg (l:=[0,1,2,3]) C<|ov H C (Z.field zak C C) λa H=>?_; refine ov (v:=s5) H C (Z.load1 zan C (X.p 2 C) C) λa H=>ov (v:=I (x6.length:Int)) H C (Z.lenE (e:=90) (by simpa using zab) C (X.b 1 C)) λa H=>ov H C (Z.eql C C) λa H=>nk<|?_; refine W.ifdI H C (λhc13=>?_) (λhc13=>?_)
 ·nomatch hm_p M hc13
 ·replace M:=hm_n M hc13; refine W.skip<|ksq<|sg (l:=[0,1,2,3,4,5,6,7,8,9]) C<|ov H C (Z.field zak C C) λa H=>ov (v:=s2) H C (Z.load1 zan C (X.p 3 C) C) λa H=>ov H C (Z.field zak C C) λa H=>ov (v:=s5) H C (Z.load1 zan C (X.p 2 C) C) λa H=>?_; refine hb M λx14 hx14 M=>oq H X C zgE (zcE F s2 x3 s5 x6 _ (X.b 0 C) (X.b 1 C) x14 hx14) ?_; rintro ⟨s15,s16⟩ w X a H; refine mv H C λa H=>ex H C C C λa H=>ex H C C C λa H=>mv2 H C C λa H=>nk<|W.seq<|sg (l:=[0,1,2,3,4,5,6,7,8,9]) C<|mv H C λa H=>ov (v:=I (x14.2.length:Int)) H C (Z.lenE (e:=90) (by simpa using zab) C (X.s 1 C)) λa H=>?_; refine ov H C (Z.gtr C C) λa H=>mv H C λa H=>?_; refine O.cutN (l₁:=[4,5,6,7,8,9]) (l₂:=_) (λa w=>Fr a 75 [] [(2,Pv b7 0),(3,Pv b8 0),(4,Pv b9 0),(5,Pv b10 0),(6,I 0),(8,s15),(9,s16),(42,B ((decide ((x14.2.length:Int)>(0:Int)))&&(!(x1 == x4))))]∧St w0 w noX [E s2 x3,E s5 x6] [D s15 x14.1,D s16 x14.2,pt b10 (Cs #[B false,.slice none 0 0] 30),pt b9 (Cs #[B false,.slice none 0 0] 30),pW30 b8 x4 s5,pW30 b7 x1 s2]) C ?_ ?_
  ·rcases Bool.eq_false_or_eq_true (decide ((x14.2.length:Int)>(0:Int))) with hb17 | hb17
   ·refine og H C hb17 (Z.field zao C C) λa H=>og H C hb17 (Z.load1 zav C (X.p 5 C) C) λa H=>og H C hb17 (Z.field zao C C) λa H=>og H C hb17 (Z.load1 zav C (X.p 4 C) C) λa H=>og (v:=B (!(x1 == x4))) H C hb17 (Z.neBool zfS C C) λa H=>?_; refine ov (v:=B ((decide ((x14.2.length:Int)>(0:Int)))&&(!(x1 == x4)))) H C (Z.pick C C C (by rw [hb17]; rfl)) ?_; clear H a; intro a H; exact O.nil ⟨C,H.q C,X⟩
   ·refine sk H C hb17 λa H=>sk H C hb17 λa H=>sk H C hb17 λa H=>sk H C hb17 λa H=>sk H C hb17 λa H=>?_; refine ov (v:=B ((decide ((x14.2.length:Int)>(0:Int)))&&(!(x1 == x4)))) H C (Z.pick C C C (by rw [hb17]; rfl)) ?_; clear H a; intro a H; exact O.nil ⟨C,H.q C,X⟩
  clear H X a; (try clear w); rintro a w ⟨H,X⟩; refine nk ?_; refine W.if_ H C (λhc18=>?_) (λhc18=>?_)
  ·nomatch hm_t M hc18
  ·replace M:=hm_f M hc18; refine W.skip<|ksq<|W.seq<|sg (l:=[0,1,2,3,4,5,6,7,8,9,10,11]) C<|ov H C (Z.field zao C C) λa H=>ov H C (Z.load1 zav C (X.p 5 C) C) λa H=>ov H C (Z.field zao C C) λa H=>ov H C (Z.load1 zav C (X.p 4 C) C) λa H=>ov (v:=B (!(x1 == x4))) H C (Z.neBool zfS C C) λa H=>mv H C λa H=>?_; refine hb M λx19 hx19 M=>oc H C zcw (zaH F (!(x1 == x4)) s15 x14.1 _ (X.slS (j:=0) C) x19 hx19) ?_; rintro s20 w Y a H; replace X:=X.cz Y 0 λ_ h=>h; refine mv H C λa H=>ex H C C C λa H=>ex H C C C λa H=>ost 3 #[B x19.1,s20] H X C C C zaa C (occ C (occ (rdo (X.s 0 C)) C)) C (bl C) C<|?_; intro w X; refine mv H C λa H=>nk<|?_; replace X:=X.sl [1,1,1,1,1]; refine sg (l:=[0,1]) C<|mv H C λa H=>ov H C (Z.neq (p:=0) (q:=0) C C) λa H=>nk<|W.if_ff H C<|W.skip<|ksq<|sg (l:=[0,1,2,3,4,5,6,7,8]) C<|ov H C (Z.field zao C C) λa H=>ov H C (Z.load1 zav C (X.p 4 C) C) λa H=>?_; refine mv H C λa H=>?_; refine hb M λx21 hx21 M=>oc H C zcw (zaH F x4 s16 x14.2 _ (X.slS (j:=1) C) x21 hx21) ?_; rintro s22 w Y a H; replace X:=X.cz Y 1 λ_ h=>h; refine mv H C λa H=>ex H C C C λa H=>ex H C C C λa H=>ost 2 #[B x21.1,s22] H X C C C zaa C (occ C (occ (rdo (X.s 0 C)) C)) C (bl C) C<|?_; intro w X; refine mv H C λa H=>nk<|?_; replace X:=X.sl [1,1,1,1]; refine W.seq ?_; have J:Fr a 75 [] [(6,I 0)]:=H.q C; refine W.drawK (γ:=Unit) (L0:=[(4,Pv b9 0),(5,Pv b10 0)]) (L1:=[(6,I 0)]) () [3,4] [] [0,1,2,5] (λi=>match i with | 3=>[0] | 4=>[0,1,3] | 5=>[0,1,2,3,4] | _=>[]) (λ_=>[]) (λi=>match i with | 3=>[4,5] | 4=>[5] | _=>[]) (λi=>match i with | 2=>[6] | _=>[]) (λi=>match i with | 4=>1 | 5=>2 | _=>0) (λi=>match i with | 1=>1 | 2=>2 | 3=>1 | 4=>2 | 5=>2 | _=>0) (λ(g:Unit) j=>match j with | 0=>.agg #[B x19.1,s20] | 1=>.agg #[B x21.1,s22] | 2=>I 0 | 5=>I 0 | _=>undef) (λk s (g:Unit) w=>match k with | 0=>St w0 w noX [E s2 x3,E s5 x6] [D s22 x21.2,D s20 x19.2,pW30 b10 x21.1 s22,pW30 b9 x19.1 s20] | 1=>St w0 w noX [E s2 x3,E s5 x6] [D s22 x21.2,D s20 x19.2,pW30 b10 x21.1 s22,pW30 b9 x19.1 s20] | _=>St w0 w noX [E s2 x3,E s5 x6] [D s22 x21.2,D s20 x19.2,pW30 b10 x21.1 s22,pW30 b9 x19.1 s20]) P_mixed (by kernel_rfl) (H.q C) J X.drew ?_ ?_ ?_ ?_
   ·clear H J X; refine ⟨?_,?_,λk s g w _ _ _ X a H=>Q.val (v:=I 0) C C C X H (Z.move C),λk s g w _ _ _ X a H=>Q.val (v:=I 0) C C C X H (Z.assign C),trivial⟩
    ·intro k s g w h1_ h2_ hsp X a H
     rcases k with _ | k
     ·exact Q.val (v:=.agg #[B x19.1,s20]) C C C X H (lN (cs':=#[B x19.1,s20]) A_30 C (X.p 3 C) C C)
     ·simp at h2_
    ·intro k s g w h1_ h2_ hsp X a H
     rcases k with _ | _ | k
     ·exact Q.val (v:=.agg #[B x21.1,s22]) C C C X H (lN (cs':=#[B x21.1,s22]) A_30 C (X.p 2 C) C C)
     ·exact Q.val (v:=.agg #[B x21.1,s22]) C C C X H (lN (cs':=#[B x21.1,s22]) A_30 C (X.p 2 C) C C)
     ·simp at h2_
   ·clear H J X; refine ⟨?_,?_,trivial⟩
    ·intro s g w hsp X a H; refine ost 3 #[B x19.1,s20] H X C C C zaa C (occ C (occ (rdo (X.s 1 C)) C)) C (bl C) C ?_; intro w X; exact nG H ⟨(λd hd=>by cases (show none=some d from hd)),(λ_ _ _=>C),X⟩
    ·intro s g w hsp X a H; refine ost 2 #[B x21.1,s22] H X C C C zaa C (occ C (occ (rdo (X.s 0 C)) C)) C (bl C) C ?_; intro w X; exact nG H ⟨(λd hd=>by cases (show none=some d from hd)),(λ_ _ _=>C),X⟩
   ·clear H J X; exact trivial
   clear H J X; intro s g a w hs H X; refine ksq<|W.ret<|?_; obtain rfl:=oj M; refine post3 H C (rkn (cs':=#[B x19.1,s20]) C zal zaa (X.p 3 C) (bl C) C) (rkn (cs':=#[B x21.1,s22]) C zal zaa (X.p 2 C) (bl C) C) (rkt C) ?_; replace X:=X.fr 1; replace X:=X.sl [1,1]; exact ⟨(s20,s22),C,X.noB⟩
def zgj (F:Nat) (x1:Bool) (x8:Int):Option Int :=
  if (x1&&(decide (x8≤(9223372036854775808:Int))))=true then (none) else (if ((!x1)&&(decide (x8<(9223372036854775808:Int))))=true then (some (i64.wrap x8)) else (none))
def zgk (F:Nat) (x3:List Int) (x1:Bool) (rec15:Int→Int→Option Int) (x13 x14:Int):Option Int :=
  if x14<((x3.length:Int):Int) then ((idx x3 x14).bind λx17=>if 0≤(i64.wrap (32*x14)) then (some (bitor .u64 x13 (u64.wrap ((u64.wrap x17)*2^(min (Int.toNat (i64.wrap (32*x14))) (IntKind.bits .u64)))))).bind λx19=>rec15 x19 (i64.wrap (x14+1)) else none) else (zgj F x1 x13)
def zdT (F:Nat) (x3:List Int) (x1:Bool):Nat→Int→Int→Option Int
  | 0,_,_=>none
  | n+1,x13,x14=>zgk F x3 x1 (zdT F x3 x1 n) x13 x14
def zhm (F:Nat) (x1:Bool) (x3:List Int):Option Int :=
  (zbw F x1 x3).bind λx6=>if (x3.length:Int)>(2:Int) then (none) else (zdT F x3 x1 F 0 0)
theorem ziI (F:Nat) (x1:Bool) (s2:Value) (x3:List Int) (w0:World) (h_s2:rdEOK (hp w0) 1 E90 s2 x3) (r:Int) (M:zhm F x1 x3=some r) :
    Ret P 79 #[.agg #[B x1,s2]] w0 (G:=Unit) (λ_=>.tuple #[I r,I 0]) (λ_ w=>St w0 w noX [] []):=by
 unfold zhm at M; refine roW Tryz.func79 C C C (λa H=>?_); have X:St w0 w0 noX [E s2 x3] []:=Sbw (lnc (lendRd h_s2) lnn); refine sg (l:=[0,1,2]) C<|O.box (cs:=#[B x1,s2]) H X C C C C<|?_; intro b4 w a hb4 X H; refine mv2 H C C λa H=>nk<|W.seq<|sg (l:=[0,1,2,3]) C<|ov H C (lN (cs':=#[B x1,s2]) A_30 C (X.p 0 C) C C) λa H=>O.buildSlice (cs':=#[B x1,s2]) (zs:=#[B false,.slice none 0 0]) H X C C zaX zaa zac C C C C C<|?_; intro b5 w a hb5 X H; refine hb M λx6 hx6 M=>oq H X C zcQ (zbF F b5 x1 s2 x3 _ (X.b 0 C) (X.p 0 C) x6 hx6) ?_; rintro _ w X a H; refine mv H C λa H=>nk<|?_; replace X:=X.sl [0,1]; refine sg (l:=[0,1]) C<|mv H C λa H=>ov H C (Z.neq (p:=0) (q:=0) C C) λa H=>nk<|W.if_ff H C<|W.skip<|ksq<|W.seq<|sg (l:=[0,1,2,3]) C<|ov H C (Z.field zak C C) λa H=>?_; refine ov (v:=s2) H C (Z.load1 zan C (X.p 0 C) C) λa H=>ov (v:=I (x3.length:Int)) H C (Z.lenE (e:=90) (by simpa using zab) C (X.b 0 C)) λa H=>ov H C (Z.gtr C C) λa H=>nk<|?_; refine W.ifdI H C (λhc7=>?_) (λhc7=>?_)
 ·nomatch hm_p M hc7
 ·replace M:=hm_n M hc7; refine W.skip<|ksq<|sg (l:=[0]) C<|mv H C λa H=>nk<|?_; refine W.seqR (λa w=>∃ (x8:Int),Fr a 54 [] [(1,Pv b4 0),(2,I 0),(3,I 0),(5,Uv x8)]∧St w0 w noX [E s2 x3] [pW30 b4 x1 s2]∧zgj F x1 x8=some r) ?_ ?_
  ·refine sg (l:=[0,1,2,3]) C<|ov H C (Z.field zak C C) λa H=>ov (v:=s2) H C (Z.load1 zan C (X.p 0 C) C) λa H=>ov (v:=I (x3.length:Int)) H C (Z.lenE (e:=90) (by simpa using zab) C (X.b 0 C)) λa H=>mv H C λa H=>nk<|?_; refine W.block<|W.loop (G:=Nat × Int × Int) (λg a w=>match g with | (k15,x13,x14)=>Fr a 54 [] [(1,Pv b4 0),(2,I 0),(3,I 0),(5,Uv x13),(19,s2),(20,I (x3.length:Int)),(21,I x14)]∧St w0 w noX [E s2 x3] [pW30 b4 x1 s2]∧zdT F x3 x1 k15 x13 x14=some r) (λg=>match g with | (k15,x13,x14)=>k15) (F,0,0) ⟨H.q C,X,M⟩<|?_; clear H X M a; (try clear w); rintro ⟨k15,x13,x14⟩ a w ⟨H,X,M⟩
   rcases k15 with _ | k15
   · nomatch M
   replace M:zgk F x3 x1 (zdT F x3 x1 k15) x13 x14=some r:=M; obtain ⟨rec15,hrec15⟩:∃ f,f=zdT F x3 x1 k15:=⟨_,C⟩; rw [← hrec15] at M; unfold zgk at M; refine sg (l:=[0]) C<|ov H C (Z.lss C C) λa H=>nk<|W.seq<|?_; refine W.ifdI H C (λhc16=>?_) (λhc16=>?_)
   ·replace M:=hm_p M hc16; refine W.skip<|ksq<|W.seq<|W.block<|sg (l:=[0,1,2,3,4]) C<|mv H C λa H=>?_; refine hb M λx17 hx17 M=>ov H C (Z.ixE zab zae C C (X.b 0 C) hx17) λa H=>ov H C (Z.ldE1 (o:=0) zar E90_len C (X.b 0 C) hx17 C C) λa H=>mv2 H C C λa H=>nk<|wrL (l:=[0,1,2,3,4,5,6,7]) C<|mv2 H C C λa H=>ov (v:=Uv (u64.wrap x17)) H C (Z.conv za1 zaF C) λa H=>mv H C λa H=>?_; refine ov H C (Z.mul C C) λa H=>?_; obtain ⟨hg18,M⟩:=hm_g M; refine ov (v:=Uv (u64.wrap ((u64.wrap x17)*2^(min (Int.toNat (i64.wrap (32*x14))) (IntKind.bits .u64))))) H C (Z.shl C C hg18) λa H=>ov (v:=Uv (bitor .u64 x13 (u64.wrap ((u64.wrap x17)*2^(min (Int.toNat (i64.wrap (32*x14))) (IntKind.bits .u64)))))) H C (Z.bitor C C) λa H=>mv H C λa H=>O.nil<|kbn<|ksq<|?_; obtain ⟨x19,hx19,M⟩:=hm_b M; rw [oj hx19] at H; refine wrL (l:=[0,1]) C<|ov H C (Z.add C C) λa H=>mv H C λa H=>O.nil<|?_; refine kth ⟨(k15,x19,i64.wrap (x14+1)),⟨H.q C,X,?_⟩,Nat.lt_succ_self _⟩; rw [hrec15] at M; exact M
   ·replace M:=hm_n M hc16; refine W.exit<|kte<|kte<|kbk<|?_; exact kth ⟨x13,H.q C,X,M⟩
  ·clear H X M a; (try clear w); rintro a w ⟨x8,H,X,M⟩; unfold zgj at M; refine W.seq<|W.block<|sg (l:=[0,1,2,3,4,5,6]) C<|ov H C (Z.field zao C C) λa H=>ov H C (Z.load1 zav C (X.p 0 C) C) λa H=>mv H C λa H=>?_; refine O.cutN (l₁:=[3,4,5]) (l₂:=_) (λa w=>Fr a 54 [] [(1,Pv b4 0),(2,I 0),(3,I 0),(5,Uv x8),(40,B (x1&&(decide (x8≤(9223372036854775808:Int)))))]∧St w0 w noX [E s2 x3] [pW30 b4 x1 s2]) C ?_ ?_
   ·rcases Bool.eq_false_or_eq_true (x1) with hb9 | hb9
    ·refine og H C hb9 (Z.move C) λa H=>og H C hb9 (Z.leq C C) λa H=>?_; refine ov (v:=B (x1&&(decide (x8≤(9223372036854775808:Int))))) H C (Z.pick C C C (by rw [hb9]; rfl)) ?_; clear H a; intro a H; exact O.nil ⟨C,H.q C,X⟩
    ·refine sk H C hb9 λa H=>sk H C hb9 λa H=>?_; refine ov (v:=B (x1&&(decide (x8≤(9223372036854775808:Int))))) H C (Z.pick C C C (by rw [hb9]; rfl)) ?_; clear H a; intro a H; exact O.nil ⟨C,H.q C,X⟩
   clear H X a; (try clear w); rintro a w ⟨H,X⟩; refine mv H C λa H=>nk<|?_; refine W.if_ H C (λhc10=>?_) (λhc10=>?_)
   ·nomatch hm_t M hc10
   ·replace M:=hm_f M hc10; refine sg (l:=[0,1,2,3,4,5,6,7]) C<|ov H C (Z.field zao C C) λa H=>ov H C (Z.load1 zav C (X.p 0 C) C) λa H=>ov H C (Z.not C) λa H=>mv H C λa H=>?_; refine O.cutN (l₁:=[4,5,6]) (l₂:=_) (λa w=>Fr a 54 [] [(2,I 0),(3,I 0),(5,Uv x8),(51,B ((!x1)&&(decide (x8<(9223372036854775808:Int)))))]∧St w0 w noX [E s2 x3] [pW30 b4 x1 s2]) C ?_ ?_
    ·rcases Bool.eq_false_or_eq_true (!x1) with hb11 | hb11
     ·refine og H C hb11 (Z.move C) λa H=>og H C hb11 (Z.lss C C) λa H=>?_; refine ov (v:=B ((!x1)&&(decide (x8<(9223372036854775808:Int))))) H C (Z.pick C C C (by rw [hb11]; rfl)) ?_; clear H a; intro a H; exact O.nil ⟨C,H.q C,X⟩
     ·refine sk H C hb11 λa H=>sk H C hb11 λa H=>?_; refine ov (v:=B ((!x1)&&(decide (x8<(9223372036854775808:Int))))) H C (Z.pick C C C (by rw [hb11]; rfl)) ?_; clear H a; intro a H; exact O.nil ⟨C,H.q C,X⟩
    clear H X a; (try clear w); rintro a w ⟨H,X⟩; refine mv H C λa H=>nk<|?_; replace X:=X.s0; refine W.if_ H C (λhc12=>?_) (λhc12=>?_)
    ·replace M:=hm_t M hc12; refine sg (l:=[0,1,2,3]) C<|mv H C λa H=>ov (v:=I (i64.wrap x8)) H C (Z.conv zaM zff C) λa H=>mv2 H C C λa H=>nk<|W.ret<|kbr<|ktr<|?_; obtain rfl:=oj M; refine post2 H C (rkt C) (rkt C) ?_; exact ⟨(),C,X.noB⟩
    ·replace M:=hm_f M hc12; refine W.skip<|kbn<|ksq<|?_; nomatch M
def zeJ (F:Nat) (x1 x2 x3:Int):Option (Int × Int) :=
  (some (u64.wrap ((u64.wrap ((u64.wrap x1)+(u64.wrap x2)))+(u64.wrap x3)))).bind λx4=>(some (u32.wrap (Int.fdiv x4 (2^32)))).bind λx5=>some (u32.wrap x4,x5)
theorem zhn (F:Nat) (x1 x2 x3:Int) (w0:World) (r:Int × Int) (M:zeJ F x1 x2 x3=some r) :
    Ret P 149 #[.int .u32 x1,.int .u32 x2,.int .u32 x3] w0 (G:=Unit) (λ_=>.tuple #[.int .u32 r.1,.int .u32 r.2]) (λ_ w=>St w0 w noX [] []):=by
 unfold zeJ at M; refine roW Tryz.func149 C C C (λa H=>?_); have X:St w0 w0 noX [] []:=Sbw lnn; refine sg (l:=[0,1]) C<|mv2 H C C λa H=>nk<|sg (l:=[0,1,2,3,4,5,6,7,8]) C<|mv H C λa H=>ov (v:=Uv (u64.wrap x1)) H C (Z.conv za1 zaF C) λa H=>mv H C λa H=>ov (v:=Uv (u64.wrap x2)) H C (Z.conv za1 zaF C) λa H=>ov H C (Z.add C C) λa H=>?_; refine mv H C λa H=>ov (v:=Uv (u64.wrap x3)) H C (Z.conv za1 zaF C) λa H=>ov H C (Z.add C C) λa H=>mv H C λa H=>nk<|?_; obtain ⟨x4,hx4,M⟩:=hm_b M; rw [oj hx4] at H; refine sg (l:=[0,1,2]) C<|mv H C λa H=>ov (v:=.int .u32 (u32.wrap x4)) H C (Z.conv zaM za8 C) λa H=>mv H C λa H=>nk<|sg (l:=[0,1,2,3]) C<|mv H C λa H=>ov (v:=Uv (Int.fdiv x4 (2^32))) H C (Z.shr (q:=32) C C (by decide)) λa H=>ov (v:=.int .u32 (u32.wrap (Int.fdiv x4 (2^32)))) H C (Z.conv zaM za8 C) λa H=>mv H C λa H=>?_; refine nk ?_; obtain ⟨x5,hx5,M⟩:=hm_b M; rw [oj hx5] at H; refine W.ret ?_; obtain rfl:=oj M; refine post2 H C (rkt C) (rkt C) ?_; exact ⟨(),C,X.noB⟩
def zf0 (F:Nat) (x6 x11:List Int) (x12:Int):Option (List Int) :=
  (idx x11 (x6.length:Int)).bind λx13=>some (x11.set (Int.toNat (x6.length:Int)) x12)
def zex (F:Nat) (x19 x15:Int) (x14:List Int) (x16:Int) (rec17:(List Int)→Int→Int→Option (List Int)) (x20:Int):Option (List Int) :=
  (zeJ F x19 x20 x15).bind λx21=>(idx x14 x16).bind λx22=>rec17 (x14.set (Int.toNat x16) x21.1) x21.2 (i64.wrap (x16+1))
def zf1 (F:Nat) (x6 x8:List Int) (rec17:(List Int)→Int→Int→Option (List Int)) (x14:List Int) (x15 x16:Int):Option (List Int) :=
  if x16<((x6.length:Int):Int) then ((idx x6 x16).bind λx19=>if x16<((x8.length:Int):Int) then ((idx x8 x16).bind λx24=>zex F x19 x15 x14 x16 rec17 x24) else (zex F x19 x15 x14 x16 rec17 0)) else (zf0 F x6 x14 x15)
def zdn (F:Nat) (x6 x8:List Int):Nat→(List Int)→Int→Int→Option (List Int)
  | 0,_,_,_=>none
  | n+1,x14,x15,x16=>zf1 F x6 x8 (zdn F x6 x8 n) x14 x15 x16
def zey (F:Nat) (x6 x8:List Int):Option (List Int) :=
  if 0≤(i64.wrap ((x6.length:Int)+1))∧(i64.wrap ((x6.length:Int)+1))≤4294967296 then zdn F x6 x8 F (List.replicate (Int.toNat (i64.wrap ((x6.length:Int)+1))) (0:Int)) 0 0 else none
def zf9 (F:Nat) (x2 x4:List Int):Option (List Int) :=
  if (x2.length:Int)<((x4.length:Int):Int) then (zey F x4 x2) else (zey F x2 x4)
theorem zha (F:Nat) (s1:Value) (x2:List Int) (s3:Value) (x4:List Int) (w0:World) (h_s1:rdEOK (hp w0) 1 E90 s1 x2) (h_s3:rdEOK (hp w0) 1 E90 s3 x4) (r:List Int) (M:zf9 F x2 x4=some r) :
    Ret P 116 #[s1,s3] w0 (G:=Value) (λg1=>g1) (λg1 w=>St w0 w noX [] [D g1 r]):=by
 unfold zf9 at M; refine roW Tryz.func116 C C C (λa H=>?_); have X:St w0 w0 noX [E s1 x2,E s3 x4] []:=Sbw (lnc (lendRd h_s1) (lnc (lendRd h_s3) lnn)); refine sg (l:=[0]) C<|mv H C λa H=>nk<|?_; refine W.seqR (λa w=>∃ (s5:Value) (x6:List Int) (s7:Value) (x8:List Int),Fr a 53 [] [(0,s5),(1,s7),(4,.slice none 0 0)]∧St w0 w noX [E s1 x2,E s3 x4,E s5 x6,E s7 x8] []∧zey F x6 x8=some r) ?_ ?_
 ·refine sg (l:=[0,1,2,3,4]) C<|mv H C λa H=>ov (v:=I (x2.length:Int)) H C (Z.lenE (e:=90) (by simpa using zab) C (X.b 0 C)) λa H=>mv H C λa H=>ov (v:=I (x4.length:Int)) H C (Z.lenE (e:=90) (by simpa using zab) C (X.b 1 C)) λa H=>ov H C (Z.lss C C) λa H=>nk<|?_; refine W.ifdI H C (λhc25=>?_) (λhc25=>?_)
  ·replace M:=hm_p M hc25; refine wrL (l:=[0,1,2,3]) C<|mv2 H C C λa H=>mv2 H C C λa H=>O.nil<|?_; replace X:=X.selB (B':=[E s1 x2,E s3 x4,E s3 x4,E s1 x2]) [0,1,1,0] C; exact kth ⟨s3,x4,s1,x2,H.q C,X,M⟩
  ·replace M:=hm_n M hc25; refine W.skip ?_; replace X:=X.selB (B':=[E s1 x2,E s3 x4,E s1 x2,E s3 x4]) [0,1,0,1] C; exact kth ⟨s1,x2,s3,x4,H.q C,X,M⟩
 ·clear H X M a; (try clear w); rintro a w ⟨s5,x6,s7,x8,H,X,M⟩; unfold zey at M; refine sg (l:=[0,1,2,3,4]) C<|mv H C λa H=>ov (v:=I (x6.length:Int)) H C (Z.lenE (e:=90) (by simpa using zab) C (X.b 2 C)) λa H=>ov H C (Z.add C C) λa H=>?_; obtain ⟨hg9,M⟩:=hm_g M; refine O.makeE (enc:=E90) (x0:=(0:Int)) H X C C zab zae za7 zaE C C C hg9 C E90_len C ?_; intro s10 w a X H; refine mv H C λa H=>nk<|sg (l:=[0]) C<|mv H C λa H=>nk<|?_; refine W.seqR (λa w=>∃ (x11:List Int) (x12:Int),Fr a 53 [] [(0,s5),(4,.slice none 0 0),(5,s10),(6,.int .u32 x12)]∧St w0 w noX [E s1 x2,E s3 x4,E s5 x6,E s7 x8] [D s10 x11]∧zf0 F x6 x11 x12=some r) ?_ ?_
  ·refine sg (l:=[0,1,2]) C<|mv H C λa H=>ov (v:=I (x6.length:Int)) H C (Z.lenE (e:=90) (by simpa using zab) C (X.b 2 C)) λa H=>mv H C λa H=>nk<|W.block<|W.loop (G:=Nat × (List Int) × Int × Int) (λg a w=>match g with | (k17,x14,x15,x16)=>Fr a 53 [] [(0,s5),(1,s7),(4,.slice none 0 0),(5,s10),(6,.int .u32 x15),(21,s5),(22,I (x6.length:Int)),(23,I x16)]∧St w0 w noX [E s1 x2,E s3 x4,E s5 x6,E s7 x8] [D s10 x14]∧zdn F x6 x8 k17 x14 x15 x16=some r) (λg=>match g with | (k17,x14,x15,x16)=>k17) (F,List.replicate (Int.toNat (i64.wrap ((x6.length:Int)+1))) (0:Int),0,0) ⟨H.q C,X,M⟩<|?_; clear H X M a; (try clear w); rintro ⟨k17,x14,x15,x16⟩ a w ⟨H,X,M⟩
   rcases k17 with _ | k17
   · nomatch M
   replace M:zf1 F x6 x8 (zdn F x6 x8 k17) x14 x15 x16=some r:=M; obtain ⟨rec17,hrec17⟩:∃ f,f=zdn F x6 x8 k17:=⟨_,C⟩; rw [← hrec17] at M; unfold zf1 at M; refine sg (l:=[0]) C<|ov H C (Z.lss C C) λa H=>nk<|W.seq<|?_; refine W.ifdI H C (λhc18=>?_) (λhc18=>?_)
   ·replace M:=hm_p M hc18; refine W.skip<|ksq<|W.seq<|W.block<|sg (l:=[0,1,2,3,4]) C<|mv H C λa H=>?_; refine hb M λx19 hx19 M=>ov H C (Z.ixE zab zae C C (X.b 2 C) hx19) λa H=>ov H C (Z.ldE1 (o:=0) zar E90_len C (X.b 2 C) hx19 C C) λa H=>mv2 H C C λa H=>nk<|sg (l:=[0]) C<|mv H C λa H=>nk<|?_; refine W.seqR (λa w=>∃ (x20:Int),Fr a 53 [] [(0,s5),(1,s7),(4,.slice none 0 0),(5,s10),(6,.int .u32 x15),(7,I x16),(8,.int .u32 x19),(9,.int .u32 x20),(21,s5),(22,I (x6.length:Int)),(23,I x16)]∧St w0 w noX [E s1 x2,E s3 x4,E s5 x6,E s7 x8] [D s10 x14]∧zex F x19 x15 x14 x16 rec17 x20=some r) ?_ ?_
    ·refine sg (l:=[0,1,2,3]) C<|mv2 H C C λa H=>ov (v:=I (x8.length:Int)) H C (Z.lenE (e:=90) (by simpa using zab) C (X.b 3 C)) λa H=>ov H C (Z.lss C C) λa H=>nk<|?_; refine W.ifdI H C (λhc23=>?_) (λhc23=>?_)
     ·replace M:=hm_p M hc23; refine wrL (l:=[0,1,2,3,4]) C<|mv2 H C C λa H=>?_; refine hb M λx24 hx24 M=>ov H C (Z.ixE zab zae C C (X.b 3 C) hx24) λa H=>ov H C (Z.ldE1 (o:=0) zar E90_len C (X.b 3 C) hx24 C C) λa H=>mv H C λa H=>O.nil<|?_; exact kth ⟨x24,H.q C,X,M⟩
     ·replace M:=hm_n M hc23; refine W.skip ?_; exact kth ⟨0,H.q C,X,M⟩
    ·clear H X M a; (try clear w); rintro a w ⟨x20,H,X,M⟩; unfold zex at M; refine wrL (l:=[0,1,2,3,4,5,6,7,8,9,10,11]) C<|mv2 H C C λa H=>mv2 H C C λa H=>mv H C λa H=>?_; refine hb M λx21 hx21 M=>oq H X C zjK (zhn F x19 x20 x15 _ x21 hx21) ?_; rintro _ w X a H; refine mv H C λa H=>ex H C C C λa H=>ex H C C C λa H=>?_; refine hb M λx22 hx22 M=>ov H C (Z.ixE zab zae C C (X.s 0 C) hx22) λa H=>O.storeE (j:=0) (o:=0) (y0:=x21.1) (l':=x14.set (Int.toNat x16) x21.1) (M':=[D s10 (x14.set (Int.toNat x16) x21.1)]) H X C C C zae C C C E90_len hx22 C C C C<|?_; intro w X; refine mv H C λa H=>O.nil<|kbn<|ksq<|wrL (l:=[0,1]) C<|ov H C (Z.add C C) λa H=>mv H C λa H=>O.nil<|?_; refine kth ⟨(k17,x14.set (Int.toNat x16) x21.1,x21.2,i64.wrap (x16+1)),⟨H.q C,X,?_⟩,Nat.lt_succ_self _⟩; rw [hrec17] at M; exact M
   ·replace M:=hm_n M hc18; refine W.exit<|kte<|kte<|kbk<|?_; exact kth ⟨x14,x15,H.q C,X,M⟩
  ·clear H X M a; (try clear w); rintro a w ⟨x11,x12,H,X,M⟩; unfold zf0 at M; refine sg (l:=[0,1,2,3,4,5]) C<|mv2 H C C λa H=>ov (v:=I (x6.length:Int)) H C (Z.lenE (e:=90) (by simpa using zab) C (X.b 2 C)) λa H=>mv H C λa H=>?_; refine hb M λx13 hx13 M=>ov H C (Z.ixE zab zae C C (X.s 0 C) hx13) λa H=>O.storeE (j:=0) (o:=0) (y0:=x12) (l':=x11.set (Int.toNat (x6.length:Int)) x12) (M':=[D s10 (x11.set (Int.toNat (x6.length:Int)) x12)]) H X C C C zae C C C E90_len hx13 C C C C<|?_; intro w X; refine nk<|sg (l:=[0,1]) C<|mv2 H C C λa H=>nk<|W.ret<|?_; obtain rfl:=oj M; refine post1 H C (rkt C) ?_; exact ⟨s10,C,X.noB⟩
def zft (F:Nat) (x7:List Int):Option (List Int) :=
  some x7
def zd1 (F:Nat) (x13 x9:Int) (x8:List Int) (x10:Int) (rec11:(List Int)→Int→Int→Option (List Int)) (x14:Int):Option (List Int) :=
  (zck F x13 x14 x9).bind λx15=>(idx x8 x10).bind λx16=>rec11 (x8.set (Int.toNat x10) x15.1) x15.2 (i64.wrap (x10+1))
def zfu (F:Nat) (x2 x4:List Int) (rec11:(List Int)→Int→Int→Option (List Int)) (x8:List Int) (x9 x10:Int):Option (List Int) :=
  if x10<((x2.length:Int):Int) then ((idx x2 x10).bind λx13=>if x10<((x4.length:Int):Int) then ((idx x4 x10).bind λx18=>zd1 F x13 x9 x8 x10 rec11 x18) else (zd1 F x13 x9 x8 x10 rec11 0)) else (zft F x8)
def zc7 (F:Nat) (x2 x4:List Int):Nat→(List Int)→Int→Int→Option (List Int)
  | 0,_,_,_=>none
  | n+1,x8,x9,x10=>zfu F x2 x4 (zc7 F x2 x4 n) x8 x9 x10
def zfv (F:Nat) (x2 x4:List Int):Option (List Int) :=
  if 0≤(x2.length:Int)∧(x2.length:Int)≤4294967296 then zc7 F x2 x4 F (List.replicate (Int.toNat (x2.length:Int)) (0:Int)) 0 0 else none
theorem zgT (F:Nat) (s1:Value) (x2:List Int) (s3:Value) (x4:List Int) (w0:World) (h_s1:rdEOK (hp w0) 1 E90 s1 x2) (h_s3:rdEOK (hp w0) 1 E90 s3 x4) (r:List Int) (M:zfv F x2 x4=some r) :
    Ret P 117 #[s1,s3] w0 (G:=Value) (λg1=>g1) (λg1 w=>St w0 w noX [] [D g1 r]):=by
 unfold zfv at M; refine roW Tryz.func117 C C C (λa H=>?_); have X:St w0 w0 noX [E s1 x2,E s3 x4] []:=Sbw (lnc (lendRd h_s1) (lnc (lendRd h_s3) lnn)); refine sg (l:=[0]) C<|mv H C λa H=>nk<|sg (l:=[0,1,2,3]) C<|mv H C λa H=>ov (v:=I (x2.length:Int)) H C (Z.lenE (e:=90) (by simpa using zab) C (X.b 0 C)) λa H=>?_; obtain ⟨hg5,M⟩:=hm_g M; refine O.makeE (enc:=E90) (x0:=(0:Int)) H X C C zab zae za7 zaE C C C hg5 C E90_len C ?_; intro s6 w a X H; refine mv H C λa H=>nk<|sg (l:=[0]) C<|mv H C λa H=>nk<|?_; refine W.seqR (λa w=>∃ (x7:List Int),Fr a 40 [] [(4,.slice none 0 0),(5,s6)]∧St w0 w noX [E s1 x2,E s3 x4] [D s6 x7]∧zft F x7=some r) ?_ ?_
 ·refine sg (l:=[0,1,2]) C<|mv H C λa H=>ov (v:=I (x2.length:Int)) H C (Z.lenE (e:=90) (by simpa using zab) C (X.b 0 C)) λa H=>mv H C λa H=>nk<|?_; refine W.block<|W.loop (G:=Nat × (List Int) × Int × Int) (λg a w=>match g with | (k11,x8,x9,x10)=>Fr a 40 [] [(1,s3),(4,.slice none 0 0),(5,s6),(6,.int .u32 x9),(13,s1),(14,I (x2.length:Int)),(15,I x10)]∧St w0 w noX [E s1 x2,E s3 x4] [D s6 x8]∧zc7 F x2 x4 k11 x8 x9 x10=some r) (λg=>match g with | (k11,x8,x9,x10)=>k11) (F,List.replicate (Int.toNat (x2.length:Int)) (0:Int),0,0) ⟨H.q C,X,M⟩<|?_; clear H X M a; (try clear w); rintro ⟨k11,x8,x9,x10⟩ a w ⟨H,X,M⟩
  rcases k11 with _ | k11
  · nomatch M
  replace M:zfu F x2 x4 (zc7 F x2 x4 k11) x8 x9 x10=some r:=M; obtain ⟨rec11,hrec11⟩:∃ f,f=zc7 F x2 x4 k11:=⟨_,C⟩; rw [← hrec11] at M; unfold zfu at M; refine sg (l:=[0]) C<|ov H C (Z.lss C C) λa H=>nk<|W.seq<|?_; refine W.ifdI H C (λhc12=>?_) (λhc12=>?_)
  ·replace M:=hm_p M hc12; refine W.skip<|ksq<|W.seq<|W.block<|sg (l:=[0,1,2,3,4]) C<|mv H C λa H=>?_; refine hb M λx13 hx13 M=>ov H C (Z.ixE zab zae C C (X.b 0 C) hx13) λa H=>ov H C (Z.ldE1 (o:=0) zar E90_len C (X.b 0 C) hx13 C C) λa H=>mv2 H C C λa H=>nk<|sg (l:=[0]) C<|mv H C λa H=>nk<|?_; refine W.seqR (λa w=>∃ (x14:Int),Fr a 40 [] [(1,s3),(4,.slice none 0 0),(5,s6),(6,.int .u32 x9),(7,I x10),(8,.int .u32 x13),(9,.int .u32 x14),(13,s1),(14,I (x2.length:Int)),(15,I x10)]∧St w0 w noX [E s1 x2,E s3 x4] [D s6 x8]∧zd1 F x13 x9 x8 x10 rec11 x14=some r) ?_ ?_
   ·refine sg (l:=[0,1,2,3]) C<|mv2 H C C λa H=>ov (v:=I (x4.length:Int)) H C (Z.lenE (e:=90) (by simpa using zab) C (X.b 1 C)) λa H=>ov H C (Z.lss C C) λa H=>nk<|?_; refine W.ifdI H C (λhc17=>?_) (λhc17=>?_)
    ·replace M:=hm_p M hc17; refine wrL (l:=[0,1,2,3,4]) C<|mv2 H C C λa H=>?_; refine hb M λx18 hx18 M=>ov H C (Z.ixE zab zae C C (X.b 1 C) hx18) λa H=>ov H C (Z.ldE1 (o:=0) zar E90_len C (X.b 1 C) hx18 C C) λa H=>mv H C λa H=>O.nil<|?_; exact kth ⟨x18,H.q C,X,M⟩
    ·replace M:=hm_n M hc17; refine W.skip ?_; exact kth ⟨0,H.q C,X,M⟩
   ·clear H X M a; (try clear w); rintro a w ⟨x14,H,X,M⟩; unfold zd1 at M; refine wrL (l:=[0,1,2,3,4,5,6,7,8,9,10,11]) C<|mv2 H C C λa H=>mv2 H C C λa H=>mv H C λa H=>?_; refine hb M λx15 hx15 M=>oq H X C zia (zdB F x13 x14 x9 _ x15 hx15) ?_; rintro _ w X a H; refine mv H C λa H=>ex H C C C λa H=>ex H C C C λa H=>?_; refine hb M λx16 hx16 M=>ov H C (Z.ixE zab zae C C (X.s 0 C) hx16) λa H=>O.storeE (j:=0) (o:=0) (y0:=x15.1) (l':=x8.set (Int.toNat x10) x15.1) (M':=[D s6 (x8.set (Int.toNat x10) x15.1)]) H X C C C zae C C C E90_len hx16 C C C C<|?_; intro w X; refine mv H C λa H=>O.nil<|kbn<|ksq<|wrL (l:=[0,1]) C<|ov H C (Z.add C C) λa H=>mv H C λa H=>O.nil<|?_; refine kth ⟨(k11,x8.set (Int.toNat x10) x15.1,x15.2,i64.wrap (x10+1)),⟨H.q C,X,?_⟩,Nat.lt_succ_self _⟩; rw [hrec11] at M; exact M
  ·replace M:=hm_n M hc12; refine W.exit<|kte<|kte<|kbk<|?_; exact kth ⟨x8,H.q C,X,M⟩
 ·clear H X M a; (try clear w); rintro a w ⟨x7,H,X,M⟩; unfold zft at M; refine sg (l:=[0,1]) C<|mv2 H C C λa H=>nk<|W.ret<|?_; obtain rfl:=oj M; refine post1 H C (rkt C) ?_; exact ⟨s6,C,X.noB⟩
def zgy (F:Nat) (x1:Bool) (x3:List Int) (x4:Bool) (x6:List Int):Option (Bool × (List Int)) :=
  (zcx F x3 x6).bind λx10=>if (x1 == x4)=true then ((zf9 F x3 x6).bind λx12=>(zaK F x1 x12).bind λx14=>some x14) else (if x10≥(0:Int) then ((zfv F x3 x6).bind λx17=>(zaK F x1 x17).bind λx19=>some x19) else ((zfv F x6 x3).bind λx21=>(zaK F x4 x21).bind λx23=>some x23))
theorem zhz (F:Nat) (x1:Bool) (s2:Value) (x3:List Int) (x4:Bool) (s5:Value) (x6:List Int) (w0:World) (h_s2:rdEOK (hp w0) 1 E90 s2 x3) (h_s5:rdEOK (hp w0) 1 E90 s5 x6) (r:Bool × (List Int)) (M:zgy F x1 x3 x4 x6=some r) :
    Ret P 118 #[.agg #[B x1,s2],.agg #[B x4,s5]] w0 (G:=Value) (λg1=>.tuple #[.agg #[B r.1,g1],I 0]) (λg1 w=>St w0 w noX [] [D g1 r.2]):=by
 unfold zgy at M; refine roW Tryz.func118 C C C (λa H=>?_); have X:St w0 w0 noX [E s2 x3,E s5 x6] []:=Sbw (lnc (lendRd h_s2) (lnc (lendRd h_s5) lnn)); refine sg (l:=[0,1,2,3]) C<|O.box (cs:=#[B x1,s2]) H X C C C C<|?_; intro b7 w a hb7 X H; refine O.box (cs:=#[B x4,s5]) H X C C C C ?_; intro b8 w a hb8 X H; refine O.alloc (cs:=#[B false,.slice none 0 0]) H X C C zac C ?_; intro b9 w a hb9 X H; refine mv H C λa H=>nk<|W.seq<|sg (l:=[0,1,2,3,4,5]) C<|ov H C (Z.field zak C C) λa H=>ov (v:=s2) H C (Z.load1 zan C (X.p 2 C) C) λa H=>ov H C (Z.field zak C C) λa H=>ov (v:=s5) H C (Z.load1 zan C (X.p 1 C) C) λa H=>?_; refine hb M λx10 hx10 M=>oq H X C zhR (zdg F s2 x3 s5 x6 _ (X.b 0 C) (X.b 1 C) x10 hx10) ?_; rintro _ w X a H; refine mv H C λa H=>nk<|W.block<|sg (l:=[0,1,2,3,4,5]) C<|ov H C (Z.field zao C C) λa H=>ov H C (Z.load1 zav C (X.p 2 C) C) λa H=>ov H C (Z.field zao C C) λa H=>ov H C (Z.load1 zav C (X.p 1 C) C) λa H=>ov (v:=B (x1 == x4)) H C (Z.eqBool zfS C C) λa H=>mv H C λa H=>?_; refine nk ?_; refine W.if_ H C (λhc11=>?_) (λhc11=>?_)
 ·replace M:=hm_t M hc11; refine W.seq ?_; have J:Fr a 51 [] [(5,I 0)]:=H.q C; obtain ⟨x12,hx12,M⟩:=hm_b M; refine hb M λx14 hx14 M=>W.drawK (γ:=Value × Value) (L0:=[(2,Pv b7 0),(3,Pv b8 0),(4,Pv b9 0),(6,I x10),(12,B (x1 == x4))]) (L1:=[(5,I 0)]) (undef,undef) [6,7,10] [] [0,1,2,3,4,5,8,9,11] (λi=>match i with | 1=>[0] | 3=>[2] | 5=>[4] | 6=>[3,5] | 7=>[1,6] | 8=>[7] | 9=>[7] | 10=>[0,1,2,3,4,5,6,7,8,9] | 11=>[0,1,2,3,4,5,6,7,8,9,10] | _=>[]) (λ_=>[]) (λi=>match i with | 6=>[7,8,9,10,11] | 7=>[8,9,10,11] | 10=>[11] | _=>[]) (λ_=>[]) (λi=>match i with | 7=>1 | 8=>2 | 9=>2 | 10=>2 | 11=>3 | _=>0) (λi=>match i with | 0=>1 | 1=>1 | 6=>1 | 7=>2 | 8=>2 | 9=>2 | 10=>3 | 11=>3 | _=>0) (λ(g:Value × Value) j=>match j with | 0=>Pv b7 0 | 1=>B x1 | 2=>Pv b7 1 | 3=>s2 | 4=>Pv b8 1 | 5=>s5 | 6=>g.1 | 7=>.tuple #[.agg #[B x14.1,g.2],I 0] | 8=>.agg #[B x14.1,g.2] | 9=>I 0 | 11=>I 0 | _=>undef) (λk s (g:Value × Value) w=>match k with | 0=>St w0 w noX [E s2 x3,E s5 x6] [pt b9 (Cs #[B false,.slice none 0 0] 30),pW30 b8 x4 s5,pW30 b7 x1 s2] | 1=>St w0 w noX [E s2 x3,E s5 x6] [D g.1 x12,pt b9 (Cs #[B false,.slice none 0 0] 30),pW30 b8 x4 s5,pW30 b7 x1 s2] | 2=>St w0 w noX [E s2 x3,E s5 x6] [D g.2 x14.2,pt b9 (Cs #[B false,.slice none 0 0] 30),pW30 b8 x4 s5,pW30 b7 x1 s2] | _=>St w0 w noX [E s2 x3,E s5 x6] [D g.2 x14.2,pt b9 (Cs #[B x14.1,g.2] 30),pW30 b8 x4 s5,pW30 b7 x1 s2]) P_mixed (by kernel_rfl) (H.q C) J X.drew ?_ ?_ ?_ ?_
  ·clear H J X; refine ⟨λk s g w _ _ _ X a H=>Q.val (v:=Pv b7 0) C C C X H (Z.field zao C C),?_,λk s g w _ _ _ X a H=>Q.val (v:=Pv b7 1) C C C X H (Z.field zak C C),?_,λk s g w _ _ _ X a H=>Q.val (v:=Pv b8 1) C C C X H (Z.field zak C C),?_,λk s g w _ _ _ X a H=>Q.val (v:=.agg #[B x14.1,g.2]) C C C X H (Z.extract C C),λk s g w _ _ _ X a H=>Q.val (v:=I 0) C C C X H (Z.extract C C),λk s g w _ _ _ X a H=>Q.val (v:=I 0) C C C X H (Z.assign C),trivial⟩
   ·intro k s g w h1_ h2_ hsp X a H; obtain ⟨s13,s15⟩:=g
    rcases k with _ | _ | k
    ·exact Q.val (v:=B x1) C C C X H (Z.load1 zav C (X.p 2 C) C)
    ·exact Q.val (v:=B x1) C C C X H (Z.load1 zav C (X.p 3 C) C)
    ·simp at h2_
   ·intro k s g w h1_ h2_ hsp X a H; obtain ⟨s13,s15⟩:=g
    rcases k with _ | k
    ·exact Q.val (v:=s2) C C C X H (Z.load1 zan C (X.p 2 C) C)
    ·simp at h2_
   ·intro k s g w h1_ h2_ hsp X a H; obtain ⟨s13,s15⟩:=g
    rcases k with _ | k
    ·exact Q.val (v:=s5) C C C X H (Z.load1 zan C (X.p 1 C) C)
    ·simp at h2_
  ·clear H J X; refine ⟨?_,?_,?_,trivial⟩
   ·intro s g w hsp X a H; obtain ⟨s13,s15⟩:=g; refine oq H X C ziT (zha F s2 x3 s5 x6 _ (X.b 0 C) (X.b 1 C) x12 hx12) ?_; rintro s13 w X a H; exact nE 24 H (s13,s15) C C (jl 12 (by kernel_rfl) λ_=>C) X
   ·intro s g w hsp X a H; obtain ⟨s13,s15⟩:=g; refine oc H C zcw (zaH F x1 s13 x12 _ (X.slS (j:=0) C) x14 hx14) ?_; rintro s15 w Y a H; replace X:=X.cz Y 0 λ_ h=>h; exact nE 25 H (s13,s15) C C (jl 12 (by kernel_rfl) λ_=>C) X
   ·intro s g w hsp X a H; obtain ⟨s13,s15⟩:=g; refine ost 1 #[B x14.1,s15] H X C C C zaa C (occ C (occ (rdo (X.s 0 C)) C)) C (bl C) C ?_; intro w X; exact O.nil ⟨C,(s13,s15),H.to trivial,(λd hd=>by cases (show none=some d from hd)),(λ_ _ _=>C),X⟩
  ·clear H J X; exact trivial
  clear H J X; intro s g a w hs H X; obtain ⟨s13,s15⟩:=g; refine ksq<|W.ret<|kbr<|ktr<|?_; obtain rfl:=oj M; refine post2 H C (rkn (cs':=#[B x14.1,s15]) C zal zaa (X.p 1 C) (bl C) C) (rkt C) ?_; replace X:=X.sl [1]; exact ⟨s15,C,X.noB⟩
 ·replace M:=hm_f M hc11; refine sg (l:=[0,1,2]) C<|mv H C λa H=>ov H C (Z.geq C C) λa H=>mv H C λa H=>nk<|?_; refine W.ifdI H C (λhc16=>?_) (λhc16=>?_)
  ·replace M:=hm_p M hc16; refine W.seq ?_; have J:Fr a 51 [] [(5,I 0)]:=H.q C; obtain ⟨x17,hx17,M⟩:=hm_b M; refine hb M λx19 hx19 M=>W.drawK (γ:=Value × Value) (L0:=[(2,Pv b7 0),(3,Pv b8 0),(4,Pv b9 0),(28,B (decide (x10≥(0:Int))))]) (L1:=[(5,I 0)]) (undef,undef) [6,7,10] [] [0,1,2,3,4,5,8,9,11] (λi=>match i with | 1=>[0] | 3=>[2] | 5=>[4] | 6=>[3,5] | 7=>[1,6] | 8=>[7] | 9=>[7] | 10=>[0,1,2,3,4,5,6,7,8,9] | 11=>[0,1,2,3,4,5,6,7,8,9,10] | _=>[]) (λ_=>[]) (λi=>match i with | 6=>[7,8,9,10,11] | 7=>[8,9,10,11] | 10=>[11] | _=>[]) (λ_=>[]) (λi=>match i with | 7=>1 | 8=>2 | 9=>2 | 10=>2 | 11=>3 | _=>0) (λi=>match i with | 0=>1 | 1=>1 | 6=>1 | 7=>2 | 8=>2 | 9=>2 | 10=>3 | 11=>3 | _=>0) (λ(g:Value × Value) j=>match j with | 0=>Pv b7 0 | 1=>B x1 | 2=>Pv b7 1 | 3=>s2 | 4=>Pv b8 1 | 5=>s5 | 6=>g.1 | 7=>.tuple #[.agg #[B x19.1,g.2],I 0] | 8=>.agg #[B x19.1,g.2] | 9=>I 0 | 11=>I 0 | _=>undef) (λk s (g:Value × Value) w=>match k with | 0=>St w0 w noX [E s2 x3,E s5 x6] [pt b9 (Cs #[B false,.slice none 0 0] 30),pW30 b8 x4 s5,pW30 b7 x1 s2] | 1=>St w0 w noX [E s2 x3,E s5 x6] [D g.1 x17,pt b9 (Cs #[B false,.slice none 0 0] 30),pW30 b8 x4 s5,pW30 b7 x1 s2] | 2=>St w0 w noX [E s2 x3,E s5 x6] [D g.2 x19.2,pt b9 (Cs #[B false,.slice none 0 0] 30),pW30 b8 x4 s5,pW30 b7 x1 s2] | _=>St w0 w noX [E s2 x3,E s5 x6] [D g.2 x19.2,pt b9 (Cs #[B x19.1,g.2] 30),pW30 b8 x4 s5,pW30 b7 x1 s2]) P_mixed (by kernel_rfl) (H.q C) J X.drew ?_ ?_ ?_ ?_
   ·clear H J X; refine ⟨λk s g w _ _ _ X a H=>Q.val (v:=Pv b7 0) C C C X H (Z.field zao C C),?_,λk s g w _ _ _ X a H=>Q.val (v:=Pv b7 1) C C C X H (Z.field zak C C),?_,λk s g w _ _ _ X a H=>Q.val (v:=Pv b8 1) C C C X H (Z.field zak C C),?_,λk s g w _ _ _ X a H=>Q.val (v:=.agg #[B x19.1,g.2]) C C C X H (Z.extract C C),λk s g w _ _ _ X a H=>Q.val (v:=I 0) C C C X H (Z.extract C C),λk s g w _ _ _ X a H=>Q.val (v:=I 0) C C C X H (Z.assign C),trivial⟩
    ·intro k s g w h1_ h2_ hsp X a H; obtain ⟨s18,s20⟩:=g
     rcases k with _ | _ | k
     ·exact Q.val (v:=B x1) C C C X H (Z.load1 zav C (X.p 2 C) C)
     ·exact Q.val (v:=B x1) C C C X H (Z.load1 zav C (X.p 3 C) C)
     ·simp at h2_
    ·intro k s g w h1_ h2_ hsp X a H; obtain ⟨s18,s20⟩:=g
     rcases k with _ | k
     ·exact Q.val (v:=s2) C C C X H (Z.load1 zan C (X.p 2 C) C)
     ·simp at h2_
    ·intro k s g w h1_ h2_ hsp X a H; obtain ⟨s18,s20⟩:=g
     rcases k with _ | k
     ·exact Q.val (v:=s5) C C C X H (Z.load1 zan C (X.p 1 C) C)
     ·simp at h2_
   ·clear H J X; refine ⟨?_,?_,?_,trivial⟩
    ·intro s g w hsp X a H; obtain ⟨s18,s20⟩:=g; refine oq H X C ziU (zgT F s2 x3 s5 x6 _ (X.b 0 C) (X.b 1 C) x17 hx17) ?_; rintro s18 w X a H; exact nE 37 H (s18,s20) C C (jl 12 (by kernel_rfl) λ_=>C) X
    ·intro s g w hsp X a H; obtain ⟨s18,s20⟩:=g; refine oc H C zcw (zaH F x1 s18 x17 _ (X.slS (j:=0) C) x19 hx19) ?_; rintro s20 w Y a H; replace X:=X.cz Y 0 λ_ h=>h; exact nE 38 H (s18,s20) C C (jl 12 (by kernel_rfl) λ_=>C) X
    ·intro s g w hsp X a H; obtain ⟨s18,s20⟩:=g; refine ost 1 #[B x19.1,s20] H X C C C zaa C (occ C (occ (rdo (X.s 0 C)) C)) C (bl C) C ?_; intro w X; exact O.nil ⟨C,(s18,s20),H.to trivial,(λd hd=>by cases (show none=some d from hd)),(λ_ _ _=>C),X⟩
   ·clear H J X; exact trivial
   clear H J X; intro s g a w hs H X; obtain ⟨s18,s20⟩:=g; refine ksq<|W.ret<|kbr<|ktr<|?_; obtain rfl:=oj M; refine post2 H C (rkn (cs':=#[B x19.1,s20]) C zal zaa (X.p 1 C) (bl C) C) (rkt C) ?_; replace X:=X.sl [1]; exact ⟨s20,C,X.noB⟩
  ·replace M:=hm_n M hc16; refine W.skip<|kbn<|ksq<|W.seq<|?_; have J:Fr a 51 [] [(5,I 0)]:=H.q C; obtain ⟨x21,hx21,M⟩:=hm_b M; refine hb M λx23 hx23 M=>W.drawK (γ:=Value × Value) (L0:=[(2,Pv b7 0),(3,Pv b8 0),(4,Pv b9 0)]) (L1:=[(5,I 0)]) (undef,undef) [6,7,10] [] [0,1,2,3,4,5,8,9,11] (λi=>match i with | 1=>[0] | 3=>[2] | 5=>[4] | 6=>[3,5] | 7=>[1,6] | 8=>[7] | 9=>[7] | 10=>[0,1,2,3,4,5,6,7,8,9] | 11=>[0,1,2,3,4,5,6,7,8,9,10] | _=>[]) (λ_=>[]) (λi=>match i with | 6=>[7,8,9,10,11] | 7=>[8,9,10,11] | 10=>[11] | _=>[]) (λ_=>[]) (λi=>match i with | 7=>1 | 8=>2 | 9=>2 | 10=>2 | 11=>3 | _=>0) (λi=>match i with | 0=>1 | 1=>1 | 6=>1 | 7=>2 | 8=>2 | 9=>2 | 10=>3 | 11=>3 | _=>0) (λ(g:Value × Value) j=>match j with | 0=>Pv b8 0 | 1=>B x4 | 2=>Pv b8 1 | 3=>s5 | 4=>Pv b7 1 | 5=>s2 | 6=>g.1 | 7=>.tuple #[.agg #[B x23.1,g.2],I 0] | 8=>.agg #[B x23.1,g.2] | 9=>I 0 | 11=>I 0 | _=>undef) (λk s (g:Value × Value) w=>match k with | 0=>St w0 w noX [E s2 x3,E s5 x6] [pt b9 (Cs #[B false,.slice none 0 0] 30),pW30 b8 x4 s5,pW30 b7 x1 s2] | 1=>St w0 w noX [E s2 x3,E s5 x6] [D g.1 x21,pt b9 (Cs #[B false,.slice none 0 0] 30),pW30 b8 x4 s5,pW30 b7 x1 s2] | 2=>St w0 w noX [E s2 x3,E s5 x6] [D g.2 x23.2,pt b9 (Cs #[B false,.slice none 0 0] 30),pW30 b8 x4 s5,pW30 b7 x1 s2] | _=>St w0 w noX [E s2 x3,E s5 x6] [D g.2 x23.2,pt b9 (Cs #[B x23.1,g.2] 30),pW30 b8 x4 s5,pW30 b7 x1 s2]) P_mixed (by kernel_rfl) (H.q C) J X.drew ?_ ?_ ?_ ?_
   ·clear H J X; refine ⟨λk s g w _ _ _ X a H=>Q.val (v:=Pv b8 0) C C C X H (Z.field zao C C),?_,λk s g w _ _ _ X a H=>Q.val (v:=Pv b8 1) C C C X H (Z.field zak C C),?_,λk s g w _ _ _ X a H=>Q.val (v:=Pv b7 1) C C C X H (Z.field zak C C),?_,λk s g w _ _ _ X a H=>Q.val (v:=.agg #[B x23.1,g.2]) C C C X H (Z.extract C C),λk s g w _ _ _ X a H=>Q.val (v:=I 0) C C C X H (Z.extract C C),λk s g w _ _ _ X a H=>Q.val (v:=I 0) C C C X H (Z.assign C),trivial⟩
    ·intro k s g w h1_ h2_ hsp X a H; obtain ⟨s22,s24⟩:=g
     rcases k with _ | _ | k
     ·exact Q.val (v:=B x4) C C C X H (Z.load1 zav C (X.p 1 C) C)
     ·exact Q.val (v:=B x4) C C C X H (Z.load1 zav C (X.p 2 C) C)
     ·simp at h2_
    ·intro k s g w h1_ h2_ hsp X a H; obtain ⟨s22,s24⟩:=g
     rcases k with _ | k
     ·exact Q.val (v:=s5) C C C X H (Z.load1 zan C (X.p 1 C) C)
     ·simp at h2_
    ·intro k s g w h1_ h2_ hsp X a H; obtain ⟨s22,s24⟩:=g
     rcases k with _ | k
     ·exact Q.val (v:=s2) C C C X H (Z.load1 zan C (X.p 2 C) C)
     ·simp at h2_
   ·clear H J X; refine ⟨?_,?_,?_,trivial⟩
    ·intro s g w hsp X a H; obtain ⟨s22,s24⟩:=g; refine oq H X C ziU (zgT F s5 x6 s2 x3 _ (X.b 1 C) (X.b 0 C) x21 hx21) ?_; rintro s22 w X a H; exact nE 47 H (s22,s24) C C (jl 12 (by kernel_rfl) λ_=>C) X
    ·intro s g w hsp X a H; obtain ⟨s22,s24⟩:=g; refine oc H C zcw (zaH F x4 s22 x21 _ (X.slS (j:=0) C) x23 hx23) ?_; rintro s24 w Y a H; replace X:=X.cz Y 0 λ_ h=>h; exact nE 48 H (s22,s24) C C (jl 12 (by kernel_rfl) λ_=>C) X
    ·intro s g w hsp X a H; obtain ⟨s22,s24⟩:=g; refine ost 1 #[B x23.1,s24] H X C C C zaa C (occ C (occ (rdo (X.s 0 C)) C)) C (bl C) C ?_; intro w X; exact O.nil ⟨C,(s22,s24),H.to trivial,(λd hd=>by cases (show none=some d from hd)),(λ_ _ _=>C),X⟩
   ·clear H J X; exact trivial
   clear H J X; intro s g a w hs H X; obtain ⟨s22,s24⟩:=g; refine ksq ?_; replace X:=X.sl [1,1]; refine W.ret ?_; obtain rfl:=oj M; refine post2 H C (rkn (cs':=#[B x23.1,s24]) C zal zaa (X.p 1 C) (bl C) C) (rkt C) ?_; replace X:=X.sl [1]; exact ⟨s24,C,X.noB⟩
def zez (F:Nat) (x1:Bool) (x3:List Int) (x4:Bool) (x6:List Int):Option (Bool × (List Int)) :=
  (zbx F x1 x3 x4 x6).bind λx11=>(zgy F x1 x3 (!x4) x6).bind λx12=>some x12
theorem zeV (F:Nat) (x1:Bool) (s2:Value) (x3:List Int) (x4:Bool) (s5:Value) (x6:List Int) (w0:World) (h_s2:rdEOK (hp w0) 1 E90 s2 x3) (h_s5:rdEOK (hp w0) 1 E90 s5 x6) (r:Bool × (List Int)) (M:zez F x1 x3 x4 x6=some r) :
    Ret P 80 #[.agg #[B x1,s2],.agg #[B x4,s5]] w0 (G:=Value) (λg1=>.tuple #[.agg #[B r.1,g1],I 0]) (λg1 w=>St w0 w noX [] [D g1 r.2]):=by
 unfold zez at M; refine roW Tryz.func80 C C C (λa H=>?_); have X:St w0 w0 noX [E s2 x3,E s5 x6] []:=Sbw (lnc (lendRd h_s2) (lnc (lendRd h_s5) lnn)); refine sg (l:=[0,1,2,3]) C<|O.box (cs:=#[B x1,s2]) H X C C C C<|?_; intro b7 w a hb7 X H; refine O.box (cs:=#[B x4,s5]) H X C C C C ?_; intro b8 w a hb8 X H; refine O.alloc (cs:=#[B false,.slice none 0 0]) H X C C zac C ?_; intro b9 w a hb9 X H; refine mv H C λa H=>nk<|W.seq<|sg (l:=[0,1,2,3,4]) C<|ov H C (lN (cs':=#[B x1,s2]) A_30 C (X.p 2 C) C C) λa H=>ov H C (lN (cs':=#[B x4,s5]) A_30 C (X.p 1 C) C C) λa H=>O.buildSlice (cs':=#[B x1,s2,B x4,s5]) (zs:=#[B false,.slice none 0 0,B false,.slice none 0 0]) H X C C zaX zaa zac C C C C C<|?_; intro b10 w a hb10 X H; refine hb M λx11 hx11 M=>oq H X C zcQ (zbG F b10 x1 s2 x3 x4 s5 x6 _ (X.b 0 C) (X.b 1 C) (X.p 0 C) x11 hx11) ?_; rintro _ w X a H; refine mv H C λa H=>nk<|?_; replace X:=X.sl [0,1,1,1]; refine sg (l:=[0,1]) C<|mv H C λa H=>ov H C (Z.neq (p:=0) (q:=0) C C) λa H=>nk<|W.if_ff H C<|W.skip<|ksq<|sg (l:=[0,1,2,3,4]) C<|ov H C (Z.field zao C C) λa H=>ov H C (Z.load1 zav C (X.p 1 C) C) λa H=>?_; refine ov H C (Z.not C) λa H=>ov H C (Z.field zao C C) λa H=>ost 1 #[B (!x4),s5] H X C C C zj0 C C C (bl C) C<|?_; intro w X; refine nk<|sg (l:=[0,1,2,3,4,5,6]) C<|ov H C (lN (cs':=#[B x1,s2]) A_30 C (X.p 2 C) C C) λa H=>ov H C (lN (cs':=#[B (!x4),s5]) A_30 C (X.p 1 C) C C) λa H=>?_; refine hb M λx12 hx12 M=>oq H X C ziV (zhz F x1 s2 x3 (!x4) s5 x6 _ (X.b 0 C) (X.b 1 C) x12 hx12) ?_; rintro s13 w X a H; refine ex H C C C λa H=>ex H C C C λa H=>ost 1 #[B x12.1,s13] H X C C C zaa C (occ C (occ (rdo (X.s 0 C)) C)) C (bl C) C<|?_; intro w X; refine mv H C λa H=>nk<|?_; replace X:=X.sl [1,1]; refine W.ret ?_; obtain rfl:=oj M; refine post2 H C (rkn (cs':=#[B x12.1,s13]) C zal zaa (X.p 1 C) (bl C) C) (rkt C) ?_; replace X:=X.sl [1]; exact ⟨s13,C,X.noB⟩
def zeA (F:Nat) (x1:Bool) (x3:List Int) (x4:Bool) (x6:List Int):Option (Bool × (List Int)) :=
  (zbx F x1 x3 x4 x6).bind λx11=>(zgy F x1 x3 x4 x6).bind λx12=>some x12
theorem zeW (F:Nat) (x1:Bool) (s2:Value) (x3:List Int) (x4:Bool) (s5:Value) (x6:List Int) (w0:World) (h_s2:rdEOK (hp w0) 1 E90 s2 x3) (h_s5:rdEOK (hp w0) 1 E90 s5 x6) (r:Bool × (List Int)) (M:zeA F x1 x3 x4 x6=some r) :
    Ret P 81 #[.agg #[B x1,s2],.agg #[B x4,s5]] w0 (G:=Value) (λg1=>.tuple #[.agg #[B r.1,g1],I 0]) (λg1 w=>St w0 w noX [] [D g1 r.2]):=by
 unfold zeA at M; refine roW Tryz.func81 C C C (λa H=>?_); have X:St w0 w0 noX [E s2 x3,E s5 x6] []:=Sbw (lnc (lendRd h_s2) (lnc (lendRd h_s5) lnn)); refine sg (l:=[0,1,2,3]) C<|O.box (cs:=#[B x1,s2]) H X C C C C<|?_; intro b7 w a hb7 X H; refine O.box (cs:=#[B x4,s5]) H X C C C C ?_; intro b8 w a hb8 X H; refine O.alloc (cs:=#[B false,.slice none 0 0]) H X C C zac C ?_; intro b9 w a hb9 X H; refine mv H C λa H=>nk<|W.seq<|sg (l:=[0,1,2,3,4]) C<|ov H C (lN (cs':=#[B x1,s2]) A_30 C (X.p 2 C) C C) λa H=>ov H C (lN (cs':=#[B x4,s5]) A_30 C (X.p 1 C) C C) λa H=>O.buildSlice (cs':=#[B x1,s2,B x4,s5]) (zs:=#[B false,.slice none 0 0,B false,.slice none 0 0]) H X C C zaX zaa zac C C C C C<|?_; intro b10 w a hb10 X H; refine hb M λx11 hx11 M=>oq H X C zcQ (zbG F b10 x1 s2 x3 x4 s5 x6 _ (X.b 0 C) (X.b 1 C) (X.p 0 C) x11 hx11) ?_; rintro _ w X a H; refine mv H C λa H=>nk<|?_; replace X:=X.sl [0,1,1,1]; refine sg (l:=[0,1]) C<|mv H C λa H=>ov H C (Z.neq (p:=0) (q:=0) C C) λa H=>nk<|W.if_ff H C<|W.skip<|ksq<|sg (l:=[0,1,2,3,4,5,6]) C<|ov H C (lN (cs':=#[B x1,s2]) A_30 C (X.p 2 C) C C) λa H=>ov H C (lN (cs':=#[B x4,s5]) A_30 C (X.p 1 C) C C) λa H=>?_; refine hb M λx12 hx12 M=>oq H X C ziV (zhz F x1 s2 x3 x4 s5 x6 _ (X.b 0 C) (X.b 1 C) x12 hx12) ?_; rintro s13 w X a H; refine ex H C C C λa H=>ex H C C C λa H=>ost 1 #[B x12.1,s13] H X C C C zaa C (occ C (occ (rdo (X.s 0 C)) C)) C (bl C) C<|?_; intro w X; refine mv H C λa H=>nk<|?_; replace X:=X.sl [1,1]; refine W.ret ?_; obtain rfl:=oj M; refine post2 H C (rkn (cs':=#[B x12.1,s13]) C zal zaa (X.p 1 C) (bl C) C) (rkt C) ?_; replace X:=X.sl [1]; exact ⟨s13,C,X.noB⟩
def zdX (F:Nat) (x1 x2:Int):Option Unit :=
  if ((decide (x1<(-2305843009213693952:Int)))||(decide (x2>(2305843009213693952:Int))))=true then (none) else (some ())
theorem zeB (F:Nat) (x1 x2:Int) (w0:World) (r:Unit) (M:zdX F x1 x2=some r) :
    Ret P 82 #[I x1,I x2] w0 (G:=Unit) (λ_=>.tuple #[.agg #[I x1,I x2],I 0]) (λ_ w=>St w0 w noX [] []):=by
 unfold zdX at M; refine roW Tryz.func82 C C C (λa H=>?_); have X:St w0 w0 noX [] []:=Sbw lnn; refine sg (l:=[0,1]) C<|O.alloc (cs:=#[I 0,I 0]) H X C C zaq C<|?_; intro b3 w a hb3 X H; refine mv H C λa H=>nk<|W.seq<|sg (l:=[0,1,2,3,4,5]) C<|mv H C λa H=>ov H C (Z.lss C C) λa H=>mv H C λa H=>?_; refine O.cutN (l₁:=[3,4,5]) (l₂:=_) (λa w=>Fr a 16 [] [(0,I x1),(1,I x2),(4,Pv b3 0),(5,I 0),(11,B ((decide (x1<(-2305843009213693952:Int)))||(decide (x2>(2305843009213693952:Int)))))]∧St w0 w noX [] [pJ101 b3 0 0]) C ?_ ?_
 ·rcases Bool.eq_false_or_eq_true (decide (x1<(-2305843009213693952:Int))) with hb4 | hb4
  ·refine sk H C hb4 λa H=>sk H C hb4 λa H=>?_; refine ov (v:=B ((decide (x1<(-2305843009213693952:Int)))||(decide (x2>(2305843009213693952:Int))))) H C (Z.pick C C C (by rw [hb4]; rfl)) ?_; clear H a; intro a H; exact O.nil ⟨C,H.q C,X⟩
  ·refine og H C hb4 (Z.move C) λa H=>og H C hb4 (Z.gtr C C) λa H=>?_; refine ov (v:=B ((decide (x1<(-2305843009213693952:Int)))||(decide (x2>(2305843009213693952:Int))))) H C (Z.pick C C C (by rw [hb4]; rfl)) ?_; clear H a; intro a H; exact O.nil ⟨C,H.q C,X⟩
 clear H X a; (try clear w); rintro a w ⟨H,X⟩; refine nk ?_; refine W.if_ H C (λhc5=>?_) (λhc5=>?_)
 ·nomatch hm_t M hc5
 ·replace M:=hm_f M hc5; refine W.skip<|ksq<|sg (l:=[0,1,2,3,4]) C<|mv2 H C C λa H=>ov (v:=.agg #[I x1,I x2]) H C (Z.buildS (cs':=#[I x1,I x2]) zee zaq C (by kernel_rfl)) λa H=>ost 0 #[I x1,I x2] H X C C C zai C C C (bl C) C<|?_; intro w X; refine mv H C λa H=>nk<|W.ret<|?_; obtain rfl:=oj M; refine post2 H C (rkn (cs':=#[I x1,I x2]) C zbg zai (X.p 0 C) (bl C) C) (rkt C) ?_; replace X:=X.s0; exact ⟨(),C,X.noB⟩
def zgK (F:Nat) (x20:Bool) (x22:List Int) (x23:Int):Option (Int × Int × Int) :=
  if (x22.length:Int)>(0:Int) then (none) else ((zdX F x23 x23).bind λx25=>some (x23,x23,0))
def zfw (F:Nat) (rec31:Bool→(List Int)→Int→Int→Option (Int × Int × Int)) (x30:Int) (x33:Bool) (x35:List Int) (x36:Int):Option (Int × Int × Int) :=
  rec31 x33 x35 x36 (i64.wrap (x30-1))
end Go.Proofs.YthfhopkibabfhaaGreatDoor
