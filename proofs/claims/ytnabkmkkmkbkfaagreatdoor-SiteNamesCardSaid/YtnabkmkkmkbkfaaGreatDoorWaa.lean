/- Part of a proof: walks printed by a program. -/
import Derived.Test.YtnabkmkkmkbkfaaGreatDoorSL27
import Derived.Test.YtnabkmkkmkbkfaaGreatDoorSLx
import Derived.Test.YtnabkmkkmkbkfaaGreatDoorProg
set_option linter.unusedVariables false
set_option linter.unusedSimpArgs false
set_option maxHeartbeats 1000000
set_option maxRecDepth 8000
namespace Go.Proofs.YtnabkmkkmkbkfaaGreatDoor
open Go Go.SL Go.IntKind
theorem C {α:Sort _} {a:α}:a=a:=rfl
def strc1:ByteArray:=⟨((([0,1,2,2,3,3,3,3,4,4,4,4,4,4,4,4,5,5,5,5,5,5,5,5,5,5,5,5,5,5,5,5,6,6,6,6,6,6,6,6,6,6,6,6,6,6,6,6,6,6,6,6,6,6,6,6,6,6,6,6,6,6,6,6]++[7,7,7,7,7,7,7,7,7,7,7,7,7,7,7,7,7,7,7,7,7,7,7,7,7,7,7,7,7,7,7,7,7,7,7,7,7,7,7,7,7,7,7,7,7,7,7,7,7,7,7,7,7,7,7,7,7,7,7,7,7,7,7,7])++([8,8,8,8,8,8,8,8,8,8,8,8,8,8,8,8,8,8,8,8,8,8,8,8,8,8,8,8,8,8,8,8,8,8,8,8,8,8,8,8,8,8,8,8,8,8,8,8,8,8,8,8,8,8,8,8,8,8,8,8,8,8,8,8]++[8,8,8,8,8,8,8,8,8,8,8,8,8,8,8,8,8,8,8,8,8,8,8,8,8,8,8,8,8,8,8,8,8,8,8,8,8,8,8,8,8,8,8,8,8,8,8,8,8,8,8,8,8,8,8,8,8,8,8,8,8,8,8,8])):List UInt8).toArray⟩
def strc2:ByteArray:=⟨#[]⟩
theorem zhN:cOK Tryz.prog 100=true:=by kernel_rfl
theorem zhO:cOK Tryz.prog 101=true:=by kernel_rfl
theorem zhP:cOK Tryz.prog 102=true:=by kernel_rfl
theorem zji:cOK Tryz.prog 103=true:=by kernel_rfl
theorem zjj:cOK Tryz.prog 105=true:=by kernel_rfl
theorem zhQ:cOK Tryz.prog 106=true:=by kernel_rfl
theorem zhR:cOK Tryz.prog 107=true:=by kernel_rfl
theorem zjk:cOK Tryz.prog 108=true:=by kernel_rfl
theorem zdm:cOK Tryz.prog 109=true:=by kernel_rfl
theorem zhS:cOK Tryz.prog 113=true:=by kernel_rfl
theorem ziI:cOK Tryz.prog 114=true:=by kernel_rfl
theorem zjl:cOK Tryz.prog 115=true:=by kernel_rfl
theorem zjm:cOK Tryz.prog 116=true:=by kernel_rfl
theorem zjn:cOK Tryz.prog 117=true:=by kernel_rfl
theorem zjo:cOK Tryz.prog 118=true:=by kernel_rfl
theorem ziJ:cOK Tryz.prog 120=true:=by kernel_rfl
theorem zd7:cOK Tryz.prog 121=true:=by kernel_rfl
theorem zdn:cOK Tryz.prog 122=true:=by kernel_rfl
theorem zbg:cOK Tryz.prog 123=true:=by kernel_rfl
theorem zjp:cOK Tryz.prog 124=true:=by kernel_rfl
theorem zjq:cOK Tryz.prog 125=true:=by kernel_rfl
theorem zjr:cOK Tryz.prog 126=true:=by kernel_rfl
theorem zjs:cOK Tryz.prog 128=true:=by kernel_rfl
theorem zjt:cOK Tryz.prog 129=true:=by kernel_rfl
theorem ziK:cOK Tryz.prog 130=true:=by kernel_rfl
theorem zju:cOK Tryz.prog 131=true:=by kernel_rfl
theorem zhT:cOK Tryz.prog 133=true:=by kernel_rfl
theorem ziL:cOK Tryz.prog 134=true:=by kernel_rfl
theorem zjv:cOK Tryz.prog 135=true:=by kernel_rfl
theorem zjw:cOK Tryz.prog 136=true:=by kernel_rfl
theorem zjR:cOK Tryz.prog 14=true:=by kernel_rfl
theorem zhU:cOK Tryz.prog 141=true:=by kernel_rfl
theorem zjx:cOK Tryz.prog 142=true:=by kernel_rfl
theorem zhV:cOK Tryz.prog 143=true:=by kernel_rfl
theorem zeU:cOK Tryz.prog 144=true:=by kernel_rfl
theorem zeV:cOK Tryz.prog 145=true:=by kernel_rfl
theorem zcw:cOK Tryz.prog 146=true:=by kernel_rfl
theorem zgq:cOK Tryz.prog 147=true:=by kernel_rfl
theorem zgr:cOK Tryz.prog 148=true:=by kernel_rfl
theorem zjy:cOK Tryz.prog 149=true:=by kernel_rfl
theorem ziY:cOK Tryz.prog 15=true:=by kernel_rfl
theorem zjz:cOK Tryz.prog 150=true:=by kernel_rfl
theorem zjA:cOK Tryz.prog 151=true:=by kernel_rfl
theorem zg2:cOK Tryz.prog 152=true:=by kernel_rfl
theorem zd8:cOK Tryz.prog 153=true:=by kernel_rfl
theorem ziM:cOK Tryz.prog 154=true:=by kernel_rfl
theorem zhW:cOK Tryz.prog 155=true:=by kernel_rfl
theorem zg3:cOK Tryz.prog 156=true:=by kernel_rfl
theorem zeW:cOK Tryz.prog 157=true:=by kernel_rfl
theorem zhX:cOK Tryz.prog 158=true:=by kernel_rfl
theorem zjB:cOK Tryz.prog 159=true:=by kernel_rfl
theorem zfe:cOK Tryz.prog 16=true:=by kernel_rfl
theorem zjC:cOK Tryz.prog 160=true:=by kernel_rfl
theorem zjD:cOK Tryz.prog 161=true:=by kernel_rfl
theorem zjE:cOK Tryz.prog 162=true:=by kernel_rfl
theorem ziN:cOK Tryz.prog 164=true:=by kernel_rfl
theorem ziO:cOK Tryz.prog 165=true:=by kernel_rfl
theorem zjF:cOK Tryz.prog 166=true:=by kernel_rfl
theorem zjG:cOK Tryz.prog 167=true:=by kernel_rfl
theorem zjH:cOK Tryz.prog 168=true:=by kernel_rfl
theorem ziP:cOK Tryz.prog 169=true:=by kernel_rfl
theorem zdU:cOK Tryz.prog 17=true:=by kernel_rfl
theorem ziQ:cOK Tryz.prog 170=true:=by kernel_rfl
theorem zd9:cOK Tryz.prog 171=true:=by kernel_rfl
theorem ziR:cOK Tryz.prog 172=true:=by kernel_rfl
theorem zjI:cOK Tryz.prog 173=true:=by kernel_rfl
theorem zjJ:cOK Tryz.prog 174=true:=by kernel_rfl
theorem zhY:cOK Tryz.prog 175=true:=by kernel_rfl
theorem zjK:cOK Tryz.prog 176=true:=by kernel_rfl
theorem zjL:cOK Tryz.prog 177=true:=by kernel_rfl
theorem zg4:cOK Tryz.prog 178=true:=by kernel_rfl
theorem zjM:cOK Tryz.prog 179=true:=by kernel_rfl
theorem zgU:cOK Tryz.prog 18=true:=by kernel_rfl
theorem zgm:cOK Tryz.prog 19=true:=by kernel_rfl
theorem zij:cOK Tryz.prog 20=true:=by kernel_rfl
theorem zjS:cOK Tryz.prog 35=true:=by kernel_rfl
theorem zdV:cOK Tryz.prog 43=true:=by kernel_rfl
theorem zcK:cOK Tryz.prog 44=true:=by kernel_rfl
theorem zjT:cOK Tryz.prog 45=true:=by kernel_rfl
theorem ziZ:cOK Tryz.prog 46=true:=by kernel_rfl
theorem zhF:cOK Tryz.prog 47=true:=by kernel_rfl
theorem zi0:cOK Tryz.prog 48=true:=by kernel_rfl
theorem zjU:cOK Tryz.prog 49=true:=by kernel_rfl
theorem zi1:cOK Tryz.prog 52=true:=by kernel_rfl
theorem zik:cOK Tryz.prog 53=true:=by kernel_rfl
theorem zjV:cOK Tryz.prog 58=true:=by kernel_rfl
theorem zjW:cOK Tryz.prog 59=true:=by kernel_rfl
theorem zjX:cOK Tryz.prog 60=true:=by kernel_rfl
theorem zjY:cOK Tryz.prog 61=true:=by kernel_rfl
theorem zi2:cOK Tryz.prog 62=true:=by kernel_rfl
theorem zhG:cOK Tryz.prog 63=true:=by kernel_rfl
theorem zjZ:cOK Tryz.prog 64=true:=by kernel_rfl
theorem zfB:cOK Tryz.prog 65=true:=by kernel_rfl
theorem zb0:cOK Tryz.prog 66=true:=by kernel_rfl
theorem zgn:cOK Tryz.prog 67=true:=by kernel_rfl
theorem zfC:cOK Tryz.prog 68=true:=by kernel_rfl
theorem zgo:cOK Tryz.prog 69=true:=by kernel_rfl
theorem zil:cOK Tryz.prog 70=true:=by kernel_rfl
theorem zj0:cOK Tryz.prog 71=true:=by kernel_rfl
theorem zj1:cOK Tryz.prog 72=true:=by kernel_rfl
theorem zbR:cOK Tryz.prog 73=true:=by kernel_rfl
theorem zi3:cOK Tryz.prog 74=true:=by kernel_rfl
theorem zi4:cOK Tryz.prog 75=true:=by kernel_rfl
theorem zi5:cOK Tryz.prog 76=true:=by kernel_rfl
theorem zgp:cOK Tryz.prog 81=true:=by kernel_rfl
theorem zhH:cOK Tryz.prog 82=true:=by kernel_rfl
theorem zfD:cOK Tryz.prog 83=true:=by kernel_rfl
theorem zj2:cOK Tryz.prog 84=true:=by kernel_rfl
theorem zj3:cOK Tryz.prog 85=true:=by kernel_rfl
theorem zim:cOK Tryz.prog 86=true:=by kernel_rfl
theorem zj4:cOK Tryz.prog 87=true:=by kernel_rfl
theorem zi6:cOK Tryz.prog 88=true:=by kernel_rfl
theorem zj5:cOK Tryz.prog 89=true:=by kernel_rfl
theorem zin:cOK Tryz.prog 90=true:=by kernel_rfl
theorem zio:cOK Tryz.prog 91=true:=by kernel_rfl
theorem zj6:cOK Tryz.prog 92=true:=by kernel_rfl
theorem zi7:cOK Tryz.prog 93=true:=by kernel_rfl
theorem zi8:cOK Tryz.prog 94=true:=by kernel_rfl
theorem zj7:cOK Tryz.prog 95=true:=by kernel_rfl
theorem zj8:cOK Tryz.prog 96=true:=by kernel_rfl
theorem P_mixed:Tryz.prog.follows .mixedOrders=true:=by kernel_rfl
theorem za5:tAgg Tryz.prog 109=some false:=by kernel_rfl
theorem zba:tAgg Tryz.prog 114=some true:=by kernel_rfl
theorem zdk:tAgg Tryz.prog 145=some true:=by kernel_rfl
theorem za6:tAgg Tryz.prog 157=some true:=by kernel_rfl
theorem zae:tAgg Tryz.prog 2=some false:=by kernel_rfl
theorem zb5:tAgg Tryz.prog 22=some false:=by kernel_rfl
theorem zbf:tAgg Tryz.prog 3=some false:=by kernel_rfl
theorem zaJ:tAgg Tryz.prog 30=some true:=by kernel_rfl
theorem zea:tAgg Tryz.prog 32=some true:=by kernel_rfl
theorem zaC:tAgg Tryz.prog 4=some false:=by kernel_rfl
theorem zfE:tAgg Tryz.prog 41=some false:=by kernel_rfl
theorem zjN:tAgg Tryz.prog 42=some true:=by kernel_rfl
theorem zar:tAgg Tryz.prog 54=some false:=by kernel_rfl
theorem zao:tAgg Tryz.prog 56=some true:=by kernel_rfl
theorem zby:tAgg Tryz.prog 91=some false:=by kernel_rfl
theorem zaD:tAgg Tryz.prog 92=some false:=by kernel_rfl
theorem zdl:tArr Tryz.prog 121=some (4,114):=by kernel_rfl
theorem zfY:tArr Tryz.prog 206=some (2,56):=by kernel_rfl
theorem zaF:tArr Tryz.prog 32=some (3,30):=by kernel_rfl
theorem zhZ:tArr Tryz.prog 42=some (3,41):=by kernel_rfl
theorem zfF:tArr Tryz.prog 52=some (2,2):=by kernel_rfl
theorem zg5:Tryz.prog.underlying 4=some .bool:=by kernel_rfl
theorem zbV:tBytes Tryz.prog 92=some 4:=by kernel_rfl
theorem za3:tElem Tryz.prog 123=some 114:=by kernel_rfl
theorem za7:tElem Tryz.prog 128=some 56:=by kernel_rfl
theorem zbn:tElem Tryz.prog 163=some 30:=by kernel_rfl
theorem zhv:tElem Tryz.prog 41=some 2:=by kernel_rfl
theorem zad:tElem Tryz.prog 54=some 92:=by kernel_rfl
theorem ziv:Tryz.prog.eqGuardType Tryz.prog.depth 114=false:=by kernel_rfl
theorem zeR:tField Tryz.prog 111 0=some 0:=by kernel_rfl
theorem zdJ:tField Tryz.prog 111 2=some 2:=by kernel_rfl
theorem zbo:tField Tryz.prog 111 4=some 4:=by kernel_rfl
theorem zaT:tField Tryz.prog 114 0=some 0:=by kernel_rfl
theorem zcL:tField Tryz.prog 114 1=some 1:=by kernel_rfl
theorem zaB:tField Tryz.prog 145 0=some 0:=by kernel_rfl
theorem zaX:tField Tryz.prog 145 1=some 2:=by kernel_rfl
theorem zdK:tField Tryz.prog 157 0=some 0:=by kernel_rfl
theorem zaN:tField Tryz.prog 157 1=some 2:=by kernel_rfl
theorem zf1:tField Tryz.prog 220 0=some 0:=by kernel_rfl
theorem zhm:tField Tryz.prog 220 1=some 1:=by kernel_rfl
theorem zaA:tField Tryz.prog 30 0=some 0:=by kernel_rfl
theorem zaz:tField Tryz.prog 30 1=some 1:=by kernel_rfl
theorem zhw:tField Tryz.prog 44 0=some 0:=by kernel_rfl
theorem zhx:tField Tryz.prog 44 1=some 1:=by kernel_rfl
theorem ziS:tField Tryz.prog 44 2=some 2:=by kernel_rfl
theorem zap:tField Tryz.prog 56 0=some 0:=by kernel_rfl
theorem zaq:tField Tryz.prog 56 1=some 1:=by kernel_rfl
theorem ziT:tFs Tryz.prog 114=some [(2,0),(91,1)]:=by kernel_rfl
theorem zjc:tIface Tryz.prog 20=true:=by kernel_rfl
theorem zes:tInt Tryz.prog 2=some .i64:=by kernel_rfl
theorem zi9:tInt Tryz.prog 3=some .i64:=by kernel_rfl
theorem zja:tInt Tryz.prog 5=some .u8:=by kernel_rfl
theorem zaG:tInt Tryz.prog 91=some .u64:=by kernel_rfl
theorem zbS:tInt Tryz.prog 92=some .u32:=by kernel_rfl
theorem zjO:tInt Tryz.prog 93=some .u64:=by kernel_rfl
theorem ziU:tPlaces Tryz.prog 111=some #[(0,1),(1,1),(2,1),(3,1),(4,1)]:=by kernel_rfl
theorem zhy:tPlaces Tryz.prog 114=some #[(0,1),(1,1)]:=by kernel_rfl
theorem zbY:tPlaces Tryz.prog 145=some #[(0,2),(2,1)]:=by kernel_rfl
theorem ziV:tPlaces Tryz.prog 157=some #[(0,2),(2,2)]:=by kernel_rfl
theorem zeO:tPlaces Tryz.prog 30=some #[(0,1),(1,1)]:=by kernel_rfl
theorem zhM:tPlaces Tryz.prog 56=some #[(0,1),(1,1)]:=by kernel_rfl
theorem zaf:tSize Tryz.prog 114=some 2:=by kernel_rfl
theorem zat:tSize Tryz.prog 145=some 3:=by kernel_rfl
theorem zak:tSize Tryz.prog 157=some 4:=by kernel_rfl
theorem zdo:tSize Tryz.prog 2=some 1:=by kernel_rfl
theorem zeb:tSize Tryz.prog 22=some 1:=by kernel_rfl
theorem zgs:tSize Tryz.prog 3=some 1:=by kernel_rfl
theorem zac:tSize Tryz.prog 30=some 2:=by kernel_rfl
theorem zbb:tSize Tryz.prog 32=some 6:=by kernel_rfl
theorem zjP:tSize Tryz.prog 4=some 1:=by kernel_rfl
theorem zhz:tSize Tryz.prog 41=some 1:=by kernel_rfl
theorem zjg:tSize Tryz.prog 42=some 3:=by kernel_rfl
theorem ziw:tSize Tryz.prog 54=some 1:=by kernel_rfl
theorem zaa:tSize Tryz.prog 56=some 2:=by kernel_rfl
theorem zix:tSize Tryz.prog 91=some 1:=by kernel_rfl
theorem zag:tSize Tryz.prog 92=some 1:=by kernel_rfl
theorem zet:Tryz.prog.underlying 9=some .string:=by kernel_rfl
theorem zcM:(Tryz.prog.underlying 2).isSome=true:=by kernel_rfl
theorem zj9:(Tryz.prog.underlying 3).isSome=true:=by kernel_rfl
theorem zka:Tryz.prog.underlying 4=some .bool:=by kernel_rfl
theorem zjb:(Tryz.prog.underlying 5).isSome=true:=by kernel_rfl
theorem za1:(Tryz.prog.underlying 91).isSome=true:=by kernel_rfl
theorem zbh:(Tryz.prog.underlying 92).isSome=true:=by kernel_rfl
theorem zjd:tZero Tryz.prog 111=some (.agg #[.nilFunc,.nilFunc,.nilFunc,.nilFunc,Iv 0]):=by kernel_rfl
theorem zas:tZero Tryz.prog 114=some (.agg #[Iv 0,Uv 0]):=by kernel_rfl
theorem zje:tZero Tryz.prog 121=some (.agg #[Iv 0,Uv 0,Iv 0,Uv 0,Iv 0,Uv 0,Iv 0,Uv 0]):=by kernel_rfl
theorem zau:tZero Tryz.prog 145=some (.agg #[Bv false,.slice none 0 0,Iv 0]):=by kernel_rfl
theorem zav:tZero Tryz.prog 157=some (.agg #[Bv false,.slice none 0 0,Bv false,.slice none 0 0]):=by kernel_rfl
theorem zjf:tZero Tryz.prog 206=some (.agg #[Bv false,.slice none 0 0,Bv false,.slice none 0 0]):=by kernel_rfl
theorem zgL:tZero Tryz.prog 22=some (Iv 0):=by kernel_rfl
theorem zjQ:tZero Tryz.prog 3=some (Iv 0):=by kernel_rfl
theorem zal:tZero Tryz.prog 30=some (.agg #[Iv 0,Iv 0]):=by kernel_rfl
theorem zcP:tZero Tryz.prog 32=some (.agg #[Iv 0,Iv 0,Iv 0,Iv 0,Iv 0,Iv 0]):=by kernel_rfl
theorem ziy:tZero Tryz.prog 52=some (.agg #[Iv 0,Iv 0]):=by kernel_rfl
theorem ziz:tZero Tryz.prog 54=some (.slice none 0 0):=by kernel_rfl
theorem zab:tZero Tryz.prog 56=some (.agg #[Bv false,.slice none 0 0]):=by kernel_rfl
theorem zjh:tZero Tryz.prog 91=some (Uv 0):=by kernel_rfl
theorem za9:tZero Tryz.prog 92=some (.int .u32 0):=by kernel_rfl
theorem X_ext_119:ExtIs Tryz.prog 119 sub64Row:=λargs w v h=>by
  rw [run_callFunc_extern Tryz.func119 (by kernel_rfl) (by kernel_rfl) (by kernel_rfl) (e:=sub64Row) (by kernel_rfl),h]; rfl
def E2 (x:Int):List Value:=[Iv x]
theorem E2_len (x:Int):(E2 x).length=1:=C
def E92 (x:Int):List Value:=[.int .u32 x]
theorem E92_len (x:Int):(E92 x).length=1:=C
theorem E92_one (x:Int):oneCells (E92 x)=true:=C
theorem A_114:tAgg Tryz.prog 114=some true∧tSize Tryz.prog 114=some 2:=⟨zba,zaf⟩
theorem A_145:tAgg Tryz.prog 145=some true∧tSize Tryz.prog 145=some 3:=⟨zdk,zat⟩
theorem A_157:tAgg Tryz.prog 157=some true∧tSize Tryz.prog 157=some 4:=⟨za6,zak⟩
theorem A_30:tAgg Tryz.prog 30=some true∧tSize Tryz.prog 30=some 2:=⟨zaJ,zac⟩
theorem A_32:tAgg Tryz.prog 32=some true∧tSize Tryz.prog 32=some 6:=⟨zea,zbb⟩
theorem A_42:tAgg Tryz.prog 42=some true∧tSize Tryz.prog 42=some 3:=⟨zjN,zjg⟩
theorem A_56:tAgg Tryz.prog 56=some true∧tSize Tryz.prog 56=some 2:=⟨zao,zaa⟩
abbrev Sh (x:Value):Array Value:=#[.func (.func 38) #[] #[],.func (.func 39) #[] #[],.func (.func 40) #[] #[],.func (.func 41) #[] #[],x]
abbrev Sh0 (x:Value):Array Value:=#[.func (.func 59) #[] #[],.func (.func 104) #[] #[],.func (.func 35) #[] #[],.func (.func 31) #[] #[],x]
abbrev pP30 (b:Nat) (x:Int×Int):Asr:=pt b (Cs #[Iv x.1,Iv x.2] 30)
abbrev pI3 (b:Nat) (x:Int):Asr:=pt b (Cs #[Iv x] 3)
abbrev pI2 (b:Nat) (x:Int):Asr:=pt b (Cs #[Iv x] 2)
abbrev pS0111 (b:Nat) (x:Int):Asr:=pt b (Cs (Sh0 (Iv x)) 111)
abbrev pW56 (b:Nat) (x:Bool) (s:Value):Asr:=pt b (Cs #[Bv x,s] 56)
abbrev pB145 (b:Nat) (x:Bool) (s:Value) (y:Int):Asr:=pt b (Cs #[Bv x,s,Iv y] 145)
abbrev pJ30 (b:Nat) (x y:Int):Asr:=pt b (Cs #[Iv x,Iv y] 30)
abbrev sE92:Value→List (Int)→Asr:=slE 92 1 E92
abbrev rE92:Value→List (Int)→Asr:=rdE 1 E92
abbrev rE2:Value→List (Int)→Asr:=rdE 1 E2
def zgt (F:Nat) (x1:Int):Option Bool :=
  some ((decide (x1<(-5000000000000000:Int)))||(decide (x1>(5000000000000000:Int))))
theorem zh6 (F:Nat) (x1:Int) (w0:World) (r:Bool) (M:zgt F x1=some r) :
    Ret Tryz.prog 14 #[Iv x1] w0 (G:=Unit) (λ_=>Bv r) (λ_ w=>St w0 w noX [] []):=by
 unfold zgt at M; refine roW Tryz.func14 C C C (λa H=>?_); have X:St w0 w0 noX [] []:=Sbw lnn; refine sg (l:=[0]) C<|mv H C λa H=>nk<|sg (l:=[0,1,2,3,4,5,6]) C<|mv H C λa H=>ov H C (Z.lss C C) λa H=>mv H C λa H=>?_; refine O.cutN (l₁:=[3,4,5]) (l₂:=_) (λa w=>Fr a 9 [] [(2,Bv false),(8,Bv ((decide (x1<(-5000000000000000:Int)))||(decide (x1>(5000000000000000:Int)))))]∧St w0 w noX [] []) C ?_ ?_
 ·rcases Bool.eq_false_or_eq_true (decide (x1<(-5000000000000000:Int))) with hb2 | hb2
  ·refine sk H C hb2 λa H=>sk H C hb2 λa H=>?_; refine ov (v:=Bv ((decide (x1<(-5000000000000000:Int)))||(decide (x1>(5000000000000000:Int))))) H C (Z.pick C C C (by rw [hb2]; rfl)) ?_; clear H a; intro a H; exact O.nil ⟨C,H.q C,X⟩
  ·refine og H C hb2 (Z.move C) λa H=>og H C hb2 (Z.gtr C C) λa H=>?_; refine ov (v:=Bv ((decide (x1<(-5000000000000000:Int)))||(decide (x1>(5000000000000000:Int))))) H C (Z.pick C C C (by rw [hb2]; rfl)) ?_; clear H a; intro a H; exact O.nil ⟨C,H.q C,X⟩
 clear H X a; (try clear w); rintro a w ⟨H,X⟩; refine mv H C λa H=>nk<|W.ret<|?_; obtain rfl:=oj M; refine post1 H C (rkt C) ?_; exact ⟨(),C,X.noB⟩
def zeX (F:Nat) (x2:List Int) (x3:Int):Option (List Int) :=
  if sbd 0 x3 (x2.length:Int) then some (lsub x2 0 x3) else none
def zdp (F:Nat) (rec6:Int→Option (List Int)) (x5:Int) (x2:List Int) (x7:Bool):Option (List Int) :=
  if (x7)=true then (rec6 (i64.wrap (x5-1))) else (zeX F x2 x5)
def zeY (F:Nat) (x2:List Int) (rec6:Int→Option (List Int)) (x5:Int):Option (List Int) :=
  if x5>(0:Int) then ((idx x2 (i64.wrap (x5-1))).bind λx10=>zdp F rec6 x5 x2 (decide (x10=(0:Int)))) else (zdp F rec6 x5 x2 false)
def zcx (F:Nat) (x2:List Int):Nat→Int→Option (List Int)
  | 0,_=>none
  | n+1,x5=>zeY F x2 (zcx F x2 n) x5
def zbM (F:Nat) (x2:List Int):Option (List Int) :=
  zcx F x2 F (x2.length:Int)
theorem zbT (F:Nat) (s1:Value) (x2:List Int) (w0:World) (h_s1:slOK (hp w0) 92 1 s1 x2.length (encs E92 x2)) (r:List Int) (M:zbM F x2=some r) :
    Ret Tryz.prog 81 #[s1] w0 (G:=Value) (λg1=>g1) (λg1 w=>St w0 w (λk=>s1.ownBlock=some k) [] [sE92 g1 r]):=by
 unfold zbM at M; refine roW Tryz.func81 C C C (λa H=>?_); have X:St w0 w0 (λk=>s1.ownBlock=some k) [] [sE92 s1 x2]:=St.ownE h_s1 lnn (apAll_nil (q:=sE92 s1 x2)); refine sg (l:=[0]) C<|mv H C λa H=>nk<|sg (l:=[0,1,2]) C<|mv H C λa H=>ov (v:=Iv (x2.length:Int)) H C (Z.lenE (e:=92) (by simpa using zad) C (X.s 0 C)) λa H=>mv H C λa H=>nk<|?_; refine W.seqR (λa w=>∃ (x3:Int),Fr a 21 [] [(0,s1),(2,.slice none 0 0),(3,Iv x3)]∧St w0 w (λk=>s1.ownBlock=some k) [] [sE92 s1 x2]∧zeX F x2 x3=some r) ?_ ?_
 ·refine W.block<|W.loop (G:=Nat × Int) (λg a w=>match g with | (k6,x5)=>Fr a 21 [] [(0,s1),(2,.slice none 0 0),(3,Iv x5)]∧St w0 w (λk=>s1.ownBlock=some k) [] [sE92 s1 x2]∧zcx F x2 k6 x5=some r) (λg=>match g with | (k6,x5)=>k6) (F,(x2.length:Int)) ⟨H.q C,X,M⟩<|?_; clear H X M a; (try clear w); rintro ⟨k6,x5⟩ a w ⟨H,X,M⟩
  rcases k6 with _ | k6
  · nomatch M
  replace M:zeY F x2 (zcx F x2 k6) x5=some r:=M; obtain ⟨rec6,hrec6⟩:∃ f,f=zcx F x2 k6:=⟨_,C⟩; rw [← hrec6] at M; unfold zeY at M; refine W.seq<|sg (l:=[0,1,2,3,4,5,6,7,8,9]) C<|mv H C λa H=>ov H C (Z.gtr C C) λa H=>mv H C λa H=>?_; refine O.cutN (l₁:=[3,4,5,6,7,8,9]) (l₂:=_) (λa w=>∃ (x7:Bool),Fr a 21 [] [(0,s1),(2,.slice none 0 0),(3,Iv x5),(15,Bv x7)]∧St w0 w (λk=>s1.ownBlock=some k) [] [sE92 s1 x2]∧zdp F rec6 x5 x2 x7=some r) C ?_ ?_
  ·rcases Bool.eq_false_or_eq_true (decide (x5>(0:Int))) with hb9 | hb9
   ·have hb9p:=of_decide_eq_true hb9; replace M:=hm_p M hb9p; refine og H C hb9 (Z.move C) λa H=>og H C hb9 (Z.move C) λa H=>og H C hb9 (Z.sub C C) λa H=>?_; obtain ⟨x10,hx10,M⟩:=hm_b M; refine og H C hb9 (Z.ixE zad zag C C (X.s 0 C) hx10) λa H=>og H C hb9 (Z.ldE1 (o:=0) zaD E92_len C (X.s 0 C) hx10 C C) λa H=>og H C hb9 (Z.eql C C) λa H=>?_; refine ov (v:=Bv (decide (x10=(0:Int)))) H C (Z.pick C C C (by rw [hb9]; rfl)) ?_; clear H a; intro a H; exact O.nil ⟨C,decide (x10=(0:Int)),H.q C,X,M⟩
   ·have hb9p:=of_decide_eq_false hb9; replace M:=hm_n M hb9p; refine sk H C hb9 λa H=>sk H C hb9 λa H=>sk H C hb9 λa H=>sk H C hb9 λa H=>sk H C hb9 λa H=>sk H C hb9 λa H=>?_; refine ov (v:=Bv false) H C (Z.pick C C C (by rw [hb9]; rfl)) ?_; clear H a; intro a H; exact O.nil ⟨C,false,H.q C,X,M⟩
  clear H X M a; (try clear w); rintro a w ⟨x7,H,X,M⟩; unfold zdp at M; refine nk ?_; refine W.if_ H C (λhc8=>?_) (λhc8=>?_)
  ·replace M:=hm_t M hc8; refine W.skip<|ksq<|W.block<|wrL (l:=[0,1,2]) C<|mv H C λa H=>ov H C (Z.sub C C) λa H=>mv H C λa H=>O.nil<|kbn<|?_; refine kth ⟨(k6,i64.wrap (x5-1)),⟨H.q C,X,?_⟩,Nat.lt_succ_self _⟩; rw [hrec6] at M; exact M
  ·replace M:=hm_f M hc8; refine W.exit<|kte<|kte<|kbk<|?_; exact kth ⟨x5,H.q C,X,M⟩
 ·clear H X M a; (try clear w); rintro a w ⟨x3,H,X,M⟩; unfold zeX at M; refine sg (l:=[0,1,2,3]) C<|mv2 H C C λa H=>?_; obtain ⟨hg4,M⟩:=hm_g M; refine ov (v:=vsub 1 s1 0 x3) H C (Z.sliceH zad zag C C (X.s 0 C) hg4) λa H=>mv H C λa H=>nk<|W.ret<|?_; replace X:=X.takeS (j:=0) (M':=[sE92 (vsub 1 s1 0 x3) (lsub x2 0 x3)]) C E92_len hg4 C; obtain rfl:=oj M; refine post1 H C (rkt C) ?_; exact ⟨vsub 1 s1 0 x3,C,X.noB⟩
def zaU (F:Nat) (x1:Bool) (x3:List Int):Option (Bool × (List Int)) :=
  (zbM F x3).bind λx5=>if (x5.length:Int)>(4096:Int) then (none) else (some (x1&&(decide ((x5.length:Int)>(0:Int))),x5))
theorem zaO (F:Nat) (x1:Bool) (s2:Value) (x3:List Int) (w0:World) (h_s2:slOK (hp w0) 92 1 s2 x3.length (encs E92 x3)) (r:Bool × (List Int)) (M:zaU F x1 x3=some r) :
    Ret Tryz.prog 44 #[Bv x1,s2] w0 (G:=Value) (λg1=>.tuple #[.agg #[Bv r.1,g1],Iv 0]) (λg1 w=>St w0 w (λk=>s2.ownBlock=some k) [] [sE92 g1 r.2]):=by
 unfold zaU at M; refine roW Tryz.func44 C C C (λa H=>?_); have X:St w0 w0 (λk=>s2.ownBlock=some k) [] [sE92 s2 x3]:=St.ownE h_s2 lnn (apAll_nil (q:=sE92 s2 x3)); refine sg (l:=[0,1]) C<|O.alloc (cs:=#[Bv false,.slice none 0 0]) H X C C zab C<|?_; intro b4 w a hb4 X H; refine mv H C λa H=>nk<|sg (l:=[0,1,2]) C<|mv H C λa H=>?_; obtain ⟨x5,hx5,M⟩:=hm_b M; refine oc H C zgp (zbT F s2 x3 _ (X.slS (j:=1) C) x5 hx5) ?_; rintro s6 w Y a H; replace X:=X.cz Y 1 λ_ h=>h; refine mv H C λa H=>nk<|W.seq<|sg (l:=[0,1,2]) C<|mv H C λa H=>ov (v:=Iv (x5.length:Int)) H C (Z.lenE (e:=92) (by simpa using zad) C (X.s 0 C)) λa H=>ov H C (Z.gtr C C) λa H=>nk<|?_; refine W.ifdI H C (λhc7=>?_) (λhc7=>?_)
 ·nomatch hm_p M hc7
 ·replace M:=hm_n M hc7; refine W.skip<|ksq<|sg (l:=[0,1,2,3,4,5,6,7,8,9]) C<|mv2 H C C λa H=>?_; refine O.cutN (l₁:=[2,3,4,5]) (l₂:=_) (λa w=>Fr a 20 [] [(1,s6),(4,Pv b4 0),(5,Iv 0),(17,Bv (x1&&(decide ((x5.length:Int)>(0:Int)))))]∧St w0 w (λk=>s2.ownBlock=some k) [] [sE92 s6 x5,pt b4 (Cs #[Bv false,.slice none 0 0] 56)]) C ?_ ?_
  ·rcases Bool.eq_false_or_eq_true (x1) with hb8 | hb8
   ·refine og H C hb8 (Z.move C) λa H=>og (v:=Iv (x5.length:Int)) H C hb8 (Z.lenE (e:=92) (by simpa using zad) C (X.s 0 C)) λa H=>og H C hb8 (Z.gtr C C) λa H=>?_; refine ov (v:=Bv (x1&&(decide ((x5.length:Int)>(0:Int))))) H C (Z.pick C C C (by rw [hb8]; rfl)) ?_; clear H a; intro a H; exact O.nil ⟨C,H.q C,X⟩
   ·refine sk H C hb8 λa H=>sk H C hb8 λa H=>sk H C hb8 λa H=>?_; refine ov (v:=Bv (x1&&(decide ((x5.length:Int)>(0:Int))))) H C (Z.pick C C C (by rw [hb8]; rfl)) ?_; clear H a; intro a H; exact O.nil ⟨C,H.q C,X⟩
  clear H X a; (try clear w); rintro a w ⟨H,X⟩; refine mv H C λa H=>?_; refine ov (v:=.agg #[Bv (x1&&(decide ((x5.length:Int)>(0:Int)))),s6]) H C (Z.buildS (cs':=#[Bv (x1&&(decide ((x5.length:Int)>(0:Int)))),s6]) zhM zab C (by simp only [Instr.fill,(rdc (X.s 0 C))]; rfl)) ?_; clear H a; intro a H; refine ost 1 #[Bv (x1&&(decide ((x5.length:Int)>(0:Int)))),s6] H X C C C zaa C (occ C (occ (rdo (X.s 0 C)) C)) C (bl C) C ?_; intro w X; refine mv H C λa H=>nk<|W.ret<|?_; obtain rfl:=oj M; refine post2 H C (rkn (cs':=#[Bv (x1&&(decide ((x5.length:Int)>(0:Int)))),s6]) C zao zaa (X.p 1 C) (bl C) C) (rkt C) ?_; replace X:=X.sl [1]; exact ⟨s6,C,X.noB⟩
def zeu (F:Nat) (x1 x3:Int):Option (Bool × (List Int)) :=
  (zaU F (decide (x1<(0:Int))) ([u32.wrap x3,u32.wrap (Int.fdiv x3 (2^32))])).bind λx6=>some x6
def zbe (F:Nat) (x1:Int):Option (Bool × (List Int)) :=
  if x1<(0:Int) then (zeu F x1 (u64.wrap (0-(u64.wrap x1)))) else (zeu F x1 (u64.wrap x1))
theorem za8 (F:Nat) (x1:Int) (w0:World) (r:Bool × (List Int)) (M:zbe F x1=some r) :
    Ret Tryz.prog 17 #[Iv x1] w0 (G:=Value) (λg1=>.agg #[Bv r.1,g1]) (λg1 w=>St w0 w noX [] [sE92 g1 r.2]):=by
 unfold zbe at M; refine roW Tryz.func17 C C C (λa H=>?_); have X:St w0 w0 noX [] []:=Sbw lnn; refine sg (l:=[0]) C<|O.alloc (cs:=#[Bv false,.slice none 0 0]) H X C C zab C<|?_; intro b2 w a hb2 X H; refine nk<|sg (l:=[0,1,2]) C<|mv H C λa H=>ov (v:=Uv (u64.wrap x1)) H C (Z.conv zcM zaG C) λa H=>mv H C λa H=>nk<|?_; refine W.seqR (λa w=>∃ (x3:Int),Fr a 25 [] [(0,Iv x1),(2,Pv b2 0),(3,Uv x3)]∧St w0 w noX [] [pt b2 (Cs #[Bv false,.slice none 0 0] 56)]∧zeu F x1 x3=some r) ?_ ?_
 ·refine sg (l:=[0,1]) C<|mv H C λa H=>ov H C (Z.lss C C) λa H=>nk<|?_; refine W.ifdI H C (λhc9=>?_) (λhc9=>?_)
  ·replace M:=hm_p M hc9; refine wrL (l:=[0,1,2]) C<|mv H C λa H=>ov (v:=Uv (u64.wrap (0-(u64.wrap x1)))) H C (Z.neg C) λa H=>mv H C λa H=>O.nil<|?_; exact kth ⟨u64.wrap (0-(u64.wrap x1)),H.q C,X,M⟩
  ·replace M:=hm_n M hc9; refine W.skip ?_; exact kth ⟨u64.wrap x1,H.q C,X,M⟩
 ·clear H X M a; (try clear w); rintro a w ⟨x3,H,X,M⟩; unfold zeu at M; refine sg (l:=[0,1,2,3,4,5,6,7,8,9,10,11,12,13,14]) C<|mv H C λa H=>ov H C (Z.lss C C) λa H=>mv H C λa H=>ov (v:=.int .u32 (u32.wrap x3)) H C (Z.conv za1 zbS C) λa H=>mv H C λa H=>ov (v:=Uv (Int.fdiv x3 (2^32))) H C (Z.shr (q:=32) C C (by decide)) λa H=>ov (v:=.int .u32 (u32.wrap (Int.fdiv x3 (2^32)))) H C (Z.conv za1 zbS C) λa H=>O.buildSlice (cs':=#[.int .u32 (u32.wrap x3),.int .u32 (u32.wrap (Int.fdiv x3 (2^32)))]) (zs:=#[.int .u32 0,.int .u32 0]) H X C C zad zag za9 C C C C C<|?_; intro b4 w a hb4 X H; replace X:=X.ptE (j:=0) (enc:=E92) (xs:=[u32.wrap x3,u32.wrap (Int.fdiv x3 (2^32))]) (N:=2) (M':=[sE92 (.slice (some ⟨b4,0,none⟩) 2 2) ([u32.wrap x3,u32.wrap (Int.fdiv x3 (2^32))]),pt b2 (Cs #[Bv false,.slice none 0 0] 56)]) C C C C C C; obtain ⟨s5,hs5⟩:∃ v,v=(.slice (some ⟨b4,0,none⟩) 2 2:Value):=⟨_,C⟩; rw [← hs5] at H X; replace X:St w0 _ noX [] [sE92 s5 ([u32.wrap x3,u32.wrap (Int.fdiv x3 (2^32))]),pt b2 (Cs #[Bv false,.slice none 0 0] 56)]:=X; obtain ⟨x6,hx6,M⟩:=hm_b M; refine oc H C zcK (zaO F (decide (x1<(0:Int))) s5 ([u32.wrap x3,u32.wrap (Int.fdiv x3 (2^32))]) _ (X.slS (j:=0) C) x6 hx6) ?_; rintro s7 w Y a H; replace X:=X.cz Y 0 λ_ h=>h; refine mv H C λa H=>ex H C C C λa H=>ex H C C C λa H=>O.alloc (cs:=#[Bv false,.slice none 0 0]) H X C C zab C<|?_; intro b8 w a hb8 X H; refine ost 0 #[Bv x6.1,s7] H X C C C zaa C (occ C (occ (rdo (X.s 1 C)) C)) C (bl C) C ?_; intro w X; refine mv H C λa H=>nk<|sg (l:=[0,1]) C<|ov H C (lN (cs':=#[Bv x6.1,s7]) A_56 C (X.p 0 C) C C) λa H=>ost 2 #[Bv x6.1,s7] H X C C C zaa C (occ C (occ (rdo (X.s 1 C)) C)) C (bl C) C<|?_; intro w X; refine nk ?_; replace X:=X.sl [0,1,1]; refine W.ret ?_; obtain rfl:=oj M; refine post1 H C (rkn (cs':=#[Bv x6.1,s7]) C zao zaa (X.p 1 C) (bl C) C) ?_; replace X:=X.sl [1]; exact ⟨s7,C,X.noB⟩
def zec (F:Nat) :Option Unit :=
  some ()
def zcQ (F:Nat) (x7:List Int) (x5 x14:Bool):Option Unit :=
  if (x14||((decide ((x7.length:Int)=(0:Int)))&&x5))=true then (none) else (zec F)
def zcR (F:Nat) (x7:List Int) (x5 x19:Bool):Option Unit :=
  zcQ F x7 x5 x19
def zcS (F:Nat) (x4:List Int) (x2:Bool) (x7:List Int) (x5 x9:Bool):Option Unit :=
  if (x9||((decide ((x4.length:Int)=(0:Int)))&&x2))=true then (none) else (if (x7.length:Int)>(4096:Int) then (zcQ F x7 x5 true) else (if (x7.length:Int)>(0:Int) then ((idx x7 (i64.wrap ((x7.length:Int)-1))).bind λx21=>zcR F x7 x5 (decide (x21=(0:Int)))) else (zcR F x7 x5 false)))
def zcT (F:Nat) (x4:List Int) (x2:Bool) (x7:List Int) (x5 x23:Bool):Option Unit :=
  zcS F x4 x2 x7 x5 x23
def zbj (F:Nat) (x2:Bool) (x4:List Int) (x5:Bool) (x7:List Int):Option Unit :=
  if (x4.length:Int)>(4096:Int) then (zcS F x4 x2 x7 x5 true) else (if (x4.length:Int)>(0:Int) then ((idx x4 (i64.wrap ((x4.length:Int)-1))).bind λx25=>zcT F x4 x2 x7 x5 (decide (x25=(0:Int)))) else (zcT F x4 x2 x7 x5 false))
theorem zbt (F b1:Nat) (x2:Bool) (s3:Value) (x4:List Int) (x5:Bool) (s6:Value) (x7:List Int) (w0:World) (h_s3:rdEOK (hp w0) 1 E92 s3 x4) (h_s6:rdEOK (hp w0) 1 E92 s6 x7) (h_b1:w0.heap[b1]? = some (.cells #[Bv x2,s3,Bv x5,s6] 56 (0,0))) (r:Unit) (M:zbj F x2 x4 x5 x7=some r) :
    Ret Tryz.prog 43 #[.slice (some ⟨b1,0,none⟩) 2 2] w0 (G:=Unit) (λ_=>Iv 0) (λ_ w=>St w0 w noX [] []):=by
 unfold zbj at M; refine roW Tryz.func43 C C C (λa H=>?_); have X:St w0 w0 noX [rE92 s3 x4,rE92 s6 x7,pt b1 (Cs #[Bv x2,s3,Bv x5,s6] 56)] []:=Sbw (lnc (lendRd h_s3) (lnc (lendRd h_s6) (lnc (lendPt h_b1) lnn))); refine sg (l:=[0]) C<|mv H C λa H=>nk<|?_; refine W.seqR (λa w=>Fr a 39 [] [(2,Iv 0)]∧St w0 w noX [rE92 s3 x4,rE92 s6 x7,pt b1 (Cs #[Bv x2,s3,Bv x5,s6] 56)] []∧zec F=some r) ?_ ?_
 ·refine sg (l:=[0,1,2]) C<|mv H C λa H=>ov (v:=Iv 2) H C (Z.len (e:=56) (by simpa using za7) C) λa H=>mv H C λa H=>nk<|W.block<|?_; refine W.loopH (LH.step ?_); refine sg (l:=[0]) C<|ov H C (Z.lss (p:=0) (q:=2) C C) λa H=>nk<|W.seq<|W.if_tt H C<|W.skip<|ksq<|W.seq<|W.block<|sg (l:=[0,1,2,3]) C<|?_; refine ov H C (Z.indexSl (j:=0) (m:=0) za7 zaa C C C (by decide) C) λa H=>ov H C (Z.loadN (cs':=#[Bv x2,s3]) zao zaa C (X.bptAt (i:=2) C) (bl C) C) λa H=>O.alloc (cs:=#[Bv false,.slice none 0 0]) H X C C zab C<|?_; intro b8 w a hb8 X H; refine ost 0 #[Bv x2,s3] H X C C C zaa C (occ C (occ (rdo (X.b 0 C)) C)) C (bl C) C ?_; intro w X; refine nk<|sg (l:=[0,1,2,3]) C<|ov H C (Z.field zaq C C) λa H=>ov (v:=s3) H C (Z.load1 zar C (X.p 0 C) C) λa H=>ov (v:=Iv (x4.length:Int)) H C (Z.lenE (e:=92) (by simpa using zad) C (X.b 0 C)) λa H=>mv H C λa H=>nk<|sg (l:=[0,1,2,3,4,5,6,7,8,9,10,11,12,13,14,15,16,17,18,19,20,21,22]) C<|mv H C λa H=>ov H C (Z.gtr C C) λa H=>?_; refine mv H C λa H=>?_; refine O.cutN (l₁:=[3,4,5,6,7,8,9,10,11,12,13,14]) (l₂:=_) (λa w=>∃ (x9:Bool),Fr a 39 [] [(2,Iv 0),(4,Pv b8 0),(5,Iv (x4.length:Int)),(6,.slice (some ⟨b1,0,none⟩) 2 2),(7,Iv 2),(8,Iv 0),(29,Bv x9)]∧St w0 w noX [rE92 s3 x4,rE92 s6 x7,pt b1 (Cs #[Bv x2,s3,Bv x5,s6] 56)] [pW56 b8 x2 s3]∧zcS F x4 x2 x7 x5 x9=some r) C ?_ ?_
  ·rcases Bool.eq_false_or_eq_true (decide ((x4.length:Int)>(4096:Int))) with hb22 | hb22
   ·have hb22p:=of_decide_eq_true hb22; replace M:=hm_p M hb22p; refine sk H C hb22 λa H=>sk H C hb22 λa H=>sk H C hb22 λa H=>O.skipU H C C C C λa H=>O.skipU H C C C C λa H=>O.skipU H C C C C λa H=>O.skipU H C C C C λa H=>O.skipU H C C C C λa H=>O.skipU H C C C C λa H=>O.skipU H C C C C λa H=>?_; refine sk H C hb22 λa H=>?_; refine ov (v:=Bv true) H C (Z.pick C C C (by rw [hb22]; rfl)) ?_; clear H a; intro a H; exact O.nil ⟨C,true,H.q C,X,M⟩
   ·have hb22p:=of_decide_eq_false hb22; replace M:=hm_n M hb22p; refine og H C hb22 (Z.move C) λa H=>og H C hb22 (Z.gtr C C) λa H=>og H C hb22 (Z.move C) λa H=>?_; refine O.cutN (l₁:=[6,7,8,9,10,11,12,13]) (l₂:=_) (λa w=>∃ (x23:Bool),Fr a 39 [] [(2,Iv 0),(4,Pv b8 0),(5,Iv (x4.length:Int)),(6,.slice (some ⟨b1,0,none⟩) 2 2),(7,Iv 2),(8,Iv 0),(15,Iv (x4.length:Int)),(16,Bv (decide ((x4.length:Int)>(4096:Int)))),(17,Bv (decide ((x4.length:Int)>(4096:Int)))),(18,Iv (x4.length:Int)),(19,Bv (decide ((x4.length:Int)>(0:Int)))),(20,Bv (decide ((x4.length:Int)>(0:Int)))),(28,Bv x23)]∧St w0 w noX [rE92 s3 x4,rE92 s6 x7,pt b1 (Cs #[Bv x2,s3,Bv x5,s6] 56)] [pW56 b8 x2 s3]∧zcT F x4 x2 x7 x5 x23=some r) C ?_ ?_
    ·rcases Bool.eq_false_or_eq_true (decide ((x4.length:Int)>(0:Int))) with hb24 | hb24
     ·have hb24p:=of_decide_eq_true hb24; replace M:=hm_p M hb24p; refine og H C hb24 (Z.field zaq C C) λa H=>og (v:=s3) H C hb24 (Z.load1 zar C (X.p 0 C) C) λa H=>og H C hb24 (Z.move C) λa H=>og H C hb24 (Z.sub C C) λa H=>?_; obtain ⟨x25,hx25,M⟩:=hm_b M; refine og H C hb24 (Z.ixE zad zag C C (X.b 0 C) hx25) λa H=>og H C hb24 (Z.ldE1 (o:=0) zaD E92_len C (X.b 0 C) hx25 C C) λa H=>og H C hb24 (Z.eql C C) λa H=>?_; refine og (v:=Bv (decide (x25=(0:Int)))) H C hb22 (Z.pick C C C (by rw [hb24]; rfl)) ?_; clear H a; intro a H; exact O.nil ⟨C,decide (x25=(0:Int)),H.q C,X,M⟩
     ·have hb24p:=of_decide_eq_false hb24; replace M:=hm_n M hb24p; refine sk H C hb24 λa H=>sk H C hb24 λa H=>sk H C hb24 λa H=>sk H C hb24 λa H=>sk H C hb24 λa H=>sk H C hb24 λa H=>sk H C hb24 λa H=>?_; refine og (v:=Bv false) H C hb22 (Z.pick C C C (by rw [hb24]; rfl)) ?_; clear H a; intro a H; exact O.nil ⟨C,false,H.q C,X,M⟩
    clear H X M a; (try clear w); rintro a w ⟨x23,H,X,M⟩; unfold zcT at M; refine ov (v:=Bv x23) H C (Z.pick C C C (by rw [hb22]; rfl)) ?_; clear H a; intro a H; exact O.nil ⟨C,x23,H.q C,X,M⟩
  clear H X M a; (try clear w); rintro a w ⟨x9,H,X,M⟩; unfold zcS at M; refine mv H C λa H=>?_; refine O.cutN (l₁:=[16,17,18,19,20,21,22]) (l₂:=_) (λa w=>Fr a 39 [] [(2,Iv 0),(6,.slice (some ⟨b1,0,none⟩) 2 2),(7,Iv 2),(8,Iv 0),(37,Bv (x9||((decide ((x4.length:Int)=(0:Int)))&&x2)))]∧St w0 w noX [rE92 s3 x4,rE92 s6 x7,pt b1 (Cs #[Bv x2,s3,Bv x5,s6] 56)] [pW56 b8 x2 s3]) C ?_ ?_
  ·rcases Bool.eq_false_or_eq_true (x9) with hb10 | hb10
   ·refine sk H C hb10 λa H=>sk H C hb10 λa H=>sk H C hb10 λa H=>O.skipU H C C C C λa H=>O.skipU H C C C C λa H=>sk H C hb10 λa H=>?_; refine ov (v:=Bv (x9||((decide ((x4.length:Int)=(0:Int)))&&x2))) H C (Z.pick C C C (by rw [hb10]; rfl)) ?_; clear H a; intro a H; exact O.nil ⟨C,H.q C,X⟩
   ·refine og H C hb10 (Z.move C) λa H=>og H C hb10 (Z.eql C C) λa H=>og H C hb10 (Z.move C) λa H=>?_; refine O.cutN (l₁:=[19,20,21]) (l₂:=_) (λa w=>Fr a 39 [] [(2,Iv 0),(4,Pv b8 0),(5,Iv (x4.length:Int)),(6,.slice (some ⟨b1,0,none⟩) 2 2),(7,Iv 2),(8,Iv 0),(29,Bv x9),(30,Bv x9),(31,Iv (x4.length:Int)),(32,Bv (decide ((x4.length:Int)=(0:Int)))),(33,Bv (decide ((x4.length:Int)=(0:Int)))),(36,Bv ((decide ((x4.length:Int)=(0:Int)))&&x2))]∧St w0 w noX [rE92 s3 x4,rE92 s6 x7,pt b1 (Cs #[Bv x2,s3,Bv x5,s6] 56)] [pW56 b8 x2 s3]) C ?_ ?_
    ·rcases Bool.eq_false_or_eq_true (decide ((x4.length:Int)=(0:Int))) with hb11 | hb11
     ·refine og H C hb11 (Z.field zap C C) λa H=>og H C hb11 (Z.load1 zaC C (X.p 0 C) C) λa H=>?_; refine og (v:=Bv ((decide ((x4.length:Int)=(0:Int)))&&x2)) H C hb10 (Z.pick C C C (by rw [hb11]; rfl)) ?_; clear H a; intro a H; exact O.nil ⟨C,H.q C,X⟩
     ·refine sk H C hb11 λa H=>sk H C hb11 λa H=>?_; refine og (v:=Bv ((decide ((x4.length:Int)=(0:Int)))&&x2)) H C hb10 (Z.pick C C C (by rw [hb11]; rfl)) ?_; clear H a; intro a H; exact O.nil ⟨C,H.q C,X⟩
    clear H X a; (try clear w); rintro a w ⟨H,X⟩; refine ov (v:=Bv (x9||((decide ((x4.length:Int)=(0:Int)))&&x2))) H C (Z.pick C C C (by rw [hb10]; rfl)) ?_; clear H a; intro a H; exact O.nil ⟨C,H.q C,X⟩
  clear H X a; (try clear w); rintro a w ⟨H,X⟩; refine nk ?_; replace X:=X.s0; refine W.if_ H C (λhc12=>?_) (λhc12=>?_)
  ·nomatch hm_t M hc12
  ·replace M:=hm_f M hc12; refine W.skip<|kbn<|ksq<|wrL (l:=[0,1]) C<|ov H C (Z.add (p:=0) (q:=1) C C) λa H=>mv H C λa H=>O.nil<|?_; refine kth (LH.step ?_); refine sg (l:=[0]) C<|ov H C (Z.lss (p:=1) (q:=2) C C) λa H=>nk<|W.seq<|W.if_tt H C<|W.skip<|ksq<|W.seq<|W.block<|sg (l:=[0,1,2,3]) C<|?_; refine ov H C (Z.indexSl (j:=1) (m:=2) za7 zaa C C C (by decide) C) λa H=>ov H C (Z.loadN (cs':=#[Bv x5,s6]) zao zaa C (X.bptAt (i:=2) C) (bl C) C) λa H=>O.alloc (cs:=#[Bv false,.slice none 0 0]) H X C C zab C<|?_; intro b13 w a hb13 X H; refine ost 0 #[Bv x5,s6] H X C C C zaa C (occ C (occ (rdo (X.b 1 C)) C)) C (bl C) C ?_; intro w X; refine nk<|sg (l:=[0,1,2,3]) C<|ov H C (Z.field zaq C C) λa H=>ov (v:=s6) H C (Z.load1 zar C (X.p 0 C) C) λa H=>ov (v:=Iv (x7.length:Int)) H C (Z.lenE (e:=92) (by simpa using zad) C (X.b 1 C)) λa H=>mv H C λa H=>nk<|sg (l:=[0,1,2,3,4,5,6,7,8,9,10,11,12,13,14,15,16,17,18,19,20,21,22]) C<|mv H C λa H=>ov H C (Z.gtr C C) λa H=>?_; refine mv H C λa H=>?_; refine O.cutN (l₁:=[3,4,5,6,7,8,9,10,11,12,13,14]) (l₂:=_) (λa w=>∃ (x14:Bool),Fr a 39 [] [(2,Iv 0),(4,Pv b13 0),(5,Iv (x7.length:Int)),(6,.slice (some ⟨b1,0,none⟩) 2 2),(7,Iv 2),(8,Iv 1),(29,Bv x14)]∧St w0 w noX [rE92 s3 x4,rE92 s6 x7,pt b1 (Cs #[Bv x2,s3,Bv x5,s6] 56)] [pW56 b13 x5 s6]∧zcQ F x7 x5 x14=some r) C ?_ ?_
   ·rcases Bool.eq_false_or_eq_true (decide ((x7.length:Int)>(4096:Int))) with hb18 | hb18
    ·have hb18p:=of_decide_eq_true hb18; replace M:=hm_p M hb18p; refine sk H C hb18 λa H=>sk H C hb18 λa H=>sk H C hb18 λa H=>O.skipU H C C C C λa H=>O.skipU H C C C C λa H=>O.skipU H C C C C λa H=>O.skipU H C C C C λa H=>O.skipU H C C C C λa H=>O.skipU H C C C C λa H=>O.skipU H C C C C λa H=>?_; refine sk H C hb18 λa H=>?_; refine ov (v:=Bv true) H C (Z.pick C C C (by rw [hb18]; rfl)) ?_; clear H a; intro a H; exact O.nil ⟨C,true,H.q C,X,M⟩
    ·have hb18p:=of_decide_eq_false hb18; replace M:=hm_n M hb18p; refine og H C hb18 (Z.move C) λa H=>og H C hb18 (Z.gtr C C) λa H=>og H C hb18 (Z.move C) λa H=>?_; refine O.cutN (l₁:=[6,7,8,9,10,11,12,13]) (l₂:=_) (λa w=>∃ (x19:Bool),Fr a 39 [] [(2,Iv 0),(4,Pv b13 0),(5,Iv (x7.length:Int)),(6,.slice (some ⟨b1,0,none⟩) 2 2),(7,Iv 2),(8,Iv 1),(15,Iv (x7.length:Int)),(16,Bv (decide ((x7.length:Int)>(4096:Int)))),(17,Bv (decide ((x7.length:Int)>(4096:Int)))),(18,Iv (x7.length:Int)),(19,Bv (decide ((x7.length:Int)>(0:Int)))),(20,Bv (decide ((x7.length:Int)>(0:Int)))),(28,Bv x19)]∧St w0 w noX [rE92 s3 x4,rE92 s6 x7,pt b1 (Cs #[Bv x2,s3,Bv x5,s6] 56)] [pW56 b13 x5 s6]∧zcR F x7 x5 x19=some r) C ?_ ?_
     ·rcases Bool.eq_false_or_eq_true (decide ((x7.length:Int)>(0:Int))) with hb20 | hb20
      ·have hb20p:=of_decide_eq_true hb20; replace M:=hm_p M hb20p; refine og H C hb20 (Z.field zaq C C) λa H=>og (v:=s6) H C hb20 (Z.load1 zar C (X.p 0 C) C) λa H=>og H C hb20 (Z.move C) λa H=>og H C hb20 (Z.sub C C) λa H=>?_; obtain ⟨x21,hx21,M⟩:=hm_b M; refine og H C hb20 (Z.ixE zad zag C C (X.b 1 C) hx21) λa H=>og H C hb20 (Z.ldE1 (o:=0) zaD E92_len C (X.b 1 C) hx21 C C) λa H=>og H C hb20 (Z.eql C C) λa H=>?_; refine og (v:=Bv (decide (x21=(0:Int)))) H C hb18 (Z.pick C C C (by rw [hb20]; rfl)) ?_; clear H a; intro a H; exact O.nil ⟨C,decide (x21=(0:Int)),H.q C,X,M⟩
      ·have hb20p:=of_decide_eq_false hb20; replace M:=hm_n M hb20p; refine sk H C hb20 λa H=>sk H C hb20 λa H=>sk H C hb20 λa H=>sk H C hb20 λa H=>sk H C hb20 λa H=>sk H C hb20 λa H=>sk H C hb20 λa H=>?_; refine og (v:=Bv false) H C hb18 (Z.pick C C C (by rw [hb20]; rfl)) ?_; clear H a; intro a H; exact O.nil ⟨C,false,H.q C,X,M⟩
     clear H X M a; (try clear w); rintro a w ⟨x19,H,X,M⟩; unfold zcR at M; refine ov (v:=Bv x19) H C (Z.pick C C C (by rw [hb18]; rfl)) ?_; clear H a; intro a H; exact O.nil ⟨C,x19,H.q C,X,M⟩
   clear H X M a; (try clear w); rintro a w ⟨x14,H,X,M⟩; unfold zcQ at M; refine mv H C λa H=>?_; refine O.cutN (l₁:=[16,17,18,19,20,21,22]) (l₂:=_) (λa w=>Fr a 39 [] [(2,Iv 0),(6,.slice (some ⟨b1,0,none⟩) 2 2),(7,Iv 2),(8,Iv 1),(37,Bv (x14||((decide ((x7.length:Int)=(0:Int)))&&x5)))]∧St w0 w noX [rE92 s3 x4,rE92 s6 x7,pt b1 (Cs #[Bv x2,s3,Bv x5,s6] 56)] [pW56 b13 x5 s6]) C ?_ ?_
   ·rcases Bool.eq_false_or_eq_true (x14) with hb15 | hb15
    ·refine sk H C hb15 λa H=>sk H C hb15 λa H=>sk H C hb15 λa H=>O.skipU H C C C C λa H=>O.skipU H C C C C λa H=>sk H C hb15 λa H=>?_; refine ov (v:=Bv (x14||((decide ((x7.length:Int)=(0:Int)))&&x5))) H C (Z.pick C C C (by rw [hb15]; rfl)) ?_; clear H a; intro a H; exact O.nil ⟨C,H.q C,X⟩
    ·refine og H C hb15 (Z.move C) λa H=>og H C hb15 (Z.eql C C) λa H=>og H C hb15 (Z.move C) λa H=>?_; refine O.cutN (l₁:=[19,20,21]) (l₂:=_) (λa w=>Fr a 39 [] [(2,Iv 0),(4,Pv b13 0),(5,Iv (x7.length:Int)),(6,.slice (some ⟨b1,0,none⟩) 2 2),(7,Iv 2),(8,Iv 1),(29,Bv x14),(30,Bv x14),(31,Iv (x7.length:Int)),(32,Bv (decide ((x7.length:Int)=(0:Int)))),(33,Bv (decide ((x7.length:Int)=(0:Int)))),(36,Bv ((decide ((x7.length:Int)=(0:Int)))&&x5))]∧St w0 w noX [rE92 s3 x4,rE92 s6 x7,pt b1 (Cs #[Bv x2,s3,Bv x5,s6] 56)] [pW56 b13 x5 s6]) C ?_ ?_
     ·rcases Bool.eq_false_or_eq_true (decide ((x7.length:Int)=(0:Int))) with hb16 | hb16
      ·refine og H C hb16 (Z.field zap C C) λa H=>og H C hb16 (Z.load1 zaC C (X.p 0 C) C) λa H=>?_; refine og (v:=Bv ((decide ((x7.length:Int)=(0:Int)))&&x5)) H C hb15 (Z.pick C C C (by rw [hb16]; rfl)) ?_; clear H a; intro a H; exact O.nil ⟨C,H.q C,X⟩
      ·refine sk H C hb16 λa H=>sk H C hb16 λa H=>?_; refine og (v:=Bv ((decide ((x7.length:Int)=(0:Int)))&&x5)) H C hb15 (Z.pick C C C (by rw [hb16]; rfl)) ?_; clear H a; intro a H; exact O.nil ⟨C,H.q C,X⟩
     clear H X a; (try clear w); rintro a w ⟨H,X⟩; refine ov (v:=Bv (x14||((decide ((x7.length:Int)=(0:Int)))&&x5))) H C (Z.pick C C C (by rw [hb15]; rfl)) ?_; clear H a; intro a H; exact O.nil ⟨C,H.q C,X⟩
   clear H X a; (try clear w); rintro a w ⟨H,X⟩; refine nk ?_; replace X:=X.s0; refine W.if_ H C (λhc17=>?_) (λhc17=>?_)
   ·nomatch hm_t M hc17
   ·replace M:=hm_f M hc17; refine W.skip<|kbn<|ksq<|wrL (l:=[0,1]) C<|ov H C (Z.add (p:=1) (q:=1) C C) λa H=>mv H C λa H=>O.nil<|?_; refine kth (LH.step ?_); refine sg (l:=[0]) C<|ov H C (Z.lss (p:=2) (q:=2) C C) λa H=>nk<|W.seq<|W.if_ff H C<|W.exit<|kte<|kte<|kbk<|?_; exact kth ⟨H.q C,X,M⟩
 ·clear H X M a; (try clear w); rintro a w ⟨H,X,M⟩; unfold zec at M; refine sg (l:=[0]) C<|mv H C λa H=>nk<|W.ret<|?_; obtain rfl:=oj M; refine post1 H C (rkt C) ?_; exact ⟨(),C,X.noB⟩
def zff (F:Nat) (x7:List Int):Option (List Int) :=
  some x7
def zfg (F:Nat) (rec10:(List Int)→Int→Option (List Int)) (x9:Int) (x12:List Int) (x13 x14:Int):Option (List Int) :=
  rec10 x12 (i64.wrap (x9+1))
def zfh (F:Nat) (x9:Int) (x4:List Int) (rec10:(List Int)→Int→Option (List Int)) (x16:List Int) (x17 x18:Int):Option (List Int) :=
  (idx x16 (i64.wrap (x9+(x4.length:Int)))).bind λx19=>zfg F rec10 x9 (x16.set (Int.toNat (i64.wrap (x9+(x4.length:Int)))) (u32.wrap x17)) x17 x18
def zfi (F:Nat) (x4:List Int) (x9 x15:Int) (rec10:(List Int)→Int→Option (List Int)) (rec23:(List Int)→Int→Int→Option (List Int)) (x20:List Int) (x21 x22:Int):Option (List Int) :=
  if x22<((x4.length:Int):Int) then ((idx x4 x22).bind λx25=>(idx x20 (i64.wrap (x9+x22))).bind λx26=>(some (u64.wrap (x21+(u64.wrap ((u64.wrap ((u64.wrap x15)*(u64.wrap x25)))+(u64.wrap x26)))))).bind λx27=>rec23 (x20.set (Int.toNat (i64.wrap (x9+x22))) (u32.wrap x27)) (Int.fdiv x27 (2^32)) (i64.wrap (x22+1))) else (zfh F x9 x4 rec10 x20 x21 x22)
def zcU (F:Nat) (x4:List Int) (x9 x15:Int) (rec10:(List Int)→Int→Option (List Int)):Nat→(List Int)→Int→Int→Option (List Int)
  | 0,_,_,_=>none
  | n+1,x20,x21,x22=>zfi F x4 x9 x15 rec10 (zcU F x4 x9 x15 rec10 n) x20 x21 x22
def zfj (F:Nat) (x2 x4:List Int) (rec10:(List Int)→Int→Option (List Int)) (x8:List Int) (x9:Int):Option (List Int) :=
  if x9<((x2.length:Int):Int) then ((idx x2 x9).bind λx15=>zcU F x4 x9 x15 rec10 F x8 0 0) else (zff F x8)
def zcV (F:Nat) (x2 x4:List Int):Nat→(List Int)→Int→Option (List Int)
  | 0,_,_=>none
  | n+1,x8,x9=>zfj F x2 x4 (zcV F x2 x4 n) x8 x9
def zgu (F:Nat) (x2 x4:List Int):Option (List Int) :=
  if 0≤(i64.wrap ((x2.length:Int)+(x4.length:Int)))∧(i64.wrap ((x2.length:Int)+(x4.length:Int)))≤4294967296 then zcV F x2 x4 F (List.replicate (Int.toNat (i64.wrap ((x2.length:Int)+(x4.length:Int)))) (0:Int)) 0 else none
theorem zh7 (F:Nat) (s1:Value) (x2:List Int) (s3:Value) (x4:List Int) (w0:World) (h_s1:rdEOK (hp w0) 1 E92 s1 x2) (h_s3:rdEOK (hp w0) 1 E92 s3 x4) (r:List Int) (M:zgu F x2 x4=some r) :
    Ret Tryz.prog 45 #[s1,s3] w0 (G:=Value) (λg1=>g1) (λg1 w=>St w0 w noX [] [sE92 g1 r]):=by
 unfold zgu at M; refine roW Tryz.func45 C C C (λa H=>?_); have X:St w0 w0 noX [rE92 s1 x2,rE92 s3 x4] []:=Sbw (lnc (lendRd h_s1) (lnc (lendRd h_s3) lnn)); refine sg (l:=[0]) C<|mv H C λa H=>nk<|sg (l:=[0,1,2,3,4,5,6]) C<|mv H C λa H=>ov (v:=Iv (x2.length:Int)) H C (Z.lenE (e:=92) (by simpa using zad) C (X.b 0 C)) λa H=>mv H C λa H=>ov (v:=Iv (x4.length:Int)) H C (Z.lenE (e:=92) (by simpa using zad) C (X.b 1 C)) λa H=>ov H C (Z.add C C) λa H=>?_; obtain ⟨hg5,M⟩:=hm_g M; refine O.makeE (enc:=E92) (x0:=(0:Int)) H X C C zad zag zbV za9 C C C hg5 C E92_len C ?_; intro s6 w a X H; refine mv H C λa H=>nk<|?_; refine W.seqR (λa w=>∃ (x7:List Int),Fr a 66 [] [(4,.slice none 0 0),(5,s6)]∧St w0 w noX [rE92 s1 x2,rE92 s3 x4] [sE92 s6 x7]∧zff F x7=some r) ?_ ?_
 ·refine sg (l:=[0,1,2]) C<|mv H C λa H=>ov (v:=Iv (x2.length:Int)) H C (Z.lenE (e:=92) (by simpa using zad) C (X.b 0 C)) λa H=>mv H C λa H=>nk<|?_; refine W.block<|W.loop (G:=Nat × (List Int) × Int) (λg a w=>match g with | (k10,x8,x9)=>Fr a 66 [] [(1,s3),(4,.slice none 0 0),(5,s6),(17,s1),(18,Iv (x2.length:Int)),(19,Iv x9)]∧St w0 w noX [rE92 s1 x2,rE92 s3 x4] [sE92 s6 x8]∧zcV F x2 x4 k10 x8 x9=some r) (λg=>match g with | (k10,x8,x9)=>k10) (F,List.replicate (Int.toNat (i64.wrap ((x2.length:Int)+(x4.length:Int)))) (0:Int),0) ⟨H.q C,X,M⟩<|?_; clear H X M a; (try clear w); rintro ⟨k10,x8,x9⟩ a w ⟨H,X,M⟩
  rcases k10 with _ | k10
  · nomatch M
  replace M:zfj F x2 x4 (zcV F x2 x4 k10) x8 x9=some r:=M; obtain ⟨rec10,hrec10⟩:∃ f,f=zcV F x2 x4 k10:=⟨_,C⟩; rw [← hrec10] at M; unfold zfj at M; refine sg (l:=[0]) C<|ov H C (Z.lss C C) λa H=>nk<|W.seq<|?_; refine W.ifdI H C (λhc11=>?_) (λhc11=>?_)
  ·replace M:=hm_p M hc11; refine W.skip<|ksq<|?_; refine W.seqR (λa w=>∃ (x12:List Int) (x13:Int) (x14:Int),Fr a 66 [] [(1,s3),(4,.slice none 0 0),(5,s6),(8,Uv x13),(17,s1),(18,Iv (x2.length:Int)),(19,Iv x9),(26,Iv x14)]∧St w0 w noX [rE92 s1 x2,rE92 s3 x4] [sE92 s6 x12]∧zfg F rec10 x9 x12 x13 x14=some r) ?_ ?_
   ·refine W.block<|sg (l:=[0,1,2,3,4]) C<|mv H C λa H=>?_; obtain ⟨x15,hx15,M⟩:=hm_b M; refine ov H C (Z.ixE zad zag C C (X.b 0 C) hx15) λa H=>ov H C (Z.ldE1 (o:=0) zaD E92_len C (X.b 0 C) hx15 C C) λa H=>mv2 H C C λa H=>nk<|sg (l:=[0]) C<|mv H C λa H=>nk<|?_; refine W.seqR (λa w=>∃ (x16:List Int) (x17:Int) (x18:Int),Fr a 66 [] [(1,s3),(4,.slice none 0 0),(5,s6),(6,Iv x9),(8,Uv x17),(17,s1),(18,Iv (x2.length:Int)),(19,Iv x9),(26,Iv x18)]∧St w0 w noX [rE92 s1 x2,rE92 s3 x4] [sE92 s6 x16]∧zfh F x9 x4 rec10 x16 x17 x18=some r) ?_ ?_
    ·refine sg (l:=[0,1,2]) C<|mv H C λa H=>ov (v:=Iv (x4.length:Int)) H C (Z.lenE (e:=92) (by simpa using zad) C (X.b 1 C)) λa H=>mv H C λa H=>nk<|W.block<|W.loop (G:=Nat × (List Int) × Int × Int) (λg a w=>match g with | (k23,x20,x21,x22)=>Fr a 66 [] [(1,s3),(4,.slice none 0 0),(5,s6),(6,Iv x9),(7,.int .u32 x15),(8,Uv x21),(17,s1),(18,Iv (x2.length:Int)),(19,Iv x9),(24,s3),(25,Iv (x4.length:Int)),(26,Iv x22)]∧St w0 w noX [rE92 s1 x2,rE92 s3 x4] [sE92 s6 x20]∧zcU F x4 x9 x15 rec10 k23 x20 x21 x22=some r) (λg=>match g with | (k23,x20,x21,x22)=>k23) (F,x8,0,0) ⟨H.q C,X,M⟩<|?_; clear H X M a; (try clear w); rintro ⟨k23,x20,x21,x22⟩ a w ⟨H,X,M⟩
     rcases k23 with _ | k23
     · nomatch M
     replace M:zfi F x4 x9 x15 rec10 (zcU F x4 x9 x15 rec10 k23) x20 x21 x22=some r:=M; obtain ⟨rec23,hrec23⟩:∃ f,f=zcU F x4 x9 x15 rec10 k23:=⟨_,C⟩; rw [← hrec23] at M; unfold zfi at M; refine sg (l:=[0]) C<|ov H C (Z.lss C C) λa H=>nk<|W.seq<|?_; refine W.ifdI H C (λhc24=>?_) (λhc24=>?_)
     ·replace M:=hm_p M hc24; refine W.skip<|ksq<|W.seq<|W.block<|sg (l:=[0,1,2,3,4]) C<|mv H C λa H=>?_; obtain ⟨x25,hx25,M⟩:=hm_b M; refine ov H C (Z.ixE zad zag C C (X.b 1 C) hx25) λa H=>ov H C (Z.ldE1 (o:=0) zaD E92_len C (X.b 1 C) hx25 C C) λa H=>mv2 H C C λa H=>nk<|sg (l:=[0,1,2,3,4,5,6,7,8,9,10,11,12,13,14,15]) C<|mv2 H C C λa H=>ov (v:=Uv (u64.wrap x15)) H C (Z.conv zbh zaG C) λa H=>mv H C λa H=>?_; refine ov (v:=Uv (u64.wrap x25)) H C (Z.conv zbh zaG C) λa H=>ov H C (Z.mul C C) λa H=>mv2 H C C λa H=>mv H C λa H=>ov H C (Z.add C C) λa H=>?_; obtain ⟨x26,hx26,M⟩:=hm_b M; refine ov H C (Z.ixE zad zag C C (X.s 0 C) hx26) λa H=>ov H C (Z.ldE1 (o:=0) zaD E92_len C (X.s 0 C) hx26 C C) λa H=>ov (v:=Uv (u64.wrap x26)) H C (Z.conv zbh zaG C) λa H=>ov H C (Z.add C C) λa H=>ov H C (Z.add C C) λa H=>mv H C λa H=>nk<|?_; obtain ⟨x27,hx27,M⟩:=hm_b M; rw [oj hx27] at H; refine sg (l:=[0,1,2,3,4,5,6,7]) C<|mv2 H C C λa H=>mv H C λa H=>ov H C (Z.add C C) λa H=>mv H C λa H=>ov (v:=.int .u32 (u32.wrap x27)) H C (Z.conv za1 zbS C) λa H=>ov H C (Z.ixE zad zag C C (X.s 0 C) hx26) λa H=>O.storeE (j:=0) (o:=0) (y0:=(u32.wrap x27)) (l':=x20.set (Int.toNat (i64.wrap (x9+x22))) (u32.wrap x27)) (M':=[sE92 s6 (x20.set (Int.toNat (i64.wrap (x9+x22))) (u32.wrap x27))]) H X C C C zag C C C E92_len hx26 C C C C<|?_; intro w X; refine nk<|wrL (l:=[0,1,2]) C<|mv H C λa H=>ov (v:=Uv (Int.fdiv x27 (2^32))) H C (Z.shr (q:=32) C C (by decide)) λa H=>mv H C λa H=>O.nil<|kbn<|ksq<|wrL (l:=[0,1]) C<|ov H C (Z.add C C) λa H=>?_; refine mv H C λa H=>O.nil<|?_; refine kth ⟨(k23,x20.set (Int.toNat (i64.wrap (x9+x22))) (u32.wrap x27),Int.fdiv x27 (2^32),i64.wrap (x22+1)),⟨H.q C,X,?_⟩,Nat.lt_succ_self _⟩; rw [hrec23] at M; exact M
     ·replace M:=hm_n M hc24; refine W.exit<|kte<|kte<|kbk<|?_; exact kth ⟨x20,x21,x22,H.q C,X,M⟩
    ·clear H X M a; (try clear w); rintro a w ⟨x16,x17,x18,H,X,M⟩; unfold zfh at M; refine wrL (l:=[0,1,2,3,4,5,6,7,8]) C<|mv2 H C C λa H=>mv H C λa H=>ov (v:=Iv (x4.length:Int)) H C (Z.lenE (e:=92) (by simpa using zad) C (X.b 1 C)) λa H=>ov H C (Z.add C C) λa H=>mv H C λa H=>ov (v:=.int .u32 (u32.wrap x17)) H C (Z.conv za1 zbS C) λa H=>?_; obtain ⟨x19,hx19,M⟩:=hm_b M; refine ov H C (Z.ixE zad zag C C (X.s 0 C) hx19) λa H=>O.storeE (j:=0) (o:=0) (y0:=(u32.wrap x17)) (l':=x16.set (Int.toNat (i64.wrap (x9+(x4.length:Int)))) (u32.wrap x17)) (M':=[sE92 s6 (x16.set (Int.toNat (i64.wrap (x9+(x4.length:Int)))) (u32.wrap x17))]) H X C C C zag C C C E92_len hx19 C C C C<|?_; intro w X; refine O.nil<|kbn<|?_; exact kth ⟨x16.set (Int.toNat (i64.wrap (x9+(x4.length:Int)))) (u32.wrap x17),x17,x18,H.q C,X,M⟩
   ·clear H X M a; (try clear w); rintro a w ⟨x12,x13,x14,H,X,M⟩; unfold zfg at M; refine wrL (l:=[0,1]) C<|ov H C (Z.add C C) λa H=>mv H C λa H=>O.nil<|?_; refine kth ⟨(k10,x12,i64.wrap (x9+1)),⟨H.q C,X,?_⟩,Nat.lt_succ_self _⟩; rw [hrec10] at M; exact M
  ·replace M:=hm_n M hc11; refine W.exit<|kte<|kte<|kbk<|?_; exact kth ⟨x8,H.q C,X,M⟩
 ·clear H X M a; (try clear w); rintro a w ⟨x7,H,X,M⟩; unfold zff at M; refine sg (l:=[0,1]) C<|mv2 H C C λa H=>nk<|W.ret<|?_; obtain rfl:=oj M; refine post1 H C (rkt C) ?_; exact ⟨s6,C,X.noB⟩
def zbW (F:Nat) (x1:Bool) (x3:List Int) (x4:Bool) (x6:List Int):Option (Bool × (List Int)) :=
  (zbj F x1 x3 x4 x6).bind λx11=>(zgu F x3 x6).bind λx12=>(zaU F (!(x1 == x4)) x12).bind λx14=>some x14
theorem zbN (F:Nat) (x1:Bool) (s2:Value) (x3:List Int) (x4:Bool) (s5:Value) (x6:List Int) (w0:World) (h_s2:rdEOK (hp w0) 1 E92 s2 x3) (h_s5:rdEOK (hp w0) 1 E92 s5 x6) (r:Bool × (List Int)) (M:zbW F x1 x3 x4 x6=some r) :
    Ret Tryz.prog 16 #[.agg #[Bv x1,s2],.agg #[Bv x4,s5]] w0 (G:=Value) (λg1=>.tuple #[.agg #[Bv r.1,g1],Iv 0]) (λg1 w=>St w0 w noX [] [sE92 g1 r.2]):=by
 unfold zbW at M; refine roW Tryz.func16 C C C (λa H=>?_); have X:St w0 w0 noX [rE92 s2 x3,rE92 s5 x6] []:=Sbw (lnc (lendRd h_s2) (lnc (lendRd h_s5) lnn)); refine sg (l:=[0,1,2,3]) C<|O.box (cs:=#[Bv x1,s2]) H X C C C C<|?_; intro b7 w a hb7 X H; refine O.box (cs:=#[Bv x4,s5]) H X C C C C ?_; intro b8 w a hb8 X H; refine O.alloc (cs:=#[Bv false,.slice none 0 0]) H X C C zab C ?_; intro b9 w a hb9 X H; refine mv H C λa H=>nk<|W.seq<|sg (l:=[0,1,2,3,4]) C<|ov H C (lN (cs':=#[Bv x1,s2]) A_56 C (X.p 2 C) C C) λa H=>ov H C (lN (cs':=#[Bv x4,s5]) A_56 C (X.p 1 C) C C) λa H=>O.buildSlice (cs':=#[Bv x1,s2,Bv x4,s5]) (zs:=#[Bv false,.slice none 0 0,Bv false,.slice none 0 0]) H X C C za7 zaa zab C C C C C<|?_; intro b10 w a hb10 X H; obtain ⟨x11,hx11,M⟩:=hm_b M; refine oc H C zdV (zbt F b10 x1 s2 x3 x4 s5 x6 _ (X.b 0 C) (X.b 1 C) (X.p 0 C) x11 hx11) ?_; rintro _ w Y a H; replace X:=X.cl Y; refine mv H C λa H=>nk<|?_; replace X:=X.sl [0,1,1,1]; refine sg (l:=[0,1]) C<|mv H C λa H=>ov H C (Z.neq (p:=0) (q:=0) C C) λa H=>nk<|W.if_ff H C<|W.skip<|ksq<|W.seq<|?_; have J:Fr a 28 [] [(5,Iv 0)]:=H.q C; obtain ⟨x12,hx12,M⟩:=hm_b M; obtain ⟨x14,hx14,M⟩:=hm_b M; refine W.drawK (γ:=Value × Value) (L0:=[(2,Pv b7 0),(3,Pv b8 0),(4,Pv b9 0)]) (L1:=[(5,Iv 0)]) (undef,undef) [9,10,13] [] [0,1,2,3,4,5,6,7,8,11,12,14] (λi=>match i with | 1=>[0] | 3=>[2] | 4=>[1,3] | 6=>[5] | 8=>[7] | 9=>[6,8] | 10=>[4,9] | 11=>[10] | 12=>[10] | 13=>[0,1,2,3,4,5,6,7,8,9,10,11,12] | 14=>[0,1,2,3,4,5,6,7,8,9,10,11,12,13] | _=>[]) (λ_=>[]) (λi=>match i with | 9=>[10,11,12,13,14] | 10=>[11,12,13,14] | 13=>[14] | _=>[]) (λ_=>[]) (λi=>match i with | 10=>1 | 11=>2 | 12=>2 | 13=>2 | 14=>3 | _=>0) (λi=>match i with | 0=>1 | 1=>1 | 2=>1 | 3=>1 | 4=>1 | 9=>1 | 10=>2 | 11=>2 | 12=>2 | 13=>3 | 14=>3 | _=>0) (λ(g:Value × Value) j=>match j with | 0=>Pv b7 0 | 1=>Bv x1 | 2=>Pv b8 0 | 3=>Bv x4 | 4=>Bv (!(x1 == x4)) | 5=>Pv b7 1 | 6=>s2 | 7=>Pv b8 1 | 8=>s5 | 9=>g.1 | 10=>.tuple #[.agg #[Bv x14.1,g.2],Iv 0] | 11=>.agg #[Bv x14.1,g.2] | 12=>Iv 0 | 14=>Iv 0 | _=>undef) (λk s (g:Value × Value) w=>match k with | 0=>St w0 w noX [rE92 s2 x3,rE92 s5 x6] [pt b9 (Cs #[Bv false,.slice none 0 0] 56),pW56 b8 x4 s5,pW56 b7 x1 s2] | 1=>St w0 w noX [rE92 s2 x3,rE92 s5 x6] [sE92 g.1 x12,pt b9 (Cs #[Bv false,.slice none 0 0] 56),pW56 b8 x4 s5,pW56 b7 x1 s2] | 2=>St w0 w noX [rE92 s2 x3,rE92 s5 x6] [sE92 g.2 x14.2,pt b9 (Cs #[Bv false,.slice none 0 0] 56),pW56 b8 x4 s5,pW56 b7 x1 s2] | _=>St w0 w noX [rE92 s2 x3,rE92 s5 x6] [sE92 g.2 x14.2,pt b9 (Cs #[Bv x14.1,g.2] 56),pW56 b8 x4 s5,pW56 b7 x1 s2]) P_mixed (by kernel_rfl) (H.q C) J X.drew ?_ ?_ ?_ ?_
 ·clear H J X; refine ⟨λk s g w _ _ _ X a H=>Q.val (v:=Pv b7 0) C C C X H (Z.field zap C C),?_,λk s g w _ _ _ X a H=>Q.val (v:=Pv b8 0) C C C X H (Z.field zap C C),?_,λk s g w _ _ _ X a H=>Q.val (v:=Bv (!(x1 == x4))) C C C X H (Z.neBool zg5 C C),λk s g w _ _ _ X a H=>Q.val (v:=Pv b7 1) C C C X H (Z.field zaq C C),?_,λk s g w _ _ _ X a H=>Q.val (v:=Pv b8 1) C C C X H (Z.field zaq C C),?_,λk s g w _ _ _ X a H=>Q.val (v:=.agg #[Bv x14.1,g.2]) C C C X H (Z.extract C C),λk s g w _ _ _ X a H=>Q.val (v:=Iv 0) C C C X H (Z.extract C C),λk s g w _ _ _ X a H=>Q.val (v:=Iv 0) C C C X H (Z.assign C),trivial⟩
  ·intro k s g w h1_ h2_ hsp X a H; obtain ⟨s13,s15⟩:=g
   rcases k with _ | _ | k
   ·exact Q.val (v:=Bv x1) C C C X H (Z.load1 zaC C (X.p 2 C) C)
   ·exact Q.val (v:=Bv x1) C C C X H (Z.load1 zaC C (X.p 3 C) C)
   ·simp at h2_
  ·intro k s g w h1_ h2_ hsp X a H; obtain ⟨s13,s15⟩:=g
   rcases k with _ | _ | k
   ·exact Q.val (v:=Bv x4) C C C X H (Z.load1 zaC C (X.p 1 C) C)
   ·exact Q.val (v:=Bv x4) C C C X H (Z.load1 zaC C (X.p 2 C) C)
   ·simp at h2_
  ·intro k s g w h1_ h2_ hsp X a H; obtain ⟨s13,s15⟩:=g
   rcases k with _ | k
   ·exact Q.val (v:=s2) C C C X H (Z.load1 zar C (X.p 2 C) C)
   ·simp at h2_
  ·intro k s g w h1_ h2_ hsp X a H; obtain ⟨s13,s15⟩:=g
   rcases k with _ | k
   ·exact Q.val (v:=s5) C C C X H (Z.load1 zar C (X.p 1 C) C)
   ·simp at h2_
 ·clear H J X; refine ⟨?_,?_,?_,trivial⟩
  ·intro s g w hsp X a H; obtain ⟨s13,s15⟩:=g; refine oc H C zjT (zh7 F s2 x3 s5 x6 _ (X.b 0 C) (X.b 1 C) x12 hx12) ?_; rintro s13 w Y a H; replace X:=X.cl Y; exact nE 24 H (s13,s15) C C (jl 15 (by kernel_rfl) λ_=>C) X
  ·intro s g w hsp X a H; obtain ⟨s13,s15⟩:=g; refine oc H C zcK (zaO F (!(x1 == x4)) s13 x12 _ (X.slS (j:=0) C) x14 hx14) ?_; rintro s15 w Y a H; replace X:=X.cz Y 0 λ_ h=>h; exact nE 25 H (s13,s15) C C (jl 15 (by kernel_rfl) λ_=>C) X
  ·intro s g w hsp X a H; obtain ⟨s13,s15⟩:=g; refine ost 1 #[Bv x14.1,s15] H X C C C zaa C (occ C (occ (rdo (X.s 0 C)) C)) C (bl C) C ?_; intro w X; exact O.nil ⟨C,(s13,s15),H.to trivial,(λd hd=>by cases (show none=some d from hd)),(λ_ _ _=>C),X⟩
 ·clear H J X; exact trivial
 clear H J X; intro s g a w hs H X; obtain ⟨s13,s15⟩:=g; refine ksq ?_; replace X:=X.sl [1,1]; refine W.ret ?_; obtain rfl:=oj M; refine post2 H C (rkn (cs':=#[Bv x14.1,s15]) C zao zaa (X.p 1 C) (bl C) C) (rkt C) ?_; replace X:=X.sl [1]; exact ⟨s15,C,X.noB⟩
def zdW (F:Nat) (x1 x2:Int):Option (Bool × (List Int)) :=
  (zbe F x1).bind λx4=>(zbe F x2).bind λx6=>(zbW F x4.1 x4.2 x6.1 x6.2).bind λx8=>some x8
theorem zfZ (F:Nat) (x1 x2:Int) (w0:World) (r:Bool × (List Int)) (M:zdW F x1 x2=some r) :
    Ret Tryz.prog 15 #[Iv x1,Iv x2] w0 (G:=Value) (λg1=>.agg #[Bv r.1,g1]) (λg1 w=>St w0 w noX [] [sE92 g1 r.2]):=by
 unfold zdW at M; refine roW Tryz.func15 C C C (λa H=>?_); have X:St w0 w0 noX [] []:=Sbw lnn; refine sg (l:=[0]) C<|O.alloc (cs:=#[Bv false,.slice none 0 0]) H X C C zab C<|?_; intro b3 w a hb3 X H; refine nk<|sg (l:=[0,1,2,3,4,5,6,7,8,9,10]) C<|mv H C λa H=>?_; obtain ⟨x4,hx4,M⟩:=hm_b M; refine oc H C zdU (za8 F x1 _ x4 hx4) ?_; rintro s5 w Y a H; replace X:=X.cl Y; refine mv H C λa H=>?_; obtain ⟨x6,hx6,M⟩:=hm_b M; refine oc H C zdU (za8 F x2 _ x6 hx6) ?_; rintro s7 w Y a H; replace X:=X.cl Y; obtain ⟨x8,hx8,M⟩:=hm_b M; refine oc H C zfe (zbN F x4.1 s5 x4.2 x6.1 s7 x6.2 _ (X.s 1 C) (X.s 0 C) x8 hx8) ?_; rintro s9 w Y a H; replace X:=X.cl Y; refine mv H C λa H=>ex H C C C λa H=>ex H C C C λa H=>O.alloc (cs:=#[Bv false,.slice none 0 0]) H X C C zab C<|?_; intro b10 w a hb10 X H; refine ost 0 #[Bv x8.1,s9] H X C C C zaa C (occ C (occ (rdo (X.s 1 C)) C)) C (bl C) C ?_; intro w X; refine mv H C λa H=>nk<|?_; replace X:=X.sl [1,1,0,0,1]; refine sg (l:=[0,1]) C<|ov H C (lN (cs':=#[Bv x8.1,s9]) A_56 C (X.p 0 C) C C) λa H=>ost 2 #[Bv x8.1,s9] H X C C C zaa C (occ C (occ (rdo (X.s 1 C)) C)) C (bl C) C<|?_; intro w X; refine nk ?_; replace X:=X.sl [0,1,1]; refine W.ret ?_; obtain rfl:=oj M; refine post1 H C (rkn (cs':=#[Bv x8.1,s9]) C zao zaa (X.p 1 C) (bl C) C) ?_; replace X:=X.sl [1]; exact ⟨s9,C,X.noB⟩
def zeP (F:Nat) (x2:List Int):Option Unit :=
  some ()
theorem zfG (F:Nat) (s1:Value) (x2:List Int) (w0:World) (h_s1:rdEOK (hp w0) 1 E92 s1 x2) (r:Unit) (M:zeP F x2=some r) :
    Ret Tryz.prog 113 #[s1] w0 (G:=Nat) (λg1=>.func (.func 141) #[] #[Pv g1 0]) (λg1 w=>St w0 w noX [] [pt g1 (Cs #[s1] 54)]):=by
 unfold zeP at M; refine roW Tryz.func113 C C C (λa H=>?_); have X:St w0 w0 noX [rE92 s1 x2] []:=Sbw (lnc (lendRd h_s1) lnn); refine sg (l:=[0,1]) C<|O.box (cs:=#[s1]) H X C C C (rdc (X.b 0 C))<|?_; intro b3 w a hb3 X H; refine mv H C λa H=>nk<|sg (l:=[0,1]) C<|ov (v:=.func (.func 141) #[] #[Pv b3 0]) H C (Z.makeFunc C C C C) λa H=>mv H C λa H=>nk<|W.ret<|?_; obtain rfl:=oj M; refine post1 H C (rkt C) ?_; exact ⟨b3,C,X.noB⟩
theorem iter_141 (b:Nat) (s:Value) (l:List Int):IterX Tryz.prog 141 #[Pv b 0] ((downL l).map λp=>(Iv p.1,.int .u32 p.2)) (RdAt 54 1 E92 b s l):=by
  intro lp R S hdrew hrd hy w h0; refine calls_of_W (l:=[.func (.yield lp) #[] #[],Pv b 0]) Tryz.func141 C C C (λa H=>?_); replace H:Fr a 19 [] [(0,.func (.yield lp) #[] #[]),(1,Pv b 0)]:=H.q C; obtain ⟨hb,hr⟩:=hrd 0 w h0; have hlen:=hr.le; refine sg (l:=[0,1,2,3]) C<|ov (v:=s) H C (Z.load1 zar C hb C) λa H=>ov H C (Z.lenE (e:=92) (by simpa using zad) C hr) λa H=>ov H C (Z.sub C C) λa H=>mv H C λa H=>nk<|?_; have hw1:IntKind.i64.wrap ((l.length:Int)-1)=(l.length:Int)-1-(0:Nat):=by
    rw [IntKind.wrap_i64]; unfold maxLen at hlen; omega
  rw [hw1] at H; replace H:Fr a 19 [] [(0,.func (.yield lp) #[] #[]),(1,Pv b 0),(3,Iv ((l.length:Int)-1-(0:Nat)))]:=H.q C; refine W.block<|W.loop (G:=Nat) (λk a w=>Fr a 19 [] [(0,.func (.yield lp) #[] #[]),(1,Pv b 0),(3,Iv ((l.length:Int)-1-k))]∧R k w∧k≤l.length) (λk=>l.length-k) 0 ⟨H,h0,Nat.zero_le _⟩<|?_; clear H hb hr h0 a; (try clear w); rintro k a w ⟨H,hR,hk⟩; obtain ⟨hb,hr⟩:=hrd k w hR; refine W.seq<|sg (l:=[0,1]) C<|mv H C λa H=>ov H C (Z.geq C C) λa H=>nk<|?_; refine W.ifdI H C (λhc=>?_) (λhc=>?_)
  · refine W.skip ?_
    refine ksq ?_; have hk1:k<l.length:=by omega
    have hi:idx l ((l.length:Int)-1-k)=some l[l.length-1-k]:=by
      unfold idx; rw [if_pos (by omega),List.getElem?_eq_some_iff]; refine ⟨by omega,?_⟩
      congr 1; omega
    have hx:((downL l).map λp=>(Iv p.1,Value.int .u32 p.2))[k]? = some (Iv ((l.length:Int)-1-k),.int .u32 l[l.length-1-k]):=by
      rw [List.getElem?_map,downL_get hk1]; simp only [Option.map_some,Option.some.injEq,Prod.mk.injEq,and_true]
      congr 1; omega
    refine W.seq<|W.block<|sg (l:=[0,1,2,3,4,5,6,7]) C<|mv H C λa H=>mv H C λa H=>ov (v:=s) H C (Z.load1 zar C hb C) λa H=>mv H C λa H=>ov (v:=ix s _) H C (Z.ixE zad zag C C hr hi) λa H=>ov H C (Z.ldE1 (o:=0) zaD E92_len C hr hi C C) λa H=>O.yield2 H C C C C C (hy k _ hx w hR)<|?_; clear H hR hb hr a; (try clear w); intro c w a hc2 H; refine ov H C (Z.not C) λa H=>nk<|?_
    rcases hc2 with ⟨rfl,hR⟩ | ⟨rfl,hR⟩
    · refine W.if_ff H C ?_
      refine W.skip<|kbn<|ksq<|wrL (l:=[0,1,2]) C<|mv H C λa H=>ov H C (Z.sub C C) λa H=>mv H C λa H=>O.nil<|?_; have hw2:IntKind.i64.wrap ((l.length:Int)-1-k-1)=(l.length:Int)-1-(k+1:Nat):=by
        rw [IntKind.wrap_i64]; unfold maxLen at hlen; omega
      rw [hw2] at H; refine kth ⟨k+1,⟨H.q C,hR,by omega⟩,by omega⟩
    · refine W.if_tt H C ?_
      refine W.ret<|kbr<|ktr<|ktr<|kbr<|?_; refine post0 (H.to (L':=[]) trivial) C ⟨⟨_,C⟩,.inr hR⟩
  · refine W.exit ?_
    refine kte<|kte<|kbk<|?_; have hk2:k=l.length:=by omega
    subst hk2
    refine post_normal ?_; refine post0 (H.to (L':=[]) trivial) C ⟨⟨_,C⟩,.inl (by rw [List.length_map,downL_len]; exact hR)⟩
def zcc (F:Nat) (x14:Int):Option Int :=
  some x14
def zeB (F:Nat)  :Option Int :=
  some 0
def zeC (F:Nat) (x4:List Int) (rec11:Option Int) (x12 x13:Int) :Option Int :=
  (idx x4 x12).bind λx15=>if x13<(x15:Int) then (zcc F (-1)) else (if x13>(x15:Int) then (zcc F 1) else (rec11))
def zbi (F:Nat) (x4:List Int):List (Int × Int)→Option Int
  | []=>zeB F
  | p::t=>zeC F x4 (zbi F x4 t) p.1 p.2
def zcs (F:Nat) (x2 x4:List Int):Option Int :=
  if (x2.length:Int)≠((x4.length:Int):Int) then (if (x2.length:Int)<((x4.length:Int):Int) then (some (-1)) else (some 1)) else ((zeP F x2).bind λx9=>zbi F x4 (downL x2))
theorem zc7 (F:Nat) (s1:Value) (x2:List Int) (s3:Value) (x4:List Int) (w0:World) (h_s1:rdEOK (hp w0) 1 E92 s1 x2) (h_s3:rdEOK (hp w0) 1 E92 s3 x4) (r:Int) (M:zcs F x2 x4=some r) :
    Ret Tryz.prog 82 #[s1,s3] w0 (G:=Unit) (λ_=>Iv r) (λ_ w=>St w0 w noX [] []):=by
 unfold zcs at M; refine ret_of_WM (lv:=[s1,s3]) Tryz.func82 C C C (λa H=>?_); have X:St w0 w0 noX [rE92 s1 x2,rE92 s3 x4] []:=Sbw (lnc (lendRd h_s1) (lnc (lendRd h_s3) lnn)); replace X:=X.mk0; refine sg (l:=[0,1]) C<|O.box (cs:=#[s3]) H X C C C (rdc (X.b 1 C))<|?_; intro b5 w a hb5 X H; refine O.alloc (cs:=#[Iv 0]) H X C C zjQ C ?_; intro b6 w a hb6 X H; refine nk<|W.seq<|sg (l:=[0,1,2,3,4]) C<|mv H C λa H=>ov (v:=Iv (x2.length:Int)) H C (Z.lenE (e:=92) (by simpa using zad) C (X.b 0 C)) λa H=>ov (v:=s3) H C (Z.load1 zar C (X.p 1 C) C) λa H=>ov (v:=Iv (x4.length:Int)) H C (Z.lenE (e:=92) (by simpa using zad) C (X.b 1 C)) λa H=>ov H C (Z.neq C C) λa H=>nk<|?_; refine W.ifdI H C (λhc7=>?_) (λhc7=>?_)
 ·replace M:=hm_p M hc7; refine W.seq<|sg (l:=[0,1,2,3,4]) C<|mv H C λa H=>ov (v:=Iv (x2.length:Int)) H C (Z.lenE (e:=92) (by simpa using zad) C (X.b 0 C)) λa H=>ov (v:=s3) H C (Z.load1 zar C (X.p 1 C) C) λa H=>ov (v:=Iv (x4.length:Int)) H C (Z.lenE (e:=92) (by simpa using zad) C (X.b 1 C)) λa H=>ov H C (Z.lss C C) λa H=>nk<|?_; refine W.ifdI H C (λhc8=>?_) (λhc8=>?_)
  ·replace M:=hm_p M hc8; refine sg (l:=[0]) C<|ost 0 #[Iv (-1)] H X C C C zgs C C C (bl C) C<|?_; intro w X; refine nk<|W.ret<|ktr<|ktr<|?_; replace X:=X.fr 1; replace X:=X.fr 1; replace X:=X.fr 2; refine postM (Ds:=[]) X H (λw a H X=>?_); obtain rfl:=oj M; refine post1 H C (rkc C zbf (X.p 0 C) C) ?_; replace X:=X.s0; exact ⟨(),C,X.noB⟩
  ·replace M:=hm_n M hc8; refine W.skip<|ksq<|sg (l:=[0]) C<|ost 0 #[Iv 1] H X C C C zgs C C C (bl C) C<|?_; intro w X; refine nk<|W.ret<|ktr<|?_; replace X:=X.fr 1; replace X:=X.fr 1; replace X:=X.fr 2; refine postM (Ds:=[]) X H (λw a H X=>?_); obtain rfl:=oj M; refine post1 H C (rkc C zbf (X.p 0 C) C) ?_; replace X:=X.s0; exact ⟨(),C,X.noB⟩
 ·replace M:=hm_n M hc7; refine W.skip<|ksq<|W.seq<|sg (l:=[0,1]) C<|mv H C λa H=>?_; obtain ⟨x9,hx9,M⟩:=hm_b M; refine oc H C zhS (zfG F s1 x2 _ (X.b 0 C) x9 hx9) ?_; rintro b10 w Y a H; replace X:=X.cl Y; refine nk<|W.block<|?_; replace X:=X.fr 1; replace X:=X.fr 2; replace X:=X.fr 3; refine W.rangeFn2 (G:=Unit) (G2:=Int) (gf:=141) (lb:=#[Pv b10 0]) (xs:=(downL x2).map (λp:Int × Int=>(Iv p.1,Value.int .u32 p.2))) (λx y=>[(3,Pv b5 0),(4,Pv b6 0),(5,x),(6,y),(18,.func (.func 141) #[] #[Pv b10 0]),(19,x),(20,y)]) (λg=>match g with | _=>[mkA [],pt b5 (Cs #[s3] 54),pI3 b6 0,pt b10 (Cs #[s1] 54)]) (λk g=>match g with | _=>zbi F x4 ((downL x2).drop k)=some r) () (RdAt 54 1 E92 b10 s1 x2) (λg=>match g with | x14=>[mkA [],pt b5 (Cs #[s3] 54),pI3 b6 x14,pt b10 (Cs #[s1] 54)]) (λg=>match g with | x14=>zcc F x14=some r) H C C C zhU X M (iter_141 _ _ _) ?_ ?_ ?_ ?_ ?_
  ·rintro _ w X; replace X:St w0 w noX [rE92 s1 x2,rE92 s3 x4] [mkA [],pt b5 (Cs #[s3] 54),pI3 b6 0,pt b10 (Cs #[s1] 54)]:=X; exact ⟨X.ptAt (i:=3) C,(X.b 0 C)⟩
  ·clear H X M a; (try clear w); intro l x y w a H; refine sg (l:=[0]) C<|mv H C λa H=>nk<|wrL (l:=[0]) C<|mv H C λa H=>O.nil<|?_; exact ⟨C,H.q C,C⟩
  ·clear H X M a; (try clear w); rintro dl11 do11 dD11 k11 x y _ w hx M X a H; obtain ⟨⟨x12,x13⟩,hp,hxy⟩:=down_x hx; obtain ⟨rfl,rfl⟩:=Prod.mk.inj hxy; replace X:St w0 w noX [rE92 s1 x2,rE92 s3 x4] [pt dl11 do11,pt dD11 (.deferred (some [])),mkA [],pt b5 (Cs #[s3] 54),pI3 b6 0,pt b10 (Cs #[s1] 54)]:=X; replace M:zbi F x4 ((downL x2).drop k11)=some r:=M; rw [drop_cons hp] at M; replace M:zeC F x4 (zbi F x4 ((downL x2).drop (k11+1))) x12 x13=some r:=M; obtain ⟨rec11,hrec11⟩:∃ f,f=zbi F x4 ((downL x2).drop (k11+1)):=⟨_,C⟩; rw [← hrec11] at M; unfold zeC at M; refine W.block<|W.seq<|sg (l:=[0,1,2,3,4,5]) C<|mv H C λa H=>ov (v:=s3) H C (Z.load1 zar C (X.p 3 C) C) λa H=>mv H C λa H=>?_; obtain ⟨x15,hx15,M⟩:=hm_b M; refine ov H C (Z.ixE zad zag C C (X.b 1 C) hx15) λa H=>ov H C (Z.ldE1 (o:=0) zaD E92_len C (X.b 1 C) hx15 C C) λa H=>ov H C (Z.lss C C) λa H=>nk<|?_; refine W.ifdI H C (λhc16=>?_) (λhc16=>?_)
   ·replace M:=hm_p M hc16; refine sg (l:=[0]) C<|ost 4 #[Iv (-1)] H X C C C zgs C C C (bl C) C<|?_; intro w X; refine nk<|W.ret<|ktr<|kbr<|?_; exact .inr ⟨C,-1,M,X⟩
   ·replace M:=hm_n M hc16; refine W.skip<|ksq<|sg (l:=[0,1,2,3,4,5]) C<|mv H C λa H=>ov (v:=s3) H C (Z.load1 zar C (X.p 3 C) C) λa H=>mv H C λa H=>ov H C (Z.ixE zad zag C C (X.b 1 C) hx15) λa H=>ov H C (Z.ldE1 (o:=0) zaD E92_len C (X.b 1 C) hx15 C C) λa H=>ov H C (Z.gtr C C) λa H=>nk<|?_; refine W.ifdI H C (λhc17=>?_) (λhc17=>?_)
    ·replace M:=hm_p M hc17; refine sg (l:=[0]) C<|ost 4 #[Iv 1] H X C C C zgs C C C (bl C) C<|?_; intro w X; refine nk<|W.ret<|kbr<|?_; exact .inr ⟨C,1,M,X⟩
    ·replace M:=hm_n M hc17; refine W.skip<|kbn<|?_; exact .inl ⟨C,(),by rw [hrec11] at M; exact M,X⟩
  ·clear H X M a; (try clear w); rintro dD11 _ a w M X H; replace M:zbi F x4 ((downL x2).drop ((downL x2).map (λp:Int × Int=>(Iv p.1,Value.int .u32 p.2))).length)=some r:=M; rw [List.length_map,List.drop_length] at M; replace M:zeB F=some r:=M; unfold zeB at M; replace H:Fr a 33 (mkDs (dD11::[])) [(3,Pv b5 0),(4,Pv b6 0),(18,.func (.func 141) #[] #[Pv b10 0])]:=H.q C; replace X:St w0 w noX [rE92 s1 x2,rE92 s3 x4] (pt dD11 (.deferred (some []))::[mkA [],pt b5 (Cs #[s3] 54),pI3 b6 0,pt b10 (Cs #[s1] 54)]):=X; replace X:=X.mkCons; refine kbn<|ksq<|sg (l:=[0]) C<|ost 2 #[Iv 0] H X C C C zgs C C C (bl C) C<|?_; intro w X; refine nk<|W.ret<|?_; refine postM (Ds:=(dD11::[])) X H (λw a H X=>?_); obtain rfl:=oj M; refine post1 H C (rkc C zbf (X.p 1 C) C) ?_; replace X:=X.s0; exact ⟨(),C,X.noB⟩
  ·clear H X M a; (try clear w); rintro dD11 x14 a w M X H; replace M:zcc F x14=some r:=M; unfold zcc at M; replace H:Fr a 33 (mkDs (dD11::[])) [(3,Pv b5 0),(4,Pv b6 0),(18,.func (.func 141) #[] #[Pv b10 0])]:=H.q C; replace X:St w0 w noX [rE92 s1 x2,rE92 s3 x4] (pt dD11 (.deferred (some []))::[mkA [],pt b5 (Cs #[s3] 54),pI3 b6 x14,pt b10 (Cs #[s1] 54)]):=X; replace X:=X.mkCons; refine kbr<|ktr<|?_; refine postM (Ds:=(dD11::[])) X H (λw a H X=>?_); obtain rfl:=oj M; refine post1 H C (rkc C zbf (X.p 1 C) C) ?_; replace X:=X.s0; exact ⟨(),C,X.noB⟩
def zeD (F:Nat) (x1 x2 x3:Int):Option (Int × Int) :=
  (some (u64.wrap ((u64.wrap ((u64.wrap x1)+(u64.wrap x2)))+(u64.wrap x3)))).bind λx4=>(some (u32.wrap (Int.fdiv x4 (2^32)))).bind λx5=>some (u32.wrap x4,x5)
theorem zg6 (F:Nat) (x1 x2 x3:Int) (w0:World) (r:Int × Int) (M:zeD F x1 x2 x3=some r) :
    Ret Tryz.prog 89 #[.int .u32 x1,.int .u32 x2,.int .u32 x3] w0 (G:=Unit) (λ_=>.tuple #[.int .u32 r.1,.int .u32 r.2]) (λ_ w=>St w0 w noX [] []):=by
 unfold zeD at M; refine roW Tryz.func89 C C C (λa H=>?_); have X:St w0 w0 noX [] []:=Sbw lnn; refine sg (l:=[0,1]) C<|mv2 H C C λa H=>nk<|sg (l:=[0,1,2,3,4,5,6,7,8]) C<|mv H C λa H=>ov (v:=Uv (u64.wrap x1)) H C (Z.conv zbh zaG C) λa H=>mv H C λa H=>ov (v:=Uv (u64.wrap x2)) H C (Z.conv zbh zaG C) λa H=>ov H C (Z.add C C) λa H=>?_; refine mv H C λa H=>ov (v:=Uv (u64.wrap x3)) H C (Z.conv zbh zaG C) λa H=>ov H C (Z.add C C) λa H=>mv H C λa H=>nk<|?_; obtain ⟨x4,hx4,M⟩:=hm_b M; rw [oj hx4] at H; refine sg (l:=[0,1,2]) C<|mv H C λa H=>ov (v:=.int .u32 (u32.wrap x4)) H C (Z.conv za1 zbS C) λa H=>mv H C λa H=>nk<|sg (l:=[0,1,2,3]) C<|mv H C λa H=>ov (v:=Uv (Int.fdiv x4 (2^32))) H C (Z.shr (q:=32) C C (by decide)) λa H=>ov (v:=.int .u32 (u32.wrap (Int.fdiv x4 (2^32)))) H C (Z.conv za1 zbS C) λa H=>mv H C λa H=>?_; refine nk ?_; obtain ⟨x5,hx5,M⟩:=hm_b M; rw [oj hx5] at H; refine W.ret ?_; obtain rfl:=oj M; refine post2 H C (rkt C) (rkt C) ?_; exact ⟨(),C,X.noB⟩
def zfH (F:Nat) (x6 x11:List Int) (x12:Int):Option (List Int) :=
  (idx x11 (x6.length:Int)).bind λx13=>some (x11.set (Int.toNat (x6.length:Int)) x12)
def zev (F:Nat) (x19 x15:Int) (x14:List Int) (x16:Int) (rec17:(List Int)→Int→Int→Option (List Int)) (x20:Int):Option (List Int) :=
  (zeD F x19 x20 x15).bind λx21=>(idx x14 x16).bind λx22=>rec17 (x14.set (Int.toNat x16) x21.1) x21.2 (i64.wrap (x16+1))
def zfI (F:Nat) (x6 x8:List Int) (rec17:(List Int)→Int→Int→Option (List Int)) (x14:List Int) (x15 x16:Int):Option (List Int) :=
  if x16<((x6.length:Int):Int) then ((idx x6 x16).bind λx19=>if x16<((x8.length:Int):Int) then ((idx x8 x16).bind λx24=>zev F x19 x15 x14 x16 rec17 x24) else (zev F x19 x15 x14 x16 rec17 0)) else (zfH F x6 x14 x15)
def zdd (F:Nat) (x6 x8:List Int):Nat→(List Int)→Int→Int→Option (List Int)
  | 0,_,_,_=>none
  | n+1,x14,x15,x16=>zfI F x6 x8 (zdd F x6 x8 n) x14 x15 x16
def zew (F:Nat) (x6 x8:List Int):Option (List Int) :=
  if 0≤(i64.wrap ((x6.length:Int)+1))∧(i64.wrap ((x6.length:Int)+1))≤4294967296 then zdd F x6 x8 F (List.replicate (Int.toNat (i64.wrap ((x6.length:Int)+1))) (0:Int)) 0 0 else none
def zfS (F:Nat) (x2 x4:List Int):Option (List Int) :=
  if (x2.length:Int)<((x4.length:Int):Int) then (zew F x4 x2) else (zew F x2 x4)
theorem zgV (F:Nat) (s1:Value) (x2:List Int) (s3:Value) (x4:List Int) (w0:World) (h_s1:rdEOK (hp w0) 1 E92 s1 x2) (h_s3:rdEOK (hp w0) 1 E92 s3 x4) (r:List Int) (M:zfS F x2 x4=some r) :
    Ret Tryz.prog 48 #[s1,s3] w0 (G:=Value) (λg1=>g1) (λg1 w=>St w0 w noX [] [sE92 g1 r]):=by
 unfold zfS at M; refine roW Tryz.func48 C C C (λa H=>?_); have X:St w0 w0 noX [rE92 s1 x2,rE92 s3 x4] []:=Sbw (lnc (lendRd h_s1) (lnc (lendRd h_s3) lnn)); refine sg (l:=[0]) C<|mv H C λa H=>nk<|?_; refine W.seqR (λa w=>∃ (s5:Value) (x6:List Int) (s7:Value) (x8:List Int),Fr a 53 [] [(0,s5),(1,s7),(4,.slice none 0 0)]∧St w0 w noX [rE92 s1 x2,rE92 s3 x4,rE92 s5 x6,rE92 s7 x8] []∧zew F x6 x8=some r) ?_ ?_
 ·refine sg (l:=[0,1,2,3,4]) C<|mv H C λa H=>ov (v:=Iv (x2.length:Int)) H C (Z.lenE (e:=92) (by simpa using zad) C (X.b 0 C)) λa H=>mv H C λa H=>ov (v:=Iv (x4.length:Int)) H C (Z.lenE (e:=92) (by simpa using zad) C (X.b 1 C)) λa H=>ov H C (Z.lss C C) λa H=>nk<|?_; refine W.ifdI H C (λhc25=>?_) (λhc25=>?_)
  ·replace M:=hm_p M hc25; refine wrL (l:=[0,1,2,3]) C<|mv2 H C C λa H=>mv2 H C C λa H=>O.nil<|?_; replace X:=X.selB (B':=[rE92 s1 x2,rE92 s3 x4,rE92 s3 x4,rE92 s1 x2]) [0,1,1,0] C; exact kth ⟨s3,x4,s1,x2,H.q C,X,M⟩
  ·replace M:=hm_n M hc25; refine W.skip ?_; replace X:=X.selB (B':=[rE92 s1 x2,rE92 s3 x4,rE92 s1 x2,rE92 s3 x4]) [0,1,0,1] C; exact kth ⟨s1,x2,s3,x4,H.q C,X,M⟩
 ·clear H X M a; (try clear w); rintro a w ⟨s5,x6,s7,x8,H,X,M⟩; unfold zew at M; refine sg (l:=[0,1,2,3,4]) C<|mv H C λa H=>ov (v:=Iv (x6.length:Int)) H C (Z.lenE (e:=92) (by simpa using zad) C (X.b 2 C)) λa H=>ov H C (Z.add C C) λa H=>?_; obtain ⟨hg9,M⟩:=hm_g M; refine O.makeE (enc:=E92) (x0:=(0:Int)) H X C C zad zag zbV za9 C C C hg9 C E92_len C ?_; intro s10 w a X H; refine mv H C λa H=>nk<|sg (l:=[0]) C<|mv H C λa H=>nk<|?_; refine W.seqR (λa w=>∃ (x11:List Int) (x12:Int),Fr a 53 [] [(0,s5),(4,.slice none 0 0),(5,s10),(6,.int .u32 x12)]∧St w0 w noX [rE92 s1 x2,rE92 s3 x4,rE92 s5 x6,rE92 s7 x8] [sE92 s10 x11]∧zfH F x6 x11 x12=some r) ?_ ?_
  ·refine sg (l:=[0,1,2]) C<|mv H C λa H=>ov (v:=Iv (x6.length:Int)) H C (Z.lenE (e:=92) (by simpa using zad) C (X.b 2 C)) λa H=>mv H C λa H=>nk<|W.block<|W.loop (G:=Nat × (List Int) × Int × Int) (λg a w=>match g with | (k17,x14,x15,x16)=>Fr a 53 [] [(0,s5),(1,s7),(4,.slice none 0 0),(5,s10),(6,.int .u32 x15),(21,s5),(22,Iv (x6.length:Int)),(23,Iv x16)]∧St w0 w noX [rE92 s1 x2,rE92 s3 x4,rE92 s5 x6,rE92 s7 x8] [sE92 s10 x14]∧zdd F x6 x8 k17 x14 x15 x16=some r) (λg=>match g with | (k17,x14,x15,x16)=>k17) (F,List.replicate (Int.toNat (i64.wrap ((x6.length:Int)+1))) (0:Int),0,0) ⟨H.q C,X,M⟩<|?_; clear H X M a; (try clear w); rintro ⟨k17,x14,x15,x16⟩ a w ⟨H,X,M⟩
   rcases k17 with _ | k17
   · nomatch M
   replace M:zfI F x6 x8 (zdd F x6 x8 k17) x14 x15 x16=some r:=M; obtain ⟨rec17,hrec17⟩:∃ f,f=zdd F x6 x8 k17:=⟨_,C⟩; rw [← hrec17] at M; unfold zfI at M; refine sg (l:=[0]) C<|ov H C (Z.lss C C) λa H=>nk<|W.seq<|?_; refine W.ifdI H C (λhc18=>?_) (λhc18=>?_)
   ·replace M:=hm_p M hc18; refine W.skip<|ksq<|W.seq<|W.block<|sg (l:=[0,1,2,3,4]) C<|mv H C λa H=>?_; obtain ⟨x19,hx19,M⟩:=hm_b M; refine ov H C (Z.ixE zad zag C C (X.b 2 C) hx19) λa H=>ov H C (Z.ldE1 (o:=0) zaD E92_len C (X.b 2 C) hx19 C C) λa H=>mv2 H C C λa H=>nk<|sg (l:=[0]) C<|mv H C λa H=>nk<|?_; refine W.seqR (λa w=>∃ (x20:Int),Fr a 53 [] [(0,s5),(1,s7),(4,.slice none 0 0),(5,s10),(6,.int .u32 x15),(7,Iv x16),(8,.int .u32 x19),(9,.int .u32 x20),(21,s5),(22,Iv (x6.length:Int)),(23,Iv x16)]∧St w0 w noX [rE92 s1 x2,rE92 s3 x4,rE92 s5 x6,rE92 s7 x8] [sE92 s10 x14]∧zev F x19 x15 x14 x16 rec17 x20=some r) ?_ ?_
    ·refine sg (l:=[0,1,2,3]) C<|mv2 H C C λa H=>ov (v:=Iv (x8.length:Int)) H C (Z.lenE (e:=92) (by simpa using zad) C (X.b 3 C)) λa H=>ov H C (Z.lss C C) λa H=>nk<|?_; refine W.ifdI H C (λhc23=>?_) (λhc23=>?_)
     ·replace M:=hm_p M hc23; refine wrL (l:=[0,1,2,3,4]) C<|mv2 H C C λa H=>?_; obtain ⟨x24,hx24,M⟩:=hm_b M; refine ov H C (Z.ixE zad zag C C (X.b 3 C) hx24) λa H=>ov H C (Z.ldE1 (o:=0) zaD E92_len C (X.b 3 C) hx24 C C) λa H=>mv H C λa H=>O.nil<|?_; exact kth ⟨x24,H.q C,X,M⟩
     ·replace M:=hm_n M hc23; refine W.skip ?_; exact kth ⟨0,H.q C,X,M⟩
    ·clear H X M a; (try clear w); rintro a w ⟨x20,H,X,M⟩; unfold zev at M; refine wrL (l:=[0,1,2,3,4,5,6,7,8,9,10,11]) C<|mv2 H C C λa H=>mv2 H C C λa H=>mv H C λa H=>?_; obtain ⟨x21,hx21,M⟩:=hm_b M; refine oc H C zj5 (zg6 F x19 x20 x15 _ x21 hx21) ?_; rintro _ w Y a H; replace X:=X.cl Y; refine mv H C λa H=>ex H C C C λa H=>ex H C C C λa H=>?_; obtain ⟨x22,hx22,M⟩:=hm_b M; refine ov H C (Z.ixE zad zag C C (X.s 0 C) hx22) λa H=>O.storeE (j:=0) (o:=0) (y0:=x21.1) (l':=x14.set (Int.toNat x16) x21.1) (M':=[sE92 s10 (x14.set (Int.toNat x16) x21.1)]) H X C C C zag C C C E92_len hx22 C C C C<|?_; intro w X; refine mv H C λa H=>O.nil<|kbn<|ksq<|wrL (l:=[0,1]) C<|ov H C (Z.add C C) λa H=>mv H C λa H=>O.nil<|?_; refine kth ⟨(k17,x14.set (Int.toNat x16) x21.1,x21.2,i64.wrap (x16+1)),⟨H.q C,X,?_⟩,Nat.lt_succ_self _⟩; rw [hrec17] at M; exact M
   ·replace M:=hm_n M hc18; refine W.exit<|kte<|kte<|kbk<|?_; exact kth ⟨x14,x15,H.q C,X,M⟩
  ·clear H X M a; (try clear w); rintro a w ⟨x11,x12,H,X,M⟩; unfold zfH at M; refine sg (l:=[0,1,2,3,4,5]) C<|mv2 H C C λa H=>ov (v:=Iv (x6.length:Int)) H C (Z.lenE (e:=92) (by simpa using zad) C (X.b 2 C)) λa H=>mv H C λa H=>?_; obtain ⟨x13,hx13,M⟩:=hm_b M; refine ov H C (Z.ixE zad zag C C (X.s 0 C) hx13) λa H=>O.storeE (j:=0) (o:=0) (y0:=x12) (l':=x11.set (Int.toNat (x6.length:Int)) x12) (M':=[sE92 s10 (x11.set (Int.toNat (x6.length:Int)) x12)]) H X C C C zag C C C E92_len hx13 C C C C<|?_; intro w X; refine nk<|sg (l:=[0,1]) C<|mv2 H C C λa H=>nk<|W.ret<|?_; obtain rfl:=oj M; refine post1 H C (rkt C) ?_; exact ⟨s10,C,X.noB⟩
def zcd (F:Nat) (x1 x2 x3:Int):Option (Int × Int) :=
  (some (u32.wrap ((u32.wrap (x1-x2))-x3))).bind λx4=>(some (Int.fdiv (bitor .u32 (bitand .u32 (bitxor .u32 (4294967295) x1) x2) (bitand .u32 (bitxor .u32 (4294967295) (bitxor .u32 x1 x2)) x4)) (2^31))).bind λx5=>some (x4,x5)
theorem zdq (F:Nat) (x1 x2 x3:Int) (w0:World) (r:Int × Int) (M:zcd F x1 x2 x3=some r) :
    Ret Tryz.prog 90 #[.int .u32 x1,.int .u32 x2,.int .u32 x3] w0 (G:=Unit) (λ_=>.tuple #[.int .u32 r.1,.int .u32 r.2]) (λ_ w=>St w0 w noX [] []):=by
 unfold zcd at M; refine roW Tryz.func90 C C C (λa H=>?_); have X:St w0 w0 noX [] []:=Sbw lnn; refine sg (l:=[0,1]) C<|mv2 H C C λa H=>nk<|sg (l:=[0,1,2,3,4,5]) C<|mv2 H C C λa H=>ov H C (Z.sub C C) λa H=>mv H C λa H=>ov H C (Z.sub C C) λa H=>?_; refine mv H C λa H=>nk<|?_; obtain ⟨x4,hx4,M⟩:=hm_b M; rw [oj hx4] at H; refine sg (l:=[0,1,2,3,4,5,6,7,8,9,10,11,12]) C<|mv H C λa H=>ov (v:=.int .u32 (bitxor .u32 (4294967295) x1)) H C (Z.com (c:=4294967295) C C) λa H=>mv H C λa H=>ov (v:=.int .u32 (bitand .u32 (bitxor .u32 (4294967295) x1) x2)) H C (Z.bitand C C) λa H=>mv2 H C C λa H=>ov (v:=.int .u32 (bitxor .u32 x1 x2)) H C (Z.bitxor C C) λa H=>ov (v:=.int .u32 (bitxor .u32 (4294967295) (bitxor .u32 x1 x2))) H C (Z.com (c:=4294967295) C C) λa H=>mv H C λa H=>?_; refine ov (v:=.int .u32 (bitand .u32 (bitxor .u32 (4294967295) (bitxor .u32 x1 x2)) x4)) H C (Z.bitand C C) λa H=>ov (v:=.int .u32 (bitor .u32 (bitand .u32 (bitxor .u32 (4294967295) x1) x2) (bitand .u32 (bitxor .u32 (4294967295) (bitxor .u32 x1 x2)) x4))) H C (Z.bitor C C) λa H=>ov (v:=.int .u32 (Int.fdiv (bitor .u32 (bitand .u32 (bitxor .u32 (4294967295) x1) x2) (bitand .u32 (bitxor .u32 (4294967295) (bitxor .u32 x1 x2)) x4)) (2^31))) H C (Z.shr (q:=31) C C (by decide)) λa H=>mv H C λa H=>nk<|?_; obtain ⟨x5,hx5,M⟩:=hm_b M; rw [oj hx5] at H; refine W.ret ?_; obtain rfl:=oj M; refine post2 H C (rkt C) (rkt C) ?_; exact ⟨(),C,X.noB⟩
def zfk (F:Nat) (x7:List Int):Option (List Int) :=
  some x7
def zdX (F:Nat) (x13 x9:Int) (x8:List Int) (x10:Int) (rec11:(List Int)→Int→Int→Option (List Int)) (x14:Int):Option (List Int) :=
  (zcd F x13 x14 x9).bind λx15=>(idx x8 x10).bind λx16=>rec11 (x8.set (Int.toNat x10) x15.1) x15.2 (i64.wrap (x10+1))
def zfl (F:Nat) (x2 x4:List Int) (rec11:(List Int)→Int→Int→Option (List Int)) (x8:List Int) (x9 x10:Int):Option (List Int) :=
  if x10<((x2.length:Int):Int) then ((idx x2 x10).bind λx13=>if x10<((x4.length:Int):Int) then ((idx x4 x10).bind λx18=>zdX F x13 x9 x8 x10 rec11 x18) else (zdX F x13 x9 x8 x10 rec11 0)) else (zfk F x8)
def zcW (F:Nat) (x2 x4:List Int):Nat→(List Int)→Int→Int→Option (List Int)
  | 0,_,_,_=>none
  | n+1,x8,x9,x10=>zfl F x2 x4 (zcW F x2 x4 n) x8 x9 x10
def zgv (F:Nat) (x2 x4:List Int):Option (List Int) :=
  if 0≤(x2.length:Int)∧(x2.length:Int)≤4294967296 then zcW F x2 x4 F (List.replicate (Int.toNat (x2.length:Int)) (0:Int)) 0 0 else none
theorem zh8 (F:Nat) (s1:Value) (x2:List Int) (s3:Value) (x4:List Int) (w0:World) (h_s1:rdEOK (hp w0) 1 E92 s1 x2) (h_s3:rdEOK (hp w0) 1 E92 s3 x4) (r:List Int) (M:zgv F x2 x4=some r) :
    Ret Tryz.prog 49 #[s1,s3] w0 (G:=Value) (λg1=>g1) (λg1 w=>St w0 w noX [] [sE92 g1 r]):=by
 unfold zgv at M; refine roW Tryz.func49 C C C (λa H=>?_); have X:St w0 w0 noX [rE92 s1 x2,rE92 s3 x4] []:=Sbw (lnc (lendRd h_s1) (lnc (lendRd h_s3) lnn)); refine sg (l:=[0]) C<|mv H C λa H=>nk<|sg (l:=[0,1,2,3]) C<|mv H C λa H=>ov (v:=Iv (x2.length:Int)) H C (Z.lenE (e:=92) (by simpa using zad) C (X.b 0 C)) λa H=>?_; obtain ⟨hg5,M⟩:=hm_g M; refine O.makeE (enc:=E92) (x0:=(0:Int)) H X C C zad zag zbV za9 C C C hg5 C E92_len C ?_; intro s6 w a X H; refine mv H C λa H=>nk<|sg (l:=[0]) C<|mv H C λa H=>nk<|?_; refine W.seqR (λa w=>∃ (x7:List Int),Fr a 40 [] [(4,.slice none 0 0),(5,s6)]∧St w0 w noX [rE92 s1 x2,rE92 s3 x4] [sE92 s6 x7]∧zfk F x7=some r) ?_ ?_
 ·refine sg (l:=[0,1,2]) C<|mv H C λa H=>ov (v:=Iv (x2.length:Int)) H C (Z.lenE (e:=92) (by simpa using zad) C (X.b 0 C)) λa H=>mv H C λa H=>nk<|?_; refine W.block<|W.loop (G:=Nat × (List Int) × Int × Int) (λg a w=>match g with | (k11,x8,x9,x10)=>Fr a 40 [] [(1,s3),(4,.slice none 0 0),(5,s6),(6,.int .u32 x9),(13,s1),(14,Iv (x2.length:Int)),(15,Iv x10)]∧St w0 w noX [rE92 s1 x2,rE92 s3 x4] [sE92 s6 x8]∧zcW F x2 x4 k11 x8 x9 x10=some r) (λg=>match g with | (k11,x8,x9,x10)=>k11) (F,List.replicate (Int.toNat (x2.length:Int)) (0:Int),0,0) ⟨H.q C,X,M⟩<|?_; clear H X M a; (try clear w); rintro ⟨k11,x8,x9,x10⟩ a w ⟨H,X,M⟩
  rcases k11 with _ | k11
  · nomatch M
  replace M:zfl F x2 x4 (zcW F x2 x4 k11) x8 x9 x10=some r:=M; obtain ⟨rec11,hrec11⟩:∃ f,f=zcW F x2 x4 k11:=⟨_,C⟩; rw [← hrec11] at M; unfold zfl at M; refine sg (l:=[0]) C<|ov H C (Z.lss C C) λa H=>nk<|W.seq<|?_; refine W.ifdI H C (λhc12=>?_) (λhc12=>?_)
  ·replace M:=hm_p M hc12; refine W.skip<|ksq<|W.seq<|W.block<|sg (l:=[0,1,2,3,4]) C<|mv H C λa H=>?_; obtain ⟨x13,hx13,M⟩:=hm_b M; refine ov H C (Z.ixE zad zag C C (X.b 0 C) hx13) λa H=>ov H C (Z.ldE1 (o:=0) zaD E92_len C (X.b 0 C) hx13 C C) λa H=>mv2 H C C λa H=>nk<|sg (l:=[0]) C<|mv H C λa H=>nk<|?_; refine W.seqR (λa w=>∃ (x14:Int),Fr a 40 [] [(1,s3),(4,.slice none 0 0),(5,s6),(6,.int .u32 x9),(7,Iv x10),(8,.int .u32 x13),(9,.int .u32 x14),(13,s1),(14,Iv (x2.length:Int)),(15,Iv x10)]∧St w0 w noX [rE92 s1 x2,rE92 s3 x4] [sE92 s6 x8]∧zdX F x13 x9 x8 x10 rec11 x14=some r) ?_ ?_
   ·refine sg (l:=[0,1,2,3]) C<|mv2 H C C λa H=>ov (v:=Iv (x4.length:Int)) H C (Z.lenE (e:=92) (by simpa using zad) C (X.b 1 C)) λa H=>ov H C (Z.lss C C) λa H=>nk<|?_; refine W.ifdI H C (λhc17=>?_) (λhc17=>?_)
    ·replace M:=hm_p M hc17; refine wrL (l:=[0,1,2,3,4]) C<|mv2 H C C λa H=>?_; obtain ⟨x18,hx18,M⟩:=hm_b M; refine ov H C (Z.ixE zad zag C C (X.b 1 C) hx18) λa H=>ov H C (Z.ldE1 (o:=0) zaD E92_len C (X.b 1 C) hx18 C C) λa H=>mv H C λa H=>O.nil<|?_; exact kth ⟨x18,H.q C,X,M⟩
    ·replace M:=hm_n M hc17; refine W.skip ?_; exact kth ⟨0,H.q C,X,M⟩
   ·clear H X M a; (try clear w); rintro a w ⟨x14,H,X,M⟩; unfold zdX at M; refine wrL (l:=[0,1,2,3,4,5,6,7,8,9,10,11]) C<|mv2 H C C λa H=>mv2 H C C λa H=>mv H C λa H=>?_; obtain ⟨x15,hx15,M⟩:=hm_b M; refine oc H C zin (zdq F x13 x14 x9 _ x15 hx15) ?_; rintro _ w Y a H; replace X:=X.cl Y; refine mv H C λa H=>ex H C C C λa H=>ex H C C C λa H=>?_; obtain ⟨x16,hx16,M⟩:=hm_b M; refine ov H C (Z.ixE zad zag C C (X.s 0 C) hx16) λa H=>O.storeE (j:=0) (o:=0) (y0:=x15.1) (l':=x8.set (Int.toNat x10) x15.1) (M':=[sE92 s6 (x8.set (Int.toNat x10) x15.1)]) H X C C C zag C C C E92_len hx16 C C C C<|?_; intro w X; refine mv H C λa H=>O.nil<|kbn<|ksq<|wrL (l:=[0,1]) C<|ov H C (Z.add C C) λa H=>mv H C λa H=>O.nil<|?_; refine kth ⟨(k11,x8.set (Int.toNat x10) x15.1,x15.2,i64.wrap (x10+1)),⟨H.q C,X,?_⟩,Nat.lt_succ_self _⟩; rw [hrec11] at M; exact M
  ·replace M:=hm_n M hc12; refine W.exit<|kte<|kte<|kbk<|?_; exact kth ⟨x8,H.q C,X,M⟩
 ·clear H X M a; (try clear w); rintro a w ⟨x7,H,X,M⟩; unfold zfk at M; refine sg (l:=[0,1]) C<|mv2 H C C λa H=>nk<|W.ret<|?_; obtain rfl:=oj M; refine post1 H C (rkt C) ?_; exact ⟨s6,C,X.noB⟩
def zgi (F:Nat) (x1:Bool) (x3:List Int) (x4:Bool) (x6:List Int):Option (Bool × (List Int)) :=
  (zcs F x3 x6).bind λx10=>if (x1 == x4)=true then ((zfS F x3 x6).bind λx12=>(zaU F x1 x12).bind λx14=>some x14) else (if x10≥(0:Int) then ((zgv F x3 x6).bind λx17=>(zaU F x1 x17).bind λx19=>some x19) else (none))
theorem zhn (F:Nat) (x1:Bool) (s2:Value) (x3:List Int) (x4:Bool) (s5:Value) (x6:List Int) (w0:World) (h_s2:rdEOK (hp w0) 1 E92 s2 x3) (h_s5:rdEOK (hp w0) 1 E92 s5 x6) (r:Bool × (List Int)) (M:zgi F x1 x3 x4 x6=some r) :
    Ret Tryz.prog 46 #[.agg #[Bv x1,s2],.agg #[Bv x4,s5]] w0 (G:=Value) (λg1=>.tuple #[.agg #[Bv r.1,g1],Iv 0]) (λg1 w=>St w0 w noX [] [sE92 g1 r.2]):=by
 unfold zgi at M; refine roW Tryz.func46 C C C (λa H=>?_); have X:St w0 w0 noX [rE92 s2 x3,rE92 s5 x6] []:=Sbw (lnc (lendRd h_s2) (lnc (lendRd h_s5) lnn)); refine sg (l:=[0,1,2,3]) C<|O.box (cs:=#[Bv x1,s2]) H X C C C C<|?_; intro b7 w a hb7 X H; refine O.box (cs:=#[Bv x4,s5]) H X C C C C ?_; intro b8 w a hb8 X H; refine O.alloc (cs:=#[Bv false,.slice none 0 0]) H X C C zab C ?_; intro b9 w a hb9 X H; refine mv H C λa H=>nk<|W.seq<|sg (l:=[0,1,2,3,4,5]) C<|ov H C (Z.field zaq C C) λa H=>ov (v:=s2) H C (Z.load1 zar C (X.p 2 C) C) λa H=>ov H C (Z.field zaq C C) λa H=>ov (v:=s5) H C (Z.load1 zar C (X.p 1 C) C) λa H=>?_; obtain ⟨x10,hx10,M⟩:=hm_b M; refine oc H C zhH (zc7 F s2 x3 s5 x6 _ (X.b 0 C) (X.b 1 C) x10 hx10) ?_; rintro _ w Y a H; replace X:=X.cl Y; refine mv H C λa H=>nk<|W.block<|sg (l:=[0,1,2,3,4,5]) C<|ov H C (Z.field zap C C) λa H=>ov H C (Z.load1 zaC C (X.p 2 C) C) λa H=>ov H C (Z.field zap C C) λa H=>ov H C (Z.load1 zaC C (X.p 1 C) C) λa H=>ov (v:=Bv (x1 == x4)) H C (Z.eqBool zg5 C C) λa H=>mv H C λa H=>?_; refine nk ?_; refine W.if_ H C (λhc11=>?_) (λhc11=>?_)
 ·replace M:=hm_t M hc11; refine W.seq ?_; have J:Fr a 51 [] [(5,Iv 0)]:=H.q C; obtain ⟨x12,hx12,M⟩:=hm_b M; obtain ⟨x14,hx14,M⟩:=hm_b M; refine W.drawK (γ:=Value × Value) (L0:=[(2,Pv b7 0),(3,Pv b8 0),(4,Pv b9 0),(6,Iv x10),(12,Bv (x1 == x4))]) (L1:=[(5,Iv 0)]) (undef,undef) [6,7,10] [] [0,1,2,3,4,5,8,9,11] (λi=>match i with | 1=>[0] | 3=>[2] | 5=>[4] | 6=>[3,5] | 7=>[1,6] | 8=>[7] | 9=>[7] | 10=>[0,1,2,3,4,5,6,7,8,9] | 11=>[0,1,2,3,4,5,6,7,8,9,10] | _=>[]) (λ_=>[]) (λi=>match i with | 6=>[7,8,9,10,11] | 7=>[8,9,10,11] | 10=>[11] | _=>[]) (λ_=>[]) (λi=>match i with | 7=>1 | 8=>2 | 9=>2 | 10=>2 | 11=>3 | _=>0) (λi=>match i with | 0=>1 | 1=>1 | 6=>1 | 7=>2 | 8=>2 | 9=>2 | 10=>3 | 11=>3 | _=>0) (λ(g:Value × Value) j=>match j with | 0=>Pv b7 0 | 1=>Bv x1 | 2=>Pv b7 1 | 3=>s2 | 4=>Pv b8 1 | 5=>s5 | 6=>g.1 | 7=>.tuple #[.agg #[Bv x14.1,g.2],Iv 0] | 8=>.agg #[Bv x14.1,g.2] | 9=>Iv 0 | 11=>Iv 0 | _=>undef) (λk s (g:Value × Value) w=>match k with | 0=>St w0 w noX [rE92 s2 x3,rE92 s5 x6] [pt b9 (Cs #[Bv false,.slice none 0 0] 56),pW56 b8 x4 s5,pW56 b7 x1 s2] | 1=>St w0 w noX [rE92 s2 x3,rE92 s5 x6] [sE92 g.1 x12,pt b9 (Cs #[Bv false,.slice none 0 0] 56),pW56 b8 x4 s5,pW56 b7 x1 s2] | 2=>St w0 w noX [rE92 s2 x3,rE92 s5 x6] [sE92 g.2 x14.2,pt b9 (Cs #[Bv false,.slice none 0 0] 56),pW56 b8 x4 s5,pW56 b7 x1 s2] | _=>St w0 w noX [rE92 s2 x3,rE92 s5 x6] [sE92 g.2 x14.2,pt b9 (Cs #[Bv x14.1,g.2] 56),pW56 b8 x4 s5,pW56 b7 x1 s2]) P_mixed (by kernel_rfl) (H.q C) J X.drew ?_ ?_ ?_ ?_
  ·clear H J X; refine ⟨λk s g w _ _ _ X a H=>Q.val (v:=Pv b7 0) C C C X H (Z.field zap C C),?_,λk s g w _ _ _ X a H=>Q.val (v:=Pv b7 1) C C C X H (Z.field zaq C C),?_,λk s g w _ _ _ X a H=>Q.val (v:=Pv b8 1) C C C X H (Z.field zaq C C),?_,λk s g w _ _ _ X a H=>Q.val (v:=.agg #[Bv x14.1,g.2]) C C C X H (Z.extract C C),λk s g w _ _ _ X a H=>Q.val (v:=Iv 0) C C C X H (Z.extract C C),λk s g w _ _ _ X a H=>Q.val (v:=Iv 0) C C C X H (Z.assign C),trivial⟩
   ·intro k s g w h1_ h2_ hsp X a H; obtain ⟨s13,s15⟩:=g
    rcases k with _ | _ | k
    ·exact Q.val (v:=Bv x1) C C C X H (Z.load1 zaC C (X.p 2 C) C)
    ·exact Q.val (v:=Bv x1) C C C X H (Z.load1 zaC C (X.p 3 C) C)
    ·simp at h2_
   ·intro k s g w h1_ h2_ hsp X a H; obtain ⟨s13,s15⟩:=g
    rcases k with _ | k
    ·exact Q.val (v:=s2) C C C X H (Z.load1 zar C (X.p 2 C) C)
    ·simp at h2_
   ·intro k s g w h1_ h2_ hsp X a H; obtain ⟨s13,s15⟩:=g
    rcases k with _ | k
    ·exact Q.val (v:=s5) C C C X H (Z.load1 zar C (X.p 1 C) C)
    ·simp at h2_
  ·clear H J X; refine ⟨?_,?_,?_,trivial⟩
   ·intro s g w hsp X a H; obtain ⟨s13,s15⟩:=g; refine oc H C zi0 (zgV F s2 x3 s5 x6 _ (X.b 0 C) (X.b 1 C) x12 hx12) ?_; rintro s13 w Y a H; replace X:=X.cl Y; exact nE 24 H (s13,s15) C C (jl 12 (by kernel_rfl) λ_=>C) X
   ·intro s g w hsp X a H; obtain ⟨s13,s15⟩:=g; refine oc H C zcK (zaO F x1 s13 x12 _ (X.slS (j:=0) C) x14 hx14) ?_; rintro s15 w Y a H; replace X:=X.cz Y 0 λ_ h=>h; exact nE 25 H (s13,s15) C C (jl 12 (by kernel_rfl) λ_=>C) X
   ·intro s g w hsp X a H; obtain ⟨s13,s15⟩:=g; refine ost 1 #[Bv x14.1,s15] H X C C C zaa C (occ C (occ (rdo (X.s 0 C)) C)) C (bl C) C ?_; intro w X; exact O.nil ⟨C,(s13,s15),H.to trivial,(λd hd=>by cases (show none=some d from hd)),(λ_ _ _=>C),X⟩
  ·clear H J X; exact trivial
  clear H J X; intro s g a w hs H X; obtain ⟨s13,s15⟩:=g; refine ksq<|W.ret<|kbr<|ktr<|?_; obtain rfl:=oj M; refine post2 H C (rkn (cs':=#[Bv x14.1,s15]) C zao zaa (X.p 1 C) (bl C) C) (rkt C) ?_; replace X:=X.sl [1]; exact ⟨s15,C,X.noB⟩
 ·replace M:=hm_f M hc11; refine sg (l:=[0,1,2]) C<|mv H C λa H=>ov H C (Z.geq C C) λa H=>mv H C λa H=>nk<|?_; refine W.ifdI H C (λhc16=>?_) (λhc16=>?_)
  ·replace M:=hm_p M hc16; refine W.seq ?_; have J:Fr a 51 [] [(5,Iv 0)]:=H.q C; obtain ⟨x17,hx17,M⟩:=hm_b M; obtain ⟨x19,hx19,M⟩:=hm_b M; refine W.drawK (γ:=Value × Value) (L0:=[(2,Pv b7 0),(3,Pv b8 0),(4,Pv b9 0),(28,Bv (decide (x10≥(0:Int))))]) (L1:=[(5,Iv 0)]) (undef,undef) [6,7,10] [] [0,1,2,3,4,5,8,9,11] (λi=>match i with | 1=>[0] | 3=>[2] | 5=>[4] | 6=>[3,5] | 7=>[1,6] | 8=>[7] | 9=>[7] | 10=>[0,1,2,3,4,5,6,7,8,9] | 11=>[0,1,2,3,4,5,6,7,8,9,10] | _=>[]) (λ_=>[]) (λi=>match i with | 6=>[7,8,9,10,11] | 7=>[8,9,10,11] | 10=>[11] | _=>[]) (λ_=>[]) (λi=>match i with | 7=>1 | 8=>2 | 9=>2 | 10=>2 | 11=>3 | _=>0) (λi=>match i with | 0=>1 | 1=>1 | 6=>1 | 7=>2 | 8=>2 | 9=>2 | 10=>3 | 11=>3 | _=>0) (λ(g:Value × Value) j=>match j with | 0=>Pv b7 0 | 1=>Bv x1 | 2=>Pv b7 1 | 3=>s2 | 4=>Pv b8 1 | 5=>s5 | 6=>g.1 | 7=>.tuple #[.agg #[Bv x19.1,g.2],Iv 0] | 8=>.agg #[Bv x19.1,g.2] | 9=>Iv 0 | 11=>Iv 0 | _=>undef) (λk s (g:Value × Value) w=>match k with | 0=>St w0 w noX [rE92 s2 x3,rE92 s5 x6] [pt b9 (Cs #[Bv false,.slice none 0 0] 56),pW56 b8 x4 s5,pW56 b7 x1 s2] | 1=>St w0 w noX [rE92 s2 x3,rE92 s5 x6] [sE92 g.1 x17,pt b9 (Cs #[Bv false,.slice none 0 0] 56),pW56 b8 x4 s5,pW56 b7 x1 s2] | 2=>St w0 w noX [rE92 s2 x3,rE92 s5 x6] [sE92 g.2 x19.2,pt b9 (Cs #[Bv false,.slice none 0 0] 56),pW56 b8 x4 s5,pW56 b7 x1 s2] | _=>St w0 w noX [rE92 s2 x3,rE92 s5 x6] [sE92 g.2 x19.2,pt b9 (Cs #[Bv x19.1,g.2] 56),pW56 b8 x4 s5,pW56 b7 x1 s2]) P_mixed (by kernel_rfl) (H.q C) J X.drew ?_ ?_ ?_ ?_
   ·clear H J X; refine ⟨λk s g w _ _ _ X a H=>Q.val (v:=Pv b7 0) C C C X H (Z.field zap C C),?_,λk s g w _ _ _ X a H=>Q.val (v:=Pv b7 1) C C C X H (Z.field zaq C C),?_,λk s g w _ _ _ X a H=>Q.val (v:=Pv b8 1) C C C X H (Z.field zaq C C),?_,λk s g w _ _ _ X a H=>Q.val (v:=.agg #[Bv x19.1,g.2]) C C C X H (Z.extract C C),λk s g w _ _ _ X a H=>Q.val (v:=Iv 0) C C C X H (Z.extract C C),λk s g w _ _ _ X a H=>Q.val (v:=Iv 0) C C C X H (Z.assign C),trivial⟩
    ·intro k s g w h1_ h2_ hsp X a H; obtain ⟨s18,s20⟩:=g
     rcases k with _ | _ | k
     ·exact Q.val (v:=Bv x1) C C C X H (Z.load1 zaC C (X.p 2 C) C)
     ·exact Q.val (v:=Bv x1) C C C X H (Z.load1 zaC C (X.p 3 C) C)
     ·simp at h2_
    ·intro k s g w h1_ h2_ hsp X a H; obtain ⟨s18,s20⟩:=g
     rcases k with _ | k
     ·exact Q.val (v:=s2) C C C X H (Z.load1 zar C (X.p 2 C) C)
     ·simp at h2_
    ·intro k s g w h1_ h2_ hsp X a H; obtain ⟨s18,s20⟩:=g
     rcases k with _ | k
     ·exact Q.val (v:=s5) C C C X H (Z.load1 zar C (X.p 1 C) C)
     ·simp at h2_
   ·clear H J X; refine ⟨?_,?_,?_,trivial⟩
    ·intro s g w hsp X a H; obtain ⟨s18,s20⟩:=g; refine oc H C zjU (zh8 F s2 x3 s5 x6 _ (X.b 0 C) (X.b 1 C) x17 hx17) ?_; rintro s18 w Y a H; replace X:=X.cl Y; exact nE 37 H (s18,s20) C C (jl 12 (by kernel_rfl) λ_=>C) X
    ·intro s g w hsp X a H; obtain ⟨s18,s20⟩:=g; refine oc H C zcK (zaO F x1 s18 x17 _ (X.slS (j:=0) C) x19 hx19) ?_; rintro s20 w Y a H; replace X:=X.cz Y 0 λ_ h=>h; exact nE 38 H (s18,s20) C C (jl 12 (by kernel_rfl) λ_=>C) X
    ·intro s g w hsp X a H; obtain ⟨s18,s20⟩:=g; refine ost 1 #[Bv x19.1,s20] H X C C C zaa C (occ C (occ (rdo (X.s 0 C)) C)) C (bl C) C ?_; intro w X; exact O.nil ⟨C,(s18,s20),H.to trivial,(λd hd=>by cases (show none=some d from hd)),(λ_ _ _=>C),X⟩
   ·clear H J X; exact trivial
   clear H J X; intro s g a w hs H X; obtain ⟨s18,s20⟩:=g; refine ksq<|W.ret<|kbr<|ktr<|?_; obtain rfl:=oj M; refine post2 H C (rkn (cs':=#[Bv x19.1,s20]) C zao zaa (X.p 1 C) (bl C) C) (rkt C) ?_; replace X:=X.sl [1]; exact ⟨s20,C,X.noB⟩
  ·replace M:=hm_n M hc16; refine W.skip<|kbn<|ksq<|?_; nomatch M
def zdr (F:Nat) (x1:Bool) (x3:List Int) (x4:Bool) (x6:List Int):Option (Bool × (List Int)) :=
  (zbj F x1 x3 x4 x6).bind λx11=>(zgi F x1 x3 x4 x6).bind λx12=>some x12
theorem zdL (F:Nat) (x1:Bool) (s2:Value) (x3:List Int) (x4:Bool) (s5:Value) (x6:List Int) (w0:World) (h_s2:rdEOK (hp w0) 1 E92 s2 x3) (h_s5:rdEOK (hp w0) 1 E92 s5 x6) (r:Bool × (List Int)) (M:zdr F x1 x3 x4 x6=some r) :
    Ret Tryz.prog 18 #[.agg #[Bv x1,s2],.agg #[Bv x4,s5]] w0 (G:=Value) (λg1=>.tuple #[.agg #[Bv r.1,g1],Iv 0]) (λg1 w=>St w0 w noX [] [sE92 g1 r.2]):=by
 unfold zdr at M; refine roW Tryz.func18 C C C (λa H=>?_); have X:St w0 w0 noX [rE92 s2 x3,rE92 s5 x6] []:=Sbw (lnc (lendRd h_s2) (lnc (lendRd h_s5) lnn)); refine sg (l:=[0,1,2,3]) C<|O.box (cs:=#[Bv x1,s2]) H X C C C C<|?_; intro b7 w a hb7 X H; refine O.box (cs:=#[Bv x4,s5]) H X C C C C ?_; intro b8 w a hb8 X H; refine O.alloc (cs:=#[Bv false,.slice none 0 0]) H X C C zab C ?_; intro b9 w a hb9 X H; refine mv H C λa H=>nk<|W.seq<|sg (l:=[0,1,2,3,4]) C<|ov H C (lN (cs':=#[Bv x1,s2]) A_56 C (X.p 2 C) C C) λa H=>ov H C (lN (cs':=#[Bv x4,s5]) A_56 C (X.p 1 C) C C) λa H=>O.buildSlice (cs':=#[Bv x1,s2,Bv x4,s5]) (zs:=#[Bv false,.slice none 0 0,Bv false,.slice none 0 0]) H X C C za7 zaa zab C C C C C<|?_; intro b10 w a hb10 X H; obtain ⟨x11,hx11,M⟩:=hm_b M; refine oc H C zdV (zbt F b10 x1 s2 x3 x4 s5 x6 _ (X.b 0 C) (X.b 1 C) (X.p 0 C) x11 hx11) ?_; rintro _ w Y a H; replace X:=X.cl Y; refine mv H C λa H=>nk<|?_; replace X:=X.sl [0,1,1,1]; refine sg (l:=[0,1]) C<|mv H C λa H=>ov H C (Z.neq (p:=0) (q:=0) C C) λa H=>nk<|W.if_ff H C<|W.skip<|ksq<|sg (l:=[0,1,2,3,4,5,6]) C<|ov H C (lN (cs':=#[Bv x1,s2]) A_56 C (X.p 2 C) C C) λa H=>ov H C (lN (cs':=#[Bv x4,s5]) A_56 C (X.p 1 C) C C) λa H=>?_; obtain ⟨x12,hx12,M⟩:=hm_b M; refine oc H C ziZ (zhn F x1 s2 x3 x4 s5 x6 _ (X.b 0 C) (X.b 1 C) x12 hx12) ?_; rintro s13 w Y a H; replace X:=X.cl Y; refine ex H C C C λa H=>ex H C C C λa H=>ost 1 #[Bv x12.1,s13] H X C C C zaa C (occ C (occ (rdo (X.s 0 C)) C)) C (bl C) C<|?_; intro w X; refine mv H C λa H=>nk<|?_; replace X:=X.sl [1,1]; refine W.ret ?_; obtain rfl:=oj M; refine post2 H C (rkn (cs':=#[Bv x12.1,s13]) C zao zaa (X.p 1 C) (bl C) C) (rkt C) ?_; replace X:=X.sl [1]; exact ⟨s13,C,X.noB⟩
def zay (F:Nat) (x2:List Int):Option (List Int) :=
  if (([]:List Int).length:Int)≤4294967296 then if (x2.length:Int)≤4294967296 then some (([]:List Int)++x2) else none else none
theorem zaE (F:Nat) (s1:Value) (x2:List Int) (w0:World) (h_s1:rdEOK (hp w0) 1 E92 s1 x2) (r:List Int) (M:zay F x2=some r) :
    Ret Tryz.prog 83 #[s1] w0 (G:=Value) (λg1=>g1) (λg1 w=>St w0 w noX [] [sE92 g1 r]):=by
 unfold zay at M; refine roW Tryz.func83 C C C (λa H=>?_); have X:St w0 w0 noX [rE92 s1 x2] []:=Sbw (lnc (lendRd h_s1) lnn); refine sg (l:=[0]) C<|mv H C λa H=>nk<|W.seq<|sg (l:=[0,1]) C<|mv H C λa H=>?_
 rcases nil_or (X.b 0 C) with ⟨_,hn3,hl⟩ | ⟨_,_,_,hn3⟩
 ·refine ov (v:=.bool true) H C (Z.eqNil1 zad hn3 C C) λa H=>?_
  subst hl
  replace M:some []=some r:=by simpa using M
  refine nk<|W.if_tt H C<|sg (l:=[0]) C<|mv H C λa H=>nk<|W.ret<|ktr<|?_; replace X:=X.nilE 92 1 E92; obtain rfl:=oj M; refine post1 H C (rkt C) ?_; replace X:=X.nilE 92 1 E92; replace X:=X.sl [1]; exact ⟨(.slice none 0 0),C,X.noB⟩
 ·refine ov (v:=.bool false) H C (Z.eqNil2 zad hn3 C C) λa H=>nk<|W.if_ff H C<|W.skip<|ksq<|sg (l:=[0,1,2,3]) C<|O.buildSlice0 H X C C zad zag C<|?_; intro b4 w a hb4 X H; obtain ⟨s5,hs5⟩:∃ v,v=Value.slice (some ⟨b4,0,none⟩) 0 0:=⟨_,C⟩; rw [← hs5] at H X; replace X:St w0 _ noX [rE92 s1 x2] [sE92 s5 ([]:List Int)]:=X; refine mv H C λa H=>?_; obtain ⟨hg6,M⟩:=hm_g M; obtain ⟨hg7,M⟩:=hm_g M; refine O.appendEV (j:=0) (l':=([]:List Int)++x2) H X C C zad zag zbV za9 C C C C C (X.b 0 C) E92_one hg6 hg7 C C ?_; intro s8 w a X H; replace X:St w0 _ noX [rE92 s1 x2] [sE92 s8 (([]:List Int)++x2)]:=X; refine mv H C λa H=>nk<|W.ret<|?_; obtain rfl:=oj M; refine post1 H C (rkt C) ?_; exact ⟨s8,C,X.noB⟩
def zc8 (F:Nat) (x1 x2 x3:Int):Option (Int × Int) :=
  if ((decide (x3≠(0:Int)))&&(decide (x3≤(x1:Int))))=true then (none) else ((some (bitor .u64 (u64.wrap ((u64.wrap x1)*2^32)) (u64.wrap x2))).bind λx6=>if (u64.wrap x3)≠(0:Int) then if (u64.wrap x3)≠(0:Int) then (some (u32.wrap (Int.tmod x6 (u64.wrap x3)))).bind λx9=>(some (u32.wrap (u64.wrap (Int.tdiv x6 (u64.wrap x3))))).bind λx10=>some (x10,x9) else none else none)
theorem zfm (F:Nat) (x1 x2 x3:Int) (w0:World) (r:Int × Int) (M:zc8 F x1 x2 x3=some r) :
    Ret Tryz.prog 114 #[.int .u32 x1,.int .u32 x2,.int .u32 x3] w0 (G:=Unit) (λ_=>.tuple #[.int .u32 r.1,.int .u32 r.2]) (λ_ w=>St w0 w noX [] []):=by
 unfold zc8 at M; refine roW Tryz.func114 C C C (λa H=>?_); have X:St w0 w0 noX [] []:=Sbw lnn; refine sg (l:=[0,1]) C<|mv2 H C C λa H=>nk<|W.seq<|sg (l:=[0,1,2,3,4,5,6]) C<|mv H C λa H=>ov H C (Z.neq C C) λa H=>mv H C λa H=>?_; refine O.cutN (l₁:=[3,4,5,6]) (l₂:=_) (λa w=>Fr a 33 [] [(0,.int .u32 x1),(1,.int .u32 x2),(2,.int .u32 x3),(6,.int .u32 0),(7,.int .u32 0),(15,Bv ((decide (x3≠(0:Int)))&&(decide (x3≤(x1:Int)))))]∧St w0 w noX [] []) C ?_ ?_
 ·rcases Bool.eq_false_or_eq_true (decide (x3≠(0:Int))) with hb4 | hb4
  ·refine og H C hb4 (Z.move C) λa H=>og H C hb4 (Z.move C) λa H=>og H C hb4 (Z.leq C C) λa H=>?_; refine ov (v:=Bv ((decide (x3≠(0:Int)))&&(decide (x3≤(x1:Int))))) H C (Z.pick C C C (by rw [hb4]; rfl)) ?_; clear H a; intro a H; exact O.nil ⟨C,H.q C,X⟩
  ·refine sk H C hb4 λa H=>sk H C hb4 λa H=>sk H C hb4 λa H=>?_; refine ov (v:=Bv ((decide (x3≠(0:Int)))&&(decide (x3≤(x1:Int))))) H C (Z.pick C C C (by rw [hb4]; rfl)) ?_; clear H a; intro a H; exact O.nil ⟨C,H.q C,X⟩
 clear H X a; (try clear w); rintro a w ⟨H,X⟩; refine nk ?_; refine W.if_ H C (λhc5=>?_) (λhc5=>?_)
 ·replace M:=hm_t M hc5; nomatch M
 ·replace M:=hm_f M hc5; refine W.skip<|ksq<|sg (l:=[0,1,2,3,4,5,6]) C<|mv H C λa H=>ov (v:=Uv (u64.wrap x1)) H C (Z.conv zbh zaG C) λa H=>ov (v:=Uv (u64.wrap ((u64.wrap x1)*2^32))) H C (Z.shl (q:=32) C C (by decide)) λa H=>mv H C λa H=>ov (v:=Uv (u64.wrap x2)) H C (Z.conv zbh zaG C) λa H=>ov (v:=Uv (bitor .u64 (u64.wrap ((u64.wrap x1)*2^32)) (u64.wrap x2))) H C (Z.bitor C C) λa H=>mv H C λa H=>?_; refine nk ?_; obtain ⟨x6,hx6,M⟩:=hm_b M; rw [oj hx6] at H; refine W.seq ?_; obtain ⟨hg7,M⟩:=hm_g M; obtain ⟨hg8,M⟩:=hm_g M; refine W.drawQ (λw=>St w0 w noX [] []) P_mixed C (by kernel_rfl) C X.drew ?_; clear X; (try clear w); refine OQ.val (v:=Uv x6) H C (λw X=>Z.move C) λa H=>OQ.val (v:=.int .u32 x3) H C (λw X=>Z.move C) λa H=>OQ.val (v:=Uv (u64.wrap x3)) H C (λw X=>Z.conv zbh zaG C) λa H=>OQ.val (v:=Uv (u64.wrap (Int.tdiv x6 (u64.wrap x3)))) H C (λw X=>Z.quo C C hg7) λa H=>OQ.val (v:=.int .u32 (u32.wrap (u64.wrap (Int.tdiv x6 (u64.wrap x3))))) H C (λw X=>Z.conv za1 zbS C) λa H=>OQ.val (v:=Uv x6) H C (λw X=>Z.move C) λa H=>OQ.val (v:=.int .u32 x3) H C (λw X=>Z.move C) λa H=>OQ.val (v:=Uv (u64.wrap x3)) H C (λw X=>Z.conv zbh zaG C) λa H=>OQ.val (v:=Uv (Int.tmod x6 (u64.wrap x3))) H C (λw X=>Z.rem C C hg8) λa H=>OQ.val (v:=.int .u32 (u32.wrap (Int.tmod x6 (u64.wrap x3)))) H C (λw X=>Z.conv za1 zbS C) λa H=>?_; refine OQ.val (v:=.int .u32 (u32.wrap (u64.wrap (Int.tdiv x6 (u64.wrap x3))))) H C (λw X=>Z.assign C) λa H=>OQ.val (v:=.int .u32 (u32.wrap (Int.tmod x6 (u64.wrap x3)))) H C (λw X=>Z.assign C) λa H=>?_; refine OQ.nil ?_; intro w X; refine ksq ?_; obtain ⟨x9,hx9,M⟩:=hm_b M; rw [oj hx9] at H; obtain ⟨x10,hx10,M⟩:=hm_b M; rw [oj hx10] at H; refine W.ret ?_; obtain rfl:=oj M; refine post2 H C (rkt C) (rkt C) ?_; exact ⟨(),C,X.noB⟩
def zfn (F:Nat) (x14:List Int) (x15:Int):Option ((List Int) × Int) :=
  (zbM F x14).bind λx16=>some (x16,x15)
def zfo (F:Nat) (x3:Int) (rec11:(List Int)→Int→Option ((List Int) × Int)) (x12 x13:Int) (x14:List Int) (x15:Int):Option ((List Int) × Int) :=
  (zc8 F x15 x13 x3).bind λx18=>(idx x14 x12).bind λx19=>rec11 (x14.set (Int.toNat x12) x18.1) x18.2
def zbz (F:Nat) (x3:Int):List (Int × Int)→(List Int)→Int→Option ((List Int) × Int)
  | [],x14,x15=>zfn F x14 x15
  | p::t,x14,x15=>zfo F x3 (zbz F x3 t) p.1 p.2 x14 x15
def zgw (F:Nat) (x2:List Int) (x3:Int):Option ((List Int) × Int) :=
  if 0≤(x2.length:Int)∧(x2.length:Int)≤4294967296 then (zeP F x2).bind λx9=>zbz F x3 (downL x2) (List.replicate (Int.toNat (x2.length:Int)) (0:Int)) 0 else none
theorem zh9 (F:Nat) (s1:Value) (x2:List Int) (x3:Int) (w0:World) (h_s1:rdEOK (hp w0) 1 E92 s1 x2) (r:(List Int) × Int) (M:zgw F x2 x3=some r) :
    Ret Tryz.prog 84 #[s1,.int .u32 x3] w0 (G:=Value) (λg1=>.tuple #[g1,.int .u32 r.2]) (λg1 w=>St w0 w noX [] [sE92 g1 r.1]):=by
 unfold zgw at M; refine ret_of_WM (lv:=[s1,.int .u32 x3]) Tryz.func84 C C C (λa H=>?_); have X:St w0 w0 noX [rE92 s1 x2] []:=Sbw (lnc (lendRd h_s1) lnn); replace X:=X.mk0; refine sg (l:=[0,1,2]) C<|O.box (cs:=#[.int .u32 x3]) H X C C C C<|?_; intro b4 w a hb4 X H; refine mv2 H C C λa H=>nk<|sg (l:=[0,1,2,3,4]) C<|mv H C λa H=>ov (v:=Iv (x2.length:Int)) H C (Z.lenE (e:=92) (by simpa using zad) C (X.b 0 C)) λa H=>?_; obtain ⟨hg5,M⟩:=hm_g M; refine O.makeE (enc:=E92) (x0:=(0:Int)) H X C C zad zag zbV za9 C C C hg5 C E92_len C ?_; intro s6 w a X H; refine O.alloc (cs:=#[.slice none 0 0]) H X C C ziz C ?_; intro b7 w a hb7 X H; refine O.store (m:=1) (j:=0) (cs':=#[s6]) (M':=[pt b7 (Cs #[s6] 54),sE92 s6 (List.replicate (Int.toNat (x2.length:Int)) (0:Int)),pt b4 (Cs #[.int .u32 x3] 92),mkA []]) H X C C C ziw (by rw [rdc (X.s 1 C)]; rfl) (by rw [rdc (X.s 1 C)]; exact rdo (X.s 1 C)) C (bl C) (by rw [rdc (X.s 1 C)]; rfl) C ?_; intro w X; refine nk<|sg (l:=[0]) C<|O.alloc (cs:=#[.int .u32 0]) H X C C za9 C<|?_; intro b8 w a hb8 X H; refine nk<|W.seq<|sg (l:=[0,1]) C<|mv H C λa H=>?_; obtain ⟨x9,hx9,M⟩:=hm_b M; refine oc H C zhS (zfG F s1 x2 _ (X.b 0 C) x9 hx9) ?_; rintro b10 w Y a H; replace X:=X.cl Y; refine nk<|W.block<|?_; replace X:=X.fr 1; replace X:=X.fr 2; replace X:=X.fr 3; replace X:=X.fr 4; replace X:=X.fr 5; refine W.rangeFn2 (G:=(List Int) × Int) (G2:=Unit) (gf:=141) (lb:=#[Pv b10 0]) (xs:=(downL x2).map (λp:Int × Int=>(Iv p.1,Value.int .u32 p.2))) (λx y=>[(3,Pv b4 0),(4,.slice none 0 0),(5,.int .u32 0),(6,Pv b7 0),(7,Pv b8 0),(8,x),(9,y),(14,.func (.func 141) #[] #[Pv b10 0]),(15,x),(16,y)]) (λg=>match g with | (x14,x15)=>[mkA [],pt b4 (Cs #[.int .u32 x3] 92),sE92 s6 x14,pt b7 (Cs #[s6] 54),pt b8 (Cs #[.int .u32 x15] 92),pt b10 (Cs #[s1] 54)]) (λk g=>match g with | (x14,x15)=>zbz F x3 ((downL x2).drop k) x14 x15=some r) (List.replicate (Int.toNat (x2.length:Int)) (0:Int),0) (RdAt 54 1 E92 b10 s1 x2) (λg=>match g with | _=>[]) (λg=>match g with | _=>False) H C C C zhU X M (iter_141 _ _ _) ?_ ?_ ?_ ?_ ?_
 ·rintro ⟨x14,x15⟩ w X; replace X:St w0 w noX [rE92 s1 x2] [mkA [],pt b4 (Cs #[.int .u32 x3] 92),sE92 s6 x14,pt b7 (Cs #[s6] 54),pt b8 (Cs #[.int .u32 x15] 92),pt b10 (Cs #[s1] 54)]:=X; exact ⟨X.ptAt (i:=5) C,(X.b 0 C)⟩
 ·clear H X M a; (try clear w); intro l x y w a H; refine sg (l:=[0]) C<|mv H C λa H=>nk<|wrL (l:=[0]) C<|mv H C λa H=>O.nil<|?_; exact ⟨C,H.q C,C⟩
 ·clear H X M a; (try clear w); rintro dl11 do11 dD11 k11 x y ⟨x14,x15⟩ w hx M X a H; obtain ⟨⟨x12,x13⟩,hp,hxy⟩:=down_x hx; obtain ⟨rfl,rfl⟩:=Prod.mk.inj hxy; replace X:St w0 w noX [rE92 s1 x2] [pt dl11 do11,pt dD11 (.deferred (some [])),mkA [],pt b4 (Cs #[.int .u32 x3] 92),sE92 s6 x14,pt b7 (Cs #[s6] 54),pt b8 (Cs #[.int .u32 x15] 92),pt b10 (Cs #[s1] 54)]:=X; replace M:zbz F x3 ((downL x2).drop k11) x14 x15=some r:=M; rw [drop_cons hp] at M; replace M:zfo F x3 (zbz F x3 ((downL x2).drop (k11+1))) x12 x13 x14 x15=some r:=M; obtain ⟨rec11,hrec11⟩:∃ f,f=zbz F x3 ((downL x2).drop (k11+1)):=⟨_,C⟩; rw [← hrec11] at M; unfold zfo at M; refine W.block ?_; have J:Fr a 30 [] []:=H.to trivial; obtain ⟨x18,hx18,M⟩:=hm_b M; obtain ⟨x19,hx19,M⟩:=hm_b M; refine W.drawK (γ:=Unit) (L0:=[(3,Pv b4 0),(4,.slice none 0 0),(5,.int .u32 0),(6,Pv b7 0),(7,Pv b8 0),(8,Iv x12),(9,.int .u32 x13),(14,.func (.func 141) #[] #[Pv b10 0]),(15,Iv x12),(16,.int .u32 x13)]) (L1:=[]) () [5,10,11] [] [0,1,2,3,4,6,7,8,9] (λi=>match i with | 5=>[2,3,4] | 6=>[5] | 7=>[6] | 8=>[6] | 9=>[0,1,2,3,4,5,6,7] | 10=>[0,1,2,3,4,5,6,7,9] | 11=>[0,1,2,3,4,5,6,7,8,9,10] | _=>[]) (λ_=>[]) (λi=>match i with | 5=>[6,7,8,9,10,11] | 10=>[11] | _=>[]) (λ_=>[]) (λi=>match i with | 6=>1 | 7=>1 | 8=>1 | 9=>1 | 10=>1 | 11=>2 | _=>0) (λi=>match i with | 0=>1 | 1=>1 | 5=>1 | 6=>1 | 7=>1 | 8=>2 | 9=>1 | 10=>2 | 11=>3 | _=>0) (λ(g:Unit) j=>match j with | 0=>s6 | 1=>Iv x12 | 2=>.int .u32 x15 | 3=>.int .u32 x13 | 4=>.int .u32 x3 | 5=>.tuple #[.int .u32 x18.1,.int .u32 x18.2] | 6=>.tuple #[.int .u32 x18.1,.int .u32 x18.2] | 7=>.int .u32 x18.1 | 8=>.int .u32 x18.2 | 9=>ix s6 (Int.toNat x12*1) | _=>undef) (λk s (g:Unit) w=>match k with | 0=>St w0 w noX [rE92 s1 x2] [pt dl11 do11,pt dD11 (.deferred (some [])),mkA [],pt b4 (Cs #[.int .u32 x3] 92),sE92 s6 x14,pt b7 (Cs #[s6] 54),pt b8 (Cs #[.int .u32 x15] 92),pt b10 (Cs #[s1] 54)] | 1=>St w0 w noX [rE92 s1 x2] [pt dl11 do11,pt dD11 (.deferred (some [])),mkA [],pt b4 (Cs #[.int .u32 x3] 92),sE92 s6 x14,pt b7 (Cs #[s6] 54),pt b8 (Cs #[.int .u32 x15] 92),pt b10 (Cs #[s1] 54)] | 2=>St w0 w noX [rE92 s1 x2] [pt dl11 do11,pt dD11 (.deferred (some [])),mkA [],pt b4 (Cs #[.int .u32 x3] 92),sE92 s6 (x14.set (Int.toNat x12) x18.1),pt b7 (Cs #[s6] 54),pt b8 (Cs #[.int .u32 x15] 92),pt b10 (Cs #[s1] 54)] | _=>St w0 w noX [rE92 s1 x2] [pt dl11 do11,pt dD11 (.deferred (some [])),mkA [],pt b4 (Cs #[.int .u32 x3] 92),sE92 s6 (x14.set (Int.toNat x12) x18.1),pt b7 (Cs #[s6] 54),pt b8 (Cs #[.int .u32 x18.2] 92),pt b10 (Cs #[s1] 54)]) P_mixed (by kernel_rfl) (H.q C) J X.drew ?_ ?_ ?_ ?_
  ·clear H J X; refine ⟨?_,λk s g w _ _ _ X a H=>Q.val (v:=Iv x12) C C C X H (Z.move C),?_,λk s g w _ _ _ X a H=>Q.val (v:=.int .u32 x13) C C C X H (Z.move C),?_,λk s g w _ _ _ X a H=>Q.val (v:=.tuple #[.int .u32 x18.1,.int .u32 x18.2]) C C C X H (Z.move C),λk s g w _ _ _ X a H=>Q.val (v:=.int .u32 x18.1) C C C X H (Z.extract C C),λk s g w _ _ _ X a H=>Q.val (v:=.int .u32 x18.2) C C C X H (Z.extract C C),?_,trivial⟩
   ·intro k s g w h1_ h2_ hsp X a H
    rcases k with _ | _ | k
    ·exact Q.val (v:=s6) C C C X H (Z.load1 zar C (X.p 5 C) C)
    ·exact Q.val (v:=s6) C C C X H (Z.load1 zar C (X.p 5 C) C)
    ·simp at h2_
   ·intro k s g w h1_ h2_ hsp X a H
    rcases k with _ | k
    ·exact Q.val (v:=.int .u32 x15) C C C X H (Z.load1 zaD C (X.p 6 C) C)
    ·simp at h2_
   ·intro k s g w h1_ h2_ hsp X a H
    rcases k with _ | k
    ·exact Q.val (v:=.int .u32 x3) C C C X H (Z.load1 zaD C (X.p 3 C) C)
    ·simp at h2_
   ·intro k s g w h1_ h2_ hsp X a H
    rcases k with _ | _ | k
    ·exact absurd h1_ (by decide)
    ·exact Q.val (v:=ix s6 (Int.toNat x12*1)) C C C X H (Z.ixE zad zag C C (X.s 4 C) hx19)
    ·simp at h2_
  ·clear H J X; refine ⟨?_,?_,?_,trivial⟩
   ·intro s g w hsp X a H; refine oc H C ziI (zfm F x15 x13 x3 _ x18 hx18) ?_; rintro _ w Y a H; replace X:=X.cl Y; exact nG H ⟨(gt (d:=23) H C C),(λ_ _ _=>C),X⟩
   ·intro s g w hsp X a H; refine O.storeE (j:=4) (o:=0) (y0:=x18.1) (l':=x14.set (Int.toNat x12) x18.1) (M':=[pt dl11 do11,pt dD11 (.deferred (some [])),mkA [],pt b4 (Cs #[.int .u32 x3] 92),sE92 s6 (x14.set (Int.toNat x12) x18.1),pt b7 (Cs #[s6] 54),pt b8 (Cs #[.int .u32 x15] 92),pt b10 (Cs #[s1] 54)]) H X C C C zag C C C E92_len hx19 C C C C ?_; intro w X; exact nG H ⟨(λd hd=>by cases (show none=some d from hd)),(λ_ _ _=>C),X⟩
   ·intro s g w hsp X a H; refine ost 6 #[.int .u32 x18.2] H X C C C zag C C C (bl C) C ?_; intro w X; exact nG H ⟨(λd hd=>by cases (show none=some d from hd)),(λ_ _ _=>C),X⟩
  ·clear H J X; exact trivial
  clear H J X; intro s g a w hs H X; refine kbn ?_; exact .inl ⟨C,(x14.set (Int.toNat x12) x18.1,x18.2),by rw [hrec11] at M; exact M,X⟩
 ·clear H X M a; (try clear w); rintro dD11 ⟨x14,x15⟩ a w M X H; replace M:zbz F x3 ((downL x2).drop ((downL x2).map (λp:Int × Int=>(Iv p.1,Value.int .u32 p.2))).length) x14 x15=some r:=M; rw [List.length_map,List.drop_length] at M; replace M:zfn F x14 x15=some r:=M; unfold zfn at M; replace H:Fr a 30 (mkDs (dD11::[])) [(3,Pv b4 0),(4,.slice none 0 0),(5,.int .u32 0),(6,Pv b7 0),(7,Pv b8 0),(14,.func (.func 141) #[] #[Pv b10 0])]:=H.q C; replace X:St w0 w noX [rE92 s1 x2] (pt dD11 (.deferred (some []))::[mkA [],pt b4 (Cs #[.int .u32 x3] 92),sE92 s6 x14,pt b7 (Cs #[s6] 54),pt b8 (Cs #[.int .u32 x15] 92),pt b10 (Cs #[s1] 54)]):=X; replace X:=X.mkCons; refine kbn<|ksq<|W.seq<|?_; have J:Fr a 30 (mkDs (dD11::[])) [(4,.slice none 0 0),(5,.int .u32 0)]:=H.q C; replace H:Fr a 30 (mkDs (dD11::[])) [(6,Pv b7 0),(7,Pv b8 0)]:=H.q C; obtain ⟨x16,hx16,M⟩:=hm_b M; refine W.drawK (γ:=Value) (L0:=[(6,Pv b7 0),(7,Pv b8 0)]) (L1:=[(4,.slice none 0 0),(5,.int .u32 0)]) (undef) [1] [] [0,2,3,4] (λi=>match i with | 1=>[0] | 3=>[0,1] | 4=>[0,1,2,3] | _=>[]) (λ_=>[]) (λi=>match i with | 1=>[3,4] | _=>[]) (λ_=>[]) (λi=>match i with | 3=>1 | 4=>1 | _=>0) (λi=>match i with | 1=>1 | 2=>1 | 3=>1 | 4=>1 | _=>0) (λ(g:Value) j=>match j with | 0=>s6 | 1=>g | 2=>.int .u32 x15 | 3=>g | 4=>.int .u32 x15 | _=>undef) (λk s (g:Value) w=>match k with | 0=>St w0 w noX [rE92 s1 x2] [mkA (dD11::[]),pt b4 (Cs #[.int .u32 x3] 92),sE92 s6 x14,pt b7 (Cs #[s6] 54),pt b8 (Cs #[.int .u32 x15] 92),pt b10 (Cs #[s1] 54)] | _=>St w0 w noX [rE92 s1 x2] [sE92 g x16,mkA (dD11::[]),pt b4 (Cs #[.int .u32 x3] 92),pt b7 (Cs #[s6] 54),pt b8 (Cs #[.int .u32 x15] 92),pt b10 (Cs #[s1] 54)]) P_mixed (by kernel_rfl) (H.q C) J X.drew ?_ ?_ ?_ ?_
  ·clear H J X; refine ⟨?_,?_,λk s g w _ _ _ X a H=>Q.val (v:=g) C C C X H (Z.assign C),λk s g w _ _ _ X a H=>Q.val (v:=.int .u32 x15) C C C X H (Z.assign C),trivial⟩
   ·intro k s s17 w h1_ h2_ hsp X a H
    rcases k with _ | k
    ·replace H:Fr a 30 (mkDs (dD11::[])) [(6,Pv b7 0),(7,Pv b8 0)]:=H.q C; exact Q.val (v:=s6) C C C X H (Z.load1 zar C (X.p 3 C) C)
    ·simp at h2_
   ·intro k s s17 w h1_ h2_ hsp X a H
    rcases k with _ | _ | k
    ·replace H:Fr a 30 (mkDs (dD11::[])) [(6,Pv b7 0),(7,Pv b8 0)]:=H.q C; exact Q.val (v:=.int .u32 x15) C C C X H (Z.load1 zaD C (X.p 4 C) C)
    ·replace H:Fr a 30 (mkDs (dD11::[])) [(6,Pv b7 0),(7,Pv b8 0)]:=H.q C; exact Q.val (v:=.int .u32 x15) C C C X H (Z.load1 zaD C (X.p 4 C) C)
    ·simp at h2_
  ·clear H J X; refine ⟨?_,trivial⟩
   ·intro s s17 w hsp X a H; replace H:Fr a 30 (mkDs (dD11::[])) [(27,s6),(6,Pv b7 0),(7,Pv b8 0)]:=H.q C; refine oc H C zgp (zbT F s6 x14 _ (X.slS (j:=2) C) x16 hx16) ?_; rintro s17 w Y a H; replace X:=X.cz Y 2 λ_ h=>h; exact nE 28 H s17 C C (jl 5 (by kernel_rfl) λ_=>C) X
  ·clear H J X; exact trivial
  clear H J X; intro s s17 a w hs H X; replace H:Fr a 30 (mkDs (dD11::[])) [(27,s6),(28,s17),(29,.int .u32 x15),(4,s17),(5,.int .u32 x15),(6,Pv b7 0),(7,Pv b8 0)]:=H.q C; refine ksq<|W.ret<|?_; replace X:=X.fr 5; replace X:=X.fr 5; replace X:=X.fr 5; replace X:=X.fr 5; replace X:=X.fr 4; replace X:=X.fr 5; refine postM (Ds:=(dD11::[])) X H (λw a H X=>?_); obtain rfl:=oj M; refine post2 H C (rkt C) (rkt C) ?_; replace X:=X.sl [1]; exact ⟨s17,C,X.noB⟩
 ·rintro dD11 _ a w M _ _; exact M.elim
def zcf (F:Nat) (x4 x5:Int):Option Int :=
  (strIdx strc1 (IntKind.u8.wrap x4)).bind λx6=>(some (i64.wrap (x5+(i64.wrap x6)))).bind λx7=>some x7
def zcg (F:Nat) (x2 x3:Int):Option Int :=
  if x2≥(256:Int) then (zcf F (Int.fdiv x2 (2^8)) (i64.wrap (x3+8))) else (zcf F x2 x3)
def zeE (F:Nat) (x1:Int):Option Int :=
  if x1≥(65536:Int) then (zcg F (Int.fdiv x1 (2^16)) 16) else (zcg F x1 0)
theorem zg7 (F:Nat) (x1:Int) (w0:World) (r:Int) (M:zeE F x1=some r) :
    Ret Tryz.prog 115 #[.int .u32 x1] w0 (G:=Unit) (λ_=>Iv r) (λ_ w=>St w0 w noX [] []):=by
 unfold zeE at M; refine roW Tryz.func115 C C C (λa H=>?_); have X:St w0 w0 noX [] []:=Sbw lnn; refine sg (l:=[0]) C<|mv H C λa H=>nk<|?_; refine W.seqR (λa w=>∃ (x2:Int) (x3:Int),Fr a 19 [] [(0,.int .u32 x2),(2,Iv x3)]∧St w0 w noX [] []∧zcg F x2 x3=some r) ?_ ?_
 ·refine sg (l:=[0,1]) C<|mv H C λa H=>ov H C (Z.geq C C) λa H=>nk<|?_; refine W.ifdI H C (λhc9=>?_) (λhc9=>?_)
  ·replace M:=hm_p M hc9; refine sg (l:=[0,1,2]) C<|mv H C λa H=>ov (v:=.int .u32 (Int.fdiv x1 (2^16))) H C (Z.shr (q:=16) C C (by decide)) λa H=>mv H C λa H=>nk<|wrL (l:=[0]) C<|mv H C λa H=>O.nil<|?_; exact kth ⟨Int.fdiv x1 (2^16),16,H.q C,X,M⟩
  ·replace M:=hm_n M hc9; refine W.skip ?_; exact kth ⟨x1,0,H.q C,X,M⟩
 ·clear H X M a; (try clear w); rintro a w ⟨x2,x3,H,X,M⟩; unfold zcg at M; refine W.seqR (λa w=>∃ (x4:Int) (x5:Int),Fr a 19 [] [(0,.int .u32 x4),(2,Iv x5)]∧St w0 w noX [] []∧zcf F x4 x5=some r) ?_ ?_
  ·refine sg (l:=[0,1]) C<|mv H C λa H=>ov H C (Z.geq C C) λa H=>nk<|?_; refine W.ifdI H C (λhc8=>?_) (λhc8=>?_)
   ·replace M:=hm_p M hc8; refine sg (l:=[0,1,2]) C<|mv H C λa H=>ov (v:=.int .u32 (Int.fdiv x2 (2^8))) H C (Z.shr (q:=8) C C (by decide)) λa H=>mv H C λa H=>nk<|wrL (l:=[0,1,2]) C<|mv H C λa H=>ov H C (Z.add C C) λa H=>mv H C λa H=>O.nil<|?_; exact kth ⟨Int.fdiv x2 (2^8),i64.wrap (x3+8),H.q C,X,M⟩
   ·replace M:=hm_n M hc8; refine W.skip ?_; exact kth ⟨x2,x3,H.q C,X,M⟩
  ·clear H X M a; (try clear w); rintro a w ⟨x4,x5,H,X,M⟩; unfold zcf at M; refine sg (l:=[0,1,2,3,4,5,6]) C<|mv2 H C C λa H=>ov (v:=.int .u8 (IntKind.u8.wrap x4)) H C (Z.conv zbh zja C) λa H=>?_; obtain ⟨x6,hx6,M⟩:=hm_b M; refine ov H C (Z.indexStr zet C C hx6) λa H=>ov (v:=Iv (i64.wrap x6)) H C (Z.conv zjb zi9 C) λa H=>ov H C (Z.add C C) λa H=>mv H C λa H=>nk<|?_; obtain ⟨x7,hx7,M⟩:=hm_b M; rw [oj hx7] at H; refine W.ret ?_; obtain rfl:=oj M; refine post1 H C (rkt C) ?_; exact ⟨(),C,X.noB⟩
def zb6 (F:Nat) (x1:Int):Option Int :=
  (zeE F x1).bind λx2=>some (i64.wrap (32-x2))
theorem zfy (F:Nat) (x1:Int) (w0:World) (r:Int) (M:zb6 F x1=some r) :
    Ret Tryz.prog 85 #[.int .u32 x1] w0 (G:=Unit) (λ_=>Iv r) (λ_ w=>St w0 w noX [] []):=by
 unfold zb6 at M; refine roW Tryz.func85 C C C (λa H=>?_); have X:St w0 w0 noX [] []:=Sbw lnn; refine sg (l:=[0]) C<|mv H C λa H=>nk<|sg (l:=[0,1,2,3]) C<|mv H C λa H=>?_; obtain ⟨x2,hx2,M⟩:=hm_b M; refine oc H C zjl (zg7 F x1 _ x2 hx2) ?_; rintro _ w Y a H; replace X:=X.cl Y; refine ov H C (Z.sub C C) λa H=>mv H C λa H=>nk<|W.ret<|?_; obtain rfl:=oj M; refine post1 H C (rkt C) ?_; exact ⟨(),C,X.noB⟩
def zfJ (F:Nat) (x7:List Int) (x8:Int):Option (List Int) :=
  if (x7.length:Int)≤4294967296 then some (x7++[u32.wrap x8]) else none
def zfK (F:Nat) (x2:List Int) (x3:Int) (rec16:(List Int)→Int→Int→Option (List Int)) (x13:List Int) (x14 x15:Int):Option (List Int) :=
  if x15<((x2.length:Int):Int) then ((idx x2 x15).bind λx18=>if 0≤(Int.tmod x3 32) then (some (bitor .u64 x14 (u64.wrap ((u64.wrap x18)*2^(min (Int.toNat (Int.tmod x3 32)) (IntKind.bits .u64)))))).bind λx20=>if (x13.length:Int)≤4294967296 then rec16 (x13++[u32.wrap x20]) (Int.fdiv x20 (2^32)) (i64.wrap (x15+1)) else none else none) else (zfJ F x13 x14)
def zde (F:Nat) (x2:List Int) (x3:Int):Nat→(List Int)→Int→Int→Option (List Int)
  | 0,_,_,_=>none
  | n+1,x13,x14,x15=>zfK F x2 x3 (zde F x2 x3 n) x13 x14 x15
def zeQ (F:Nat) (x2:List Int) (x3:Int):Option (List Int) :=
  if 0≤(i64.wrap (Int.tdiv x3 32))∧(i64.wrap (Int.tdiv x3 32))≤(i64.wrap ((i64.wrap ((i64.wrap (Int.tdiv x3 32))+(x2.length:Int)))+1))∧(i64.wrap ((i64.wrap ((i64.wrap (Int.tdiv x3 32))+(x2.length:Int)))+1))≤4294967296 then zde F x2 x3 F (List.replicate (Int.toNat (i64.wrap (Int.tdiv x3 32))) (0:Int)) 0 0 else none
theorem zfL (F:Nat) (s1:Value) (x2:List Int) (x3:Int) (w0:World) (h_s1:rdEOK (hp w0) 1 E92 s1 x2) (r:List Int) (M:zeQ F x2 x3=some r) :
    Ret Tryz.prog 86 #[s1,Iv x3] w0 (G:=Value) (λg1=>g1) (λg1 w=>St w0 w noX [] [sE92 g1 r]):=by
 unfold zeQ at M; refine roW Tryz.func86 C C C (λa H=>?_); have X:St w0 w0 noX [rE92 s1 x2] []:=Sbw (lnc (lendRd h_s1) lnn); refine sg (l:=[0]) C<|mv H C λa H=>nk<|sg (l:=[0,1,2,3,4,5,6,7,8,9]) C<|mv H C λa H=>ov (v:=Iv (i64.wrap (Int.tdiv x3 32))) H C (Z.quo (q:=32) C C (by decide)) λa H=>mv H C λa H=>ov (v:=Iv (i64.wrap (Int.tdiv x3 32))) H C (Z.quo (q:=32) C C (by decide)) λa H=>mv H C λa H=>ov (v:=Iv (x2.length:Int)) H C (Z.lenE (e:=92) (by simpa using zad) C (X.b 0 C)) λa H=>?_; refine ov H C (Z.add C C) λa H=>ov H C (Z.add C C) λa H=>?_; obtain ⟨hg4,M⟩:=hm_g M; refine O.makeCapE (enc:=E92) (x0:=(0:Int)) H X C C zad zag zbV za9 C C C hg4 C E92_len C ?_; intro s5 w a X H; refine mv H C λa H=>nk<|sg (l:=[0]) C<|mv H C λa H=>nk<|?_; refine W.seqR (λa w=>∃ (s6:Value) (x7:List Int) (x8:Int),Fr a 44 [] [(4,.slice none 0 0),(5,s6),(6,Uv x8)]∧St w0 w noX [rE92 s1 x2] [sE92 s6 x7]∧zfJ F x7 x8=some r) ?_ ?_
 ·refine sg (l:=[0,1,2]) C<|mv H C λa H=>ov (v:=Iv (x2.length:Int)) H C (Z.lenE (e:=92) (by simpa using zad) C (X.b 0 C)) λa H=>mv H C λa H=>nk<|?_; refine W.block<|W.loop (G:=Nat × Value × (List Int) × Int × Int) (λg a w=>match g with | (k16,s12,x13,x14,x15)=>Fr a 44 [] [(1,Iv x3),(4,.slice none 0 0),(5,s12),(6,Uv x14),(18,s1),(19,Iv (x2.length:Int)),(20,Iv x15)]∧St w0 w noX [rE92 s1 x2] [sE92 s12 x13]∧zde F x2 x3 k16 x13 x14 x15=some r) (λg=>match g with | (k16,s12,x13,x14,x15)=>k16) (F,s5,List.replicate (Int.toNat (i64.wrap (Int.tdiv x3 32))) (0:Int),0,0) ⟨H.q C,X,M⟩<|?_; clear H X M a; (try clear w); rintro ⟨k16,s12,x13,x14,x15⟩ a w ⟨H,X,M⟩
  rcases k16 with _ | k16
  · nomatch M
  replace M:zfK F x2 x3 (zde F x2 x3 k16) x13 x14 x15=some r:=M; obtain ⟨rec16,hrec16⟩:∃ f,f=zde F x2 x3 k16:=⟨_,C⟩; rw [← hrec16] at M; unfold zfK at M; refine sg (l:=[0]) C<|ov H C (Z.lss C C) λa H=>nk<|W.seq<|?_; refine W.ifdI H C (λhc17=>?_) (λhc17=>?_)
  ·replace M:=hm_p M hc17; refine W.skip<|ksq<|W.seq<|W.block<|sg (l:=[0,1,2]) C<|?_; obtain ⟨x18,hx18,M⟩:=hm_b M; refine ov H C (Z.ixE zad zag C C (X.b 0 C) hx18) λa H=>ov H C (Z.ldE1 (o:=0) zaD E92_len C (X.b 0 C) hx18 C C) λa H=>mv H C λa H=>nk<|sg (l:=[0,1,2,3,4,5,6,7]) C<|mv2 H C C λa H=>ov (v:=Uv (u64.wrap x18)) H C (Z.conv zbh zaG C) λa H=>mv H C λa H=>ov (v:=Iv (Int.tmod x3 32)) H C (Z.rem (q:=32) C C (by decide)) λa H=>?_; obtain ⟨hg19,M⟩:=hm_g M; refine ov (v:=Uv (u64.wrap ((u64.wrap x18)*2^(min (Int.toNat (Int.tmod x3 32)) (IntKind.bits .u64))))) H C (Z.shl C C hg19) λa H=>ov (v:=Uv (bitor .u64 x14 (u64.wrap ((u64.wrap x18)*2^(min (Int.toNat (Int.tmod x3 32)) (IntKind.bits .u64)))))) H C (Z.bitor C C) λa H=>mv H C λa H=>nk<|?_; obtain ⟨x20,hx20,M⟩:=hm_b M; rw [oj hx20] at H; refine sg (l:=[0,1,2,3,4,5]) C<|mv2 H C C λa H=>ov (v:=.int .u32 (u32.wrap x20)) H C (Z.conv za1 zbS C) λa H=>O.buildSlice (cs':=#[.int .u32 (u32.wrap x20)]) (zs:=#[.int .u32 0]) H X C C zad zag za9 C C C C C<|?_; intro b21 w a hb21 X H; obtain ⟨hg22,M⟩:=hm_g M; refine O.appendE1 (j:=1) (jj:=0) (enc:=E92) (m:=[u32.wrap x20]) (l':=x13++[u32.wrap x20]) H X C C zad zag zbV za9 C C C C C C C C C C hg22 C C C ?_; intro s23 w a X H; replace X:St w0 _ noX [rE92 s1 x2] [pt b21 (Cs #[.int .u32 (u32.wrap x20)] 92),sE92 s23 (x13++[u32.wrap x20])]:=X; refine mv H C λa H=>nk<|?_; replace X:=X.sl [0,1]; refine wrL (l:=[0,1,2]) C<|mv H C λa H=>ov (v:=Uv (Int.fdiv x20 (2^32))) H C (Z.shr (q:=32) C C (by decide)) λa H=>mv H C λa H=>O.nil<|kbn<|ksq<|wrL (l:=[0,1]) C<|ov H C (Z.add C C) λa H=>mv H C λa H=>?_; refine O.nil ?_; refine kth ⟨(k16,s23,x13++[u32.wrap x20],Int.fdiv x20 (2^32),i64.wrap (x15+1)),⟨H.q C,X,?_⟩,Nat.lt_succ_self _⟩; rw [hrec16] at M; exact M
  ·replace M:=hm_n M hc17; refine W.exit<|kte<|kte<|kbk<|?_; exact kth ⟨s12,x13,x14,H.q C,X,M⟩
 ·clear H X M a; (try clear w); rintro a w ⟨s6,x7,x8,H,X,M⟩; unfold zfJ at M; refine sg (l:=[0,1,2,3,4,5]) C<|mv2 H C C λa H=>ov (v:=.int .u32 (u32.wrap x8)) H C (Z.conv za1 zbS C) λa H=>O.buildSlice (cs':=#[.int .u32 (u32.wrap x8)]) (zs:=#[.int .u32 0]) H X C C zad zag za9 C C C C C<|?_; intro b9 w a hb9 X H; obtain ⟨hg10,M⟩:=hm_g M; refine O.appendE1 (j:=1) (jj:=0) (enc:=E92) (m:=[u32.wrap x8]) (l':=x7++[u32.wrap x8]) H X C C zad zag zbV za9 C C C C C C C C C C hg10 C C C ?_; intro s11 w a X H; replace X:St w0 _ noX [rE92 s1 x2] [pt b9 (Cs #[.int .u32 (u32.wrap x8)] 92),sE92 s11 (x7++[u32.wrap x8])]:=X; refine mv H C λa H=>nk<|?_; replace X:=X.sl [0,1]; refine W.ret ?_; obtain rfl:=oj M; refine post1 H C (rkt C) ?_; exact ⟨s11,C,X.noB⟩
def zds (F:Nat) (x4 x6:List Int) (x7 x8:Int):Option (Bool × (List Int)) :=
  (idx x6 (x4.length:Int)).bind λx9=>(zcd F x9 (u32.wrap x7) x8).bind λx10=>some (decide (x10.2=(0:Int)),x6.set (Int.toNat (x4.length:Int)) x10.1)
def zdt (F:Nat) (x4:List Int) (x5:Int) (rec15:(List Int)→Int→Int→Int→Option (Bool × (List Int))) (x11:List Int) (x12 x13 x14:Int):Option (Bool × (List Int)) :=
  if x14<((x4.length:Int):Int) then ((idx x4 x14).bind λx17=>(some (u64.wrap (x12+(u64.wrap ((u64.wrap x5)*(u64.wrap x17)))))).bind λx18=>(idx x11 x14).bind λx19=>(zcd F x19 (u32.wrap x18) x13).bind λx20=>rec15 (x11.set (Int.toNat x14) x20.1) (Int.fdiv x18 (2^32)) x20.2 (i64.wrap (x14+1))) else (zds F x4 x11 x12 x13)
def zbA (F:Nat) (x4:List Int) (x5:Int):Nat→(List Int)→Int→Int→Int→Option (Bool × (List Int))
  | 0,_,_,_,_=>none
  | n+1,x11,x12,x13,x14=>zdt F x4 x5 (zbA F x4 x5 n) x11 x12 x13 x14
def zeF (F:Nat) (x2 x4:List Int) (x5:Int):Option (Bool × (List Int)) :=
  zbA F x4 x5 F x2 0 0 0
theorem zg8 (F:Nat) (s1:Value) (x2:List Int) (s3:Value) (x4:List Int) (x5:Int) (w0:World) (h_s1:slOK (hp w0) 92 1 s1 x2.length (encs E92 x2)) (h_s3:rdEOK (hp w0) 1 E92 s3 x4) (ap_s3:∀ k,(rE92 s3 x4).fp k→¬ (sE92 s1 x2).fp k) (r:Bool × (List Int)) (M:zeF F x2 x4 x5=some r) :
    Ret Tryz.prog 116 #[s1,s3,.int .u32 x5] w0 (G:=Unit) (λ_=>Bv r.1) (λ_ w=>St w0 w (λk=>s1.ownBlock=some k) [] [sE92 s1 r.2]):=by
 unfold zeF at M; refine roW Tryz.func116 C C C (λa H=>?_); have X:St w0 w0 (λk=>s1.ownBlock=some k) [rE92 s3 x4] [sE92 s1 x2]:=St.ownE h_s1 (lnc (lendRd h_s3) lnn) (apAll_cons ap_s3 (apAll_nil (q:=sE92 s1 x2))); refine sg (l:=[0]) C<|mv H C λa H=>nk<|sg (l:=[0]) C<|mv H C λa H=>nk<|sg (l:=[0]) C<|mv H C λa H=>nk<|?_; refine W.seqR (λa w=>∃ (x6:List Int) (x7:Int) (x8:Int),Fr a 61 [] [(0,s1),(1,s3),(6,Bv false),(7,Uv x7),(8,.int .u32 x8)]∧St w0 w (λk=>s1.ownBlock=some k) [rE92 s3 x4] [sE92 s1 x6]∧zds F x4 x6 x7 x8=some r) ?_ ?_
 ·refine sg (l:=[0,1,2]) C<|mv H C λa H=>ov (v:=Iv (x4.length:Int)) H C (Z.lenE (e:=92) (by simpa using zad) C (X.b 0 C)) λa H=>mv H C λa H=>nk<|W.block<|W.loop (G:=Nat × (List Int) × Int × Int × Int) (λg a w=>match g with | (k15,x11,x12,x13,x14)=>Fr a 61 [] [(0,s1),(1,s3),(2,.int .u32 x5),(6,Bv false),(7,Uv x12),(8,.int .u32 x13),(12,s3),(13,Iv (x4.length:Int)),(14,Iv x14)]∧St w0 w (λk=>s1.ownBlock=some k) [rE92 s3 x4] [sE92 s1 x11]∧zbA F x4 x5 k15 x11 x12 x13 x14=some r) (λg=>match g with | (k15,x11,x12,x13,x14)=>k15) (F,x2,0,0,0) ⟨H.q C,X,M⟩<|?_; clear H X M a; (try clear w); rintro ⟨k15,x11,x12,x13,x14⟩ a w ⟨H,X,M⟩
  rcases k15 with _ | k15
  · nomatch M
  replace M:zdt F x4 x5 (zbA F x4 x5 k15) x11 x12 x13 x14=some r:=M; obtain ⟨rec15,hrec15⟩:∃ f,f=zbA F x4 x5 k15:=⟨_,C⟩; rw [← hrec15] at M; unfold zdt at M; refine sg (l:=[0]) C<|ov H C (Z.lss C C) λa H=>nk<|W.seq<|?_; refine W.ifdI H C (λhc16=>?_) (λhc16=>?_)
  ·replace M:=hm_p M hc16; refine W.skip<|ksq<|W.seq<|W.block<|sg (l:=[0,1,2,3,4]) C<|mv H C λa H=>?_; obtain ⟨x17,hx17,M⟩:=hm_b M; refine ov H C (Z.ixE zad zag C C (X.b 0 C) hx17) λa H=>ov H C (Z.ldE1 (o:=0) zaD E92_len C (X.b 0 C) hx17 C C) λa H=>mv2 H C C λa H=>nk<|sg (l:=[0,1,2,3,4,5,6,7]) C<|mv2 H C C λa H=>ov (v:=Uv (u64.wrap x5)) H C (Z.conv zbh zaG C) λa H=>mv H C λa H=>?_; refine ov (v:=Uv (u64.wrap x17)) H C (Z.conv zbh zaG C) λa H=>ov H C (Z.mul C C) λa H=>ov H C (Z.add C C) λa H=>mv H C λa H=>nk<|?_; obtain ⟨x18,hx18,M⟩:=hm_b M; rw [oj hx18] at H; refine sg (l:=[0,1,2,3,4,5,6,7,8,9,10,11,12,13,14,15]) C<|mv2 H C C λa H=>mv2 H C C λa H=>?_; obtain ⟨x19,hx19,M⟩:=hm_b M; refine ov H C (Z.ixE zad zag C C (X.s 0 C) hx19) λa H=>ov H C (Z.ldE1 (o:=0) zaD E92_len C (X.s 0 C) hx19 C C) λa H=>mv H C λa H=>ov (v:=.int .u32 (u32.wrap x18)) H C (Z.conv za1 zbS C) λa H=>mv H C λa H=>?_; obtain ⟨x20,hx20,M⟩:=hm_b M; refine oc H C zin (zdq F x19 (u32.wrap x18) x13 _ x20 hx20) ?_; rintro _ w Y a H; replace X:=X.cl Y; refine mv H C λa H=>ex H C C C λa H=>ex H C C C λa H=>ov H C (Z.ixE zad zag C C (X.s 0 C) hx19) λa H=>O.storeE (j:=0) (o:=0) (y0:=x20.1) (l':=x11.set (Int.toNat x14) x20.1) (M':=[sE92 s1 (x11.set (Int.toNat x14) x20.1)]) H X C C C zag C C C E92_len hx19 C C C C<|?_; intro w X; refine mv H C λa H=>nk<|wrL (l:=[0,1,2]) C<|mv H C λa H=>ov (v:=Uv (Int.fdiv x18 (2^32))) H C (Z.shr (q:=32) C C (by decide)) λa H=>mv H C λa H=>O.nil<|kbn<|ksq<|wrL (l:=[0,1]) C<|?_; refine ov H C (Z.add C C) λa H=>mv H C λa H=>O.nil<|?_; refine kth ⟨(k15,x11.set (Int.toNat x14) x20.1,Int.fdiv x18 (2^32),x20.2,i64.wrap (x14+1)),⟨H.q C,X,?_⟩,Nat.lt_succ_self _⟩; rw [hrec15] at M; exact M
  ·replace M:=hm_n M hc16; refine W.exit<|kte<|kte<|kbk<|?_; exact kth ⟨x11,x12,x13,H.q C,X,M⟩
 ·clear H X M a; (try clear w); rintro a w ⟨x6,x7,x8,H,X,M⟩; unfold zds at M; refine sg (l:=[0,1,2]) C<|mv H C λa H=>ov (v:=Iv (x4.length:Int)) H C (Z.lenE (e:=92) (by simpa using zad) C (X.b 0 C)) λa H=>mv H C λa H=>nk<|sg (l:=[0,1,2,3,4,5,6,7,8,9,10,11,12,13,14,15]) C<|mv2 H C C λa H=>mv2 H C C λa H=>?_; obtain ⟨x9,hx9,M⟩:=hm_b M; refine ov H C (Z.ixE zad zag C C (X.s 0 C) hx9) λa H=>ov H C (Z.ldE1 (o:=0) zaD E92_len C (X.s 0 C) hx9 C C) λa H=>mv H C λa H=>ov (v:=.int .u32 (u32.wrap x7)) H C (Z.conv za1 zbS C) λa H=>mv H C λa H=>?_; obtain ⟨x10,hx10,M⟩:=hm_b M; refine oc H C zin (zdq F x9 (u32.wrap x7) x8 _ x10 hx10) ?_; rintro _ w Y a H; replace X:=X.cl Y; refine mv H C λa H=>ex H C C C λa H=>ex H C C C λa H=>ov H C (Z.ixE zad zag C C (X.s 0 C) hx9) λa H=>O.storeE (j:=0) (o:=0) (y0:=x10.1) (l':=x6.set (Int.toNat (x4.length:Int)) x10.1) (M':=[sE92 s1 (x6.set (Int.toNat (x4.length:Int)) x10.1)]) H X C C C zag C C C E92_len hx9 C C C C<|?_; intro w X; refine mv H C λa H=>nk<|sg (l:=[0,1,2]) C<|mv H C λa H=>ov H C (Z.eql C C) λa H=>mv H C λa H=>nk<|W.ret<|?_; obtain rfl:=oj M; refine post1 H C (rkt C) ?_; exact ⟨(),C,X.noB⟩
def zeZ (F:Nat) (x3 x4:Int) (x2 x6:List Int) (rec9:Int→Option (Int × (List Int))) (x8:Int):Option (Int × (List Int)) :=
  if sbd x3 x4 (x2.length:Int) then (zay F (lsub x2 x3 x4)).bind λx11=>(zeF F x11 x6 x8).bind λx13=>if (x13.1)=true then (some (x8,lcopy x2 x13.2 x3 (min x13.2.length (Int.toNat x4-Int.toNat x3)))) else (rec9 (u32.wrap (x8-1))) else none
def zcy (F:Nat) (x3 x4:Int) (x2 x6:List Int):Nat→Int→Option (Int × (List Int))
  | 0,_=>none
  | n+1,x8=>zeZ F x3 x4 x2 x6 (zcy F x3 x4 x2 x6 n) x8
def zdu (F:Nat) (x3 x4:Int) (x2 x6:List Int) (x7:Int):Option (Int × (List Int)) :=
  zcy F x3 x4 x2 x6 F x7
def zf2 (F:Nat) (x2:List Int) (x3 x4:Int) (x6:List Int):Option (Int × (List Int)) :=
  if sbd x3 x4 (x2.length:Int) then (idx (lsub x2 x3 x4) (x6.length:Int)).bind λx16=>(idx x6 (i64.wrap ((x6.length:Int)-1))).bind λx17=>if x16<(x17:Int) then ((idx (lsub x2 x3 x4) (i64.wrap ((x6.length:Int)-1))).bind λx19=>(zc8 F x16 x19 x17).bind λx20=>zdu F x3 x4 x2 x6 x20.1) else (zdu F x3 x4 x2 x6 4294967295) else none
theorem zh0 (F:Nat) (s1:Value) (x2:List Int) (x3 x4:Int) (s5:Value) (x6:List Int) (w0:World) (h_s1:slOK (hp w0) 92 1 s1 x2.length (encs E92 x2)) (h_s5:rdEOK (hp w0) 1 E92 s5 x6) (ap_s5:∀ k,(rE92 s5 x6).fp k→¬ (sE92 s1 x2).fp k) (r:Int × (List Int)) (M:zf2 F x2 x3 x4 x6=some r) :
    Ret Tryz.prog 87 #[vsub 1 s1 x3 x4,s5] w0 (G:=Unit) (λ_=>.int .u32 r.1) (λ_ w=>St w0 w (λk=>s1.ownBlock=some k) [] [sE92 s1 r.2]):=by
 unfold zf2 at M; refine roW Tryz.func87 C C C (λa H=>?_); have X:St w0 w0 (λk=>s1.ownBlock=some k) [rE92 s5 x6] [sE92 s1 x2]:=St.ownE h_s1 (lnc (lendRd h_s5) lnn) (apAll_cons ap_s5 (apAll_nil (q:=sE92 s1 x2))); refine sg (l:=[0]) C<|mv H C λa H=>nk<|sg (l:=[0,1,2]) C<|mv H C λa H=>ov (v:=Iv (x6.length:Int)) H C (Z.lenE (e:=92) (by simpa using zad) C (X.b 0 C)) λa H=>mv H C λa H=>nk<|sg (l:=[0]) C<|mv H C λa H=>?_; refine nk ?_; refine W.seqR (λa w=>∃ (x7:Int),Fr a 50 [] [(0,vsub 1 s1 x3 x4),(1,s5),(4,.int .u32 0),(6,.int .u32 x7)]∧St w0 w (λk=>s1.ownBlock=some k) [rE92 s5 x6] [sE92 s1 x2]∧zdu F x3 x4 x2 x6 x7=some r) ?_ ?_
 ·refine W.seq ?_; obtain ⟨hg15,M⟩:=hm_g M; obtain ⟨x16,hx16,M⟩:=hm_b M; obtain ⟨x17,hx17,M⟩:=hm_b M; refine W.drawQ (λw=>St w0 w (λk=>s1.ownBlock=some k) [rE92 s5 x6] [sE92 s1 x2]) P_mixed C (by kernel_rfl) C X.drew ?_; clear X; (try clear w); refine OQ.val (v:=vsub 1 s1 x3 x4) H C (λw X=>Z.move C) λa H=>OQ.val (v:=Iv (x6.length:Int)) H C (λw X=>Z.move C) λa H=>OQ.val (v:=ix s1 (Int.toNat (x3+(x6.length:Int))*1)) H C (λw X=>Z.ixW zad zag C C (X.s 0 C) E92_len hg15 hx16) λa H=>OQ.val (v:=.int .u32 x16) H C (λw X=>Z.ldE1 (o:=0) zaD E92_len C (X.s 0 C) (idx_lsub hg15 hx16) C C) λa H=>OQ.val (v:=s5) H C (λw X=>Z.move C) λa H=>OQ.val (v:=Iv (x6.length:Int)) H C (λw X=>Z.move C) λa H=>OQ.val (v:=Iv (i64.wrap ((x6.length:Int)-1))) H C (λw X=>Z.sub C C) λa H=>OQ.val (v:=ix s5 (Int.toNat (i64.wrap ((x6.length:Int)-1))*1)) H C (λw X=>Z.ixE zad zag C C (X.b 0 C) hx17) λa H=>OQ.val (v:=.int .u32 x17) H C (λw X=>Z.ldE1 (o:=0) zaD E92_len C (X.b 0 C) hx17 C C) λa H=>OQ.val (v:=Bv (decide (x16<(x17:Int)))) H C (λw X=>Z.lss C C) λa H=>?_; refine OQ.nil ?_; intro w X; refine ksq ?_; refine W.ifdI H C (λhc18=>?_) (λhc18=>?_)
  ·replace M:=hm_p M hc18; obtain ⟨x19,hx19,M⟩:=hm_b M; obtain ⟨x20,hx20,M⟩:=hm_b M; refine W.drawQ (λw=>St w0 w (λk=>s1.ownBlock=some k) [rE92 s5 x6] [sE92 s1 x2]) P_mixed C (by kernel_rfl) C X.drew ?_; clear X; (try clear w); refine OQ.val (v:=vsub 1 s1 x3 x4) H C (λw X=>Z.move C) λa H=>OQ.val (v:=Iv (x6.length:Int)) H C (λw X=>Z.move C) λa H=>OQ.val (v:=ix s1 (Int.toNat (x3+(x6.length:Int))*1)) H C (λw X=>Z.ixW zad zag C C (X.s 0 C) E92_len hg15 hx16) λa H=>OQ.val (v:=.int .u32 x16) H C (λw X=>Z.ldE1 (o:=0) zaD E92_len C (X.s 0 C) (idx_lsub hg15 hx16) C C) λa H=>OQ.val (v:=vsub 1 s1 x3 x4) H C (λw X=>Z.move C) λa H=>OQ.val (v:=Iv (x6.length:Int)) H C (λw X=>Z.move C) λa H=>OQ.val (v:=Iv (i64.wrap ((x6.length:Int)-1))) H C (λw X=>Z.sub C C) λa H=>OQ.val (v:=ix s1 (Int.toNat (x3+(i64.wrap ((x6.length:Int)-1)))*1)) H C (λw X=>Z.ixW zad zag C C (X.s 0 C) E92_len hg15 hx19) λa H=>OQ.val (v:=.int .u32 x19) H C (λw X=>Z.ldE1 (o:=0) zaD E92_len C (X.s 0 C) (idx_lsub hg15 hx19) C C) λa H=>OQ.val (v:=s5) H C (λw X=>Z.move C) λa H=>?_; refine OQ.val (v:=Iv (x6.length:Int)) H C (λw X=>Z.move C) λa H=>OQ.val (v:=Iv (i64.wrap ((x6.length:Int)-1))) H C (λw X=>Z.sub C C) λa H=>OQ.val (v:=ix s5 (Int.toNat (i64.wrap ((x6.length:Int)-1))*1)) H C (λw X=>Z.ixE zad zag C C (X.b 0 C) hx17) λa H=>OQ.val (v:=.int .u32 x17) H C (λw X=>Z.ldE1 (o:=0) zaD E92_len C (X.b 0 C) hx17 C C) λa H=>OQ.callRq (v:=.tuple #[.int .u32 x20.1,.int .u32 x20.2]) H C (λw X=>RunE.call (av:=#[.int .u32 x16,.int .u32 x19,.int .u32 x17]) ziI C C C) (λw X=>zfm F x16 x19 x17 _ x20 hx20) λa H=>OQ.val (v:=.tuple #[.int .u32 x20.1,.int .u32 x20.2]) H C (λw X=>Z.move C) λa H=>OQ.val (v:=.int .u32 x20.1) H C (λw X=>Z.extract C C) λa H=>OQ.val (v:=.int .u32 x20.2) H C (λw X=>Z.extract C C) λa H=>OQ.val (v:=.int .u32 x20.1) H C (λw X=>Z.assign C) λa H=>?_; refine OQ.nil ?_; intro w X; exact kth ⟨x20.1,H.q C,X,M⟩
  ·replace M:=hm_n M hc18; refine W.skip ?_; exact kth ⟨4294967295,H.q C,X,M⟩
 ·clear H X M a; (try clear w); rintro a w ⟨x7,H,X,M⟩; unfold zdu at M; refine W.block<|W.loop (G:=Nat × Int) (λg a w=>match g with | (k9,x8)=>Fr a 50 [] [(0,vsub 1 s1 x3 x4),(1,s5),(4,.int .u32 0),(6,.int .u32 x8)]∧St w0 w (λk=>s1.ownBlock=some k) [rE92 s5 x6] [sE92 s1 x2]∧zcy F x3 x4 x2 x6 k9 x8=some r) (λg=>match g with | (k9,x8)=>k9) (F,x7) ⟨H.q C,X,M⟩<|?_; clear H X M a; (try clear w); rintro ⟨k9,x8⟩ a w ⟨H,X,M⟩
  rcases k9 with _ | k9
  · nomatch M
  replace M:zeZ F x3 x4 x2 x6 (zcy F x3 x4 x2 x6 k9) x8=some r:=M; obtain ⟨rec9,hrec9⟩:∃ f,f=zcy F x3 x4 x2 x6 k9:=⟨_,C⟩; rw [← hrec9] at M; unfold zeZ at M; refine W.block<|sg (l:=[0,1,2]) C<|mv H C λa H=>?_; obtain ⟨hg10,M⟩:=hm_g M; obtain ⟨x11,hx11,M⟩:=hm_b M; refine oc H C zfD (zaE F (vsub 1 s1 x3 x4) (lsub x2 x3 x4) _ (rdEOK.sub (X.s 0 C) E92_len hg10) x11 hx11) ?_; rintro s12 w Y a H; replace X:=X.cl Y; refine mv H C λa H=>nk<|W.seq<|sg (l:=[0,1,2,3]) C<|mv2 H C C λa H=>mv H C λa H=>?_; obtain ⟨x13,hx13,M⟩:=hm_b M; refine oc H C zjm (zg8 F s12 x11 s5 x6 x8 _ (X.slS (j:=0) C) (X.b 0 C) (X.apart (i:=0) (j:=0) C C) x13 hx13) ?_; rintro _ w Y a H; replace X:=X.cz Y 0 λ_ h=>h; refine nk ?_; refine W.if_ H C (λhc14=>?_) (λhc14=>?_)
  ·replace M:=hm_t M hc14; refine sg (l:=[0,1,2]) C<|mv2 H C C λa H=>O.copyW (j:=1) (p1:=x3) (p2:=x4) (M':=[sE92 s12 x13.2,sE92 s1 (lcopy x2 x13.2 x3 (min x13.2.length (Int.toNat x4-Int.toNat x3)))]) H X C C zad zag C C C (X.s 0 C) E92_len E92_one hg10 C C<|?_; intro w a X H; refine nk ?_; replace X:=X.sl [0,1]; refine sg (l:=[0,1]) C<|mv2 H C C λa H=>nk<|W.ret<|ktr<|kbr<|ktr<|kbr<|?_; obtain rfl:=oj M; refine post1 H C (rkt C) ?_; exact ⟨(),C,X.noB⟩
  ·replace M:=hm_f M hc14; refine W.skip<|ksq<|?_; replace X:=X.sl [0,1]; refine wrL (l:=[0,1,2]) C<|mv H C λa H=>ov H C (Z.sub C C) λa H=>mv H C λa H=>O.nil<|kbn<|?_; refine kth ⟨(k9,u32.wrap (x8-1)),⟨H.q C,X,?_⟩,Nat.lt_succ_self _⟩; rw [hrec9] at M; exact M
def zfM (F:Nat) (x1:Int):Option Bool :=
  some (decide (x1>(0:Int)))
theorem zhI (F:Nat) (x1:Int) (w0:World) (r:Bool) (M:zfM F x1=some r) :
    Ret Tryz.prog 118 #[.int .u32 x1] w0 (G:=Unit) (λ_=>Bv r) (λ_ w=>St w0 w noX [] []):=by
 unfold zfM at M; refine roW Tryz.func118 C C C (λa H=>?_); have X:St w0 w0 noX [] []:=Sbw lnn; refine sg (l:=[0]) C<|mv H C λa H=>nk<|sg (l:=[0,1,2]) C<|mv H C λa H=>ov H C (Z.gtr C C) λa H=>mv H C λa H=>nk<|W.ret<|?_; obtain rfl:=oj M; refine post1 H C (rkt C) ?_; exact ⟨(),C,X.noB⟩
def zaQ (F:Nat) :Option Int :=
  some (-1)
def zaR (F:Nat) (x2:List Int) (rec4:Int→Option Int) (x3:Int):Option Int :=
  if x3<((x2.length:Int):Int) then ((idx x2 x3).bind λx6=>(zfM F x6).bind λx7=>if (x7)=true then (some x3) else (rec4 (i64.wrap (x3+1)))) else (zaQ F)
def zaw (F:Nat) (x2:List Int):Nat→Int→Option Int
  | 0,_=>none
  | n+1,x3=>zaR F x2 (zaw F x2 n) x3
def zaW (F:Nat) (x2:List Int):Option Int :=
  zaw F x2 F 0
theorem zct (F:Nat) (s1:Value) (x2:List Int) (w0:World) (h_s1:rdEOK (hp w0) 1 E92 s1 x2) (r:Int) (M:zaW F x2=some r) :
    Ret Tryz.prog 142 #[s1,.func (.func 118) #[] #[]] w0 (G:=Unit) (λ_=>Iv r) (λ_ w=>St w0 w noX [] []):=by
 unfold zaW at M; refine roW Tryz.func142 C C C (λa H=>?_); have X:St w0 w0 noX [rE92 s1 x2] []:=Sbw (lnc (lendRd h_s1) lnn); refine sg (l:=[0]) C<|mv H C λa H=>nk<|?_; refine W.seqR (λa w=>Fr a 19 [] [(4,Iv 0)]∧St w0 w noX [rE92 s1 x2] []∧zaQ F=some r) ?_ ?_
 ·refine sg (l:=[0,1,2]) C<|mv H C λa H=>ov (v:=Iv (x2.length:Int)) H C (Z.lenE (e:=92) (by simpa using zad) C (X.b 0 C)) λa H=>mv H C λa H=>nk<|?_; refine W.block<|W.loop (G:=Nat × Int) (λg a w=>match g with | (k4,x3)=>Fr a 19 [] [(0,s1),(1,.func (.func 118) #[] #[]),(4,Iv 0),(7,Iv (x2.length:Int)),(8,Iv x3)]∧St w0 w noX [rE92 s1 x2] []∧zaw F x2 k4 x3=some r) (λg=>match g with | (k4,x3)=>k4) (F,0) ⟨H.q C,X,M⟩<|?_; clear H X M a; (try clear w); rintro ⟨k4,x3⟩ a w ⟨H,X,M⟩
  rcases k4 with _ | k4
  · nomatch M
  replace M:zaR F x2 (zaw F x2 k4) x3=some r:=M; obtain ⟨rec4,hrec4⟩:∃ f,f=zaw F x2 k4:=⟨_,C⟩; rw [← hrec4] at M; unfold zaR at M; refine sg (l:=[0]) C<|ov H C (Z.lss C C) λa H=>nk<|W.seq<|?_; refine W.ifdI H C (λhc5=>?_) (λhc5=>?_)
  ·replace M:=hm_p M hc5; refine W.skip<|ksq<|W.seq<|W.block<|sg (l:=[0,1]) C<|mv2 H C C λa H=>nk<|sg (l:=[0,1,2,3,4,5]) C<|mv H C λa H=>?_; refine mv2 H C C λa H=>?_; obtain ⟨x6,hx6,M⟩:=hm_b M; refine ov H C (Z.ixE zad zag C C (X.b 0 C) hx6) λa H=>ov H C (Z.ldE1 (o:=0) zaD E92_len C (X.b 0 C) hx6 C C) λa H=>?_; obtain ⟨x7,hx7,M⟩:=hm_b M; refine oc H C zjo (zhI F x6 _ x7 hx7) ?_; rintro _ w Y a H; replace X:=X.cl Y; refine nk ?_; refine W.if_ H C (λhc8=>?_) (λhc8=>?_)
   ·replace M:=hm_t M hc8; refine sg (l:=[0,1]) C<|mv2 H C C λa H=>nk<|W.ret<|kbr<|ktr<|ktr<|kbr<|ktr<|?_; obtain rfl:=oj M; refine post1 H C (rkt C) ?_; exact ⟨(),C,X.noB⟩
   ·replace M:=hm_f M hc8; refine W.skip<|kbn<|ksq<|wrL (l:=[0,1]) C<|ov H C (Z.add C C) λa H=>mv H C λa H=>O.nil<|?_; refine kth ⟨(k4,i64.wrap (x3+1)),⟨H.q C,X,?_⟩,Nat.lt_succ_self _⟩; rw [hrec4] at M; exact M
  ·replace M:=hm_n M hc5; refine W.exit<|kte<|kte<|kbk<|?_; exact kth ⟨H.q C,X,M⟩
 ·clear H X M a; (try clear w); rintro a w ⟨H,X,M⟩; unfold zaQ at M; refine sg (l:=[0]) C<|mv H C λa H=>nk<|W.ret<|?_; obtain rfl:=oj M; refine post1 H C (rkt C) ?_; exact ⟨(),C,X.noB⟩
def zaS (F:Nat) (x2:List Int):Option Bool :=
  (zaW F x2).bind λx3=>some (decide (x3≥(0:Int)))
theorem zb7 (F:Nat) (s1:Value) (x2:List Int) (w0:World) (h_s1:rdEOK (hp w0) 1 E92 s1 x2) (r:Bool) (M:zaS F x2=some r) :
    Ret Tryz.prog 117 #[s1,.func (.func 118) #[] #[]] w0 (G:=Unit) (λ_=>Bv r) (λ_ w=>St w0 w noX [] []):=by
 unfold zaS at M; refine roW Tryz.func117 C C C (λa H=>?_); have X:St w0 w0 noX [rE92 s1 x2] []:=Sbw (lnc (lendRd h_s1) lnn); refine sg (l:=[0]) C<|mv H C λa H=>nk<|sg (l:=[0,1,2,3,4]) C<|mv2 H C C λa H=>?_; obtain ⟨x3,hx3,M⟩:=hm_b M; refine oc H C zjx (zct F s1 x2 _ (X.b 0 C) x3 hx3) ?_; rintro _ w Y a H; replace X:=X.cl Y; refine ov H C (Z.geq C C) λa H=>mv H C λa H=>nk<|W.ret<|?_; obtain rfl:=oj M; refine post1 H C (rkt C) ?_; exact ⟨(),C,X.noB⟩
def zfp (F:Nat) (x7:Bool) (x18:List Int) (x19:Int):Option ((List Int) × Bool) :=
  some (x18,x7||(decide (x19>(0:Int))))
def zfq (F:Nat) (x3:Int) (rec15:(List Int)→Int→Option ((List Int) × Bool)) (x16 x17:Int) (x18:List Int) (x19:Int):Option ((List Int) × Bool) :=
  (some (bitor .u64 (u64.wrap (x19*2^32)) (u64.wrap x17))).bind λx21=>if 0≤(Int.tmod x3 32) then (idx x18 x16).bind λx23=>if 0≤(Int.tmod x3 32) then rec15 (x18.set (Int.toNat x16) (u32.wrap (Int.fdiv x21 (2^(min (Int.toNat (Int.tmod x3 32)) (IntKind.bits .u64)))))) (bitand .u64 x21 (u64.wrap ((u64.wrap (1*2^(min (Int.toNat (Int.tmod x3 32)) (IntKind.bits .u64))))-1))) else none else none
def zbB (F:Nat) (x3:Int) (x7:Bool):List (Int × Int)→(List Int)→Int→Option ((List Int) × Bool)
  | [],x18,x19=>zfp F x7 x18 x19
  | p::t,x18,x19=>zfq F x3 (zbB F x3 x7 t) p.1 p.2 x18 x19
def zfr (F:Nat) (x2:List Int) (x3:Int):Option ((List Int) × Bool) :=
  (some (if (x2.length:Int)<(i64.wrap (Int.tdiv x3 32)) then (x2.length:Int) else (i64.wrap (Int.tdiv x3 32)))).bind λx5=>if sbd 0 x5 (x2.length:Int) then (zaS F (lsub x2 0 x5)).bind λx7=>if 0≤(i64.wrap ((x2.length:Int)-x5))∧(i64.wrap ((x2.length:Int)-x5))≤4294967296 then if sbd x5 (x2.length:Int) (x2.length:Int) then (zeP F (lsub x2 x5 (x2.length:Int))).bind λx13=>zbB F x3 x7 (downL (lsub x2 x5 (x2.length:Int))) (List.replicate (Int.toNat (i64.wrap ((x2.length:Int)-x5))) (0:Int)) 0 else none else none else none
theorem zgM (F:Nat) (s1:Value) (x2:List Int) (x3:Int) (w0:World) (h_s1:rdEOK (hp w0) 1 E92 s1 x2) (r:(List Int) × Bool) (M:zfr F x2 x3=some r) :
    Ret Tryz.prog 88 #[s1,Iv x3] w0 (G:=Value) (λg1=>.tuple #[g1,Bv r.2]) (λg1 w=>St w0 w noX [] [sE92 g1 r.1]):=by
 unfold zfr at M; refine ret_of_WM (lv:=[s1,Iv x3]) Tryz.func88 C C C (λa H=>?_); have X:St w0 w0 noX [rE92 s1 x2] []:=Sbw (lnc (lendRd h_s1) lnn); replace X:=X.mk0; refine sg (l:=[0,1,2]) C<|O.box (cs:=#[Iv x3]) H X C C C C<|?_; intro b4 w a hb4 X H; refine mv2 H C C λa H=>nk<|sg (l:=[0,1,2,3,4,5]) C<|ov H C (Z.load1 zbf C (X.p 0 C) C) λa H=>ov (v:=Iv (i64.wrap (Int.tdiv x3 32))) H C (Z.quo (q:=32) C C (by decide)) λa H=>mv H C λa H=>ov (v:=Iv (x2.length:Int)) H C (Z.lenE (e:=92) (by simpa using zad) C (X.b 0 C)) λa H=>ov (v:=Iv (if (x2.length:Int)<(i64.wrap (Int.tdiv x3 32)) then (x2.length:Int) else (i64.wrap (Int.tdiv x3 32)))) H C (Z.min C C) λa H=>mv H C λa H=>?_; refine nk ?_; obtain ⟨x5,hx5,M⟩:=hm_b M; rw [oj hx5] at H; refine sg (l:=[0,1,2,3,4]) C<|mv2 H C C λa H=>?_; obtain ⟨hg6,M⟩:=hm_g M; refine ov (v:=vsub 1 s1 0 x5) H C (Z.sliceH zad zag C C (X.b 0 C) hg6) λa H=>?_; obtain ⟨x7,hx7,M⟩:=hm_b M; refine oc H C zjn (zb7 F (vsub 1 s1 0 x5) (lsub x2 0 x5) _ (rdEOK.sub (X.b 0 C) E92_len hg6) x7 hx7) ?_; rintro _ w Y a H; replace X:=X.cl Y; refine mv H C λa H=>nk<|sg (l:=[0,1,2,3,4,5,6]) C<|mv H C λa H=>ov (v:=Iv (x2.length:Int)) H C (Z.lenE (e:=92) (by simpa using zad) C (X.b 0 C)) λa H=>mv H C λa H=>ov H C (Z.sub C C) λa H=>?_; obtain ⟨hg8,M⟩:=hm_g M; refine O.makeE (enc:=E92) (x0:=(0:Int)) H X C C zad zag zbV za9 C C C hg8 C E92_len C ?_; intro s9 w a X H; refine O.alloc (cs:=#[.slice none 0 0]) H X C C ziz C ?_; intro b10 w a hb10 X H; refine O.store (m:=1) (j:=0) (cs':=#[s9]) (M':=[pt b10 (Cs #[s9] 54),sE92 s9 (List.replicate (Int.toNat (i64.wrap ((x2.length:Int)-x5))) (0:Int)),pI3 b4 x3,mkA []]) H X C C C ziw (by rw [rdc (X.s 1 C)]; rfl) (by rw [rdc (X.s 1 C)]; exact rdo (X.s 1 C)) C (bl C) (by rw [rdc (X.s 1 C)]; rfl) C ?_; intro w X; refine nk<|sg (l:=[0]) C<|O.alloc (cs:=#[Uv 0]) H X C C zjh C<|?_; intro b11 w a hb11 X H; refine nk<|W.seq<|sg (l:=[0,1,2,3]) C<|mv2 H C C λa H=>?_; obtain ⟨hg12,M⟩:=hm_g M; refine ov (v:=vsub 1 s1 x5 (x2.length:Int)) H C (Z.sliceL zad zag C C (X.b 0 C) hg12) λa H=>?_; obtain ⟨x13,hx13,M⟩:=hm_b M; refine oc H C zhS (zfG F (vsub 1 s1 x5 (x2.length:Int)) (lsub x2 x5 (x2.length:Int)) _ (rdEOK.sub (X.b 0 C) E92_len hg12) x13 hx13) ?_; rintro b14 w Y a H; replace X:=X.cl Y; refine nk<|W.block<|?_; replace X:=X.fr 1; replace X:=X.fr 2; replace X:=X.fr 3; replace X:=X.fr 4; replace X:=X.fr 5; refine W.rangeFn2 (G:=(List Int) × Int) (G2:=Unit) (gf:=141) (lb:=#[Pv b14 0]) (xs:=(downL (lsub x2 x5 (x2.length:Int))).map (λp:Int × Int=>(Iv p.1,Value.int .u32 p.2))) (λx y=>[(3,Pv b4 0),(4,.slice none 0 0),(5,Bv false),(7,Bv x7),(8,Pv b10 0),(9,Pv b11 0),(10,x),(11,y),(29,.func (.func 141) #[] #[Pv b14 0]),(30,x),(31,y)]) (λg=>match g with | (x18,x19)=>[mkA [],pI3 b4 x3,sE92 s9 x18,pt b10 (Cs #[s9] 54),pt b11 (Cs #[Uv x19] 91),pt b14 (Cs #[vsub 1 s1 x5 (x2.length:Int)] 54)]) (λk g=>match g with | (x18,x19)=>zbB F x3 x7 ((downL (lsub x2 x5 (x2.length:Int))).drop k) x18 x19=some r) (List.replicate (Int.toNat (i64.wrap ((x2.length:Int)-x5))) (0:Int),0) (RdAt 54 1 E92 b14 (vsub 1 s1 x5 (x2.length:Int)) (lsub x2 x5 (x2.length:Int))) (λg=>match g with | _=>[]) (λg=>match g with | _=>False) H C C C zhU X M (iter_141 _ _ _) ?_ ?_ ?_ ?_ ?_
 ·rintro ⟨x18,x19⟩ w X; replace X:St w0 w noX [rE92 s1 x2] [mkA [],pI3 b4 x3,sE92 s9 x18,pt b10 (Cs #[s9] 54),pt b11 (Cs #[Uv x19] 91),pt b14 (Cs #[vsub 1 s1 x5 (x2.length:Int)] 54)]:=X; exact ⟨X.ptAt (i:=5) C,(rdEOK.sub (X.b 0 C) E92_len hg12)⟩
 ·clear H X M a; (try clear w); intro l x y w a H; refine sg (l:=[0]) C<|mv H C λa H=>nk<|wrL (l:=[0]) C<|mv H C λa H=>O.nil<|?_; exact ⟨C,H.q C,C⟩
 ·clear H X M a; (try clear w); rintro dl15 do15 dD15 k15 x y ⟨x18,x19⟩ w hx M X a H; obtain ⟨⟨x16,x17⟩,hp,hxy⟩:=down_x hx; obtain ⟨rfl,rfl⟩:=Prod.mk.inj hxy; replace X:St w0 w noX [rE92 s1 x2] [pt dl15 do15,pt dD15 (.deferred (some [])),mkA [],pI3 b4 x3,sE92 s9 x18,pt b10 (Cs #[s9] 54),pt b11 (Cs #[Uv x19] 91),pt b14 (Cs #[vsub 1 s1 x5 (x2.length:Int)] 54)]:=X; replace M:zbB F x3 x7 ((downL (lsub x2 x5 (x2.length:Int))).drop k15) x18 x19=some r:=M; rw [drop_cons hp] at M; replace M:zfq F x3 (zbB F x3 x7 ((downL (lsub x2 x5 (x2.length:Int))).drop (k15+1))) x16 x17 x18 x19=some r:=M; obtain ⟨rec15,hrec15⟩:∃ f,f=zbB F x3 x7 ((downL (lsub x2 x5 (x2.length:Int))).drop (k15+1)):=⟨_,C⟩; rw [← hrec15] at M; unfold zfq at M; refine W.block<|sg (l:=[0,1,2,3,4,5]) C<|ov H C (Z.load1 zby C (X.p 6 C) C) λa H=>ov (v:=Uv (u64.wrap (x19*2^32))) H C (Z.shl (q:=32) C C (by decide)) λa H=>mv H C λa H=>ov (v:=Uv (u64.wrap x17)) H C (Z.conv zbh zaG C) λa H=>ov (v:=Uv (bitor .u64 (u64.wrap (x19*2^32)) (u64.wrap x17))) H C (Z.bitor C C) λa H=>ost 6 #[Uv (bitor .u64 (u64.wrap (x19*2^32)) (u64.wrap x17))] H X C C C zix C C C (bl C) C<|?_; intro w X; refine nk ?_; obtain ⟨x21,hx21,M⟩:=hm_b M; rw [oj hx21] at X; refine W.seq ?_; have J:Fr a 57 [] []:=H.to trivial; obtain ⟨hg22,M⟩:=hm_g M; obtain ⟨x23,hx23,M⟩:=hm_b M; refine W.drawK (γ:=Unit) (L0:=[(3,Pv b4 0),(4,.slice none 0 0),(5,Bv false),(8,Pv b10 0),(9,Pv b11 0),(10,Iv x16)]) (L1:=[]) () [8] [] [0,1,2,3,4,5,6,7] (λi=>match i with | 4=>[3] | 5=>[2,4] | 6=>[5] | 7=>[0,1,2,3,4,5,6] | 8=>[0,1,2,3,4,5,6,7] | _=>[]) (λ_=>[]) (λ_=>[]) (λ_=>[]) (λ_=>0) (λi=>match i with | 8=>1 | _=>0) (λ(g:Unit) j=>match j with | 0=>s9 | 1=>Iv x16 | 2=>Uv x21 | 3=>Iv x3 | 4=>Iv (Int.tmod x3 32) | 5=>Uv (Int.fdiv x21 (2^(min (Int.toNat (Int.tmod x3 32)) (IntKind.bits .u64)))) | 6=>.int .u32 (u32.wrap (Int.fdiv x21 (2^(min (Int.toNat (Int.tmod x3 32)) (IntKind.bits .u64))))) | 7=>ix s9 (Int.toNat x16*1) | _=>undef) (λk s (g:Unit) w=>match k with | 0=>St w0 w noX [rE92 s1 x2] [pt dl15 do15,pt dD15 (.deferred (some [])),mkA [],pI3 b4 x3,sE92 s9 x18,pt b10 (Cs #[s9] 54),pt b11 (Cs #[Uv x21] 91),pt b14 (Cs #[vsub 1 s1 x5 (x2.length:Int)] 54)] | _=>St w0 w noX [rE92 s1 x2] [pt dl15 do15,pt dD15 (.deferred (some [])),mkA [],pI3 b4 x3,sE92 s9 (x18.set (Int.toNat x16) (u32.wrap (Int.fdiv x21 (2^(min (Int.toNat (Int.tmod x3 32)) (IntKind.bits .u64)))))),pt b10 (Cs #[s9] 54),pt b11 (Cs #[Uv x21] 91),pt b14 (Cs #[vsub 1 s1 x5 (x2.length:Int)] 54)]) P_mixed (by kernel_rfl) (H.q C) J X.drew ?_ ?_ ?_ ?_
  ·clear H J X; refine ⟨?_,λk s g w _ _ _ X a H=>Q.val (v:=Iv x16) C C C X H (Z.move C),?_,?_,λk s g w _ _ _ X a H=>Q.val (v:=Iv (Int.tmod x3 32)) C C C X H (Z.rem (q:=32) C C (by decide)),λk s g w _ _ _ X a H=>Q.val (v:=Uv (Int.fdiv x21 (2^(min (Int.toNat (Int.tmod x3 32)) (IntKind.bits .u64))))) C C C X H (Z.shr C C hg22),λk s g w _ _ _ X a H=>Q.val (v:=.int .u32 (u32.wrap (Int.fdiv x21 (2^(min (Int.toNat (Int.tmod x3 32)) (IntKind.bits .u64)))))) C C C X H (Z.conv za1 zbS C),?_,trivial⟩
   ·intro k s g w h1_ h2_ hsp X a H
    rcases k with _ | k
    ·exact Q.val (v:=s9) C C C X H (Z.load1 zar C (X.p 5 C) C)
    ·simp at h2_
   ·intro k s g w h1_ h2_ hsp X a H
    rcases k with _ | k
    ·exact Q.val (v:=Uv x21) C C C X H (Z.load1 zby C (X.p 6 C) C)
    ·simp at h2_
   ·intro k s g w h1_ h2_ hsp X a H
    rcases k with _ | k
    ·exact Q.val (v:=Iv x3) C C C X H (Z.load1 zbf C (X.p 3 C) C)
    ·simp at h2_
   ·intro k s g w h1_ h2_ hsp X a H
    rcases k with _ | k
    ·exact Q.val (v:=ix s9 (Int.toNat x16*1)) C C C X H (Z.ixE zad zag C C (X.s 4 C) hx23)
    ·simp at h2_
  ·clear H J X; refine ⟨?_,trivial⟩
   ·intro s g w hsp X a H; refine O.storeE (j:=4) (o:=0) (y0:=(u32.wrap (Int.fdiv x21 (2^(min (Int.toNat (Int.tmod x3 32)) (IntKind.bits .u64)))))) (l':=x18.set (Int.toNat x16) (u32.wrap (Int.fdiv x21 (2^(min (Int.toNat (Int.tmod x3 32)) (IntKind.bits .u64)))))) (M':=[pt dl15 do15,pt dD15 (.deferred (some [])),mkA [],pI3 b4 x3,sE92 s9 (x18.set (Int.toNat x16) (u32.wrap (Int.fdiv x21 (2^(min (Int.toNat (Int.tmod x3 32)) (IntKind.bits .u64)))))),pt b10 (Cs #[s9] 54),pt b11 (Cs #[Uv x21] 91),pt b14 (Cs #[vsub 1 s1 x5 (x2.length:Int)] 54)]) H X C C C zag C C C E92_len hx23 C C C C ?_; intro w X; exact nG H ⟨(λd hd=>by cases (show none=some d from hd)),(λ_ _ _=>C),X⟩
  ·clear H J X; exact trivial
  clear H J X; intro s g a w hs H X; refine ksq ?_; have J:Fr a 57 [] []:=H.to trivial; obtain ⟨hg24,M⟩:=hm_g M; refine W.drawK (γ:=Unit) (L0:=[(3,Pv b4 0),(4,.slice none 0 0),(5,Bv false),(9,Pv b11 0)]) (L1:=[]) () [6] [] [0,1,2,3,4,5] (λi=>match i with | 2=>[1] | 3=>[2] | 4=>[3] | 5=>[0,4] | 6=>[0,1,2,3,4,5] | _=>[]) (λ_=>[]) (λ_=>[]) (λ_=>[]) (λ_=>0) (λi=>match i with | 6=>1 | _=>0) (λ(g:Unit) j=>match j with | 0=>Uv x21 | 1=>Iv x3 | 2=>Iv (Int.tmod x3 32) | 3=>Uv (u64.wrap (1*2^(min (Int.toNat (Int.tmod x3 32)) (IntKind.bits .u64)))) | 4=>Uv (u64.wrap ((u64.wrap (1*2^(min (Int.toNat (Int.tmod x3 32)) (IntKind.bits .u64))))-1)) | 5=>Uv (bitand .u64 x21 (u64.wrap ((u64.wrap (1*2^(min (Int.toNat (Int.tmod x3 32)) (IntKind.bits .u64))))-1))) | _=>undef) (λk s (g:Unit) w=>match k with | 0=>St w0 w noX [rE92 s1 x2] [pt dl15 do15,pt dD15 (.deferred (some [])),mkA [],pI3 b4 x3,sE92 s9 (x18.set (Int.toNat x16) (u32.wrap (Int.fdiv x21 (2^(min (Int.toNat (Int.tmod x3 32)) (IntKind.bits .u64)))))),pt b10 (Cs #[s9] 54),pt b11 (Cs #[Uv x21] 91),pt b14 (Cs #[vsub 1 s1 x5 (x2.length:Int)] 54)] | _=>St w0 w noX [rE92 s1 x2] [pt dl15 do15,pt dD15 (.deferred (some [])),mkA [],pI3 b4 x3,sE92 s9 (x18.set (Int.toNat x16) (u32.wrap (Int.fdiv x21 (2^(min (Int.toNat (Int.tmod x3 32)) (IntKind.bits .u64)))))),pt b10 (Cs #[s9] 54),pt b11 (Cs #[Uv (bitand .u64 x21 (u64.wrap ((u64.wrap (1*2^(min (Int.toNat (Int.tmod x3 32)) (IntKind.bits .u64))))-1)))] 91),pt b14 (Cs #[vsub 1 s1 x5 (x2.length:Int)] 54)]) P_mixed (by kernel_rfl) (H.q C) J X.drew ?_ ?_ ?_ ?_
  ·clear H J X; refine ⟨?_,?_,λk s g w _ _ _ X a H=>Q.val (v:=Iv (Int.tmod x3 32)) C C C X H (Z.rem (q:=32) C C (by decide)),λk s g w _ _ _ X a H=>Q.val (v:=Uv (u64.wrap (1*2^(min (Int.toNat (Int.tmod x3 32)) (IntKind.bits .u64))))) C C C X H (Z.shl C C hg24),λk s g w _ _ _ X a H=>Q.val (v:=Uv (u64.wrap ((u64.wrap (1*2^(min (Int.toNat (Int.tmod x3 32)) (IntKind.bits .u64))))-1))) C C C X H (Z.sub C C),λk s g w _ _ _ X a H=>Q.val (v:=Uv (bitand .u64 x21 (u64.wrap ((u64.wrap (1*2^(min (Int.toNat (Int.tmod x3 32)) (IntKind.bits .u64))))-1)))) C C C X H (Z.bitand C C),trivial⟩
   ·intro k s g w h1_ h2_ hsp X a H
    rcases k with _ | k
    ·exact Q.val (v:=Uv x21) C C C X H (Z.load1 zby C (X.p 6 C) C)
    ·simp at h2_
   ·intro k s g w h1_ h2_ hsp X a H
    rcases k with _ | k
    ·exact Q.val (v:=Iv x3) C C C X H (Z.load1 zbf C (X.p 3 C) C)
    ·simp at h2_
  ·clear H J X; refine ⟨?_,trivial⟩
   ·intro s g w hsp X a H; refine ost 6 #[Uv (bitand .u64 x21 (u64.wrap ((u64.wrap (1*2^(min (Int.toNat (Int.tmod x3 32)) (IntKind.bits .u64))))-1)))] H X C C C zix C C C (bl C) C ?_; intro w X; exact nG H ⟨(λd hd=>by cases (show none=some d from hd)),(λ_ _ _=>C),X⟩
  ·clear H J X; exact trivial
  clear H J X; intro s g a w hs H X; refine kbn ?_; exact .inl ⟨C,(x18.set (Int.toNat x16) (u32.wrap (Int.fdiv x21 (2^(min (Int.toNat (Int.tmod x3 32)) (IntKind.bits .u64))))),bitand .u64 x21 (u64.wrap ((u64.wrap (1*2^(min (Int.toNat (Int.tmod x3 32)) (IntKind.bits .u64))))-1))),by rw [hrec15] at M; exact M,X⟩
 ·clear H X M a; (try clear w); rintro dD15 ⟨x18,x19⟩ a w M X H; replace M:zbB F x3 x7 ((downL (lsub x2 x5 (x2.length:Int))).drop ((downL (lsub x2 x5 (x2.length:Int))).map (λp:Int × Int=>(Iv p.1,Value.int .u32 p.2))).length) x18 x19=some r:=M; rw [List.length_map,List.drop_length] at M; replace M:zfp F x7 x18 x19=some r:=M; unfold zfp at M; replace H:Fr a 57 (mkDs (dD15::[])) [(3,Pv b4 0),(4,.slice none 0 0),(5,Bv false),(7,Bv x7),(8,Pv b10 0),(9,Pv b11 0),(29,.func (.func 141) #[] #[Pv b14 0])]:=H.q C; replace X:St w0 w noX [rE92 s1 x2] (pt dD15 (.deferred (some []))::[mkA [],pI3 b4 x3,sE92 s9 x18,pt b10 (Cs #[s9] 54),pt b11 (Cs #[Uv x19] 91),pt b14 (Cs #[vsub 1 s1 x5 (x2.length:Int)] 54)]):=X; replace X:=X.mkCons; refine kbn<|ksq<|W.seq<|W.drawQ (λw=>St w0 w noX [rE92 s1 x2] [mkA (dD15::[]),pI3 b4 x3,sE92 s9 x18,pt b10 (Cs #[s9] 54),pt b11 (Cs #[Uv x19] 91),pt b14 (Cs #[vsub 1 s1 x5 (x2.length:Int)] 54)]) P_mixed C (by kernel_rfl) C X.drew<|?_; clear X; (try clear w); refine OQ.val (v:=s9) H C (λw X=>Z.load1 zar C (X.p 3 C) C) λa H=>OQ.val (v:=Bv x7) H C (λw X=>Z.move C) λa H=>OQ.val (v:=Bv x7) H C (λw X=>Z.move C) λa H=>?_; refine OQ.cutK (K':=λa=>Fr a 57 (mkDs (dD15::[])) [(4,.slice none 0 0),(5,Bv false),(7,Bv x7),(8,Pv b10 0),(9,Pv b11 0),(51,s9),(52,Bv x7),(53,Bv x7),(56,Bv (x7||(decide (x19>(0:Int)))))]) 3 ?_ ?_
  · rcases Bool.eq_false_or_eq_true (x7) with hb20 | hb20
    · refine OQ.skipB H C C hb20 C ?_; clear H a; intro a H
      refine OQ.skipB H C C hb20 C λa H=>?_; refine OQ.val (v:=Bv (x7||(decide (x19>(0:Int))))) H C (λw X=>Z.pick C C C (by rw [hb20]; rfl)) ?_; clear H a; intro a H; exact OQ.nil (H.q C)
    · refine OQ.gval (v:=Uv x19) H C C hb20 C (λw X=>Z.load1 zby C (X.p 4 C) C) ?_; clear H a; intro a H
      refine OQ.gval (v:=Bv (decide (x19>(0:Int)))) H C C hb20 C (λw X=>Z.gtr C C) λa H=>?_; refine OQ.val (v:=Bv (x7||(decide (x19>(0:Int))))) H C (λw X=>Z.pick C C C (by rw [hb20]; rfl)) ?_; clear H a; intro a H; exact OQ.nil (H.q C)
  clear H a; intro a H; refine OQ.val (v:=s9) H C (λw X=>Z.assign C) λa H=>OQ.val (v:=Bv (x7||(decide (x19>(0:Int))))) H C (λw X=>Z.assign C) λa H=>?_; refine OQ.nil ?_; intro w X; refine ksq<|W.ret<|?_; refine postM (Ds:=(dD15::[])) X H (λw a H X=>?_); obtain rfl:=oj M; refine post2 H C (rkt C) (rkt C) ?_; replace X:=X.sl [0,1]; exact ⟨s9,C,X.noB⟩
 ·rintro dD15 _ a w M _ _; exact M.elim
def ze0 (F:Nat) (x18:Int) (x26 x27:List Int):Option ((List Int) × (List Int)) :=
  (zbM F x27).bind λx28=>(zfr F x28 x18).bind λx30=>(zbM F x26).bind λx32=>(zbM F x30.1).bind λx34=>some (x32,x34)
def ze1 (F:Nat) (x4 x19:List Int) (x18:Int) (rec40:(List Int)→(List Int)→Int→Option ((List Int) × (List Int))) (x37 x38:List Int) (x39:Int):Option ((List Int) × (List Int)) :=
  if x39≥(0:Int) then (if sbd x39 (i64.wrap ((i64.wrap (x39+(x4.length:Int)))+1)) (x38.length:Int) then (zf2 F x38 x39 (i64.wrap ((i64.wrap (x39+(x4.length:Int)))+1)) (lsub x19 0 (x4.length:Int))).bind λx43=>(idx x37 x39).bind λx44=>rec40 (x37.set (Int.toNat x39) x43.1) x43.2 (i64.wrap (x39-1)) else none) else (ze0 F x18 x37 x38)
def zcz (F:Nat) (x4 x19:List Int) (x18:Int):Nat→(List Int)→(List Int)→Int→Option ((List Int) × (List Int))
  | 0,_,_,_=>none
  | n+1,x37,x38,x39=>ze1 F x4 x19 x18 (zcz F x4 x19 x18 n) x37 x38 x39
def zcN (F:Nat) (x2 x4:List Int):Option ((List Int) × (List Int)) :=
  (zcs F x2 x4).bind λx5=>if x5<(0:Int) then ((zay F x2).bind λx7=>some (([]:List Int),x7)) else (if (x4.length:Int)=(1:Int) then ((idx x4 0).bind λx10=>(zgw F x2 x10).bind λx11=>(zbM F ([x11.2])).bind λx15=>some (x11.1,x15)) else ((idx x4 (i64.wrap ((x4.length:Int)-1))).bind λx17=>(zb6 F x17).bind λx18=>(zeQ F x4 x18).bind λx19=>if sbd 0 (x4.length:Int) (x19.length:Int) then (zeQ F x2 x18).bind λx22=>if 0≤(i64.wrap ((x22.length:Int)-(x4.length:Int)))∧(i64.wrap ((x22.length:Int)-(x4.length:Int)))≤4294967296 then (some (i64.wrap (((List.replicate (Int.toNat (i64.wrap ((x22.length:Int)-(x4.length:Int)))) (0:Int)).length:Int)-1))).bind λx36=>zcz F x4 x19 x18 F (List.replicate (Int.toNat (i64.wrap ((x22.length:Int)-(x4.length:Int)))) (0:Int)) x22 x36 else none else none))
theorem zdv (F:Nat) (s1:Value) (x2:List Int) (s3:Value) (x4:List Int) (w0:World) (h_s1:rdEOK (hp w0) 1 E92 s1 x2) (h_s3:rdEOK (hp w0) 1 E92 s3 x4) (r:(List Int) × (List Int)) (M:zcN F x2 x4=some r) :
    Ret Tryz.prog 47 #[s1,s3] w0 (G:=Value × Value) (λ(g1,g2)=>.tuple #[g1,g2]) (λ(g1,g2) w=>St w0 w noX [] [sE92 g1 r.1,sE92 g2 r.2]):=by
 unfold zcN at M; refine roW Tryz.func47 C C C (λa H=>?_); have X:St w0 w0 noX [rE92 s1 x2,rE92 s3 x4] []:=Sbw (lnc (lendRd h_s1) (lnc (lendRd h_s3) lnn)); refine sg (l:=[0,1]) C<|mv2 H C C λa H=>nk<|W.seq<|sg (l:=[0,1,2,3]) C<|mv2 H C C λa H=>?_; obtain ⟨x5,hx5,M⟩:=hm_b M; refine oc H C zhH (zc7 F s1 x2 s3 x4 _ (X.b 0 C) (X.b 1 C) x5 hx5) ?_; rintro _ w Y a H; replace X:=X.cl Y; refine ov H C (Z.lss C C) λa H=>nk<|?_; refine W.ifdI H C (λhc6=>?_) (λhc6=>?_)
 ·replace M:=hm_p M hc6; refine sg (l:=[0,1,2,3]) C<|mv H C λa H=>?_; obtain ⟨x7,hx7,M⟩:=hm_b M; refine oc H C zfD (zaE F s1 x2 _ (X.b 0 C) x7 hx7) ?_; rintro s8 w Y a H; replace X:=X.cl Y; refine mv2 H C C λa H=>nk<|W.ret<|ktr<|?_; replace X:=X.nilE 92 1 E92; obtain rfl:=oj M; refine post2 H C (rkt C) (rkt C) ?_; replace X:=X.nilE 92 1 E92; replace X:=X.sl [1,0,1]; exact ⟨((.slice none 0 0),s8),C,X.noB⟩
 ·replace M:=hm_n M hc6; refine W.skip<|ksq<|sg (l:=[0,1,2]) C<|mv H C λa H=>ov (v:=Iv (x4.length:Int)) H C (Z.lenE (e:=92) (by simpa using zad) C (X.b 1 C)) λa H=>mv H C λa H=>nk<|W.seq<|sg (l:=[0,1]) C<|mv H C λa H=>?_; refine ov H C (Z.eql C C) λa H=>nk<|?_; refine W.ifdI H C (λhc9=>?_) (λhc9=>?_)
  ·replace M:=hm_p M hc9; refine sg (l:=[0,1,2,3,4,5,6,7,8,9]) C<|mv2 H C C λa H=>?_; obtain ⟨x10,hx10,M⟩:=hm_b M; refine ov H C (Z.ixE zad zag C C (X.b 1 C) hx10) λa H=>ov H C (Z.ldE1 (o:=0) zaD E92_len C (X.b 1 C) hx10 C C) λa H=>?_; obtain ⟨x11,hx11,M⟩:=hm_b M; refine oc H C zj2 (zh9 F s1 x2 x10 _ (X.b 0 C) x11 hx11) ?_; rintro s12 w Y a H; replace X:=X.cl Y; refine mv H C λa H=>ex H C C C λa H=>ex H C C C λa H=>mv2 H C C λa H=>nk<|sg (l:=[0,1,2,3,4,5]) C<|mv2 H C C λa H=>O.buildSlice (cs':=#[.int .u32 x11.2]) (zs:=#[.int .u32 0]) H X C C zad zag za9 C C C C C<|?_; intro b13 w a hb13 X H; replace X:=X.ptE (j:=0) (enc:=E92) (xs:=[x11.2]) (N:=1) (M':=[sE92 (.slice (some ⟨b13,0,none⟩) 1 1) ([x11.2]),sE92 s12 x11.1]) C C C C C C; obtain ⟨s14,hs14⟩:∃ v,v=(.slice (some ⟨b13,0,none⟩) 1 1:Value):=⟨_,C⟩; rw [← hs14] at H X; replace X:St w0 _ noX [rE92 s1 x2,rE92 s3 x4] [sE92 s14 ([x11.2]),sE92 s12 x11.1]:=X; obtain ⟨x15,hx15,M⟩:=hm_b M; refine oc H C zgp (zbT F s14 ([x11.2]) _ (X.slS (j:=0) C) x15 hx15) ?_; rintro s16 w Y a H; replace X:=X.cz Y 0 λ_ h=>h; refine mv2 H C C λa H=>nk<|W.ret<|ktr<|?_; obtain rfl:=oj M; refine post2 H C (rkt C) (rkt C) ?_; replace X:=X.fr 1; exact ⟨(s12,s16),C,X.noB⟩
  ·replace M:=hm_n M hc9; refine W.skip<|ksq<|sg (l:=[0,1,2,3,4,5,6]) C<|mv2 H C C λa H=>ov H C (Z.sub C C) λa H=>?_; obtain ⟨x17,hx17,M⟩:=hm_b M; refine ov H C (Z.ixE zad zag C C (X.b 1 C) hx17) λa H=>ov H C (Z.ldE1 (o:=0) zaD E92_len C (X.b 1 C) hx17 C C) λa H=>?_; obtain ⟨x18,hx18,M⟩:=hm_b M; refine oc H C zj3 (zfy F x17 _ x18 hx18) ?_; rintro _ w Y a H; replace X:=X.cl Y; refine mv H C λa H=>nk<|W.seq<|?_; have J:Fr a 84 [] []:=H.to trivial; obtain ⟨x19,hx19,M⟩:=hm_b M; obtain ⟨hg21,M⟩:=hm_g M; obtain ⟨x22,hx22,M⟩:=hm_b M; refine W.drawK (γ:=Value × Value) (L0:=[(0,s1),(1,s3),(4,.slice none 0 0),(5,.slice none 0 0),(6,Iv (x4.length:Int)),(9,Iv x18)]) (L1:=[]) (undef,undef) [2,7] [] [0,1,3,4,5,6,8,9] (λi=>match i with | 2=>[0,1] | 4=>[2,3] | 7=>[2,5,6] | 8=>[0,1,2,3,4,7] | 9=>[0,1,2,3,4,5,6,7,8] | _=>[]) (λ_=>[]) (λi=>match i with | 2=>[4,7,8,9] | 7=>[8,9] | _=>[]) (λ_=>[]) (λi=>match i with | 4=>1 | 7=>1 | 8=>2 | 9=>2 | _=>0) (λi=>match i with | 2=>1 | 3=>2 | 4=>2 | 5=>1 | 6=>1 | 7=>2 | 8=>2 | 9=>2 | _=>0) (λ(g:Value × Value) j=>match j with | 0=>s3 | 1=>Iv x18 | 2=>g.1 | 3=>Iv (x4.length:Int) | 4=>vsub 1 g.1 0 (x4.length:Int) | 5=>s1 | 6=>Iv x18 | 7=>g.2 | 8=>vsub 1 g.1 0 (x4.length:Int) | 9=>g.2 | _=>undef) (λk s (g:Value × Value) w=>match k with | 0=>St w0 w noX [rE92 s1 x2,rE92 s3 x4] [] | 1=>St w0 w noX [rE92 s1 x2,rE92 s3 x4] [sE92 g.1 x19] | _=>St w0 w noX [rE92 s1 x2,rE92 s3 x4] [sE92 g.2 x22,sE92 g.1 x19]) P_mixed (by kernel_rfl) (H.q C) J X.drew ?_ ?_ ?_ ?_
   ·clear H J X; refine ⟨λk s g w _ _ _ X a H=>Q.val (v:=s3) C C C X H (Z.move C),λk s g w _ _ _ X a H=>Q.val (v:=Iv x18) C C C X H (Z.move C),λk s g w _ _ _ X a H=>Q.val (v:=Iv (x4.length:Int)) C C C X H (Z.move C),?_,λk s g w _ _ _ X a H=>Q.val (v:=s1) C C C X H (Z.move C),λk s g w _ _ _ X a H=>Q.val (v:=Iv x18) C C C X H (Z.move C),λk s g w _ _ _ X a H=>Q.val (v:=vsub 1 g.1 0 (x4.length:Int)) C C C X H (Z.assign C),λk s g w _ _ _ X a H=>Q.val (v:=g.2) C C C X H (Z.assign C),trivial⟩
    ·intro k s g w h1_ h2_ hsp X a H; obtain ⟨s20,s23⟩:=g
     rcases k with _ | _ | _ | k
     ·exact absurd h1_ (by decide)
     ·exact Q.val (v:=vsub 1 s20 0 (x4.length:Int)) C C C X H (Z.sliceH zad zag C C (X.s 0 C) hg21)
     ·exact Q.val (v:=vsub 1 s20 0 (x4.length:Int)) C C C X H (Z.sliceH zad zag C C (X.s 1 C) hg21)
     ·simp at h2_
   ·clear H J X; refine ⟨?_,?_,trivial⟩
    ·intro s g w hsp X a H; obtain ⟨s20,s23⟩:=g; refine oc H C zim (zfL F s3 x4 x18 _ (X.b 1 C) x19 hx19) ?_; rintro s20 w Y a H; replace X:=X.cl Y; exact nE 43 H (s20,s23) C C (jl 10 (by kernel_rfl) λ_=>C) X
    ·intro s g w hsp X a H; obtain ⟨s20,s23⟩:=g; refine oc H C zim (zfL F s1 x2 x18 _ (X.b 0 C) x22 hx22) ?_; rintro s23 w Y a H; replace X:=X.cl Y; exact nE 48 H (s20,s23) C C (jl 10 (by kernel_rfl) λ_=>C) X
   ·clear H J X; exact trivial
   clear H J X; intro s g a w hs H X; obtain ⟨s20,s23⟩:=g; refine ksq<|sg (l:=[0,1,2,3,4,5]) C<|mv H C λa H=>ov (v:=Iv (x22.length:Int)) H C (Z.lenE (e:=92) (by simpa using zad) C (X.s 0 C)) λa H=>mv H C λa H=>ov H C (Z.sub C C) λa H=>?_; obtain ⟨hg24,M⟩:=hm_g M; refine O.makeE (enc:=E92) (x0:=(0:Int)) H X C C zad zag zbV za9 C C C hg24 C E92_len C ?_; intro s25 w a X H; refine mv H C λa H=>nk<|?_; refine W.seqR (λa w=>∃ (x26:List Int) (x27:List Int),Fr a 84 [] [(4,s25),(5,.slice none 0 0),(9,Iv x18),(11,s23)]∧St w0 w noX [rE92 s1 x2,rE92 s3 x4] [sE92 s25 x26,sE92 s23 x27]∧ze0 F x18 x26 x27=some r) ?_ ?_
   ·refine sg (l:=[0,1,2,3]) C<|mv H C λa H=>ov (v:=Iv ((List.replicate (Int.toNat (i64.wrap ((x22.length:Int)-(x4.length:Int)))) (0:Int)).length:Int)) H C (Z.lenE (e:=92) (by simpa using zad) C (X.s 0 C)) λa H=>ov H C (Z.sub C C) λa H=>mv H C λa H=>nk<|?_; obtain ⟨x36,hx36,M⟩:=hm_b M; rw [oj hx36] at H; refine W.block ?_; replace X:=X.fr 1; replace X:=X.fr 2; replace X:=X.fr 2; refine W.loop (G:=Nat × (List Int) × (List Int) × Int) (λg a w=>match g with | (k40,x37,x38,x39)=>Fr a 84 [] [(4,s25),(5,.slice none 0 0),(6,Iv (x4.length:Int)),(9,Iv x18),(10,vsub 1 s20 0 (x4.length:Int)),(11,s23),(12,Iv x39)]∧St w0 w noX [rE92 s1 x2,rE92 s3 x4] [sE92 s25 x37,sE92 s20 x19,sE92 s23 x38]∧zcz F x4 x19 x18 k40 x37 x38 x39=some r) (λg=>match g with | (k40,x37,x38,x39)=>k40) (F,List.replicate (Int.toNat (i64.wrap ((x22.length:Int)-(x4.length:Int)))) (0:Int),x22,x36) ⟨H.q C,X,M⟩ ?_; clear H X M a; (try clear w); rintro ⟨k40,x37,x38,x39⟩ a w ⟨H,X,M⟩
    rcases k40 with _ | k40
    · nomatch M
    replace M:ze1 F x4 x19 x18 (zcz F x4 x19 x18 k40) x37 x38 x39=some r:=M; obtain ⟨rec40,hrec40⟩:∃ f,f=zcz F x4 x19 x18 k40:=⟨_,C⟩; rw [← hrec40] at M; unfold ze1 at M; refine W.seq<|sg (l:=[0,1]) C<|mv H C λa H=>ov H C (Z.geq C C) λa H=>nk<|?_; refine W.ifdI H C (λhc41=>?_) (λhc41=>?_)
    ·replace M:=hm_p M hc41; refine W.skip<|ksq<|W.seq<|W.block<|wrL (l:=[0,1,2,3,4,5,6,7,8,9,10,11,12]) C<|mv2 H C C λa H=>mv2 H C C λa H=>mv H C λa H=>?_; refine mv H C λa H=>ov H C (Z.add C C) λa H=>ov H C (Z.add C C) λa H=>?_; obtain ⟨hg42,M⟩:=hm_g M; refine ov (v:=vsub 1 s23 x39 (i64.wrap ((i64.wrap (x39+(x4.length:Int)))+1))) H C (Z.sliceLH zad zag C C C (X.s 2 C) hg42) λa H=>mv H C λa H=>?_; obtain ⟨x43,hx43,M⟩:=hm_b M; refine oc H C zj4 (zh0 F s23 x38 x39 (i64.wrap ((i64.wrap (x39+(x4.length:Int)))+1)) (vsub 1 s20 0 (x4.length:Int)) (lsub x19 0 (x4.length:Int)) _ (X.slS (j:=2) C) (rdEOK.sub (X.s 1 C) E92_len hg21) (apWin (X.s 1 C) hg21 (apRd (X.apMM (i:=2) (j:=1) C C (by decide)))) x43 hx43) ?_; rintro _ w Y a H; replace X:=X.cz Y 2 λ_ h=>h; obtain ⟨x44,hx44,M⟩:=hm_b M; refine ov H C (Z.ixE zad zag C C (X.s 1 C) hx44) λa H=>O.storeE (j:=1) (o:=0) (y0:=x43.1) (l':=x37.set (Int.toNat x39) x43.1) (M':=[sE92 s23 x43.2,sE92 s25 (x37.set (Int.toNat x39) x43.1),sE92 s20 x19]) H X C C C zag C C C E92_len hx44 C C C C<|?_; intro w X; refine O.nil<|kbn<|ksq<|wrL (l:=[0,1,2]) C<|mv H C λa H=>ov H C (Z.sub C C) λa H=>mv H C λa H=>O.nil<|?_; replace X:=X.fr 2; replace X:=X.fr 2; refine kth ⟨(k40,x37.set (Int.toNat x39) x43.1,x43.2,i64.wrap (x39-1)),⟨H.q C,X,?_⟩,Nat.lt_succ_self _⟩; rw [hrec40] at M; exact M
    ·replace M:=hm_n M hc41; refine W.exit<|kte<|kte<|kbk<|?_; replace X:=X.sl [1,0,1]; exact kth ⟨x37,x38,H.q C,X,M⟩
   ·clear H X M a; (try clear w); rintro a w ⟨x26,x27,H,X,M⟩; unfold ze0 at M; refine sg (l:=[0,1,2,3,4,5,6,7]) C<|mv H C λa H=>?_; obtain ⟨x28,hx28,M⟩:=hm_b M; refine oc H C zgp (zbT F s23 x27 _ (X.slS (j:=1) C) x28 hx28) ?_; rintro s29 w Y a H; replace X:=X.cz Y 1 λ_ h=>h; refine mv H C λa H=>?_; obtain ⟨x30,hx30,M⟩:=hm_b M; refine oc H C zi6 (zgM F s29 x28 x18 _ (X.s 0 C) x30 hx30) ?_; rintro s31 w Y a H; replace X:=X.cl Y; refine mv H C λa H=>ex H C C C λa H=>ex H C C C λa H=>mv H C λa H=>nk<|?_; replace X:=X.sl [1,0,1]; refine sg (l:=[0,1,2,3,4,5]) C<|mv H C λa H=>?_; obtain ⟨x32,hx32,M⟩:=hm_b M; refine oc H C zgp (zbT F s25 x26 _ (X.slS (j:=1) C) x32 hx32) ?_; rintro s33 w Y a H; replace X:=X.cz Y 1 λ_ h=>h; refine mv H C λa H=>?_; obtain ⟨x34,hx34,M⟩:=hm_b M; refine oc H C zgp (zbT F s31 x30.1 _ (X.slS (j:=1) C) x34 hx34) ?_; rintro s35 w Y a H; replace X:=X.cz Y 1 λ_ h=>h; refine mv2 H C C λa H=>nk<|W.ret<|?_; obtain rfl:=oj M; refine post2 H C (rkt C) (rkt C) ?_; replace X:=X.fr 1; exact ⟨(s33,s35),C,X.noB⟩
def zbO (F:Nat) (x1:Bool) (x3:List Int) (x4:Bool) (x6:List Int):Option (Bool × (List Int) × Bool × (List Int)) :=
  (zbj F x1 x3 x4 x6).bind λx12=>if (x6.length:Int)=(0:Int) then (none) else ((zcN F x3 x6).bind λx14=>if ((decide ((x14.2.length:Int)>(0:Int)))&&(!(x1 == x4)))=true then (none) else ((zaU F (!(x1 == x4)) x14.1).bind λx19=>(zaU F x4 x14.2).bind λx21=>some (x19.1,x19.2,x21.1,x21.2)))
theorem zbU (F:Nat) (x1:Bool) (s2:Value) (x3:List Int) (x4:Bool) (s5:Value) (x6:List Int) (w0:World) (h_s2:rdEOK (hp w0) 1 E92 s2 x3) (h_s5:rdEOK (hp w0) 1 E92 s5 x6) (r:Bool × (List Int) × Bool × (List Int)) (M:zbO F x1 x3 x4 x6=some r) :
    Ret Tryz.prog 19 #[.agg #[Bv x1,s2],.agg #[Bv x4,s5]] w0 (G:=Value × Value) (λ(g1,g2)=>.tuple #[.agg #[Bv r.1,g1],.agg #[Bv r.2.2.1,g2],Iv 0]) (λ(g1,g2) w=>St w0 w noX [] [sE92 g1 r.2.1,sE92 g2 r.2.2.2]):=by
 unfold zbO at M; refine roW Tryz.func19 C C C (λa H=>?_); have X:St w0 w0 noX [rE92 s2 x3,rE92 s5 x6] []:=Sbw (lnc (lendRd h_s2) (lnc (lendRd h_s5) lnn)); refine sg (l:=[0,1,2,3,4]) C<|O.box (cs:=#[Bv x1,s2]) H X C C C C<|?_; intro b7 w a hb7 X H; refine O.box (cs:=#[Bv x4,s5]) H X C C C C ?_; intro b8 w a hb8 X H; refine O.alloc (cs:=#[Bv false,.slice none 0 0]) H X C C zab C ?_; intro b9 w a hb9 X H; refine O.alloc (cs:=#[Bv false,.slice none 0 0]) H X C C zab C ?_; intro b10 w a hb10 X H; refine mv H C λa H=>nk<|W.seq<|sg (l:=[0,1,2,3,4]) C<|ov H C (lN (cs':=#[Bv x1,s2]) A_56 C (X.p 3 C) C C) λa H=>ov H C (lN (cs':=#[Bv x4,s5]) A_56 C (X.p 2 C) C C) λa H=>O.buildSlice (cs':=#[Bv x1,s2,Bv x4,s5]) (zs:=#[Bv false,.slice none 0 0,Bv false,.slice none 0 0]) H X C C za7 zaa zab C C C C C<|?_; intro b11 w a hb11 X H; obtain ⟨x12,hx12,M⟩:=hm_b M; refine oc H C zdV (zbt F b11 x1 s2 x3 x4 s5 x6 _ (X.b 0 C) (X.b 1 C) (X.p 0 C) x12 hx12) ?_; rintro _ w Y a H; replace X:=X.cl Y; refine mv H C λa H=>nk<|?_; replace X:=X.sl [0,1,1,1,1]; refine sg (l:=[0,1]) C<|mv H C λa H=>ov H C (Z.neq (p:=0) (q:=0) C C) λa H=>nk<|W.if_ff H C<|W.skip<|ksq<|W.seq<|sg (l:=[0,1,2,3]) C<|ov H C (Z.field zaq C C) λa H=>?_; refine ov (v:=s5) H C (Z.load1 zar C (X.p 2 C) C) λa H=>ov (v:=Iv (x6.length:Int)) H C (Z.lenE (e:=92) (by simpa using zad) C (X.b 1 C)) λa H=>ov H C (Z.eql C C) λa H=>nk<|?_; refine W.ifdI H C (λhc13=>?_) (λhc13=>?_)
 ·nomatch hm_p M hc13
 ·replace M:=hm_n M hc13; refine W.skip<|ksq<|sg (l:=[0,1,2,3,4,5,6,7,8,9]) C<|ov H C (Z.field zaq C C) λa H=>ov (v:=s2) H C (Z.load1 zar C (X.p 3 C) C) λa H=>ov H C (Z.field zaq C C) λa H=>ov (v:=s5) H C (Z.load1 zar C (X.p 2 C) C) λa H=>?_; obtain ⟨x14,hx14,M⟩:=hm_b M; refine oc H C zhF (zdv F s2 x3 s5 x6 _ (X.b 0 C) (X.b 1 C) x14 hx14) ?_; rintro ⟨s15,s16⟩ w Y a H; replace X:=X.cl Y; refine mv H C λa H=>ex H C C C λa H=>ex H C C C λa H=>mv2 H C C λa H=>nk<|W.seq<|sg (l:=[0,1,2,3,4,5,6,7,8,9]) C<|mv H C λa H=>ov (v:=Iv (x14.2.length:Int)) H C (Z.lenE (e:=92) (by simpa using zad) C (X.s 1 C)) λa H=>?_; refine ov H C (Z.gtr C C) λa H=>mv H C λa H=>?_; refine O.cutN (l₁:=[4,5,6,7,8,9]) (l₂:=_) (λa w=>Fr a 75 [] [(2,Pv b7 0),(3,Pv b8 0),(4,Pv b9 0),(5,Pv b10 0),(6,Iv 0),(8,s15),(9,s16),(42,Bv ((decide ((x14.2.length:Int)>(0:Int)))&&(!(x1 == x4))))]∧St w0 w noX [rE92 s2 x3,rE92 s5 x6] [sE92 s15 x14.1,sE92 s16 x14.2,pt b10 (Cs #[Bv false,.slice none 0 0] 56),pt b9 (Cs #[Bv false,.slice none 0 0] 56),pW56 b8 x4 s5,pW56 b7 x1 s2]) C ?_ ?_
  ·rcases Bool.eq_false_or_eq_true (decide ((x14.2.length:Int)>(0:Int))) with hb17 | hb17
   ·refine og H C hb17 (Z.field zap C C) λa H=>og H C hb17 (Z.load1 zaC C (X.p 5 C) C) λa H=>og H C hb17 (Z.field zap C C) λa H=>og H C hb17 (Z.load1 zaC C (X.p 4 C) C) λa H=>og (v:=Bv (!(x1 == x4))) H C hb17 (Z.neBool zg5 C C) λa H=>?_; refine ov (v:=Bv ((decide ((x14.2.length:Int)>(0:Int)))&&(!(x1 == x4)))) H C (Z.pick C C C (by rw [hb17]; rfl)) ?_; clear H a; intro a H; exact O.nil ⟨C,H.q C,X⟩
   ·refine sk H C hb17 λa H=>sk H C hb17 λa H=>sk H C hb17 λa H=>sk H C hb17 λa H=>sk H C hb17 λa H=>?_; refine ov (v:=Bv ((decide ((x14.2.length:Int)>(0:Int)))&&(!(x1 == x4)))) H C (Z.pick C C C (by rw [hb17]; rfl)) ?_; clear H a; intro a H; exact O.nil ⟨C,H.q C,X⟩
  clear H X a; (try clear w); rintro a w ⟨H,X⟩; refine nk ?_; refine W.if_ H C (λhc18=>?_) (λhc18=>?_)
  ·nomatch hm_t M hc18
  ·replace M:=hm_f M hc18; refine W.skip<|ksq<|W.seq<|sg (l:=[0,1,2,3,4,5,6,7,8,9,10,11]) C<|ov H C (Z.field zap C C) λa H=>ov H C (Z.load1 zaC C (X.p 5 C) C) λa H=>ov H C (Z.field zap C C) λa H=>ov H C (Z.load1 zaC C (X.p 4 C) C) λa H=>ov (v:=Bv (!(x1 == x4))) H C (Z.neBool zg5 C C) λa H=>mv H C λa H=>?_; obtain ⟨x19,hx19,M⟩:=hm_b M; refine oc H C zcK (zaO F (!(x1 == x4)) s15 x14.1 _ (X.slS (j:=0) C) x19 hx19) ?_; rintro s20 w Y a H; replace X:=X.cz Y 0 λ_ h=>h; refine mv H C λa H=>ex H C C C λa H=>ex H C C C λa H=>ost 3 #[Bv x19.1,s20] H X C C C zaa C (occ C (occ (rdo (X.s 0 C)) C)) C (bl C) C<|?_; intro w X; refine mv H C λa H=>nk<|?_; replace X:=X.sl [1,1,1,1,1]; refine sg (l:=[0,1]) C<|mv H C λa H=>ov H C (Z.neq (p:=0) (q:=0) C C) λa H=>nk<|W.if_ff H C<|W.skip<|ksq<|sg (l:=[0,1,2,3,4,5,6,7,8]) C<|ov H C (Z.field zap C C) λa H=>ov H C (Z.load1 zaC C (X.p 4 C) C) λa H=>?_; refine mv H C λa H=>?_; obtain ⟨x21,hx21,M⟩:=hm_b M; refine oc H C zcK (zaO F x4 s16 x14.2 _ (X.slS (j:=1) C) x21 hx21) ?_; rintro s22 w Y a H; replace X:=X.cz Y 1 λ_ h=>h; refine mv H C λa H=>ex H C C C λa H=>ex H C C C λa H=>ost 2 #[Bv x21.1,s22] H X C C C zaa C (occ C (occ (rdo (X.s 0 C)) C)) C (bl C) C<|?_; intro w X; refine mv H C λa H=>nk<|?_; replace X:=X.sl [1,1,1,1]; refine W.seq ?_; have J:Fr a 75 [] [(6,Iv 0)]:=H.q C; refine W.drawK (γ:=Unit) (L0:=[(4,Pv b9 0),(5,Pv b10 0)]) (L1:=[(6,Iv 0)]) () [3,4] [] [0,1,2,5] (λi=>match i with | 3=>[0] | 4=>[0,1,3] | 5=>[0,1,2,3,4] | _=>[]) (λ_=>[]) (λi=>match i with | 3=>[4,5] | 4=>[5] | _=>[]) (λi=>match i with | 2=>[6] | _=>[]) (λi=>match i with | 4=>1 | 5=>2 | _=>0) (λi=>match i with | 1=>1 | 2=>2 | 3=>1 | 4=>2 | 5=>2 | _=>0) (λ(g:Unit) j=>match j with | 0=>.agg #[Bv x19.1,s20] | 1=>.agg #[Bv x21.1,s22] | 2=>Iv 0 | 5=>Iv 0 | _=>undef) (λk s (g:Unit) w=>match k with | 0=>St w0 w noX [rE92 s2 x3,rE92 s5 x6] [sE92 s22 x21.2,sE92 s20 x19.2,pW56 b10 x21.1 s22,pW56 b9 x19.1 s20] | 1=>St w0 w noX [rE92 s2 x3,rE92 s5 x6] [sE92 s22 x21.2,sE92 s20 x19.2,pW56 b10 x21.1 s22,pW56 b9 x19.1 s20] | _=>St w0 w noX [rE92 s2 x3,rE92 s5 x6] [sE92 s22 x21.2,sE92 s20 x19.2,pW56 b10 x21.1 s22,pW56 b9 x19.1 s20]) P_mixed (by kernel_rfl) (H.q C) J X.drew ?_ ?_ ?_ ?_
   ·clear H J X; refine ⟨?_,?_,λk s g w _ _ _ X a H=>Q.val (v:=Iv 0) C C C X H (Z.move C),λk s g w _ _ _ X a H=>Q.val (v:=Iv 0) C C C X H (Z.assign C),trivial⟩
    ·intro k s g w h1_ h2_ hsp X a H
     rcases k with _ | k
     ·exact Q.val (v:=.agg #[Bv x19.1,s20]) C C C X H (lN (cs':=#[Bv x19.1,s20]) A_56 C (X.p 3 C) C C)
     ·simp at h2_
    ·intro k s g w h1_ h2_ hsp X a H
     rcases k with _ | _ | k
     ·exact Q.val (v:=.agg #[Bv x21.1,s22]) C C C X H (lN (cs':=#[Bv x21.1,s22]) A_56 C (X.p 2 C) C C)
     ·exact Q.val (v:=.agg #[Bv x21.1,s22]) C C C X H (lN (cs':=#[Bv x21.1,s22]) A_56 C (X.p 2 C) C C)
     ·simp at h2_
   ·clear H J X; refine ⟨?_,?_,trivial⟩
    ·intro s g w hsp X a H; refine ost 3 #[Bv x19.1,s20] H X C C C zaa C (occ C (occ (rdo (X.s 1 C)) C)) C (bl C) C ?_; intro w X; exact nG H ⟨(λd hd=>by cases (show none=some d from hd)),(λ_ _ _=>C),X⟩
    ·intro s g w hsp X a H; refine ost 2 #[Bv x21.1,s22] H X C C C zaa C (occ C (occ (rdo (X.s 0 C)) C)) C (bl C) C ?_; intro w X; exact nG H ⟨(λd hd=>by cases (show none=some d from hd)),(λ_ _ _=>C),X⟩
   ·clear H J X; exact trivial
   clear H J X; intro s g a w hs H X; refine ksq<|W.ret<|?_; obtain rfl:=oj M; refine post3 H C (rkn (cs':=#[Bv x19.1,s20]) C zao zaa (X.p 3 C) (bl C) C) (rkn (cs':=#[Bv x21.1,s22]) C zao zaa (X.p 2 C) (bl C) C) (rkt C) ?_; replace X:=X.fr 1; replace X:=X.sl [1,1]; exact ⟨(s20,s22),C,X.noB⟩
def zed (F:Nat) :Option Unit :=
  some ()
def zcX (F:Nat) (x4:List Int) (x2 x6:Bool):Option Unit :=
  if (x6||((decide ((x4.length:Int)=(0:Int)))&&x2))=true then (none) else (zed F)
def zcY (F:Nat) (x4:List Int) (x2 x11:Bool):Option Unit :=
  zcX F x4 x2 x11
def zb1 (F:Nat) (x2:Bool) (x4:List Int):Option Unit :=
  if (x4.length:Int)>(4096:Int) then (zcX F x4 x2 true) else (if (x4.length:Int)>(0:Int) then ((idx x4 (i64.wrap ((x4.length:Int)-1))).bind λx13=>zcY F x4 x2 (decide (x13=(0:Int)))) else (zcY F x4 x2 false))
theorem zcZ (F b1:Nat) (x2:Bool) (s3:Value) (x4:List Int) (w0:World) (h_s3:rdEOK (hp w0) 1 E92 s3 x4) (h_b1:w0.heap[b1]? = some (.cells #[Bv x2,s3] 56 (0,0))) (r:Unit) (M:zb1 F x2 x4=some r) :
    Ret Tryz.prog 43 #[.slice (some ⟨b1,0,none⟩) 1 1] w0 (G:=Unit) (λ_=>Iv 0) (λ_ w=>St w0 w noX [] []):=by
 unfold zb1 at M; refine roW Tryz.func43 C C C (λa H=>?_); have X:St w0 w0 noX [rE92 s3 x4,pW56 b1 x2 s3] []:=Sbw (lnc (lendRd h_s3) (lnc (lendPt h_b1) lnn)); refine sg (l:=[0]) C<|mv H C λa H=>nk<|?_; refine W.seqR (λa w=>Fr a 39 [] [(2,Iv 0)]∧St w0 w noX [rE92 s3 x4,pW56 b1 x2 s3] []∧zed F=some r) ?_ ?_
 ·refine sg (l:=[0,1,2]) C<|mv H C λa H=>ov (v:=Iv 1) H C (Z.len (e:=56) (by simpa using za7) C) λa H=>mv H C λa H=>nk<|W.block<|?_; refine W.loopH (LH.step ?_); refine sg (l:=[0]) C<|ov H C (Z.lss (p:=0) (q:=1) C C) λa H=>nk<|W.seq<|W.if_tt H C<|W.skip<|ksq<|W.seq<|W.block<|sg (l:=[0,1,2,3]) C<|?_; refine ov H C (Z.indexSl (j:=0) (m:=0) za7 zaa C C C (by decide) C) λa H=>ov H C (Z.loadN (cs':=#[Bv x2,s3]) zao zaa C (X.bptAt (i:=1) C) (bl C) C) λa H=>O.alloc (cs:=#[Bv false,.slice none 0 0]) H X C C zab C<|?_; intro b5 w a hb5 X H; refine ost 0 #[Bv x2,s3] H X C C C zaa C (occ C (occ (rdo (X.b 0 C)) C)) C (bl C) C ?_; intro w X; refine nk<|sg (l:=[0,1,2,3]) C<|ov H C (Z.field zaq C C) λa H=>ov (v:=s3) H C (Z.load1 zar C (X.p 0 C) C) λa H=>ov (v:=Iv (x4.length:Int)) H C (Z.lenE (e:=92) (by simpa using zad) C (X.b 0 C)) λa H=>mv H C λa H=>nk<|sg (l:=[0,1,2,3,4,5,6,7,8,9,10,11,12,13,14,15,16,17,18,19,20,21,22]) C<|mv H C λa H=>ov H C (Z.gtr C C) λa H=>?_; refine mv H C λa H=>?_; refine O.cutN (l₁:=[3,4,5,6,7,8,9,10,11,12,13,14]) (l₂:=_) (λa w=>∃ (x6:Bool),Fr a 39 [] [(2,Iv 0),(4,Pv b5 0),(5,Iv (x4.length:Int)),(6,.slice (some ⟨b1,0,none⟩) 1 1),(7,Iv 1),(8,Iv 0),(29,Bv x6)]∧St w0 w noX [rE92 s3 x4,pW56 b1 x2 s3] [pW56 b5 x2 s3]∧zcX F x4 x2 x6=some r) C ?_ ?_
  ·rcases Bool.eq_false_or_eq_true (decide ((x4.length:Int)>(4096:Int))) with hb10 | hb10
   ·have hb10p:=of_decide_eq_true hb10; replace M:=hm_p M hb10p; refine sk H C hb10 λa H=>sk H C hb10 λa H=>sk H C hb10 λa H=>O.skipU H C C C C λa H=>O.skipU H C C C C λa H=>O.skipU H C C C C λa H=>O.skipU H C C C C λa H=>O.skipU H C C C C λa H=>O.skipU H C C C C λa H=>O.skipU H C C C C λa H=>?_; refine sk H C hb10 λa H=>?_; refine ov (v:=Bv true) H C (Z.pick C C C (by rw [hb10]; rfl)) ?_; clear H a; intro a H; exact O.nil ⟨C,true,H.q C,X,M⟩
   ·have hb10p:=of_decide_eq_false hb10; replace M:=hm_n M hb10p; refine og H C hb10 (Z.move C) λa H=>og H C hb10 (Z.gtr C C) λa H=>og H C hb10 (Z.move C) λa H=>?_; refine O.cutN (l₁:=[6,7,8,9,10,11,12,13]) (l₂:=_) (λa w=>∃ (x11:Bool),Fr a 39 [] [(2,Iv 0),(4,Pv b5 0),(5,Iv (x4.length:Int)),(6,.slice (some ⟨b1,0,none⟩) 1 1),(7,Iv 1),(8,Iv 0),(15,Iv (x4.length:Int)),(16,Bv (decide ((x4.length:Int)>(4096:Int)))),(17,Bv (decide ((x4.length:Int)>(4096:Int)))),(18,Iv (x4.length:Int)),(19,Bv (decide ((x4.length:Int)>(0:Int)))),(20,Bv (decide ((x4.length:Int)>(0:Int)))),(28,Bv x11)]∧St w0 w noX [rE92 s3 x4,pW56 b1 x2 s3] [pW56 b5 x2 s3]∧zcY F x4 x2 x11=some r) C ?_ ?_
    ·rcases Bool.eq_false_or_eq_true (decide ((x4.length:Int)>(0:Int))) with hb12 | hb12
     ·have hb12p:=of_decide_eq_true hb12; replace M:=hm_p M hb12p; refine og H C hb12 (Z.field zaq C C) λa H=>og (v:=s3) H C hb12 (Z.load1 zar C (X.p 0 C) C) λa H=>og H C hb12 (Z.move C) λa H=>og H C hb12 (Z.sub C C) λa H=>?_; obtain ⟨x13,hx13,M⟩:=hm_b M; refine og H C hb12 (Z.ixE zad zag C C (X.b 0 C) hx13) λa H=>og H C hb12 (Z.ldE1 (o:=0) zaD E92_len C (X.b 0 C) hx13 C C) λa H=>og H C hb12 (Z.eql C C) λa H=>?_; refine og (v:=Bv (decide (x13=(0:Int)))) H C hb10 (Z.pick C C C (by rw [hb12]; rfl)) ?_; clear H a; intro a H; exact O.nil ⟨C,decide (x13=(0:Int)),H.q C,X,M⟩
     ·have hb12p:=of_decide_eq_false hb12; replace M:=hm_n M hb12p; refine sk H C hb12 λa H=>sk H C hb12 λa H=>sk H C hb12 λa H=>sk H C hb12 λa H=>sk H C hb12 λa H=>sk H C hb12 λa H=>sk H C hb12 λa H=>?_; refine og (v:=Bv false) H C hb10 (Z.pick C C C (by rw [hb12]; rfl)) ?_; clear H a; intro a H; exact O.nil ⟨C,false,H.q C,X,M⟩
    clear H X M a; (try clear w); rintro a w ⟨x11,H,X,M⟩; unfold zcY at M; refine ov (v:=Bv x11) H C (Z.pick C C C (by rw [hb10]; rfl)) ?_; clear H a; intro a H; exact O.nil ⟨C,x11,H.q C,X,M⟩
  clear H X M a; (try clear w); rintro a w ⟨x6,H,X,M⟩; unfold zcX at M; refine mv H C λa H=>?_; refine O.cutN (l₁:=[16,17,18,19,20,21,22]) (l₂:=_) (λa w=>Fr a 39 [] [(2,Iv 0),(6,.slice (some ⟨b1,0,none⟩) 1 1),(7,Iv 1),(8,Iv 0),(37,Bv (x6||((decide ((x4.length:Int)=(0:Int)))&&x2)))]∧St w0 w noX [rE92 s3 x4,pW56 b1 x2 s3] [pW56 b5 x2 s3]) C ?_ ?_
  ·rcases Bool.eq_false_or_eq_true (x6) with hb7 | hb7
   ·refine sk H C hb7 λa H=>sk H C hb7 λa H=>sk H C hb7 λa H=>O.skipU H C C C C λa H=>O.skipU H C C C C λa H=>sk H C hb7 λa H=>?_; refine ov (v:=Bv (x6||((decide ((x4.length:Int)=(0:Int)))&&x2))) H C (Z.pick C C C (by rw [hb7]; rfl)) ?_; clear H a; intro a H; exact O.nil ⟨C,H.q C,X⟩
   ·refine og H C hb7 (Z.move C) λa H=>og H C hb7 (Z.eql C C) λa H=>og H C hb7 (Z.move C) λa H=>?_; refine O.cutN (l₁:=[19,20,21]) (l₂:=_) (λa w=>Fr a 39 [] [(2,Iv 0),(4,Pv b5 0),(5,Iv (x4.length:Int)),(6,.slice (some ⟨b1,0,none⟩) 1 1),(7,Iv 1),(8,Iv 0),(29,Bv x6),(30,Bv x6),(31,Iv (x4.length:Int)),(32,Bv (decide ((x4.length:Int)=(0:Int)))),(33,Bv (decide ((x4.length:Int)=(0:Int)))),(36,Bv ((decide ((x4.length:Int)=(0:Int)))&&x2))]∧St w0 w noX [rE92 s3 x4,pW56 b1 x2 s3] [pW56 b5 x2 s3]) C ?_ ?_
    ·rcases Bool.eq_false_or_eq_true (decide ((x4.length:Int)=(0:Int))) with hb8 | hb8
     ·refine og H C hb8 (Z.field zap C C) λa H=>og H C hb8 (Z.load1 zaC C (X.p 0 C) C) λa H=>?_; refine og (v:=Bv ((decide ((x4.length:Int)=(0:Int)))&&x2)) H C hb7 (Z.pick C C C (by rw [hb8]; rfl)) ?_; clear H a; intro a H; exact O.nil ⟨C,H.q C,X⟩
     ·refine sk H C hb8 λa H=>sk H C hb8 λa H=>?_; refine og (v:=Bv ((decide ((x4.length:Int)=(0:Int)))&&x2)) H C hb7 (Z.pick C C C (by rw [hb8]; rfl)) ?_; clear H a; intro a H; exact O.nil ⟨C,H.q C,X⟩
    clear H X a; (try clear w); rintro a w ⟨H,X⟩; refine ov (v:=Bv (x6||((decide ((x4.length:Int)=(0:Int)))&&x2))) H C (Z.pick C C C (by rw [hb7]; rfl)) ?_; clear H a; intro a H; exact O.nil ⟨C,H.q C,X⟩
  clear H X a; (try clear w); rintro a w ⟨H,X⟩; refine nk ?_; replace X:=X.s0; refine W.if_ H C (λhc9=>?_) (λhc9=>?_)
  ·nomatch hm_t M hc9
  ·replace M:=hm_f M hc9; refine W.skip<|kbn<|ksq<|wrL (l:=[0,1]) C<|ov H C (Z.add (p:=0) (q:=1) C C) λa H=>mv H C λa H=>O.nil<|?_; refine kth (LH.step ?_); refine sg (l:=[0]) C<|ov H C (Z.lss (p:=1) (q:=1) C C) λa H=>nk<|W.seq<|W.if_ff H C<|W.exit<|kte<|kte<|kbk<|?_; exact kth ⟨H.q C,X,M⟩
 ·clear H X M a; (try clear w); rintro a w ⟨H,X,M⟩; unfold zed at M; refine sg (l:=[0]) C<|mv H C λa H=>nk<|W.ret<|?_; obtain rfl:=oj M; refine post1 H C (rkt C) ?_; exact ⟨(),C,X.noB⟩
def zf3 (F:Nat) (x1:Bool) (x8:Int):Option Int :=
  if (x1&&(decide (x8≤(9223372036854775808:Int))))=true then ((some (i64.wrap (u64.wrap (0-x8)))).bind λx11=>some x11) else (if ((!x1)&&(decide (x8<(9223372036854775808:Int))))=true then (some (i64.wrap x8)) else (none))
def zf4 (F:Nat) (x3:List Int) (x1:Bool) (rec16:Int→Int→Option Int) (x14 x15:Int):Option Int :=
  if x15<((x3.length:Int):Int) then ((idx x3 x15).bind λx18=>if 0≤(i64.wrap (32*x15)) then (some (bitor .u64 x14 (u64.wrap ((u64.wrap x18)*2^(min (Int.toNat (i64.wrap (32*x15))) (IntKind.bits .u64)))))).bind λx20=>rec16 x20 (i64.wrap (x15+1)) else none) else (zf3 F x1 x14)
def zdM (F:Nat) (x3:List Int) (x1:Bool):Nat→Int→Int→Option Int
  | 0,_,_=>none
  | n+1,x14,x15=>zf4 F x3 x1 (zdM F x3 x1 n) x14 x15
def zfs (F:Nat) (x1:Bool) (x3:List Int):Option Int :=
  (zb1 F x1 x3).bind λx6=>if (x3.length:Int)>(2:Int) then (none) else (zdM F x3 x1 F 0 0)
theorem zf5 (F:Nat) (x1:Bool) (s2:Value) (x3:List Int) (w0:World) (h_s2:rdEOK (hp w0) 1 E92 s2 x3) (r:Int) (M:zfs F x1 x3=some r) :
    Ret Tryz.prog 20 #[.agg #[Bv x1,s2]] w0 (G:=Unit) (λ_=>.tuple #[Iv r,Iv 0]) (λ_ w=>St w0 w noX [] []):=by
 unfold zfs at M; refine roW Tryz.func20 C C C (λa H=>?_); have X:St w0 w0 noX [rE92 s2 x3] []:=Sbw (lnc (lendRd h_s2) lnn); refine sg (l:=[0,1,2]) C<|O.box (cs:=#[Bv x1,s2]) H X C C C C<|?_; intro b4 w a hb4 X H; refine mv2 H C C λa H=>nk<|W.seq<|sg (l:=[0,1,2,3]) C<|ov H C (lN (cs':=#[Bv x1,s2]) A_56 C (X.p 0 C) C C) λa H=>O.buildSlice (cs':=#[Bv x1,s2]) (zs:=#[Bv false,.slice none 0 0]) H X C C za7 zaa zab C C C C C<|?_; intro b5 w a hb5 X H; obtain ⟨x6,hx6,M⟩:=hm_b M; refine oc H C zdV (zcZ F b5 x1 s2 x3 _ (X.b 0 C) (X.p 0 C) x6 hx6) ?_; rintro _ w Y a H; replace X:=X.cl Y; refine mv H C λa H=>nk<|?_; replace X:=X.sl [0,1]; refine sg (l:=[0,1]) C<|mv H C λa H=>ov H C (Z.neq (p:=0) (q:=0) C C) λa H=>nk<|W.if_ff H C<|W.skip<|ksq<|W.seq<|sg (l:=[0,1,2,3]) C<|ov H C (Z.field zaq C C) λa H=>?_; refine ov (v:=s2) H C (Z.load1 zar C (X.p 0 C) C) λa H=>ov (v:=Iv (x3.length:Int)) H C (Z.lenE (e:=92) (by simpa using zad) C (X.b 0 C)) λa H=>ov H C (Z.gtr C C) λa H=>nk<|?_; refine W.ifdI H C (λhc7=>?_) (λhc7=>?_)
 ·nomatch hm_p M hc7
 ·replace M:=hm_n M hc7; refine W.skip<|ksq<|sg (l:=[0]) C<|mv H C λa H=>nk<|?_; refine W.seqR (λa w=>∃ (x8:Int),Fr a 54 [] [(1,Pv b4 0),(2,Iv 0),(3,Iv 0),(5,Uv x8)]∧St w0 w noX [rE92 s2 x3] [pW56 b4 x1 s2]∧zf3 F x1 x8=some r) ?_ ?_
  ·refine sg (l:=[0,1,2,3]) C<|ov H C (Z.field zaq C C) λa H=>ov (v:=s2) H C (Z.load1 zar C (X.p 0 C) C) λa H=>ov (v:=Iv (x3.length:Int)) H C (Z.lenE (e:=92) (by simpa using zad) C (X.b 0 C)) λa H=>mv H C λa H=>nk<|?_; refine W.block<|W.loop (G:=Nat × Int × Int) (λg a w=>match g with | (k16,x14,x15)=>Fr a 54 [] [(1,Pv b4 0),(2,Iv 0),(3,Iv 0),(5,Uv x14),(19,s2),(20,Iv (x3.length:Int)),(21,Iv x15)]∧St w0 w noX [rE92 s2 x3] [pW56 b4 x1 s2]∧zdM F x3 x1 k16 x14 x15=some r) (λg=>match g with | (k16,x14,x15)=>k16) (F,0,0) ⟨H.q C,X,M⟩<|?_; clear H X M a; (try clear w); rintro ⟨k16,x14,x15⟩ a w ⟨H,X,M⟩
   rcases k16 with _ | k16
   · nomatch M
   replace M:zf4 F x3 x1 (zdM F x3 x1 k16) x14 x15=some r:=M; obtain ⟨rec16,hrec16⟩:∃ f,f=zdM F x3 x1 k16:=⟨_,C⟩; rw [← hrec16] at M; unfold zf4 at M; refine sg (l:=[0]) C<|ov H C (Z.lss C C) λa H=>nk<|W.seq<|?_; refine W.ifdI H C (λhc17=>?_) (λhc17=>?_)
   ·replace M:=hm_p M hc17; refine W.skip<|ksq<|W.seq<|W.block<|sg (l:=[0,1,2,3,4]) C<|mv H C λa H=>?_; obtain ⟨x18,hx18,M⟩:=hm_b M; refine ov H C (Z.ixE zad zag C C (X.b 0 C) hx18) λa H=>ov H C (Z.ldE1 (o:=0) zaD E92_len C (X.b 0 C) hx18 C C) λa H=>mv2 H C C λa H=>nk<|wrL (l:=[0,1,2,3,4,5,6,7]) C<|mv2 H C C λa H=>ov (v:=Uv (u64.wrap x18)) H C (Z.conv zbh zaG C) λa H=>mv H C λa H=>?_; refine ov H C (Z.mul C C) λa H=>?_; obtain ⟨hg19,M⟩:=hm_g M; refine ov (v:=Uv (u64.wrap ((u64.wrap x18)*2^(min (Int.toNat (i64.wrap (32*x15))) (IntKind.bits .u64))))) H C (Z.shl C C hg19) λa H=>ov (v:=Uv (bitor .u64 x14 (u64.wrap ((u64.wrap x18)*2^(min (Int.toNat (i64.wrap (32*x15))) (IntKind.bits .u64)))))) H C (Z.bitor C C) λa H=>mv H C λa H=>O.nil<|kbn<|ksq<|?_; obtain ⟨x20,hx20,M⟩:=hm_b M; rw [oj hx20] at H; refine wrL (l:=[0,1]) C<|ov H C (Z.add C C) λa H=>mv H C λa H=>O.nil<|?_; refine kth ⟨(k16,x20,i64.wrap (x15+1)),⟨H.q C,X,?_⟩,Nat.lt_succ_self _⟩; rw [hrec16] at M; exact M
   ·replace M:=hm_n M hc17; refine W.exit<|kte<|kte<|kbk<|?_; exact kth ⟨x14,H.q C,X,M⟩
  ·clear H X M a; (try clear w); rintro a w ⟨x8,H,X,M⟩; unfold zf3 at M; refine W.seq<|W.block<|sg (l:=[0,1,2,3,4,5,6]) C<|ov H C (Z.field zap C C) λa H=>ov H C (Z.load1 zaC C (X.p 0 C) C) λa H=>mv H C λa H=>?_; refine O.cutN (l₁:=[3,4,5]) (l₂:=_) (λa w=>Fr a 54 [] [(1,Pv b4 0),(2,Iv 0),(3,Iv 0),(5,Uv x8),(40,Bv (x1&&(decide (x8≤(9223372036854775808:Int)))))]∧St w0 w noX [rE92 s2 x3] [pW56 b4 x1 s2]) C ?_ ?_
   ·rcases Bool.eq_false_or_eq_true (x1) with hb9 | hb9
    ·refine og H C hb9 (Z.move C) λa H=>og H C hb9 (Z.leq C C) λa H=>?_; refine ov (v:=Bv (x1&&(decide (x8≤(9223372036854775808:Int))))) H C (Z.pick C C C (by rw [hb9]; rfl)) ?_; clear H a; intro a H; exact O.nil ⟨C,H.q C,X⟩
    ·refine sk H C hb9 λa H=>sk H C hb9 λa H=>?_; refine ov (v:=Bv (x1&&(decide (x8≤(9223372036854775808:Int))))) H C (Z.pick C C C (by rw [hb9]; rfl)) ?_; clear H a; intro a H; exact O.nil ⟨C,H.q C,X⟩
   clear H X a; (try clear w); rintro a w ⟨H,X⟩; refine mv H C λa H=>nk<|?_; refine W.if_ H C (λhc10=>?_) (λhc10=>?_)
   ·replace M:=hm_t M hc10; refine sg (l:=[0,1,2,3,4]) C<|mv H C λa H=>ov (v:=Uv (u64.wrap (0-x8))) H C (Z.neg C) λa H=>ov (v:=Iv (i64.wrap (u64.wrap (0-x8)))) H C (Z.conv za1 zes C) λa H=>mv2 H C C λa H=>nk<|?_; replace X:=X.s0; obtain ⟨x11,hx11,M⟩:=hm_b M; rw [oj hx11] at H; refine W.ret<|kbr<|ktr<|?_; obtain rfl:=oj M; refine post2 H C (rkt C) (rkt C) ?_; exact ⟨(),C,X.noB⟩
   ·replace M:=hm_f M hc10; refine sg (l:=[0,1,2,3,4,5,6,7]) C<|ov H C (Z.field zap C C) λa H=>ov H C (Z.load1 zaC C (X.p 0 C) C) λa H=>ov H C (Z.not C) λa H=>mv H C λa H=>?_; refine O.cutN (l₁:=[4,5,6]) (l₂:=_) (λa w=>Fr a 54 [] [(2,Iv 0),(3,Iv 0),(5,Uv x8),(51,Bv ((!x1)&&(decide (x8<(9223372036854775808:Int)))))]∧St w0 w noX [rE92 s2 x3] [pW56 b4 x1 s2]) C ?_ ?_
    ·rcases Bool.eq_false_or_eq_true (!x1) with hb12 | hb12
     ·refine og H C hb12 (Z.move C) λa H=>og H C hb12 (Z.lss C C) λa H=>?_; refine ov (v:=Bv ((!x1)&&(decide (x8<(9223372036854775808:Int))))) H C (Z.pick C C C (by rw [hb12]; rfl)) ?_; clear H a; intro a H; exact O.nil ⟨C,H.q C,X⟩
     ·refine sk H C hb12 λa H=>sk H C hb12 λa H=>?_; refine ov (v:=Bv ((!x1)&&(decide (x8<(9223372036854775808:Int))))) H C (Z.pick C C C (by rw [hb12]; rfl)) ?_; clear H a; intro a H; exact O.nil ⟨C,H.q C,X⟩
    clear H X a; (try clear w); rintro a w ⟨H,X⟩; refine mv H C λa H=>nk<|?_; replace X:=X.s0; refine W.if_ H C (λhc13=>?_) (λhc13=>?_)
    ·replace M:=hm_t M hc13; refine sg (l:=[0,1,2,3]) C<|mv H C λa H=>ov (v:=Iv (i64.wrap x8)) H C (Z.conv za1 zes C) λa H=>mv2 H C C λa H=>nk<|W.ret<|kbr<|ktr<|?_; obtain rfl:=oj M; refine post2 H C (rkt C) (rkt C) ?_; exact ⟨(),C,X.noB⟩
    ·replace M:=hm_f M hc13; refine W.skip<|kbn<|ksq<|?_; nomatch M
def zf6 (F:Nat) (x1:Int):Option (Int × Int) :=
  (zgt F x1).bind λx2=>if (x2)=true then (some (0,16)) else ((zdW F 77905727326400000 1296000000000).bind λx4=>(zbe F 0).bind λx6=>(zdr F x4.1 x4.2 x6.1 x6.2).bind λx8=>(zdW F 100273781191135448 15).bind λx11=>(zbe F (i64.wrap (x1-64184000))).bind λx13=>(zbW F x11.1 x11.2 x13.1 x13.2).bind λx15=>(zdr F x8.1 x8.2 x15.1 x15.2).bind λx18=>(zbe F 100000000000000000).bind λx20=>(zbO F x18.1 x18.2 x20.1 x20.2).bind λx22=>(zbe F 1296000000000).bind λx27=>(zbO F x22.1 x22.2.1 x27.1 x27.2).bind λx29=>(zfs F x29.2.2.1 x29.2.2.2).bind λx34=>some (x34,0))
theorem zh1 (F:Nat) (x1:Int) (w0:World) (r:Int × Int) (M:zf6 F x1=some r) :
    Ret Tryz.prog 6 #[Iv x1] w0 (G:=Unit) (λ_=>.tuple #[Iv r.1,Iv r.2]) (λ_ w=>St w0 w noX [] []):=by
 unfold zf6 at M; refine roW Tryz.func6 C C C (λa H=>?_); have X:St w0 w0 noX [] []:=Sbw lnn; refine sg (l:=[0,1]) C<|mv2 H C C λa H=>nk<|W.seq<|sg (l:=[0,1]) C<|mv H C λa H=>?_; obtain ⟨x2,hx2,M⟩:=hm_b M; refine oc H C zjR (zh6 F x1 _ x2 hx2) ?_; rintro _ w Y a H; replace X:=X.cl Y; refine nk ?_; refine W.if_ H C (λhc3=>?_) (λhc3=>?_)
 ·replace M:=hm_t M hc3; refine sg (l:=[0,1]) C<|mv2 H C C λa H=>nk<|W.ret<|ktr<|?_; obtain rfl:=oj M; refine post2 H C (rkt C) (rkt C) ?_; exact ⟨(),C,X.noB⟩
 ·replace M:=hm_f M hc3; refine W.skip<|ksq<|sg (l:=[0]) C<|mv H C λa H=>nk<|sg (l:=[0,1,2,3,4,5,6,7,8,9]) C<|mv H C λa H=>?_; obtain ⟨x4,hx4,M⟩:=hm_b M; refine oc H C ziY (zfZ F 77905727326400000 1296000000000 _ x4 hx4) ?_; rintro s5 w Y a H; replace X:=X.cl Y; obtain ⟨x6,hx6,M⟩:=hm_b M; refine oc H C zdU (za8 F 0 _ x6 hx6) ?_; rintro s7 w Y a H; replace X:=X.cl Y; obtain ⟨x8,hx8,M⟩:=hm_b M; refine oc H C zgU (zdL F x4.1 s5 x4.2 x6.1 s7 x6.2 _ (X.s 1 C) (X.s 0 C) x8 hx8) ?_; rintro s9 w Y a H; replace X:=X.cl Y; refine mv H C λa H=>ex H C C C λa H=>ex H C C C λa H=>O.alloc (cs:=#[Bv false,.slice none 0 0]) H X C C zab C<|?_; intro b10 w a hb10 X H; refine ost 0 #[Bv x8.1,s9] H X C C C zaa C (occ C (occ (rdo (X.s 1 C)) C)) C (bl C) C ?_; intro w X; refine mv H C λa H=>nk<|?_; replace X:=X.sl [1,1]; refine sg (l:=[0,1,2,3,4,5,6,7,8,9,10,11]) C<|mv H C λa H=>?_; obtain ⟨x11,hx11,M⟩:=hm_b M; refine oc H C ziY (zfZ F 100273781191135448 15 _ x11 hx11) ?_; rintro s12 w Y a H; replace X:=X.cl Y; refine mv H C λa H=>ov H C (Z.sub C C) λa H=>?_; obtain ⟨x13,hx13,M⟩:=hm_b M; refine oc H C zdU (za8 F (i64.wrap (x1-64184000)) _ x13 hx13) ?_; rintro s14 w Y a H; replace X:=X.cl Y; obtain ⟨x15,hx15,M⟩:=hm_b M; refine oc H C zfe (zbN F x11.1 s12 x11.2 x13.1 s14 x13.2 _ (X.s 1 C) (X.s 0 C) x15 hx15) ?_; rintro s16 w Y a H; replace X:=X.cl Y; refine mv H C λa H=>ex H C C C λa H=>ex H C C C λa H=>O.alloc (cs:=#[Bv false,.slice none 0 0]) H X C C zab C<|?_; intro b17 w a hb17 X H; refine ost 0 #[Bv x15.1,s16] H X C C C zaa C (occ C (occ (rdo (X.s 1 C)) C)) C (bl C) C ?_; intro w X; refine mv H C λa H=>nk<|?_; replace X:=X.sl [1,1,0,0,1,1]; refine sg (l:=[0,1,2,3,4,5,6]) C<|ov H C (lN (cs':=#[Bv x8.1,s9]) A_56 C (X.p 2 C) C C) λa H=>ov H C (lN (cs':=#[Bv x15.1,s16]) A_56 C (X.p 0 C) C C) λa H=>?_; obtain ⟨x18,hx18,M⟩:=hm_b M; refine oc H C zgU (zdL F x8.1 s9 x8.2 x15.1 s16 x15.2 _ (X.s 3 C) (X.s 1 C) x18 hx18) ?_; rintro s19 w Y a H; replace X:=X.cl Y; refine mv H C λa H=>ex H C C C λa H=>ex H C C C λa H=>ost 3 #[Bv x18.1,s19] H X C C C zaa C (occ C (occ (rdo (X.s 0 C)) C)) C (bl C) C<|?_; intro w X; refine nk ?_; replace X:=X.sl [1,0,0,1]; refine W.seq ?_; have J:Fr a 61 [] []:=H.to trivial; obtain ⟨x20,hx20,M⟩:=hm_b M; obtain ⟨x22,hx22,M⟩:=hm_b M; replace X:=X.drew; replace X:=X.emp; replace X:=X.emp; refine W.drawK (γ:=Nat × Nat × Value × Value × Value) (L0:=[(2,Iv 0),(3,Iv 0),(5,Pv b10 0)]) (L1:=[]) (0,0,undef,undef,undef) [1,2,9,10] [7,8] [0,3,4,5,6,11] (λi=>match i with | 2=>[0,1] | 3=>[2] | 4=>[3] | 5=>[3] | 6=>[3] | 9=>[0,1,2,3,4,7,8] | 10=>[0,1,2,3,4,5,7,8,9] | 11=>[0,1,2,3,4,5,6,7,8,9,10] | _=>[]) (λi=>match i with | 9=>[7,8] | 10=>[7,8] | 11=>[7,8] | _=>[]) (λi=>match i with | 1=>[2,3,4,5,6,9,10,11] | 2=>[3,4,5,6,9,10,11] | 7=>[9,10,11] | 8=>[9,10,11] | 9=>[10,11] | 10=>[11] | _=>[]) (λ_=>[]) (λi=>match i with | 2=>1 | 3=>2 | 4=>2 | 5=>2 | 6=>2 | 9=>2 | 10=>3 | 11=>4 | _=>0) (λi=>match i with | 0=>1 | 1=>1 | 2=>2 | 3=>2 | 4=>2 | 5=>3 | 6=>4 | 7=>2 | 8=>2 | 9=>3 | 10=>4 | 11=>4 | _=>0) (λ(g:Nat × Nat × Value × Value × Value) j=>match j with | 0=>.agg #[Bv x18.1,s19] | 1=>.agg #[Bv x20.1,g.2.2.1] | 2=>.tuple #[.agg #[Bv x22.1,g.2.2.2.1],.agg #[Bv x22.2.2.1,g.2.2.2.2],Iv 0] | 3=>.tuple #[.agg #[Bv x22.1,g.2.2.2.1],.agg #[Bv x22.2.2.1,g.2.2.2.2],Iv 0] | 4=>.agg #[Bv x22.1,g.2.2.2.1] | 5=>.agg #[Bv x22.2.2.1,g.2.2.2.2] | 6=>Iv 0 | 7=>Pv g.1 0 | 8=>Pv g.2.1 0 | 11=>Iv 0 | _=>undef) (λk s (g:Nat × Nat × Value × Value × Value) w=>match k with | 0=>St w0 w noX [] [condA (s 8) (pt g.2.1 (Cs #[Bv false,.slice none 0 0] 56)),condA (s 7) (pt g.1 (Cs #[Bv false,.slice none 0 0] 56)),sE92 s19 x18.2,pW56 b10 x18.1 s19] | 1=>St w0 w noX [] [sE92 g.2.2.1 x20.2,condA (s 8) (pt g.2.1 (Cs #[Bv false,.slice none 0 0] 56)),condA (s 7) (pt g.1 (Cs #[Bv false,.slice none 0 0] 56)),sE92 s19 x18.2,pW56 b10 x18.1 s19] | 2=>St w0 w noX [] [sE92 g.2.2.2.1 x22.2.1,sE92 g.2.2.2.2 x22.2.2.2,sE92 g.2.2.1 x20.2,condA (s 8) (pt g.2.1 (Cs #[Bv false,.slice none 0 0] 56)),condA (s 7) (pt g.1 (Cs #[Bv false,.slice none 0 0] 56)),sE92 s19 x18.2,pW56 b10 x18.1 s19] | 3=>St w0 w noX [] [sE92 g.2.2.2.1 x22.2.1,sE92 g.2.2.2.2 x22.2.2.2,sE92 g.2.2.1 x20.2,pt g.2.1 (Cs #[Bv false,.slice none 0 0] 56),pt g.1 (Cs #[Bv x22.1,g.2.2.2.1] 56),sE92 s19 x18.2,pW56 b10 x18.1 s19] | _=>St w0 w noX [] [sE92 g.2.2.2.1 x22.2.1,sE92 g.2.2.2.2 x22.2.2.2,sE92 g.2.2.1 x20.2,pt g.2.1 (Cs #[Bv x22.2.2.1,g.2.2.2.2] 56),pt g.1 (Cs #[Bv x22.1,g.2.2.2.1] 56),sE92 s19 x18.2,pW56 b10 x18.1 s19]) P_mixed (by kernel_rfl) (H.q C) J X ?_ ?_ ?_ ?_
  ·clear H J X; refine ⟨?_,λk s g w _ _ _ X a H=>Q.val (v:=.tuple #[.agg #[Bv x22.1,g.2.2.2.1],.agg #[Bv x22.2.2.1,g.2.2.2.2],Iv 0]) C C C X H (Z.move C),λk s g w _ _ _ X a H=>Q.val (v:=.agg #[Bv x22.1,g.2.2.2.1]) C C C X H (Z.extract C C),λk s g w _ _ _ X a H=>Q.val (v:=.agg #[Bv x22.2.2.1,g.2.2.2.2]) C C C X H (Z.extract C C),λk s g w _ _ _ X a H=>Q.val (v:=Iv 0) C C C X H (Z.extract C C),λk s g w _ _ _ X a H=>Q.val (v:=Iv 0) C C C X H (Z.assign C),trivial⟩
   ·intro k s g w h1_ h2_ hsp X a H; obtain ⟨b25,b26,s21,s23,s24⟩:=g
    rcases k with _ | _ | k
    ·exact Q.val (v:=.agg #[Bv x18.1,s19]) C C C X H (lN (cs':=#[Bv x18.1,s19]) A_56 C (X.p 3 C) C C)
    ·exact Q.val (v:=.agg #[Bv x18.1,s19]) C C C X H (lN (cs':=#[Bv x18.1,s19]) A_56 C (X.p 4 C) C C)
    ·simp at h2_
  ·clear H J X; refine ⟨?_,?_,?_,?_,trivial⟩
   ·intro s g w hsp X a H; obtain ⟨b25,b26,s21,s23,s24⟩:=g; refine oc H C zdU (za8 F 100000000000000000 _ x20 hx20) ?_; rintro s21 w Y a H; replace X:=X.cl Y; exact nE 43 H (b25,b26,s21,s23,s24) C C (jl 12 (by kernel_rfl) λ_=>C) X
   ·intro s g w hsp X a H; obtain ⟨b25,b26,s21,s23,s24⟩:=g; refine oc H C zgm (zbU F x18.1 s19 x18.2 x20.1 s21 x20.2 _ (X.s 3 C) (X.s 0 C) x22 hx22) ?_; rintro ⟨s23,s24⟩ w Y a H; replace X:=X.cl Y; exact nE 44 H (b25,b26,s21,s23,s24) C C (jl 12 (by kernel_rfl) λ_=>C) X
   ·intro s g w hsp X a H; obtain ⟨b25,b26,s21,s23,s24⟩:=g; have h7_:s 7=true:=hsp 7 (by simp); have h8_:s 8=true:=hsp 8 (by simp); have X:St w0 w noX [] [sE92 s23 x22.2.1,sE92 s24 x22.2.2.2,sE92 s21 x20.2,condA (s 8) (pt b26 (Cs #[Bv false,.slice none 0 0] 56)),condA (s 7) (pt b25 (Cs #[Bv false,.slice none 0 0] 56)),sE92 s19 x18.2,pW56 b10 x18.1 s19]:=X; clear X; rw [h7_,h8_] at X; replace X:St w0 w noX [] [sE92 s23 x22.2.1,sE92 s24 x22.2.2.2,sE92 s21 x20.2,pt b26 (Cs #[Bv false,.slice none 0 0] 56),pt b25 (Cs #[Bv false,.slice none 0 0] 56),sE92 s19 x18.2,pW56 b10 x18.1 s19]:=X; refine ost 4 #[Bv x22.1,s23] H X C C C zaa C (occ C (occ (rdo (X.s 0 C)) C)) C (bl C) C ?_; intro w X; exact O.nil ⟨C,(b25,b26,s21,s23,s24),H.to trivial,(λd hd=>by cases (show none=some d from hd)),(λ_ _ _=>C),X⟩
   ·intro s g w hsp X a H; obtain ⟨b25,b26,s21,s23,s24⟩:=g; have h7_:s 7=true:=hsp 7 (by simp); have h8_:s 8=true:=hsp 8 (by simp); refine ost 3 #[Bv x22.2.2.1,s24] H X C C C zaa C (occ C (occ (rdo (X.s 1 C)) C)) C (bl C) C ?_; intro w X; exact O.nil ⟨C,(b25,b26,s21,s23,s24),H.to trivial,(λd hd=>by cases (show none=some d from hd)),(λ_ _ _=>C),X⟩
  ·clear H J X; refine ⟨?_,?_,trivial⟩
   ·intro k s g w h1_ h2_ hs0 X a H; obtain ⟨b25,b26,s21,s23,s24⟩:=g
    rcases k with _ | _ | _ | k
    ·refine oaC (j:=1) (cs:=#[Bv false,.slice none 0 0]) H X C hs0 C C zab C ?_; clear H X a; intro b25 w a X H; exact nE 9 H (b25,b26,s21,s23,s24) C C (jl 12 (by kernel_rfl) λ_=>C) X
    ·refine oaC (j:=2) (cs:=#[Bv false,.slice none 0 0]) H X C hs0 C C zab C ?_; clear H X a; intro b25 w a X H; exact nE 9 H (b25,b26,s21,s23,s24) C C (jl 12 (by kernel_rfl) λ_=>C) X
    ·refine oaC (j:=4) (cs:=#[Bv false,.slice none 0 0]) H X C hs0 C C zab C ?_; clear H X a; intro b25 w a X H; exact nE 9 H (b25,b26,s21,s23,s24) C C (jl 12 (by kernel_rfl) λ_=>C) X
    ·simp at h2_
   ·intro k s g w h1_ h2_ hs0 X a H; obtain ⟨b25,b26,s21,s23,s24⟩:=g
    rcases k with _ | _ | _ | k
    ·refine oaC (j:=0) (cs:=#[Bv false,.slice none 0 0]) H X C hs0 C C zab C ?_; clear H X a; intro b26 w a X H; exact nE 10 H (b25,b26,s21,s23,s24) C C (jl 12 (by kernel_rfl) λ_=>C) X
    ·refine oaC (j:=1) (cs:=#[Bv false,.slice none 0 0]) H X C hs0 C C zab C ?_; clear H X a; intro b26 w a X H; exact nE 10 H (b25,b26,s21,s23,s24) C C (jl 12 (by kernel_rfl) λ_=>C) X
    ·refine oaC (j:=3) (cs:=#[Bv false,.slice none 0 0]) H X C hs0 C C zab C ?_; clear H X a; intro b26 w a X H; exact nE 10 H (b25,b26,s21,s23,s24) C C (jl 12 (by kernel_rfl) λ_=>C) X
    ·simp at h2_
  clear H J X; intro s g a w hs H X; obtain ⟨b25,b26,s21,s23,s24⟩:=g; have h7_:s 7=true:=hs 7 (by simp); have h8_:s 8=true:=hs 8 (by simp); refine ksq ?_; replace X:=X.sl [1,0,0,0,1]; refine W.seq ?_; have J:Fr a 61 [] []:=H.to trivial; obtain ⟨x27,hx27,M⟩:=hm_b M; obtain ⟨x29,hx29,M⟩:=hm_b M; replace X:=X.drew; replace X:=X.emp; replace X:=X.emp; refine W.drawK (γ:=Nat × Nat × Value × Value × Value) (L0:=[(2,Iv 0),(3,Iv 0),(9,Pv b25 0)]) (L1:=[]) (0,0,undef,undef,undef) [1,2,9,10] [7,8] [0,3,4,5,6,11] (λi=>match i with | 2=>[0,1] | 3=>[2] | 4=>[3] | 5=>[3] | 6=>[3] | 9=>[0,1,2,3,4,7,8] | 10=>[0,1,2,3,4,5,7,8,9] | 11=>[0,1,2,3,4,5,6,7,8,9,10] | _=>[]) (λi=>match i with | 9=>[7,8] | 10=>[7,8] | 11=>[7,8] | _=>[]) (λi=>match i with | 1=>[2,3,4,5,6,9,10,11] | 2=>[3,4,5,6,9,10,11] | 7=>[9,10,11] | 8=>[9,10,11] | 9=>[10,11] | 10=>[11] | _=>[]) (λ_=>[]) (λi=>match i with | 2=>1 | 3=>2 | 4=>2 | 5=>2 | 6=>2 | 9=>2 | 10=>3 | 11=>4 | _=>0) (λi=>match i with | 0=>1 | 1=>1 | 2=>2 | 3=>2 | 4=>2 | 5=>3 | 6=>4 | 7=>2 | 8=>2 | 9=>3 | 10=>4 | 11=>4 | _=>0) (λ(g:Nat × Nat × Value × Value × Value) j=>match j with | 0=>.agg #[Bv x22.1,s23] | 1=>.agg #[Bv x27.1,g.2.2.1] | 2=>.tuple #[.agg #[Bv x29.1,g.2.2.2.1],.agg #[Bv x29.2.2.1,g.2.2.2.2],Iv 0] | 3=>.tuple #[.agg #[Bv x29.1,g.2.2.2.1],.agg #[Bv x29.2.2.1,g.2.2.2.2],Iv 0] | 4=>.agg #[Bv x29.1,g.2.2.2.1] | 5=>.agg #[Bv x29.2.2.1,g.2.2.2.2] | 6=>Iv 0 | 7=>Pv g.1 0 | 8=>Pv g.2.1 0 | 11=>Iv 0 | _=>undef) (λk s (g:Nat × Nat × Value × Value × Value) w=>match k with | 0=>St w0 w noX [] [condA (s 8) (pt g.2.1 (Cs #[Bv false,.slice none 0 0] 56)),condA (s 7) (pt g.1 (Cs #[Bv false,.slice none 0 0] 56)),sE92 s23 x22.2.1,pW56 b25 x22.1 s23] | 1=>St w0 w noX [] [sE92 g.2.2.1 x27.2,condA (s 8) (pt g.2.1 (Cs #[Bv false,.slice none 0 0] 56)),condA (s 7) (pt g.1 (Cs #[Bv false,.slice none 0 0] 56)),sE92 s23 x22.2.1,pW56 b25 x22.1 s23] | 2=>St w0 w noX [] [sE92 g.2.2.2.1 x29.2.1,sE92 g.2.2.2.2 x29.2.2.2,sE92 g.2.2.1 x27.2,condA (s 8) (pt g.2.1 (Cs #[Bv false,.slice none 0 0] 56)),condA (s 7) (pt g.1 (Cs #[Bv false,.slice none 0 0] 56)),sE92 s23 x22.2.1,pW56 b25 x22.1 s23] | 3=>St w0 w noX [] [sE92 g.2.2.2.1 x29.2.1,sE92 g.2.2.2.2 x29.2.2.2,sE92 g.2.2.1 x27.2,pt g.2.1 (Cs #[Bv false,.slice none 0 0] 56),pt g.1 (Cs #[Bv x29.1,g.2.2.2.1] 56),sE92 s23 x22.2.1,pW56 b25 x22.1 s23] | _=>St w0 w noX [] [sE92 g.2.2.2.1 x29.2.1,sE92 g.2.2.2.2 x29.2.2.2,sE92 g.2.2.1 x27.2,pt g.2.1 (Cs #[Bv x29.2.2.1,g.2.2.2.2] 56),pt g.1 (Cs #[Bv x29.1,g.2.2.2.1] 56),sE92 s23 x22.2.1,pW56 b25 x22.1 s23]) P_mixed (by kernel_rfl) (H.q C) J X ?_ ?_ ?_ ?_
  ·clear H J X; refine ⟨?_,λk s g w _ _ _ X a H=>Q.val (v:=.tuple #[.agg #[Bv x29.1,g.2.2.2.1],.agg #[Bv x29.2.2.1,g.2.2.2.2],Iv 0]) C C C X H (Z.move C),λk s g w _ _ _ X a H=>Q.val (v:=.agg #[Bv x29.1,g.2.2.2.1]) C C C X H (Z.extract C C),λk s g w _ _ _ X a H=>Q.val (v:=.agg #[Bv x29.2.2.1,g.2.2.2.2]) C C C X H (Z.extract C C),λk s g w _ _ _ X a H=>Q.val (v:=Iv 0) C C C X H (Z.extract C C),λk s g w _ _ _ X a H=>Q.val (v:=Iv 0) C C C X H (Z.assign C),trivial⟩
   ·intro k s g w h1_ h2_ hsp X a H; obtain ⟨b32,b33,s28,s30,s31⟩:=g
    rcases k with _ | _ | k
    ·exact Q.val (v:=.agg #[Bv x22.1,s23]) C C C X H (lN (cs':=#[Bv x22.1,s23]) A_56 C (X.p 3 C) C C)
    ·exact Q.val (v:=.agg #[Bv x22.1,s23]) C C C X H (lN (cs':=#[Bv x22.1,s23]) A_56 C (X.p 4 C) C C)
    ·simp at h2_
  ·clear H J X; refine ⟨?_,?_,?_,?_,trivial⟩
   ·intro s g w hsp X a H; obtain ⟨b32,b33,s28,s30,s31⟩:=g; refine oc H C zdU (za8 F 1296000000000 _ x27 hx27) ?_; rintro s28 w Y a H; replace X:=X.cl Y; exact nE 50 H (b32,b33,s28,s30,s31) C C (jl 12 (by kernel_rfl) λ_=>C) X
   ·intro s g w hsp X a H; obtain ⟨b32,b33,s28,s30,s31⟩:=g; refine oc H C zgm (zbU F x22.1 s23 x22.2.1 x27.1 s28 x27.2 _ (X.s 3 C) (X.s 0 C) x29 hx29) ?_; rintro ⟨s30,s31⟩ w Y a H; replace X:=X.cl Y; exact nE 51 H (b32,b33,s28,s30,s31) C C (jl 12 (by kernel_rfl) λ_=>C) X
   ·intro s g w hsp X a H; obtain ⟨b32,b33,s28,s30,s31⟩:=g; have h7_:s 7=true:=hsp 7 (by simp); have h8_:s 8=true:=hsp 8 (by simp); have X:St w0 w noX [] [sE92 s30 x29.2.1,sE92 s31 x29.2.2.2,sE92 s28 x27.2,condA (s 8) (pt b33 (Cs #[Bv false,.slice none 0 0] 56)),condA (s 7) (pt b32 (Cs #[Bv false,.slice none 0 0] 56)),sE92 s23 x22.2.1,pW56 b25 x22.1 s23]:=X; clear X; rw [h7_,h8_] at X; replace X:St w0 w noX [] [sE92 s30 x29.2.1,sE92 s31 x29.2.2.2,sE92 s28 x27.2,pt b33 (Cs #[Bv false,.slice none 0 0] 56),pt b32 (Cs #[Bv false,.slice none 0 0] 56),sE92 s23 x22.2.1,pW56 b25 x22.1 s23]:=X; refine ost 4 #[Bv x29.1,s30] H X C C C zaa C (occ C (occ (rdo (X.s 0 C)) C)) C (bl C) C ?_; intro w X; exact O.nil ⟨C,(b32,b33,s28,s30,s31),H.to trivial,(λd hd=>by cases (show none=some d from hd)),(λ_ _ _=>C),X⟩
   ·intro s g w hsp X a H; obtain ⟨b32,b33,s28,s30,s31⟩:=g; have h7_:s 7=true:=hsp 7 (by simp); have h8_:s 8=true:=hsp 8 (by simp); refine ost 3 #[Bv x29.2.2.1,s31] H X C C C zaa C (occ C (occ (rdo (X.s 1 C)) C)) C (bl C) C ?_; intro w X; exact O.nil ⟨C,(b32,b33,s28,s30,s31),H.to trivial,(λd hd=>by cases (show none=some d from hd)),(λ_ _ _=>C),X⟩
  ·clear H J X; refine ⟨?_,?_,trivial⟩
   ·intro k s g w h1_ h2_ hs0 X a H; obtain ⟨b32,b33,s28,s30,s31⟩:=g
    rcases k with _ | _ | _ | k
    ·refine oaC (j:=1) (cs:=#[Bv false,.slice none 0 0]) H X C hs0 C C zab C ?_; clear H X a; intro b32 w a X H; exact nE 12 H (b32,b33,s28,s30,s31) C C (jl 12 (by kernel_rfl) λ_=>C) X
    ·refine oaC (j:=2) (cs:=#[Bv false,.slice none 0 0]) H X C hs0 C C zab C ?_; clear H X a; intro b32 w a X H; exact nE 12 H (b32,b33,s28,s30,s31) C C (jl 12 (by kernel_rfl) λ_=>C) X
    ·refine oaC (j:=4) (cs:=#[Bv false,.slice none 0 0]) H X C hs0 C C zab C ?_; clear H X a; intro b32 w a X H; exact nE 12 H (b32,b33,s28,s30,s31) C C (jl 12 (by kernel_rfl) λ_=>C) X
    ·simp at h2_
   ·intro k s g w h1_ h2_ hs0 X a H; obtain ⟨b32,b33,s28,s30,s31⟩:=g
    rcases k with _ | _ | _ | k
    ·refine oaC (j:=0) (cs:=#[Bv false,.slice none 0 0]) H X C hs0 C C zab C ?_; clear H X a; intro b33 w a X H; exact nE 13 H (b32,b33,s28,s30,s31) C C (jl 12 (by kernel_rfl) λ_=>C) X
    ·refine oaC (j:=1) (cs:=#[Bv false,.slice none 0 0]) H X C hs0 C C zab C ?_; clear H X a; intro b33 w a X H; exact nE 13 H (b32,b33,s28,s30,s31) C C (jl 12 (by kernel_rfl) λ_=>C) X
    ·refine oaC (j:=3) (cs:=#[Bv false,.slice none 0 0]) H X C hs0 C C zab C ?_; clear H X a; intro b33 w a X H; exact nE 13 H (b32,b33,s28,s30,s31) C C (jl 12 (by kernel_rfl) λ_=>C) X
    ·simp at h2_
  clear H J X; intro s g a w hs H X; obtain ⟨b32,b33,s28,s30,s31⟩:=g; have h7_:s 7=true:=hs 7 (by simp); have h8_:s 8=true:=hs 8 (by simp); refine ksq ?_; replace X:=X.sl [0,1,0,1]; refine sg (l:=[0,1,2,3,4,5,6]) C<|ov H C (lN (cs':=#[Bv x29.2.2.1,s31]) A_56 C (X.p 1 C) C C) λa H=>?_; obtain ⟨x34,hx34,M⟩:=hm_b M; refine oc H C zij (zf5 F x29.2.2.1 s31 x29.2.2.2 _ (X.s 0 C) x34 hx34) ?_; rintro _ w Y a H; replace X:=X.cl Y; refine mv H C λa H=>ex H C C C λa H=>ex H C C C λa H=>mv2 H C C λa H=>nk<|?_; replace X:=X.s0; refine sg (l:=[0,1,2]) C<|mv2 H C C λa H=>mv H C λa H=>nk<|W.ret<|?_; obtain rfl:=oj M; refine post2 H C (rkt C) (rkt C) ?_; exact ⟨(),C,X.noB⟩
def zdY (F:Nat) (x3:Int) (x9:Bool):Option (Int × Bool) :=
  if (x9)=true then (none) else (if x3=(9:Int) then (none) else (none))
def zdZ (F:Nat) (x3:Int) (x6:Bool):Option (Int × Bool) :=
  if (x6)=true then (none) else (if x3=(3:Int) then (some (1099511627776,true)) else (if x3=(7:Int) then (zdY F x3 (decide (x3=(7:Int)))) else (zdY F x3 (decide (x3=(11:Int))))))
def zd0 (F:Nat) (x3:Int) (x4:Bool):Option (Int × Bool) :=
  if (x4)=true then (some (0,true)) else (if x3=(1:Int) then (zdZ F x3 (decide (x3=(1:Int)))) else (zdZ F x3 (decide (x3=(5:Int)))))
def zgx (F:Nat) (x1:Int):Option (Int × Bool) :=
  if (Int.tmod x1 108000000000)≠(0:Int) then (some (0,false)) else ((some (Int.tmod (i64.wrap ((Int.tmod (i64.wrap (Int.tdiv x1 108000000000)) 12)+12)) 12)).bind λx3=>if x3=(0:Int) then (zd0 F x3 (decide (x3=(0:Int)))) else (zd0 F x3 (decide (x3=(6:Int)))))
theorem zia (F:Nat) (x1:Int) (w0:World) (r:Int × Bool) (M:zgx F x1=some r) :
    Ret Tryz.prog 92 #[Iv x1] w0 (G:=Unit) (λ_=>.tuple #[Iv r.1,Bv r.2]) (λ_ w=>St w0 w noX [] []):=by
 unfold zgx at M; refine roW Tryz.func92 C C C (λa H=>?_); have X:St w0 w0 noX [] []:=Sbw lnn; refine sg (l:=[0,1]) C<|mv2 H C C λa H=>nk<|W.seq<|sg (l:=[0,1,2]) C<|mv H C λa H=>ov (v:=Iv (Int.tmod x1 108000000000)) H C (Z.rem (q:=108000000000) C C (by decide)) λa H=>ov H C (Z.neq C C) λa H=>nk<|?_; refine W.ifdI H C (λhc2=>?_) (λhc2=>?_)
 ·replace M:=hm_p M hc2; refine sg (l:=[0,1]) C<|mv2 H C C λa H=>nk<|W.ret<|ktr<|?_; obtain rfl:=oj M; refine post2 H C (rkt C) (rkt C) ?_; exact ⟨(),C,X.noB⟩
 ·replace M:=hm_n M hc2; refine W.skip<|ksq<|sg (l:=[0,1,2,3,4,5]) C<|mv H C λa H=>ov (v:=Iv (i64.wrap (Int.tdiv x1 108000000000))) H C (Z.quo (q:=108000000000) C C (by decide)) λa H=>ov (v:=Iv (Int.tmod (i64.wrap (Int.tdiv x1 108000000000)) 12)) H C (Z.rem (q:=12) C C (by decide)) λa H=>ov H C (Z.add C C) λa H=>ov (v:=Iv (Int.tmod (i64.wrap ((Int.tmod (i64.wrap (Int.tdiv x1 108000000000)) 12)+12)) 12)) H C (Z.rem (q:=12) C C (by decide)) λa H=>mv H C λa H=>nk<|?_; obtain ⟨x3,hx3,M⟩:=hm_b M; rw [oj hx3] at H; refine sg (l:=[0]) C<|mv H C λa H=>nk<|W.seq<|sg (l:=[0]) C<|mv H C λa H=>nk<|W.block<|?_; refine W.seqR (λa w=>∃ (x4:Bool),Fr a 35 [] [(2,Iv 0),(3,Bv false),(5,Iv 549755813888),(14,Iv x3),(15,Bv x4)]∧St w0 w noX [] []∧zd0 F x3 x4=some r) ?_ ?_
  ·refine sg (l:=[0,1]) C<|ov H C (Z.eql C C) λa H=>mv H C λa H=>nk<|?_; refine W.ifdI H C (λhc14=>?_) (λhc14=>?_)
   ·replace M:=hm_p M hc14; refine W.skip ?_; exact kth ⟨decide (x3=(0:Int)),H.q C,X,M⟩
   ·replace M:=hm_n M hc14; refine wrL (l:=[0,1]) C<|ov H C (Z.eql C C) λa H=>mv H C λa H=>O.nil<|?_; exact kth ⟨decide (x3=(6:Int)),H.q C,X,M⟩
  ·clear H X M a; (try clear w); rintro a w ⟨x4,H,X,M⟩; unfold zd0 at M; refine W.if_ H C (λhc5=>?_) (λhc5=>?_)
   ·replace M:=hm_t M hc5; refine sg (l:=[0,1]) C<|mv2 H C C λa H=>nk<|W.ret<|kbr<|ktr<|?_; obtain rfl:=oj M; refine post2 H C (rkt C) (rkt C) ?_; exact ⟨(),C,X.noB⟩
   ·replace M:=hm_f M hc5; refine W.seqR (λa w=>∃ (x6:Bool),Fr a 35 [] [(2,Iv 0),(3,Bv false),(5,Iv 549755813888),(14,Iv x3),(18,Bv x6)]∧St w0 w noX [] []∧zdZ F x3 x6=some r) ?_ ?_
    ·refine sg (l:=[0,1]) C<|ov H C (Z.eql C C) λa H=>mv H C λa H=>nk<|?_; refine W.ifdI H C (λhc13=>?_) (λhc13=>?_)
     ·replace M:=hm_p M hc13; refine W.skip ?_; exact kth ⟨decide (x3=(1:Int)),H.q C,X,M⟩
     ·replace M:=hm_n M hc13; refine wrL (l:=[0,1]) C<|ov H C (Z.eql C C) λa H=>mv H C λa H=>O.nil<|?_; exact kth ⟨decide (x3=(5:Int)),H.q C,X,M⟩
    ·clear H X M a; (try clear w); rintro a w ⟨x6,H,X,M⟩; unfold zdZ at M; refine W.if_ H C (λhc7=>?_) (λhc7=>?_)
     ·nomatch hm_t M hc7
     ·replace M:=hm_f M hc7; refine sg (l:=[0,1]) C<|ov H C (Z.eql C C) λa H=>mv H C λa H=>nk<|?_; refine W.ifdI H C (λhc8=>?_) (λhc8=>?_)
      ·replace M:=hm_p M hc8; refine sg (l:=[0,1,2,3]) C<|mv H C λa H=>ov H C (Z.mul (p:=2) (q:=549755813888) C C) λa H=>mv2 H C C λa H=>nk<|W.ret<|kbr<|ktr<|?_; obtain rfl:=oj M; refine post2 H C (rkt C) (rkt C) ?_; exact ⟨(),C,X.noB⟩
      ·replace M:=hm_n M hc8; refine W.seqR (λa w=>∃ (x9:Bool),Fr a 35 [] [(2,Iv 0),(3,Bv false),(5,Iv 549755813888),(14,Iv x3),(26,Bv x9)]∧St w0 w noX [] []∧zdY F x3 x9=some r) ?_ ?_
       ·refine sg (l:=[0,1]) C<|ov H C (Z.eql C C) λa H=>mv H C λa H=>nk<|?_; refine W.ifdI H C (λhc12=>?_) (λhc12=>?_)
        ·replace M:=hm_p M hc12; refine W.skip ?_; exact kth ⟨decide (x3=(7:Int)),H.q C,X,M⟩
        ·replace M:=hm_n M hc12; refine wrL (l:=[0,1]) C<|ov H C (Z.eql C C) λa H=>mv H C λa H=>O.nil<|?_; exact kth ⟨decide (x3=(11:Int)),H.q C,X,M⟩
       ·clear H X M a; (try clear w); rintro a w ⟨x9,H,X,M⟩; unfold zdY at M; refine W.if_ H C (λhc10=>?_) (λhc10=>?_)
        ·nomatch hm_t M hc10
        ·replace M:=hm_f M hc10; refine sg (l:=[0,1]) C<|ov H C (Z.eql C C) λa H=>mv H C λa H=>nk<|?_; refine W.ifdI H C (λhc11=>?_) (λhc11=>?_)
         ·nomatch hm_p M hc11
         ·replace M:=hm_n M hc11; refine W.skip<|kbn<|ksq<|?_; nomatch M
def zaV (F:Nat) (x1:Int):Option (Bool × (List Int)) :=
  (zbe F x1).bind λx3=>some x3
theorem zaM (F:Nat) (x1:Int) (w0:World) (r:Bool × (List Int)) (M:zaV F x1=some r) :
    Ret Tryz.prog 123 #[Iv x1] w0 (G:=Value) (λg1=>.agg #[Bv r.1,g1]) (λg1 w=>St w0 w noX [] [sE92 g1 r.2]):=by
 unfold zaV at M; refine roW Tryz.func123 C C C (λa H=>?_); have X:St w0 w0 noX [] []:=Sbw lnn; refine sg (l:=[0]) C<|O.alloc (cs:=#[Bv false,.slice none 0 0]) H X C C zab C<|?_; intro b2 w a hb2 X H; refine nk<|sg (l:=[0,1,2]) C<|mv H C λa H=>?_; obtain ⟨x3,hx3,M⟩:=hm_b M; refine oc H C zdU (za8 F x1 _ x3 hx3) ?_; rintro s4 w Y a H; replace X:=X.cl Y; refine ost 1 #[Bv x3.1,s4] H X C C C zaa C (occ C (occ (rdo (X.s 0 C)) C)) C (bl C) C ?_; intro w X; refine nk<|W.ret<|?_; obtain rfl:=oj M; refine post1 H C (rkn (cs':=#[Bv x3.1,s4]) C zao zaa (X.p 1 C) (bl C) C) ?_; replace X:=X.sl [1]; exact ⟨s4,C,X.noB⟩
def zd1 (F:Nat) (x1:Bool) (x19:List Int):Option (Bool × (List Int)) :=
  (zaU F x1 x19).bind λx20=>some x20
def zgy (F:Nat) (x1:Bool) (x3:List Int) (x4:Int):Option (Bool × (List Int)) :=
  (zb1 F x1 x3).bind λx8=>if ((decide (x4<(-131072:Int)))||(decide (x4>(131072:Int))))=true then (none) else (if x4≥(0:Int) then ((zeQ F x3 x4).bind λx12=>(zaU F x1 x12).bind λx14=>some x14) else ((zfr F x3 (i64.wrap (0-x4))).bind λx16=>if (x1&&x16.2)=true then ((zfS F x16.1 ([1])).bind λx26=>zd1 F x1 x26) else (zd1 F x1 x16.1)))
theorem zib (F:Nat) (x1:Bool) (s2:Value) (x3:List Int) (x4:Int) (w0:World) (h_s2:rdEOK (hp w0) 1 E92 s2 x3) (r:Bool × (List Int)) (M:zgy F x1 x3 x4=some r) :
    Ret Tryz.prog 166 #[.agg #[Bv x1,s2],Iv x4] w0 (G:=Value) (λg1=>.tuple #[.agg #[Bv r.1,g1],Iv 0]) (λg1 w=>St w0 w noX [] [sE92 g1 r.2]):=by
 unfold zgy at M; refine roW Tryz.func166 C C C (λa H=>?_); have X:St w0 w0 noX [rE92 s2 x3] []:=Sbw (lnc (lendRd h_s2) lnn); refine sg (l:=[0,1,2]) C<|O.box (cs:=#[Bv x1,s2]) H X C C C C<|?_; intro b5 w a hb5 X H; refine O.alloc (cs:=#[Bv false,.slice none 0 0]) H X C C zab C ?_; intro b6 w a hb6 X H; refine mv H C λa H=>nk<|W.seq<|sg (l:=[0,1,2,3]) C<|ov H C (lN (cs':=#[Bv x1,s2]) A_56 C (X.p 1 C) C C) λa H=>O.buildSlice (cs':=#[Bv x1,s2]) (zs:=#[Bv false,.slice none 0 0]) H X C C za7 zaa zab C C C C C<|?_; intro b7 w a hb7 X H; obtain ⟨x8,hx8,M⟩:=hm_b M; refine oc H C zdV (zcZ F b7 x1 s2 x3 _ (X.b 0 C) (X.p 0 C) x8 hx8) ?_; rintro _ w Y a H; replace X:=X.cl Y; refine mv H C λa H=>nk<|?_; replace X:=X.sl [0,1,1]; refine sg (l:=[0,1]) C<|mv H C λa H=>ov H C (Z.neq (p:=0) (q:=0) C C) λa H=>nk<|W.if_ff H C<|W.skip<|ksq<|W.seq<|sg (l:=[0]) C<|mv H C λa H=>?_; refine nk<|W.block<|sg (l:=[0,1,2,3,4,5,6,7,8,9]) C<|mv2 H C C λa H=>ov (v:=Iv (-131072)) H C (Z.neg (m:=131072) C) λa H=>ov H C (Z.lss C C) λa H=>mv H C λa H=>?_; refine O.cutN (l₁:=[5,6,7,8]) (l₂:=_) (λa w=>Fr a 62 [] [(1,Iv x4),(2,Pv b5 0),(4,Pv b6 0),(5,Iv 0),(26,Bv ((decide (x4<(-131072:Int)))||(decide (x4>(131072:Int)))))]∧St w0 w noX [rE92 s2 x3] [pt b6 (Cs #[Bv false,.slice none 0 0] 56),pW56 b5 x1 s2]) C ?_ ?_
 ·rcases Bool.eq_false_or_eq_true (decide (x4<(-131072:Int))) with hb9 | hb9
  ·refine sk H C hb9 λa H=>sk H C hb9 λa H=>sk H C hb9 λa H=>?_; refine ov (v:=Bv ((decide (x4<(-131072:Int)))||(decide (x4>(131072:Int))))) H C (Z.pick C C C (by rw [hb9]; rfl)) ?_; clear H a; intro a H; exact O.nil ⟨C,H.q C,X⟩
  ·refine og H C hb9 (Z.move C) λa H=>og H C hb9 (Z.move C) λa H=>og H C hb9 (Z.gtr C C) λa H=>?_; refine ov (v:=Bv ((decide (x4<(-131072:Int)))||(decide (x4>(131072:Int))))) H C (Z.pick C C C (by rw [hb9]; rfl)) ?_; clear H a; intro a H; exact O.nil ⟨C,H.q C,X⟩
 clear H X a; (try clear w); rintro a w ⟨H,X⟩; refine mv H C λa H=>nk<|?_; refine W.if_ H C (λhc10=>?_) (λhc10=>?_)
 ·nomatch hm_t M hc10
 ·replace M:=hm_f M hc10; refine sg (l:=[0,1,2]) C<|mv H C λa H=>ov H C (Z.geq C C) λa H=>mv H C λa H=>nk<|?_; refine W.ifdI H C (λhc11=>?_) (λhc11=>?_)
  ·replace M:=hm_p M hc11; refine W.seq ?_; have J:Fr a 62 [] [(5,Iv 0)]:=H.q C; obtain ⟨x12,hx12,M⟩:=hm_b M; obtain ⟨x14,hx14,M⟩:=hm_b M; refine W.drawK (γ:=Value × Value) (L0:=[(1,Iv x4),(2,Pv b5 0),(4,Pv b6 0),(28,Bv (decide (x4≥(0:Int))))]) (L1:=[(5,Iv 0)]) (undef,undef) [5,6,9] [] [0,1,2,3,4,7,8,10] (λi=>match i with | 1=>[0] | 3=>[2] | 5=>[3,4] | 6=>[1,5] | 7=>[6] | 8=>[6] | 9=>[0,1,2,3,4,5,6,7,8] | 10=>[0,1,2,3,4,5,6,7,8,9] | _=>[]) (λ_=>[]) (λi=>match i with | 5=>[6,7,8,9,10] | 6=>[7,8,9,10] | 9=>[10] | _=>[]) (λ_=>[]) (λi=>match i with | 6=>1 | 7=>2 | 8=>2 | 9=>2 | 10=>3 | _=>0) (λi=>match i with | 0=>1 | 1=>1 | 5=>1 | 6=>2 | 7=>2 | 8=>2 | 9=>3 | 10=>3 | _=>0) (λ(g:Value × Value) j=>match j with | 0=>Pv b5 0 | 1=>Bv x1 | 2=>Pv b5 1 | 3=>s2 | 4=>Iv x4 | 5=>g.1 | 6=>.tuple #[.agg #[Bv x14.1,g.2],Iv 0] | 7=>.agg #[Bv x14.1,g.2] | 8=>Iv 0 | 10=>Iv 0 | _=>undef) (λk s (g:Value × Value) w=>match k with | 0=>St w0 w noX [rE92 s2 x3] [pt b6 (Cs #[Bv false,.slice none 0 0] 56),pW56 b5 x1 s2] | 1=>St w0 w noX [rE92 s2 x3] [sE92 g.1 x12,pt b6 (Cs #[Bv false,.slice none 0 0] 56),pW56 b5 x1 s2] | 2=>St w0 w noX [rE92 s2 x3] [sE92 g.2 x14.2,pt b6 (Cs #[Bv false,.slice none 0 0] 56),pW56 b5 x1 s2] | _=>St w0 w noX [rE92 s2 x3] [sE92 g.2 x14.2,pt b6 (Cs #[Bv x14.1,g.2] 56),pW56 b5 x1 s2]) P_mixed (by kernel_rfl) (H.q C) J X.drew ?_ ?_ ?_ ?_
   ·clear H J X; refine ⟨λk s g w _ _ _ X a H=>Q.val (v:=Pv b5 0) C C C X H (Z.field zap C C),?_,λk s g w _ _ _ X a H=>Q.val (v:=Pv b5 1) C C C X H (Z.field zaq C C),?_,λk s g w _ _ _ X a H=>Q.val (v:=Iv x4) C C C X H (Z.move C),λk s g w _ _ _ X a H=>Q.val (v:=.agg #[Bv x14.1,g.2]) C C C X H (Z.extract C C),λk s g w _ _ _ X a H=>Q.val (v:=Iv 0) C C C X H (Z.extract C C),λk s g w _ _ _ X a H=>Q.val (v:=Iv 0) C C C X H (Z.assign C),trivial⟩
    ·intro k s g w h1_ h2_ hsp X a H; obtain ⟨s13,s15⟩:=g
     rcases k with _ | _ | k
     ·exact Q.val (v:=Bv x1) C C C X H (Z.load1 zaC C (X.p 1 C) C)
     ·exact Q.val (v:=Bv x1) C C C X H (Z.load1 zaC C (X.p 2 C) C)
     ·simp at h2_
    ·intro k s g w h1_ h2_ hsp X a H; obtain ⟨s13,s15⟩:=g
     rcases k with _ | k
     ·exact Q.val (v:=s2) C C C X H (Z.load1 zar C (X.p 1 C) C)
     ·simp at h2_
   ·clear H J X; refine ⟨?_,?_,?_,trivial⟩
    ·intro s g w hsp X a H; obtain ⟨s13,s15⟩:=g; refine oc H C zim (zfL F s2 x3 x4 _ (X.b 0 C) x12 hx12) ?_; rintro s13 w Y a H; replace X:=X.cl Y; exact nE 36 H (s13,s15) C C (jl 11 (by kernel_rfl) λ_=>C) X
    ·intro s g w hsp X a H; obtain ⟨s13,s15⟩:=g; refine oc H C zcK (zaO F x1 s13 x12 _ (X.slS (j:=0) C) x14 hx14) ?_; rintro s15 w Y a H; replace X:=X.cz Y 0 λ_ h=>h; exact nE 37 H (s13,s15) C C (jl 11 (by kernel_rfl) λ_=>C) X
    ·intro s g w hsp X a H; obtain ⟨s13,s15⟩:=g; refine ost 1 #[Bv x14.1,s15] H X C C C zaa C (occ C (occ (rdo (X.s 0 C)) C)) C (bl C) C ?_; intro w X; exact O.nil ⟨C,(s13,s15),H.to trivial,(λd hd=>by cases (show none=some d from hd)),(λ_ _ _=>C),X⟩
   ·clear H J X; exact trivial
   clear H J X; intro s g a w hs H X; obtain ⟨s13,s15⟩:=g; refine ksq<|W.ret<|kbr<|ktr<|?_; obtain rfl:=oj M; refine post2 H C (rkn (cs':=#[Bv x14.1,s15]) C zao zaa (X.p 1 C) (bl C) C) (rkt C) ?_; replace X:=X.sl [1]; exact ⟨s15,C,X.noB⟩
  ·replace M:=hm_n M hc11; refine W.skip<|kbn<|ksq<|sg (l:=[0,1,2,3,4,5,6,7,8,9]) C<|ov H C (Z.field zaq C C) λa H=>ov (v:=s2) H C (Z.load1 zar C (X.p 1 C) C) λa H=>mv H C λa H=>ov (v:=Iv (i64.wrap (0-x4))) H C (Z.neg C) λa H=>?_; obtain ⟨x16,hx16,M⟩:=hm_b M; refine oc H C zi6 (zgM F s2 x3 (i64.wrap (0-x4)) _ (X.b 0 C) x16 hx16) ?_; rintro s17 w Y a H; replace X:=X.cl Y; refine mv H C λa H=>ex H C C C λa H=>ex H C C C λa H=>mv2 H C C λa H=>nk<|?_; refine W.seqR (λa w=>∃ (s18:Value) (x19:List Int),Fr a 62 [] [(2,Pv b5 0),(4,Pv b6 0),(5,Iv 0),(8,s18)]∧St w0 w noX [rE92 s2 x3] [pW56 b5 x1 s2,pt b6 (Cs #[Bv false,.slice none 0 0] 56),sE92 s18 x19]∧zd1 F x1 x19=some r) ?_ ?_
   ·refine sg (l:=[0,1,2,3,4]) C<|ov H C (Z.field zap C C) λa H=>ov H C (Z.load1 zaC C (X.p 2 C) C) λa H=>mv H C λa H=>?_; refine O.cutN (l₁:=[3,4]) (l₂:=_) (λa w=>Fr a 62 [] [(2,Pv b5 0),(4,Pv b6 0),(5,Iv 0),(8,s17),(52,Bv (x1&&x16.2))]∧St w0 w noX [rE92 s2 x3] [sE92 s17 x16.1,pt b6 (Cs #[Bv false,.slice none 0 0] 56),pW56 b5 x1 s2]) C ?_ ?_
    ·rcases Bool.eq_false_or_eq_true (x1) with hb22 | hb22
     ·refine og H C hb22 (Z.move C) λa H=>?_; refine ov (v:=Bv (x1&&x16.2)) H C (Z.pick C C C (by rw [hb22]; rfl)) ?_; clear H a; intro a H; exact O.nil ⟨C,H.q C,X⟩
     ·refine sk H C hb22 λa H=>?_; refine ov (v:=Bv (x1&&x16.2)) H C (Z.pick C C C (by rw [hb22]; rfl)) ?_; clear H a; intro a H; exact O.nil ⟨C,H.q C,X⟩
    clear H X a; (try clear w); rintro a w ⟨H,X⟩; refine nk ?_; refine W.if_ H C (λhc23=>?_) (λhc23=>?_)
    ·replace M:=hm_t M hc23; refine wrL (l:=[0,1,2,3]) C<|mv H C λa H=>O.buildSlice (cs':=#[.int .u32 1]) (zs:=#[.int .u32 0]) H X C C zad zag za9 C C C C C<|?_; intro b24 w a hb24 X H; replace X:=X.ptE (j:=0) (enc:=E92) (xs:=[1]) (N:=1) (M':=[sE92 (.slice (some ⟨b24,0,none⟩) 1 1) ([1]),sE92 s17 x16.1,pt b6 (Cs #[Bv false,.slice none 0 0] 56),pW56 b5 x1 s2]) C C C C C C; obtain ⟨s25,hs25⟩:∃ v,v=(.slice (some ⟨b24,0,none⟩) 1 1:Value):=⟨_,C⟩; rw [← hs25] at H X; replace X:St w0 _ noX [rE92 s2 x3] [sE92 s25 ([1]),sE92 s17 x16.1,pt b6 (Cs #[Bv false,.slice none 0 0] 56),pW56 b5 x1 s2]:=X; obtain ⟨x26,hx26,M⟩:=hm_b M; refine oc H C zi0 (zgV F s17 x16.1 s25 ([1]) _ (X.s 1 C) (X.s 0 C) x26 hx26) ?_; rintro s27 w Y a H; replace X:=X.cl Y; refine mv H C λa H=>O.nil<|?_; replace X:=X.fr 3; replace X:=X.fr 4; replace X:=X.sl [1,1,1]; exact kth ⟨s27,x26,H.q C,X,M⟩
    ·replace M:=hm_f M hc23; refine W.skip ?_; replace X:=X.fr 1; replace X:=X.fr 2; exact kth ⟨s17,x16.1,H.q C,X,M⟩
   ·clear H X M a; (try clear w); rintro a w ⟨s18,x19,H,X,M⟩; unfold zd1 at M; refine sg (l:=[0,1,2,3,4,5,6,7]) C<|ov H C (Z.field zap C C) λa H=>ov H C (Z.load1 zaC C (X.p 0 C) C) λa H=>mv H C λa H=>?_; obtain ⟨x20,hx20,M⟩:=hm_b M; refine oc H C zcK (zaO F x1 s18 x19 _ (X.slS (j:=2) C) x20 hx20) ?_; rintro s21 w Y a H; replace X:=X.cz Y 2 λ_ h=>h; refine ex H C C C λa H=>ex H C C C λa H=>ost 2 #[Bv x20.1,s21] H X C C C zaa C (occ C (occ (rdo (X.s 0 C)) C)) C (bl C) C<|?_; intro w X; refine mv H C λa H=>nk<|?_; replace X:=X.sl [1,0,1]; refine W.ret ?_; obtain rfl:=oj M; refine post2 H C (rkn (cs':=#[Bv x20.1,s21]) C zao zaa (X.p 1 C) (bl C) C) (rkt C) ?_; replace X:=X.sl [1]; exact ⟨s21,C,X.noB⟩
def za4 (F:Nat) (x1:Bool) (x3:List Int) (x4:Int):Option (Bool × (List Int)) :=
  (zgy F x1 x3 x4).bind λx7=>some x7
theorem zaY (F:Nat) (x1:Bool) (s2:Value) (x3:List Int) (x4:Int) (w0:World) (h_s2:rdEOK (hp w0) 1 E92 s2 x3) (r:Bool × (List Int)) (M:za4 F x1 x3 x4=some r) :
    Ret Tryz.prog 146 #[.agg #[Bv x1,s2],Iv x4] w0 (G:=Value) (λg1=>.agg #[Bv r.1,g1]) (λg1 w=>St w0 w noX [] [sE92 g1 r.2]):=by
 unfold za4 at M; refine roW Tryz.func146 C C C (λa H=>?_); have X:St w0 w0 noX [rE92 s2 x3] []:=Sbw (lnc (lendRd h_s2) lnn); refine sg (l:=[0,1]) C<|O.box (cs:=#[Bv x1,s2]) H X C C C C<|?_; intro b5 w a hb5 X H; refine O.alloc (cs:=#[Bv false,.slice none 0 0]) H X C C zab C ?_; intro b6 w a hb6 X H; refine nk<|sg (l:=[0,1,2,3,4,5,6,7,8]) C<|ov H C (lN (cs':=#[Bv x1,s2]) A_56 C (X.p 1 C) C C) λa H=>mv H C λa H=>?_; obtain ⟨x7,hx7,M⟩:=hm_b M; refine oc H C zjF (zib F x1 s2 x3 x4 _ (X.b 0 C) x7 hx7) ?_; rintro s8 w Y a H; replace X:=X.cl Y; refine mv H C λa H=>ex H C C C λa H=>ex H C C C λa H=>O.alloc (cs:=#[Bv false,.slice none 0 0]) H X C C zab C<|?_; intro b9 w a hb9 X H; refine ost 0 #[Bv x7.1,s8] H X C C C zaa C (occ C (occ (rdo (X.s 1 C)) C)) C (bl C) C ?_; intro w X; refine mv H C λa H=>nk<|?_; replace X:=X.sl [1,1,1]; refine sg (l:=[0,1]) C<|ov H C (lN (cs':=#[Bv x7.1,s8]) A_56 C (X.p 0 C) C C) λa H=>ost 2 #[Bv x7.1,s8] H X C C C zaa C (occ C (occ (rdo (X.s 1 C)) C)) C (bl C) C<|?_; intro w X; refine nk ?_; replace X:=X.sl [0,1,1]; refine W.ret ?_; obtain rfl:=oj M; refine post1 H C (rkn (cs':=#[Bv x7.1,s8]) C zao zaa (X.p 1 C) (bl C) C) ?_; replace X:=X.sl [1]; exact ⟨s8,C,X.noB⟩
def zbX (F:Nat) (x1:Bool) (x3:List Int) (x4:Bool) (x6:List Int):Option (Bool × (List Int)) :=
  (zbO F x1 x3 x4 x6).bind λx10=>some (x10.1,x10.2.1)
theorem zbP (F:Nat) (x1:Bool) (s2:Value) (x3:List Int) (x4:Bool) (s5:Value) (x6:List Int) (w0:World) (h_s2:rdEOK (hp w0) 1 E92 s2 x3) (h_s5:rdEOK (hp w0) 1 E92 s5 x6) (r:Bool × (List Int)) (M:zbX F x1 x3 x4 x6=some r) :
    Ret Tryz.prog 121 #[.agg #[Bv x1,s2],.agg #[Bv x4,s5]] w0 (G:=Value) (λg1=>.agg #[Bv r.1,g1]) (λg1 w=>St w0 w noX [] [sE92 g1 r.2]):=by
 unfold zbX at M; refine roW Tryz.func121 C C C (λa H=>?_); have X:St w0 w0 noX [rE92 s2 x3,rE92 s5 x6] []:=Sbw (lnc (lendRd h_s2) (lnc (lendRd h_s5) lnn)); refine sg (l:=[0,1,2]) C<|O.box (cs:=#[Bv x1,s2]) H X C C C C<|?_; intro b7 w a hb7 X H; refine O.box (cs:=#[Bv x4,s5]) H X C C C C ?_; intro b8 w a hb8 X H; refine O.alloc (cs:=#[Bv false,.slice none 0 0]) H X C C zab C ?_; intro b9 w a hb9 X H; refine nk<|sg (l:=[0,1,2,3,4,5,6,7,8,9,10,11]) C<|ov H C (lN (cs':=#[Bv x1,s2]) A_56 C (X.p 2 C) C C) λa H=>ov H C (lN (cs':=#[Bv x4,s5]) A_56 C (X.p 1 C) C C) λa H=>?_; obtain ⟨x10,hx10,M⟩:=hm_b M; refine oc H C zgm (zbU F x1 s2 x3 x4 s5 x6 _ (X.b 0 C) (X.b 1 C) x10 hx10) ?_; rintro ⟨s11,s12⟩ w Y a H; replace X:=X.cl Y; refine mv H C λa H=>ex H C C C λa H=>ex H C C C λa H=>ex H C C C λa H=>O.alloc (cs:=#[Bv false,.slice none 0 0]) H X C C zab C<|?_; intro b13 w a hb13 X H; refine O.alloc (cs:=#[Bv false,.slice none 0 0]) H X C C zab C ?_; intro b14 w a hb14 X H; refine ost 1 #[Bv x10.1,s11] H X C C C zaa C (occ C (occ (rdo (X.s 2 C)) C)) C (bl C) C ?_; intro w X; refine ost 0 #[Bv x10.2.2.1,s12] H X C C C zaa C (occ C (occ (rdo (X.s 3 C)) C)) C (bl C) C ?_; intro w X; refine mv H C λa H=>nk<|?_; replace X:=X.sl [0,1,1,0,1]; refine sg (l:=[0,1]) C<|ov H C (lN (cs':=#[Bv x10.1,s11]) A_56 C (X.p 0 C) C C) λa H=>ost 2 #[Bv x10.1,s11] H X C C C zaa C (occ C (occ (rdo (X.s 1 C)) C)) C (bl C) C<|?_; intro w X; refine nk ?_; replace X:=X.sl [0,1,1]; refine W.ret ?_; obtain rfl:=oj M; refine post1 H C (rkn (cs':=#[Bv x10.1,s11]) C zao zaa (X.p 1 C) (bl C) C) ?_; replace X:=X.sl [1]; exact ⟨s11,C,X.noB⟩
def ze2 (F:Nat) (x1:Bool) (x3:List Int) (x4:Bool) (x6:List Int):Option Int :=
  if (x1&&(!x4))=true then (none) else (if ((!x1)&&x4)=true then (none) else (if (x1)=true then ((zcs F x6 x3).bind λx14=>some x14) else ((zcs F x3 x6).bind λx15=>some x15)))
theorem zhr (F:Nat) (x1:Bool) (s2:Value) (x3:List Int) (x4:Bool) (s5:Value) (x6:List Int) (w0:World) (h_s2:rdEOK (hp w0) 1 E92 s2 x3) (h_s5:rdEOK (hp w0) 1 E92 s5 x6) (r:Int) (M:ze2 F x1 x3 x4 x6=some r) :
    Ret Tryz.prog 167 #[.agg #[Bv x1,s2],.agg #[Bv x4,s5]] w0 (G:=Unit) (λ_=>Iv r) (λ_ w=>St w0 w noX [] []):=by
 unfold ze2 at M; refine roW Tryz.func167 C C C (λa H=>?_); have X:St w0 w0 noX [rE92 s2 x3,rE92 s5 x6] []:=Sbw (lnc (lendRd h_s2) (lnc (lendRd h_s5) lnn)); refine sg (l:=[0,1,2]) C<|O.box (cs:=#[Bv x1,s2]) H X C C C C<|?_; intro b7 w a hb7 X H; refine O.box (cs:=#[Bv x4,s5]) H X C C C C ?_; intro b8 w a hb8 X H; refine mv H C λa H=>nk<|W.seq<|W.block<|sg (l:=[0,1,2,3,4,5,6,7]) C<|ov H C (Z.field zf1 C C) λa H=>ov H C (Z.load1 zaC C (X.p 1 C) C) λa H=>mv H C λa H=>?_; refine O.cutN (l₁:=[3,4,5,6]) (l₂:=_) (λa w=>Fr a 34 [] [(2,Pv b7 0),(3,Pv b8 0),(4,Iv 0),(12,Bv (x1&&(!x4)))]∧St w0 w noX [rE92 s2 x3,rE92 s5 x6] [pW56 b8 x4 s5,pt b7 (Cs #[Bv x1,s2] 220)]) C ?_ ?_
 ·rcases Bool.eq_false_or_eq_true (x1) with hb9 | hb9
  ·refine og H C hb9 (Z.field zap C C) λa H=>og H C hb9 (Z.load1 zaC C (X.p 0 C) C) λa H=>og H C hb9 (Z.not C) λa H=>?_; refine ov (v:=Bv (x1&&(!x4))) H C (Z.pick C C C (by rw [hb9]; rfl)) ?_; clear H a; intro a H; exact O.nil ⟨C,H.q C,X⟩
  ·refine sk H C hb9 λa H=>sk H C hb9 λa H=>sk H C hb9 λa H=>?_; refine ov (v:=Bv (x1&&(!x4))) H C (Z.pick C C C (by rw [hb9]; rfl)) ?_; clear H a; intro a H; exact O.nil ⟨C,H.q C,X⟩
 clear H X a; (try clear w); rintro a w ⟨H,X⟩; refine mv H C λa H=>nk<|?_; refine W.if_ H C (λhc10=>?_) (λhc10=>?_)
 ·nomatch hm_t M hc10
 ·replace M:=hm_f M hc10; refine sg (l:=[0,1,2,3,4,5,6,7]) C<|ov H C (Z.field zf1 C C) λa H=>ov H C (Z.load1 zaC C (X.p 1 C) C) λa H=>ov H C (Z.not C) λa H=>mv H C λa H=>?_; refine O.cutN (l₁:=[4,5,6]) (l₂:=_) (λa w=>Fr a 34 [] [(2,Pv b7 0),(3,Pv b8 0),(4,Iv 0),(20,Bv ((!x1)&&x4))]∧St w0 w noX [rE92 s2 x3,rE92 s5 x6] [pW56 b8 x4 s5,pt b7 (Cs #[Bv x1,s2] 220)]) C ?_ ?_
  ·rcases Bool.eq_false_or_eq_true (!x1) with hb11 | hb11
   ·refine og H C hb11 (Z.field zap C C) λa H=>og H C hb11 (Z.load1 zaC C (X.p 0 C) C) λa H=>?_; refine ov (v:=Bv ((!x1)&&x4)) H C (Z.pick C C C (by rw [hb11]; rfl)) ?_; clear H a; intro a H; exact O.nil ⟨C,H.q C,X⟩
   ·refine sk H C hb11 λa H=>sk H C hb11 λa H=>?_; refine ov (v:=Bv ((!x1)&&x4)) H C (Z.pick C C C (by rw [hb11]; rfl)) ?_; clear H a; intro a H; exact O.nil ⟨C,H.q C,X⟩
  clear H X a; (try clear w); rintro a w ⟨H,X⟩; refine mv H C λa H=>nk<|?_; refine W.if_ H C (λhc12=>?_) (λhc12=>?_)
  ·nomatch hm_t M hc12
  ·replace M:=hm_f M hc12; refine sg (l:=[0,1,2]) C<|ov H C (Z.field zf1 C C) λa H=>ov H C (Z.load1 zaC C (X.p 1 C) C) λa H=>mv H C λa H=>nk<|?_; refine W.if_ H C (λhc13=>?_) (λhc13=>?_)
   ·replace M:=hm_t M hc13; refine sg (l:=[0,1,2,3,4,5]) C<|ov H C (Z.field zaq C C) λa H=>ov (v:=s5) H C (Z.load1 zar C (X.p 0 C) C) λa H=>ov H C (Z.field zhm C C) λa H=>ov (v:=s2) H C (Z.load1 zar C (X.p 1 C) C) λa H=>?_; obtain ⟨x14,hx14,M⟩:=hm_b M; refine oc H C zhH (zc7 F s5 x6 s2 x3 _ (X.b 1 C) (X.b 0 C) x14 hx14) ?_; rintro _ w Y a H; replace X:=X.cl Y; refine mv H C λa H=>nk<|W.ret<|kbr<|ktr<|?_; obtain rfl:=oj M; refine post1 H C (rkt C) ?_; replace X:=X.s0; exact ⟨(),C,X.noB⟩
   ·replace M:=hm_f M hc13; refine W.skip<|kbn<|ksq<|sg (l:=[0,1,2,3,4,5]) C<|ov H C (Z.field zhm C C) λa H=>ov (v:=s2) H C (Z.load1 zar C (X.p 1 C) C) λa H=>ov H C (Z.field zaq C C) λa H=>ov (v:=s5) H C (Z.load1 zar C (X.p 0 C) C) λa H=>?_; obtain ⟨x15,hx15,M⟩:=hm_b M; refine oc H C zhH (zc7 F s2 x3 s5 x6 _ (X.b 0 C) (X.b 1 C) x15 hx15) ?_; rintro _ w Y a H; replace X:=X.cl Y; refine mv H C λa H=>nk<|?_; replace X:=X.s0; refine W.ret ?_; obtain rfl:=oj M; refine post1 H C (rkt C) ?_; exact ⟨(),C,X.noB⟩
def zdw (F:Nat) (x1:Bool) (x3:List Int) (x4:Bool) (x6:List Int):Option Int :=
  (zbj F x1 x3 x4 x6).bind λx10=>(ze2 F x1 x3 x4 x6).bind λx11=>some x11
theorem zdN (F:Nat) (x1:Bool) (s2:Value) (x3:List Int) (x4:Bool) (s5:Value) (x6:List Int) (w0:World) (h_s2:rdEOK (hp w0) 1 E92 s2 x3) (h_s5:rdEOK (hp w0) 1 E92 s5 x6) (r:Int) (M:zdw F x1 x3 x4 x6=some r) :
    Ret Tryz.prog 147 #[.agg #[Bv x1,s2],.agg #[Bv x4,s5]] w0 (G:=Unit) (λ_=>.tuple #[Iv r,Iv 0]) (λ_ w=>St w0 w noX [] []):=by
 unfold zdw at M; refine roW Tryz.func147 C C C (λa H=>?_); have X:St w0 w0 noX [rE92 s2 x3,rE92 s5 x6] []:=Sbw (lnc (lendRd h_s2) (lnc (lendRd h_s5) lnn)); refine sg (l:=[0,1,2,3]) C<|O.box (cs:=#[Bv x1,s2]) H X C C C C<|?_; intro b7 w a hb7 X H; refine O.box (cs:=#[Bv x4,s5]) H X C C C C ?_; intro b8 w a hb8 X H; refine mv2 H C C λa H=>nk<|W.seq<|sg (l:=[0,1,2,3,4]) C<|ov H C (lN (cs':=#[Bv x1,s2]) A_56 C (X.p 1 C) C C) λa H=>ov H C (lN (cs':=#[Bv x4,s5]) A_56 C (X.p 0 C) C C) λa H=>O.buildSlice (cs':=#[Bv x1,s2,Bv x4,s5]) (zs:=#[Bv false,.slice none 0 0,Bv false,.slice none 0 0]) H X C C za7 zaa zab C C C C C<|?_; intro b9 w a hb9 X H; obtain ⟨x10,hx10,M⟩:=hm_b M; refine oc H C zdV (zbt F b9 x1 s2 x3 x4 s5 x6 _ (X.b 0 C) (X.b 1 C) (X.p 0 C) x10 hx10) ?_; rintro _ w Y a H; replace X:=X.cl Y; refine mv H C λa H=>nk<|?_; replace X:=X.sl [0,1,1]; refine sg (l:=[0,1]) C<|mv H C λa H=>ov H C (Z.neq (p:=0) (q:=0) C C) λa H=>nk<|W.if_ff H C<|W.skip<|ksq<|sg (l:=[0,1,2]) C<|ov H C (lN (cs':=#[Bv x1,s2]) A_56 C (X.p 1 C) C C) λa H=>ov (v:=.func (.func 167) #[.agg #[Bv x1,s2]] #[]) H C (Z.makeFunc C C C C) λa H=>?_; refine mv H C λa H=>nk<|?_; replace X:=X.sl [1]; refine sg (l:=[0,1,2,3,4]) C<|mv H C λa H=>ov H C (lN (cs':=#[Bv x4,s5]) A_56 C (X.p 0 C) C C) λa H=>?_; obtain ⟨x11,hx11,M⟩:=hm_b M; refine oc H C zjG (zhr F x1 s2 x3 x4 s5 x6 _ (X.b 0 C) (X.b 1 C) x11 hx11) ?_; rintro _ w Y a H; replace X:=X.cl Y; refine mv2 H C C λa H=>nk<|?_; replace X:=X.s0; refine W.ret ?_; obtain rfl:=oj M; refine post2 H C (rkt C) (rkt C) ?_; exact ⟨(),C,X.noB⟩
def zgP (F:Nat) (x1:Bool) (x3:List Int):Option Int :=
  (zdw F x1 x3 false ([]:List Int)).bind λx5=>some x5
theorem ziq (F:Nat) (x1:Bool) (s2:Value) (x3:List Int) (w0:World) (h_s2:rdEOK (hp w0) 1 E92 s2 x3) (r:Int) (M:zgP F x1 x3=some r) :
    Ret Tryz.prog 168 #[.agg #[Bv x1,s2]] w0 (G:=Unit) (λ_=>.tuple #[Iv r,Iv 0]) (λ_ w=>St w0 w noX [] []):=by
 unfold zgP at M; refine roW Tryz.func168 C C C (λa H=>?_); have X:St w0 w0 noX [rE92 s2 x3] []:=Sbw (lnc (lendRd h_s2) lnn); refine sg (l:=[0,1,2]) C<|O.box (cs:=#[Bv x1,s2]) H X C C C C<|?_; intro b4 w a hb4 X H; refine mv2 H C C λa H=>nk<|sg (l:=[0,1,2,3,4,5,6]) C<|ov H C (lN (cs':=#[Bv x1,s2]) A_56 C (X.p 0 C) C C) λa H=>ov (v:=.agg #[Bv false,.slice none 0 0]) H C (Z.buildS (cs':=#[Bv false,.slice none 0 0]) zhM zab C (by kernel_rfl)) λa H=>?_; obtain ⟨x5,hx5,M⟩:=hm_b M; refine oc H C zgq (zdN F x1 s2 x3 false (.slice none 0 0) ([]:List Int) _ (X.b 0 C) rdEOK_nil x5 hx5) ?_; rintro _ w Y a H; replace X:=X.cl Y; refine ex H C C C λa H=>ex H C C C λa H=>mv2 H C C λa H=>nk<|?_; replace X:=X.s0; refine W.ret ?_; obtain rfl:=oj M; refine post2 H C (rkt C) (rkt C) ?_; exact ⟨(),C,X.noB⟩
def zc6 (F:Nat) (x1:Bool) (x3:List Int):Option Int :=
  (zgP F x1 x3).bind λx5=>some x5
theorem zdf (F:Nat) (x1:Bool) (s2:Value) (x3:List Int) (w0:World) (h_s2:rdEOK (hp w0) 1 E92 s2 x3) (r:Int) (M:zc6 F x1 x3=some r) :
    Ret Tryz.prog 148 #[.agg #[Bv x1,s2]] w0 (G:=Unit) (λ_=>Iv r) (λ_ w=>St w0 w noX [] []):=by
 unfold zc6 at M; refine roW Tryz.func148 C C C (λa H=>?_); have X:St w0 w0 noX [rE92 s2 x3] []:=Sbw (lnc (lendRd h_s2) lnn); refine sg (l:=[0,1]) C<|O.box (cs:=#[Bv x1,s2]) H X C C C C<|?_; intro b4 w a hb4 X H; refine mv H C λa H=>nk<|sg (l:=[0,1,2,3,4,5,6]) C<|ov H C (lN (cs':=#[Bv x1,s2]) A_56 C (X.p 0 C) C C) λa H=>?_; obtain ⟨x5,hx5,M⟩:=hm_b M; refine oc H C zjH (ziq F x1 s2 x3 _ (X.b 0 C) x5 hx5) ?_; rintro _ w Y a H; replace X:=X.cl Y; refine mv H C λa H=>ex H C C C λa H=>ex H C C C λa H=>mv2 H C C λa H=>nk<|?_; replace X:=X.s0; refine sg (l:=[0,1]) C<|mv2 H C C λa H=>nk<|W.ret<|?_; obtain rfl:=oj M; refine post1 H C (rkt C) ?_; exact ⟨(),C,X.noB⟩
def zch (F:Nat) (x1:Bool) (x3:List Int) (x4:Bool) (x6:List Int):Option (Bool × (List Int)) :=
  (zdr F x1 x3 x4 x6).bind λx10=>some x10
theorem zb8 (F:Nat) (x1:Bool) (s2:Value) (x3:List Int) (x4:Bool) (s5:Value) (x6:List Int) (w0:World) (h_s2:rdEOK (hp w0) 1 E92 s2 x3) (h_s5:rdEOK (hp w0) 1 E92 s5 x6) (r:Bool × (List Int)) (M:zch F x1 x3 x4 x6=some r) :
    Ret Tryz.prog 144 #[.agg #[Bv x1,s2],.agg #[Bv x4,s5]] w0 (G:=Value) (λg1=>.agg #[Bv r.1,g1]) (λg1 w=>St w0 w noX [] [sE92 g1 r.2]):=by
 unfold zch at M; refine roW Tryz.func144 C C C (λa H=>?_); have X:St w0 w0 noX [rE92 s2 x3,rE92 s5 x6] []:=Sbw (lnc (lendRd h_s2) (lnc (lendRd h_s5) lnn)); refine sg (l:=[0,1,2]) C<|O.box (cs:=#[Bv x1,s2]) H X C C C C<|?_; intro b7 w a hb7 X H; refine O.box (cs:=#[Bv x4,s5]) H X C C C C ?_; intro b8 w a hb8 X H; refine O.alloc (cs:=#[Bv false,.slice none 0 0]) H X C C zab C ?_; intro b9 w a hb9 X H; refine nk<|sg (l:=[0,1,2,3,4,5,6,7,8]) C<|ov H C (lN (cs':=#[Bv x1,s2]) A_56 C (X.p 2 C) C C) λa H=>ov H C (lN (cs':=#[Bv x4,s5]) A_56 C (X.p 1 C) C C) λa H=>?_; obtain ⟨x10,hx10,M⟩:=hm_b M; refine oc H C zgU (zdL F x1 s2 x3 x4 s5 x6 _ (X.b 0 C) (X.b 1 C) x10 hx10) ?_; rintro s11 w Y a H; replace X:=X.cl Y; refine mv H C λa H=>ex H C C C λa H=>ex H C C C λa H=>O.alloc (cs:=#[Bv false,.slice none 0 0]) H X C C zab C<|?_; intro b12 w a hb12 X H; refine ost 0 #[Bv x10.1,s11] H X C C C zaa C (occ C (occ (rdo (X.s 1 C)) C)) C (bl C) C ?_; intro w X; refine mv H C λa H=>nk<|?_; replace X:=X.sl [1,1,1]; refine sg (l:=[0,1]) C<|ov H C (lN (cs':=#[Bv x10.1,s11]) A_56 C (X.p 0 C) C C) λa H=>ost 2 #[Bv x10.1,s11] H X C C C zaa C (occ C (occ (rdo (X.s 1 C)) C)) C (bl C) C<|?_; intro w X; refine nk ?_; replace X:=X.sl [0,1,1]; refine W.ret ?_; obtain rfl:=oj M; refine post1 H C (rkn (cs':=#[Bv x10.1,s11]) C zao zaa (X.p 1 C) (bl C) C) ?_; replace X:=X.sl [1]; exact ⟨s11,C,X.noB⟩
def zft (F:Nat) (x1:Bool) (x3:List Int) (x4:Bool) (x6:List Int):Option (Bool × (List Int)) :=
  (zbj F x1 x3 x4 x6).bind λx11=>(zgi F x1 x3 (!x4) x6).bind λx12=>some x12
theorem zf7 (F:Nat) (x1:Bool) (s2:Value) (x3:List Int) (x4:Bool) (s5:Value) (x6:List Int) (w0:World) (h_s2:rdEOK (hp w0) 1 E92 s2 x3) (h_s5:rdEOK (hp w0) 1 E92 s5 x6) (r:Bool × (List Int)) (M:zft F x1 x3 x4 x6=some r) :
    Ret Tryz.prog 158 #[.agg #[Bv x1,s2],.agg #[Bv x4,s5]] w0 (G:=Value) (λg1=>.tuple #[.agg #[Bv r.1,g1],Iv 0]) (λg1 w=>St w0 w noX [] [sE92 g1 r.2]):=by
 unfold zft at M; refine roW Tryz.func158 C C C (λa H=>?_); have X:St w0 w0 noX [rE92 s2 x3,rE92 s5 x6] []:=Sbw (lnc (lendRd h_s2) (lnc (lendRd h_s5) lnn)); refine sg (l:=[0,1,2,3]) C<|O.box (cs:=#[Bv x1,s2]) H X C C C C<|?_; intro b7 w a hb7 X H; refine O.box (cs:=#[Bv x4,s5]) H X C C C C ?_; intro b8 w a hb8 X H; refine O.alloc (cs:=#[Bv false,.slice none 0 0]) H X C C zab C ?_; intro b9 w a hb9 X H; refine mv H C λa H=>nk<|W.seq<|sg (l:=[0,1,2,3,4]) C<|ov H C (lN (cs':=#[Bv x1,s2]) A_56 C (X.p 2 C) C C) λa H=>ov H C (lN (cs':=#[Bv x4,s5]) A_56 C (X.p 1 C) C C) λa H=>O.buildSlice (cs':=#[Bv x1,s2,Bv x4,s5]) (zs:=#[Bv false,.slice none 0 0,Bv false,.slice none 0 0]) H X C C za7 zaa zab C C C C C<|?_; intro b10 w a hb10 X H; obtain ⟨x11,hx11,M⟩:=hm_b M; refine oc H C zdV (zbt F b10 x1 s2 x3 x4 s5 x6 _ (X.b 0 C) (X.b 1 C) (X.p 0 C) x11 hx11) ?_; rintro _ w Y a H; replace X:=X.cl Y; refine mv H C λa H=>nk<|?_; replace X:=X.sl [0,1,1,1]; refine sg (l:=[0,1]) C<|mv H C λa H=>ov H C (Z.neq (p:=0) (q:=0) C C) λa H=>nk<|W.if_ff H C<|W.skip<|ksq<|sg (l:=[0,1,2,3,4]) C<|ov H C (Z.field zap C C) λa H=>ov H C (Z.load1 zaC C (X.p 1 C) C) λa H=>?_; refine ov H C (Z.not C) λa H=>ov H C (Z.field zap C C) λa H=>ost 1 #[Bv (!x4),s5] H X C C C zjP C C C (bl C) C<|?_; intro w X; refine nk<|sg (l:=[0,1,2,3,4,5,6]) C<|ov H C (lN (cs':=#[Bv x1,s2]) A_56 C (X.p 2 C) C C) λa H=>ov H C (lN (cs':=#[Bv (!x4),s5]) A_56 C (X.p 1 C) C C) λa H=>?_; obtain ⟨x12,hx12,M⟩:=hm_b M; refine oc H C ziZ (zhn F x1 s2 x3 (!x4) s5 x6 _ (X.b 0 C) (X.b 1 C) x12 hx12) ?_; rintro s13 w Y a H; replace X:=X.cl Y; refine ex H C C C λa H=>ex H C C C λa H=>ost 1 #[Bv x12.1,s13] H X C C C zaa C (occ C (occ (rdo (X.s 0 C)) C)) C (bl C) C<|?_; intro w X; refine mv H C λa H=>nk<|?_; replace X:=X.sl [1,1]; refine W.ret ?_; obtain rfl:=oj M; refine post2 H C (rkn (cs':=#[Bv x12.1,s13]) C zao zaa (X.p 1 C) (bl C) C) (rkt C) ?_; replace X:=X.sl [1]; exact ⟨s13,C,X.noB⟩
def zci (F:Nat) (x1:Bool) (x3:List Int) (x4:Bool) (x6:List Int):Option (Bool × (List Int)) :=
  (zft F x1 x3 x4 x6).bind λx10=>some x10
theorem zb9 (F:Nat) (x1:Bool) (s2:Value) (x3:List Int) (x4:Bool) (s5:Value) (x6:List Int) (w0:World) (h_s2:rdEOK (hp w0) 1 E92 s2 x3) (h_s5:rdEOK (hp w0) 1 E92 s5 x6) (r:Bool × (List Int)) (M:zci F x1 x3 x4 x6=some r) :
    Ret Tryz.prog 145 #[.agg #[Bv x1,s2],.agg #[Bv x4,s5]] w0 (G:=Value) (λg1=>.agg #[Bv r.1,g1]) (λg1 w=>St w0 w noX [] [sE92 g1 r.2]):=by
 unfold zci at M; refine roW Tryz.func145 C C C (λa H=>?_); have X:St w0 w0 noX [rE92 s2 x3,rE92 s5 x6] []:=Sbw (lnc (lendRd h_s2) (lnc (lendRd h_s5) lnn)); refine sg (l:=[0,1,2]) C<|O.box (cs:=#[Bv x1,s2]) H X C C C C<|?_; intro b7 w a hb7 X H; refine O.box (cs:=#[Bv x4,s5]) H X C C C C ?_; intro b8 w a hb8 X H; refine O.alloc (cs:=#[Bv false,.slice none 0 0]) H X C C zab C ?_; intro b9 w a hb9 X H; refine nk<|sg (l:=[0,1,2,3,4,5,6,7,8]) C<|ov H C (lN (cs':=#[Bv x1,s2]) A_56 C (X.p 2 C) C C) λa H=>ov H C (lN (cs':=#[Bv x4,s5]) A_56 C (X.p 1 C) C C) λa H=>?_; obtain ⟨x10,hx10,M⟩:=hm_b M; refine oc H C zhX (zf7 F x1 s2 x3 x4 s5 x6 _ (X.b 0 C) (X.b 1 C) x10 hx10) ?_; rintro s11 w Y a H; replace X:=X.cl Y; refine mv H C λa H=>ex H C C C λa H=>ex H C C C λa H=>O.alloc (cs:=#[Bv false,.slice none 0 0]) H X C C zab C<|?_; intro b12 w a hb12 X H; refine ost 0 #[Bv x10.1,s11] H X C C C zaa C (occ C (occ (rdo (X.s 1 C)) C)) C (bl C) C ?_; intro w X; refine mv H C λa H=>nk<|?_; replace X:=X.sl [1,1,1]; refine sg (l:=[0,1]) C<|ov H C (lN (cs':=#[Bv x10.1,s11]) A_56 C (X.p 0 C) C C) λa H=>ost 2 #[Bv x10.1,s11] H X C C C zaa C (occ C (occ (rdo (X.s 1 C)) C)) C (bl C) C<|?_; intro w X; refine nk ?_; replace X:=X.sl [0,1,1]; refine W.ret ?_; obtain rfl:=oj M; refine post1 H C (rkn (cs':=#[Bv x10.1,s11]) C zao zaa (X.p 1 C) (bl C) C) ?_; replace X:=X.sl [1]; exact ⟨s11,C,X.noB⟩
def zdx (F:Nat) (x14:Bool) (x16:List Int) (x17:Int):Option (Bool × (List Int) × Int) :=
  (some (i64.wrap ((i64.wrap (2*x17))+4))).bind λx19=>some (x14,x16,x19)
def zdy (F:Nat) (rec41:Bool→(List Int)→Bool→(List Int)→Int→Int→Option (Bool × (List Int) × Int)) (x42:Bool) (x44:List Int) (x39 x40:Int) (x51:Bool) (x53:List Int):Option (Bool × (List Int) × Int) :=
  rec41 x42 x44 x51 x53 (i64.wrap (x39+1)) (i64.wrap (x40+1))
def ze3 (F:Nat) (x36:Bool) (x38:List Int) (x39 x40:Int) (rec41:Bool→(List Int)→Bool→(List Int)→Int→Int→Option (Bool × (List Int) × Int)) (x42:Bool) (x44:List Int) (x45:Bool) (x47:List Int):Option (Bool × (List Int) × Int) :=
  (zc6 F x45 x47).bind λx49=>if x49=(0:Int) then (zdx F x36 x38 x39) else (if (Int.tmod x40 2)=(0:Int) then ((zch F x36 x38 x45 x47).bind λx55=>zdy F rec41 x42 x44 x39 x40 x55.1 x55.2) else ((zci F x36 x38 x45 x47).bind λx57=>zdy F rec41 x42 x44 x39 x40 x57.1 x57.2))
def ze4 (F:Nat) (x1:Int) (rec41:Bool→(List Int)→Bool→(List Int)→Int→Int→Option (Bool × (List Int) × Int)) (x33:Bool) (x35:List Int) (x36:Bool) (x38:List Int) (x39 x40:Int):Option (Bool × (List Int) × Int) :=
  (zaV F (i64.wrap ((i64.wrap (2*x40))+1))).bind λx60=>(zbX F x33 x35 x60.1 x60.2).bind λx62=>(zaV F (i64.wrap (x1*x1))).bind λx65=>(zbX F x33 x35 x65.1 x65.2).bind λx67=>ze3 F x36 x38 x39 x40 rec41 x67.1 x67.2 x62.1 x62.2
def zcA (F:Nat) (x1:Int):Nat→Bool→(List Int)→Bool→(List Int)→Int→Int→Option (Bool × (List Int) × Int)
  | 0,_,_,_,_,_,_=>none
  | n+1,x33,x35,x36,x38,x39,x40=>ze4 F x1 (zcA F x1 n) x33 x35 x36 x38 x39 x40
def zdz (F:Nat) (x1:Int) (x21:Bool) (x23:List Int) (x30:Bool) (x32:List Int):Option (Bool × (List Int) × Int) :=
  zcA F x1 F x21 x23 x30 x32 1 1
def ze5 (F:Nat) (x1:Int) (x21:Bool) (x23:List Int) (x24:Bool) (x26:List Int):Option (Bool × (List Int) × Int) :=
  (zc6 F x24 x26).bind λx28=>if x28=(0:Int) then (zdx F false ([]:List Int) 0) else (if (Int.tmod 0 2)=(0:Int) then ((zch F false ([]:List Int) x24 x26).bind λx70=>zdz F x1 x21 x23 x70.1 x70.2) else ((zci F false ([]:List Int) x24 x26).bind λx72=>zdz F x1 x21 x23 x72.1 x72.2))
def zdO (F:Nat) (x1 x2:Int):Option (Bool × (List Int) × Int) :=
  (zaV F 1).bind λx5=>(za4 F x5.1 x5.2 x2).bind λx7=>(zaV F x1).bind λx9=>(zbX F x7.1 x7.2 x9.1 x9.2).bind λx11=>(zaV F 1).bind λx75=>(zbX F x11.1 x11.2 x75.1 x75.2).bind λx77=>(zaV F (i64.wrap (x1*x1))).bind λx80=>(zbX F x11.1 x11.2 x80.1 x80.2).bind λx82=>ze5 F x1 x82.1 x82.2 x77.1 x77.2
end Go.Proofs.YtnabkmkkmkbkfaaGreatDoor
