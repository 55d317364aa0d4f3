/- Part of a proof: laws. -/
import Derived.Test.YthfhopkibabfhaaGreatDoorRXz
import Derived.Test.YthfhopkibabfhaaGreatDoorSL27
import Derived.Lib.AppendZeros
import Derived.Test.YthfhopkibabfhaaGreatDoorProg
import Derived.Test.YthfhopkibabfhaaGreatDoorWad
import Derived.Lib.LaidU8
import Derived.Test.YthfhopkibabfhaaGreatDoorSL16
import Derived.ProofKit
import Derived.Lib.SmallJoins
import Derived.Deep.Grids
import Derived.Test.YthfhopkibabfhaaGreatDoorRows
import Derived.LaidMore
import Derived.Lay
import Derived.Test.YthfhopkibabfhaaGreatDoorTie
import Derived.Test.YthfhopkibabfhaaGreatDoorCards
import Derived.SevenTiedAt
set_option linter.unusedVariables false
set_option linter.unusedSimpArgs false
namespace Go.SL
open Go
theorem run_slice0 {P:Program} {w:World} {t e:TypeId} {sz n c:Nat} {k:IntKind} {A:Option Addr} (he:tElem P t=some e) (hs:tSize P e=some sz) :
    (Instr.sliceAt t (.slice A n c) none (some (.int k 0)) none).run P w=.ok (vsub sz (.slice A n c) 0 0) w:=by
  have ht:=und_elem he
  have ht:P.underlying t=some (.slice (P.elem t)):=by rw [ht]; simp [Program.elem,ht]
  have hel:P.elem t=e:=by
    have:=und_elem he
    rw [this] at ht
    simpa using ht.symm
  rw [run_sliceAt_slice _ _ _ _ _ _ ht]
  have hsz:(sizeOf (P.elem t)).run P w=.ok sz w:=by rw [hel]; exact run_sizeOf hs
  rw [run_slice_h _ _ _ _ _ ht _ _ (Int.le_refl 0) (by omega),hsz]; simp [sliced,vsub,Result.andThen]
end Go.SL
namespace Go.Proofs.YthfhopkibabfhaaGreatDoor
open Go Go.SL Go.RX
theorem grow_u3:Tryz.prog.underlying 3=some (.int .i64):=by kernel_rfl
theorem grow_e22:tElem Tryz.prog 22=some 32:=by kernel_rfl
theorem grow_s32:tSize Tryz.prog 32=some 4:=by kernel_rfl
def growG:List Ar→Option (List Rp):=fun l=>match l with
  | [a0,a1]=>(arV a0).bind fun v0=>(match isNil v0 with
    | true=>(arV a1).bind fun v1=>(asI .i64 v1).bind fun n=>(match decide (0<n)&&decide (n≤1000) with
      | true=>some [.s (.l 32 4 [])]
      | false=>none)
    | false=>none)
  | _=>none
theorem grow_ok (n:Int) (h0:0<n) (h1:n≤1000) (w0:World) :
    Ret Tryz.prog 101 #[.slice none 0 0,Iv n] w0 (G:=Value) (fun v=>v) (fun v w=>St w0 w noX [] [SL.sl 32 4 v 0 []]):=by
 refine roW (lv:=[.slice none 0 0,Iv n]) Tryz.func101 rfl rfl rfl (fun a hf=>?_)
 replace hf:Fr a 27 [] [(0,.slice none 0 0),(1,Iv n)]:=hf
 have hS:St w0 w0 noX [] []:=Sbw lnn
 refine W.seq ?_
 refine wrL (l:=[0]) rfl ?_
 refine ov hf rfl (Z.assign rfl) fun a hf=>?_
 refine nk ?_
 refine W.seq ?_
 refine W.seq ?_
 refine wrL (l:=[0,1]) rfl ?_
 refine ov hf rfl (Z.move rfl) fun a hf=>?_
 refine ov (v:=Bv false) hf rfl (by rw [show false=decide (n<0) from (decide_eq_false (by omega)).symm]; exact Z.lss rfl rfl) fun a hf=>?_
 refine nk ?_
 refine W.if_ff hf rfl ?_
 refine W.skip ?_
 refine ksq ?_
 refine W.seq ?_
 refine W.seq ?_
 refine wrL (l:=[0,1,2,3,4,5,6,7]) rfl ?_
 have hcap:∀ (L:List (Nat × Value)) (x:Operand) (ty:TypeId) (w:World),ev L x=some (.slice none 0 0)→RunV Tryz.prog 27 [] L (.call ⟨.builtin .cap,#[x],#[22]⟩) ty w (Iv 0) w:=fun L x ty w hx a d pos af g hf=>by
   refine run_builtin (vs:=[.slice none 0 0]) hf (by simp [evA,hx]) ?_
   simp only [builtin]
   refine run_v ?_
   simp [Builtin.cap_,goInt]
 refine ov hf rfl (Z.move rfl) fun a hf=>?_
 refine ov hf rfl (Z.move rfl) fun a hf=>?_
 refine ov hf rfl (hcap _ _ _ _ rfl) fun a hf=>?_
 refine ov hf rfl (Z.move rfl) fun a hf=>?_
 refine ov (v:=Iv 0) hf rfl (Z.len (e:=32) (by simpa using grow_e22) rfl) fun a hf=>?_
 refine ov (v:=Iv 0) hf rfl ((Z.subI (p:=0) (q:=0) rfl rfl (by omega)) |> fun h=>by rw [Int.sub_zero] at h; exact h) fun a hf=>?_
 refine ov (v:=Iv n) hf rfl ((Z.subI (p:=n) (q:=0) rfl rfl (by omega)) |> fun h=>by rw [Int.sub_zero] at h; exact h) fun a hf=>?_
 refine ov hf rfl (Z.assign rfl) fun a hf=>?_
 refine nk ?_
 refine W.seq ?_
 refine wrL (l:=[0,1]) rfl ?_
 refine ov hf rfl (Z.move rfl) fun a hf=>?_
 refine ov (v:=Bv true) hf rfl (by rw [show true=decide (n>0) from (decide_eq_true (by omega)).symm]; exact Z.gtr rfl rfl) fun a hf=>?_
 refine nk ?_
 refine W.if_tt hf rfl ?_
 refine wrL (l:=[0,1,2,3,4,5,6,7,8,9]) rfl ?_
 refine ov hf rfl (Z.move rfl) fun a hf=>?_
 refine ov hf rfl (Z.move rfl) fun a hf=>?_
 refine ov hf rfl (hcap _ _ _ _ rfl) fun a hf=>?_
 refine O.val (v:=.slice none 0 0) (w':=w0) hf rfl rfl rfl (fun a d pos af g hf=>by
   simp only [execOp,hf.eval (show ev _ (.tmp 17)=some (.slice none 0 0) from rfl),Option.map_some,Option.map_none,hf.eval (show ev _ (.tmp 19)=some (Iv 0) from rfl)]
   exact run_v (by rw [run_slice0 grow_e22 grow_s32]; simp [vsub])) ?_; clear hf a; intro a hf
 refine ov hf rfl (Z.move rfl) fun a hf=>?_
 obtain ⟨m,rfl⟩:=Int.eq_ofNat_of_zero_le (Int.le_of_lt h0)
 obtain ⟨i0,hi⟩:∃ i,Tryz.prog.info? 32=some i:=Option.isSome_iff_exists.1 (by kernel_rfl)
 have hz:(Tryz.prog.info? 32).bind (fun i=>i.zero)=some (.agg #[.bool false,.slice none 0 0,.bool false,.slice none 0 0]):=by kernel_rfl
 have hsz:(Tryz.prog.info? 32).map (fun i=>i.size)=some 4:=by kernel_rfl
 have hby:(Tryz.prog.info? 32).map (fun i=>i.bytes)=some 64:=by kernel_rfl
 rw [hi] at hz hsz hby
 replace hz:i0.zero=some (.agg #[.bool false,.slice none 0 0,.bool false,.slice none 0 0]):=hz
 replace hsz:i0.size=4:=Option.some.inj hsz
 replace hby:i0.bytes=64:=Option.some.inj hby
 have hr:=fun (ty:TypeId)=>Go.Lib.run_append_nil_zeros (P:=Tryz.prog) w0 22 3 ty 32 i0 _ .i64 .i64 (und_elem grow_e22) grow_u3 hi hz m (by omega) (by omega) (by omega) (by rw [hby]; omega)
 have happ:∀ (L:List (Nat × Value)) (x y:Operand) (ty:TypeId),ev L x=some (.slice none 0 0)→ev L y=some (Iv m)→RunV Tryz.prog 27 [] L (.call ⟨.builtin .append,#[x,y],#[22,3]⟩) ty w0 _ _:=fun L x y ty hx hy a d pos af g hf=>by
   refine run_builtin (vs:=[.slice none 0 0,Iv m]) hf (by simp [evA,hx,hy]) ?_
   simp only [builtin]
   exact run_v (hr _)
 refine ov hf rfl (happ _ _ _ _ rfl rfl) fun a hf=>?_
 obtain ⟨g,hg⟩:∃ g,g=w0.heap.size:=⟨_,rfl⟩
 obtain ⟨c,hc⟩:∃ c,c=grownCap w0 m 0 32:=⟨_,rfl⟩
 obtain ⟨cur,hcur⟩:∃ cur,cur=Builtin.zeroCells (Value.agg #[.bool false,.slice none 0 0,.bool false,.slice none 0 0]).cells m++Builtin.zeroCells (Value.agg #[.bool false,.slice none 0 0,.bool false,.slice none 0 0]).cells (c-m):=⟨_,rfl⟩
 have hcm:m≤c:=by rw [hc]; exact grownCap_ge w0 m 0 32
 have hcl:c≤maxLen:=by rw [hc]; exact grownCap_le_maxLen w0 m 0 32 (by unfold maxLen; omega)
 have hcs:cur.size=c*4:=by
  rw [hcur,Array.size_append,size_zeroCells,size_zeroCells]
  show m*4+(c-m)*4=c*4
  omega
 rw [← hg,← hc] at hf; rw [← hc,← hcur]
 clear hcur
 obtain ⟨w,hw⟩:∃ w,w=w0.drew.alloc (.cells cur 32):=⟨_,rfl⟩
 rw [← hw]
 have hgw:(hp w) g=some (.cells cur 32 (0,0)):=by
  show w.heap[g]? = _
  rw [hw,hg]; exact heap_alloc_new w0.drew _
 have hS1:St w0 w noX [] [SL.sl 32 4 (.slice (some ⟨g,0,none⟩) 0 c) 0 []]:=by
  refine hS.push (by rw [hw]; rfl) (by rw [hw]; rfl) (by rw [hw]; rfl) (by rw [hw]; simp) (fun b hb=>by rw [hw]; exact heap_alloc_old w0.drew (.cells cur 32) hb) ?_ (fun b hb=>?_)
  · exact ⟨rfl,.inr ⟨g,c,cur,rfl,hgw,Nat.zero_le _,hcl,hcs,by simp⟩⟩
  · have hb:g=b:=Option.some.inj (show some g=some b from hb)
    subst hb
    exact ⟨by omega,by rw [hw]; simp [hg]⟩
 clear hS; have hS:=hS1; clear hS1
 refine ov hf rfl (Z.move rfl) fun a hf=>?_
 refine ov (v:=Iv 0) hf rfl (Z.len (e:=32) (by simpa using grow_e22) rfl) fun a hf=>?_
 refine O.val (v:=.slice (some ⟨g,0,none⟩) 0 c) (w':=w) hf rfl rfl rfl (fun a d pos af g' hf=>by
   simp only [execOp,hf.eval (show ev _ (.tmp 22)=some (.slice (some ⟨g,0,none⟩) m c) from rfl),Option.map_some,Option.map_none,hf.eval (show ev _ (.tmp 24)=some (Iv 0) from rfl)]
   exact run_v (by
    rw [run_slice0 grow_e22 grow_s32]
    have hc0:¬ c=0:=by omega
    simp [vsub,hc0,Addr.add])) ?_; clear hf a; intro a hf
 refine ov hf rfl (Z.assign rfl) fun a hf=>?_
 refine nk ?_
 refine W.seq ?_
 refine wrL (l:=[0,1]) rfl ?_
 refine ov hf rfl (Z.move rfl) fun a hf=>?_
 refine ov hf rfl (Z.assign rfl) fun a hf=>?_
 refine nk ?_
 refine W.ret ?_
 refine post1 hf rfl (rkt rfl) ?_
 exact ⟨_,rfl,hS⟩
theorem k_grow:LiftG Tryz.prog 101 growG:=⟨fun args vals r w h hg=>by
  unfold growG at hg
  split at hg
  · rename_i a0 a1
    obtain _ | ⟨k0,h⟩:=h; obtain _ | ⟨k1,h⟩:=h; cases h
    rw [Option.bind_eq_some_iff] at hg; obtain ⟨v0,j0,hg⟩:=hg
    have:=arV_ok j0 k0; subst this
    split at hg
    · rename_i hn
      rw [Option.bind_eq_some_iff] at hg; obtain ⟨v1,j1,hg⟩:=hg
      rw [Option.bind_eq_some_iff] at hg; obtain ⟨n,i1,hg⟩:=hg
      have:=arV_ok j1 k1; subst this; have:=asI_ok i1; subst this
      split at hg
      · rename_i hb
        simp only [Bool.and_eq_true,decide_eq_true_eq] at hb
        simp only [Option.some.injEq] at hg
        subst hg
        unfold isNil at hn
        split at hn
        · exact Calls.mono (grow_ok n hb.1 hb.2 w) fun e w' ⟨v,he,hS⟩=>⟨[v],_,he,.s (.l (by simp) .nil) .nil,hS⟩
        · cases hn
      · cases hg
    · cases hg
  · cases hg⟩
end Go.Proofs.YthfhopkibabfhaaGreatDoor

namespace Go.Proofs.YthfhopkibabfhaaGreatDoor
open Go Go.SL Go.RX
def g_reduce_isWord (F:Nat):List Value→Option (List Cp):=fun l=>match l with
  | [v0]=>(asT v0).bind fun x1=>(zfi F x1).map fun r=>[.s (Bv true)]
  | _=>none
theorem k_reduce_isWord (F:Nat):LiftK Tryz.prog 21 (g_reduce_isWord F):=⟨fun vals r w h=>by
  unfold g_reduce_isWord at h
  split at h
  · rename_i v0
    replace h:=ebn h; obtain ⟨x1,hx1,h⟩:=h
    have:=asT_ok hx1; subst this
    replace h:=emp h; obtain ⟨q,hq,h⟩:=h
    subst h
    exact Calls.mono (zhH F x1 w q hq) fun e w' ⟨_,he,hS⟩=>⟨he,hS⟩
  · cases h⟩
def g_reduce_Light (F:Nat):List Value→Option (List Cp):=fun l=>match l with
  | [v0]=>(asI .i64 v0).bind fun x1=>(zfV F x1).map fun r=>[.s (Iv r.1),.s (Iv r.2)]
  | _=>none
theorem k_reduce_Light (F:Nat):LiftK Tryz.prog 6 (g_reduce_Light F):=⟨fun vals r w h=>by
  unfold g_reduce_Light at h
  split at h
  · rename_i v0
    replace h:=ebn h; obtain ⟨x1,hx1,h⟩:=h
    have:=asI_ok hx1; subst this
    replace h:=emp h; obtain ⟨q,hq,h⟩:=h
    subst h
    exact Calls.mono (zh0 F x1 w q hq) fun e w' ⟨_,he,hS⟩=>⟨he,hS⟩
  · cases h⟩
def dec90 (r:List Value):Option (Int):=match r with
  | [c0]=>(asI .u32 c0).bind fun y0=>some y0
  | _=>none
theorem dec90_ok (r:List Value) (x:Int) (h:dec90 r=some x):r=E90 x:=by
 unfold dec90 at h
 split at h
 · rename_i c0
   replace h:=ebn h; obtain ⟨y0,h0,h⟩:=h; have:=asI_ok h0; subst this
   rw [← Option.some.inj h]; rfl
 · cases h
def g_sphere_Lift (F:Nat):List Ar→Option (List Cp):=fun l=>match l with
  | [a0,a1,a2,a3]=>(arG a0).bind fun l0=>(match l0 with | [a00,a01,a02,a03]=>(arV a00).bind fun v00=>(asB v00).bind fun x1=>(arL dec90 a01).bind fun x3=>(arV a02).bind fun v02=>(asB v02).bind fun x4=>(arL dec90 a03).bind fun x6=>(arG a1).bind fun l1=>(match l1 with | [a10,a11,a12,a13]=>(arV a10).bind fun v10=>(asB v10).bind fun x7=>(arL dec90 a11).bind fun x9=>(arV a12).bind fun v12=>(asB v12).bind fun x10=>(arL dec90 a13).bind fun x12=>(arV a2).bind fun v2=>(asI .i64 v2).bind fun x13=>(arV a3).bind fun v3=>(asI .i64 v3).bind fun x14=>(zgq F x1 x3 x4 x6 x7 x9 x10 x12 x13 x14).map fun r=>[.s (Iv 0),.s (Iv 0),.s (Iv r)] | _=>none) | _=>none)
  | _=>none
theorem k_sphere_Lift (F:Nat):LiftA Tryz.prog 24 (g_sphere_Lift F):=⟨fun args vals r w h hg=>by
  unfold g_sphere_Lift at hg
  split at hg
  · rename_i a0 a1 a2 a3
    obtain _ | ⟨k0,h⟩:=h; obtain _ | ⟨k1,h⟩:=h; obtain _ | ⟨k2,h⟩:=h; obtain _ | ⟨k3,h⟩:=h; cases h
    obtain ⟨l0,hl0,y1⟩:=ebn hg; obtain ⟨us0,hu0,ks0⟩:=arG_ok hl0 k0; subst hu0
    split at y1
    · rename_i a00 a01 a02 a03
      obtain _ | ⟨k00,ks0⟩:=ks0; obtain _ | ⟨k01,ks0⟩:=ks0; obtain _ | ⟨k02,ks0⟩:=ks0; obtain _ | ⟨k03,ks0⟩:=ks0; cases ks0
      obtain ⟨v00,j00,y2⟩:=ebn y1; obtain ⟨x1,i00,y3⟩:=ebn y2
      obtain rfl:=aB j00 k00.ar i00
      obtain ⟨x3,j01,y4⟩:=ebn y3
      have s01:=arL_ok (E:=E90) dec90_ok E90_len j01 k01.ar
      obtain ⟨v02,j02,y5⟩:=ebn y4; obtain ⟨x4,i02,y6⟩:=ebn y5
      obtain rfl:=aB j02 k02.ar i02
      obtain ⟨x6,j03,y7⟩:=ebn y6
      have s03:=arL_ok (E:=E90) dec90_ok E90_len j03 k03.ar
      obtain ⟨l1,hl1,y8⟩:=ebn y7; obtain ⟨us1,hu1,ks1⟩:=arG_ok hl1 k1; subst hu1
      split at y8
      · rename_i a10 a11 a12 a13
        obtain _ | ⟨k10,ks1⟩:=ks1; obtain _ | ⟨k11,ks1⟩:=ks1; obtain _ | ⟨k12,ks1⟩:=ks1; obtain _ | ⟨k13,ks1⟩:=ks1; cases ks1
        obtain ⟨v10,j10,y9⟩:=ebn y8; obtain ⟨x7,i10,y10⟩:=ebn y9
        obtain rfl:=aB j10 k10.ar i10
        obtain ⟨x9,j11,y11⟩:=ebn y10
        have s11:=arL_ok (E:=E90) dec90_ok E90_len j11 k11.ar
        obtain ⟨v12,j12,y12⟩:=ebn y11; obtain ⟨x10,i12,y13⟩:=ebn y12
        obtain rfl:=aB j12 k12.ar i12
        obtain ⟨x12,j13,y14⟩:=ebn y13
        have s13:=arL_ok (E:=E90) dec90_ok E90_len j13 k13.ar
        obtain ⟨v2,j2,y15⟩:=ebn y14; obtain ⟨x13,i2,y16⟩:=ebn y15
        obtain rfl:=aI j2 k2 i2
        obtain ⟨v3,j3,y17⟩:=ebn y16; obtain ⟨x14,i3,y18⟩:=ebn y17
        obtain rfl:=aI j3 k3 i3
        obtain ⟨q,hq,hr⟩:=emp y18
        subst hr
        exact Calls.mono (zig F x1 _ x3 x4 _ x6 x7 _ x9 x10 _ x12 x13 x14 w s01 s03 s11 s13 q hq) fun e w' ⟨_,he,hS⟩=>⟨he,hS⟩
      · cases y8
    · cases y1
  · cases hg⟩
def g_frac_Of (F:Nat):List Ar→Option (List Rp):=fun l=>match l with
  | [a0,a1]=>(arV a0).bind fun v0=>(asI .i64 v0).bind fun x1=>(arV a1).bind fun v1=>(asI .i64 v1).bind fun x2=>(zhN F x1 x2).map fun r=>[.a [.c (Bv r.1),.l 90 1 ((r.2.1).map E90),.c (Bv r.2.2.1),.l 90 1 ((r.2.2.2).map E90)],.s (.c (Iv 0))]
  | _=>none
theorem k_frac_Of (F:Nat):LiftG Tryz.prog 39 (g_frac_Of F):=⟨fun args vals r w h hg=>by
  unfold g_frac_Of at hg
  split at hg
  · rename_i a0 a1
    obtain _ | ⟨k0,h⟩:=h; obtain _ | ⟨k1,h⟩:=h; cases h
    obtain ⟨v0,j0,y1⟩:=ebn hg; obtain ⟨x1,i0,y2⟩:=ebn y1
    obtain rfl:=aI j0 k0 i0
    obtain ⟨v1,j1,y3⟩:=ebn y2; obtain ⟨x2,i1,y4⟩:=ebn y3
    obtain rfl:=aI j1 k1 i1
    obtain ⟨q,hq,hr⟩:=emp y4
    subst hr
    exact Calls.mono (zi9 F x1 x2 w  q hq) fun e w' ⟨(g1,g2),he,hS⟩=>by refine ⟨_,_,?_,(.a (.c (.lE E90_len E90_one (.c (.lE E90_len E90_one .nil)))) (.s (.c .nil) .nil)),hS⟩; exact he
  · cases hg⟩
def g_frac_Mul (F:Nat):List Ar→Option (List Rp):=fun l=>match l with
  | [a0,a1]=>(arG a0).bind fun l0=>(match l0 with | [a00,a01,a02,a03]=>(arV a00).bind fun v00=>(asB v00).bind fun x1=>(arL dec90 a01).bind fun x3=>(arV a02).bind fun v02=>(asB v02).bind fun x4=>(arL dec90 a03).bind fun x6=>(arG a1).bind fun l1=>(match l1 with | [a10,a11,a12,a13]=>(arV a10).bind fun v10=>(asB v10).bind fun x7=>(arL dec90 a11).bind fun x9=>(arV a12).bind fun v12=>(asB v12).bind fun x10=>(arL dec90 a13).bind fun x12=>(zht F x1 x3 x4 x6 x7 x9 x10 x12).map fun r=>[.a [.c (Bv r.1),.l 90 1 ((r.2.1).map E90),.c (Bv r.2.2.1),.l 90 1 ((r.2.2.2).map E90)],.s (.c (Iv 0))] | _=>none) | _=>none)
  | _=>none
theorem k_frac_Mul (F:Nat):LiftG Tryz.prog 54 (g_frac_Mul F):=⟨fun args vals r w h hg=>by
  unfold g_frac_Mul at hg
  split at hg
  · rename_i a0 a1
    obtain _ | ⟨k0,h⟩:=h; obtain _ | ⟨k1,h⟩:=h; cases h
    obtain ⟨l0,hl0,y1⟩:=ebn hg; obtain ⟨us0,hu0,ks0⟩:=arG_ok hl0 k0; subst hu0
    split at y1
    · rename_i a00 a01 a02 a03
      obtain _ | ⟨k00,ks0⟩:=ks0; obtain _ | ⟨k01,ks0⟩:=ks0; obtain _ | ⟨k02,ks0⟩:=ks0; obtain _ | ⟨k03,ks0⟩:=ks0; cases ks0
      obtain ⟨v00,j00,y2⟩:=ebn y1; obtain ⟨x1,i00,y3⟩:=ebn y2
      obtain rfl:=aB j00 k00.ar i00
      obtain ⟨x3,j01,y4⟩:=ebn y3
      have s01:=arL_ok (E:=E90) dec90_ok E90_len j01 k01.ar
      obtain ⟨v02,j02,y5⟩:=ebn y4; obtain ⟨x4,i02,y6⟩:=ebn y5
      obtain rfl:=aB j02 k02.ar i02
      obtain ⟨x6,j03,y7⟩:=ebn y6
      have s03:=arL_ok (E:=E90) dec90_ok E90_len j03 k03.ar
      obtain ⟨l1,hl1,y8⟩:=ebn y7; obtain ⟨us1,hu1,ks1⟩:=arG_ok hl1 k1; subst hu1
      split at y8
      · rename_i a10 a11 a12 a13
        obtain _ | ⟨k10,ks1⟩:=ks1; obtain _ | ⟨k11,ks1⟩:=ks1; obtain _ | ⟨k12,ks1⟩:=ks1; obtain _ | ⟨k13,ks1⟩:=ks1; cases ks1
        obtain ⟨v10,j10,y9⟩:=ebn y8; obtain ⟨x7,i10,y10⟩:=ebn y9
        obtain rfl:=aB j10 k10.ar i10
        obtain ⟨x9,j11,y11⟩:=ebn y10
        have s11:=arL_ok (E:=E90) dec90_ok E90_len j11 k11.ar
        obtain ⟨v12,j12,y12⟩:=ebn y11; obtain ⟨x10,i12,y13⟩:=ebn y12
        obtain rfl:=aB j12 k12.ar i12
        obtain ⟨x12,j13,y14⟩:=ebn y13
        have s13:=arL_ok (E:=E90) dec90_ok E90_len j13 k13.ar
        obtain ⟨q,hq,hr⟩:=emp y14
        subst hr
        exact Calls.mono (ziM F x1 _ x3 x4 _ x6 x7 _ x9 x10 _ x12 w s01 s03 s11 s13 q hq) fun e w' ⟨(g1,g2),he,hS⟩=>by refine ⟨_,_,?_,(.a (.c (.lE E90_len E90_one (.c (.lE E90_len E90_one .nil)))) (.s (.c .nil) .nil)),hS⟩; exact he
      · cases y8
    · cases y1
  · cases hg⟩
def g_frac_Sub (F:Nat):List Ar→Option (List Rp):=fun l=>match l with
  | [a0,a1]=>(arG a0).bind fun l0=>(match l0 with | [a00,a01,a02,a03]=>(arV a00).bind fun v00=>(asB v00).bind fun x1=>(arL dec90 a01).bind fun x3=>(arV a02).bind fun v02=>(asB v02).bind fun x4=>(arL dec90 a03).bind fun x6=>(arG a1).bind fun l1=>(match l1 with | [a10,a11,a12,a13]=>(arV a10).bind fun v10=>(asB v10).bind fun x7=>(arL dec90 a11).bind fun x9=>(arV a12).bind fun v12=>(asB v12).bind fun x10=>(arL dec90 a13).bind fun x12=>(zhu F x1 x3 x4 x6 x7 x9 x10 x12).map fun r=>[.a [.c (Bv r.1),.l 90 1 ((r.2.1).map E90),.c (Bv r.2.2.1),.l 90 1 ((r.2.2.2).map E90)],.s (.c (Iv 0))] | _=>none) | _=>none)
  | _=>none
theorem k_frac_Sub (F:Nat):LiftG Tryz.prog 53 (g_frac_Sub F):=⟨fun args vals r w h hg=>by
  unfold g_frac_Sub at hg
  split at hg
  · rename_i a0 a1
    obtain _ | ⟨k0,h⟩:=h; obtain _ | ⟨k1,h⟩:=h; cases h
    obtain ⟨l0,hl0,y1⟩:=ebn hg; obtain ⟨us0,hu0,ks0⟩:=arG_ok hl0 k0; subst hu0
    split at y1
    · rename_i a00 a01 a02 a03
      obtain _ | ⟨k00,ks0⟩:=ks0; obtain _ | ⟨k01,ks0⟩:=ks0; obtain _ | ⟨k02,ks0⟩:=ks0; obtain _ | ⟨k03,ks0⟩:=ks0; cases ks0
      obtain ⟨v00,j00,y2⟩:=ebn y1; obtain ⟨x1,i00,y3⟩:=ebn y2
      obtain rfl:=aB j00 k00.ar i00
      obtain ⟨x3,j01,y4⟩:=ebn y3
      have s01:=arL_ok (E:=E90) dec90_ok E90_len j01 k01.ar
      obtain ⟨v02,j02,y5⟩:=ebn y4; obtain ⟨x4,i02,y6⟩:=ebn y5
      obtain rfl:=aB j02 k02.ar i02
      obtain ⟨x6,j03,y7⟩:=ebn y6
      have s03:=arL_ok (E:=E90) dec90_ok E90_len j03 k03.ar
      obtain ⟨l1,hl1,y8⟩:=ebn y7; obtain ⟨us1,hu1,ks1⟩:=arG_ok hl1 k1; subst hu1
      split at y8
      · rename_i a10 a11 a12 a13
        obtain _ | ⟨k10,ks1⟩:=ks1; obtain _ | ⟨k11,ks1⟩:=ks1; obtain _ | ⟨k12,ks1⟩:=ks1; obtain _ | ⟨k13,ks1⟩:=ks1; cases ks1
        obtain ⟨v10,j10,y9⟩:=ebn y8; obtain ⟨x7,i10,y10⟩:=ebn y9
        obtain rfl:=aB j10 k10.ar i10
        obtain ⟨x9,j11,y11⟩:=ebn y10
        have s11:=arL_ok (E:=E90) dec90_ok E90_len j11 k11.ar
        obtain ⟨v12,j12,y12⟩:=ebn y11; obtain ⟨x10,i12,y13⟩:=ebn y12
        obtain rfl:=aB j12 k12.ar i12
        obtain ⟨x12,j13,y14⟩:=ebn y13
        have s13:=arL_ok (E:=E90) dec90_ok E90_len j13 k13.ar
        obtain ⟨q,hq,hr⟩:=emp y14
        subst hr
        exact Calls.mono (ziN F x1 _ x3 x4 _ x6 x7 _ x9 x10 _ x12 w s01 s03 s11 s13 q hq) fun e w' ⟨(g1,g2),he,hS⟩=>by refine ⟨_,_,?_,(.a (.c (.lE E90_len E90_one (.c (.lE E90_len E90_one .nil)))) (.s (.c .nil) .nil)),hS⟩; exact he
      · cases y8
    · cases y1
  · cases hg⟩
def g_frac_Div (F:Nat):List Ar→Option (List Rp):=fun l=>match l with
  | [a0,a1]=>(arG a0).bind fun l0=>(match l0 with | [a00,a01,a02,a03]=>(arV a00).bind fun v00=>(asB v00).bind fun x1=>(arL dec90 a01).bind fun x3=>(arV a02).bind fun v02=>(asB v02).bind fun x4=>(arL dec90 a03).bind fun x6=>(arG a1).bind fun l1=>(match l1 with | [a10,a11,a12,a13]=>(arV a10).bind fun v10=>(asB v10).bind fun x7=>(arL dec90 a11).bind fun x9=>(arV a12).bind fun v12=>(asB v12).bind fun x10=>(arL dec90 a13).bind fun x12=>(zhv F x1 x3 x4 x6 x7 x9 x10 x12).map fun r=>[.a [.c (Bv r.1),.l 90 1 ((r.2.1).map E90),.c (Bv r.2.2.1),.l 90 1 ((r.2.2.2).map E90)],.s (.c (Iv 0))] | _=>none) | _=>none)
  | _=>none
theorem k_frac_Div (F:Nat):LiftG Tryz.prog 40 (g_frac_Div F):=⟨fun args vals r w h hg=>by
  unfold g_frac_Div at hg
  split at hg
  · rename_i a0 a1
    obtain _ | ⟨k0,h⟩:=h; obtain _ | ⟨k1,h⟩:=h; cases h
    obtain ⟨l0,hl0,y1⟩:=ebn hg; obtain ⟨us0,hu0,ks0⟩:=arG_ok hl0 k0; subst hu0
    split at y1
    · rename_i a00 a01 a02 a03
      obtain _ | ⟨k00,ks0⟩:=ks0; obtain _ | ⟨k01,ks0⟩:=ks0; obtain _ | ⟨k02,ks0⟩:=ks0; obtain _ | ⟨k03,ks0⟩:=ks0; cases ks0
      obtain ⟨v00,j00,y2⟩:=ebn y1; obtain ⟨x1,i00,y3⟩:=ebn y2
      obtain rfl:=aB j00 k00.ar i00
      obtain ⟨x3,j01,y4⟩:=ebn y3
      have s01:=arL_ok (E:=E90) dec90_ok E90_len j01 k01.ar
      obtain ⟨v02,j02,y5⟩:=ebn y4; obtain ⟨x4,i02,y6⟩:=ebn y5
      obtain rfl:=aB j02 k02.ar i02
      obtain ⟨x6,j03,y7⟩:=ebn y6
      have s03:=arL_ok (E:=E90) dec90_ok E90_len j03 k03.ar
      obtain ⟨l1,hl1,y8⟩:=ebn y7; obtain ⟨us1,hu1,ks1⟩:=arG_ok hl1 k1; subst hu1
      split at y8
      · rename_i a10 a11 a12 a13
        obtain _ | ⟨k10,ks1⟩:=ks1; obtain _ | ⟨k11,ks1⟩:=ks1; obtain _ | ⟨k12,ks1⟩:=ks1; obtain _ | ⟨k13,ks1⟩:=ks1; cases ks1
        obtain ⟨v10,j10,y9⟩:=ebn y8; obtain ⟨x7,i10,y10⟩:=ebn y9
        obtain rfl:=aB j10 k10.ar i10
        obtain ⟨x9,j11,y11⟩:=ebn y10
        have s11:=arL_ok (E:=E90) dec90_ok E90_len j11 k11.ar
        obtain ⟨v12,j12,y12⟩:=ebn y11; obtain ⟨x10,i12,y13⟩:=ebn y12
        obtain rfl:=aB j12 k12.ar i12
        obtain ⟨x12,j13,y14⟩:=ebn y13
        have s13:=arL_ok (E:=E90) dec90_ok E90_len j13 k13.ar
        obtain ⟨q,hq,hr⟩:=emp y14
        subst hr
        exact Calls.mono (ziO F x1 _ x3 x4 _ x6 x7 _ x9 x10 _ x12 w s01 s03 s11 s13 q hq) fun e w' ⟨(g1,g2),he,hS⟩=>by refine ⟨_,_,?_,(.a (.c (.lE E90_len E90_one (.c (.lE E90_len E90_one .nil)))) (.s (.c .nil) .nil)),hS⟩; exact he
      · cases y8
    · cases y1
  · cases hg⟩
def g_frac_Add (F:Nat):List Ar→Option (List Rp):=fun l=>match l with
  | [a0,a1]=>(arG a0).bind fun l0=>(match l0 with | [a00,a01,a02,a03]=>(arV a00).bind fun v00=>(asB v00).bind fun x1=>(arL dec90 a01).bind fun x3=>(arV a02).bind fun v02=>(asB v02).bind fun x4=>(arL dec90 a03).bind fun x6=>(arG a1).bind fun l1=>(match l1 with | [a10,a11,a12,a13]=>(arV a10).bind fun v10=>(asB v10).bind fun x7=>(arL dec90 a11).bind fun x9=>(arV a12).bind fun v12=>(asB v12).bind fun x10=>(arL dec90 a13).bind fun x12=>(zhw F x1 x3 x4 x6 x7 x9 x10 x12).map fun r=>[.a [.c (Bv r.1),.l 90 1 ((r.2.1).map E90),.c (Bv r.2.2.1),.l 90 1 ((r.2.2.2).map E90)],.s (.c (Iv 0))] | _=>none) | _=>none)
  | _=>none
theorem k_frac_Add (F:Nat):LiftG Tryz.prog 145 (g_frac_Add F):=⟨fun args vals r w h hg=>by
  unfold g_frac_Add at hg
  split at hg
  · rename_i a0 a1
    obtain _ | ⟨k0,h⟩:=h; obtain _ | ⟨k1,h⟩:=h; cases h
    obtain ⟨l0,hl0,y1⟩:=ebn hg; obtain ⟨us0,hu0,ks0⟩:=arG_ok hl0 k0; subst hu0
    split at y1
    · rename_i a00 a01 a02 a03
      obtain _ | ⟨k00,ks0⟩:=ks0; obtain _ | ⟨k01,ks0⟩:=ks0; obtain _ | ⟨k02,ks0⟩:=ks0; obtain _ | ⟨k03,ks0⟩:=ks0; cases ks0
      obtain ⟨v00,j00,y2⟩:=ebn y1; obtain ⟨x1,i00,y3⟩:=ebn y2
      obtain rfl:=aB j00 k00.ar i00
      obtain ⟨x3,j01,y4⟩:=ebn y3
      have s01:=arL_ok (E:=E90) dec90_ok E90_len j01 k01.ar
      obtain ⟨v02,j02,y5⟩:=ebn y4; obtain ⟨x4,i02,y6⟩:=ebn y5
      obtain rfl:=aB j02 k02.ar i02
      obtain ⟨x6,j03,y7⟩:=ebn y6
      have s03:=arL_ok (E:=E90) dec90_ok E90_len j03 k03.ar
      obtain ⟨l1,hl1,y8⟩:=ebn y7; obtain ⟨us1,hu1,ks1⟩:=arG_ok hl1 k1; subst hu1
      split at y8
      · rename_i a10 a11 a12 a13
        obtain _ | ⟨k10,ks1⟩:=ks1; obtain _ | ⟨k11,ks1⟩:=ks1; obtain _ | ⟨k12,ks1⟩:=ks1; obtain _ | ⟨k13,ks1⟩:=ks1; cases ks1
        obtain ⟨v10,j10,y9⟩:=ebn y8; obtain ⟨x7,i10,y10⟩:=ebn y9
        obtain rfl:=aB j10 k10.ar i10
        obtain ⟨x9,j11,y11⟩:=ebn y10
        have s11:=arL_ok (E:=E90) dec90_ok E90_len j11 k11.ar
        obtain ⟨v12,j12,y12⟩:=ebn y11; obtain ⟨x10,i12,y13⟩:=ebn y12
        obtain rfl:=aB j12 k12.ar i12
        obtain ⟨x12,j13,y14⟩:=ebn y13
        have s13:=arL_ok (E:=E90) dec90_ok E90_len j13 k13.ar
        obtain ⟨q,hq,hr⟩:=emp y14
        subst hr
        exact Calls.mono (ziP F x1 _ x3 x4 _ x6 x7 _ x9 x10 _ x12 w s01 s03 s11 s13 q hq) fun e w' ⟨(g1,g2),he,hS⟩=>by refine ⟨_,_,?_,(.a (.c (.lE E90_len E90_one (.c (.lE E90_len E90_one .nil)))) (.s (.c .nil) .nil)),hS⟩; exact he
      · cases y8
    · cases y1
  · cases hg⟩
def g_frac_Check (F:Nat):List Ar→Option (List Cp):=fun l=>match l with
  | [a0]=>(arG a0).bind fun l0=>(match l0 with | [a00,a01,a02,a03]=>(arV a00).bind fun v00=>(asB v00).bind fun x1=>(arL dec90 a01).bind fun x3=>(arV a02).bind fun v02=>(asB v02).bind fun x4=>(arL dec90 a03).bind fun x6=>(zbd F x1 x3 x4 x6).map fun r=>[.s (Iv r)] | _=>none)
  | _=>none
theorem k_frac_Check (F:Nat):LiftA Tryz.prog 67 (g_frac_Check F):=⟨fun args vals r w h hg=>by
  unfold g_frac_Check at hg
  split at hg
  · rename_i a0
    obtain _ | ⟨k0,h⟩:=h; cases h
    obtain ⟨l0,hl0,y1⟩:=ebn hg; obtain ⟨us0,hu0,ks0⟩:=arG_ok hl0 k0; subst hu0
    split at y1
    · rename_i a00 a01 a02 a03
      obtain _ | ⟨k00,ks0⟩:=ks0; obtain _ | ⟨k01,ks0⟩:=ks0; obtain _ | ⟨k02,ks0⟩:=ks0; obtain _ | ⟨k03,ks0⟩:=ks0; cases ks0
      obtain ⟨v00,j00,y2⟩:=ebn y1; obtain ⟨x1,i00,y3⟩:=ebn y2
      obtain rfl:=aB j00 k00.ar i00
      obtain ⟨x3,j01,y4⟩:=ebn y3
      have s01:=arL_ok (E:=E90) dec90_ok E90_len j01 k01.ar
      obtain ⟨v02,j02,y5⟩:=ebn y4; obtain ⟨x4,i02,y6⟩:=ebn y5
      obtain rfl:=aB j02 k02.ar i02
      obtain ⟨x6,j03,y7⟩:=ebn y6
      have s03:=arL_ok (E:=E90) dec90_ok E90_len j03 k03.ar
      obtain ⟨q,hq,hr⟩:=emp y7
      subst hr
      exact Calls.mono (za6 F x1 _ x3 x4 _ x6 w s01 s03 q hq) fun e w' ⟨_,he,hS⟩=>⟨he,hS⟩
    · cases y1
  · cases hg⟩
def g_ref02_Of (F:Nat):List Ar→Option (List Rp):=fun l=>match l with
  | [a0,a1]=>(arV a0).bind fun v0=>(asI .i64 v0).bind fun x1=>(arV a1).bind fun v1=>(asI .i64 v1).bind fun x2=>(zhx F x1 x2).map fun r=>[.a [.c (Bv r.1),.l 90 1 ((r.2.1).map E90),.c (Bv r.2.2.1),.l 90 1 ((r.2.2.2).map E90)],.s (.c (Iv 0))]
  | _=>none
theorem k_ref02_Of (F:Nat):LiftG Tryz.prog 14 (g_ref02_Of F):=⟨fun args vals r w h hg=>by
  unfold g_ref02_Of at hg
  split at hg
  · rename_i a0 a1
    obtain _ | ⟨k0,h⟩:=h; obtain _ | ⟨k1,h⟩:=h; cases h
    obtain ⟨v0,j0,y1⟩:=ebn hg; obtain ⟨x1,i0,y2⟩:=ebn y1
    obtain rfl:=aI j0 k0 i0
    obtain ⟨v1,j1,y3⟩:=ebn y2; obtain ⟨x2,i1,y4⟩:=ebn y3
    obtain rfl:=aI j1 k1 i1
    obtain ⟨q,hq,hr⟩:=emp y4
    subst hr
    exact Calls.mono (ziQ F x1 x2 w  q hq) fun e w' ⟨(g1,g2),he,hS⟩=>by refine ⟨_,_,?_,(.a (.c (.lE E90_len E90_one (.c (.lE E90_len E90_one .nil)))) (.s (.c .nil) .nil)),hS⟩; exact he
  · cases hg⟩
def smL:SmT:=fun f=>match f with
  | 21=>some (gLift (g_reduce_isWord 10000))
  | 6=>some (gLift (g_reduce_Light 10000))
  | 24=>some (gLiftA (g_sphere_Lift 10000))
  | 67=>some (gLiftA (g_frac_Check 10000))
  | 101=>some (gLiftG growG)
  | 39=>some (gLiftG (g_frac_Of 10000))
  | 54=>some (gLiftG (g_frac_Mul 10000))
  | 53=>some (gLiftG (g_frac_Sub 10000))
  | 40=>some (gLiftG (g_frac_Div 10000))
  | 145=>some (gLiftG (g_frac_Add 10000))
  | 14=>some (gLiftG (g_ref02_Of 10000))
  | _=>none
theorem smL_ok:∀ f g,smL f=some g→∀ w0 X B vs H nx,(g B vs H nx).Ok (FunOK Tryz.prog w0 X B f vs H nx):=by
  intro f g h
  unfold smL at h
  split at h
  · simp only [Option.some.injEq] at h; subst h; exact gLift_ok (k_reduce_isWord 10000)
  · simp only [Option.some.injEq] at h; subst h; exact gLift_ok (k_reduce_Light 10000)
  · simp only [Option.some.injEq] at h; subst h; exact gLiftA_ok (k_sphere_Lift 10000)
  · simp only [Option.some.injEq] at h; subst h; exact gLiftA_ok (k_frac_Check 10000)
  · simp only [Option.some.injEq] at h; subst h; exact gLiftG_ok k_grow
  · simp only [Option.some.injEq] at h; subst h; exact gLiftG_ok (k_frac_Of 10000)
  · simp only [Option.some.injEq] at h; subst h; exact gLiftG_ok (k_frac_Mul 10000)
  · simp only [Option.some.injEq] at h; subst h; exact gLiftG_ok (k_frac_Sub 10000)
  · simp only [Option.some.injEq] at h; subst h; exact gLiftG_ok (k_frac_Div 10000)
  · simp only [Option.some.injEq] at h; subst h; exact gLiftG_ok (k_frac_Add 10000)
  · simp only [Option.some.injEq] at h; subst h; exact gLiftG_ok (k_ref02_Of 10000)
  · cases h
end Go.Proofs.YthfhopkibabfhaaGreatDoor

namespace Go.Proofs.YthfhopkibabfhaaGreatDoor
open Go Go.SL Go.RX
set_option maxRecDepth 1000000
def nW:FuncId→Bool:=fun _=>false
def wrR:FuncId→Bool:=fun f=>match f with
  | 51 | 52 | 110 | 69 | 70=>true
  | _=>false
def rA:List Cp:=[.a [Iv 2000,Iv 1,Iv 1,Iv 11,Iv 58,Iv 55,Iv 816000],.s (Iv 0)]
def rB:List Cp:=[.a [Iv 0,Iv 0,Iv 0,Iv 0,Iv 0,Iv 0,Iv 0],.s (Iv 16)]
theorem tu0:PureA Tryz.prog 27 [Iv 0] rA:=pureA_of (kp:=nW) (Sm:=smL) (wrF:=wrR) (F:=1000) (m:=50) smL_ok (by kernel_rfl)
theorem tu1:PureA Tryz.prog 27 [Iv 4611686018427387904] rB:=pureA_of (kp:=nW) (Sm:=smL) (wrF:=wrR) (F:=1000) (m:=50) smL_ok (by kernel_rfl)
def tuT:List (List Value × List Cp):=[([Iv 0],rA),([Iv 4611686018427387904],rB)]
def smM:SmT:=fun f=>match f with
  | 27=>some (gLift (lkA tuT))
  | _=>smL f
theorem smM_ok:∀ f g,smM f=some g→∀ w0 X B vs H nx,(g B vs H nx).Ok (FunOK Tryz.prog w0 X B f vs H nx):=by
  intro f g h
  unfold smM at h
  split at h
  · simp only [Option.some.injEq] at h; subst h; exact gLift_ok (liftA_tab ⟨tu0,tu1,trivial⟩)
  · exact smL_ok _ _ h
def powR:List (List Int):=[[0,0],[1,0],[0,1],[2,0],[1,1],[0,2],[3,0],[2,1],[1,2],[0,3]]
def powL:List Value:=[Iv 0,Iv 0,Iv 1,Iv 0,Iv 0,Iv 1,Iv 2,Iv 0,Iv 1,Iv 1,Iv 0,Iv 2,Iv 3,Iv 0,Iv 2,Iv 1,Iv 1,Iv 2,Iv 0,Iv 3]
noncomputable def TT:Tab:=hT Tryz.prog nW smM wrR 1000 50
theorem TTok:TabOK Tryz.prog TT:=hT_ok smM_ok 50
noncomputable abbrev bd:Code:=bodyOf Tryz.prog 3
def BB (ty:TypeId):List (Nat × Ent):=[(0,.gl 0 (powL.map .c) ty)]
abbrev iV (n:Int):V:=.c (.int .i64 n)
abbrev bV (b:Bool):V:=.c (.bool b)
abbrev wV (n:Int):V:=.c (.int .u32 n)
abbrev nV:V:=.c (.slice none 0 0)
abbrev LV (l:List (List V)):List (List V):=l
abbrev lf (u:V):Fm:=.n (some u) .e .e .e .e .e .e .e .e
def rd_s0:S:=⟨argsV 0 [],[],1,[]⟩
def rd_s11:S:=⟨.n (some (bV false)) (.n (some (.p 29 0)) .e (lf (iV 8)) .e .e .e .e .e .e) (.n (some (.p 34 0)) (lf (iV 2)) .e .e .e .e .e .e .e) .e (.n (some (iV 2)) (lf (iV 2)) (lf (iV 4)) .e .e .e .e .e .e) .e (.n (some (iV 2)) (lf (iV 8)) .e .e .e .e .e .e .e) .e (lf (iV 2)),[(34,.cel [bV false,.sl 31,bV false,.sl 32] 32),(31,.arr 90 (.row 1) (LV [])),(32,.arr 90 (.row 1) (LV [[wV 1]])),(29,.cel [.c (.string ⟨#[70,53,49]⟩),iV 0,iV 0,iV 0,iV 3,.sl 14,.sl 27,iV 100000,iV 2500,.c (.int .u8 119)] 26),(27,.arr 32 (.row 4) (LV [[bV false,.sl 16,bV false,.sl 17],[bV false,.sl 20,bV false,.sl 21],[bV false,.sl 24,bV false,.sl 25]])),(24,.arr 90 (.row 1) (LV [[wV 1]])),(25,.arr 90 (.row 1) (LV [[wV 1]])),(20,.arr 90 (.row 1) (LV [])),(21,.arr 90 (.row 1) (LV [[wV 1]])),(16,.arr 90 (.row 1) (LV [])),(17,.arr 90 (.row 1) (LV [[wV 1]])),(14,.arr 32 (.row 4) (LV [[bV false,.sl 3,bV false,.sl 4],[bV false,.sl 7,bV false,.sl 8],[bV false,.sl 11,bV false,.sl 12]])),(11,.arr 90 (.row 1) (LV [])),(12,.arr 90 (.row 1) (LV [[wV 1]])),(7,.arr 90 (.row 1) (LV [[wV 1]])),(8,.arr 90 (.row 1) (LV [[wV 1]])),(3,.arr 90 (.row 1) (LV [])),(4,.arr 90 (.row 1) (LV [[wV 1]]))],201,[]⟩
def rd_s13:S:=⟨.n (some (bV false)) (.n (some (.p 29 0)) .e (lf (iV 8)) .e .e .e .e .e .e) (.n (some (.p 34 0)) (lf (iV 2)) .e .e .e .e .e .e .e) .e (.n (some (iV 2)) (lf (iV 2)) (lf (iV 4)) .e .e .e .e .e .e) (.n none .e (lf (.p 202 0)) .e .e .e .e .e .e) (.n (some (iV 2)) (lf (iV 8)) (lf (.sl 906)) .e .e .e .e .e .e) (.n none .e (lf (.sl 908)) .e .e .e .e .e .e) (.n (some (iV 2)) .e (lf (iV 0)) .e .e .e .e .e .e),[(908,.arr 3 (.row 1) (LV [[iV 0],[iV 2]])),(906,.arr 38 (.row 8) (LV [[.c (.string ⟨#[116,48]⟩),.c (.string ⟨#[70,53,49]⟩),iV 0,iV 0,iV 0,iV 100000,iV 2000,.c (.int .u8 119)],[.c (.string ⟨#[116,50]⟩),.c (.string ⟨#[70,53,49]⟩),iV 0,iV 0,iV 0,iV 100000,iV 1500,.c (.int .u8 119)]])),(202,.cel [iV 3,iV 1,.sl 201] 51),(201,.arr 2 (.row 1) (LV [[iV 100],[iV 0],[iV 10000]])),(34,.cel [bV false,.sl 31,bV false,.sl 32] 32),(31,.arr 90 (.row 1) (LV [])),(32,.arr 90 (.row 1) (LV [[wV 1]])),(29,.cel [.c (.string ⟨#[70,53,49]⟩),iV 0,iV 0,iV 0,iV 3,.sl 14,.sl 27,iV 100000,iV 2500,.c (.int .u8 119)] 26),(27,.arr 32 (.row 4) (LV [[bV false,.sl 16,bV false,.sl 17],[bV false,.sl 20,bV false,.sl 21],[bV false,.sl 24,bV false,.sl 25]])),(24,.arr 90 (.row 1) (LV [[wV 1]])),(25,.arr 90 (.row 1) (LV [[wV 1]])),(20,.arr 90 (.row 1) (LV [])),(21,.arr 90 (.row 1) (LV [[wV 1]])),(16,.arr 90 (.row 1) (LV [])),(17,.arr 90 (.row 1) (LV [[wV 1]])),(14,.arr 32 (.row 4) (LV [[bV false,.sl 3,bV false,.sl 4],[bV false,.sl 7,bV false,.sl 8],[bV false,.sl 11,bV false,.sl 12]])),(11,.arr 90 (.row 1) (LV [])),(12,.arr 90 (.row 1) (LV [[wV 1]])),(7,.arr 90 (.row 1) (LV [[wV 1]])),(8,.arr 90 (.row 1) (LV [[wV 1]])),(3,.arr 90 (.row 1) (LV [])),(4,.arr 90 (.row 1) (LV [[wV 1]]))],909,[]⟩
def rd_s18:S:=⟨.n (some (bV false)) (.n (some (.p 29 0)) .e (lf (iV 8)) .e .e .e .e .e .e) (.n (some (.p 34 0)) (lf (iV 2)) .e .e .e .e .e .e .e) (.n none .e .e (lf (iV 2)) .e .e .e .e .e) (.n (some (iV 2)) (lf (iV 2)) (lf (iV 4)) (lf (.p 1195 0)) .e .e .e .e .e) (.n none .e .e (lf (iV 0)) .e .e .e .e .e) (.n (some (iV 2)) (lf (iV 8)) (lf (.sl 906)) (lf (.p 1451 0)) .e .e .e .e .e) (.n none .e (lf (.sl 908)) (lf (iV 0)) .e .e .e .e .e) (.n (some (iV 2)) .e (lf (iV 0)) .e .e .e .e .e .e),[(1451,.cel [.c (.string ⟨#[97]⟩),.c (.string ⟨#[70,53,49]⟩),iV 0,iV 0,iV 0,iV 100000,iV 9999,.c (.int .u8 32)] 38),(25,.arr 90 (.row 1) (LV [[wV 1]])),(24,.arr 90 (.row 1) (LV [[wV 1]])),(12,.arr 90 (.row 1) (LV [[wV 1]])),(11,.arr 90 (.row 1) (LV [])),(32,.arr 90 (.row 1) (LV [[wV 1]])),(31,.arr 90 (.row 1) (LV [])),(21,.arr 90 (.row 1) (LV [[wV 1]])),(20,.arr 90 (.row 1) (LV [])),(8,.arr 90 (.row 1) (LV [[wV 1]])),(7,.arr 90 (.row 1) (LV [[wV 1]])),(17,.arr 90 (.row 1) (LV [[wV 1]])),(16,.arr 90 (.row 1) (LV [])),(4,.arr 90 (.row 1) (LV [[wV 1]])),(3,.arr 90 (.row 1) (LV [])),(1195,.cel [.c (.string ⟨#[97]⟩),.c (.string ⟨#[70,53,49]⟩),iV 0,iV 0,iV 0,iV 100000,iV 9999,.c (.int .u8 32)] 38),(908,.arr 3 (.row 1) (LV [[iV 0],[iV 2]])),(906,.arr 38 (.row 8) (LV [[.c (.string ⟨#[116,48]⟩),.c (.string ⟨#[70,53,49]⟩),iV 0,iV 0,iV 0,iV 100000,iV 2000,.c (.int .u8 119)],[.c (.string ⟨#[116,50]⟩),.c (.string ⟨#[70,53,49]⟩),iV 0,iV 0,iV 0,iV 100000,iV 1500,.c (.int .u8 119)]])),(34,.cel [bV false,.sl 31,bV false,.sl 32] 32),(29,.cel [.c (.string ⟨#[70,53,49]⟩),iV 0,iV 0,iV 0,iV 3,.sl 14,.sl 27,iV 100000,iV 0,.c (.int .u8 119)] 26),(27,.arr 32 (.row 4) (LV [[bV false,.sl 16,bV false,.sl 17],[bV false,.sl 20,bV false,.sl 21],[bV false,.sl 24,bV false,.sl 25]])),(14,.arr 32 (.row 4) (LV [[bV false,.sl 3,bV false,.sl 4],[bV false,.sl 7,bV false,.sl 8],[bV false,.sl 11,bV false,.sl 12]]))],1452,[]⟩
def rd_s23:S:=⟨.n (some (bV false)) (lf (.p 29 0)) .e .e (.n none .e .e .e (lf (bV true)) .e .e .e .e) (.n none .e .e .e (lf (bV true)) .e .e .e .e) .e .e .e,[(25,.arr 90 (.row 1) (LV [[wV 1]])),(24,.arr 90 (.row 1) (LV [[wV 1]])),(21,.arr 90 (.row 1) (LV [[wV 1]])),(20,.arr 90 (.row 1) (LV [])),(17,.arr 90 (.row 1) (LV [[wV 1]])),(16,.arr 90 (.row 1) (LV [])),(12,.arr 90 (.row 1) (LV [[wV 1]])),(11,.arr 90 (.row 1) (LV [])),(8,.arr 90 (.row 1) (LV [[wV 1]])),(7,.arr 90 (.row 1) (LV [[wV 1]])),(4,.arr 90 (.row 1) (LV [[wV 1]])),(3,.arr 90 (.row 1) (LV [])),(29,.cel [.c (.string ⟨#[70,53,49]⟩),iV 0,iV 0,iV 0,iV 3,.sl 14,.sl 27,iV 100000,iV 0,.c (.int .u8 119)] 26),(27,.arr 32 (.row 4) (LV [[bV false,.sl 16,bV false,.sl 17],[bV false,.sl 20,bV false,.sl 21],[bV false,.sl 24,bV false,.sl 25]])),(14,.arr 32 (.row 4) (LV [[bV false,.sl 3,bV false,.sl 4],[bV false,.sl 7,bV false,.sl 8],[bV false,.sl 11,bV false,.sl 12]]))],1699,[]⟩
def rd_s25:S:=⟨lf (bV true),[],2261,[]⟩
def rd_s26:S:=⟨lf (bV true),[],2261,[]⟩
theorem rd_p0 (ty:TypeId):pieceR [0,1,2,4,6,8,10,12,14,17,20] [32,31,34,25,24,21,20,17,16,27,12,11,8,7,4,3,14,29] (runs Tryz.prog wrR 1000 279 (BB ty) TT 11 (tlc 0 bd) rd_s0)=some rd_s11:=by kernel_rfl
theorem rd_p11 (ty:TypeId):pieceR [0,1,2,4,6,8,10,12,14,17,20,21,22,23,24] [908,906,201,202,32,31,34,25,24,21,20,17,16,27,12,11,8,7,4,3,14,29] (runs Tryz.prog wrR 1000 279 (BB ty) TT 2 (tlc 11 bd) rd_s11)=some rd_s13:=by kernel_rfl
theorem rd_p13 (ty:TypeId):pieceR [0,1,2,4,6,8,10,12,14,17,20,22,23,24,27,28,29,30,31] [908,1451,906,1195,32,31,34,25,24,21,20,17,16,27,12,11,8,7,4,3,14,29] (runs Tryz.prog wrR 1000 279 (BB ty) TT 5 (tlc 13 bd) rd_s13)=some rd_s18:=by kernel_rfl
theorem rd_p18 (ty:TypeId):pieceR [0,1,36,37] [25,24,21,20,17,16,27,12,11,8,7,4,3,14,29] (runs Tryz.prog wrR 1000 279 (BB ty) TT 5 (tlc 18 bd) rd_s18)=some rd_s23:=by kernel_rfl
theorem rd_p23 (ty:TypeId):pieceR [0] [] (runs Tryz.prog wrR 1000 279 (BB ty) TT 2 (tlc 23 bd) rd_s23)=some rd_s25:=by kernel_rfl
theorem rd_p25 (ty:TypeId):((hcode Tryz.prog wrR 1000 true 279 (tlc 25 bd)).run (BB ty) TT rd_s25).conc=some (.r,rd_s26):=by kernel_rfl
theorem rd_q25 (ty:TypeId) (w0:World):CodeOK none Tryz.prog w0 noX (BB ty) 279 rd_s25 (tlc 25 bd) (.r,rd_s26):=chain0 TTok (rd_p25 ty)
theorem rd_q23 (ty:TypeId) (w0:World):CodeOK none Tryz.prog w0 noX (BB ty) 279 rd_s23 (tlc 23 bd) (.r,rd_s26):=chainM TTok 23 2 (rd_p23 ty) (rd_q25 ty w0)
theorem rd_q18 (ty:TypeId) (w0:World):CodeOK none Tryz.prog w0 noX (BB ty) 279 rd_s18 (tlc 18 bd) (.r,rd_s26):=chainM TTok 18 5 (rd_p18 ty) (rd_q23 ty w0)
theorem rd_q13 (ty:TypeId) (w0:World):CodeOK none Tryz.prog w0 noX (BB ty) 279 rd_s13 (tlc 13 bd) (.r,rd_s26):=chainM TTok 13 5 (rd_p13 ty) (rd_q18 ty w0)
theorem rd_q11 (ty:TypeId) (w0:World):CodeOK none Tryz.prog w0 noX (BB ty) 279 rd_s11 (tlc 11 bd) (.r,rd_s26):=chainM TTok 11 2 (rd_p11 ty) (rd_q13 ty w0)
theorem rd_q0 (ty:TypeId) (w0:World):CodeOK none Tryz.prog w0 noX (BB ty) 279 rd_s0 (tlc 0 bd) (.r,rd_s26):=chainM TTok 0 11 (rd_p0 ty) (rd_q11 ty w0)
theorem rd_pure (ty:TypeId) (w:World) (hw:w.heap[0]? = some (.cells powL.toArray ty (0,0))):Calls Tryz.prog 3 #[] w fun e w'=>e=.returned (.bool true)∧St w w' noX [] [] :=
  pureG_chain (n:=279) (by kernel_rfl) (fun w0=>rd_q0 ty w0) (by kernel_rfl) w hw
end Go.Proofs.YthfhopkibabfhaaGreatDoor

namespace Go.SL
open Go Go.Lib
theorem chunks_eq {α:Type} {m:Nat}:∀ (L:List (List α)) (cs:List α),cs.length=L.length*m→(∀ i (h:i<L.length),(cs.drop (i*m)).take m=L[i])→cs=L.flatten
  | [],cs,hl,_=>by
    simp at hl
    simp [hl]
  | r::t,cs,hl,h=>by
    have h0:=h 0 (by simp)
    simp only [Nat.zero_mul,List.drop_zero,List.getElem_cons_zero] at h0
    have ih:=chunks_eq (m:=m) t (cs.drop m) (by
      simp only [List.length_cons,Nat.succ_mul] at hl
      rw [List.length_drop]; omega) (fun i hi=>by
      have:=h (i+1) (by simp; omega)
      simp only [List.getElem_cons_succ] at this
      rw [List.drop_drop,← this]
      congr 2
      rw [Nat.succ_mul]; omega)
    rw [List.flatten_cons,← h0,← ih,List.take_append_drop]
theorem cells_of_tab2 {H:Type} {enc:TypeId × Value→H} {P:Program} {w:World} {base:Nat} {sp:Nat→Bool} {held:Bool} {fuel:Nat} {t e e':TypeId} {n m:Nat} {k:IntKind} {cs:List Value} {rows:List (List Int)} {p:List MemPlace}
    (ht:P.underlying t=some (.array n e)) (he:P.underlying e=some (.array m e')) (he':P.underlying e'=some (.int k)) (hce':P.cellsOf e'=1) (hce:P.cellsOf e=m) (hct:P.cellsOf t=n*m)
    (h:DataW.trod enc P w base sp held fuel t cs=some (.agg (rows.map (tabData k)),p)):cs=(rows.map fun zs=>zs.map fun z=>Value.int k z).flatten:=by
  cases fuel with
  | zero=>simp [DataW.trod] at h
  | succ fuel =>
    simp only [DataW.trod,ht,hce,hct] at h
    split at h
    · rename_i hl
      obtain ⟨xs,hm,hx⟩:=Option.map_eq_some_iff.1 h
      have hxs:xs.map (·.1)=rows.map (tabData (H:=H) k):=by
        have:=congrArg Prod.fst hx
        simpa using this
      have hxl:xs.length=n:=by simpa using mapM_length hm
      have hrl:rows.length=n:=by
        have:=congrArg List.length hxs
        simp at this
        omega
      refine chunks_eq (m:=m) _ cs (by rw [List.length_map,hrl]; simpa using hl) (fun i hi=>?_)
      rw [List.length_map] at hi
      obtain ⟨b,hb,hf⟩:=mapM_at hm i i (by simp [← hrl,hi])
      have h2:(xs.map (·.1))[i]? = some b.1:=by simp [hb]
      rw [hxs,List.getElem?_map,List.getElem?_eq_getElem hi] at h2
      have h2:b.1=tabData k rows[i]:=by simpa using h2.symm
      have hf':DataW.trod enc P w base sp held fuel e ((cs.drop (i*m)).take m)=some (tabData k rows[i],b.2):=by rw [← h2]; exact hf
      rw [cells_of_tab he he' hce' hce hf',List.getElem_map]
    · cases h
theorem LaidVars_places {P:Program} {w:World}:∀ {l:List (String × DataW Unit)} {ps:List MemPlace},DataW.LaidVars P w l ps→∀ n d,(n,d) ∈ l →
    ∃ g t cs fuel p,P.globalNamed n=some g∧(P.globals[g]?).map (·.type)=some t∧w.var? P n=some cs∧DataW.trod (fun _=>()) P w 0 (fun _=>true) false fuel t cs.toList=some (d,p)∧∀ x ∈ MemPlace.row ⟨g,0,none⟩ cs.size,x ∈ ps
  | [],_,_,_,_,hm=>by cases hm
  | (n',d')::r,ps,h,n,d,hm=>by
    obtain ⟨g,t,cs,fuel,p,q,h1,h2,h3,h4,h5,h6⟩:=h
    rcases List.mem_cons.1 hm with e | e
    · cases e
      exact ⟨g,t,cs,fuel,p,h1,h2,h3,h4,fun x hx=>by rw [h6]; simp [hx]⟩
    · obtain ⟨g',t',cs',fuel',p',k1,k2,k3,k4,k5⟩:=LaidVars_places h5 n d e
      exact ⟨g',t',cs',fuel',p',k1,k2,k3,k4,fun x hx=>by rw [h6]; simp [k5 x hx]⟩
theorem laid_tab2 {P:Program} {W:World} {laid:List (String × DataW Unit)} {name:String} {g n m:Nat} {t e e':TypeId} {k:IntKind} {rows:List (List Int)} (h:laidMet P laid W) (hm:(name,DataW.agg (rows.map (tabData k))) ∈ laid)
    (hg:P.globalNamed name=some g) (hty:(P.globals[g]?).map (·.type)=some t) (ht:P.underlying t=some (.array n e)) (he:P.underlying e=some (.array m e')) (he':P.underlying e'=some (.int k)) (hce':P.cellsOf e'=1) (hce:P.cellsOf e=m) (hct:P.cellsOf t=n*m)
    (h0:0<(rows.map fun zs=>zs.map fun z=>Value.int k z).flatten.length):∃ ty,W.heap[g]? = some (.cells (rows.map fun zs=>zs.map fun z=>Value.int k z).flatten.toArray ty (0,0)):=by
  obtain ⟨ps,hv,_,hcell⟩:=h
  obtain ⟨g',t',cs,fuel,p,h1,h2,h3,h4,h5⟩:=LaidVars_places hv _ _ hm
  obtain rfl:=Option.some.inj (hg.symm.trans h1)
  obtain rfl:=Option.some.inj (hty.symm.trans h2)
  have hcs:=cells_of_tab2 ht he he' hce' hce hct h4
  have hsz:0<cs.size:=by
    have:=congrArg List.length hcs
    simp only [Array.length_toList] at this
    omega
  obtain ⟨⟨c,ty,hc⟩,_⟩:=hcell g 0 (h5 _ (by
    unfold MemPlace.row
    exact List.mem_map.2 ⟨0,List.mem_range.2 hsz,by simp⟩))
  refine ⟨ty,?_⟩
  unfold World.var? at h3
  rw [hg] at h3
  simp only [Option.bind_some,hc,Option.some.injEq] at h3
  rw [hc,h3,← hcs]
end Go.SL

namespace Go.SL
open Go Go.ChangeShapes Go.WideShapes Go.ChangeAt Go.RowKit
inductive LK where
  | int (k:IntKind)
  | bool
  | str
def LK.ok:LK→Value→Prop
  | .int k,v=>∃ n,v=.int k n∧(Lit.int k n).wf=true
  | .bool,v=>∃ b,v=.bool b
  | .str,v=>∃ s:ByteArray,v=.string s∧s.size≤maxLen
def AllK:List LK→List Value→Prop
  | [],cs=>cs=[]
  | k::ks,cs=>∃ v t,cs=v::t∧k.ok v∧AllK ks t
theorem AllK.app:∀ {ks ks':List LK} {a b:List Value},AllK ks a→AllK ks' b→AllK (ks++ks') (a++b)
  | [],_,a,b,h1,h2=>by
    have h1:a=[]:=h1
    subst h1; exact h2
  | k::ks,_,a,b,⟨v,t,h1,h2,h3⟩,h4=>by
    subst h1
    exact ⟨v,t++b,rfl,h2,AllK.app h3 h4⟩
def leafFs (P:Program) (f:TypeId→Option (List LK)):List Field→Nat→Option (List LK × Nat)
  | [],o=>some ([],o)
  | g::t,o=>if Nat.beq g.offset o=true then
      match f g.type with
      | some ks=>if Nat.beq ks.length (P.cellsOf g.type)=true then
          match leafFs P f t (o+ks.length) with
          | some (r,o')=>some (ks++r,o')
          | none=>none
        else none
      | none=>none
    else none
def leafK (P:Program):Nat→TypeId→Option (List LK)
  | 0,_=>none
  | d+1,t=>match P.underlying t with
    | some (.int k)=>some [.int k]
    | some .bool=>some [.bool]
    | some .string=>some [.str]
    | some (.struct fs)=>match leafFs P (leafK P d) fs.toList 0 with
      | some (ks,o)=>if Nat.beq o (P.cellsOf t)=true then some ks else none
      | none=>none
    | some (.array n e)=>match leafK P d e with
      | some ks=>if (Nat.beq ks.length (P.cellsOf e)&&Nat.beq (n*ks.length) (P.cellsOf t))=true then some (List.replicate n ks).flatten else none
      | none=>none
    | _=>none
section
variable {H:Type} {enc:TypeId × Value→H} {P:Program} {w:World} {base:Nat} {spare:Nat→Bool} {held:Bool}
end
theorem Below.trodAll {H:Type} {enc:TypeId × Value→H} {P:Program} (hl:laidOutB P=true) {W W':World} (hb:RowKit.Below W.heap.size W W'):∀ (ts:List TypeId) (vs:List Value) (ds:List (DataW H)) (p:List MemPlace),
    (ts.all fun t=>P.readableRec t&&Nat.blt t P.types.size)=true→DataW.TrodAll enc P W 0 (fun _=>true) true ts vs ds p→(∀ x ∈ p,x.block<W.heap.size)→DataW.TrodAll enc P W' 0 (fun b=>decide (b<W.heap.size)) true ts vs ds p
  | [],[],[],p,_,h,_=>h
  | [],[],_::_,p,_,h,_=>by simp [DataW.TrodAll] at h
  | [],_::_,_,p,_,h,_=>by simp [DataW.TrodAll] at h
  | _::_,[],_,p,_,h,_=>by simp [DataW.TrodAll] at h
  | _::_,_::_,[],p,_,h,_=>by simp [DataW.TrodAll] at h
  | t::ts,v::vs,d::ds,p,ha,h,hlt=>by
    simp only [List.all_cons,Bool.and_eq_true] at ha
    obtain ⟨p1,p2,h1,h2,rfl⟩:=h
    exact ⟨p1,p2,RowKit.Below.trod hl ha.1.1 (by simpa using ha.1.2) h1 hb (fun x hx=>hlt x (List.mem_append_left _ hx)),Below.trodAll hl hb ts vs ds p2 ha.2 h2 (fun x hx=>hlt x (List.mem_append_right _ hx)),rfl⟩
theorem trodAll_unnil {H:Type} {enc:TypeId × Value→H} {P:Program} {w:World} {base:Nat} {spare:Nat→Bool} {held:Bool} {args:List Value} {ds:List (DataW H)} {p:List MemPlace}
    (h:DataW.TrodAll enc P w base spare held [] args ds p):args=[]∧ds=[]:=by
  cases args with
  | nil =>
    cases ds with
    | nil=>exact ⟨rfl,rfl⟩
    | cons=>simp [DataW.TrodAll] at h
  | cons=>simp [DataW.TrodAll] at h
end Go.SL

namespace Go.Proofs.YthfhopkibabfhaaGreatDoor
open Go Go.SL Go.RX Go.ChangeShapes Go.WideShapes Go.ChangeAt Go.RowKit
theorem Tryz.own:ownKnob Tryz.prog.godebug=none:=by kernel_rfl
theorem Tryz.laidOut:laidOutB Tryz.prog=true:=by kernel_rfl
theorem door_met (os:Os) (args:Array Value):laidMetH Tryz.prog Rows.reduceNamesRow.laid ((World.laidAll Tryz.prog os Rows.reduceNamesRow.laid).forCall (fun _ _=>0) ⟨#[],args,[]⟩).memory:=by
  rw [MakeChecks.laidMetH_plain _ _ _ (by kernel_rfl)]
  exact laidMet_laidAll _ (by kernel_rfl) (by kernel_rfl)
set_option maxRecDepth 100000 in
theorem reduceNames_lifted (os:Os) (started:os.Started) (H:Type) (enc:TypeId × Value→H) :
    ReturnsInHanded {} Tryz.checked os 3 .any (fun w args=>(Rows.reduceNamesSpec.pre enc Tryz.prog Tryz.f3 [] false w args∧laidMetH Tryz.prog Rows.reduceNamesRow.laid w)∧sizedMet enc Tryz.prog Tryz.f3 (OpenSpec.ofChange Rows.reduceNamesSpec) false w args) (Rows.reduceNamesSpec.post enc Tryz.prog Tryz.f3 false true false false):=by
  refine returnsInHanded_of_change_and (C:=Tryz.checked) (X:=fun w _=>laidMetH Tryz.prog Rows.reduceNamesRow.laid w) (fun _ _ _ hh h=>h.of_heap hh) Tryz.own started (by kernel_rfl) Tryz.func3
    (ChangeSpec.witness_shaped (enc:=enc) (C:=Tryz.checked) (os:=os) (X:=fun w _=>laidMetH Tryz.prog Rows.reduceNamesRow.laid w) false (World.laidAll Tryz.prog os Rows.reduceNamesRow.laid) #[] 8 rfl (World.shaped_of_ZipB (by kernel_rfl) (by kernel_rfl)) (by kernel_rfl) (by kernel_rfl) (by kernel_rfl) (door_met os _)) ?_
  intro W base args ds gs before hval0 hW _ _ hL _
  have hW':=hW
  obtain ⟨p,q,hA0,hV,rfl,hfz,hnd⟩:=hW
  have hA:DataW.TrodAll enc Tryz.prog W 0 (fun _=>true) true [] args.toList ds p:=hA0
  obtain ⟨rfl,rfl⟩:=trodVars_none hV
  have hA':=hA
  obtain ⟨e1,rfl⟩:=trodAll_unnil hA
  obtain rfl:args=#[]:=by
    apply Array.ext'
    simpa using e1
  have hlm:laidMet Tryz.prog Rows.reduceNamesRow.laid W:=by
    have h:=hL
    rw [MakeChecks.laidMetH_plain _ _ _ (by kernel_rfl)] at h; exact h
  obtain ⟨ty,hp⟩:=laid_tab2 (k:=.i64) (rows:=powR) (name:="planisphere/plate.powers") (g:=0) (n:=10) (m:=2) (t:=150) (e:=149) (e':=3) hlm (by simp [Rows.reduceNamesRow,Rows.laid_planisphere_plate_powers,powR,Go.Lib.tabData]) (by kernel_rfl) (by kernel_rfl) (by kernel_rfl) (by kernel_rfl) (by kernel_rfl) (by kernel_rfl) (by kernel_rfl) (by kernel_rfl) (by decide)
  refine Calls.mono (rd_pure ty W hp) fun e W' ⟨he,hS⟩=>?_
  subst he
  have hb:RowKit.Below W.heap.size W W':=⟨hS.os,hS.tape,hS.output,hS.size,fun k hk=>hS.old k hk (fun h=>h)⟩
  refine ⟨_,rfl,_,_,_,[],p,[],hW',trodAll_mk1 (shut_bool Tryz.underlying4 true),?_,?_,hb.frame _,fun h=>by cases h⟩
  · have hl:=hW'.lt
    simp only [List.append_nil] at hl
    exact Below.trodAll Tryz.laidOut hb _ _ _ _ (by kernel_rfl) hA' (fun x hx=>hl x (by simpa using hx))
  · rfl
theorem reduceNames_holds:Rows.ReduceNamesSaid :=
  OpenClaim.holds_of_wide 3 Tryz.f3 rfl rfl rfl rfl rfl rfl rfl ⟨rfl,rfl,rfl,rfl,rfl⟩ rfl rfl rfl rfl rfl (by kernel_rfl) Tryz.func3 (by kernel_rfl)
    (of_decide_eq_true (by kernel_rfl)) (by unfold Func.isWrapper; first | (rw [if_pos (by decide +kernel)]; kernel_rfl) | (rw [if_neg (by decide +kernel)]; exact ⟨rfl,rfl⟩))
    (fun os started H enc _=>reduceNames_lifted os started H enc)
end Go.Proofs.YthfhopkibabfhaaGreatDoor

namespace Go.Proofs.YthfhopkibabfhaaGreatDoor
open Go
theorem reduceNamesCard_holds:Rows.ReduceNamesCardSaid :=
  Claim7.holds_tied_plain_at .later [] [.data,.data,.data,.data] true (true,"19ace14d68cf7eb09bbfc35c74f82a37d42c1d3774c395d34f0e85174b73f26d") true
    reduceNames_holds (fun _ h=>by cases h) (by kernel_rfl) (fun _ h=>by cases h) reduceNames_row_tie rfl ⟨rfl,rfl⟩ (by kernel_rfl) rfl
    (fun f fn hf hfn=>by
      obtain rfl:f=3:=Option.some.inj ((show Tryz.prog.funcNamed "planisphere/planispherelaw25.ReduceNames"=some 3 by kernel_rfl).symm.trans hf) |>.symm
      obtain rfl:fn=Tryz.f3:=(Option.some.inj (Tryz.func3.symm.trans hfn)).symm
      exact ⟨by kernel_rfl,fun j t ht=>by
        rw [show Tryz.f3.params=#[] by kernel_rfl] at ht
        simp at ht⟩)
    (by kernel_rfl)
end Go.Proofs.YthfhopkibabfhaaGreatDoor
