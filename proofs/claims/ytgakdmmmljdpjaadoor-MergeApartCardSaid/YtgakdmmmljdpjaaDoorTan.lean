/- Part of a proof: laws and walks. -/
import Derived.Test.YtgakdmmmljdpjaaDoorTam
import Derived.Test.YtgakdmmmljdpjaaDoorTak
import Derived.Test.YtgakdmmmljdpjaaDoorTaj
set_option linter.unusedVariables false
set_option linter.unusedSimpArgs false
namespace Go.SL
open Go
section
variable {T:Type} [Inhabited T] {P:Program} {w:World} {n:Nat} {ds:List Deferred} {L:List (Nat × Value)} {ty t:TypeId} {x:Operand} {v u:Value} {enc:T→List Value} {l:List T} {sz q j o:Nat}
theorem RunV.ldG2 (ha:tAgg P t=some false) (henc:∀ x,(enc x).length=sz) (hx:ev L x=some (ix v (j*sz+o))) (hr:rdOK (hp w) sz v l.length (encs enc l)) (hj:j<l.length) (ho:Nat.blt o sz=true) (hv:(enc (l.getD j default))[o]? = some u):RunV P n ds L (.load t x) ty w u w:=by
  have h0:l[j]? = some (l.getD j default):=by simp [List.getD_eq_getElem?_getD,List.getElem?_eq_getElem hj]
  exact RunV.ld1 ha hx hr (by rw [encs_get henc h0 (by simpa using ho)]; exact hv)
theorem RunV.ldGN {us:List Value} (ha:tAgg P t=some true) (hs:tSize P t=some q) (hq:Nat.blt 0 q=true) (henc:∀ x,(enc x).length=sz) (hx:ev L x=some (ix v (j*sz+o))) (hr:rdOK (hp w) sz v l.length (encs enc l)) (hj:j<l.length) (ho:Nat.ble (o+q) sz=true) (hl:us.length=q) (hv:((enc (l.getD j default)).drop o).take q=us):RunV P n ds L (.load t x) ty w (.agg us.toArray) w:=by
  have h0:l[j]? = some (l.getD j default):=by simp [List.getD_eq_getElem?_getD,List.getElem?_eq_getElem hj]
  have ho:=Nat.le_of_ble_eq_true ho
  refine RunV.ldN ha hs hq hx hr hl (fun k u hu=>?_)
  subst hv
  rw [List.getElem?_take] at hu
  split at hu
  · rename_i hk
    rw [List.getElem?_drop] at hu
    rw [show j*sz+o+k=j*sz+(o+k) by omega,encs_get henc h0 (by omega)]
    exact hu
  · cases hu
end
theorem take_fit {h:Hp} {v:Value} {l:List Ch} {k:Nat} (hr:rdOK h 12 v l.length (encs eC l)) (hf:vfit v) (hk:k≤l.length):vfit (vsub 12 v 0 (k:Int)) :=
  (rdEOK.sub (enc:=eC) (l:=l) ⟨hr,hf⟩ eC_len (show sbd 0 (k:Int) (l.length:Int) from ⟨by omega,by omega,by omega⟩)).2
section
variable {l:List Ch} {S S2:List PG} {us:List Bool} {n k:Nat} {e:Int}
end
end Go.SL

namespace Go.Proofs.YtgakdmmmljdpjaaDoor
open Go Go.SL
theorem great_false (vl:Value) (l:List Ch) (w0:World) (hl:rdOK (hp w0) 12 vl l.length (encs eC l)) (h:l.length≤25) :
    Ret Tryd.prog 10 #[vl] w0 (G:=Unit) (fun _=>.bool false) (fun _ w=>St w0 w noX [] []):=by
  have h1:=great_spec vl l w0 hl
  have h2:greatM l.length=false:=by
    unfold greatM
    rw [decide_eq_false (p:=(l.length:Int)>25) (by omega),decide_eq_false (p:=(l.length:Int)>510) (by omega)]
    rfl
  rw [h2] at h1
  exact h1
end Go.Proofs.YtgakdmmmljdpjaaDoor

namespace Go.Proofs.YtgakdmmmljdpjaaDoor
open Go Go.SL
theorem C_ok_10:callOK Tryd.prog 10=true:=by kernel_rfl
theorem C_ok_14:callOK Tryd.prog 14=true:=by kernel_rfl
end Go.Proofs.YtgakdmmmljdpjaaDoor

namespace Go.SL
open Go
def whoM (l:List Ch) (d:Dg):Except Int PG :=
  match histM l with
  | .error e=>.error e
  | .ok (S,_)=>if okD d=true then (match findG S d with | none=>.error 6 | some p=>.ok p) else .error 8
def appM (l:List Ch) (c:Ch):Except Int (List PG × List Bool) :=
  match histM l with
  | .error e=>.error e
  | .ok _=>if okC c=true then histM (l++[c]) else .error 8
section
variable {l:List Ch} {d a b:Dg} {c:Ch} {e:Int} {p x y:PG} {S S2:List PG} {us us2:List Bool}
theorem whoM_ok (h:whoM l d=.ok p):∃ S us,histM l=.ok (S,us)∧okD d=true∧findG S d=some p:=by
  unfold whoM at h
  cases hm:histM l with
  | error e'=>rw [hm] at h; cases h
  | ok r =>
    obtain ⟨S,us⟩:=r
    rw [hm] at h
    simp only at h
    split at h
    · rename_i hd
      cases hf:findG S d with
      | none=>rw [hf] at h; cases h
      | some q=>rw [hf] at h; cases h; exact ⟨S,us,rfl,hd,hf⟩
    · cases h
theorem whoM_mk (hm:histM l=.ok (S,us)) (hd:okD d=true) (hf:findG S d=some p):whoM l d=.ok p:=by
  unfold whoM; rw [hm]; simp only; rw [if_pos hd,hf]
def joinC (a b:Dg):Ch:=⟨2,a,b,0⟩
def sameP (x y:PG):Prop:=objP x=objP y∨(0<(objP x).1.num∧0<(objP y).1.num)
def cntC (As Bs:List PO):Nat:=(As.map fun x=>Bs.count x).sum
structure JoinedR (l:List Ch) (a b:Dg) (S S2:List PG) (x y z:PG):Prop where
  wz:whoM (l++[joinC a b]) a=.ok z
  wv:whoM (l++[joinC a b]) b=.ok z
  len:(sortDs z.1).length=(sortDs x.1).length+(sortDs y.1).length
  siz:S2.length+1=S.length
  cnt:cntC (objsM S) (objsM S2)+1=S2.length
end
end Go.SL

namespace Go.Proofs.YtgakdmmmljdpjaaDoor
open Go Go.SL
section
variable (vl:Value) (l:List Ch) (d:Dg) (c:Ch) (w0:World) (hG:Lent w0 ordA) (hl:rdOK (hp w0) 12 vl l.length (encs eC l)) (hfit:vfit vl)
include hG hl hfit
theorem whoO (p:PG) (h:whoM l d=.ok p):Ret Tryd.prog 19 #[vl,dV d] w0 (G:=Value) (fun g=>.tuple #[oV ((sortDs p.1).getD 0 default) g,.int .i64 0]) (fun g w=>St w0 w noX [] [slE 24 5 eD g (sortDs p.1)]):=by
  obtain ⟨S,us,hm,hd,hf⟩:=whoM_ok h
  have h1:=okS_hist hm p (findG_mem hf).1
  have h2:=tot_mem (findG_mem hf).1
  have h3:=tot_hist hm
  exact who_ok vl l d w0 hG hl hfit S us hm hd p hf h1.2 (by omega) h1.1
end
theorem sameObject_true (p q:Dg) (v u:Value) (lp lq:List Dg) (w0:World) (h1:rdOK (hp w0) 5 v lp.length (encs eD lp)) (h2:rdOK (hp w0) 5 u lq.length (encs eD lq)) (h:p=q∧lp=lq) :
    Ret Tryd.prog 20 #[oV p v,oV q u] w0 (G:=Unit) (fun _=>.bool true) (fun _ w=>St w0 w noX [] []):=by
  have h3:=sameObject_spec p q v u lp lq w0 h1 h2
  rw [decide_eq_true h] at h3
  exact h3
end Go.Proofs.YtgakdmmmljdpjaaDoor
namespace Go.SL
open Go
def cntP (As Bs:List PO) (p:Nat):Nat:=cntC (As.take p) Bs
theorem prO_getD {os:List Ob} {k:Nat} (h:k<os.length):(os.map prO).getD k default=prO (os.getD k default):=by
  simp [List.getD_eq_getElem?_getD,List.getElem?_eq_getElem h]
theorem who_len {l:List Ch} {d:Dg} {p:PG} (h:whoM l d=.ok p):(sortDs p.1).length≤500:=by
  obtain ⟨S,us,hm,hd,hf⟩:=whoM_ok h
  have h2:=tot_mem (findG_mem hf).1
  have h3:=tot_hist hm
  rw [sort_len]
  omega
theorem S_len {l:List Ch} {S:List PG} {us:List Bool} (hm:histM l=.ok (S,us)):S.length≤500:=by
  have h1:=tot_hist hm
  have h2:=len_tot fun p hp=>(okS_hist hm p hp).1
  omega
theorem obs_len {xs:List Ob} {S:List PG} (h:xs.map prO=objsM S):xs.length=S.length:=by
  have:=congrArg List.length h
  rw [List.length_map,objsM_len] at this
  exact this
end Go.SL

namespace Go.SL
open Go
def befN (d:Dg):Int:=if d.num=0 then 15396336 else d.num
def befM (a b:Dg):Int:=orM [cmpI (befN a) (befN b),cmpI a.yr b.yr,cmpI (IntKind.i64.wrap a.half) (IntKind.i64.wrap b.half),cmpI a.cyc b.cyc,cmpI (IntKind.i64.wrap a.sec) (IntKind.i64.wrap b.sec)]
def rD (d:Dg):Prop:=(0≤d.half∧d.half<256)∧0≤d.sec∧d.sec<256
def rC (c:Ch):Prop:=rD c.a∧rD c.b
theorem okD_num {d:Dg} (h:okD d=true):d.num=0∨(0<d.num∧d.num≤15396335):=by
  unfold okD at h
  split at h
  · simp only [Bool.and_eq_true,decide_eq_true_eq] at h
    exact .inr ⟨h.1.2,h.2⟩
  · rename_i hn
    exact .inl (by omega)
theorem cmpI_same (x:Int):cmpI x x=0:=by unfold cmpI; rw [if_neg (by omega),if_neg (by omega)]
theorem cmpI_l {x y:Int} (h:x<y):cmpI x y=-1:=if_pos h
theorem cmpI_g {x y:Int} (h:y<x):cmpI x y=1:=(if_neg (by omega)).trans (if_pos h)
theorem orM_0 {l:List Int}:orM (0::l)=orM l:=if_neg (by omega)
theorem orM_n {x:Int} {l:List Int} (h:x≠0):orM (x::l)=x:=if_pos h
theorem wrapB {x:Int} (h:0≤x∧x<256):IntKind.i64.wrap x=x:=by rw [IntKind.wrap_i64]; omega
theorem bef_cmp {a b:Dg} (ha:okD a=true) (hb:okD b=true) (ra:rD a) (rb:rD b):befM a b=cmpD a b:=by
  unfold befM cmpD befN
  rw [wrapB ra.1,wrapB rb.1,wrapB ra.2,wrapB rb.2]
  rcases okD_num ha with h1 | h1 <;> rcases okD_num hb with h2 | h2
  · rw [if_pos h1,if_pos h2,if_pos (by omega),if_pos (by omega),cmpI_same,h1,h2,cmpI_same]
    simp only [Int.neg_zero,orM_0]
  · rw [if_pos h1,if_neg (by omega),if_pos (by omega),if_neg (by omega),cmpI_g (show b.num<15396336 by omega),cmpI_l (show a.num<1 by omega),orM_n (by decide),orM_n (by decide)]
    rfl
  · rw [if_neg (by omega),if_pos h2,if_neg (by omega),if_pos (by omega),cmpI_l (show a.num<15396336 by omega),cmpI_g (show b.num<1 by omega),orM_n (by decide),orM_n (by decide)]
  · rw [if_neg (by omega),if_neg (by omega),if_neg (by omega),if_neg (by omega),cmpI_same]
    simp only [Int.neg_zero,orM_0]
theorem arr5 {a b c d e:Int} {j:Nat} (h:j<5):(#[.int .i64 a,.int .i64 b,.int .i64 c,.int .i64 d,.int .i64 e]:Array Value)[j]? = some (.int .i64 ([a,b,c,d,e].getD j 0)):=by
  rcases j with _ | _ | _ | _ | _ | j
  · rfl
  · rfl
  · rfl
  · rfl
  · rfl
  · omega
theorem bef_get {a b c d e a' b' c' d' e':Int} {j:Nat}:[cmpI a a',cmpI b b',cmpI c c',cmpI d d',cmpI e e'].getD j 0=cmpI ([a,b,c,d,e].getD j 0) ([a',b',c',d',e'].getD j 0):=by
  rcases j with _ | _ | _ | _ | _ | j <;> rfl
theorem bef_step {x y:List Int} {k:Nat} (h:∀ i,i<k→x.getD i 0=y.getD i 0) (h1:¬ x.getD k 0<y.getD k 0) (h2:¬ x.getD k 0>y.getD k 0):∀ i,i<k+1→x.getD i 0=y.getD i 0:=fun i hi=>by
  by_cases hik:i<k
  · exact h i hik
  · have:i=k:=by omega
    subst this; omega
section
variable {a b c d e a' b' c' d' e':Int} {k:Nat} (h:∀ i,i<k→[a,b,c,d,e].getD i 0=[a',b',c',d',e'].getD i 0)
include h
theorem bef_none (hk:5≤k):orM [cmpI a a',cmpI b b',cmpI c c',cmpI d d',cmpI e e']=0:=orM_none fun i hi=>by
  rw [bef_get,h i (by simp at hi; omega),cmpI_same]
theorem bef_hit (hk:k<5) (hn:cmpI ([a,b,c,d,e].getD k 0) ([a',b',c',d',e'].getD k 0)≠0):orM [cmpI a a',cmpI b b',cmpI c c',cmpI d d',cmpI e e']=cmpI ([a,b,c,d,e].getD k 0) ([a',b',c',d',e'].getD k 0):=by
  rw [orM_hit (k:=k) (fun i hi=>by rw [bef_get,h i hi,cmpI_same]) (by simpa using hk) (by rw [bef_get]; exact hn),bef_get]
theorem bef_lt (hk:k<5) (hl:[a,b,c,d,e].getD k 0<[a',b',c',d',e'].getD k 0):-1=orM [cmpI a a',cmpI b b',cmpI c c',cmpI d d',cmpI e e']:=by
  rw [bef_hit h hk (by rw [cmpI_l hl]; decide),cmpI_l hl]
theorem bef_gt (hk:k<5) (hl:[a,b,c,d,e].getD k 0>[a',b',c',d',e'].getD k 0):1=orM [cmpI a a',cmpI b b',cmpI c c',cmpI d d',cmpI e e']:=by
  rw [bef_hit h hk (by rw [cmpI_g hl]; decide),cmpI_g hl]
theorem bef_eq (hk:5≤k):0=orM [cmpI a a',cmpI b b',cmpI c c',cmpI d d',cmpI e e']:=(bef_none h hk).symm
end
end Go.SL

namespace Go.Proofs.YtgakdmmmljdpjaaDoor
open Go Go.SL
theorem T_arr_83:tArr Tryd.prog 83=some (5,3):=by kernel_rfl
theorem T_int_3:tInt Tryd.prog 3=some .i64:=by kernel_rfl
theorem T_size_83:tSize Tryd.prog 83=some 5:=by kernel_rfl
theorem T_zero_83:tZero Tryd.prog 83=some (.agg #[.int .i64 0,.int .i64 0,.int .i64 0,.int .i64 0,.int .i64 0]):=by kernel_rfl
set_option maxHeartbeats 4000000 in
set_option maxRecDepth 4000 in
theorem bef_spec (x y:Dg) (w0:World) :
    Ret Tryd.prog 18 #[.agg #[.int .i64 x.num,.int .i64 x.yr,.int .u8 x.half,.int .u8 x.sec,.int .i64 x.cyc],.agg #[.int .i64 y.num,.int .i64 y.yr,.int .u8 y.half,.int .u8 y.sec,.int .i64 y.cyc]] w0 (G:=Unit) (fun _=>.int .i64 (befM x y)) (fun _ w=>St w0 w noX [] []):=by
  refine ret_of_W (lv:=[.agg #[.int .i64 x.num,.int .i64 x.yr,.int .u8 x.half,.int .u8 x.sec,.int .i64 x.cyc],.agg #[.int .i64 y.num,.int .i64 y.yr,.int .u8 y.half,.int .u8 y.sec,.int .i64 y.cyc]]) Tryd.func18 rfl rfl rfl (fun a hf=>?_)
  replace hf:Fr a 60 [] [(0,.agg #[.int .i64 x.num,.int .i64 x.yr,.int .u8 x.half,.int .u8 x.sec,.int .i64 x.cyc]),(1,.agg #[.int .i64 y.num,.int .i64 y.yr,.int .u8 y.half,.int .u8 y.sec,.int .i64 y.cyc])]:=hf
  have hS:St w0 w0 noX [] []:=St.refl w0
  refine W.seq ?_
  refine W.regionL (l:=[0,1,2]) rfl ?_
  refine O.box (cs:=#[.int .i64 x.num,.int .i64 x.yr,.int .u8 x.half,.int .u8 x.sec,.int .i64 x.cyc]) hf hS rfl rfl rfl rfl ?_
  clear hf hS a; intro b_a1 w a hbb_a1 hS hf
  refine O.box (cs:=#[.int .i64 y.num,.int .i64 y.yr,.int .u8 y.half,.int .u8 y.sec,.int .i64 y.cyc]) hf hS rfl rfl rfl rfl ?_
  clear hf hS a; intro b_b2 w a hbb_b2 hS hf
  refine O.val hf rfl rfl rfl (RunV.assign rfl) ?_
  clear hf a; intro a hf
  refine O.nil ?_
  refine k_seq ?_
  replace hf:Fr a 60 [] [(2,.pointer (some ⟨b_a1,0,none⟩)),(3,.pointer (some ⟨b_b2,0,none⟩)),(4,.int .i64 0)]:=hf.to ⟨rfl,rfl,rfl,trivial⟩
  refine W.seq ?_
  refine W.regionL (l:=[0,1,2,3,4,5,6,7,8,9,10,11,12,13,14]) rfl ?_
  refine O.val hf rfl rfl rfl (RunV.field T_field_24_0 rfl rfl) ?_
  clear hf a; intro a hf
  refine O.val hf rfl rfl rfl (RunV.load1 T_agg_3 rfl (hS.ptAt (i:=1) rfl) rfl) ?_
  clear hf a; intro a hf
  refine O.val hf rfl rfl rfl (RunV.field T_field_24_1 rfl rfl) ?_
  clear hf a; intro a hf
  refine O.val hf rfl rfl rfl (RunV.load1 T_agg_3 rfl (hS.ptAt (i:=1) rfl) rfl) ?_
  clear hf a; intro a hf
  refine O.val hf rfl rfl rfl (RunV.field T_field_24_2 rfl rfl) ?_
  clear hf a; intro a hf
  refine O.val hf rfl rfl rfl (RunV.load1 T_agg_5 rfl (hS.ptAt (i:=1) rfl) rfl) ?_
  clear hf a; intro a hf
  refine O.val hf rfl rfl rfl (RunV.conv T_und_5 T_int_3 rfl) ?_
  clear hf a; intro a hf
  refine O.val hf rfl rfl rfl (RunV.field T_field_24_4 rfl rfl) ?_
  clear hf a; intro a hf
  refine O.val hf rfl rfl rfl (RunV.load1 T_agg_3 rfl (hS.ptAt (i:=1) rfl) rfl) ?_
  clear hf a; intro a hf
  refine O.val hf rfl rfl rfl (RunV.field T_field_24_3 rfl rfl) ?_
  clear hf a; intro a hf
  refine O.val hf rfl rfl rfl (RunV.load1 T_agg_5 rfl (hS.ptAt (i:=1) rfl) rfl) ?_
  clear hf a; intro a hf
  refine O.val hf rfl rfl rfl (RunV.conv T_und_5 T_int_3 rfl) ?_
  clear hf a; intro a hf
  refine O.val hf rfl rfl rfl (RunV.buildA (cs':=#[.int .i64 x.num,.int .i64 x.yr,.int .i64 (IntKind.i64.wrap x.half),.int .i64 x.cyc,.int .i64 (IntKind.i64.wrap x.sec)]) T_arr_83 T_size_3 T_zero_83 rfl rfl) ?_
  clear hf a; intro a hf
  refine O.alloc (cs:=#[.int .i64 0,.int .i64 0,.int .i64 0,.int .i64 0,.int .i64 0]) hf hS rfl rfl T_zero_83 rfl ?_
  clear hf hS a; intro b_x3 w a hbb_x3 hS hf
  refine O.store (j:=0) (cs':=#[.int .i64 x.num,.int .i64 x.yr,.int .i64 (IntKind.i64.wrap x.half),.int .i64 x.cyc,.int .i64 (IntKind.i64.wrap x.sec)]) (M':=[pt b_x3 (.cells #[.int .i64 x.num,.int .i64 x.yr,.int .i64 (IntKind.i64.wrap x.half),.int .i64 x.cyc,.int .i64 (IntKind.i64.wrap x.sec)] 83 (0,0)),pt b_b2 (.cells #[.int .i64 y.num,.int .i64 y.yr,.int .u8 y.half,.int .u8 y.sec,.int .i64 y.cyc] 24 (0,0)),pt b_a1 (.cells #[.int .i64 x.num,.int .i64 x.yr,.int .u8 x.half,.int .u8 x.sec,.int .i64 x.cyc] 24 (0,0))]) hf hS rfl rfl rfl T_size_83 rfl rfl rfl (Nat.le_of_ble_eq_true rfl) rfl rfl ?_
  clear hS; intro w hS
  refine O.nil ?_
  refine k_seq ?_
  replace hf:Fr a 60 [] [(2,.pointer (some ⟨b_a1,0,none⟩)),(3,.pointer (some ⟨b_b2,0,none⟩)),(4,.int .i64 0),(5,.pointer (some ⟨b_x3,0,none⟩))]:=hf.to ⟨rfl,rfl,rfl,rfl,trivial⟩
  refine W.seq ?_
  refine W.regionL (l:=[0,1,2,3,4,5,6,7,8,9,10,11,12,13,14]) rfl ?_
  refine O.val hf rfl rfl rfl (RunV.field T_field_24_0 rfl rfl) ?_
  clear hf a; intro a hf
  refine O.val hf rfl rfl rfl (RunV.load1 T_agg_3 rfl (hS.ptAt (i:=1) rfl) rfl) ?_
  clear hf a; intro a hf
  refine O.val hf rfl rfl rfl (RunV.field T_field_24_1 rfl rfl) ?_
  clear hf a; intro a hf
  refine O.val hf rfl rfl rfl (RunV.load1 T_agg_3 rfl (hS.ptAt (i:=1) rfl) rfl) ?_
  clear hf a; intro a hf
  refine O.val hf rfl rfl rfl (RunV.field T_field_24_2 rfl rfl) ?_
  clear hf a; intro a hf
  refine O.val hf rfl rfl rfl (RunV.load1 T_agg_5 rfl (hS.ptAt (i:=1) rfl) rfl) ?_
  clear hf a; intro a hf
  refine O.val hf rfl rfl rfl (RunV.conv T_und_5 T_int_3 rfl) ?_
  clear hf a; intro a hf
  refine O.val hf rfl rfl rfl (RunV.field T_field_24_4 rfl rfl) ?_
  clear hf a; intro a hf
  refine O.val hf rfl rfl rfl (RunV.load1 T_agg_3 rfl (hS.ptAt (i:=1) rfl) rfl) ?_
  clear hf a; intro a hf
  refine O.val hf rfl rfl rfl (RunV.field T_field_24_3 rfl rfl) ?_
  clear hf a; intro a hf
  refine O.val hf rfl rfl rfl (RunV.load1 T_agg_5 rfl (hS.ptAt (i:=1) rfl) rfl) ?_
  clear hf a; intro a hf
  refine O.val hf rfl rfl rfl (RunV.conv T_und_5 T_int_3 rfl) ?_
  clear hf a; intro a hf
  refine O.val hf rfl rfl rfl (RunV.buildA (cs':=#[.int .i64 y.num,.int .i64 y.yr,.int .i64 (IntKind.i64.wrap y.half),.int .i64 y.cyc,.int .i64 (IntKind.i64.wrap y.sec)]) T_arr_83 T_size_3 T_zero_83 rfl rfl) ?_
  clear hf a; intro a hf
  refine O.alloc (cs:=#[.int .i64 0,.int .i64 0,.int .i64 0,.int .i64 0,.int .i64 0]) hf hS rfl rfl T_zero_83 rfl ?_
  clear hf hS a; intro b_y4 w a hbb_y4 hS hf
  refine O.store (j:=0) (cs':=#[.int .i64 y.num,.int .i64 y.yr,.int .i64 (IntKind.i64.wrap y.half),.int .i64 y.cyc,.int .i64 (IntKind.i64.wrap y.sec)]) (M':=[pt b_y4 (.cells #[.int .i64 y.num,.int .i64 y.yr,.int .i64 (IntKind.i64.wrap y.half),.int .i64 y.cyc,.int .i64 (IntKind.i64.wrap y.sec)] 83 (0,0)),pt b_x3 (.cells #[.int .i64 x.num,.int .i64 x.yr,.int .i64 (IntKind.i64.wrap x.half),.int .i64 x.cyc,.int .i64 (IntKind.i64.wrap x.sec)] 83 (0,0)),pt b_b2 (.cells #[.int .i64 y.num,.int .i64 y.yr,.int .u8 y.half,.int .u8 y.sec,.int .i64 y.cyc] 24 (0,0)),pt b_a1 (.cells #[.int .i64 x.num,.int .i64 x.yr,.int .u8 x.half,.int .u8 x.sec,.int .i64 x.cyc] 24 (0,0))]) hf hS rfl rfl rfl T_size_83 rfl rfl rfl (Nat.le_of_ble_eq_true rfl) rfl rfl ?_
  clear hS; intro w hS
  refine O.nil ?_
  refine k_seq ?_
  replace hf:Fr a 60 [] [(2,.pointer (some ⟨b_a1,0,none⟩)),(3,.pointer (some ⟨b_b2,0,none⟩)),(4,.int .i64 0),(5,.pointer (some ⟨b_x3,0,none⟩)),(6,.pointer (some ⟨b_y4,0,none⟩))]:=hf.to ⟨rfl,rfl,rfl,rfl,rfl,trivial⟩
  refine W.seq ?_
  refine W.seq ?_
  refine W.regionL (l:=[0,1,2]) rfl ?_
  refine O.val hf rfl rfl rfl (RunV.field T_field_24_0 rfl rfl) ?_
  clear hf a; intro a hf
  refine O.val hf rfl rfl rfl (RunV.load1 T_agg_3 rfl (hS.ptAt (i:=3) rfl) rfl) ?_
  clear hf a; intro a hf
  refine O.val (v:=.bool (decide (x.num=(0:Int)))) hf rfl rfl rfl (RunV.eql rfl rfl) ?_
  clear hf a; intro a hf
  refine O.nil ?_
  refine k_seq ?_
  replace hf:Fr a 60 [] [(3,.pointer (some ⟨b_b2,0,none⟩)),(4,.int .i64 0),(5,.pointer (some ⟨b_x3,0,none⟩)),(6,.pointer (some ⟨b_y4,0,none⟩)),(36,.bool (decide (x.num=(0:Int))))]:=hf.to ⟨rfl,rfl,rfl,rfl,rfl,trivial⟩
  refine W.ifdI hf rfl (fun ha=>?_) (fun ha=>?_)
  ·
    refine W.regionL (l:=[0,1]) rfl ?_
    refine O.val hf rfl rfl rfl (RunV.indexArr (j:=0) (m:=0) T_arr_83 T_size_3 rfl rfl rfl (by omega) (by omega)) ?_
    clear hf a; intro a hf
    refine O.store (j:=1) (cs':=#[.int .i64 15396336,.int .i64 x.yr,.int .i64 (IntKind.i64.wrap x.half),.int .i64 x.cyc,.int .i64 (IntKind.i64.wrap x.sec)]) (M':=[pt b_y4 (.cells #[.int .i64 y.num,.int .i64 y.yr,.int .i64 (IntKind.i64.wrap y.half),.int .i64 y.cyc,.int .i64 (IntKind.i64.wrap y.sec)] 83 (0,0)),pt b_x3 (.cells #[.int .i64 15396336,.int .i64 x.yr,.int .i64 (IntKind.i64.wrap x.half),.int .i64 x.cyc,.int .i64 (IntKind.i64.wrap x.sec)] 83 (0,0)),pt b_b2 (.cells #[.int .i64 y.num,.int .i64 y.yr,.int .u8 y.half,.int .u8 y.sec,.int .i64 y.cyc] 24 (0,0)),pt b_a1 (.cells #[.int .i64 x.num,.int .i64 x.yr,.int .u8 x.half,.int .u8 x.sec,.int .i64 x.cyc] 24 (0,0))]) hf hS rfl rfl rfl T_size_3 rfl rfl rfl (Nat.le_of_ble_eq_true rfl) rfl rfl ?_
    clear hS; intro w hS
    refine O.nil ?_
    refine k_seq ?_
    replace hf:Fr a 60 [] [(3,.pointer (some ⟨b_b2,0,none⟩)),(4,.int .i64 0),(5,.pointer (some ⟨b_x3,0,none⟩)),(6,.pointer (some ⟨b_y4,0,none⟩))]:=hf.to ⟨rfl,rfl,rfl,rfl,trivial⟩
    refine W.seq ?_
    refine W.seq ?_
    refine W.regionL (l:=[0,1,2]) rfl ?_
    refine O.val hf rfl rfl rfl (RunV.field T_field_24_0 rfl rfl) ?_
    clear hf a; intro a hf
    refine O.val hf rfl rfl rfl (RunV.load1 T_agg_3 rfl (hS.ptAt (i:=2) rfl) rfl) ?_
    clear hf a; intro a hf
    refine O.val (v:=.bool (decide (y.num=(0:Int)))) hf rfl rfl rfl (RunV.eql rfl rfl) ?_
    clear hf a; intro a hf
    refine O.nil ?_
    refine k_seq ?_
    replace hf:Fr a 60 [] [(4,.int .i64 0),(5,.pointer (some ⟨b_x3,0,none⟩)),(6,.pointer (some ⟨b_y4,0,none⟩)),(40,.bool (decide (y.num=(0:Int))))]:=hf.to ⟨rfl,rfl,rfl,rfl,trivial⟩
    refine W.ifdI hf rfl (fun hb=>?_) (fun hb=>?_)
    ·
      refine W.regionL (l:=[0,1]) rfl ?_
      refine O.val hf rfl rfl rfl (RunV.indexArr (j:=0) (m:=0) T_arr_83 T_size_3 rfl rfl rfl (by omega) (by omega)) ?_
      clear hf a; intro a hf
      refine O.store (j:=0) (cs':=#[.int .i64 15396336,.int .i64 y.yr,.int .i64 (IntKind.i64.wrap y.half),.int .i64 y.cyc,.int .i64 (IntKind.i64.wrap y.sec)]) (M':=[pt b_y4 (.cells #[.int .i64 15396336,.int .i64 y.yr,.int .i64 (IntKind.i64.wrap y.half),.int .i64 y.cyc,.int .i64 (IntKind.i64.wrap y.sec)] 83 (0,0)),pt b_x3 (.cells #[.int .i64 15396336,.int .i64 x.yr,.int .i64 (IntKind.i64.wrap x.half),.int .i64 x.cyc,.int .i64 (IntKind.i64.wrap x.sec)] 83 (0,0)),pt b_b2 (.cells #[.int .i64 y.num,.int .i64 y.yr,.int .u8 y.half,.int .u8 y.sec,.int .i64 y.cyc] 24 (0,0)),pt b_a1 (.cells #[.int .i64 x.num,.int .i64 x.yr,.int .u8 x.half,.int .u8 x.sec,.int .i64 x.cyc] 24 (0,0))]) hf hS rfl rfl rfl T_size_3 rfl rfl rfl (Nat.le_of_ble_eq_true rfl) rfl rfl ?_
      clear hS; intro w hS
      refine O.nil ?_
      refine k_seq ?_
      replace hf:Fr a 60 [] [(4,.int .i64 0),(5,.pointer (some ⟨b_x3,0,none⟩)),(6,.pointer (some ⟨b_y4,0,none⟩))]:=hf.to ⟨rfl,rfl,rfl,trivial⟩
      refine W.seq ?_
      refine W.seq ?_
      refine W.regionL (l:=[0]) rfl ?_
      refine O.val hf rfl rfl rfl (RunV.assign rfl) ?_
      clear hf a; intro a hf
      refine O.nil ?_
      refine k_seq ?_
      refine W.block ?_
      refine W.loop (G:=(Nat)) (fun g a w=>match g with | k=>Fr a 60 [] [(5,.pointer (some ⟨b_x3,0,none⟩)),(6,.pointer (some ⟨b_y4,0,none⟩)),(7,.int .i64 (k:Int))]∧St w0 w noX [] [pt b_y4 (.cells #[.int .i64 15396336,.int .i64 y.yr,.int .i64 (IntKind.i64.wrap y.half),.int .i64 y.cyc,.int .i64 (IntKind.i64.wrap y.sec)] 83 (0,0)),pt b_x3 (.cells #[.int .i64 15396336,.int .i64 x.yr,.int .i64 (IntKind.i64.wrap x.half),.int .i64 x.cyc,.int .i64 (IntKind.i64.wrap x.sec)] 83 (0,0)),pt b_b2 (.cells #[.int .i64 y.num,.int .i64 y.yr,.int .u8 y.half,.int .u8 y.sec,.int .i64 y.cyc] 24 (0,0)),pt b_a1 (.cells #[.int .i64 x.num,.int .i64 x.yr,.int .u8 x.half,.int .u8 x.sec,.int .i64 x.cyc] 24 (0,0))]∧(k≤5)∧(∀ i,i<k→[15396336,x.yr,IntKind.i64.wrap x.half,x.cyc,IntKind.i64.wrap x.sec].getD i 0=[15396336,y.yr,IntKind.i64.wrap y.half,y.cyc,IntKind.i64.wrap y.sec].getD i 0)) (fun g=>match g with | k=>5-k) 0 ?_ ?_
      · refine ⟨hf.to ⟨rfl,rfl,(by first | rfl | exact congrArg some (congrArg (Value.int _) (by omega))),trivial⟩,hS,?_,?_⟩
        · omega
        · intro i hi; omega
      clear hf hS a
      rintro k a w ⟨hf,hS,hk,h2⟩
      refine W.seq ?_
      refine W.seq ?_
      refine W.regionL (l:=[0,1]) rfl ?_
      refine O.val hf rfl rfl rfl (RunV.move rfl) ?_
      clear hf a; intro a hf
      refine O.val (v:=.bool (decide ((k:Int)<(5:Int)))) hf rfl rfl rfl (RunV.lss rfl rfl) ?_
      clear hf a; intro a hf
      refine O.nil ?_
      refine k_seq ?_
      replace hf:Fr a 60 [] [(5,.pointer (some ⟨b_x3,0,none⟩)),(6,.pointer (some ⟨b_y4,0,none⟩)),(7,.int .i64 (k:Int)),(43,.bool (decide ((k:Int)<(5:Int))))]:=hf.to ⟨rfl,rfl,rfl,rfl,trivial⟩
      refine W.ifdI hf rfl (fun hc7=>?_) (fun hc7=>?_)
      · refine W.skip ?_
        refine k_seq ?_
        refine W.seq ?_
        refine W.block ?_
        refine W.seq ?_
        refine W.seq ?_
        refine W.drawQ (fun w=>St w0 w noX [] [pt b_y4 (.cells #[.int .i64 15396336,.int .i64 y.yr,.int .i64 (IntKind.i64.wrap y.half),.int .i64 y.cyc,.int .i64 (IntKind.i64.wrap y.sec)] 83 (0,0)),pt b_x3 (.cells #[.int .i64 15396336,.int .i64 x.yr,.int .i64 (IntKind.i64.wrap x.half),.int .i64 x.cyc,.int .i64 (IntKind.i64.wrap x.sec)] 83 (0,0)),pt b_b2 (.cells #[.int .i64 y.num,.int .i64 y.yr,.int .u8 y.half,.int .u8 y.sec,.int .i64 y.cyc] 24 (0,0)),pt b_a1 (.cells #[.int .i64 x.num,.int .i64 x.yr,.int .u8 x.half,.int .u8 x.sec,.int .i64 x.cyc] 24 (0,0))]) P_mixed rfl (by kernel_rfl) rfl hS.drew ?_
        clear hS
        refine OQ.val (v:=.int .i64 (k:Int)) hf rfl (fun w hS=>RunV.move rfl) ?_; clear hf a; intro a hf
        refine OQ.val (v:=.pointer (some ⟨b_x3,k,none⟩)) hf rfl (fun w hS=>RunV.indexArr (j:=k) (m:=k) T_arr_83 T_size_3 rfl rfl rfl (by omega) (by omega)) ?_; clear hf a; intro a hf
        refine OQ.val (v:=.int .i64 ([15396336,x.yr,IntKind.i64.wrap x.half,x.cyc,IntKind.i64.wrap x.sec].getD k 0)) hf rfl (fun w hS=>RunV.load1 T_agg_3 rfl (hS.ptAt (i:=1) rfl) (arr5 (by omega))) ?_; clear hf a; intro a hf
        refine OQ.val (v:=.int .i64 (k:Int)) hf rfl (fun w hS=>RunV.move rfl) ?_; clear hf a; intro a hf
        refine OQ.val (v:=.pointer (some ⟨b_y4,k,none⟩)) hf rfl (fun w hS=>RunV.indexArr (j:=k) (m:=k) T_arr_83 T_size_3 rfl rfl rfl (by omega) (by omega)) ?_; clear hf a; intro a hf
        refine OQ.val (v:=.int .i64 ([15396336,y.yr,IntKind.i64.wrap y.half,y.cyc,IntKind.i64.wrap y.sec].getD k 0)) hf rfl (fun w hS=>RunV.load1 T_agg_3 rfl (hS.ptAt (i:=0) rfl) (arr5 (by omega))) ?_; clear hf a; intro a hf
        refine OQ.val (v:=.bool (decide (([15396336,x.yr,IntKind.i64.wrap x.half,x.cyc,IntKind.i64.wrap x.sec].getD k 0)<([15396336,y.yr,IntKind.i64.wrap y.half,y.cyc,IntKind.i64.wrap y.sec].getD k 0:Int)))) hf rfl (fun w hS=>RunV.lss rfl rfl) ?_; clear hf a; intro a hf
        refine OQ.nil ?_; intro w hS
        refine k_seq ?_
        replace hf:Fr a 60 [] [(5,.pointer (some ⟨b_x3,0,none⟩)),(6,.pointer (some ⟨b_y4,0,none⟩)),(7,.int .i64 (k:Int)),(52,.bool (decide (([15396336,x.yr,IntKind.i64.wrap x.half,x.cyc,IntKind.i64.wrap x.sec].getD k 0)<([15396336,y.yr,IntKind.i64.wrap y.half,y.cyc,IntKind.i64.wrap y.sec].getD k 0:Int))))]:=hf.to ⟨rfl,rfl,rfl,rfl,trivial⟩
        refine W.ifdI hf rfl (fun hlt=>?_) (fun hlt=>?_)
        · refine W.seq ?_
          refine W.regionL (l:=[0]) rfl ?_
          refine O.val hf rfl rfl rfl (RunV.assign rfl) ?_
          clear hf a; intro a hf
          refine O.nil ?_
          refine k_seq ?_
          refine W.ret ?_
          refine k_then_ret ?_
          refine k_blk_ret ?_
          refine k_then_ret ?_
          refine k_then_ret ?_
          refine k_blk_ret ?_
          refine k_then_ret ?_
          refine post1 hf rfl (ResOK.tmp rfl) ?_
          exact ⟨(),congrArg (fun x=>Ending.returned (Value.int .i64 x)) (by unfold befM befN; (first | rw [if_pos ha,if_pos hb] | rw [if_pos ha,if_neg hb] | rw [if_neg ha,if_pos hb] | rw [if_neg ha,if_neg hb]); exact bef_lt h2 (by omega) hlt),hS.sub (List.nil_sublist _) |>.noB⟩
        · refine W.skip ?_
          refine k_seq ?_
          refine W.seq ?_
          refine W.drawQ (fun w=>St w0 w noX [] [pt b_y4 (.cells #[.int .i64 15396336,.int .i64 y.yr,.int .i64 (IntKind.i64.wrap y.half),.int .i64 y.cyc,.int .i64 (IntKind.i64.wrap y.sec)] 83 (0,0)),pt b_x3 (.cells #[.int .i64 15396336,.int .i64 x.yr,.int .i64 (IntKind.i64.wrap x.half),.int .i64 x.cyc,.int .i64 (IntKind.i64.wrap x.sec)] 83 (0,0)),pt b_b2 (.cells #[.int .i64 y.num,.int .i64 y.yr,.int .u8 y.half,.int .u8 y.sec,.int .i64 y.cyc] 24 (0,0)),pt b_a1 (.cells #[.int .i64 x.num,.int .i64 x.yr,.int .u8 x.half,.int .u8 x.sec,.int .i64 x.cyc] 24 (0,0))]) P_mixed rfl (by kernel_rfl) rfl hS.drew ?_
          clear hS
          refine OQ.val (v:=.int .i64 (k:Int)) hf rfl (fun w hS=>RunV.move rfl) ?_; clear hf a; intro a hf
          refine OQ.val (v:=.pointer (some ⟨b_x3,k,none⟩)) hf rfl (fun w hS=>RunV.indexArr (j:=k) (m:=k) T_arr_83 T_size_3 rfl rfl rfl (by omega) (by omega)) ?_; clear hf a; intro a hf
          refine OQ.val (v:=.int .i64 ([15396336,x.yr,IntKind.i64.wrap x.half,x.cyc,IntKind.i64.wrap x.sec].getD k 0)) hf rfl (fun w hS=>RunV.load1 T_agg_3 rfl (hS.ptAt (i:=1) rfl) (arr5 (by omega))) ?_; clear hf a; intro a hf
          refine OQ.val (v:=.int .i64 (k:Int)) hf rfl (fun w hS=>RunV.move rfl) ?_; clear hf a; intro a hf
          refine OQ.val (v:=.pointer (some ⟨b_y4,k,none⟩)) hf rfl (fun w hS=>RunV.indexArr (j:=k) (m:=k) T_arr_83 T_size_3 rfl rfl rfl (by omega) (by omega)) ?_; clear hf a; intro a hf
          refine OQ.val (v:=.int .i64 ([15396336,y.yr,IntKind.i64.wrap y.half,y.cyc,IntKind.i64.wrap y.sec].getD k 0)) hf rfl (fun w hS=>RunV.load1 T_agg_3 rfl (hS.ptAt (i:=0) rfl) (arr5 (by omega))) ?_; clear hf a; intro a hf
          refine OQ.val (v:=.bool (decide (([15396336,x.yr,IntKind.i64.wrap x.half,x.cyc,IntKind.i64.wrap x.sec].getD k 0)>([15396336,y.yr,IntKind.i64.wrap y.half,y.cyc,IntKind.i64.wrap y.sec].getD k 0:Int)))) hf rfl (fun w hS=>RunV.gtr rfl rfl) ?_; clear hf a; intro a hf
          refine OQ.nil ?_; intro w hS
          refine k_seq ?_
          replace hf:Fr a 60 [] [(5,.pointer (some ⟨b_x3,0,none⟩)),(6,.pointer (some ⟨b_y4,0,none⟩)),(7,.int .i64 (k:Int)),(59,.bool (decide (([15396336,x.yr,IntKind.i64.wrap x.half,x.cyc,IntKind.i64.wrap x.sec].getD k 0)>([15396336,y.yr,IntKind.i64.wrap y.half,y.cyc,IntKind.i64.wrap y.sec].getD k 0:Int))))]:=hf.to ⟨rfl,rfl,rfl,rfl,trivial⟩
          refine W.ifdI hf rfl (fun hgt=>?_) (fun hgt=>?_)
          · refine W.seq ?_
            refine W.regionL (l:=[0]) rfl ?_
            refine O.val hf rfl rfl rfl (RunV.assign rfl) ?_
            clear hf a; intro a hf
            refine O.nil ?_
            refine k_seq ?_
            refine W.ret ?_
            refine k_blk_ret ?_
            refine k_then_ret ?_
            refine k_then_ret ?_
            refine k_blk_ret ?_
            refine k_then_ret ?_
            refine post1 hf rfl (ResOK.tmp rfl) ?_
            exact ⟨(),congrArg (fun x=>Ending.returned (Value.int .i64 x)) (by unfold befM befN; (first | rw [if_pos ha,if_pos hb] | rw [if_pos ha,if_neg hb] | rw [if_neg ha,if_pos hb] | rw [if_neg ha,if_neg hb]); exact bef_gt h2 (by omega) hgt),hS.sub (List.nil_sublist _) |>.noB⟩
          · refine W.skip ?_
            refine k_blk_normal ?_
            refine k_seq ?_
            refine W.regionL (l:=[0,1,2]) rfl ?_
            refine O.val hf rfl rfl rfl (RunV.move rfl) ?_
            clear hf a; intro a hf
            refine O.val hf rfl rfl rfl (RunV.addI rfl rfl (by omega)) ?_
            clear hf a; intro a hf
            refine O.val hf rfl rfl rfl (RunV.assign rfl) ?_
            clear hf a; intro a hf
            refine O.nil ?_
            refine k_then ⟨(k+1),⟨hf.to ⟨rfl,rfl,(by first | rfl | exact congrArg some (congrArg (Value.int _) (by omega))),trivial⟩,?_,?_,?_⟩,?_⟩
            · exact hS.eqM rfl
            · omega
            · exact bef_step h2 (by omega) (by omega)
            · dsimp only; omega
      · refine W.exit ?_
        refine k_then_exit ?_
        refine k_then_exit ?_
        refine k_blk ?_
        refine k_seq ?_
        replace hf:Fr a 60 [] []:=hf.to trivial
        refine W.seq ?_
        refine W.regionL (l:=[0]) rfl ?_
        refine O.val hf rfl rfl rfl (RunV.assign rfl) ?_
        clear hf a; intro a hf
        refine O.nil ?_
        refine k_seq ?_
        refine W.ret ?_
        refine post1 hf rfl (ResOK.tmp rfl) ?_
        exact ⟨(),congrArg (fun x=>Ending.returned (Value.int .i64 x)) (by unfold befM befN; (first | rw [if_pos ha,if_pos hb] | rw [if_pos ha,if_neg hb] | rw [if_neg ha,if_pos hb] | rw [if_neg ha,if_neg hb]); exact bef_eq h2 (by omega)),hS.sub (List.nil_sublist _) |>.noB⟩
    · refine W.skip ?_
      refine k_seq ?_
      refine W.seq ?_
      refine W.seq ?_
      refine W.regionL (l:=[0]) rfl ?_
      refine O.val hf rfl rfl rfl (RunV.assign rfl) ?_
      clear hf a; intro a hf
      refine O.nil ?_
      refine k_seq ?_
      refine W.block ?_
      refine W.loop (G:=(Nat)) (fun g a w=>match g with | k=>Fr a 60 [] [(5,.pointer (some ⟨b_x3,0,none⟩)),(6,.pointer (some ⟨b_y4,0,none⟩)),(7,.int .i64 (k:Int))]∧St w0 w noX [] [pt b_y4 (.cells #[.int .i64 y.num,.int .i64 y.yr,.int .i64 (IntKind.i64.wrap y.half),.int .i64 y.cyc,.int .i64 (IntKind.i64.wrap y.sec)] 83 (0,0)),pt b_x3 (.cells #[.int .i64 15396336,.int .i64 x.yr,.int .i64 (IntKind.i64.wrap x.half),.int .i64 x.cyc,.int .i64 (IntKind.i64.wrap x.sec)] 83 (0,0)),pt b_b2 (.cells #[.int .i64 y.num,.int .i64 y.yr,.int .u8 y.half,.int .u8 y.sec,.int .i64 y.cyc] 24 (0,0)),pt b_a1 (.cells #[.int .i64 x.num,.int .i64 x.yr,.int .u8 x.half,.int .u8 x.sec,.int .i64 x.cyc] 24 (0,0))]∧(k≤5)∧(∀ i,i<k→[15396336,x.yr,IntKind.i64.wrap x.half,x.cyc,IntKind.i64.wrap x.sec].getD i 0=[y.num,y.yr,IntKind.i64.wrap y.half,y.cyc,IntKind.i64.wrap y.sec].getD i 0)) (fun g=>match g with | k=>5-k) 0 ?_ ?_
      · refine ⟨hf.to ⟨rfl,rfl,(by first | rfl | exact congrArg some (congrArg (Value.int _) (by omega))),trivial⟩,hS,?_,?_⟩
        · omega
        · intro i hi; omega
      clear hf hS a
      rintro k a w ⟨hf,hS,hk,h2⟩
      refine W.seq ?_
      refine W.seq ?_
      refine W.regionL (l:=[0,1]) rfl ?_
      refine O.val hf rfl rfl rfl (RunV.move rfl) ?_
      clear hf a; intro a hf
      refine O.val (v:=.bool (decide ((k:Int)<(5:Int)))) hf rfl rfl rfl (RunV.lss rfl rfl) ?_
      clear hf a; intro a hf
      refine O.nil ?_
      refine k_seq ?_
      replace hf:Fr a 60 [] [(5,.pointer (some ⟨b_x3,0,none⟩)),(6,.pointer (some ⟨b_y4,0,none⟩)),(7,.int .i64 (k:Int)),(43,.bool (decide ((k:Int)<(5:Int))))]:=hf.to ⟨rfl,rfl,rfl,rfl,trivial⟩
      refine W.ifdI hf rfl (fun hc10=>?_) (fun hc10=>?_)
      · refine W.skip ?_
        refine k_seq ?_
        refine W.seq ?_
        refine W.block ?_
        refine W.seq ?_
        refine W.seq ?_
        refine W.drawQ (fun w=>St w0 w noX [] [pt b_y4 (.cells #[.int .i64 y.num,.int .i64 y.yr,.int .i64 (IntKind.i64.wrap y.half),.int .i64 y.cyc,.int .i64 (IntKind.i64.wrap y.sec)] 83 (0,0)),pt b_x3 (.cells #[.int .i64 15396336,.int .i64 x.yr,.int .i64 (IntKind.i64.wrap x.half),.int .i64 x.cyc,.int .i64 (IntKind.i64.wrap x.sec)] 83 (0,0)),pt b_b2 (.cells #[.int .i64 y.num,.int .i64 y.yr,.int .u8 y.half,.int .u8 y.sec,.int .i64 y.cyc] 24 (0,0)),pt b_a1 (.cells #[.int .i64 x.num,.int .i64 x.yr,.int .u8 x.half,.int .u8 x.sec,.int .i64 x.cyc] 24 (0,0))]) P_mixed rfl (by kernel_rfl) rfl hS.drew ?_
        clear hS
        refine OQ.val (v:=.int .i64 (k:Int)) hf rfl (fun w hS=>RunV.move rfl) ?_; clear hf a; intro a hf
        refine OQ.val (v:=.pointer (some ⟨b_x3,k,none⟩)) hf rfl (fun w hS=>RunV.indexArr (j:=k) (m:=k) T_arr_83 T_size_3 rfl rfl rfl (by omega) (by omega)) ?_; clear hf a; intro a hf
        refine OQ.val (v:=.int .i64 ([15396336,x.yr,IntKind.i64.wrap x.half,x.cyc,IntKind.i64.wrap x.sec].getD k 0)) hf rfl (fun w hS=>RunV.load1 T_agg_3 rfl (hS.ptAt (i:=1) rfl) (arr5 (by omega))) ?_; clear hf a; intro a hf
        refine OQ.val (v:=.int .i64 (k:Int)) hf rfl (fun w hS=>RunV.move rfl) ?_; clear hf a; intro a hf
        refine OQ.val (v:=.pointer (some ⟨b_y4,k,none⟩)) hf rfl (fun w hS=>RunV.indexArr (j:=k) (m:=k) T_arr_83 T_size_3 rfl rfl rfl (by omega) (by omega)) ?_; clear hf a; intro a hf
        refine OQ.val (v:=.int .i64 ([y.num,y.yr,IntKind.i64.wrap y.half,y.cyc,IntKind.i64.wrap y.sec].getD k 0)) hf rfl (fun w hS=>RunV.load1 T_agg_3 rfl (hS.ptAt (i:=0) rfl) (arr5 (by omega))) ?_; clear hf a; intro a hf
        refine OQ.val (v:=.bool (decide (([15396336,x.yr,IntKind.i64.wrap x.half,x.cyc,IntKind.i64.wrap x.sec].getD k 0)<([y.num,y.yr,IntKind.i64.wrap y.half,y.cyc,IntKind.i64.wrap y.sec].getD k 0:Int)))) hf rfl (fun w hS=>RunV.lss rfl rfl) ?_; clear hf a; intro a hf
        refine OQ.nil ?_; intro w hS
        refine k_seq ?_
        replace hf:Fr a 60 [] [(5,.pointer (some ⟨b_x3,0,none⟩)),(6,.pointer (some ⟨b_y4,0,none⟩)),(7,.int .i64 (k:Int)),(52,.bool (decide (([15396336,x.yr,IntKind.i64.wrap x.half,x.cyc,IntKind.i64.wrap x.sec].getD k 0)<([y.num,y.yr,IntKind.i64.wrap y.half,y.cyc,IntKind.i64.wrap y.sec].getD k 0:Int))))]:=hf.to ⟨rfl,rfl,rfl,rfl,trivial⟩
        refine W.ifdI hf rfl (fun hlt=>?_) (fun hlt=>?_)
        · refine W.seq ?_
          refine W.regionL (l:=[0]) rfl ?_
          refine O.val hf rfl rfl rfl (RunV.assign rfl) ?_
          clear hf a; intro a hf
          refine O.nil ?_
          refine k_seq ?_
          refine W.ret ?_
          refine k_then_ret ?_
          refine k_blk_ret ?_
          refine k_then_ret ?_
          refine k_then_ret ?_
          refine k_blk_ret ?_
          refine k_then_ret ?_
          refine post1 hf rfl (ResOK.tmp rfl) ?_
          exact ⟨(),congrArg (fun x=>Ending.returned (Value.int .i64 x)) (by unfold befM befN; (first | rw [if_pos ha,if_pos hb] | rw [if_pos ha,if_neg hb] | rw [if_neg ha,if_pos hb] | rw [if_neg ha,if_neg hb]); exact bef_lt h2 (by omega) hlt),hS.sub (List.nil_sublist _) |>.noB⟩
        · refine W.skip ?_
          refine k_seq ?_
          refine W.seq ?_
          refine W.drawQ (fun w=>St w0 w noX [] [pt b_y4 (.cells #[.int .i64 y.num,.int .i64 y.yr,.int .i64 (IntKind.i64.wrap y.half),.int .i64 y.cyc,.int .i64 (IntKind.i64.wrap y.sec)] 83 (0,0)),pt b_x3 (.cells #[.int .i64 15396336,.int .i64 x.yr,.int .i64 (IntKind.i64.wrap x.half),.int .i64 x.cyc,.int .i64 (IntKind.i64.wrap x.sec)] 83 (0,0)),pt b_b2 (.cells #[.int .i64 y.num,.int .i64 y.yr,.int .u8 y.half,.int .u8 y.sec,.int .i64 y.cyc] 24 (0,0)),pt b_a1 (.cells #[.int .i64 x.num,.int .i64 x.yr,.int .u8 x.half,.int .u8 x.sec,.int .i64 x.cyc] 24 (0,0))]) P_mixed rfl (by kernel_rfl) rfl hS.drew ?_
          clear hS
          refine OQ.val (v:=.int .i64 (k:Int)) hf rfl (fun w hS=>RunV.move rfl) ?_; clear hf a; intro a hf
          refine OQ.val (v:=.pointer (some ⟨b_x3,k,none⟩)) hf rfl (fun w hS=>RunV.indexArr (j:=k) (m:=k) T_arr_83 T_size_3 rfl rfl rfl (by omega) (by omega)) ?_; clear hf a; intro a hf
          refine OQ.val (v:=.int .i64 ([15396336,x.yr,IntKind.i64.wrap x.half,x.cyc,IntKind.i64.wrap x.sec].getD k 0)) hf rfl (fun w hS=>RunV.load1 T_agg_3 rfl (hS.ptAt (i:=1) rfl) (arr5 (by omega))) ?_; clear hf a; intro a hf
          refine OQ.val (v:=.int .i64 (k:Int)) hf rfl (fun w hS=>RunV.move rfl) ?_; clear hf a; intro a hf
          refine OQ.val (v:=.pointer (some ⟨b_y4,k,none⟩)) hf rfl (fun w hS=>RunV.indexArr (j:=k) (m:=k) T_arr_83 T_size_3 rfl rfl rfl (by omega) (by omega)) ?_; clear hf a; intro a hf
          refine OQ.val (v:=.int .i64 ([y.num,y.yr,IntKind.i64.wrap y.half,y.cyc,IntKind.i64.wrap y.sec].getD k 0)) hf rfl (fun w hS=>RunV.load1 T_agg_3 rfl (hS.ptAt (i:=0) rfl) (arr5 (by omega))) ?_; clear hf a; intro a hf
          refine OQ.val (v:=.bool (decide (([15396336,x.yr,IntKind.i64.wrap x.half,x.cyc,IntKind.i64.wrap x.sec].getD k 0)>([y.num,y.yr,IntKind.i64.wrap y.half,y.cyc,IntKind.i64.wrap y.sec].getD k 0:Int)))) hf rfl (fun w hS=>RunV.gtr rfl rfl) ?_; clear hf a; intro a hf
          refine OQ.nil ?_; intro w hS
          refine k_seq ?_
          replace hf:Fr a 60 [] [(5,.pointer (some ⟨b_x3,0,none⟩)),(6,.pointer (some ⟨b_y4,0,none⟩)),(7,.int .i64 (k:Int)),(59,.bool (decide (([15396336,x.yr,IntKind.i64.wrap x.half,x.cyc,IntKind.i64.wrap x.sec].getD k 0)>([y.num,y.yr,IntKind.i64.wrap y.half,y.cyc,IntKind.i64.wrap y.sec].getD k 0:Int))))]:=hf.to ⟨rfl,rfl,rfl,rfl,trivial⟩
          refine W.ifdI hf rfl (fun hgt=>?_) (fun hgt=>?_)
          · refine W.seq ?_
            refine W.regionL (l:=[0]) rfl ?_
            refine O.val hf rfl rfl rfl (RunV.assign rfl) ?_
            clear hf a; intro a hf
            refine O.nil ?_
            refine k_seq ?_
            refine W.ret ?_
            refine k_blk_ret ?_
            refine k_then_ret ?_
            refine k_then_ret ?_
            refine k_blk_ret ?_
            refine k_then_ret ?_
            refine post1 hf rfl (ResOK.tmp rfl) ?_
            exact ⟨(),congrArg (fun x=>Ending.returned (Value.int .i64 x)) (by unfold befM befN; (first | rw [if_pos ha,if_pos hb] | rw [if_pos ha,if_neg hb] | rw [if_neg ha,if_pos hb] | rw [if_neg ha,if_neg hb]); exact bef_gt h2 (by omega) hgt),hS.sub (List.nil_sublist _) |>.noB⟩
          · refine W.skip ?_
            refine k_blk_normal ?_
            refine k_seq ?_
            refine W.regionL (l:=[0,1,2]) rfl ?_
            refine O.val hf rfl rfl rfl (RunV.move rfl) ?_
            clear hf a; intro a hf
            refine O.val hf rfl rfl rfl (RunV.addI rfl rfl (by omega)) ?_
            clear hf a; intro a hf
            refine O.val hf rfl rfl rfl (RunV.assign rfl) ?_
            clear hf a; intro a hf
            refine O.nil ?_
            refine k_then ⟨(k+1),⟨hf.to ⟨rfl,rfl,(by first | rfl | exact congrArg some (congrArg (Value.int _) (by omega))),trivial⟩,?_,?_,?_⟩,?_⟩
            · exact hS.eqM rfl
            · omega
            · exact bef_step h2 (by omega) (by omega)
            · dsimp only; omega
      · refine W.exit ?_
        refine k_then_exit ?_
        refine k_then_exit ?_
        refine k_blk ?_
        refine k_seq ?_
        replace hf:Fr a 60 [] []:=hf.to trivial
        refine W.seq ?_
        refine W.regionL (l:=[0]) rfl ?_
        refine O.val hf rfl rfl rfl (RunV.assign rfl) ?_
        clear hf a; intro a hf
        refine O.nil ?_
        refine k_seq ?_
        refine W.ret ?_
        refine post1 hf rfl (ResOK.tmp rfl) ?_
        exact ⟨(),congrArg (fun x=>Ending.returned (Value.int .i64 x)) (by unfold befM befN; (first | rw [if_pos ha,if_pos hb] | rw [if_pos ha,if_neg hb] | rw [if_neg ha,if_pos hb] | rw [if_neg ha,if_neg hb]); exact bef_eq h2 (by omega)),hS.sub (List.nil_sublist _) |>.noB⟩
  · refine W.skip ?_
    refine k_seq ?_
    refine W.seq ?_
    refine W.seq ?_
    refine W.regionL (l:=[0,1,2]) rfl ?_
    refine O.val hf rfl rfl rfl (RunV.field T_field_24_0 rfl rfl) ?_
    clear hf a; intro a hf
    refine O.val hf rfl rfl rfl (RunV.load1 T_agg_3 rfl (hS.ptAt (i:=2) rfl) rfl) ?_
    clear hf a; intro a hf
    refine O.val (v:=.bool (decide (y.num=(0:Int)))) hf rfl rfl rfl (RunV.eql rfl rfl) ?_
    clear hf a; intro a hf
    refine O.nil ?_
    refine k_seq ?_
    replace hf:Fr a 60 [] [(4,.int .i64 0),(5,.pointer (some ⟨b_x3,0,none⟩)),(6,.pointer (some ⟨b_y4,0,none⟩)),(40,.bool (decide (y.num=(0:Int))))]:=hf.to ⟨rfl,rfl,rfl,rfl,trivial⟩
    refine W.ifdI hf rfl (fun hb=>?_) (fun hb=>?_)
    ·
      refine W.regionL (l:=[0,1]) rfl ?_
      refine O.val hf rfl rfl rfl (RunV.indexArr (j:=0) (m:=0) T_arr_83 T_size_3 rfl rfl rfl (by omega) (by omega)) ?_
      clear hf a; intro a hf
      refine O.store (j:=0) (cs':=#[.int .i64 15396336,.int .i64 y.yr,.int .i64 (IntKind.i64.wrap y.half),.int .i64 y.cyc,.int .i64 (IntKind.i64.wrap y.sec)]) (M':=[pt b_y4 (.cells #[.int .i64 15396336,.int .i64 y.yr,.int .i64 (IntKind.i64.wrap y.half),.int .i64 y.cyc,.int .i64 (IntKind.i64.wrap y.sec)] 83 (0,0)),pt b_x3 (.cells #[.int .i64 x.num,.int .i64 x.yr,.int .i64 (IntKind.i64.wrap x.half),.int .i64 x.cyc,.int .i64 (IntKind.i64.wrap x.sec)] 83 (0,0)),pt b_b2 (.cells #[.int .i64 y.num,.int .i64 y.yr,.int .u8 y.half,.int .u8 y.sec,.int .i64 y.cyc] 24 (0,0)),pt b_a1 (.cells #[.int .i64 x.num,.int .i64 x.yr,.int .u8 x.half,.int .u8 x.sec,.int .i64 x.cyc] 24 (0,0))]) hf hS rfl rfl rfl T_size_3 rfl rfl rfl (Nat.le_of_ble_eq_true rfl) rfl rfl ?_
      clear hS; intro w hS
      refine O.nil ?_
      refine k_seq ?_
      replace hf:Fr a 60 [] [(4,.int .i64 0),(5,.pointer (some ⟨b_x3,0,none⟩)),(6,.pointer (some ⟨b_y4,0,none⟩))]:=hf.to ⟨rfl,rfl,rfl,trivial⟩
      refine W.seq ?_
      refine W.seq ?_
      refine W.regionL (l:=[0]) rfl ?_
      refine O.val hf rfl rfl rfl (RunV.assign rfl) ?_
      clear hf a; intro a hf
      refine O.nil ?_
      refine k_seq ?_
      refine W.block ?_
      refine W.loop (G:=(Nat)) (fun g a w=>match g with | k=>Fr a 60 [] [(5,.pointer (some ⟨b_x3,0,none⟩)),(6,.pointer (some ⟨b_y4,0,none⟩)),(7,.int .i64 (k:Int))]∧St w0 w noX [] [pt b_y4 (.cells #[.int .i64 15396336,.int .i64 y.yr,.int .i64 (IntKind.i64.wrap y.half),.int .i64 y.cyc,.int .i64 (IntKind.i64.wrap y.sec)] 83 (0,0)),pt b_x3 (.cells #[.int .i64 x.num,.int .i64 x.yr,.int .i64 (IntKind.i64.wrap x.half),.int .i64 x.cyc,.int .i64 (IntKind.i64.wrap x.sec)] 83 (0,0)),pt b_b2 (.cells #[.int .i64 y.num,.int .i64 y.yr,.int .u8 y.half,.int .u8 y.sec,.int .i64 y.cyc] 24 (0,0)),pt b_a1 (.cells #[.int .i64 x.num,.int .i64 x.yr,.int .u8 x.half,.int .u8 x.sec,.int .i64 x.cyc] 24 (0,0))]∧(k≤5)∧(∀ i,i<k→[x.num,x.yr,IntKind.i64.wrap x.half,x.cyc,IntKind.i64.wrap x.sec].getD i 0=[15396336,y.yr,IntKind.i64.wrap y.half,y.cyc,IntKind.i64.wrap y.sec].getD i 0)) (fun g=>match g with | k=>5-k) 0 ?_ ?_
      · refine ⟨hf.to ⟨rfl,rfl,(by first | rfl | exact congrArg some (congrArg (Value.int _) (by omega))),trivial⟩,hS,?_,?_⟩
        · omega
        · intro i hi; omega
      clear hf hS a
      rintro k a w ⟨hf,hS,hk,h2⟩
      refine W.seq ?_
      refine W.seq ?_
      refine W.regionL (l:=[0,1]) rfl ?_
      refine O.val hf rfl rfl rfl (RunV.move rfl) ?_
      clear hf a; intro a hf
      refine O.val (v:=.bool (decide ((k:Int)<(5:Int)))) hf rfl rfl rfl (RunV.lss rfl rfl) ?_
      clear hf a; intro a hf
      refine O.nil ?_
      refine k_seq ?_
      replace hf:Fr a 60 [] [(5,.pointer (some ⟨b_x3,0,none⟩)),(6,.pointer (some ⟨b_y4,0,none⟩)),(7,.int .i64 (k:Int)),(43,.bool (decide ((k:Int)<(5:Int))))]:=hf.to ⟨rfl,rfl,rfl,rfl,trivial⟩
      refine W.ifdI hf rfl (fun hc14=>?_) (fun hc14=>?_)
      · refine W.skip ?_
        refine k_seq ?_
        refine W.seq ?_
        refine W.block ?_
        refine W.seq ?_
        refine W.seq ?_
        refine W.drawQ (fun w=>St w0 w noX [] [pt b_y4 (.cells #[.int .i64 15396336,.int .i64 y.yr,.int .i64 (IntKind.i64.wrap y.half),.int .i64 y.cyc,.int .i64 (IntKind.i64.wrap y.sec)] 83 (0,0)),pt b_x3 (.cells #[.int .i64 x.num,.int .i64 x.yr,.int .i64 (IntKind.i64.wrap x.half),.int .i64 x.cyc,.int .i64 (IntKind.i64.wrap x.sec)] 83 (0,0)),pt b_b2 (.cells #[.int .i64 y.num,.int .i64 y.yr,.int .u8 y.half,.int .u8 y.sec,.int .i64 y.cyc] 24 (0,0)),pt b_a1 (.cells #[.int .i64 x.num,.int .i64 x.yr,.int .u8 x.half,.int .u8 x.sec,.int .i64 x.cyc] 24 (0,0))]) P_mixed rfl (by kernel_rfl) rfl hS.drew ?_
        clear hS
        refine OQ.val (v:=.int .i64 (k:Int)) hf rfl (fun w hS=>RunV.move rfl) ?_; clear hf a; intro a hf
        refine OQ.val (v:=.pointer (some ⟨b_x3,k,none⟩)) hf rfl (fun w hS=>RunV.indexArr (j:=k) (m:=k) T_arr_83 T_size_3 rfl rfl rfl (by omega) (by omega)) ?_; clear hf a; intro a hf
        refine OQ.val (v:=.int .i64 ([x.num,x.yr,IntKind.i64.wrap x.half,x.cyc,IntKind.i64.wrap x.sec].getD k 0)) hf rfl (fun w hS=>RunV.load1 T_agg_3 rfl (hS.ptAt (i:=1) rfl) (arr5 (by omega))) ?_; clear hf a; intro a hf
        refine OQ.val (v:=.int .i64 (k:Int)) hf rfl (fun w hS=>RunV.move rfl) ?_; clear hf a; intro a hf
        refine OQ.val (v:=.pointer (some ⟨b_y4,k,none⟩)) hf rfl (fun w hS=>RunV.indexArr (j:=k) (m:=k) T_arr_83 T_size_3 rfl rfl rfl (by omega) (by omega)) ?_; clear hf a; intro a hf
        refine OQ.val (v:=.int .i64 ([15396336,y.yr,IntKind.i64.wrap y.half,y.cyc,IntKind.i64.wrap y.sec].getD k 0)) hf rfl (fun w hS=>RunV.load1 T_agg_3 rfl (hS.ptAt (i:=0) rfl) (arr5 (by omega))) ?_; clear hf a; intro a hf
        refine OQ.val (v:=.bool (decide (([x.num,x.yr,IntKind.i64.wrap x.half,x.cyc,IntKind.i64.wrap x.sec].getD k 0)<([15396336,y.yr,IntKind.i64.wrap y.half,y.cyc,IntKind.i64.wrap y.sec].getD k 0:Int)))) hf rfl (fun w hS=>RunV.lss rfl rfl) ?_; clear hf a; intro a hf
        refine OQ.nil ?_; intro w hS
        refine k_seq ?_
        replace hf:Fr a 60 [] [(5,.pointer (some ⟨b_x3,0,none⟩)),(6,.pointer (some ⟨b_y4,0,none⟩)),(7,.int .i64 (k:Int)),(52,.bool (decide (([x.num,x.yr,IntKind.i64.wrap x.half,x.cyc,IntKind.i64.wrap x.sec].getD k 0)<([15396336,y.yr,IntKind.i64.wrap y.half,y.cyc,IntKind.i64.wrap y.sec].getD k 0:Int))))]:=hf.to ⟨rfl,rfl,rfl,rfl,trivial⟩
        refine W.ifdI hf rfl (fun hlt=>?_) (fun hlt=>?_)
        · refine W.seq ?_
          refine W.regionL (l:=[0]) rfl ?_
          refine O.val hf rfl rfl rfl (RunV.assign rfl) ?_
          clear hf a; intro a hf
          refine O.nil ?_
          refine k_seq ?_
          refine W.ret ?_
          refine k_then_ret ?_
          refine k_blk_ret ?_
          refine k_then_ret ?_
          refine k_then_ret ?_
          refine k_blk_ret ?_
          refine k_then_ret ?_
          refine post1 hf rfl (ResOK.tmp rfl) ?_
          exact ⟨(),congrArg (fun x=>Ending.returned (Value.int .i64 x)) (by unfold befM befN; (first | rw [if_pos ha,if_pos hb] | rw [if_pos ha,if_neg hb] | rw [if_neg ha,if_pos hb] | rw [if_neg ha,if_neg hb]); exact bef_lt h2 (by omega) hlt),hS.sub (List.nil_sublist _) |>.noB⟩
        · refine W.skip ?_
          refine k_seq ?_
          refine W.seq ?_
          refine W.drawQ (fun w=>St w0 w noX [] [pt b_y4 (.cells #[.int .i64 15396336,.int .i64 y.yr,.int .i64 (IntKind.i64.wrap y.half),.int .i64 y.cyc,.int .i64 (IntKind.i64.wrap y.sec)] 83 (0,0)),pt b_x3 (.cells #[.int .i64 x.num,.int .i64 x.yr,.int .i64 (IntKind.i64.wrap x.half),.int .i64 x.cyc,.int .i64 (IntKind.i64.wrap x.sec)] 83 (0,0)),pt b_b2 (.cells #[.int .i64 y.num,.int .i64 y.yr,.int .u8 y.half,.int .u8 y.sec,.int .i64 y.cyc] 24 (0,0)),pt b_a1 (.cells #[.int .i64 x.num,.int .i64 x.yr,.int .u8 x.half,.int .u8 x.sec,.int .i64 x.cyc] 24 (0,0))]) P_mixed rfl (by kernel_rfl) rfl hS.drew ?_
          clear hS
          refine OQ.val (v:=.int .i64 (k:Int)) hf rfl (fun w hS=>RunV.move rfl) ?_; clear hf a; intro a hf
          refine OQ.val (v:=.pointer (some ⟨b_x3,k,none⟩)) hf rfl (fun w hS=>RunV.indexArr (j:=k) (m:=k) T_arr_83 T_size_3 rfl rfl rfl (by omega) (by omega)) ?_; clear hf a; intro a hf
          refine OQ.val (v:=.int .i64 ([x.num,x.yr,IntKind.i64.wrap x.half,x.cyc,IntKind.i64.wrap x.sec].getD k 0)) hf rfl (fun w hS=>RunV.load1 T_agg_3 rfl (hS.ptAt (i:=1) rfl) (arr5 (by omega))) ?_; clear hf a; intro a hf
          refine OQ.val (v:=.int .i64 (k:Int)) hf rfl (fun w hS=>RunV.move rfl) ?_; clear hf a; intro a hf
          refine OQ.val (v:=.pointer (some ⟨b_y4,k,none⟩)) hf rfl (fun w hS=>RunV.indexArr (j:=k) (m:=k) T_arr_83 T_size_3 rfl rfl rfl (by omega) (by omega)) ?_; clear hf a; intro a hf
          refine OQ.val (v:=.int .i64 ([15396336,y.yr,IntKind.i64.wrap y.half,y.cyc,IntKind.i64.wrap y.sec].getD k 0)) hf rfl (fun w hS=>RunV.load1 T_agg_3 rfl (hS.ptAt (i:=0) rfl) (arr5 (by omega))) ?_; clear hf a; intro a hf
          refine OQ.val (v:=.bool (decide (([x.num,x.yr,IntKind.i64.wrap x.half,x.cyc,IntKind.i64.wrap x.sec].getD k 0)>([15396336,y.yr,IntKind.i64.wrap y.half,y.cyc,IntKind.i64.wrap y.sec].getD k 0:Int)))) hf rfl (fun w hS=>RunV.gtr rfl rfl) ?_; clear hf a; intro a hf
          refine OQ.nil ?_; intro w hS
          refine k_seq ?_
          replace hf:Fr a 60 [] [(5,.pointer (some ⟨b_x3,0,none⟩)),(6,.pointer (some ⟨b_y4,0,none⟩)),(7,.int .i64 (k:Int)),(59,.bool (decide (([x.num,x.yr,IntKind.i64.wrap x.half,x.cyc,IntKind.i64.wrap x.sec].getD k 0)>([15396336,y.yr,IntKind.i64.wrap y.half,y.cyc,IntKind.i64.wrap y.sec].getD k 0:Int))))]:=hf.to ⟨rfl,rfl,rfl,rfl,trivial⟩
          refine W.ifdI hf rfl (fun hgt=>?_) (fun hgt=>?_)
          · refine W.seq ?_
            refine W.regionL (l:=[0]) rfl ?_
            refine O.val hf rfl rfl rfl (RunV.assign rfl) ?_
            clear hf a; intro a hf
            refine O.nil ?_
            refine k_seq ?_
            refine W.ret ?_
            refine k_blk_ret ?_
            refine k_then_ret ?_
            refine k_then_ret ?_
            refine k_blk_ret ?_
            refine k_then_ret ?_
            refine post1 hf rfl (ResOK.tmp rfl) ?_
            exact ⟨(),congrArg (fun x=>Ending.returned (Value.int .i64 x)) (by unfold befM befN; (first | rw [if_pos ha,if_pos hb] | rw [if_pos ha,if_neg hb] | rw [if_neg ha,if_pos hb] | rw [if_neg ha,if_neg hb]); exact bef_gt h2 (by omega) hgt),hS.sub (List.nil_sublist _) |>.noB⟩
          · refine W.skip ?_
            refine k_blk_normal ?_
            refine k_seq ?_
            refine W.regionL (l:=[0,1,2]) rfl ?_
            refine O.val hf rfl rfl rfl (RunV.move rfl) ?_
            clear hf a; intro a hf
            refine O.val hf rfl rfl rfl (RunV.addI rfl rfl (by omega)) ?_
            clear hf a; intro a hf
            refine O.val hf rfl rfl rfl (RunV.assign rfl) ?_
            clear hf a; intro a hf
            refine O.nil ?_
            refine k_then ⟨(k+1),⟨hf.to ⟨rfl,rfl,(by first | rfl | exact congrArg some (congrArg (Value.int _) (by omega))),trivial⟩,?_,?_,?_⟩,?_⟩
            · exact hS.eqM rfl
            · omega
            · exact bef_step h2 (by omega) (by omega)
            · dsimp only; omega
      · refine W.exit ?_
        refine k_then_exit ?_
        refine k_then_exit ?_
        refine k_blk ?_
        refine k_seq ?_
        replace hf:Fr a 60 [] []:=hf.to trivial
        refine W.seq ?_
        refine W.regionL (l:=[0]) rfl ?_
        refine O.val hf rfl rfl rfl (RunV.assign rfl) ?_
        clear hf a; intro a hf
        refine O.nil ?_
        refine k_seq ?_
        refine W.ret ?_
        refine post1 hf rfl (ResOK.tmp rfl) ?_
        exact ⟨(),congrArg (fun x=>Ending.returned (Value.int .i64 x)) (by unfold befM befN; (first | rw [if_pos ha,if_pos hb] | rw [if_pos ha,if_neg hb] | rw [if_neg ha,if_pos hb] | rw [if_neg ha,if_neg hb]); exact bef_eq h2 (by omega)),hS.sub (List.nil_sublist _) |>.noB⟩
    · refine W.skip ?_
      refine k_seq ?_
      refine W.seq ?_
      refine W.seq ?_
      refine W.regionL (l:=[0]) rfl ?_
      refine O.val hf rfl rfl rfl (RunV.assign rfl) ?_
      clear hf a; intro a hf
      refine O.nil ?_
      refine k_seq ?_
      refine W.block ?_
      refine W.loop (G:=(Nat)) (fun g a w=>match g with | k=>Fr a 60 [] [(5,.pointer (some ⟨b_x3,0,none⟩)),(6,.pointer (some ⟨b_y4,0,none⟩)),(7,.int .i64 (k:Int))]∧St w0 w noX [] [pt b_y4 (.cells #[.int .i64 y.num,.int .i64 y.yr,.int .i64 (IntKind.i64.wrap y.half),.int .i64 y.cyc,.int .i64 (IntKind.i64.wrap y.sec)] 83 (0,0)),pt b_x3 (.cells #[.int .i64 x.num,.int .i64 x.yr,.int .i64 (IntKind.i64.wrap x.half),.int .i64 x.cyc,.int .i64 (IntKind.i64.wrap x.sec)] 83 (0,0)),pt b_b2 (.cells #[.int .i64 y.num,.int .i64 y.yr,.int .u8 y.half,.int .u8 y.sec,.int .i64 y.cyc] 24 (0,0)),pt b_a1 (.cells #[.int .i64 x.num,.int .i64 x.yr,.int .u8 x.half,.int .u8 x.sec,.int .i64 x.cyc] 24 (0,0))]∧(k≤5)∧(∀ i,i<k→[x.num,x.yr,IntKind.i64.wrap x.half,x.cyc,IntKind.i64.wrap x.sec].getD i 0=[y.num,y.yr,IntKind.i64.wrap y.half,y.cyc,IntKind.i64.wrap y.sec].getD i 0)) (fun g=>match g with | k=>5-k) 0 ?_ ?_
      · refine ⟨hf.to ⟨rfl,rfl,(by first | rfl | exact congrArg some (congrArg (Value.int _) (by omega))),trivial⟩,hS,?_,?_⟩
        · omega
        · intro i hi; omega
      clear hf hS a
      rintro k a w ⟨hf,hS,hk,h2⟩
      refine W.seq ?_
      refine W.seq ?_
      refine W.regionL (l:=[0,1]) rfl ?_
      refine O.val hf rfl rfl rfl (RunV.move rfl) ?_
      clear hf a; intro a hf
      refine O.val (v:=.bool (decide ((k:Int)<(5:Int)))) hf rfl rfl rfl (RunV.lss rfl rfl) ?_
      clear hf a; intro a hf
      refine O.nil ?_
      refine k_seq ?_
      replace hf:Fr a 60 [] [(5,.pointer (some ⟨b_x3,0,none⟩)),(6,.pointer (some ⟨b_y4,0,none⟩)),(7,.int .i64 (k:Int)),(43,.bool (decide ((k:Int)<(5:Int))))]:=hf.to ⟨rfl,rfl,rfl,rfl,trivial⟩
      refine W.ifdI hf rfl (fun hc17=>?_) (fun hc17=>?_)
      · refine W.skip ?_
        refine k_seq ?_
        refine W.seq ?_
        refine W.block ?_
        refine W.seq ?_
        refine W.seq ?_
        refine W.drawQ (fun w=>St w0 w noX [] [pt b_y4 (.cells #[.int .i64 y.num,.int .i64 y.yr,.int .i64 (IntKind.i64.wrap y.half),.int .i64 y.cyc,.int .i64 (IntKind.i64.wrap y.sec)] 83 (0,0)),pt b_x3 (.cells #[.int .i64 x.num,.int .i64 x.yr,.int .i64 (IntKind.i64.wrap x.half),.int .i64 x.cyc,.int .i64 (IntKind.i64.wrap x.sec)] 83 (0,0)),pt b_b2 (.cells #[.int .i64 y.num,.int .i64 y.yr,.int .u8 y.half,.int .u8 y.sec,.int .i64 y.cyc] 24 (0,0)),pt b_a1 (.cells #[.int .i64 x.num,.int .i64 x.yr,.int .u8 x.half,.int .u8 x.sec,.int .i64 x.cyc] 24 (0,0))]) P_mixed rfl (by kernel_rfl) rfl hS.drew ?_
        clear hS
        refine OQ.val (v:=.int .i64 (k:Int)) hf rfl (fun w hS=>RunV.move rfl) ?_; clear hf a; intro a hf
        refine OQ.val (v:=.pointer (some ⟨b_x3,k,none⟩)) hf rfl (fun w hS=>RunV.indexArr (j:=k) (m:=k) T_arr_83 T_size_3 rfl rfl rfl (by omega) (by omega)) ?_; clear hf a; intro a hf
        refine OQ.val (v:=.int .i64 ([x.num,x.yr,IntKind.i64.wrap x.half,x.cyc,IntKind.i64.wrap x.sec].getD k 0)) hf rfl (fun w hS=>RunV.load1 T_agg_3 rfl (hS.ptAt (i:=1) rfl) (arr5 (by omega))) ?_; clear hf a; intro a hf
        refine OQ.val (v:=.int .i64 (k:Int)) hf rfl (fun w hS=>RunV.move rfl) ?_; clear hf a; intro a hf
        refine OQ.val (v:=.pointer (some ⟨b_y4,k,none⟩)) hf rfl (fun w hS=>RunV.indexArr (j:=k) (m:=k) T_arr_83 T_size_3 rfl rfl rfl (by omega) (by omega)) ?_; clear hf a; intro a hf
        refine OQ.val (v:=.int .i64 ([y.num,y.yr,IntKind.i64.wrap y.half,y.cyc,IntKind.i64.wrap y.sec].getD k 0)) hf rfl (fun w hS=>RunV.load1 T_agg_3 rfl (hS.ptAt (i:=0) rfl) (arr5 (by omega))) ?_; clear hf a; intro a hf
        refine OQ.val (v:=.bool (decide (([x.num,x.yr,IntKind.i64.wrap x.half,x.cyc,IntKind.i64.wrap x.sec].getD k 0)<([y.num,y.yr,IntKind.i64.wrap y.half,y.cyc,IntKind.i64.wrap y.sec].getD k 0:Int)))) hf rfl (fun w hS=>RunV.lss rfl rfl) ?_; clear hf a; intro a hf
        refine OQ.nil ?_; intro w hS
        refine k_seq ?_
        replace hf:Fr a 60 [] [(5,.pointer (some ⟨b_x3,0,none⟩)),(6,.pointer (some ⟨b_y4,0,none⟩)),(7,.int .i64 (k:Int)),(52,.bool (decide (([x.num,x.yr,IntKind.i64.wrap x.half,x.cyc,IntKind.i64.wrap x.sec].getD k 0)<([y.num,y.yr,IntKind.i64.wrap y.half,y.cyc,IntKind.i64.wrap y.sec].getD k 0:Int))))]:=hf.to ⟨rfl,rfl,rfl,rfl,trivial⟩
        refine W.ifdI hf rfl (fun hlt=>?_) (fun hlt=>?_)
        · refine W.seq ?_
          refine W.regionL (l:=[0]) rfl ?_
          refine O.val hf rfl rfl rfl (RunV.assign rfl) ?_
          clear hf a; intro a hf
          refine O.nil ?_
          refine k_seq ?_
          refine W.ret ?_
          refine k_then_ret ?_
          refine k_blk_ret ?_
          refine k_then_ret ?_
          refine k_then_ret ?_
          refine k_blk_ret ?_
          refine k_then_ret ?_
          refine post1 hf rfl (ResOK.tmp rfl) ?_
          exact ⟨(),congrArg (fun x=>Ending.returned (Value.int .i64 x)) (by unfold befM befN; (first | rw [if_pos ha,if_pos hb] | rw [if_pos ha,if_neg hb] | rw [if_neg ha,if_pos hb] | rw [if_neg ha,if_neg hb]); exact bef_lt h2 (by omega) hlt),hS.sub (List.nil_sublist _) |>.noB⟩
        · refine W.skip ?_
          refine k_seq ?_
          refine W.seq ?_
          refine W.drawQ (fun w=>St w0 w noX [] [pt b_y4 (.cells #[.int .i64 y.num,.int .i64 y.yr,.int .i64 (IntKind.i64.wrap y.half),.int .i64 y.cyc,.int .i64 (IntKind.i64.wrap y.sec)] 83 (0,0)),pt b_x3 (.cells #[.int .i64 x.num,.int .i64 x.yr,.int .i64 (IntKind.i64.wrap x.half),.int .i64 x.cyc,.int .i64 (IntKind.i64.wrap x.sec)] 83 (0,0)),pt b_b2 (.cells #[.int .i64 y.num,.int .i64 y.yr,.int .u8 y.half,.int .u8 y.sec,.int .i64 y.cyc] 24 (0,0)),pt b_a1 (.cells #[.int .i64 x.num,.int .i64 x.yr,.int .u8 x.half,.int .u8 x.sec,.int .i64 x.cyc] 24 (0,0))]) P_mixed rfl (by kernel_rfl) rfl hS.drew ?_
          clear hS
          refine OQ.val (v:=.int .i64 (k:Int)) hf rfl (fun w hS=>RunV.move rfl) ?_; clear hf a; intro a hf
          refine OQ.val (v:=.pointer (some ⟨b_x3,k,none⟩)) hf rfl (fun w hS=>RunV.indexArr (j:=k) (m:=k) T_arr_83 T_size_3 rfl rfl rfl (by omega) (by omega)) ?_; clear hf a; intro a hf
          refine OQ.val (v:=.int .i64 ([x.num,x.yr,IntKind.i64.wrap x.half,x.cyc,IntKind.i64.wrap x.sec].getD k 0)) hf rfl (fun w hS=>RunV.load1 T_agg_3 rfl (hS.ptAt (i:=1) rfl) (arr5 (by omega))) ?_; clear hf a; intro a hf
          refine OQ.val (v:=.int .i64 (k:Int)) hf rfl (fun w hS=>RunV.move rfl) ?_; clear hf a; intro a hf
          refine OQ.val (v:=.pointer (some ⟨b_y4,k,none⟩)) hf rfl (fun w hS=>RunV.indexArr (j:=k) (m:=k) T_arr_83 T_size_3 rfl rfl rfl (by omega) (by omega)) ?_; clear hf a; intro a hf
          refine OQ.val (v:=.int .i64 ([y.num,y.yr,IntKind.i64.wrap y.half,y.cyc,IntKind.i64.wrap y.sec].getD k 0)) hf rfl (fun w hS=>RunV.load1 T_agg_3 rfl (hS.ptAt (i:=0) rfl) (arr5 (by omega))) ?_; clear hf a; intro a hf
          refine OQ.val (v:=.bool (decide (([x.num,x.yr,IntKind.i64.wrap x.half,x.cyc,IntKind.i64.wrap x.sec].getD k 0)>([y.num,y.yr,IntKind.i64.wrap y.half,y.cyc,IntKind.i64.wrap y.sec].getD k 0:Int)))) hf rfl (fun w hS=>RunV.gtr rfl rfl) ?_; clear hf a; intro a hf
          refine OQ.nil ?_; intro w hS
          refine k_seq ?_
          replace hf:Fr a 60 [] [(5,.pointer (some ⟨b_x3,0,none⟩)),(6,.pointer (some ⟨b_y4,0,none⟩)),(7,.int .i64 (k:Int)),(59,.bool (decide (([x.num,x.yr,IntKind.i64.wrap x.half,x.cyc,IntKind.i64.wrap x.sec].getD k 0)>([y.num,y.yr,IntKind.i64.wrap y.half,y.cyc,IntKind.i64.wrap y.sec].getD k 0:Int))))]:=hf.to ⟨rfl,rfl,rfl,rfl,trivial⟩
          refine W.ifdI hf rfl (fun hgt=>?_) (fun hgt=>?_)
          · refine W.seq ?_
            refine W.regionL (l:=[0]) rfl ?_
            refine O.val hf rfl rfl rfl (RunV.assign rfl) ?_
            clear hf a; intro a hf
            refine O.nil ?_
            refine k_seq ?_
            refine W.ret ?_
            refine k_blk_ret ?_
            refine k_then_ret ?_
            refine k_then_ret ?_
            refine k_blk_ret ?_
            refine k_then_ret ?_
            refine post1 hf rfl (ResOK.tmp rfl) ?_
            exact ⟨(),congrArg (fun x=>Ending.returned (Value.int .i64 x)) (by unfold befM befN; (first | rw [if_pos ha,if_pos hb] | rw [if_pos ha,if_neg hb] | rw [if_neg ha,if_pos hb] | rw [if_neg ha,if_neg hb]); exact bef_gt h2 (by omega) hgt),hS.sub (List.nil_sublist _) |>.noB⟩
          · refine W.skip ?_
            refine k_blk_normal ?_
            refine k_seq ?_
            refine W.regionL (l:=[0,1,2]) rfl ?_
            refine O.val hf rfl rfl rfl (RunV.move rfl) ?_
            clear hf a; intro a hf
            refine O.val hf rfl rfl rfl (RunV.addI rfl rfl (by omega)) ?_
            clear hf a; intro a hf
            refine O.val hf rfl rfl rfl (RunV.assign rfl) ?_
            clear hf a; intro a hf
            refine O.nil ?_
            refine k_then ⟨(k+1),⟨hf.to ⟨rfl,rfl,(by first | rfl | exact congrArg some (congrArg (Value.int _) (by omega))),trivial⟩,?_,?_,?_⟩,?_⟩
            · exact hS.eqM rfl
            · omega
            · exact bef_step h2 (by omega) (by omega)
            · dsimp only; omega
      · refine W.exit ?_
        refine k_then_exit ?_
        refine k_then_exit ?_
        refine k_blk ?_
        refine k_seq ?_
        replace hf:Fr a 60 [] []:=hf.to trivial
        refine W.seq ?_
        refine W.regionL (l:=[0]) rfl ?_
        refine O.val hf rfl rfl rfl (RunV.assign rfl) ?_
        clear hf a; intro a hf
        refine O.nil ?_
        refine k_seq ?_
        refine W.ret ?_
        refine post1 hf rfl (ResOK.tmp rfl) ?_
        exact ⟨(),congrArg (fun x=>Ending.returned (Value.int .i64 x)) (by unfold befM befN; (first | rw [if_pos ha,if_pos hb] | rw [if_pos ha,if_neg hb] | rw [if_neg ha,if_pos hb] | rw [if_neg ha,if_neg hb]); exact bef_eq h2 (by omega)),hS.sub (List.nil_sublist _) |>.noB⟩
end Go.Proofs.YtgakdmmmljdpjaaDoor

namespace Go.SL
open Go
theorem wfB {x:Int} (h:(Lit.int .u8 x).wf=true):0≤x∧x<256:=by
  simp only [Lit.wf,Bool.and_eq_true,decide_eq_true_eq] at h
  have h1:IntKind.u8.min=0:=rfl
  have h2:IntKind.u8.max=255:=rfl
  omega
theorem dec_and {p q:Prop} [Decidable p] [Decidable q] (h:p→¬ q):(decide p&&decide q)=false:=by
  by_cases hp:p
  · rw [decide_eq_false (h hp),Bool.and_false]
  · rw [decide_eq_false hp,Bool.false_and]
def allS (Q:Dg→Prop) (S:List PG):Prop:=∀ p ∈ S,∀ d ∈ p.1,Q d
theorem allS_step {Q:Dg→Prop} {S S':List PG} {c:Ch} (h:stepM S c=.ok S') (hS:allS Q S) (hc:Q c.a∧Q c.b):allS Q S':=by
  unfold stepM at h
  split at h
  · unfold addM at h
    split at h
    · cases h
    · cases h
      intro p hp
      rcases List.mem_cons.1 hp with rfl | hp
      · intro d hd; rw [List.mem_singleton.1 hd]; exact hc.1
      · exact hS p hp
  · split at h
    · unfold joinM at h
      split at h
      · rename_i x y hx hy
        split at h
        · cases h
        · cases h
          intro p hp
          rcases List.mem_cons.1 hp with rfl | hp
          · have h1:=hS x (findG_mem hx).1
            have h2:=hS y (findG_mem hy).1
            intro d hd
            exact (List.mem_append.1 ((merged_perm x y).mem_iff.1 hd)).elim (h1 d) (h2 d)
          · exact hS p ((List.mem_filter.1 hp).1)
      · cases h
    · unfold nameM at h
      split at h
      · cases h
      · rename_i x hx
        split at h
        · cases h
        · split at h
          · cases h
          · cases h
            intro p hp
            rcases List.mem_cons.1 hp with rfl | hp
            · have h1:=hS x (findG_mem hx).1
              intro d hd
              rcases List.mem_append.1 hd with hd | hd
              · exact h1 d hd
              · rw [List.mem_singleton.1 hd]; exact hc.2
            · exact hS p ((List.mem_filter.1 hp).1)
theorem allS_run {Q:Dg→Prop}:∀ {cs:List Ch} {S S':List PG},(∀ c ∈ cs,Q c.a∧Q c.b)→allS Q S→runL S cs=.ok S'→allS Q S'
  | [],S,S',_,hS,h=>by cases h; exact hS
  | c::t,S,S',hc,hS,h=>by
    simp only [runL] at h
    cases hs:stepM S c with
    | error e=>rw [hs] at h; cases h
    | ok T =>
      rw [hs] at h
      exact allS_run (fun x hx=>hc x (List.mem_cons_of_mem _ hx)) (allS_step hs hS (hc c List.mem_cons_self)) h
theorem liveK_mem {l:List Ch} {us:List Bool}:∀ {k},k≤l.length→∀ c ∈ liveK l us k,c ∈ l
  | 0,_,c,hc=>by cases hc
  | k+1,hk,c,hc=>by
    simp only [liveK] at hc
    split at hc
    · rcases List.mem_append.1 hc with hc | hc
      · exact liveK_mem (by omega) c hc
      · rw [List.mem_singleton.1 hc,List.getD_eq_getElem?_getD,List.getElem?_eq_getElem (by omega)]
        exact List.getElem_mem _
    · exact liveK_mem (by omega) c hc
theorem rS_hist {l:List Ch} {S:List PG} {us:List Bool} (hr:∀ c ∈ l,rC c) (hm:histM l=.ok (S,us)):allS rD S:=by
  obtain ⟨_,_,_,h4⟩:=hist_parts hm
  unfold playM at h4
  rw [playK_live] at h4
  exact allS_run (fun c hc=>hr c (liveK_mem (Nat.le_refl _) c hc)) (fun p hp=>by cases hp) h4
section
variable {l:List Ch} {S:List PG} {us:List Bool} {xs:List Ob} {p:PG} {i k:Nat}
theorem ap_obj (hx:xs.map prO=objsM S) (hi:i<xs.length):∃ p,p ∈ S∧(xs.getD i default).p=(sortDs p.1).getD 0 default∧(xs.getD i default).l=sortDs p.1:=by
  have h1:prO (xs.getD i default) ∈ xs.map prO:=List.mem_map.2 ⟨_,by rw [List.getD_eq_getElem?_getD,List.getElem?_eq_getElem hi]; exact List.getElem_mem _,rfl⟩
  rw [hx] at h1
  obtain ⟨p,hp,he⟩:=objsM_mem.1 h1
  exact ⟨p,hp,(congrArg Prod.fst he).symm,(congrArg Prod.snd he).symm⟩
theorem ap_mem (hk:k<(sortDs p.1).length):(sortDs p.1).getD k default ∈ p.1:=by
  refine sort_mem.1 ?_
  rw [List.getD_eq_getElem?_getD,List.getElem?_eq_getElem hk]
  exact List.getElem_mem _
theorem ap_who (hm:histM l=.ok (S,us)) (hp:p ∈ S) (hk:k<(sortDs p.1).length):whoM l ((sortDs p.1).getD k default)=.ok p :=
  whoM_mk hm ((okS_hist hm p hp).2 _ (ap_mem hk)) (find_some (wf_hist hm).1 hp (ap_mem hk))
theorem ap_lt (hr:∀ c ∈ l,rC c) (hm:histM l=.ok (S,us)) (hp:p ∈ S) (h0:0<k) (hk:k<(sortDs p.1).length):befM ((sortDs p.1).getD (k-1) default) ((sortDs p.1).getD k default)<0∧((sortDs p.1).getD k default).num≤0:=by
  have hw:=(wf_hist hm).2 p hp
  refine ⟨?_,num_tail hw h0 hk⟩
  rw [bef_cmp ((okS_hist hm p hp).2 _ (ap_mem (by omega))) ((okS_hist hm p hp).2 _ (ap_mem hk)) (rS_hist hr hm p hp _ (ap_mem (by omega))) (rS_hist hr hm p hp _ (ap_mem hk))]
  exact pair_getD (R:=fun x y=>cmpD x y<0) (sort_lt hw.2.1) (by omega) hk
theorem ap_pos (hm:histM l=.ok (S,us)) (hp:p ∈ S):0<(sortDs p.1).length:=by
  rw [sort_len]; exact List.length_pos_iff.2 (okS_hist hm p hp).1
theorem ap_ok (hm:histM l=.ok (S,us)) (hx:xs.map prO=objsM S) (hi:i<xs.length):okD (xs.getD i default).p=true:=by
  obtain ⟨p,hp,h1,h2⟩:=ap_obj hx hi
  rw [h1]
  exact (okS_hist hm p hp).2 _ (ap_mem (ap_pos hm hp))
theorem ap_r (hr:∀ c ∈ l,rC c) (hm:histM l=.ok (S,us)) (hx:xs.map prO=objsM S) (hi:i<xs.length):rD (xs.getD i default).p:=by
  obtain ⟨p,hp,h1,h2⟩:=ap_obj hx hi
  rw [h1]
  exact rS_hist hr hm p hp _ (ap_mem (ap_pos hm hp))
theorem ap_lt2 (hr:∀ c ∈ l,rC c) (hm:histM l=.ok (S,us)) (hx:xs.map prO=objsM S) (h0:0<i) (hi:i<xs.length):befM (xs.getD (i-1) default).p (xs.getD i default).p<0:=by
  rw [bef_cmp (ap_ok hm hx (by omega)) (ap_ok hm hx hi) (ap_r hr hm hx (by omega)) (ap_r hr hm hx hi)]
  have h1:=objs_lt (wf_hist hm)
  rw [← hx] at h1
  have h2:=pair_getD (R:=fun x y:PO=>cmpD x.1 y.1<0) h1 (i:=i-1) (j:=i) (by omega) (by simpa using hi)
  rw [prO_getD (by omega),prO_getD hi] at h2
  exact h2
theorem ap_take (hm:histM l=.ok (S,us)) (hk:k≤l.length):∃ T vs,histM (l.take k)=.ok (T,vs):=by
  obtain ⟨u,T,_,_,h⟩:=hist_take hm hk
  exact ⟨T,_,h⟩
end
end Go.SL
