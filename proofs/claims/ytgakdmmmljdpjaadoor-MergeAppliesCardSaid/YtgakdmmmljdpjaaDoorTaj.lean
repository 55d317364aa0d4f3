/- Part of a proof: laws and walks. -/
import Derived.Test.YtgakdmmmljdpjaaDoorTai
import Derived.Test.YtgakdmmmljdpjaaDoorTae
import Derived.Test.YtgakdmmmljdpjaaDoorTac
set_option linter.unusedVariables false
set_option linter.unusedSimpArgs false
namespace Go.SL
open Go
def allA (l:List Asr):Asr:=⟨fun b=>∃ p ∈ l,p.fp b,fun h=>∀ p ∈ l,p.holds h,fun h h' hk hh p hp=>p.loc h h' (fun b hb=>hk b ⟨p,hp,hb⟩) (hh p hp)⟩
def rdOb (o:Ob):Asr:=rdv 5 o.v o.l.length (encs eD o.l)
section
variable {w0 w:World} {X:Nat→Prop} {B M:List Asr} {i j:Nat} {os:List Ob} {o:Ob} {l:List Asr}
def obsRd (w:World) (os:List Ob):Prop:=∀ o ∈ os,rdOK (hp w) 5 o.v o.l.length (encs eD o.l)
theorem St.lendObs (hS:St w w noX B M) (h:obsRd w os):St w w noX (allA (os.map rdOb)::B) M :=
  hS.lendA ⟨fun p hp=>by
    obtain ⟨o,ho,rfl⟩:=List.mem_map.1 hp
    exact h o ho,fun b ⟨p,hp,hb⟩=>by
    obtain ⟨o,ho,rfl⟩:=List.mem_map.1 hp
    have h1:=h o ho
    have h2:St w w noX [rdv 5 o.v o.l.length (encs eD o.l)] []:=(St.refl w).lend0 h1
    exact ((h2.bor _ List.mem_cons_self).2 b hb).1⟩
theorem St.obAt (hS:St w0 w X B M) (hi:B[i]? = some (allA (os.map rdOb))):obsRd w os:=fun o ho=>by
  have h:(allA (os.map rdOb)).holds (hp w):=hS.bat hi
  exact h (rdOb o) (List.mem_map.2 ⟨o,ho,rfl⟩)
theorem slE_rd {h:Hp} {e sz:Nat} {enc:Dg→List Value} {v:Value} {l:List Dg} (hh:(slE e sz enc v l).holds h):rdOK h sz v l.length (encs enc l):=(show slOK h e sz v l.length (encs enc l) from hh).rd
theorem St.obOwn (hS:St w0 w X B M) (hi:M[i]? = some (bigA (os.map obA))):obsRd w os:=fun o ho=>by
  have h:(bigA (os.map obA)).holds (hp w):=hS.at_ hi
  have h1:(obA o).holds (hp w):=h.1 (obA o) (List.mem_map.2 ⟨o,ho,rfl⟩)
  exact slE_rd h1
theorem obsRd.at (h:obsRd w os) {k:Nat} (hk:k<os.length):rdOK (hp w) 5 (os.getD k default).v (os.getD k default).l.length (encs eD (os.getD k default).l) :=
  h _ (by rw [List.getD_eq_getElem?_getD,List.getElem?_eq_getElem hk]; exact List.getElem_mem _)
theorem obsRd.nil:obsRd w []:=fun o ho=>by cases ho
theorem obsRd.cons {t:List Ob} (h:rdOK (hp w) 5 o.v o.l.length (encs eD o.l)) (ht:obsRd w t):obsRd w (o::t):=fun x hx=>by
  rcases List.mem_cons.1 hx with rfl | hx
  · exact h
  · exact ht x hx
end
def nameD (c:Int):Dg:=⟨0,2026,87,c,0⟩
def numD:Dg:=⟨700001,0,0,0,0⟩
def givenL:List Ch:=[⟨1,nameD 65,default,0⟩,⟨1,nameD 66,default,0⟩,⟨2,nameD 65,nameD 66,0⟩,⟨3,nameD 66,numD,0⟩]
instance {T:Type} [DecidableEq T]:DecidableEq (Except Int T):=fun a b=>match a,b with
  | .error e,.error f=>if h:e=f then isTrue (h▸rfl) else isFalse (fun h2=>h (by injection h2))
  | .ok x,.ok y=>if h:x=y then isTrue (h▸rfl) else isFalse (fun h2=>h (by injection h2))
  | .error _,.ok _=>isFalse (fun h=>by cases h)
  | .ok _,.error _=>isFalse (fun h=>by cases h)
theorem sortDs_eq {l s:List Dg} (hp:l.Perm s) (hs:s.Pairwise (fun x y=>ltD y x=false)):sortDs l=s:=by
  have h:=sorted_eq (l:=l.map fun d=>(d,[])) (s:=s.map fun d=>(d,[])) (fun x hx y hy he=>by
    obtain ⟨a,_,rfl⟩:=List.mem_map.1 hx
    obtain ⟨b,_,rfl⟩:=List.mem_map.1 hy
    exact Prod.ext he rfl) (hp.map _) (by
    rw [List.pairwise_map]
    exact hs.imp fun {a b} h=>by unfold leO; simp only [h]; rfl)
  have h2:=congrArg (List.map Prod.fst) h
  rw [List.map_mergeSort (r:=leO) (s:=fun x y=>!ltD y x) (f:=Prod.fst) (fun a _ b _=>rfl),List.map_map,List.map_map] at h2
  simpa [Function.comp_def,sortDs] using h2
end Go.SL

namespace Go.SL
open Go
def greatM (n:Nat):Bool:=decide ((n:Int)>25)&&decide ((n:Int)≤500)||decide ((n:Int)>510)
section
variable {p q:Dg} {lp lq:List Dg} {k:Nat} {xs ys:List Ob}
theorem ext_getD {T:Type} [Inhabited T] {a b:List T} (hl:a.length=b.length) (h:∀ j,j<a.length→a.getD j default=b.getD j default):a=b:=by
  apply List.ext_getElem hl
  intro i h1 h2
  have:=h i h1
  simpa [List.getD_eq_getElem?_getD,List.getElem?_eq_getElem h1,List.getElem?_eq_getElem h2] using this
end
end Go.SL

set_option maxHeartbeats 1000000
set_option maxRecDepth 8000
namespace Go.Proofs.YtgakdmmmljdpjaaDoor
open Go Go.SL
theorem T_field_46_1:tField Tryd.prog 46 1=some 5:=by kernel_rfl
theorem T_places_26:tPlaces Tryd.prog 26=some #[(0,1),(1,5),(6,5),(11,1)]:=by kernel_rfl
set_option maxHeartbeats 400000 in
set_option maxRecDepth 4000 in
theorem great_spec (vl:Value) (l:List Ch) (w0:World) (hl:rdOK (hp w0) 12 vl l.length (encs eC l)) :
    Ret Tryd.prog 10 #[vl] w0 (G:=Unit) (fun _=>.bool (greatM l.length)) (fun _ w=>St w0 w noX [] []):=by
  refine ret_of_W (lv:=[vl]) Tryd.func10 rfl rfl rfl (fun a hf=>?_); replace hf:Fr a 16 [] [(0,vl)]:=hf; have hS:St w0 w0 noX [rdv 12 vl l.length (encs eC l)] []:=(St.refl w0).lend0 hl; refine W.seq ?_
  refine W.regionL (l:=[0]) rfl<|mv hf rfl<|?_; clear hf a; intro a hf; refine nk<|W.seq<|?_
  refine W.regionL (l:=[0,1,2,3,4,5,6,7,8,9,10,11,12,13]) rfl<|mv hf rfl<|?_; clear hf a; intro a hf; refine ov hf rfl (RunV.lenV (e:=26) (by simpa using T_elem_22) rfl (hS.rdAt (j:=0) rfl)) ?_; clear hf a; intro a hf; refine ov (v:=.bool (decide ((l.length:Int)>(25:Int)))) hf rfl (RunV.gtr rfl rfl) ?_; clear hf a; intro a hf; refine mv hf rfl ?_; clear hf a; intro a hf
  refine O.cutN (l₁:=[4,5,6,7]) (l₂:=_) (fun a w=>Fr a 16 [] [(0,vl),(2,.bool false),(3,vl),(4,.int .i64 (l.length:Int)),(5,.bool (decide ((l.length:Int)>(25:Int)))),(6,.bool (decide ((l.length:Int)>(25:Int)))),(10,.bool ((decide ((l.length:Int)>(25:Int)))&&(decide ((l.length:Int)≤(500:Int)))))]∧St w0 w noX [rdv 12 vl l.length (encs eC l)] []) rfl ?_ ?_
  · rcases Bool.eq_false_or_eq_true (decide ((l.length:Int)>(25:Int))) with hb1 | hb1
    · have hb1p:=of_decide_eq_true hb1
      refine og (v:=vl) hf rfl hb1 (RunV.move rfl) ?_; clear hf a; intro a hf; refine og (v:=.int .i64 (l.length:Int)) hf rfl hb1 (RunV.lenV (e:=26) (by simpa using T_elem_22) rfl (hS.rdAt (j:=0) rfl)) ?_; clear hf a; intro a hf; refine og (v:=.bool (decide ((l.length:Int)≤(500:Int)))) hf rfl hb1 (RunV.leq rfl rfl) ?_; clear hf a; intro a hf; refine ov (v:=.bool ((decide ((l.length:Int)>(25:Int)))&&(decide ((l.length:Int)≤(500:Int))))) hf rfl (RunV.pick rfl rfl rfl (by rw [hb1]; rfl)) ?_; clear hf a; intro a hf; exact O.nil ⟨rfl,hf.q rfl,hS⟩
    · have hb1p:=of_decide_eq_false hb1
      refine sk hf rfl hb1 fun a hf=>sk hf rfl hb1 fun a hf=>sk hf rfl hb1 fun a hf=>?_; refine ov (v:=.bool ((decide ((l.length:Int)>(25:Int)))&&(decide ((l.length:Int)≤(500:Int))))) hf rfl (RunV.pick rfl rfl rfl (by rw [hb1]; rfl)) ?_; clear hf a; intro a hf; exact O.nil ⟨rfl,hf.q rfl,hS⟩
  clear hf hS a; rintro a w ⟨hf,hS⟩; refine mv hf rfl ?_; clear hf a; intro a hf
  refine O.cutN (l₁:=[9,10,11,12]) (l₂:=_) (fun a w=>Fr a 16 [] [(0,vl),(2,.bool false),(3,vl),(4,.int .i64 (l.length:Int)),(5,.bool (decide ((l.length:Int)>(25:Int)))),(6,.bool (decide ((l.length:Int)>(25:Int)))),(10,.bool ((decide ((l.length:Int)>(25:Int)))&&(decide ((l.length:Int)≤(500:Int))))),(11,.bool ((decide ((l.length:Int)>(25:Int)))&&(decide ((l.length:Int)≤(500:Int))))),(15,.bool (((decide ((l.length:Int)>(25:Int)))&&(decide ((l.length:Int)≤(500:Int))))||(decide ((l.length:Int)>(510:Int)))))]∧St w0 w noX [rdv 12 vl l.length (encs eC l)] []) rfl ?_ ?_
  · rcases Bool.eq_false_or_eq_true ((decide ((l.length:Int)>(25:Int)))&&(decide ((l.length:Int)≤(500:Int)))) with hb2 | hb2
    · have hb2p:=hb2
      try simp only [Bool.and_eq_true,Bool.or_eq_true,Bool.and_eq_false_iff,Bool.or_eq_false_iff,decide_eq_true_eq,decide_eq_false_iff_not,Bool.not_eq_true',Bool.not_eq_false',Bool.not_eq_true,Bool.not_eq_false,ne_eq] at hb2p
      refine sk hf rfl hb2 fun a hf=>sk hf rfl hb2 fun a hf=>sk hf rfl hb2 fun a hf=>?_; refine ov (v:=.bool (((decide ((l.length:Int)>(25:Int)))&&(decide ((l.length:Int)≤(500:Int))))||(decide ((l.length:Int)>(510:Int))))) hf rfl (RunV.pick rfl rfl rfl (by rw [hb2]; rfl)) ?_; clear hf a; intro a hf; exact O.nil ⟨rfl,hf.q rfl,hS⟩
    · have hb2p:=hb2
      try simp only [Bool.and_eq_true,Bool.or_eq_true,Bool.and_eq_false_iff,Bool.or_eq_false_iff,decide_eq_true_eq,decide_eq_false_iff_not,Bool.not_eq_true',Bool.not_eq_false',Bool.not_eq_true,Bool.not_eq_false,ne_eq] at hb2p
      refine og (v:=vl) hf rfl hb2 (RunV.move rfl) ?_; clear hf a; intro a hf; refine og (v:=.int .i64 (l.length:Int)) hf rfl hb2 (RunV.lenV (e:=26) (by simpa using T_elem_22) rfl (hS.rdAt (j:=0) rfl)) ?_; clear hf a; intro a hf; refine og (v:=.bool (decide ((l.length:Int)>(510:Int)))) hf rfl hb2 (RunV.gtr rfl rfl) ?_; clear hf a; intro a hf; refine ov (v:=.bool (((decide ((l.length:Int)>(25:Int)))&&(decide ((l.length:Int)≤(500:Int))))||(decide ((l.length:Int)>(510:Int))))) hf rfl (RunV.pick rfl rfl rfl (by rw [hb2]; rfl)) ?_; clear hf a; intro a hf; exact O.nil ⟨rfl,hf.q rfl,hS⟩
  clear hf hS a; rintro a w ⟨hf,hS⟩; refine mv hf rfl ?_; clear hf a; intro a hf; refine nk<|W.ret<|post1 hf rfl (ResOK.tmp rfl)<|?_; exact ⟨(),rfl,hS.sub (List.nil_sublist _) |>.noB⟩
end Go.Proofs.YtgakdmmmljdpjaaDoor

set_option maxHeartbeats 1000000
set_option maxRecDepth 8000
namespace Go.Proofs.YtgakdmmmljdpjaaDoor
open Go Go.SL
end Go.Proofs.YtgakdmmmljdpjaaDoor

namespace Go.SL
open Go
section
variable {T:Type} [Inhabited T] {P:Program} {w:World} {n:Nat} {ds:List Deferred} {L:List (Nat × Value)} {ty t:TypeId} {x:Operand} {v u:Value} {enc:T→List Value} {l:List T} {sz q j o:Nat}
theorem RunV.ldG2 (ha:tAgg P t=some false) (henc:∀ x,(enc x).length=sz) (hx:ev L x=some (ix v (j*sz+o))) (hr:rdOK (hp w) sz v l.length (encs enc l)) (hj:j<l.length) (ho:Nat.blt o sz=true) (hv:(enc (l.getD j default))[o]? = some u):RunV P n ds L (.load t x) ty w u w:=by
  have h0:l[j]? = some (l.getD j default):=by simp [List.getD_eq_getElem?_getD,List.getElem?_eq_getElem hj]
  exact RunV.ld1 ha hx hr (by rw [encs_get henc h0 (by simpa using ho)]; exact hv)
end
section
variable {l:List Ch} {S S2:List PG} {us:List Bool} {n k:Nat} {e:Int}
end
end Go.SL

namespace Go.Proofs.YtgakdmmmljdpjaaDoor
open Go Go.SL
end Go.Proofs.YtgakdmmmljdpjaaDoor

set_option maxHeartbeats 1000000
set_option maxRecDepth 8000
namespace Go.Proofs.YtgakdmmmljdpjaaDoor
open Go Go.SL
theorem C_ok_10:callOK Tryd.prog 10=true:=by kernel_rfl
theorem C_ok_11:callOK Tryd.prog 11=true:=by kernel_rfl
end Go.Proofs.YtgakdmmmljdpjaaDoor

namespace Go.SL
open Go
def whoM (l:List Ch) (d:Dg):Except Int PG :=
  match histM l with
  | .error e=>.error e
  | .ok (S,_)=>if okD d=true then (match findG S d with | none=>.error 6 | some p=>.ok p) else .error 8
def appM (l:List Ch) (c:Ch):Except Int (List PG × List Bool) :=
  match histM l with
  | .error e=>.error e
  | .ok _=>if okC c=true then histM (l++[c]) else .error 8
section
variable {l:List Ch} {d a b:Dg} {c:Ch} {e:Int} {p x y:PG} {S S2:List PG} {us us2:List Bool}
theorem appM_ok (h:appM l c=.ok (S2,us2)):∃ S us,histM l=.ok (S,us)∧okC c=true∧histM (l++[c])=.ok (S2,us2):=by
  unfold appM at h
  cases hm:histM l with
  | error e'=>rw [hm] at h; cases h
  | ok r =>
    obtain ⟨S,us⟩:=r
    rw [hm] at h
    simp only at h
    split at h
    · rename_i hc; exact ⟨S,us,rfl,hc,h⟩
    · cases h
def joinC (a b:Dg):Ch:=⟨2,a,b,0⟩
def sameP (x y:PG):Prop:=objP x=objP y∨(0<(objP x).1.num∧0<(objP y).1.num)
def cntC (As Bs:List PO):Nat:=(As.map fun x=>Bs.count x).sum
structure JoinedR (l:List Ch) (a b:Dg) (S S2:List PG) (x y z:PG):Prop where
  wz:whoM (l++[joinC a b]) a=.ok z
  wv:whoM (l++[joinC a b]) b=.ok z
  len:(sortDs z.1).length=(sortDs x.1).length+(sortDs y.1).length
  siz:S2.length+1=S.length
  cnt:cntC (objsM S) (objsM S2)+1=S2.length
end
end Go.SL

namespace Go.Proofs.YtgakdmmmljdpjaaDoor
open Go Go.SL
section
variable (vl:Value) (l:List Ch) (d:Dg) (c:Ch) (w0:World) (hG:Lent w0 ordA) (hl:rdOK (hp w0) 12 vl l.length (encs eC l)) (hfit:vfit vl)
include hG hl hfit
theorem applyE (hz:l.length≤1000) (e:Int) (h:appM l c=.error e):Ret Tryd.prog 11 #[vl,cV c] w0 (G:=Unit) (fun _=>.tuple #[.slice none 0 0,.int .i64 e]) (fun _ w=>St w0 w noX [] []):=by
  unfold appM at h
  cases hm:histM l with
  | error e'=>rw [hm] at h; cases h; exact apply_err vl l c w0 hG hl hfit e hm
  | ok r =>
    obtain ⟨S,us⟩:=r
    rw [hm] at h
    simp only at h
    cases hc:okC c with
    | false =>
      rw [hc,if_neg (by decide)] at h
      cases h
      exact apply_bad vl l c w0 hG hl hfit S us hm hc
    | true =>
      rw [hc,if_pos rfl] at h
      exact apply_err2 vl l c w0 hG hl hfit hz S us hm hc e h
theorem applyO (hz:l.length≤1000) (S2:List PG) (us2:List Bool) (h:appM l c=.ok (S2,us2)):Ret Tryd.prog 11 #[vl,cV c] w0 (G:=Value) (fun g=>.tuple #[g,.int .i64 0]) (fun g w=>St w0 w noX [] [slE 26 12 eC g (l++[c])]):=by
  obtain ⟨S,us,hm,hc,hm2⟩:=appM_ok h
  exact apply_ok vl l c w0 hG hl hfit hz S us hm hc S2 us2 hm2
end
end Go.Proofs.YtgakdmmmljdpjaaDoor
namespace Go.SL
open Go
def cntP (As Bs:List PO) (p:Nat):Nat:=cntC (As.take p) Bs
theorem prO_getD {os:List Ob} {k:Nat} (h:k<os.length):(os.map prO).getD k default=prO (os.getD k default):=by
  simp [List.getD_eq_getElem?_getD,List.getElem?_eq_getElem h]
end Go.SL

namespace Go.SL
open Go
theorem wfB {x:Int} (h:(Lit.int .u8 x).wf=true):0≤x∧x<256:=by
  simp only [Lit.wf,Bool.and_eq_true,decide_eq_true_eq] at h
  have h1:IntKind.u8.min=0:=rfl
  have h2:IntKind.u8.max=255:=rfl
  omega
def befN (d:Dg):Int:=if d.num=0 then 15396336 else d.num
def befM (a b:Dg):Int:=orM [cmpI (befN a) (befN b),cmpI a.yr b.yr,cmpI (IntKind.i64.wrap a.half) (IntKind.i64.wrap b.half),cmpI a.cyc b.cyc,cmpI (IntKind.i64.wrap a.sec) (IntKind.i64.wrap b.sec)]
def rD (d:Dg):Prop:=(0≤d.half∧d.half<256)∧0≤d.sec∧d.sec<256
def rC (c:Ch):Prop:=rD c.a∧rD c.b
theorem okD_num {d:Dg} (h:okD d=true):d.num=0∨(0<d.num∧d.num≤15396335):=by
  unfold okD at h
  split at h
  · simp only [Bool.and_eq_true,decide_eq_true_eq] at h
    exact .inr ⟨h.1.2,h.2⟩
  · rename_i hn
    exact .inl (by omega)
theorem cmpI_same (x:Int):cmpI x x=0:=by unfold cmpI; rw [if_neg (by omega),if_neg (by omega)]
theorem cmpI_l {x y:Int} (h:x<y):cmpI x y=-1:=if_pos h
theorem cmpI_g {x y:Int} (h:y<x):cmpI x y=1:=(if_neg (by omega)).trans (if_pos h)
theorem orM_0 {l:List Int}:orM (0::l)=orM l:=if_neg (by omega)
theorem orM_n {x:Int} {l:List Int} (h:x≠0):orM (x::l)=x:=if_pos h
theorem wrapB {x:Int} (h:0≤x∧x<256):IntKind.i64.wrap x=x:=by rw [IntKind.wrap_i64]; omega
theorem bef_cmp {a b:Dg} (ha:okD a=true) (hb:okD b=true) (ra:rD a) (rb:rD b):befM a b=cmpD a b:=by
  unfold befM cmpD befN
  rw [wrapB ra.1,wrapB rb.1,wrapB ra.2,wrapB rb.2]
  rcases okD_num ha with h1 | h1 <;> rcases okD_num hb with h2 | h2
  · rw [if_pos h1,if_pos h2,if_pos (by omega),if_pos (by omega),cmpI_same,h1,h2,cmpI_same]
    simp only [Int.neg_zero,orM_0]
  · rw [if_pos h1,if_neg (by omega),if_pos (by omega),if_neg (by omega),cmpI_g (show b.num<15396336 by omega),cmpI_l (show a.num<1 by omega),orM_n (by decide),orM_n (by decide)]
    rfl
  · rw [if_neg (by omega),if_pos h2,if_neg (by omega),if_pos (by omega),cmpI_l (show a.num<15396336 by omega),cmpI_g (show b.num<1 by omega),orM_n (by decide),orM_n (by decide)]
  · rw [if_neg (by omega),if_neg (by omega),if_neg (by omega),if_neg (by omega),cmpI_same]
    simp only [Int.neg_zero,orM_0]
theorem arr5 {a b c d e:Int} {j:Nat} (h:j<5):(#[.int .i64 a,.int .i64 b,.int .i64 c,.int .i64 d,.int .i64 e]:Array Value)[j]? = some (.int .i64 ([a,b,c,d,e].getD j 0)):=by
  rcases j with _ | _ | _ | _ | _ | j
  · rfl
  · rfl
  · rfl
  · rfl
  · rfl
  · omega
theorem bef_get {a b c d e a' b' c' d' e':Int} {j:Nat}:[cmpI a a',cmpI b b',cmpI c c',cmpI d d',cmpI e e'].getD j 0=cmpI ([a,b,c,d,e].getD j 0) ([a',b',c',d',e'].getD j 0):=by
  rcases j with _ | _ | _ | _ | _ | j <;> rfl
theorem bef_step {x y:List Int} {k:Nat} (h:∀ i,i<k→x.getD i 0=y.getD i 0) (h1:¬ x.getD k 0<y.getD k 0) (h2:¬ x.getD k 0>y.getD k 0):∀ i,i<k+1→x.getD i 0=y.getD i 0:=fun i hi=>by
  by_cases hik:i<k
  · exact h i hik
  · have:i=k:=by omega
    subst this; omega
section
variable {a b c d e a' b' c' d' e':Int} {k:Nat} (h:∀ i,i<k→[a,b,c,d,e].getD i 0=[a',b',c',d',e'].getD i 0)
include h
theorem bef_none (hk:5≤k):orM [cmpI a a',cmpI b b',cmpI c c',cmpI d d',cmpI e e']=0:=orM_none fun i hi=>by
  rw [bef_get,h i (by simp at hi; omega),cmpI_same]
theorem bef_hit (hk:k<5) (hn:cmpI ([a,b,c,d,e].getD k 0) ([a',b',c',d',e'].getD k 0)≠0):orM [cmpI a a',cmpI b b',cmpI c c',cmpI d d',cmpI e e']=cmpI ([a,b,c,d,e].getD k 0) ([a',b',c',d',e'].getD k 0):=by
  rw [orM_hit (k:=k) (fun i hi=>by rw [bef_get,h i hi,cmpI_same]) (by simpa using hk) (by rw [bef_get]; exact hn),bef_get]
theorem bef_lt (hk:k<5) (hl:[a,b,c,d,e].getD k 0<[a',b',c',d',e'].getD k 0):-1=orM [cmpI a a',cmpI b b',cmpI c c',cmpI d d',cmpI e e']:=by
  rw [bef_hit h hk (by rw [cmpI_l hl]; decide),cmpI_l hl]
theorem bef_gt (hk:k<5) (hl:[a,b,c,d,e].getD k 0>[a',b',c',d',e'].getD k 0):1=orM [cmpI a a',cmpI b b',cmpI c c',cmpI d d',cmpI e e']:=by
  rw [bef_hit h hk (by rw [cmpI_g hl]; decide),cmpI_g hl]
theorem bef_eq (hk:5≤k):0=orM [cmpI a a',cmpI b b',cmpI c c',cmpI d d',cmpI e e']:=(bef_none h hk).symm
end
end Go.SL

set_option maxHeartbeats 1000000
set_option maxRecDepth 8000
namespace Go.Proofs.YtgakdmmmljdpjaaDoor
open Go Go.SL
theorem T_arr_83:tArr Tryd.prog 83=some (5,3):=by kernel_rfl
theorem T_int_3:tInt Tryd.prog 3=some .i64:=by kernel_rfl
theorem T_size_83:tSize Tryd.prog 83=some 5:=by kernel_rfl
theorem T_zero_83:tZero Tryd.prog 83=some (.agg #[.int .i64 0,.int .i64 0,.int .i64 0,.int .i64 0,.int .i64 0]):=by kernel_rfl
set_option maxHeartbeats 4000000 in
set_option maxRecDepth 4000 in
theorem bef_spec (x y:Dg) (w0:World) :
    Ret Tryd.prog 18 #[.agg (aD x),.agg (aD y)] w0 (G:=Unit) (fun _=>.int .i64 (befM x y)) (fun _ w=>St w0 w noX [] []):=by
  refine ret_of_W (lv:=[.agg (aD x),.agg (aD y)]) Tryd.func18 rfl rfl rfl (fun a hf=>?_); replace hf:Fr a 60 [] [(0,.agg (aD x)),(1,.agg (aD y))]:=hf; have hS:St w0 w0 noX [] []:=St.refl w0; refine W.seq ?_
  refine W.regionL (l:=[0,1,2]) rfl<|O.box (cs:=(aD x)) hf hS rfl rfl rfl rfl<|?_; intro b_a1 w a hbb_a1 hS hf; refine O.box (cs:=(aD y)) hf hS rfl rfl rfl rfl ?_; intro b_b2 w a hbb_b2 hS hf; refine mv hf rfl ?_; clear hf a; intro a hf; refine nk<|W.seq<|?_
  refine W.regionL (l:=[0,1,2,3,4,5,6,7,8,9,10,11,12,13,14]) rfl<|ov hf rfl (RunV.field T_field_24_0 rfl rfl)<|?_; clear hf a; intro a hf; refine ov hf rfl (RunV.load1 T_agg_3 rfl (hS.p 1 rfl) rfl) ?_; clear hf a; intro a hf; refine ov hf rfl (RunV.field T_field_24_1 rfl rfl) ?_; clear hf a; intro a hf; refine ov hf rfl (RunV.load1 T_agg_3 rfl (hS.p 1 rfl) rfl) ?_; clear hf a; intro a hf; refine ov hf rfl (RunV.field T_field_24_2 rfl rfl) ?_; clear hf a; intro a hf; refine ov hf rfl (RunV.load1 T_agg_5 rfl (hS.p 1 rfl) rfl) ?_; clear hf a; intro a hf; refine ov hf rfl (RunV.conv T_und_5 T_int_3 rfl) ?_; clear hf a; intro a hf; refine ov hf rfl (RunV.field T_field_24_4 rfl rfl) ?_; clear hf a; intro a hf; refine ov hf rfl (RunV.load1 T_agg_3 rfl (hS.p 1 rfl) rfl) ?_; clear hf a; intro a hf; refine ov hf rfl (RunV.field T_field_24_3 rfl rfl) ?_; clear hf a; intro a hf; refine ov hf rfl (RunV.load1 T_agg_5 rfl (hS.p 1 rfl) rfl) ?_; clear hf a; intro a hf; refine ov hf rfl (RunV.conv T_und_5 T_int_3 rfl) ?_; clear hf a; intro a hf; refine ov hf rfl (RunV.buildA (cs':=#[.int .i64 x.num,.int .i64 x.yr,.int .i64 (IntKind.i64.wrap x.half),.int .i64 x.cyc,.int .i64 (IntKind.i64.wrap x.sec)]) T_arr_83 T_size_3 T_zero_83 rfl rfl) ?_; clear hf a; intro a hf; refine O.alloc (cs:=#[.int .i64 0,.int .i64 0,.int .i64 0,.int .i64 0,.int .i64 0]) hf hS rfl rfl T_zero_83 rfl ?_; intro b_x3 w a hbb_x3 hS hf; refine ost 0 #[.int .i64 x.num,.int .i64 x.yr,.int .i64 (IntKind.i64.wrap x.half),.int .i64 x.cyc,.int .i64 (IntKind.i64.wrap x.sec)] hf hS rfl rfl rfl T_size_83 rfl rfl rfl (bl rfl) rfl ?_; intro w hS; refine nk<|W.seq<|?_
  refine W.regionL (l:=[0,1,2,3,4,5,6,7,8,9,10,11,12,13,14]) rfl<|ov hf rfl (RunV.field T_field_24_0 rfl rfl)<|?_; clear hf a; intro a hf; refine ov hf rfl (RunV.load1 T_agg_3 rfl (hS.p 1 rfl) rfl) ?_; clear hf a; intro a hf; refine ov hf rfl (RunV.field T_field_24_1 rfl rfl) ?_; clear hf a; intro a hf; refine ov hf rfl (RunV.load1 T_agg_3 rfl (hS.p 1 rfl) rfl) ?_; clear hf a; intro a hf; refine ov hf rfl (RunV.field T_field_24_2 rfl rfl) ?_; clear hf a; intro a hf; refine ov hf rfl (RunV.load1 T_agg_5 rfl (hS.p 1 rfl) rfl) ?_; clear hf a; intro a hf; refine ov hf rfl (RunV.conv T_und_5 T_int_3 rfl) ?_; clear hf a; intro a hf; refine ov hf rfl (RunV.field T_field_24_4 rfl rfl) ?_; clear hf a; intro a hf; refine ov hf rfl (RunV.load1 T_agg_3 rfl (hS.p 1 rfl) rfl) ?_; clear hf a; intro a hf; refine ov hf rfl (RunV.field T_field_24_3 rfl rfl) ?_; clear hf a; intro a hf; refine ov hf rfl (RunV.load1 T_agg_5 rfl (hS.p 1 rfl) rfl) ?_; clear hf a; intro a hf; refine ov hf rfl (RunV.conv T_und_5 T_int_3 rfl) ?_; clear hf a; intro a hf; refine ov hf rfl (RunV.buildA (cs':=#[.int .i64 y.num,.int .i64 y.yr,.int .i64 (IntKind.i64.wrap y.half),.int .i64 y.cyc,.int .i64 (IntKind.i64.wrap y.sec)]) T_arr_83 T_size_3 T_zero_83 rfl rfl) ?_; clear hf a; intro a hf; refine O.alloc (cs:=#[.int .i64 0,.int .i64 0,.int .i64 0,.int .i64 0,.int .i64 0]) hf hS rfl rfl T_zero_83 rfl ?_; intro b_y4 w a hbb_y4 hS hf; refine ost 0 #[.int .i64 y.num,.int .i64 y.yr,.int .i64 (IntKind.i64.wrap y.half),.int .i64 y.cyc,.int .i64 (IntKind.i64.wrap y.sec)] hf hS rfl rfl rfl T_size_83 rfl rfl rfl (bl rfl) rfl ?_; intro w hS; refine nk<|W.seq<|W.seq<|?_
  refine W.regionL (l:=[0,1,2]) rfl<|ov hf rfl (RunV.field T_field_24_0 rfl rfl)<|?_; clear hf a; intro a hf; refine ov hf rfl (RunV.load1 T_agg_3 rfl (hS.p 3 rfl) rfl) ?_; clear hf a; intro a hf; refine ov (v:=.bool (decide (x.num=(0:Int)))) hf rfl (RunV.eql rfl rfl) ?_; clear hf a; intro a hf; refine nk ?_; refine W.ifdI hf rfl (fun ha=>?_) (fun ha=>?_)
  ·
    refine W.regionL (l:=[0,1]) rfl<|ov hf rfl (RunV.indexArr (j:=0) (m:=0) T_arr_83 T_size_3 rfl rfl rfl (by omega) (by omega))<|?_; clear hf a; intro a hf; refine ost 1 #[.int .i64 15396336,.int .i64 x.yr,.int .i64 (IntKind.i64.wrap x.half),.int .i64 x.cyc,.int .i64 (IntKind.i64.wrap x.sec)] hf hS rfl rfl rfl T_size_3 rfl rfl rfl (bl rfl) rfl ?_; intro w hS; refine nk<|W.seq<|W.seq<|?_
    refine W.regionL (l:=[0,1,2]) rfl<|ov hf rfl (RunV.field T_field_24_0 rfl rfl)<|?_; clear hf a; intro a hf; refine ov hf rfl (RunV.load1 T_agg_3 rfl (hS.p 2 rfl) rfl) ?_; clear hf a; intro a hf; refine ov (v:=.bool (decide (y.num=(0:Int)))) hf rfl (RunV.eql rfl rfl) ?_; clear hf a; intro a hf; refine nk ?_; refine W.ifdI hf rfl (fun hb=>?_) (fun hb=>?_)
    ·
      refine W.regionL (l:=[0,1]) rfl<|ov hf rfl (RunV.indexArr (j:=0) (m:=0) T_arr_83 T_size_3 rfl rfl rfl (by omega) (by omega))<|?_; clear hf a; intro a hf; refine ost 0 #[.int .i64 15396336,.int .i64 y.yr,.int .i64 (IntKind.i64.wrap y.half),.int .i64 y.cyc,.int .i64 (IntKind.i64.wrap y.sec)] hf hS rfl rfl rfl T_size_3 rfl rfl rfl (bl rfl) rfl ?_; intro w hS; refine nk<|W.seq<|W.seq<|?_
      refine W.regionL (l:=[0]) rfl<|mv hf rfl<|?_; clear hf a; intro a hf; refine nk<|W.block<|?_
      refine W.loop (G:=(Nat)) (fun g a w=>match g with | k=>Fr a 60 [] [(5,.pointer (some ⟨b_x3,0,none⟩)),(6,.pointer (some ⟨b_y4,0,none⟩)),(7,.int .i64 (k:Int))]∧St w0 w noX [] [pt b_y4 (.cells #[.int .i64 15396336,.int .i64 y.yr,.int .i64 (IntKind.i64.wrap y.half),.int .i64 y.cyc,.int .i64 (IntKind.i64.wrap y.sec)] 83 (0,0)),pt b_x3 (.cells #[.int .i64 15396336,.int .i64 x.yr,.int .i64 (IntKind.i64.wrap x.half),.int .i64 x.cyc,.int .i64 (IntKind.i64.wrap x.sec)] 83 (0,0)),pt b_b2 (.cells (aD y) 24 (0,0)),pt b_a1 (.cells (aD x) 24 (0,0))]∧(k≤5)∧(∀ i,i<k→[15396336,x.yr,IntKind.i64.wrap x.half,x.cyc,IntKind.i64.wrap x.sec].getD i 0=[15396336,y.yr,IntKind.i64.wrap y.half,y.cyc,IntKind.i64.wrap y.sec].getD i 0)) (fun g=>match g with | k=>5-k) 0 ?_ ?_
      · refine ⟨hf.to ⟨rfl,rfl,(by first | rfl | exact congrArg some (congrArg (Value.int _) (by omega))),trivial⟩,hS,?_,?_⟩
        · omega
        · intro i hi; omega
      clear hf hS a; rintro k a w ⟨hf,hS,hk,h2⟩; refine W.seq<|W.seq<|?_
      refine W.regionL (l:=[0,1]) rfl<|mv hf rfl<|?_; clear hf a; intro a hf; refine ov (v:=.bool (decide ((k:Int)<(5:Int)))) hf rfl (RunV.lss rfl rfl) ?_; clear hf a; intro a hf; refine nk ?_; refine W.ifdI hf rfl (fun hc7=>?_) (fun hc7=>?_)
      · refine W.skip ?_
        refine k_seq<|W.seq<|W.block<|W.seq<|W.seq<|?_
        refine W.drawQ (fun w=>St w0 w noX [] [pt b_y4 (.cells #[.int .i64 15396336,.int .i64 y.yr,.int .i64 (IntKind.i64.wrap y.half),.int .i64 y.cyc,.int .i64 (IntKind.i64.wrap y.sec)] 83 (0,0)),pt b_x3 (.cells #[.int .i64 15396336,.int .i64 x.yr,.int .i64 (IntKind.i64.wrap x.half),.int .i64 x.cyc,.int .i64 (IntKind.i64.wrap x.sec)] 83 (0,0)),pt b_b2 (.cells (aD y) 24 (0,0)),pt b_a1 (.cells (aD x) 24 (0,0))]) P_mixed rfl (by kernel_rfl) rfl hS.drew ?_; clear hS; refine OQ.val (v:=.int .i64 (k:Int)) hf rfl (fun w hS=>RunV.move rfl) fun a hf=>OQ.val (v:=.pointer (some ⟨b_x3,k,none⟩)) hf rfl (fun w hS=>RunV.indexArr (j:=k) (m:=k) T_arr_83 T_size_3 rfl rfl rfl (by omega) (by omega)) fun a hf=>OQ.val (v:=.int .i64 ([15396336,x.yr,IntKind.i64.wrap x.half,x.cyc,IntKind.i64.wrap x.sec].getD k 0)) hf rfl (fun w hS=>RunV.load1 T_agg_3 rfl (hS.p 1 rfl) (arr5 (by omega))) fun a hf=>OQ.val (v:=.int .i64 (k:Int)) hf rfl (fun w hS=>RunV.move rfl) fun a hf=>OQ.val (v:=.pointer (some ⟨b_y4,k,none⟩)) hf rfl (fun w hS=>RunV.indexArr (j:=k) (m:=k) T_arr_83 T_size_3 rfl rfl rfl (by omega) (by omega)) fun a hf=>OQ.val (v:=.int .i64 ([15396336,y.yr,IntKind.i64.wrap y.half,y.cyc,IntKind.i64.wrap y.sec].getD k 0)) hf rfl (fun w hS=>RunV.load1 T_agg_3 rfl (hS.p 0 rfl) (arr5 (by omega))) fun a hf=>OQ.val (v:=.bool (decide (([15396336,x.yr,IntKind.i64.wrap x.half,x.cyc,IntKind.i64.wrap x.sec].getD k 0)<([15396336,y.yr,IntKind.i64.wrap y.half,y.cyc,IntKind.i64.wrap y.sec].getD k 0:Int)))) hf rfl (fun w hS=>RunV.lss rfl rfl) fun a hf=>?_; refine OQ.nil ?_; intro w hS; refine k_seq ?_; refine W.ifdI hf rfl (fun hlt=>?_) (fun hlt=>?_)
        · refine W.seq ?_
          refine W.regionL (l:=[0]) rfl<|mv hf rfl<|?_; clear hf a; intro a hf; refine nk<|W.ret<|k_then_ret<|k_blk_ret<|k_then_ret<|k_then_ret<|k_blk_ret<|k_then_ret<|post1 hf rfl (ResOK.tmp rfl)<|?_; exact ⟨(),congrArg (fun x=>Ending.returned (Value.int .i64 x)) (by unfold befM befN; (first | rw [if_pos ha,if_pos hb] | rw [if_pos ha,if_neg hb] | rw [if_neg ha,if_pos hb] | rw [if_neg ha,if_neg hb]); exact bef_lt h2 (by omega) hlt),hS.sub (List.nil_sublist _) |>.noB⟩
        · refine W.skip ?_
          refine k_seq<|W.seq<|?_
          refine W.drawQ (fun w=>St w0 w noX [] [pt b_y4 (.cells #[.int .i64 15396336,.int .i64 y.yr,.int .i64 (IntKind.i64.wrap y.half),.int .i64 y.cyc,.int .i64 (IntKind.i64.wrap y.sec)] 83 (0,0)),pt b_x3 (.cells #[.int .i64 15396336,.int .i64 x.yr,.int .i64 (IntKind.i64.wrap x.half),.int .i64 x.cyc,.int .i64 (IntKind.i64.wrap x.sec)] 83 (0,0)),pt b_b2 (.cells (aD y) 24 (0,0)),pt b_a1 (.cells (aD x) 24 (0,0))]) P_mixed rfl (by kernel_rfl) rfl hS.drew ?_; clear hS; refine OQ.val (v:=.int .i64 (k:Int)) hf rfl (fun w hS=>RunV.move rfl) fun a hf=>OQ.val (v:=.pointer (some ⟨b_x3,k,none⟩)) hf rfl (fun w hS=>RunV.indexArr (j:=k) (m:=k) T_arr_83 T_size_3 rfl rfl rfl (by omega) (by omega)) fun a hf=>OQ.val (v:=.int .i64 ([15396336,x.yr,IntKind.i64.wrap x.half,x.cyc,IntKind.i64.wrap x.sec].getD k 0)) hf rfl (fun w hS=>RunV.load1 T_agg_3 rfl (hS.p 1 rfl) (arr5 (by omega))) fun a hf=>OQ.val (v:=.int .i64 (k:Int)) hf rfl (fun w hS=>RunV.move rfl) fun a hf=>OQ.val (v:=.pointer (some ⟨b_y4,k,none⟩)) hf rfl (fun w hS=>RunV.indexArr (j:=k) (m:=k) T_arr_83 T_size_3 rfl rfl rfl (by omega) (by omega)) fun a hf=>OQ.val (v:=.int .i64 ([15396336,y.yr,IntKind.i64.wrap y.half,y.cyc,IntKind.i64.wrap y.sec].getD k 0)) hf rfl (fun w hS=>RunV.load1 T_agg_3 rfl (hS.p 0 rfl) (arr5 (by omega))) fun a hf=>OQ.val (v:=.bool (decide (([15396336,x.yr,IntKind.i64.wrap x.half,x.cyc,IntKind.i64.wrap x.sec].getD k 0)>([15396336,y.yr,IntKind.i64.wrap y.half,y.cyc,IntKind.i64.wrap y.sec].getD k 0:Int)))) hf rfl (fun w hS=>RunV.gtr rfl rfl) fun a hf=>?_; refine OQ.nil ?_; intro w hS; refine k_seq ?_; refine W.ifdI hf rfl (fun hgt=>?_) (fun hgt=>?_)
          · refine W.seq ?_
            refine W.regionL (l:=[0]) rfl<|mv hf rfl<|?_; clear hf a; intro a hf; refine nk<|W.ret<|k_blk_ret<|k_then_ret<|k_then_ret<|k_blk_ret<|k_then_ret<|post1 hf rfl (ResOK.tmp rfl)<|?_; exact ⟨(),congrArg (fun x=>Ending.returned (Value.int .i64 x)) (by unfold befM befN; (first | rw [if_pos ha,if_pos hb] | rw [if_pos ha,if_neg hb] | rw [if_neg ha,if_pos hb] | rw [if_neg ha,if_neg hb]); exact bef_gt h2 (by omega) hgt),hS.sub (List.nil_sublist _) |>.noB⟩
          · refine W.skip ?_
            refine k_blk_normal<|k_seq<|?_
            refine W.regionL (l:=[0,1,2]) rfl<|mv hf rfl<|?_; clear hf a; intro a hf; refine ov hf rfl (RunV.addI rfl rfl (by omega)) ?_; clear hf a; intro a hf; refine mv hf rfl ?_; clear hf a; intro a hf; refine O.nil ?_; refine k_then ⟨(k+1),⟨hf.to ⟨rfl,rfl,(by first | rfl | exact congrArg some (congrArg (Value.int _) (by omega))),trivial⟩,?_,?_,?_⟩,?_⟩
            · exact hS.eqM rfl
            · omega
            · exact bef_step h2 (by omega) (by omega)
            · dsimp only; omega
      · refine W.exit ?_
        refine k_then_exit<|k_then_exit<|k_blk<|k_seq<|?_; replace hf:Fr a 60 [] []:=hf.to trivial; refine W.seq ?_
        refine W.regionL (l:=[0]) rfl<|mv hf rfl<|?_; clear hf a; intro a hf; refine nk<|W.ret<|post1 hf rfl (ResOK.tmp rfl)<|?_; exact ⟨(),congrArg (fun x=>Ending.returned (Value.int .i64 x)) (by unfold befM befN; (first | rw [if_pos ha,if_pos hb] | rw [if_pos ha,if_neg hb] | rw [if_neg ha,if_pos hb] | rw [if_neg ha,if_neg hb]); exact bef_eq h2 (by omega)),hS.sub (List.nil_sublist _) |>.noB⟩
    · refine W.skip ?_
      refine k_seq<|W.seq<|W.seq<|?_
      refine W.regionL (l:=[0]) rfl<|mv hf rfl<|?_; clear hf a; intro a hf; refine nk<|W.block<|?_
      refine W.loop (G:=(Nat)) (fun g a w=>match g with | k=>Fr a 60 [] [(5,.pointer (some ⟨b_x3,0,none⟩)),(6,.pointer (some ⟨b_y4,0,none⟩)),(7,.int .i64 (k:Int))]∧St w0 w noX [] [pt b_y4 (.cells #[.int .i64 y.num,.int .i64 y.yr,.int .i64 (IntKind.i64.wrap y.half),.int .i64 y.cyc,.int .i64 (IntKind.i64.wrap y.sec)] 83 (0,0)),pt b_x3 (.cells #[.int .i64 15396336,.int .i64 x.yr,.int .i64 (IntKind.i64.wrap x.half),.int .i64 x.cyc,.int .i64 (IntKind.i64.wrap x.sec)] 83 (0,0)),pt b_b2 (.cells (aD y) 24 (0,0)),pt b_a1 (.cells (aD x) 24 (0,0))]∧(k≤5)∧(∀ i,i<k→[15396336,x.yr,IntKind.i64.wrap x.half,x.cyc,IntKind.i64.wrap x.sec].getD i 0=[y.num,y.yr,IntKind.i64.wrap y.half,y.cyc,IntKind.i64.wrap y.sec].getD i 0)) (fun g=>match g with | k=>5-k) 0 ?_ ?_
      · refine ⟨hf.to ⟨rfl,rfl,(by first | rfl | exact congrArg some (congrArg (Value.int _) (by omega))),trivial⟩,hS,?_,?_⟩
        · omega
        · intro i hi; omega
      clear hf hS a; rintro k a w ⟨hf,hS,hk,h2⟩; refine W.seq<|W.seq<|?_
      refine W.regionL (l:=[0,1]) rfl<|mv hf rfl<|?_; clear hf a; intro a hf; refine ov (v:=.bool (decide ((k:Int)<(5:Int)))) hf rfl (RunV.lss rfl rfl) ?_; clear hf a; intro a hf; refine nk ?_; refine W.ifdI hf rfl (fun hc10=>?_) (fun hc10=>?_)
      · refine W.skip ?_
        refine k_seq<|W.seq<|W.block<|W.seq<|W.seq<|?_
        refine W.drawQ (fun w=>St w0 w noX [] [pt b_y4 (.cells #[.int .i64 y.num,.int .i64 y.yr,.int .i64 (IntKind.i64.wrap y.half),.int .i64 y.cyc,.int .i64 (IntKind.i64.wrap y.sec)] 83 (0,0)),pt b_x3 (.cells #[.int .i64 15396336,.int .i64 x.yr,.int .i64 (IntKind.i64.wrap x.half),.int .i64 x.cyc,.int .i64 (IntKind.i64.wrap x.sec)] 83 (0,0)),pt b_b2 (.cells (aD y) 24 (0,0)),pt b_a1 (.cells (aD x) 24 (0,0))]) P_mixed rfl (by kernel_rfl) rfl hS.drew ?_; clear hS; refine OQ.val (v:=.int .i64 (k:Int)) hf rfl (fun w hS=>RunV.move rfl) fun a hf=>OQ.val (v:=.pointer (some ⟨b_x3,k,none⟩)) hf rfl (fun w hS=>RunV.indexArr (j:=k) (m:=k) T_arr_83 T_size_3 rfl rfl rfl (by omega) (by omega)) fun a hf=>OQ.val (v:=.int .i64 ([15396336,x.yr,IntKind.i64.wrap x.half,x.cyc,IntKind.i64.wrap x.sec].getD k 0)) hf rfl (fun w hS=>RunV.load1 T_agg_3 rfl (hS.p 1 rfl) (arr5 (by omega))) fun a hf=>OQ.val (v:=.int .i64 (k:Int)) hf rfl (fun w hS=>RunV.move rfl) fun a hf=>OQ.val (v:=.pointer (some ⟨b_y4,k,none⟩)) hf rfl (fun w hS=>RunV.indexArr (j:=k) (m:=k) T_arr_83 T_size_3 rfl rfl rfl (by omega) (by omega)) fun a hf=>OQ.val (v:=.int .i64 ([y.num,y.yr,IntKind.i64.wrap y.half,y.cyc,IntKind.i64.wrap y.sec].getD k 0)) hf rfl (fun w hS=>RunV.load1 T_agg_3 rfl (hS.p 0 rfl) (arr5 (by omega))) fun a hf=>OQ.val (v:=.bool (decide (([15396336,x.yr,IntKind.i64.wrap x.half,x.cyc,IntKind.i64.wrap x.sec].getD k 0)<([y.num,y.yr,IntKind.i64.wrap y.half,y.cyc,IntKind.i64.wrap y.sec].getD k 0:Int)))) hf rfl (fun w hS=>RunV.lss rfl rfl) fun a hf=>?_; refine OQ.nil ?_; intro w hS; refine k_seq ?_; refine W.ifdI hf rfl (fun hlt=>?_) (fun hlt=>?_)
        · refine W.seq ?_
          refine W.regionL (l:=[0]) rfl<|mv hf rfl<|?_; clear hf a; intro a hf; refine nk<|W.ret<|k_then_ret<|k_blk_ret<|k_then_ret<|k_then_ret<|k_blk_ret<|k_then_ret<|post1 hf rfl (ResOK.tmp rfl)<|?_; exact ⟨(),congrArg (fun x=>Ending.returned (Value.int .i64 x)) (by unfold befM befN; (first | rw [if_pos ha,if_pos hb] | rw [if_pos ha,if_neg hb] | rw [if_neg ha,if_pos hb] | rw [if_neg ha,if_neg hb]); exact bef_lt h2 (by omega) hlt),hS.sub (List.nil_sublist _) |>.noB⟩
        · refine W.skip ?_
          refine k_seq<|W.seq<|?_
          refine W.drawQ (fun w=>St w0 w noX [] [pt b_y4 (.cells #[.int .i64 y.num,.int .i64 y.yr,.int .i64 (IntKind.i64.wrap y.half),.int .i64 y.cyc,.int .i64 (IntKind.i64.wrap y.sec)] 83 (0,0)),pt b_x3 (.cells #[.int .i64 15396336,.int .i64 x.yr,.int .i64 (IntKind.i64.wrap x.half),.int .i64 x.cyc,.int .i64 (IntKind.i64.wrap x.sec)] 83 (0,0)),pt b_b2 (.cells (aD y) 24 (0,0)),pt b_a1 (.cells (aD x) 24 (0,0))]) P_mixed rfl (by kernel_rfl) rfl hS.drew ?_; clear hS; refine OQ.val (v:=.int .i64 (k:Int)) hf rfl (fun w hS=>RunV.move rfl) fun a hf=>OQ.val (v:=.pointer (some ⟨b_x3,k,none⟩)) hf rfl (fun w hS=>RunV.indexArr (j:=k) (m:=k) T_arr_83 T_size_3 rfl rfl rfl (by omega) (by omega)) fun a hf=>OQ.val (v:=.int .i64 ([15396336,x.yr,IntKind.i64.wrap x.half,x.cyc,IntKind.i64.wrap x.sec].getD k 0)) hf rfl (fun w hS=>RunV.load1 T_agg_3 rfl (hS.p 1 rfl) (arr5 (by omega))) fun a hf=>OQ.val (v:=.int .i64 (k:Int)) hf rfl (fun w hS=>RunV.move rfl) fun a hf=>OQ.val (v:=.pointer (some ⟨b_y4,k,none⟩)) hf rfl (fun w hS=>RunV.indexArr (j:=k) (m:=k) T_arr_83 T_size_3 rfl rfl rfl (by omega) (by omega)) fun a hf=>OQ.val (v:=.int .i64 ([y.num,y.yr,IntKind.i64.wrap y.half,y.cyc,IntKind.i64.wrap y.sec].getD k 0)) hf rfl (fun w hS=>RunV.load1 T_agg_3 rfl (hS.p 0 rfl) (arr5 (by omega))) fun a hf=>OQ.val (v:=.bool (decide (([15396336,x.yr,IntKind.i64.wrap x.half,x.cyc,IntKind.i64.wrap x.sec].getD k 0)>([y.num,y.yr,IntKind.i64.wrap y.half,y.cyc,IntKind.i64.wrap y.sec].getD k 0:Int)))) hf rfl (fun w hS=>RunV.gtr rfl rfl) fun a hf=>?_; refine OQ.nil ?_; intro w hS; refine k_seq ?_; refine W.ifdI hf rfl (fun hgt=>?_) (fun hgt=>?_)
          · refine W.seq ?_
            refine W.regionL (l:=[0]) rfl<|mv hf rfl<|?_; clear hf a; intro a hf; refine nk<|W.ret<|k_blk_ret<|k_then_ret<|k_then_ret<|k_blk_ret<|k_then_ret<|post1 hf rfl (ResOK.tmp rfl)<|?_; exact ⟨(),congrArg (fun x=>Ending.returned (Value.int .i64 x)) (by unfold befM befN; (first | rw [if_pos ha,if_pos hb] | rw [if_pos ha,if_neg hb] | rw [if_neg ha,if_pos hb] | rw [if_neg ha,if_neg hb]); exact bef_gt h2 (by omega) hgt),hS.sub (List.nil_sublist _) |>.noB⟩
          · refine W.skip ?_
            refine k_blk_normal<|k_seq<|?_
            refine W.regionL (l:=[0,1,2]) rfl<|mv hf rfl<|?_; clear hf a; intro a hf; refine ov hf rfl (RunV.addI rfl rfl (by omega)) ?_; clear hf a; intro a hf; refine mv hf rfl ?_; clear hf a; intro a hf; refine O.nil ?_; refine k_then ⟨(k+1),⟨hf.to ⟨rfl,rfl,(by first | rfl | exact congrArg some (congrArg (Value.int _) (by omega))),trivial⟩,?_,?_,?_⟩,?_⟩
            · exact hS.eqM rfl
            · omega
            · exact bef_step h2 (by omega) (by omega)
            · dsimp only; omega
      · refine W.exit ?_
        refine k_then_exit<|k_then_exit<|k_blk<|k_seq<|?_; replace hf:Fr a 60 [] []:=hf.to trivial; refine W.seq ?_
        refine W.regionL (l:=[0]) rfl<|mv hf rfl<|?_; clear hf a; intro a hf; refine nk<|W.ret<|post1 hf rfl (ResOK.tmp rfl)<|?_; exact ⟨(),congrArg (fun x=>Ending.returned (Value.int .i64 x)) (by unfold befM befN; (first | rw [if_pos ha,if_pos hb] | rw [if_pos ha,if_neg hb] | rw [if_neg ha,if_pos hb] | rw [if_neg ha,if_neg hb]); exact bef_eq h2 (by omega)),hS.sub (List.nil_sublist _) |>.noB⟩
  · refine W.skip ?_
    refine k_seq<|W.seq<|W.seq<|?_
    refine W.regionL (l:=[0,1,2]) rfl<|ov hf rfl (RunV.field T_field_24_0 rfl rfl)<|?_; clear hf a; intro a hf; refine ov hf rfl (RunV.load1 T_agg_3 rfl (hS.p 2 rfl) rfl) ?_; clear hf a; intro a hf; refine ov (v:=.bool (decide (y.num=(0:Int)))) hf rfl (RunV.eql rfl rfl) ?_; clear hf a; intro a hf; refine nk ?_; refine W.ifdI hf rfl (fun hb=>?_) (fun hb=>?_)
    ·
      refine W.regionL (l:=[0,1]) rfl<|ov hf rfl (RunV.indexArr (j:=0) (m:=0) T_arr_83 T_size_3 rfl rfl rfl (by omega) (by omega))<|?_; clear hf a; intro a hf; refine ost 0 #[.int .i64 15396336,.int .i64 y.yr,.int .i64 (IntKind.i64.wrap y.half),.int .i64 y.cyc,.int .i64 (IntKind.i64.wrap y.sec)] hf hS rfl rfl rfl T_size_3 rfl rfl rfl (bl rfl) rfl ?_; intro w hS; refine nk<|W.seq<|W.seq<|?_
      refine W.regionL (l:=[0]) rfl<|mv hf rfl<|?_; clear hf a; intro a hf; refine nk<|W.block<|?_
      refine W.loop (G:=(Nat)) (fun g a w=>match g with | k=>Fr a 60 [] [(5,.pointer (some ⟨b_x3,0,none⟩)),(6,.pointer (some ⟨b_y4,0,none⟩)),(7,.int .i64 (k:Int))]∧St w0 w noX [] [pt b_y4 (.cells #[.int .i64 15396336,.int .i64 y.yr,.int .i64 (IntKind.i64.wrap y.half),.int .i64 y.cyc,.int .i64 (IntKind.i64.wrap y.sec)] 83 (0,0)),pt b_x3 (.cells #[.int .i64 x.num,.int .i64 x.yr,.int .i64 (IntKind.i64.wrap x.half),.int .i64 x.cyc,.int .i64 (IntKind.i64.wrap x.sec)] 83 (0,0)),pt b_b2 (.cells (aD y) 24 (0,0)),pt b_a1 (.cells (aD x) 24 (0,0))]∧(k≤5)∧(∀ i,i<k→[x.num,x.yr,IntKind.i64.wrap x.half,x.cyc,IntKind.i64.wrap x.sec].getD i 0=[15396336,y.yr,IntKind.i64.wrap y.half,y.cyc,IntKind.i64.wrap y.sec].getD i 0)) (fun g=>match g with | k=>5-k) 0 ?_ ?_
      · refine ⟨hf.to ⟨rfl,rfl,(by first | rfl | exact congrArg some (congrArg (Value.int _) (by omega))),trivial⟩,hS,?_,?_⟩
        · omega
        · intro i hi; omega
      clear hf hS a; rintro k a w ⟨hf,hS,hk,h2⟩; refine W.seq<|W.seq<|?_
      refine W.regionL (l:=[0,1]) rfl<|mv hf rfl<|?_; clear hf a; intro a hf; refine ov (v:=.bool (decide ((k:Int)<(5:Int)))) hf rfl (RunV.lss rfl rfl) ?_; clear hf a; intro a hf; refine nk ?_; refine W.ifdI hf rfl (fun hc14=>?_) (fun hc14=>?_)
      · refine W.skip ?_
        refine k_seq<|W.seq<|W.block<|W.seq<|W.seq<|?_
        refine W.drawQ (fun w=>St w0 w noX [] [pt b_y4 (.cells #[.int .i64 15396336,.int .i64 y.yr,.int .i64 (IntKind.i64.wrap y.half),.int .i64 y.cyc,.int .i64 (IntKind.i64.wrap y.sec)] 83 (0,0)),pt b_x3 (.cells #[.int .i64 x.num,.int .i64 x.yr,.int .i64 (IntKind.i64.wrap x.half),.int .i64 x.cyc,.int .i64 (IntKind.i64.wrap x.sec)] 83 (0,0)),pt b_b2 (.cells (aD y) 24 (0,0)),pt b_a1 (.cells (aD x) 24 (0,0))]) P_mixed rfl (by kernel_rfl) rfl hS.drew ?_; clear hS; refine OQ.val (v:=.int .i64 (k:Int)) hf rfl (fun w hS=>RunV.move rfl) fun a hf=>OQ.val (v:=.pointer (some ⟨b_x3,k,none⟩)) hf rfl (fun w hS=>RunV.indexArr (j:=k) (m:=k) T_arr_83 T_size_3 rfl rfl rfl (by omega) (by omega)) fun a hf=>OQ.val (v:=.int .i64 ([x.num,x.yr,IntKind.i64.wrap x.half,x.cyc,IntKind.i64.wrap x.sec].getD k 0)) hf rfl (fun w hS=>RunV.load1 T_agg_3 rfl (hS.p 1 rfl) (arr5 (by omega))) fun a hf=>OQ.val (v:=.int .i64 (k:Int)) hf rfl (fun w hS=>RunV.move rfl) fun a hf=>OQ.val (v:=.pointer (some ⟨b_y4,k,none⟩)) hf rfl (fun w hS=>RunV.indexArr (j:=k) (m:=k) T_arr_83 T_size_3 rfl rfl rfl (by omega) (by omega)) fun a hf=>OQ.val (v:=.int .i64 ([15396336,y.yr,IntKind.i64.wrap y.half,y.cyc,IntKind.i64.wrap y.sec].getD k 0)) hf rfl (fun w hS=>RunV.load1 T_agg_3 rfl (hS.p 0 rfl) (arr5 (by omega))) fun a hf=>OQ.val (v:=.bool (decide (([x.num,x.yr,IntKind.i64.wrap x.half,x.cyc,IntKind.i64.wrap x.sec].getD k 0)<([15396336,y.yr,IntKind.i64.wrap y.half,y.cyc,IntKind.i64.wrap y.sec].getD k 0:Int)))) hf rfl (fun w hS=>RunV.lss rfl rfl) fun a hf=>?_; refine OQ.nil ?_; intro w hS; refine k_seq ?_; refine W.ifdI hf rfl (fun hlt=>?_) (fun hlt=>?_)
        · refine W.seq ?_
          refine W.regionL (l:=[0]) rfl<|mv hf rfl<|?_; clear hf a; intro a hf; refine nk<|W.ret<|k_then_ret<|k_blk_ret<|k_then_ret<|k_then_ret<|k_blk_ret<|k_then_ret<|post1 hf rfl (ResOK.tmp rfl)<|?_; exact ⟨(),congrArg (fun x=>Ending.returned (Value.int .i64 x)) (by unfold befM befN; (first | rw [if_pos ha,if_pos hb] | rw [if_pos ha,if_neg hb] | rw [if_neg ha,if_pos hb] | rw [if_neg ha,if_neg hb]); exact bef_lt h2 (by omega) hlt),hS.sub (List.nil_sublist _) |>.noB⟩
        · refine W.skip ?_
          refine k_seq<|W.seq<|?_
          refine W.drawQ (fun w=>St w0 w noX [] [pt b_y4 (.cells #[.int .i64 15396336,.int .i64 y.yr,.int .i64 (IntKind.i64.wrap y.half),.int .i64 y.cyc,.int .i64 (IntKind.i64.wrap y.sec)] 83 (0,0)),pt b_x3 (.cells #[.int .i64 x.num,.int .i64 x.yr,.int .i64 (IntKind.i64.wrap x.half),.int .i64 x.cyc,.int .i64 (IntKind.i64.wrap x.sec)] 83 (0,0)),pt b_b2 (.cells (aD y) 24 (0,0)),pt b_a1 (.cells (aD x) 24 (0,0))]) P_mixed rfl (by kernel_rfl) rfl hS.drew ?_; clear hS; refine OQ.val (v:=.int .i64 (k:Int)) hf rfl (fun w hS=>RunV.move rfl) fun a hf=>OQ.val (v:=.pointer (some ⟨b_x3,k,none⟩)) hf rfl (fun w hS=>RunV.indexArr (j:=k) (m:=k) T_arr_83 T_size_3 rfl rfl rfl (by omega) (by omega)) fun a hf=>OQ.val (v:=.int .i64 ([x.num,x.yr,IntKind.i64.wrap x.half,x.cyc,IntKind.i64.wrap x.sec].getD k 0)) hf rfl (fun w hS=>RunV.load1 T_agg_3 rfl (hS.p 1 rfl) (arr5 (by omega))) fun a hf=>OQ.val (v:=.int .i64 (k:Int)) hf rfl (fun w hS=>RunV.move rfl) fun a hf=>OQ.val (v:=.pointer (some ⟨b_y4,k,none⟩)) hf rfl (fun w hS=>RunV.indexArr (j:=k) (m:=k) T_arr_83 T_size_3 rfl rfl rfl (by omega) (by omega)) fun a hf=>OQ.val (v:=.int .i64 ([15396336,y.yr,IntKind.i64.wrap y.half,y.cyc,IntKind.i64.wrap y.sec].getD k 0)) hf rfl (fun w hS=>RunV.load1 T_agg_3 rfl (hS.p 0 rfl) (arr5 (by omega))) fun a hf=>OQ.val (v:=.bool (decide (([x.num,x.yr,IntKind.i64.wrap x.half,x.cyc,IntKind.i64.wrap x.sec].getD k 0)>([15396336,y.yr,IntKind.i64.wrap y.half,y.cyc,IntKind.i64.wrap y.sec].getD k 0:Int)))) hf rfl (fun w hS=>RunV.gtr rfl rfl) fun a hf=>?_; refine OQ.nil ?_; intro w hS; refine k_seq ?_; refine W.ifdI hf rfl (fun hgt=>?_) (fun hgt=>?_)
          · refine W.seq ?_
            refine W.regionL (l:=[0]) rfl<|mv hf rfl<|?_; clear hf a; intro a hf; refine nk<|W.ret<|k_blk_ret<|k_then_ret<|k_then_ret<|k_blk_ret<|k_then_ret<|post1 hf rfl (ResOK.tmp rfl)<|?_; exact ⟨(),congrArg (fun x=>Ending.returned (Value.int .i64 x)) (by unfold befM befN; (first | rw [if_pos ha,if_pos hb] | rw [if_pos ha,if_neg hb] | rw [if_neg ha,if_pos hb] | rw [if_neg ha,if_neg hb]); exact bef_gt h2 (by omega) hgt),hS.sub (List.nil_sublist _) |>.noB⟩
          · refine W.skip ?_
            refine k_blk_normal<|k_seq<|?_
            refine W.regionL (l:=[0,1,2]) rfl<|mv hf rfl<|?_; clear hf a; intro a hf; refine ov hf rfl (RunV.addI rfl rfl (by omega)) ?_; clear hf a; intro a hf; refine mv hf rfl ?_; clear hf a; intro a hf; refine O.nil ?_; refine k_then ⟨(k+1),⟨hf.to ⟨rfl,rfl,(by first | rfl | exact congrArg some (congrArg (Value.int _) (by omega))),trivial⟩,?_,?_,?_⟩,?_⟩
            · exact hS.eqM rfl
            · omega
            · exact bef_step h2 (by omega) (by omega)
            · dsimp only; omega
      · refine W.exit ?_
        refine k_then_exit<|k_then_exit<|k_blk<|k_seq<|?_; replace hf:Fr a 60 [] []:=hf.to trivial; refine W.seq ?_
        refine W.regionL (l:=[0]) rfl<|mv hf rfl<|?_; clear hf a; intro a hf; refine nk<|W.ret<|post1 hf rfl (ResOK.tmp rfl)<|?_; exact ⟨(),congrArg (fun x=>Ending.returned (Value.int .i64 x)) (by unfold befM befN; (first | rw [if_pos ha,if_pos hb] | rw [if_pos ha,if_neg hb] | rw [if_neg ha,if_pos hb] | rw [if_neg ha,if_neg hb]); exact bef_eq h2 (by omega)),hS.sub (List.nil_sublist _) |>.noB⟩
    · refine W.skip ?_
      refine k_seq<|W.seq<|W.seq<|?_
      refine W.regionL (l:=[0]) rfl<|mv hf rfl<|?_; clear hf a; intro a hf; refine nk<|W.block<|?_
      refine W.loop (G:=(Nat)) (fun g a w=>match g with | k=>Fr a 60 [] [(5,.pointer (some ⟨b_x3,0,none⟩)),(6,.pointer (some ⟨b_y4,0,none⟩)),(7,.int .i64 (k:Int))]∧St w0 w noX [] [pt b_y4 (.cells #[.int .i64 y.num,.int .i64 y.yr,.int .i64 (IntKind.i64.wrap y.half),.int .i64 y.cyc,.int .i64 (IntKind.i64.wrap y.sec)] 83 (0,0)),pt b_x3 (.cells #[.int .i64 x.num,.int .i64 x.yr,.int .i64 (IntKind.i64.wrap x.half),.int .i64 x.cyc,.int .i64 (IntKind.i64.wrap x.sec)] 83 (0,0)),pt b_b2 (.cells (aD y) 24 (0,0)),pt b_a1 (.cells (aD x) 24 (0,0))]∧(k≤5)∧(∀ i,i<k→[x.num,x.yr,IntKind.i64.wrap x.half,x.cyc,IntKind.i64.wrap x.sec].getD i 0=[y.num,y.yr,IntKind.i64.wrap y.half,y.cyc,IntKind.i64.wrap y.sec].getD i 0)) (fun g=>match g with | k=>5-k) 0 ?_ ?_
      · refine ⟨hf.to ⟨rfl,rfl,(by first | rfl | exact congrArg some (congrArg (Value.int _) (by omega))),trivial⟩,hS,?_,?_⟩
        · omega
        · intro i hi; omega
      clear hf hS a; rintro k a w ⟨hf,hS,hk,h2⟩; refine W.seq<|W.seq<|?_
      refine W.regionL (l:=[0,1]) rfl<|mv hf rfl<|?_; clear hf a; intro a hf; refine ov (v:=.bool (decide ((k:Int)<(5:Int)))) hf rfl (RunV.lss rfl rfl) ?_; clear hf a; intro a hf; refine nk ?_; refine W.ifdI hf rfl (fun hc17=>?_) (fun hc17=>?_)
      · refine W.skip ?_
        refine k_seq<|W.seq<|W.block<|W.seq<|W.seq<|?_
        refine W.drawQ (fun w=>St w0 w noX [] [pt b_y4 (.cells #[.int .i64 y.num,.int .i64 y.yr,.int .i64 (IntKind.i64.wrap y.half),.int .i64 y.cyc,.int .i64 (IntKind.i64.wrap y.sec)] 83 (0,0)),pt b_x3 (.cells #[.int .i64 x.num,.int .i64 x.yr,.int .i64 (IntKind.i64.wrap x.half),.int .i64 x.cyc,.int .i64 (IntKind.i64.wrap x.sec)] 83 (0,0)),pt b_b2 (.cells (aD y) 24 (0,0)),pt b_a1 (.cells (aD x) 24 (0,0))]) P_mixed rfl (by kernel_rfl) rfl hS.drew ?_; clear hS; refine OQ.val (v:=.int .i64 (k:Int)) hf rfl (fun w hS=>RunV.move rfl) fun a hf=>OQ.val (v:=.pointer (some ⟨b_x3,k,none⟩)) hf rfl (fun w hS=>RunV.indexArr (j:=k) (m:=k) T_arr_83 T_size_3 rfl rfl rfl (by omega) (by omega)) fun a hf=>OQ.val (v:=.int .i64 ([x.num,x.yr,IntKind.i64.wrap x.half,x.cyc,IntKind.i64.wrap x.sec].getD k 0)) hf rfl (fun w hS=>RunV.load1 T_agg_3 rfl (hS.p 1 rfl) (arr5 (by omega))) fun a hf=>OQ.val (v:=.int .i64 (k:Int)) hf rfl (fun w hS=>RunV.move rfl) fun a hf=>OQ.val (v:=.pointer (some ⟨b_y4,k,none⟩)) hf rfl (fun w hS=>RunV.indexArr (j:=k) (m:=k) T_arr_83 T_size_3 rfl rfl rfl (by omega) (by omega)) fun a hf=>OQ.val (v:=.int .i64 ([y.num,y.yr,IntKind.i64.wrap y.half,y.cyc,IntKind.i64.wrap y.sec].getD k 0)) hf rfl (fun w hS=>RunV.load1 T_agg_3 rfl (hS.p 0 rfl) (arr5 (by omega))) fun a hf=>OQ.val (v:=.bool (decide (([x.num,x.yr,IntKind.i64.wrap x.half,x.cyc,IntKind.i64.wrap x.sec].getD k 0)<([y.num,y.yr,IntKind.i64.wrap y.half,y.cyc,IntKind.i64.wrap y.sec].getD k 0:Int)))) hf rfl (fun w hS=>RunV.lss rfl rfl) fun a hf=>?_; refine OQ.nil ?_; intro w hS; refine k_seq ?_; refine W.ifdI hf rfl (fun hlt=>?_) (fun hlt=>?_)
        · refine W.seq ?_
          refine W.regionL (l:=[0]) rfl<|mv hf rfl<|?_; clear hf a; intro a hf; refine nk<|W.ret<|k_then_ret<|k_blk_ret<|k_then_ret<|k_then_ret<|k_blk_ret<|k_then_ret<|post1 hf rfl (ResOK.tmp rfl)<|?_; exact ⟨(),congrArg (fun x=>Ending.returned (Value.int .i64 x)) (by unfold befM befN; (first | rw [if_pos ha,if_pos hb] | rw [if_pos ha,if_neg hb] | rw [if_neg ha,if_pos hb] | rw [if_neg ha,if_neg hb]); exact bef_lt h2 (by omega) hlt),hS.sub (List.nil_sublist _) |>.noB⟩
        · refine W.skip ?_
          refine k_seq<|W.seq<|?_
          refine W.drawQ (fun w=>St w0 w noX [] [pt b_y4 (.cells #[.int .i64 y.num,.int .i64 y.yr,.int .i64 (IntKind.i64.wrap y.half),.int .i64 y.cyc,.int .i64 (IntKind.i64.wrap y.sec)] 83 (0,0)),pt b_x3 (.cells #[.int .i64 x.num,.int .i64 x.yr,.int .i64 (IntKind.i64.wrap x.half),.int .i64 x.cyc,.int .i64 (IntKind.i64.wrap x.sec)] 83 (0,0)),pt b_b2 (.cells (aD y) 24 (0,0)),pt b_a1 (.cells (aD x) 24 (0,0))]) P_mixed rfl (by kernel_rfl) rfl hS.drew ?_; clear hS; refine OQ.val (v:=.int .i64 (k:Int)) hf rfl (fun w hS=>RunV.move rfl) fun a hf=>OQ.val (v:=.pointer (some ⟨b_x3,k,none⟩)) hf rfl (fun w hS=>RunV.indexArr (j:=k) (m:=k) T_arr_83 T_size_3 rfl rfl rfl (by omega) (by omega)) fun a hf=>OQ.val (v:=.int .i64 ([x.num,x.yr,IntKind.i64.wrap x.half,x.cyc,IntKind.i64.wrap x.sec].getD k 0)) hf rfl (fun w hS=>RunV.load1 T_agg_3 rfl (hS.p 1 rfl) (arr5 (by omega))) fun a hf=>OQ.val (v:=.int .i64 (k:Int)) hf rfl (fun w hS=>RunV.move rfl) fun a hf=>OQ.val (v:=.pointer (some ⟨b_y4,k,none⟩)) hf rfl (fun w hS=>RunV.indexArr (j:=k) (m:=k) T_arr_83 T_size_3 rfl rfl rfl (by omega) (by omega)) fun a hf=>OQ.val (v:=.int .i64 ([y.num,y.yr,IntKind.i64.wrap y.half,y.cyc,IntKind.i64.wrap y.sec].getD k 0)) hf rfl (fun w hS=>RunV.load1 T_agg_3 rfl (hS.p 0 rfl) (arr5 (by omega))) fun a hf=>OQ.val (v:=.bool (decide (([x.num,x.yr,IntKind.i64.wrap x.half,x.cyc,IntKind.i64.wrap x.sec].getD k 0)>([y.num,y.yr,IntKind.i64.wrap y.half,y.cyc,IntKind.i64.wrap y.sec].getD k 0:Int)))) hf rfl (fun w hS=>RunV.gtr rfl rfl) fun a hf=>?_; refine OQ.nil ?_; intro w hS; refine k_seq ?_; refine W.ifdI hf rfl (fun hgt=>?_) (fun hgt=>?_)
          · refine W.seq ?_
            refine W.regionL (l:=[0]) rfl<|mv hf rfl<|?_; clear hf a; intro a hf; refine nk<|W.ret<|k_blk_ret<|k_then_ret<|k_then_ret<|k_blk_ret<|k_then_ret<|post1 hf rfl (ResOK.tmp rfl)<|?_; exact ⟨(),congrArg (fun x=>Ending.returned (Value.int .i64 x)) (by unfold befM befN; (first | rw [if_pos ha,if_pos hb] | rw [if_pos ha,if_neg hb] | rw [if_neg ha,if_pos hb] | rw [if_neg ha,if_neg hb]); exact bef_gt h2 (by omega) hgt),hS.sub (List.nil_sublist _) |>.noB⟩
          · refine W.skip ?_
            refine k_blk_normal<|k_seq<|?_
            refine W.regionL (l:=[0,1,2]) rfl<|mv hf rfl<|?_; clear hf a; intro a hf; refine ov hf rfl (RunV.addI rfl rfl (by omega)) ?_; clear hf a; intro a hf; refine mv hf rfl ?_; clear hf a; intro a hf; refine O.nil ?_; refine k_then ⟨(k+1),⟨hf.to ⟨rfl,rfl,(by first | rfl | exact congrArg some (congrArg (Value.int _) (by omega))),trivial⟩,?_,?_,?_⟩,?_⟩
            · exact hS.eqM rfl
            · omega
            · exact bef_step h2 (by omega) (by omega)
            · dsimp only; omega
      · refine W.exit ?_
        refine k_then_exit<|k_then_exit<|k_blk<|k_seq<|?_; replace hf:Fr a 60 [] []:=hf.to trivial; refine W.seq ?_
        refine W.regionL (l:=[0]) rfl<|mv hf rfl<|?_; clear hf a; intro a hf; refine nk<|W.ret<|post1 hf rfl (ResOK.tmp rfl)<|?_; exact ⟨(),congrArg (fun x=>Ending.returned (Value.int .i64 x)) (by unfold befM befN; (first | rw [if_pos ha,if_pos hb] | rw [if_pos ha,if_neg hb] | rw [if_neg ha,if_pos hb] | rw [if_neg ha,if_neg hb]); exact bef_eq h2 (by omega)),hS.sub (List.nil_sublist _) |>.noB⟩
end Go.Proofs.YtgakdmmmljdpjaaDoor

namespace Go.SL
open Go
def halfB (c:Int):Bool:=decide (c≥65)&&decide (c≤89)&&decide (c≠73)
def orderB (c:Int):Bool:=decide (c≥65)&&decide (c≤90)&&decide (c≠73)
theorem half_place:∀ n:Fin 256,(decide (placeM (IntKind.i32.wrap (n.val:Int))≥0)&&decide (placeM (IntKind.i32.wrap (n.val:Int))<24))=halfB (n.val:Int):=by decide +kernel
theorem order_place:∀ n:Fin 256,decide (placeM (IntKind.i32.wrap (n.val:Int))≥0)=orderB (n.val:Int):=by decide +kernel
theorem okD_28 {d:Dg} (hr:rD d):okD d=if d.num≠0 then decide (d=⟨d.num,0,0,0,0⟩)&&decide (d.num>0)&&decide (d.num≤15396335)
    else decide (d.yr≥1800)&&decide (d.yr≤2099)&&halfB d.half&&orderB d.sec&&decide (d.cyc≥0)&&decide (d.cyc≤619):=by
  have h1:=half_place ⟨d.half.toNat,by have:=hr.1; omega⟩
  have h2:=order_place ⟨d.sec.toNat,by have:=hr.2; omega⟩
  have e1:((d.half.toNat:Nat):Int)=d.half:=by have:=hr.1; omega
  have e2:((d.sec.toNat:Nat):Int)=d.sec:=by have:=hr.2; omega
  simp only [e1,e2] at h1 h2
  unfold okD
  rw [h1,h2]
section
variable {A:Prop} [Decidable A] {n m y c:Int} {h o:Bool}
theorem ck_bad1 (hb:(!decide A||decide (n<1)||decide (n>m))=true):(decide A&&decide (n>0)&&decide (n≤m))=false:=by
  rw [Bool.eq_false_iff]
  intro h
  simp only [Bool.or_eq_true,Bool.and_eq_true,Bool.not_eq_true',decide_eq_true_eq,decide_eq_false_iff_not] at hb h
  rcases hb with (h1 | h1) | h1
  · exact h1 h.1.1
  · omega
  · omega
theorem ck_ok1 (hb:(!decide A||decide (n<1)||decide (n>m))=false):(decide A&&decide (n>0)&&decide (n≤m))=true:=by
  simp only [Bool.or_eq_false_iff,Bool.not_eq_false',decide_eq_true_eq,decide_eq_false_iff_not] at hb
  simp only [Bool.and_eq_true,decide_eq_true_eq]
  exact ⟨⟨hb.1.1,by omega⟩,by omega⟩
theorem ck_bad2 (hb:(decide (y<1800)||decide (y>2099)||!h||!o||decide (c<0)||decide (c>619))=true):(decide (y≥1800)&&decide (y≤2099)&&h&&o&&decide (c≥0)&&decide (c≤619))=false:=by
  rw [Bool.eq_false_iff]
  intro h
  simp only [Bool.or_eq_true,Bool.and_eq_true,Bool.not_eq_true',decide_eq_true_eq] at hb h
  rcases hb with ((((h1 | h1) | h1) | h1) | h1) | h1
  · omega
  · omega
  · rw [h.1.1.1.2] at h1; cases h1
  · rw [h.1.1.2] at h1; cases h1
  · omega
  · omega
theorem ck_ok2 (hb:(decide (y<1800)||decide (y>2099)||!h||!o||decide (c<0)||decide (c>619))=false):(decide (y≥1800)&&decide (y≤2099)&&h&&o&&decide (c≥0)&&decide (c≤619))=true:=by
  simp only [Bool.or_eq_false_iff,Bool.not_eq_false',decide_eq_false_iff_not] at hb
  simp only [Bool.and_eq_true,decide_eq_true_eq]
  exact ⟨⟨⟨⟨⟨by omega,by omega⟩,hb.1.1.1.2⟩,hb.1.1.2⟩,by omega⟩,by omega⟩
end
end Go.SL

set_option maxHeartbeats 1000000
set_option maxRecDepth 8000
namespace Go.Proofs.YtgakdmmmljdpjaaDoor
open Go Go.SL
theorem C_ok_35:callOK Tryd.prog 35=true:=by kernel_rfl
theorem C_ok_36:callOK Tryd.prog 36=true:=by kernel_rfl
set_option maxHeartbeats 400000 in
set_option maxRecDepth 4000 in
theorem half_spec (c:Int) (w0:World) :
    Ret Tryd.prog 35 #[.int .u8 c] w0 (G:=Unit) (fun _=>.bool (halfB c)) (fun _ w=>St w0 w noX [] []):=by
  refine ret_of_W (lv:=[.int .u8 c]) Tryd.func35 rfl rfl rfl (fun a hf=>?_); replace hf:Fr a 13 [] [(0,.int .u8 c)]:=hf; have hS:St w0 w0 noX [] []:=St.refl w0; refine W.seq ?_
  refine W.regionL (l:=[0]) rfl<|mv hf rfl<|?_; clear hf a; intro a hf; refine nk<|W.seq<|?_
  refine W.regionL (l:=[0,1,2,3,4,5,6,7,8,9,10]) rfl<|mv hf rfl<|?_; clear hf a; intro a hf; refine ov (v:=.bool (decide (c≥(65:Int)))) hf rfl (RunV.geq rfl rfl) ?_; clear hf a; intro a hf; refine mv hf rfl ?_; clear hf a; intro a hf
  refine O.cutN (l₁:=[3,4,5]) (l₂:=_) (fun a w=>Fr a 13 [] [(0,.int .u8 c),(2,.bool false),(3,.int .u8 c),(4,.bool (decide (c≥(65:Int)))),(5,.bool (decide (c≥(65:Int)))),(8,.bool ((decide (c≥(65:Int)))&&(decide (c≤(89:Int)))))]∧St w0 w noX [] []) rfl ?_ ?_
  · rcases Bool.eq_false_or_eq_true (decide (c≥(65:Int))) with hb1 | hb1
    · have hb1p:=of_decide_eq_true hb1
      refine og (v:=.int .u8 c) hf rfl hb1 (RunV.move rfl) ?_; clear hf a; intro a hf; refine og (v:=.bool (decide (c≤(89:Int)))) hf rfl hb1 (RunV.leq rfl rfl) ?_; clear hf a; intro a hf; refine ov (v:=.bool ((decide (c≥(65:Int)))&&(decide (c≤(89:Int))))) hf rfl (RunV.pick rfl rfl rfl (by rw [hb1]; rfl)) ?_; clear hf a; intro a hf; exact O.nil ⟨rfl,hf.q rfl,hS⟩
    · have hb1p:=of_decide_eq_false hb1
      refine sk hf rfl hb1 fun a hf=>sk hf rfl hb1 fun a hf=>?_; refine ov (v:=.bool ((decide (c≥(65:Int)))&&(decide (c≤(89:Int))))) hf rfl (RunV.pick rfl rfl rfl (by rw [hb1]; rfl)) ?_; clear hf a; intro a hf; exact O.nil ⟨rfl,hf.q rfl,hS⟩
  clear hf hS a; rintro a w ⟨hf,hS⟩; refine mv hf rfl ?_; clear hf a; intro a hf
  refine O.cutN (l₁:=[7,8,9]) (l₂:=_) (fun a w=>Fr a 13 [] [(0,.int .u8 c),(2,.bool false),(3,.int .u8 c),(4,.bool (decide (c≥(65:Int)))),(5,.bool (decide (c≥(65:Int)))),(8,.bool ((decide (c≥(65:Int)))&&(decide (c≤(89:Int))))),(9,.bool ((decide (c≥(65:Int)))&&(decide (c≤(89:Int))))),(12,.bool (((decide (c≥(65:Int)))&&(decide (c≤(89:Int))))&&(decide (c≠(73:Int)))))]∧St w0 w noX [] []) rfl ?_ ?_
  · rcases Bool.eq_false_or_eq_true ((decide (c≥(65:Int)))&&(decide (c≤(89:Int)))) with hb2 | hb2
    · have hb2p:=hb2
      try simp only [Bool.and_eq_true,Bool.or_eq_true,Bool.and_eq_false_iff,Bool.or_eq_false_iff,decide_eq_true_eq,decide_eq_false_iff_not,Bool.not_eq_true',Bool.not_eq_false',Bool.not_eq_true,Bool.not_eq_false,ne_eq] at hb2p
      refine og (v:=.int .u8 c) hf rfl hb2 (RunV.move rfl) ?_; clear hf a; intro a hf; refine og (v:=.bool (decide (c≠(73:Int)))) hf rfl hb2 (RunV.neq rfl rfl) ?_; clear hf a; intro a hf; refine ov (v:=.bool (((decide (c≥(65:Int)))&&(decide (c≤(89:Int))))&&(decide (c≠(73:Int))))) hf rfl (RunV.pick rfl rfl rfl (by rw [hb2]; rfl)) ?_; clear hf a; intro a hf; exact O.nil ⟨rfl,hf.q rfl,hS⟩
    · have hb2p:=hb2
      try simp only [Bool.and_eq_true,Bool.or_eq_true,Bool.and_eq_false_iff,Bool.or_eq_false_iff,decide_eq_true_eq,decide_eq_false_iff_not,Bool.not_eq_true',Bool.not_eq_false',Bool.not_eq_true,Bool.not_eq_false,ne_eq] at hb2p
      refine sk hf rfl hb2 fun a hf=>sk hf rfl hb2 fun a hf=>?_; refine ov (v:=.bool (((decide (c≥(65:Int)))&&(decide (c≤(89:Int))))&&(decide (c≠(73:Int))))) hf rfl (RunV.pick rfl rfl rfl (by rw [hb2]; rfl)) ?_; clear hf a; intro a hf; exact O.nil ⟨rfl,hf.q rfl,hS⟩
  clear hf hS a; rintro a w ⟨hf,hS⟩; refine mv hf rfl ?_; clear hf a; intro a hf; refine nk<|W.ret<|post1 hf rfl (ResOK.tmp rfl)<|?_; exact ⟨(),rfl,hS.sub (List.nil_sublist _) |>.noB⟩
set_option maxHeartbeats 400000 in
set_option maxRecDepth 4000 in
theorem orderl_spec (c:Int) (w0:World) :
    Ret Tryd.prog 36 #[.int .u8 c] w0 (G:=Unit) (fun _=>.bool (orderB c)) (fun _ w=>St w0 w noX [] []):=by
  refine ret_of_W (lv:=[.int .u8 c]) Tryd.func36 rfl rfl rfl (fun a hf=>?_); replace hf:Fr a 13 [] [(0,.int .u8 c)]:=hf; have hS:St w0 w0 noX [] []:=St.refl w0; refine W.seq ?_
  refine W.regionL (l:=[0]) rfl<|mv hf rfl<|?_; clear hf a; intro a hf; refine nk<|W.seq<|?_
  refine W.regionL (l:=[0,1,2,3,4,5,6,7,8,9,10]) rfl<|mv hf rfl<|?_; clear hf a; intro a hf; refine ov (v:=.bool (decide (c≥(65:Int)))) hf rfl (RunV.geq rfl rfl) ?_; clear hf a; intro a hf; refine mv hf rfl ?_; clear hf a; intro a hf
  refine O.cutN (l₁:=[3,4,5]) (l₂:=_) (fun a w=>Fr a 13 [] [(0,.int .u8 c),(2,.bool false),(3,.int .u8 c),(4,.bool (decide (c≥(65:Int)))),(5,.bool (decide (c≥(65:Int)))),(8,.bool ((decide (c≥(65:Int)))&&(decide (c≤(90:Int)))))]∧St w0 w noX [] []) rfl ?_ ?_
  · rcases Bool.eq_false_or_eq_true (decide (c≥(65:Int))) with hb1 | hb1
    · have hb1p:=of_decide_eq_true hb1
      refine og (v:=.int .u8 c) hf rfl hb1 (RunV.move rfl) ?_; clear hf a; intro a hf; refine og (v:=.bool (decide (c≤(90:Int)))) hf rfl hb1 (RunV.leq rfl rfl) ?_; clear hf a; intro a hf; refine ov (v:=.bool ((decide (c≥(65:Int)))&&(decide (c≤(90:Int))))) hf rfl (RunV.pick rfl rfl rfl (by rw [hb1]; rfl)) ?_; clear hf a; intro a hf; exact O.nil ⟨rfl,hf.q rfl,hS⟩
    · have hb1p:=of_decide_eq_false hb1
      refine sk hf rfl hb1 fun a hf=>sk hf rfl hb1 fun a hf=>?_; refine ov (v:=.bool ((decide (c≥(65:Int)))&&(decide (c≤(90:Int))))) hf rfl (RunV.pick rfl rfl rfl (by rw [hb1]; rfl)) ?_; clear hf a; intro a hf; exact O.nil ⟨rfl,hf.q rfl,hS⟩
  clear hf hS a; rintro a w ⟨hf,hS⟩; refine mv hf rfl ?_; clear hf a; intro a hf
  refine O.cutN (l₁:=[7,8,9]) (l₂:=_) (fun a w=>Fr a 13 [] [(0,.int .u8 c),(2,.bool false),(3,.int .u8 c),(4,.bool (decide (c≥(65:Int)))),(5,.bool (decide (c≥(65:Int)))),(8,.bool ((decide (c≥(65:Int)))&&(decide (c≤(90:Int))))),(9,.bool ((decide (c≥(65:Int)))&&(decide (c≤(90:Int))))),(12,.bool (((decide (c≥(65:Int)))&&(decide (c≤(90:Int))))&&(decide (c≠(73:Int)))))]∧St w0 w noX [] []) rfl ?_ ?_
  · rcases Bool.eq_false_or_eq_true ((decide (c≥(65:Int)))&&(decide (c≤(90:Int)))) with hb2 | hb2
    · have hb2p:=hb2
      try simp only [Bool.and_eq_true,Bool.or_eq_true,Bool.and_eq_false_iff,Bool.or_eq_false_iff,decide_eq_true_eq,decide_eq_false_iff_not,Bool.not_eq_true',Bool.not_eq_false',Bool.not_eq_true,Bool.not_eq_false,ne_eq] at hb2p
      refine og (v:=.int .u8 c) hf rfl hb2 (RunV.move rfl) ?_; clear hf a; intro a hf; refine og (v:=.bool (decide (c≠(73:Int)))) hf rfl hb2 (RunV.neq rfl rfl) ?_; clear hf a; intro a hf; refine ov (v:=.bool (((decide (c≥(65:Int)))&&(decide (c≤(90:Int))))&&(decide (c≠(73:Int))))) hf rfl (RunV.pick rfl rfl rfl (by rw [hb2]; rfl)) ?_; clear hf a; intro a hf; exact O.nil ⟨rfl,hf.q rfl,hS⟩
    · have hb2p:=hb2
      try simp only [Bool.and_eq_true,Bool.or_eq_true,Bool.and_eq_false_iff,Bool.or_eq_false_iff,decide_eq_true_eq,decide_eq_false_iff_not,Bool.not_eq_true',Bool.not_eq_false',Bool.not_eq_true,Bool.not_eq_false,ne_eq] at hb2p
      refine sk hf rfl hb2 fun a hf=>sk hf rfl hb2 fun a hf=>?_; refine ov (v:=.bool (((decide (c≥(65:Int)))&&(decide (c≤(90:Int))))&&(decide (c≠(73:Int))))) hf rfl (RunV.pick rfl rfl rfl (by rw [hb2]; rfl)) ?_; clear hf a; intro a hf; exact O.nil ⟨rfl,hf.q rfl,hS⟩
  clear hf hS a; rintro a w ⟨hf,hS⟩; refine mv hf rfl ?_; clear hf a; intro a hf; refine nk<|W.ret<|post1 hf rfl (ResOK.tmp rfl)<|?_; exact ⟨(),rfl,hS.sub (List.nil_sublist _) |>.noB⟩
set_option maxHeartbeats 400000 in
set_option maxRecDepth 4000 in
theorem check28_spec (d:Dg) (w0:World) (hr:rD d) :
    Ret Tryd.prog 15 #[.agg (aD d)] w0 (G:=Unit) (fun _=>.int .i64 (if okD d then 0 else 8)) (fun _ w=>St w0 w noX [] []):=by
  refine ret_of_W (lv:=[.agg (aD d)]) Tryd.func15 rfl rfl rfl (fun a hf=>?_); replace hf:Fr a 51 [] [(0,.agg (aD d))]:=hf; have hS:St w0 w0 noX [] []:=St.refl w0; refine W.seq ?_
  refine W.regionL (l:=[0,1]) rfl<|O.box (cs:=(aD d)) hf hS rfl rfl rfl rfl<|?_; intro b_d1 w a hbb_d1 hS hf; refine mv hf rfl ?_; clear hf a; intro a hf; refine nk<|W.seq<|W.seq<|?_
  refine W.regionL (l:=[0,1,2]) rfl<|ov hf rfl (RunV.field T_field_24_0 rfl rfl)<|?_; clear hf a; intro a hf; refine ov hf rfl (RunV.load1 T_agg_3 rfl (hS.p 0 rfl) rfl) ?_; clear hf a; intro a hf; refine ov (v:=.bool (decide (d.num≠(0:Int)))) hf rfl (RunV.neq rfl rfl) ?_; clear hf a; intro a hf; refine nk ?_; refine W.ifdI hf rfl (fun hn=>?_) (fun hn=>?_)
  · refine W.seq ?_
    refine W.seq ?_
    refine W.regionL (l:=[0,1,2,3,4,5,6,7,8,9,10,11,12,13,14]) rfl<|ov hf rfl (RunV.loadN (cs':=(aD d)) T_agg_24 T_size_24 rfl (hS.p 0 rfl) (bl rfl) rfl)<|?_; clear hf a; intro a hf; refine ov hf rfl (RunV.field T_field_24_0 rfl rfl) ?_; clear hf a; intro a hf; refine ov hf rfl (RunV.load1 T_agg_3 rfl (hS.p 0 rfl) rfl) ?_; clear hf a; intro a hf; refine ov hf rfl (RunV.buildS (cs':=#[.int .i64 d.num,.int .i64 0,.int .u8 0,.int .u8 0,.int .i64 0]) T_places_24 T_zero_24 rfl rfl) ?_; clear hf a; intro a hf; refine ov hf rfl (neD rfl d ⟨d.num,0,0,0,0⟩ eqGuard24 rfl rfl) ?_; clear hf a; intro a hf; refine mv hf rfl ?_; clear hf a; intro a hf
    refine O.cutN (l₁:=[6,7,8,9]) (l₂:=_) (fun a w=>Fr a 51 [] [(1,.pointer (some ⟨b_d1,0,none⟩)),(2,.int .i64 0),(6,.agg (aD d)),(7,.pointer (some ⟨b_d1,0,none⟩)),(8,.int .i64 d.num),(9,.agg #[.int .i64 d.num,.int .i64 0,.int .u8 0,.int .u8 0,.int .i64 0]),(10,.bool (!decide (d=⟨d.num,0,0,0,0⟩))),(11,.bool (!decide (d=⟨d.num,0,0,0,0⟩))),(15,.bool ((!decide (d=⟨d.num,0,0,0,0⟩))||(decide (d.num<(1:Int)))))]∧St w0 w noX [] [pt b_d1 (.cells (aD d) 24 (0,0))]) rfl ?_ ?_
    · rcases Bool.eq_false_or_eq_true (!decide (d=⟨d.num,0,0,0,0⟩)) with hb3 | hb3
      · have hb3p:=hb3
        try simp only [Bool.and_eq_true,Bool.or_eq_true,Bool.and_eq_false_iff,Bool.or_eq_false_iff,decide_eq_true_eq,decide_eq_false_iff_not,Bool.not_eq_true',Bool.not_eq_false',Bool.not_eq_true,Bool.not_eq_false,ne_eq] at hb3p
        refine sk hf rfl hb3 fun a hf=>sk hf rfl hb3 fun a hf=>sk hf rfl hb3 fun a hf=>?_; refine ov (v:=.bool ((!decide (d=⟨d.num,0,0,0,0⟩))||(decide (d.num<(1:Int))))) hf rfl (RunV.pick rfl rfl rfl (by rw [hb3]; rfl)) ?_; clear hf a; intro a hf; exact O.nil ⟨rfl,hf.q rfl,hS⟩
      · have hb3p:=hb3
        try simp only [Bool.and_eq_true,Bool.or_eq_true,Bool.and_eq_false_iff,Bool.or_eq_false_iff,decide_eq_true_eq,decide_eq_false_iff_not,Bool.not_eq_true',Bool.not_eq_false',Bool.not_eq_true,Bool.not_eq_false,ne_eq] at hb3p
        refine og (v:=.pointer (some ⟨b_d1,0,none⟩)) hf rfl hb3 (RunV.field T_field_24_0 rfl rfl) ?_; clear hf a; intro a hf; refine og (v:=.int .i64 d.num) hf rfl hb3 (RunV.load1 T_agg_3 rfl (hS.p 0 rfl) rfl) ?_; clear hf a; intro a hf; refine og (v:=.bool (decide (d.num<(1:Int)))) hf rfl hb3 (RunV.lss rfl rfl) ?_; clear hf a; intro a hf; refine ov (v:=.bool ((!decide (d=⟨d.num,0,0,0,0⟩))||(decide (d.num<(1:Int))))) hf rfl (RunV.pick rfl rfl rfl (by rw [hb3]; rfl)) ?_; clear hf a; intro a hf; exact O.nil ⟨rfl,hf.q rfl,hS⟩
    clear hf hS a; rintro a w ⟨hf,hS⟩; refine mv hf rfl ?_; clear hf a; intro a hf
    refine O.cutN (l₁:=[11,12,13,14]) (l₂:=_) (fun a w=>Fr a 51 [] [(1,.pointer (some ⟨b_d1,0,none⟩)),(2,.int .i64 0),(6,.agg (aD d)),(7,.pointer (some ⟨b_d1,0,none⟩)),(8,.int .i64 d.num),(9,.agg #[.int .i64 d.num,.int .i64 0,.int .u8 0,.int .u8 0,.int .i64 0]),(10,.bool (!decide (d=⟨d.num,0,0,0,0⟩))),(11,.bool (!decide (d=⟨d.num,0,0,0,0⟩))),(15,.bool ((!decide (d=⟨d.num,0,0,0,0⟩))||(decide (d.num<(1:Int))))),(16,.bool ((!decide (d=⟨d.num,0,0,0,0⟩))||(decide (d.num<(1:Int))))),(20,.bool (((!decide (d=⟨d.num,0,0,0,0⟩))||(decide (d.num<(1:Int))))||(decide (d.num>(15396335:Int)))))]∧St w0 w noX [] [pt b_d1 (.cells (aD d) 24 (0,0))]) rfl ?_ ?_
    · rcases Bool.eq_false_or_eq_true ((!decide (d=⟨d.num,0,0,0,0⟩))||(decide (d.num<(1:Int)))) with hb4 | hb4
      · have hb4p:=hb4
        try simp only [Bool.and_eq_true,Bool.or_eq_true,Bool.and_eq_false_iff,Bool.or_eq_false_iff,decide_eq_true_eq,decide_eq_false_iff_not,Bool.not_eq_true',Bool.not_eq_false',Bool.not_eq_true,Bool.not_eq_false,ne_eq] at hb4p
        refine sk hf rfl hb4 fun a hf=>sk hf rfl hb4 fun a hf=>sk hf rfl hb4 fun a hf=>?_; refine ov (v:=.bool (((!decide (d=⟨d.num,0,0,0,0⟩))||(decide (d.num<(1:Int))))||(decide (d.num>(15396335:Int))))) hf rfl (RunV.pick rfl rfl rfl (by rw [hb4]; rfl)) ?_; clear hf a; intro a hf; exact O.nil ⟨rfl,hf.q rfl,hS⟩
      · have hb4p:=hb4
        try simp only [Bool.and_eq_true,Bool.or_eq_true,Bool.and_eq_false_iff,Bool.or_eq_false_iff,decide_eq_true_eq,decide_eq_false_iff_not,Bool.not_eq_true',Bool.not_eq_false',Bool.not_eq_true,Bool.not_eq_false,ne_eq] at hb4p
        refine og (v:=.pointer (some ⟨b_d1,0,none⟩)) hf rfl hb4 (RunV.field T_field_24_0 rfl rfl) ?_; clear hf a; intro a hf; refine og (v:=.int .i64 d.num) hf rfl hb4 (RunV.load1 T_agg_3 rfl (hS.p 0 rfl) rfl) ?_; clear hf a; intro a hf; refine og (v:=.bool (decide (d.num>(15396335:Int)))) hf rfl hb4 (RunV.gtr rfl rfl) ?_; clear hf a; intro a hf; refine ov (v:=.bool (((!decide (d=⟨d.num,0,0,0,0⟩))||(decide (d.num<(1:Int))))||(decide (d.num>(15396335:Int))))) hf rfl (RunV.pick rfl rfl rfl (by rw [hb4]; rfl)) ?_; clear hf a; intro a hf; exact O.nil ⟨rfl,hf.q rfl,hS⟩
    clear hf hS a; rintro a w ⟨hf,hS⟩; refine nk ?_; refine W.if_ hf rfl (fun hb1=>?_) (fun hb1=>?_)
    · have hb1b:=hb1
      try simp only [Bool.and_eq_true,Bool.or_eq_true,Bool.and_eq_false_iff,Bool.or_eq_false_iff,decide_eq_true_eq,decide_eq_false_iff_not,Bool.not_eq_true',Bool.not_eq_false',Bool.not_eq_true,Bool.not_eq_false,ne_eq] at hb1
      refine W.seq ?_
      refine W.regionL (l:=[0]) rfl<|mv hf rfl<|?_; clear hf a; intro a hf; refine nk<|W.ret<|k_then_ret<|k_then_ret<|post1 hf rfl (ResOK.tmp rfl)<|?_; exact ⟨(),congrArg (fun x=>Ending.returned (Value.int .i64 x)) (by rw [okD_28 hr]; first | rw [if_pos hn,ck_bad1 hb1b]; rfl | rw [if_neg hn,ck_bad2 hb2b]; rfl),hS.sub (List.nil_sublist _) |>.noB⟩
    · have hb1b:=hb1
      try simp only [Bool.and_eq_true,Bool.or_eq_true,Bool.and_eq_false_iff,Bool.or_eq_false_iff,decide_eq_true_eq,decide_eq_false_iff_not,Bool.not_eq_true',Bool.not_eq_false',Bool.not_eq_true,Bool.not_eq_false,ne_eq] at hb1
      refine W.skip<|k_seq<|W.seq<|?_
      refine W.regionL (l:=[0]) rfl<|mv hf rfl<|?_; clear hf a; intro a hf; refine nk<|W.ret<|k_then_ret<|post1 hf rfl (ResOK.tmp rfl)<|?_; exact ⟨(),congrArg (fun x=>Ending.returned (Value.int .i64 x)) (by rw [okD_28 hr]; first | rw [if_pos hn,ck_ok1 hb1b]; rfl | rw [if_neg hn,ck_ok2 hb2b]; rfl),hS.sub (List.nil_sublist _) |>.noB⟩
  · refine W.skip ?_
    refine k_seq<|W.seq<|W.seq<|?_
    refine W.regionL (l:=[0,1,2,3,4,5,6,7,8,9,10,11,12,13,14,15,16,17,18,19,20,21,22,23,24,25,26,27,28,29]) rfl<|ov hf rfl (RunV.field T_field_24_1 rfl rfl)<|?_; clear hf a; intro a hf; refine ov hf rfl (RunV.load1 T_agg_3 rfl (hS.p 0 rfl) rfl) ?_; clear hf a; intro a hf; refine ov (v:=.bool (decide (d.yr<(1800:Int)))) hf rfl (RunV.lss rfl rfl) ?_; clear hf a; intro a hf; refine mv hf rfl ?_; clear hf a; intro a hf
    refine O.cutN (l₁:=[4,5,6,7]) (l₂:=_) (fun a w=>Fr a 51 [] [(1,.pointer (some ⟨b_d1,0,none⟩)),(2,.int .i64 0),(21,.pointer (some ⟨b_d1,1,none⟩)),(22,.int .i64 d.yr),(23,.bool (decide (d.yr<(1800:Int)))),(24,.bool (decide (d.yr<(1800:Int)))),(28,.bool ((decide (d.yr<(1800:Int)))||(decide (d.yr>(2099:Int)))))]∧St w0 w noX [] [pt b_d1 (.cells (aD d) 24 (0,0))]) rfl ?_ ?_
    · rcases Bool.eq_false_or_eq_true (decide (d.yr<(1800:Int))) with hb6 | hb6
      · have hb6p:=of_decide_eq_true hb6
        refine sk hf rfl hb6 fun a hf=>sk hf rfl hb6 fun a hf=>sk hf rfl hb6 fun a hf=>?_; refine ov (v:=.bool ((decide (d.yr<(1800:Int)))||(decide (d.yr>(2099:Int))))) hf rfl (RunV.pick rfl rfl rfl (by rw [hb6]; rfl)) ?_; clear hf a; intro a hf; exact O.nil ⟨rfl,hf.q rfl,hS⟩
      · have hb6p:=of_decide_eq_false hb6
        refine og (v:=.pointer (some ⟨b_d1,1,none⟩)) hf rfl hb6 (RunV.field T_field_24_1 rfl rfl) ?_; clear hf a; intro a hf; refine og (v:=.int .i64 d.yr) hf rfl hb6 (RunV.load1 T_agg_3 rfl (hS.p 0 rfl) rfl) ?_; clear hf a; intro a hf; refine og (v:=.bool (decide (d.yr>(2099:Int)))) hf rfl hb6 (RunV.gtr rfl rfl) ?_; clear hf a; intro a hf; refine ov (v:=.bool ((decide (d.yr<(1800:Int)))||(decide (d.yr>(2099:Int))))) hf rfl (RunV.pick rfl rfl rfl (by rw [hb6]; rfl)) ?_; clear hf a; intro a hf; exact O.nil ⟨rfl,hf.q rfl,hS⟩
    clear hf hS a; rintro a w ⟨hf,hS⟩; refine mv hf rfl ?_; clear hf a; intro a hf
    refine O.cutN (l₁:=[9,10,11,12,13]) (l₂:=_) (fun a w=>Fr a 51 [] [(1,.pointer (some ⟨b_d1,0,none⟩)),(2,.int .i64 0),(21,.pointer (some ⟨b_d1,1,none⟩)),(22,.int .i64 d.yr),(23,.bool (decide (d.yr<(1800:Int)))),(24,.bool (decide (d.yr<(1800:Int)))),(28,.bool ((decide (d.yr<(1800:Int)))||(decide (d.yr>(2099:Int))))),(29,.bool ((decide (d.yr<(1800:Int)))||(decide (d.yr>(2099:Int))))),(34,.bool (((decide (d.yr<(1800:Int)))||(decide (d.yr>(2099:Int))))||(!(halfB d.half))))]∧St w0 w noX [] [pt b_d1 (.cells (aD d) 24 (0,0))]) rfl ?_ ?_
    · rcases Bool.eq_false_or_eq_true ((decide (d.yr<(1800:Int)))||(decide (d.yr>(2099:Int)))) with hb7 | hb7
      · have hb7p:=hb7
        try simp only [Bool.and_eq_true,Bool.or_eq_true,Bool.and_eq_false_iff,Bool.or_eq_false_iff,decide_eq_true_eq,decide_eq_false_iff_not,Bool.not_eq_true',Bool.not_eq_false',Bool.not_eq_true,Bool.not_eq_false,ne_eq] at hb7p
        refine sk hf rfl hb7 fun a hf=>sk hf rfl hb7 fun a hf=>sk hf rfl hb7 fun a hf=>sk hf rfl hb7 fun a hf=>?_; refine ov (v:=.bool (((decide (d.yr<(1800:Int)))||(decide (d.yr>(2099:Int))))||(!(halfB d.half)))) hf rfl (RunV.pick rfl rfl rfl (by rw [hb7]; rfl)) ?_; clear hf a; intro a hf; exact O.nil ⟨rfl,hf.q rfl,hS⟩
      · have hb7p:=hb7
        try simp only [Bool.and_eq_true,Bool.or_eq_true,Bool.and_eq_false_iff,Bool.or_eq_false_iff,decide_eq_true_eq,decide_eq_false_iff_not,Bool.not_eq_true',Bool.not_eq_false',Bool.not_eq_true,Bool.not_eq_false,ne_eq] at hb7p
        refine og (v:=.pointer (some ⟨b_d1,2,none⟩)) hf rfl hb7 (RunV.field T_field_24_2 rfl rfl) ?_; clear hf a; intro a hf; refine og (v:=.int .u8 d.half) hf rfl hb7 (RunV.load1 T_agg_5 rfl (hS.p 0 rfl) rfl) ?_; clear hf a; intro a hf; refine O.gcallR hf rfl rfl rfl hb7 rfl rfl (RunE.call (av:=#[.int .u8 d.half]) C_ok_35 rfl rfl rfl) (half_spec d.half _) ?_; clear hf a; rintro _ w8 hS1 a hf; replace hS:=hS.cl hS1; refine og (v:=.bool (!(halfB d.half))) hf rfl hb7 (RunV.not rfl) ?_; clear hf a; intro a hf; refine ov (v:=.bool (((decide (d.yr<(1800:Int)))||(decide (d.yr>(2099:Int))))||(!(halfB d.half)))) hf rfl (RunV.pick rfl rfl rfl (by rw [hb7]; rfl)) ?_; clear hf a; intro a hf; exact O.nil ⟨rfl,hf.q rfl,hS⟩
    clear hf hS a; rintro a w ⟨hf,hS⟩; refine mv hf rfl ?_; clear hf a; intro a hf
    refine O.cutN (l₁:=[15,16,17,18,19]) (l₂:=_) (fun a w=>Fr a 51 [] [(1,.pointer (some ⟨b_d1,0,none⟩)),(2,.int .i64 0),(21,.pointer (some ⟨b_d1,1,none⟩)),(22,.int .i64 d.yr),(23,.bool (decide (d.yr<(1800:Int)))),(24,.bool (decide (d.yr<(1800:Int)))),(28,.bool ((decide (d.yr<(1800:Int)))||(decide (d.yr>(2099:Int))))),(29,.bool ((decide (d.yr<(1800:Int)))||(decide (d.yr>(2099:Int))))),(34,.bool (((decide (d.yr<(1800:Int)))||(decide (d.yr>(2099:Int))))||(!(halfB d.half)))),(35,.bool (((decide (d.yr<(1800:Int)))||(decide (d.yr>(2099:Int))))||(!(halfB d.half)))),(40,.bool ((((decide (d.yr<(1800:Int)))||(decide (d.yr>(2099:Int))))||(!(halfB d.half)))||(!(orderB d.sec))))]∧St w0 w noX [] [pt b_d1 (.cells (aD d) 24 (0,0))]) rfl ?_ ?_
    · rcases Bool.eq_false_or_eq_true (((decide (d.yr<(1800:Int)))||(decide (d.yr>(2099:Int))))||(!(halfB d.half))) with hb9 | hb9
      · have hb9p:=hb9
        try simp only [Bool.and_eq_true,Bool.or_eq_true,Bool.and_eq_false_iff,Bool.or_eq_false_iff,decide_eq_true_eq,decide_eq_false_iff_not,Bool.not_eq_true',Bool.not_eq_false',Bool.not_eq_true,Bool.not_eq_false,ne_eq] at hb9p
        refine sk hf rfl hb9 fun a hf=>sk hf rfl hb9 fun a hf=>sk hf rfl hb9 fun a hf=>sk hf rfl hb9 fun a hf=>?_; refine ov (v:=.bool ((((decide (d.yr<(1800:Int)))||(decide (d.yr>(2099:Int))))||(!(halfB d.half)))||(!(orderB d.sec)))) hf rfl (RunV.pick rfl rfl rfl (by rw [hb9]; rfl)) ?_; clear hf a; intro a hf; exact O.nil ⟨rfl,hf.q rfl,hS⟩
      · have hb9p:=hb9
        try simp only [Bool.and_eq_true,Bool.or_eq_true,Bool.and_eq_false_iff,Bool.or_eq_false_iff,decide_eq_true_eq,decide_eq_false_iff_not,Bool.not_eq_true',Bool.not_eq_false',Bool.not_eq_true,Bool.not_eq_false,ne_eq] at hb9p
        refine og (v:=.pointer (some ⟨b_d1,3,none⟩)) hf rfl hb9 (RunV.field T_field_24_3 rfl rfl) ?_; clear hf a; intro a hf; refine og (v:=.int .u8 d.sec) hf rfl hb9 (RunV.load1 T_agg_5 rfl (hS.p 0 rfl) rfl) ?_; clear hf a; intro a hf; refine O.gcallR hf rfl rfl rfl hb9 rfl rfl (RunE.call (av:=#[.int .u8 d.sec]) C_ok_36 rfl rfl rfl) (orderl_spec d.sec _) ?_; clear hf a; rintro _ w10 hS1 a hf; replace hS:=hS.cl hS1; refine og (v:=.bool (!(orderB d.sec))) hf rfl hb9 (RunV.not rfl) ?_; clear hf a; intro a hf; refine ov (v:=.bool ((((decide (d.yr<(1800:Int)))||(decide (d.yr>(2099:Int))))||(!(halfB d.half)))||(!(orderB d.sec)))) hf rfl (RunV.pick rfl rfl rfl (by rw [hb9]; rfl)) ?_; clear hf a; intro a hf; exact O.nil ⟨rfl,hf.q rfl,hS⟩
    clear hf hS a; rintro a w ⟨hf,hS⟩; refine mv hf rfl ?_; clear hf a; intro a hf
    refine O.cutN (l₁:=[21,22,23,24]) (l₂:=_) (fun a w=>Fr a 51 [] [(1,.pointer (some ⟨b_d1,0,none⟩)),(2,.int .i64 0),(21,.pointer (some ⟨b_d1,1,none⟩)),(22,.int .i64 d.yr),(23,.bool (decide (d.yr<(1800:Int)))),(24,.bool (decide (d.yr<(1800:Int)))),(28,.bool ((decide (d.yr<(1800:Int)))||(decide (d.yr>(2099:Int))))),(29,.bool ((decide (d.yr<(1800:Int)))||(decide (d.yr>(2099:Int))))),(34,.bool (((decide (d.yr<(1800:Int)))||(decide (d.yr>(2099:Int))))||(!(halfB d.half)))),(35,.bool (((decide (d.yr<(1800:Int)))||(decide (d.yr>(2099:Int))))||(!(halfB d.half)))),(40,.bool ((((decide (d.yr<(1800:Int)))||(decide (d.yr>(2099:Int))))||(!(halfB d.half)))||(!(orderB d.sec)))),(41,.bool ((((decide (d.yr<(1800:Int)))||(decide (d.yr>(2099:Int))))||(!(halfB d.half)))||(!(orderB d.sec)))),(45,.bool (((((decide (d.yr<(1800:Int)))||(decide (d.yr>(2099:Int))))||(!(halfB d.half)))||(!(orderB d.sec)))||(decide (d.cyc<(0:Int)))))]∧St w0 w noX [] [pt b_d1 (.cells (aD d) 24 (0,0))]) rfl ?_ ?_
    · rcases Bool.eq_false_or_eq_true ((((decide (d.yr<(1800:Int)))||(decide (d.yr>(2099:Int))))||(!(halfB d.half)))||(!(orderB d.sec))) with hb11 | hb11
      · have hb11p:=hb11
        try simp only [Bool.and_eq_true,Bool.or_eq_true,Bool.and_eq_false_iff,Bool.or_eq_false_iff,decide_eq_true_eq,decide_eq_false_iff_not,Bool.not_eq_true',Bool.not_eq_false',Bool.not_eq_true,Bool.not_eq_false,ne_eq] at hb11p
        refine sk hf rfl hb11 fun a hf=>sk hf rfl hb11 fun a hf=>sk hf rfl hb11 fun a hf=>?_; refine ov (v:=.bool (((((decide (d.yr<(1800:Int)))||(decide (d.yr>(2099:Int))))||(!(halfB d.half)))||(!(orderB d.sec)))||(decide (d.cyc<(0:Int))))) hf rfl (RunV.pick rfl rfl rfl (by rw [hb11]; rfl)) ?_; clear hf a; intro a hf; exact O.nil ⟨rfl,hf.q rfl,hS⟩
      · have hb11p:=hb11
        try simp only [Bool.and_eq_true,Bool.or_eq_true,Bool.and_eq_false_iff,Bool.or_eq_false_iff,decide_eq_true_eq,decide_eq_false_iff_not,Bool.not_eq_true',Bool.not_eq_false',Bool.not_eq_true,Bool.not_eq_false,ne_eq] at hb11p
        refine og (v:=.pointer (some ⟨b_d1,4,none⟩)) hf rfl hb11 (RunV.field T_field_24_4 rfl rfl) ?_; clear hf a; intro a hf; refine og (v:=.int .i64 d.cyc) hf rfl hb11 (RunV.load1 T_agg_3 rfl (hS.p 0 rfl) rfl) ?_; clear hf a; intro a hf; refine og (v:=.bool (decide (d.cyc<(0:Int)))) hf rfl hb11 (RunV.lss rfl rfl) ?_; clear hf a; intro a hf; refine ov (v:=.bool (((((decide (d.yr<(1800:Int)))||(decide (d.yr>(2099:Int))))||(!(halfB d.half)))||(!(orderB d.sec)))||(decide (d.cyc<(0:Int))))) hf rfl (RunV.pick rfl rfl rfl (by rw [hb11]; rfl)) ?_; clear hf a; intro a hf; exact O.nil ⟨rfl,hf.q rfl,hS⟩
    clear hf hS a; rintro a w ⟨hf,hS⟩; refine mv hf rfl ?_; clear hf a; intro a hf
    refine O.cutN (l₁:=[26,27,28,29]) (l₂:=_) (fun a w=>Fr a 51 [] [(1,.pointer (some ⟨b_d1,0,none⟩)),(2,.int .i64 0),(21,.pointer (some ⟨b_d1,1,none⟩)),(22,.int .i64 d.yr),(23,.bool (decide (d.yr<(1800:Int)))),(24,.bool (decide (d.yr<(1800:Int)))),(28,.bool ((decide (d.yr<(1800:Int)))||(decide (d.yr>(2099:Int))))),(29,.bool ((decide (d.yr<(1800:Int)))||(decide (d.yr>(2099:Int))))),(34,.bool (((decide (d.yr<(1800:Int)))||(decide (d.yr>(2099:Int))))||(!(halfB d.half)))),(35,.bool (((decide (d.yr<(1800:Int)))||(decide (d.yr>(2099:Int))))||(!(halfB d.half)))),(40,.bool ((((decide (d.yr<(1800:Int)))||(decide (d.yr>(2099:Int))))||(!(halfB d.half)))||(!(orderB d.sec)))),(41,.bool ((((decide (d.yr<(1800:Int)))||(decide (d.yr>(2099:Int))))||(!(halfB d.half)))||(!(orderB d.sec)))),(45,.bool (((((decide (d.yr<(1800:Int)))||(decide (d.yr>(2099:Int))))||(!(halfB d.half)))||(!(orderB d.sec)))||(decide (d.cyc<(0:Int))))),(46,.bool (((((decide (d.yr<(1800:Int)))||(decide (d.yr>(2099:Int))))||(!(halfB d.half)))||(!(orderB d.sec)))||(decide (d.cyc<(0:Int))))),(50,.bool ((((((decide (d.yr<(1800:Int)))||(decide (d.yr>(2099:Int))))||(!(halfB d.half)))||(!(orderB d.sec)))||(decide (d.cyc<(0:Int))))||(decide (d.cyc>(619:Int)))))]∧St w0 w noX [] [pt b_d1 (.cells (aD d) 24 (0,0))]) rfl ?_ ?_
    · rcases Bool.eq_false_or_eq_true (((((decide (d.yr<(1800:Int)))||(decide (d.yr>(2099:Int))))||(!(halfB d.half)))||(!(orderB d.sec)))||(decide (d.cyc<(0:Int)))) with hb12 | hb12
      · have hb12p:=hb12
        try simp only [Bool.and_eq_true,Bool.or_eq_true,Bool.and_eq_false_iff,Bool.or_eq_false_iff,decide_eq_true_eq,decide_eq_false_iff_not,Bool.not_eq_true',Bool.not_eq_false',Bool.not_eq_true,Bool.not_eq_false,ne_eq] at hb12p
        refine sk hf rfl hb12 fun a hf=>sk hf rfl hb12 fun a hf=>sk hf rfl hb12 fun a hf=>?_; refine ov (v:=.bool ((((((decide (d.yr<(1800:Int)))||(decide (d.yr>(2099:Int))))||(!(halfB d.half)))||(!(orderB d.sec)))||(decide (d.cyc<(0:Int))))||(decide (d.cyc>(619:Int))))) hf rfl (RunV.pick rfl rfl rfl (by rw [hb12]; rfl)) ?_; clear hf a; intro a hf; exact O.nil ⟨rfl,hf.q rfl,hS⟩
      · have hb12p:=hb12
        try simp only [Bool.and_eq_true,Bool.or_eq_true,Bool.and_eq_false_iff,Bool.or_eq_false_iff,decide_eq_true_eq,decide_eq_false_iff_not,Bool.not_eq_true',Bool.not_eq_false',Bool.not_eq_true,Bool.not_eq_false,ne_eq] at hb12p
        refine og (v:=.pointer (some ⟨b_d1,4,none⟩)) hf rfl hb12 (RunV.field T_field_24_4 rfl rfl) ?_; clear hf a; intro a hf; refine og (v:=.int .i64 d.cyc) hf rfl hb12 (RunV.load1 T_agg_3 rfl (hS.p 0 rfl) rfl) ?_; clear hf a; intro a hf; refine og (v:=.bool (decide (d.cyc>(619:Int)))) hf rfl hb12 (RunV.gtr rfl rfl) ?_; clear hf a; intro a hf; refine ov (v:=.bool ((((((decide (d.yr<(1800:Int)))||(decide (d.yr>(2099:Int))))||(!(halfB d.half)))||(!(orderB d.sec)))||(decide (d.cyc<(0:Int))))||(decide (d.cyc>(619:Int))))) hf rfl (RunV.pick rfl rfl rfl (by rw [hb12]; rfl)) ?_; clear hf a; intro a hf; exact O.nil ⟨rfl,hf.q rfl,hS⟩
    clear hf hS a; rintro a w ⟨hf,hS⟩; refine nk ?_; refine W.if_ hf rfl (fun hb2=>?_) (fun hb2=>?_)
    · have hb2b:=hb2
      try simp only [Bool.and_eq_true,Bool.or_eq_true,Bool.and_eq_false_iff,Bool.or_eq_false_iff,decide_eq_true_eq,decide_eq_false_iff_not,Bool.not_eq_true',Bool.not_eq_false',Bool.not_eq_true,Bool.not_eq_false,ne_eq] at hb2
      refine W.seq ?_
      refine W.regionL (l:=[0]) rfl<|mv hf rfl<|?_; clear hf a; intro a hf; refine nk<|W.ret<|k_then_ret<|post1 hf rfl (ResOK.tmp rfl)<|?_; exact ⟨(),congrArg (fun x=>Ending.returned (Value.int .i64 x)) (by rw [okD_28 hr]; first | rw [if_pos hn,ck_bad1 hb1b]; rfl | rw [if_neg hn,ck_bad2 hb2b]; rfl),hS.sub (List.nil_sublist _) |>.noB⟩
    · have hb2b:=hb2
      try simp only [Bool.and_eq_true,Bool.or_eq_true,Bool.and_eq_false_iff,Bool.or_eq_false_iff,decide_eq_true_eq,decide_eq_false_iff_not,Bool.not_eq_true',Bool.not_eq_false',Bool.not_eq_true,Bool.not_eq_false,ne_eq] at hb2
      refine W.skip<|k_seq<|W.seq<|?_
      refine W.regionL (l:=[0]) rfl<|mv hf rfl<|?_; clear hf a; intro a hf; refine nk<|W.ret<|post1 hf rfl (ResOK.tmp rfl)<|?_; exact ⟨(),congrArg (fun x=>Ending.returned (Value.int .i64 x)) (by rw [okD_28 hr]; first | rw [if_pos hn,ck_ok1 hb1b]; rfl | rw [if_neg hn,ck_ok2 hb2b]; rfl),hS.sub (List.nil_sublist _) |>.noB⟩
end Go.Proofs.YtgakdmmmljdpjaaDoor

namespace Go.SL
open Go
def eP (p:Int × Int):List Value:=[.int .i64 p.1,.int .i64 p.2]
def addC (d:Dg):Ch:=⟨1,d,default,0⟩
def oneG (d:Dg):PG:=([d],false)
theorem add_step {S:List PG} {d:Dg}:stepM S (addC d)=(match findG S d with | some _=>.error 14 | none=>.ok (oneG d::S)):=by
  unfold stepM addM addC oneG
  simp only [if_true]
  cases findG S d <;> rfl
theorem add_err:∀ {t:List Dg} {S:List PG} {e:Int},runL S (t.map addC)=.error e→e=14
  | [],S,e,h=>by cases h
  | d::t,S,e,h=>by
    simp only [List.map_cons,runL,add_step] at h
    cases hf:findG S d with
    | some _=>rw [hf] at h; cases h; rfl
    | none=>rw [hf] at h; exact add_err h
theorem add_ok:∀ {t:List Dg} {S S':List PG},runL S (t.map addC)=.ok S'→S'=(t.map oneG).reverse++S
  | [],S,S',h=>by cases h; rfl
  | d::t,S,S',h=>by
    simp only [List.map_cons,runL,add_step] at h
    cases hf:findG S d with
    | some _=>rw [hf] at h; cases h
    | none =>
      rw [hf] at h
      rw [add_ok h]
      simp
def togS (S:List PG) (a b:Dg):Prop:=∃ p ∈ S,a ∈ p.1∧b ∈ p.1
def Eqv (qs:List (Dg × Dg)) (a b:Dg):Prop:=∀ r:Dg→Dg→Prop,(∀ x,r x x)→(∀ x y,r x y→r y x)→(∀ x y z,r x y→r y z→r x z)→(∀ q ∈ qs,r q.1 q.2)→r a b
section
variable {qs qs':List (Dg × Dg)} {a b c x y:Dg}
theorem Eqv.refl:Eqv qs a a:=fun r h1 _ _ _=>h1 a
theorem Eqv.symm (h:Eqv qs a b):Eqv qs b a:=fun r h1 h2 h3 h4=>h2 _ _ (h r h1 h2 h3 h4)
theorem Eqv.trans (h:Eqv qs a b) (h':Eqv qs b c):Eqv qs a c:=fun r h1 h2 h3 h4=>h3 _ _ _ (h r h1 h2 h3 h4) (h' r h1 h2 h3 h4)
theorem Eqv.of (h:(a,b) ∈ qs):Eqv qs a b:=fun r _ _ _ h4=>h4 _ h
theorem Eqv.mono (hs:∀ q ∈ qs,Eqv qs' q.1 q.2) (h:Eqv qs a b):Eqv qs' a b:=h (Eqv qs') (fun _=>.refl) (fun _ _=>.symm) (fun _ _ _=>.trans) hs
theorem Eqv.nil (h:Eqv [] a b):a=b:=h Eq (fun _=>rfl) (fun _ _ h=>h.symm) (fun _ _ _ h h'=>h.trans h') (fun q hq=>by cases hq)
end
structure OrdI (l:List Dg) (qs:List (Dg × Dg)) (fw:List Ch) (S:List PG) (us:List Bool):Prop where
  hist:histM fw=.ok (S,us)
  mem:∀ q ∈ qs,q.1 ∈ l∧q.2 ∈ l
  cov:∀ d ∈ l,∃ p ∈ S,d ∈ p.1
  inn:∀ p ∈ S,∀ d ∈ p.1,d ∈ l
  num:∀ p ∈ S,p.2=false
  tog:∀ a ∈ l,∀ b ∈ l,togS S a b↔Eqv qs a b
  cnt:fw.length+S.length=2*l.length
section
variable {l:List Dg} {qs qs2:List (Dg × Dg)} {fw bw:List Ch} {S T:List PG} {us vs:List Bool} {x y:Dg}
def JnR (fw:List Ch) (c:Ch) (e:Int) (R:List Ch):Prop:=(e=0∧R=fw++[c]∧∃ S us,appM fw c=.ok (S,us))∨(e=36∧R=[]∧appM fw c=.error 36)
theorem sortDs_perm {l m:List Dg} (h:l.Perm m):sortDs l=sortDs m:=sortDs_eq (h.trans (List.mergeSort_perm m _).symm) ((sort_pair m).imp fun {a b} hab=>by
  unfold ltD
  rw [decide_eq_false_iff_not,cmpD_anti]
  omega)
theorem objP_nodup (hw:wfS S):(S.map objP).Nodup:=by
  rw [List.nodup_iff_pairwise_ne,List.pairwise_map]
  refine List.Pairwise.imp_of_mem ?_ hw.1
  intro a b ha hb hab he
  have h4:=hd_mem (hw.2 a ha).1
  have h5:=hd_mem (hw.2 b hb).1
  have he2:(sortDs a.1).getD 0 default=(sortDs b.1).getD 0 default:=congrArg Prod.fst he
  rw [← he2] at h5
  exact hab _ h4 h5
def fP (l:List Dg) (p:Int × Int):Dg × Dg:=(l.getD p.1.toNat default,l.getD p.2.toNat default)
def bP (l:List Dg) (p:Int × Int):Dg × Dg:=(l.getD p.2.toNat default,l.getD p.1.toNat default)
end
end Go.SL
namespace Go.Proofs.YtgakdmmmljdpjaaDoor
open Go Go.SL
end Go.Proofs.YtgakdmmmljdpjaaDoor

namespace Go.SL
open Go
def n1:Dg:=⟨1,0,0,0,0⟩
def plusC:Ch:=⟨1,nameD 67,default,0⟩
def firstL:List Ch:=[⟨1,nameD 65,default,0⟩,⟨1,nameD 66,default,0⟩,undoC 0,⟨1,nameD 65,default,0⟩]
end Go.SL
namespace Go.Proofs.YtgakdmmmljdpjaaDoor
open Go Go.SL
end Go.Proofs.YtgakdmmmljdpjaaDoor

set_option maxHeartbeats 1000000
set_option maxRecDepth 8000
namespace Go.Proofs.YtgakdmmmljdpjaaDoor
open Go Go.SL
end Go.Proofs.YtgakdmmmljdpjaaDoor
