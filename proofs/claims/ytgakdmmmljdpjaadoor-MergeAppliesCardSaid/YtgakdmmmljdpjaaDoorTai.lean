/- Part of a proof: laws and walks. -/
import Derived.Test.YtgakdmmmljdpjaaDoorTac
import Derived.Test.YtgakdmmmljdpjaaDoorTah
import Derived.Test.YtgakdmmmljdpjaaDoorTae
import Derived.Test.YtgakdmmmljdpjaaDoorLay
import Derived.Maps.RangeRun
set_option linter.unusedVariables false
set_option linter.unusedSimpArgs false
set_option maxHeartbeats 1000000
set_option maxRecDepth 8000
namespace Go.Proofs.YtgakdmmmljdpjaaDoor
open Go Go.SL
theorem T_size_3:tSize Tryd.prog 3=some 1:=by kernel_rfl
end Go.Proofs.YtgakdmmmljdpjaaDoor

namespace Go.SL
open Go Go.Proofs Go.Shelf Go.RowKit Go.Sort Go.Lib
abbrev OkD:={d:Dg // okD d=true}
instance:Inhabited OkD:=⟨⟨⟨1,0,0,0,0⟩,by decide⟩⟩
def sortDs (l:List Dg):List Dg:=l.mergeSort fun x y=>!ltD y x
def tagD (l:List Dg) (h:∀ d ∈ l,okD d=true):List OkD:=l.pmap (fun d hd=>⟨d,hd⟩) h
def oV (d:Dg) (v:Value):Value:=.agg #[.int .i64 d.num,.int .i64 d.yr,.int .u8 d.half,.int .u8 d.sec,.int .i64 d.cyc,v]
end Go.SL
namespace Go.Proofs.YtgakdmmmljdpjaaDoor
open Go Go.SL Go.Proofs Go.Shelf Go.RowKit Go.Sort Go.Lib
end Go.Proofs.YtgakdmmmljdpjaaDoor

set_option maxHeartbeats 1000000
set_option maxRecDepth 8000
namespace Go.Proofs.YtgakdmmmljdpjaaDoor
open Go Go.SL
theorem T_agg_46:tAgg Tryd.prog 46=some true:=by kernel_rfl
theorem T_bytes_26:tBytes Tryd.prog 26=some 80:=by kernel_rfl
theorem T_places_46:tPlaces Tryd.prog 46=some #[(0,5),(5,1)]:=by kernel_rfl
theorem T_size_46:tSize Tryd.prog 46=some 6:=by kernel_rfl
theorem T_zero_46:tZero Tryd.prog 46=some (.agg #[.int .i64 0,.int .i64 0,.int .u8 0,.int .u8 0,.int .i64 0,.slice none 0 0]):=by kernel_rfl
set_option maxHeartbeats 400000 in
set_option maxRecDepth 4000 in
theorem cloneC_some (vl:Value) (l:List Ch) (ad:Addr) (c:Nat) (w0:World) (hv:vl=.slice (some ad) l.length c) (hfit:vfit vl) (hl:rdOK (hp w0) 12 vl l.length (encs eC l)) (hz:l.length≤1000000) :
    Ret Tryd.prog 33 #[vl] w0 (G:=Value) (fun g=>g) (fun g w=>St w0 w noX [] [slE 26 12 eC g l]):=by
  refine ret_of_W (lv:=[vl]) Tryd.func33 rfl rfl rfl (fun a hf=>?_); replace hf:Fr a 8 [] [(0,vl)]:=hf; have hS:St w0 w0 noX [rdv 12 vl l.length (encs eC l)] []:=(St.refl w0).lend0 hl; have hlm:=hl.2.1; refine W.seq ?_
  refine W.regionL (l:=[0]) rfl<|mv hf rfl<|?_; clear hf a; intro a hf; refine nk<|W.seq<|W.seq<|?_
  refine W.regionL (l:=[0,1]) rfl<|mv hf rfl<|?_; clear hf a; intro a hf; refine ov hf rfl (RunV.eqNil2 T_elem_22 hv rfl rfl) ?_; clear hf a; intro a hf; refine nk<|W.if_ff hf rfl<|W.skip<|k_seq<|W.seq<|?_
  refine W.regionL (l:=[0,1,2,3]) rfl<|O.buildSlice0 hf hS rfl rfl T_elem_22 T_size_26 rfl<|?_; intro b_s1 w a hbb_s1 hS hf; refine mv hf rfl ?_; clear hf a; intro a hf; replace hS:=hS.eqM (N:=[slE 26 12 eC (.slice (some ⟨b_s1,0,none⟩) 0 0) ([]:List _)]) rfl; refine O.appendEV (j:=0) (enc:=eC) (l:=[]) (m:=l) (l':=l) hf hS rfl rfl T_elem_22 T_size_26 T_bytes_26 T_zero_26 rfl rfl rfl rfl rfl ⟨hS.rdAt (j:=0) rfl,hfit⟩ (fun _=>rfl) (by simp) (by omega) rfl (List.nil_append _) ?_; intro v2 w a hS hf; refine mv hf rfl ?_; clear hf a; intro a hf; refine nk<|W.ret<|post1 hf rfl (ResOK.tmp rfl)<|?_; exact ⟨_,rfl,(hS.sub (by simp)).noB⟩
end Go.Proofs.YtgakdmmmljdpjaaDoor

namespace Go.SL
open Go
def codeOK (e:Int):Prop:=e=4∨e=6∨e=8∨e=14∨e=36
theorem stepM_code {S:List PG} {c:Ch} {e:Int} (h:stepM S c=.error e):codeOK e:=by
  unfold stepM at h
  unfold codeOK
  split at h
  · unfold addM at h; split at h <;> cases h; omega
  · split at h
    · unfold joinM at h
      split at h
      · split at h <;> cases h; omega
      · cases h; omega
    · unfold nameM at h
      split at h
      · cases h; omega
      · split at h
        · cases h; omega
        · split at h <;> cases h; omega
theorem playK_code {l:List Ch} {us:List Bool} {e:Int}:∀ {k:Nat},playK l us k=.error e→codeOK e
  | 0,h=>by cases h
  | k+1,h=>by
    unfold playK at h
    split at h
    · rename_i he
      cases h
      exact playK_code he
    · split at h
      · exact stepM_code h
      · cases h
theorem undoK_code {l:List Ch} {e:Int}:∀ {k:Nat},undoK l k=.error e→codeOK e
  | 0,h=>by cases h
  | k+1,h=>by
    unfold undoK at h
    split at h
    · rename_i he
      cases h
      exact undoK_code he
    · split at h
      · cases h
      · split at h
        · rename_i he; cases h; exact playK_code he
        · split at h
          · split at h
            · split at h
              · cases h; unfold codeOK; omega
              · cases h
            · cases h; unfold codeOK; omega
          · cases h; unfold codeOK; omega
theorem histM_code {l:List Ch} {e:Int} (h:histM l=.error e):codeOK e:=by
  unfold histM at h
  split at h
  · cases h; unfold codeOK; omega
  · split at h
    · split at h
      · rename_i he; cases h; exact undoK_code he
      · split at h
        · rename_i he; cases h; exact playK_code he
        · cases h
    · cases h; unfold codeOK; omega
theorem histM_ne {l:List Ch} {e:Int} (h:histM l=.error e):e≠0:=by
  have:=histM_code h
  unfold codeOK at this
  omega
end Go.SL
namespace Go.Proofs.YtgakdmmmljdpjaaDoor
open Go Go.SL
theorem checkC_ok (c:Ch) (w0:World) (hG:Lent w0 ordA) (hc:okC c=true):Ret Tryd.prog 25 #[cV c] w0 (G:=Unit) (fun _=>.int .i64 0) (fun _ w=>St w0 w noX [] []):=by
  have h:=checkC_spec c w0 hG
  rw [hc] at h
  exact h
theorem checkC_bad (c:Ch) (w0:World) (hG:Lent w0 ordA) (hc:okC c=false):Ret Tryd.prog 25 #[cV c] w0 (G:=Unit) (fun _=>.int .i64 8) (fun _ w=>St w0 w noX [] []):=by
  have h:=checkC_spec c w0 hG
  rw [hc] at h
  exact h
theorem history_err (vl:Value) (l:List Ch) (w0:World) (hG:Lent w0 ordA) (hl:rdOK (hp w0) 12 vl l.length (encs eC l)) (hfit:vfit vl) {e:Int} (hm:histM l=.error e) :
    Ret Tryd.prog 32 #[vl] w0 (G:=Unit) (fun _=>.tuple #[.map none,.slice none 0 0,.int .i64 e]) (fun _ w=>St w0 w noX [] []):=by
  refine Calls.mono (history_spec vl l w0 hG hl hfit) ?_
  rintro e' w ⟨g,rfl,h⟩
  unfold HistR at h
  rw [hm] at h
  obtain ⟨h1,h2,h3⟩:=h
  refine ⟨(),?_,h3⟩
  show Ending.returned (Value.tuple #[g.1,g.2.1,.int .i64 (errOf (histM l))])=_
  rw [h1,h2,hm]
  rfl
theorem history_ok (vl:Value) (l:List Ch) (w0:World) (hG:Lent w0 ordA) (hl:rdOK (hp w0) 12 vl l.length (encs eC l)) (hfit:vfit vl) {S:List PG} {us:List Bool} (hm:histM l=.ok (S,us)) :
    Ret Tryd.prog 32 #[vl] w0 (G:=Value × Nat × List (Dg × Value) × List Grp) (fun g=>.tuple #[.map (some g.2.1),g.1,.int .i64 0])
      (fun g w=>St w0 w noX [] [stA 95 24 g.2.1 g.2.2.1 g.2.2.2,sl 4 1 g.1 us.length (bools us)]∧IsS g.2.2.1 g.2.2.2 S):=by
  refine Calls.mono (history_spec vl l w0 hG hl hfit) ?_
  rintro e' w ⟨⟨v1,v2,bm,kvs,gs⟩,rfl,h⟩
  unfold HistR at h
  rw [hm] at h
  obtain ⟨h1,h2,h3⟩:=h
  refine ⟨(v2,bm,kvs,gs),?_,h2,h3⟩
  simp only at h1
  rw [h1,hm]
  rfl
end Go.Proofs.YtgakdmmmljdpjaaDoor

set_option maxHeartbeats 1000000
set_option maxRecDepth 8000
namespace Go.Proofs.YtgakdmmmljdpjaaDoor
open Go Go.SL
theorem C_ok_32:callOK Tryd.prog 32=true:=by kernel_rfl
set_option maxHeartbeats 400000 in
set_option maxRecDepth 4000 in
theorem apply_err (vl:Value) (l:List Ch) (c:Ch) (w0:World) (hG:Lent w0 ordA) (hl:rdOK (hp w0) 12 vl l.length (encs eC l)) (hfit:vfit vl) (e:Int) (hm:histM l=.error e) :
    Ret Tryd.prog 11 #[vl,.agg (aC c)] w0 (G:=Unit) (fun _=>.tuple #[.slice none 0 0,.int .i64 e]) (fun _ w=>St w0 w noX [] []):=by
  refine ret_of_W (lv:=[vl,.agg (aC c)]) Tryd.func11 rfl rfl rfl (fun a hf=>?_); replace hf:Fr a 43 [] [(0,vl),(1,.agg (aC c))]:=hf; have hS:St w0 w0 noX [ordA,rdv 12 vl l.length (encs eC l)] []:=((St.refl w0).lend0 hl).lendA hG; have hlm:=hl.2.1; unfold maxLen at hlm; have he0:=histM_ne hm; refine W.seq ?_
  refine W.regionL (l:=[0,1,2]) rfl<|O.box (cs:=(aC c)) hf hS rfl rfl rfl rfl<|?_; intro b_c1 w a hbb_c1 hS hf; refine mv hf rfl ?_; clear hf a; intro a hf; refine mv hf rfl ?_; clear hf a; intro a hf; refine nk<|W.seq<|W.seq<|?_
  refine W.regionL (l:=[0,1,2,3,4,5,6,7,8]) rfl<|mv hf rfl<|?_; clear hf a; intro a hf; refine oc hf rfl C_ok_32 (history_err vl l _ (hS.bptO (i:=0) rfl) (hS.rdAt (j:=1) rfl) hfit hm) ?_; clear hf a; rintro _ w2 hS1 a hf; replace hS:=hS.cl hS1; refine mv hf rfl ?_; clear hf a; intro a hf; refine ov hf rfl (RunV.extract rfl rfl) ?_; clear hf a; intro a hf; refine ov hf rfl (RunV.extract rfl rfl) ?_; clear hf a; intro a hf; refine ov hf rfl (RunV.extract rfl rfl) ?_; clear hf a; intro a hf; refine mv hf rfl ?_; clear hf a; intro a hf; refine mv hf rfl ?_; clear hf a; intro a hf; refine mv hf rfl ?_; clear hf a; intro a hf; refine nk<|W.seq<|?_
  refine W.regionL (l:=[0,1]) rfl<|mv hf rfl<|?_; clear hf a; intro a hf; refine ov (v:=.bool (decide (e≠(0:Int)))) hf rfl (RunV.neq rfl rfl) ?_; clear hf a; intro a hf; refine nk ?_; refine W.ifdI hf rfl (fun h1=>?_) (fun h1=>?_)
  · refine W.seq ?_
    refine W.regionL (l:=[0,1,2]) rfl<|mv hf rfl<|?_; clear hf a; intro a hf; refine mv hf rfl ?_; clear hf a; intro a hf; refine mv hf rfl ?_; clear hf a; intro a hf; refine nk<|W.ret<|k_then_ret<|post2 hf rfl (ResOK.tmp rfl) (ResOK.tmp rfl)<|?_; exact ⟨(),rfl,hS.sub (List.nil_sublist _) |>.noB⟩
  · exact absurd he0 h1
set_option maxHeartbeats 400000 in
set_option maxRecDepth 4000 in
theorem apply_bad (vl:Value) (l:List Ch) (c:Ch) (w0:World) (hG:Lent w0 ordA) (hl:rdOK (hp w0) 12 vl l.length (encs eC l)) (hfit:vfit vl) (S:List PG) (us:List Bool) (hm:histM l=.ok (S,us)) (hc:okC c=false) :
    Ret Tryd.prog 11 #[vl,.agg (aC c)] w0 (G:=Unit) (fun _=>.tuple #[.slice none 0 0,.int .i64 8]) (fun _ w=>St w0 w noX [] []):=by
  refine ret_of_W (lv:=[vl,.agg (aC c)]) Tryd.func11 rfl rfl rfl (fun a hf=>?_); replace hf:Fr a 43 [] [(0,vl),(1,.agg (aC c))]:=hf; have hS:St w0 w0 noX [ordA,rdv 12 vl l.length (encs eC l)] []:=((St.refl w0).lend0 hl).lendA hG; have hlm:=hl.2.1; unfold maxLen at hlm; refine W.seq ?_
  refine W.regionL (l:=[0,1,2]) rfl<|O.box (cs:=(aC c)) hf hS rfl rfl rfl rfl<|?_; intro b_c1 w a hbb_c1 hS hf; refine mv hf rfl ?_; clear hf a; intro a hf; refine mv hf rfl ?_; clear hf a; intro a hf; refine nk<|W.seq<|W.seq<|?_
  refine W.regionL (l:=[0,1,2,3,4,5,6,7,8]) rfl<|mv hf rfl<|?_; clear hf a; intro a hf; refine oc hf rfl C_ok_32 (history_ok vl l _ (hS.bptO (i:=0) rfl) (hS.rdAt (j:=1) rfl) hfit hm) ?_; clear hf a; rintro ⟨uv,bm,kvs,gs⟩ w2 ⟨hS1,hI⟩ a hf; replace hS:=hS.cl hS1; refine mv hf rfl ?_; clear hf a; intro a hf; refine ov hf rfl (RunV.extract rfl rfl) ?_; clear hf a; intro a hf; refine ov hf rfl (RunV.extract rfl rfl) ?_; clear hf a; intro a hf; refine ov hf rfl (RunV.extract rfl rfl) ?_; clear hf a; intro a hf; refine mv hf rfl ?_; clear hf a; intro a hf; refine mv hf rfl ?_; clear hf a; intro a hf; refine mv hf rfl ?_; clear hf a; intro a hf; refine nk<|W.seq<|?_
  refine W.regionL (l:=[0,1]) rfl<|mv hf rfl<|?_; clear hf a; intro a hf; refine ov hf rfl (RunV.toB (c:=false) (RunV.neq rfl rfl) (by decide)) ?_; clear hf a; intro a hf; refine nk<|W.if_ff hf rfl<|W.skip<|k_seq<|W.seq<|W.seq<|?_
  refine W.regionL (l:=[0,1,2]) rfl<|ov hf rfl (RunV.loadN (cs':=(aC c)) T_agg_26 T_size_26 rfl (hS.p 2 rfl) (bl rfl) rfl)<|?_; clear hf a; intro a hf; refine oc hf rfl C_ok_25 (checkC_bad c _ (hS.bptO (i:=0) rfl) hc) ?_; clear hf a; rintro _ w3 hS1 a hf; replace hS:=hS.cl hS1; refine mv hf rfl ?_; clear hf a; intro a hf; refine nk<|W.seq<|?_
  refine W.regionL (l:=[0,1]) rfl<|mv hf rfl<|?_; clear hf a; intro a hf; refine ov hf rfl (RunV.toB (c:=true) (RunV.neq rfl rfl) (by decide)) ?_; clear hf a; intro a hf; refine nk<|W.if_tt hf rfl<|W.seq<|?_
  refine W.regionL (l:=[0,1,2]) rfl<|mv hf rfl<|?_; clear hf a; intro a hf; refine mv hf rfl ?_; clear hf a; intro a hf; refine mv hf rfl ?_; clear hf a; intro a hf; refine nk<|W.ret<|k_then_ret<|post2 hf rfl (ResOK.tmp rfl) (ResOK.tmp rfl)<|?_; exact ⟨(),rfl,hS.sub (List.nil_sublist _) |>.noB⟩
end Go.Proofs.YtgakdmmmljdpjaaDoor

namespace Go.SL
open Go Go.Proofs Go.Shelf Go.RowKit Go.Sort Go.Lib
structure Ob where
  p:Dg
  ad:Option Addr
  n:Nat
  c:Nat
  l:List Dg
def Ob.v (o:Ob):Value:=.slice o.ad o.n o.c
def eO (o:Ob):List Value:=[.int .i64 o.p.num,.int .i64 o.p.yr,.int .u8 o.p.half,.int .u8 o.p.sec,.int .i64 o.p.cyc,.slice o.ad o.n o.c]
instance:Inhabited Ob:=⟨⟨⟨1,0,0,0,0⟩,none,0,0,[]⟩⟩
theorem eO_len (o:Ob):(eO o).length=6:=rfl
end Go.SL

namespace Go.SL
open Go Go.ChangeMaps
section
variable {K:Type} {kE:K→Value}
def rgOK (kE:K→Value) (h:Hp) (b r:Nat) (kvs todo:List (K × Value)) (last:Option (K × Value)):Prop :=
  ∃ es clock since seen c0,h b=some (.map es clock)∧es.toList.map (fun e=>(e.key,e.val))=kvs.map (fun p=>(kE p.1,p.2))∧(∀ e ∈ es.toList,e.born<since)∧(es.toList.map (·.born)).Nodup ∧
    h r=some (.mapIter (some b) since seen c0)∧since≤c0∧since≤clock∧(leftOf es seen).toList.map (fun e=>(e.key,e.val))=todo.map (fun p=>(kE p.1,p.2)) ∧
    ∀ p,last=some p→∃ e ∈ es.toList,∃ seen':Array Nat,seen=seen'.push e.born∧c0=clock∧e.key=kE p.1∧e.val=p.2
def rgA (kE:K→Value) (b r:Nat) (kvs todo:List (K × Value)) (last:Option (K × Value)):Asr :=
  ⟨fun k=>k=b∨k=r,fun h=>rgOK kE h b r kvs todo last,fun h h' hk ⟨es,clock,since,seen,c0,h1,h2,h3,h4,h5,h6⟩=>⟨es,clock,since,seen,c0,by rw [hk b (.inl rfl)]; exact h1,h2,h3,h4,by rw [hk r (.inr rfl)]; exact h5,h6⟩⟩
end
section
variable {K:Type} {kE:K→Value} {kvs todo:List (K × Value)} {last:Option (K × Value)}
variable {rr:Option Nat} {P:Program} {ops:Array Oper} {Q:Exit→Act→World→Prop} {a:Act} {w w0:World} {n:Nat} {ds:List Deferred} {L:List (Nat × Value)} {X:Nat→Prop} {B M M':List Asr}
  {d i j b r:Nat} {ty t kt et:TypeId} {pos:String} {af:Array Edge} {rest:List Nat} {x:Operand}
end
end Go.SL

set_option maxHeartbeats 1000000
set_option maxRecDepth 8000
namespace Go.Proofs.YtgakdmmmljdpjaaDoor
open Go Go.SL
theorem T_field_46_0:tField Tryd.prog 46 0=some 0:=by kernel_rfl
end Go.Proofs.YtgakdmmmljdpjaaDoor

namespace Go.SL
open Go Go.Proofs Go.Shelf Go.RowKit Go.Sort Go.Lib
def ltO (a b:Ob):Bool:=decide (cmpD a.p b.p<0)
def sortOs (l:List Ob):List Ob:=l.mergeSort fun x y=>!ltO y x
abbrev InL (ys:List Ob):={o:Ob // o ∈ ys}
def tagO (ys l:List Ob) (h:∀ o ∈ l,o ∈ ys):List (InL ys):=l.pmap (fun d hd=>⟨d,hd⟩) h
end Go.SL
namespace Go.Proofs.YtgakdmmmljdpjaaDoor
open Go Go.SL Go.Proofs Go.Shelf Go.RowKit Go.Sort Go.Lib
end Go.Proofs.YtgakdmmmljdpjaaDoor

namespace Go.SL
open Go
def obOf (g:Grp):Dg × List Dg:=((sortDs g.all).getD 0 default,sortDs g.all)
structure RunI (gs done:List Grp) (kvs todo:List (Dg × Value)) (sk:List (Nat × Value)) (os:List Ob):Prop where
  sub:∀ g ∈ done,g ∈ gs
  nd:(done.map (·.blk)).Nodup
  ob:os.map (fun o=>(o.p,o.l))=done.map obOf
  seen:∀ b,getP b sk=if b ∈ done.map (·.blk) then some (.bool true) else none
  keys:∀ p ∈ sk,p.1 ∈ done.map (·.blk)
  left:∀ p ∈ kvs,p ∈ todo∨∃ g ∈ done,p.2=ptrV g.blk
  inn:∀ p ∈ todo,∃ g ∈ gs,p.2=ptrV g.blk
theorem RunI.start {gs:List Grp} {kvs:List (Dg × Value)} (hL:Look kvs gs):RunI gs [] kvs kvs [] [] :=
  ⟨by simp,by simp,rfl,fun b=>rfl,by simp,fun p hp=>.inl hp,fun p hp=>by
    have h1:getP p.1 kvs=some p.2:=mem_getP hL.keys hp
    by_cases h:∃ g ∈ gs,p.1 ∈ g.all
    · obtain ⟨g,hg,hd⟩:=h
      have h2:=hL.hit g hg p.1 hd
      rw [h1] at h2
      exact ⟨g,hg,Option.some.inj h2⟩
    · have h2:=hL.miss p.1 fun g hg hd=>h ⟨g,hg,hd⟩
      rw [h1] at h2
      cases h2⟩
theorem ptrV_inj {a b:Nat} (h:ptrV a=ptrV b):a=b:=by
  unfold ptrV at h
  injection h with h
  injection h with h
  injection h
theorem RunI.old {gs done:List Grp} {kvs s t:List (Dg × Value)} {p:Dg × Value} {sk:List (Nat × Value)} {os:List Ob} {g:Grp} (h:RunI gs done kvs (s++p::t) sk os) (hp:p.2=ptrV g.blk) (hm:getP g.blk sk=some (.bool true)):RunI gs done kvs (s++t) sk os :=
  ⟨h.sub,h.nd,h.ob,h.seen,h.keys,fun q hq=>by
    rcases h.left q hq with h1 | h1
    · rcases List.mem_append.1 h1 with h2 | h2
      · exact .inl (List.mem_append.2 (.inl h2))
      · rcases List.mem_cons.1 h2 with rfl | h2
        · refine .inr ?_
          have:=h.seen g.blk
          rw [hm] at this
          split at this
          · rename_i hb
            obtain ⟨g',hg',he⟩:=List.mem_map.1 hb
            exact ⟨g',hg',by rw [hp,he]⟩
          · cases this
        · exact .inl (List.mem_append.2 (.inr h2))
    · exact .inr h1,fun q hq=>h.inn q ((List.mem_append.1 hq).elim (fun h=>List.mem_append.2 (.inl h)) (fun h=>List.mem_append.2 (.inr (List.mem_cons_of_mem _ h))))⟩
theorem setP_key {K:Type} [DecidableEq K] {k:K} {v:Value}:∀ {l:List (K × Value)} {q:K × Value},q ∈ setP k v l→q.1=k∨∃ q' ∈ l,q'.1=q.1
  | [],q,h=>by simp only [setP,List.mem_singleton] at h; subst h; exact .inl rfl
  | x::t,q,h=>by
    simp only [setP] at h
    split at h
    · rename_i hk
      rcases List.mem_cons.1 h with rfl | h
      · exact .inl rfl
      · exact .inr ⟨q,List.mem_cons_of_mem _ h,rfl⟩
    · rcases List.mem_cons.1 h with rfl | h
      · exact .inr ⟨_,List.mem_cons_self,rfl⟩
      · rcases setP_key h with h1 | ⟨q',h1,h2⟩
        · exact .inl h1
        · exact .inr ⟨q',List.mem_cons_of_mem _ h1,h2⟩
theorem RunI.new {gs done:List Grp} {kvs s t:List (Dg × Value)} {p:Dg × Value} {sk:List (Nat × Value)} {os:List Ob} {g:Grp} {o:Ob} (h:RunI gs done kvs (s++p::t) sk os) (hg:g ∈ gs) (hp:p.2=ptrV g.blk) (hm:getP g.blk sk=none) (ho:(o.p,o.l)=obOf g) :
    RunI gs (done++[g]) kvs (s++t) (setP g.blk (.bool true) sk) (os++[o]):=by
  have hnm:g.blk ∉ done.map (·.blk):=by
    intro hb
    have:=h.seen g.blk
    rw [hm,if_pos hb] at this
    cases this
  refine ⟨fun q hq=>?_,?_,?_,fun b=>?_,fun q hq=>?_,fun q hq=>?_,fun q hq=>h.inn q ((List.mem_append.1 hq).elim (fun h=>List.mem_append.2 (.inl h)) (fun h=>List.mem_append.2 (.inr (List.mem_cons_of_mem _ h))))⟩
  · rcases List.mem_append.1 hq with hq | hq
    · exact h.sub q hq
    · rw [List.mem_singleton.1 hq]; exact hg
  · rw [List.map_append,List.nodup_append]
    exact ⟨h.nd,by simp,fun a ha b hb e=>by simp only [List.map_cons,List.map_nil,List.mem_singleton] at hb; subst hb; subst e; exact hnm ha⟩
  · rw [List.map_append,List.map_append,h.ob]
    simp only [List.map_cons,List.map_nil,ho]
  · rw [getP_setP,h.seen,List.map_append]
    by_cases hb:b=g.blk
    · rw [if_pos hb,if_pos (by simp [hb])]
    · rw [if_neg hb]
      by_cases h2:b ∈ done.map (·.blk)
      · rw [if_pos h2,if_pos (List.mem_append.2 (.inl h2))]
      · rw [if_neg h2,if_neg (fun h3=>(List.mem_append.1 h3).elim h2 (fun h4=>hb (by simpa using h4)))]
  · rw [List.map_append]
    rcases setP_key hq with h1 | ⟨q',h1,h2⟩
    · exact List.mem_append.2 (.inr (by simp [h1]))
    · exact List.mem_append.2 (.inl (h2▸h.keys q' h1))
  · rcases h.left q hq with h1 | ⟨g',h1,h2⟩
    · rcases List.mem_append.1 h1 with h2 | h2
      · exact .inl (List.mem_append.2 (.inl h2))
      · rcases List.mem_cons.1 h2 with rfl | h2
        · exact .inr ⟨g,by simp,hp⟩
        · exact .inl (List.mem_append.2 (.inr h2))
    · exact .inr ⟨g',List.mem_append.2 (.inl h1),h2⟩
theorem nodup_of_map {T U:Type} {f:T→U} {l:List T} (h:(l.map f).Nodup):l.Nodup:=by
  rw [List.nodup_iff_pairwise_ne] at h ⊢
  rw [List.pairwise_map] at h
  exact h.imp fun hne e=>hne (by rw [e])
theorem RunI.all {gs done:List Grp} {kvs:List (Dg × Value)} {sk:List (Nat × Value)} {os:List Ob} (h:RunI gs done kvs [] sk os) (hL:Look kvs gs):done.Perm gs:=by
  classical
  refine (List.perm_ext_iff_of_nodup (nodup_of_map h.nd) (nodup_of_map hL.blks)).2 fun g=>⟨h.sub g,fun hg=>?_⟩
  obtain ⟨d,hd⟩:=List.exists_mem_of_ne_nil _ (hL.some_ g hg)
  have hk:=getP_mem (hL.hit g hg d hd)
  rcases h.left _ hk with h1 | ⟨g',h1,h2⟩
  · cases h1
  · have hb:=ptrV_inj h2
    have hgg:g=g':=by
      have hn:=hL.blks
      obtain ⟨i,hi,rfl⟩:=List.mem_iff_getElem.1 hg
      obtain ⟨j,hj,rfl⟩:=List.mem_iff_getElem.1 (h.sub g' h1)
      have:=(List.getElem_inj (h₀:=by simpa using hi) (h₁:=by simpa using hj) hn).1 (by simpa using hb)
      subst this
      rfl
    rw [hgg]
    exact h1
end Go.SL

namespace Go.SL
open Go
abbrev PO:=Dg × List Dg
def objP (p:PG):PO:=((sortDs p.1).getD 0 default,sortDs p.1)
def leO (x y:PO):Bool:=!ltD y.1 x.1
def objsM (S:List PG):List PO:=(S.map objP).mergeSort leO
theorem leO_iff {x y:PO}:leO x y=true↔cmpD x.1 y.1≤0:=by
  unfold leO ltD
  rw [Bool.not_eq_true',decide_eq_false_iff_not,cmpD_anti]
  omega
theorem leO_trans (a b c:PO) (h1:leO a b=true) (h2:leO b c=true):leO a c=true :=
  leO_iff.2 (cmpD_trans (leO_iff.1 h1) (leO_iff.1 h2)).1
theorem leO_total (a b:PO):(leO a b||leO b a)=true:=by
  rw [Bool.or_eq_true,leO_iff,leO_iff,cmpD_anti a.1 b.1]
  omega
theorem leO_anti {l:List PO} (hi:∀ x ∈ l,∀ y ∈ l,x.1=y.1→x=y) (a b:PO) (ha:a ∈ l) (hb:b ∈ l) (h1:leO a b=true) (h2:leO b a=true):a=b:=by
  refine hi a ha b hb (cmpD_eq ?_)
  have h3:=leO_iff.1 h1
  have h4:=leO_iff.1 h2
  rw [cmpD_anti] at h4
  omega
theorem sorted_eq {l s:List PO} (hi:∀ x ∈ l,∀ y ∈ l,x.1=y.1→x=y) (hp:l.Perm s) (hs:s.Pairwise (fun x y=>leO x y=true)):l.mergeSort leO=s:=by
  refine List.Perm.eq_of_pairwise (le:=fun x y=>leO x y=true) (fun a b ha hb=>leO_anti hi a b (List.mem_mergeSort.1 ha) (hp.mem_iff.2 hb)) (List.pairwise_mergeSort leO_trans leO_total l) hs ((List.mergeSort_perm l leO).trans hp)
def prO (o:Ob):PO:=(o.p,o.l)
def obA (o:Ob):Asr:=slE 24 5 eD o.v o.l
theorem hd_mem {l:List Dg} (h:l≠[]):(sortDs l).getD 0 default ∈ l:=by
  have h0:0<(sortDs l).length:=by rw [show (sortDs l).length=l.length from List.length_mergeSort _]; exact List.length_pos_iff.2 h
  rw [List.getD_eq_getElem?_getD,List.getElem?_eq_getElem h0]
  exact (List.mergeSort_perm l _).mem_iff.1 (List.getElem_mem _)
theorem perm_of_mem {T:Type} {g:T} {gs:List T} (h:g ∈ gs):∃ rest,gs.Perm (g::rest):=by
  obtain ⟨s,t,rfl⟩:=List.append_of_mem h
  exact ⟨s++t,List.perm_middle⟩
theorem nodup_le {T:Type}:∀ {l m:List T},l.Nodup→(∀ x ∈ l,x ∈ m)→l.length≤m.length
  | [],_,_,_=>Nat.zero_le _
  | x::t,m,hn,hs=>by
    obtain ⟨r,hr⟩:=perm_of_mem (hs x List.mem_cons_self)
    rw [List.nodup_cons] at hn
    have:=nodup_le (l:=t) (m:=r) hn.2 fun y hy=>by
      rcases List.mem_cons.1 (hr.mem_iff.1 (hs y (List.mem_cons_of_mem _ hy))) with rfl | h
      · exact absurd hy hn.1
      · exact h
    rw [hr.length_eq]
    simp only [List.length_cons]
    omega
theorem len_tot {S:List PG} (h:∀ p ∈ S,p.1≠[]):S.length≤totS S:=by
  induction S with
  | nil=>exact Nat.zero_le _
  | cons p t ih =>
    have h1:=ih fun q hq=>h q (List.mem_cons_of_mem _ hq)
    have h2:=List.length_pos_iff.2 (h p List.mem_cons_self)
    rw [tot_cons,List.length_cons]
    omega
section
variable {gs done:List Grp} {kvs todo:List (Dg × Value)} {sk:List (Nat × Value)} {os:List Ob} {w w0:World} {X:Nat→Prop} {B M:List Asr} {i:Nat} {S:List PG} {l:List Ch} {us:List Bool}
theorem RunI.len (h:RunI gs done kvs todo sk os):os.length≤gs.length:=by
  have h1:=congrArg List.length h.ob
  rw [List.length_map,List.length_map] at h1
  rw [h1]
  exact nodup_le (nodup_of_map h.nd) h.sub
theorem RunI.inj (h:RunI gs done kvs [] sk os) (hI:IsS kvs gs S):∀ o ∈ os,∀ o' ∈ os,o.p=o'.p→o=o':=by
  have hob:os.map prO=done.map obOf:=h.ob
  have hnd:(os.map (·.p)).Nodup:=by
    rw [show os.map (·.p)=(os.map prO).map (·.1) by rw [List.map_map]; rfl,hob,List.map_map]
    have hb:(done.map (·.blk)).Nodup:=h.nd
    rw [List.nodup_iff_pairwise_ne,List.pairwise_map] at hb ⊢
    refine hb.imp_of_mem fun {a b} ha hb' hne he=>hne ?_
    have h1:=hd_mem (hI.1.some_ a (h.sub a ha))
    have h2:=hd_mem (hI.1.some_ b (h.sub b hb'))
    have he:(sortDs a.all).getD 0 default=(sortDs b.all).getD 0 default:=he
    rw [← he] at h2
    rw [hI.1.uniq (h.sub a ha) (h.sub b hb') h1 h2]
  intro o ho o' ho' he
  obtain ⟨i,hi,rfl⟩:=List.mem_iff_getElem.1 ho
  obtain ⟨j,hj,rfl⟩:=List.mem_iff_getElem.1 ho'
  have:=(List.getElem_inj (h₀:=by simpa using hi) (h₁:=by simpa using hj) hnd).1 (by simpa using he)
  subst this
  rfl
end
end Go.SL
namespace Go.Proofs.YtgakdmmmljdpjaaDoor
open Go Go.SL
end Go.Proofs.YtgakdmmmljdpjaaDoor

namespace Go.SL
open Go
def numC (l:List Dg):Nat:=l.countP fun d=>decide (0<d.num)
def apartS (S:List PG):Prop:=S.Pairwise fun g g'=>∀ d ∈ g.1,d ∉ g'.1
def okG (g:PG):Prop:=g.1≠[]∧g.1.Nodup∧numC g.1=if g.2=true then 1 else 0
def wfS (S:List PG):Prop:=apartS S∧∀ g ∈ S,okG g
section
variable {S S' T:List PG} {c:Ch} {x y p:PG} {a b d:Dg}
theorem apartS_perm (h:S.Perm T):apartS S↔apartS T:=h.pairwise_iff fun {_ _} hab d hb ha=>hab d ha hb
theorem wfS_perm (h:S.Perm T) (hS:wfS S):wfS T:=⟨(apartS_perm h).1 hS.1,fun g hg=>hS.2 g (h.mem_iff.2 hg)⟩
theorem pg_take:∀ {S:List PG},p ∈ S→apartS S→d ∈ p.1→S.Perm (p::S.filter fun x=>!decide (d ∈ x.1))
  | x::t,hg,hp,hd=>by
    unfold apartS at hp
    rw [List.pairwise_cons] at hp
    rcases List.mem_cons.1 hg with rfl | hg
    · have:t.filter (fun x=>!decide (d ∈ x.1))=t:=by
        rw [List.filter_eq_self]
        intro y hy
        simpa using hp.1 y hy d hd
      simp [hd,this]
    · have hx:d ∉ x.1:=fun h=>hp.1 p hg d h hd
      have ih:=pg_take hg hp.2 hd
      simp only [List.filter_cons,hx,decide_false,Bool.not_false,if_true]
      exact (ih.cons x).trans (List.Perm.swap p x _)
theorem pg_take2 (ha:x ∈ S) (hb:y ∈ S) (hp:apartS S) (h1:a ∈ x.1) (h2:b ∈ y.1) (hne:a ∉ y.1) :
    S.Perm (x::y::S.filter fun x=>!decide (b ∈ x.1)&&!decide (a ∈ x.1)):=by
  have e1:=pg_take ha hp h1
  have hb':y ∈ S.filter (fun x=>!decide (a ∈ x.1)):=by
    rw [List.mem_filter]; exact ⟨hb,by simpa using hne⟩
  have e2:=pg_take hb' (List.Pairwise.sublist List.filter_sublist hp) h2
  rw [List.filter_filter] at e2
  exact e1.trans (e2.cons x)
theorem pg_uniq (h:apartS S) (hx:x ∈ S) (hy:y ∈ S) (h1:d ∈ x.1) (h2:d ∈ y.1):x=y:=by
  have e:=pg_take hx h h1
  rcases List.mem_cons.1 (e.mem_iff.1 hy) with rfl | h3
  · rfl
  · have:=(List.mem_filter.1 h3).2
    simp [h2] at this
theorem find_none (h:findG S d=none):∀ p ∈ S,d ∉ p.1:=fun p hp hd=>by
  unfold findG at h
  rw [List.find?_eq_none] at h
  exact h p hp (by simpa using hd)
theorem merged_perm (x y:PG):(merged x y).1.Perm (x.1++y.1):=by
  unfold merged
  split
  · exact List.perm_append_comm
  · exact List.Perm.refl _
theorem merged_num (x y:PG):(merged x y).2=(x.2||y.2):=by
  unfold merged
  split
  · exact Bool.or_comm _ _
  · rfl
theorem join_parts (hw:apartS S) (h:joinM S c=.ok S'):∃ x y rest,findG S c.a=some x∧findG S c.b=some y∧S.Perm (x::y::rest)∧S'=merged x y::rest∧c.a ∈ x.1∧c.b ∈ y.1∧(x.2&&y.2)=false:=by
  unfold joinM at h
  cases hx:findG S c.a with
  | none=>rw [hx] at h; cases h
  | some x =>
    cases hy:findG S c.b with
    | none=>rw [hx,hy] at h; cases h
    | some y =>
      rw [hx,hy] at h
      simp only at h
      split at h
      · cases h
      · rename_i hn
        cases h
        refine ⟨x,y,_,rfl,rfl,?_,rfl,(findG_mem hx).2,(findG_mem hy).2,?_⟩
        · exact pg_take2 (findG_mem hx).1 (findG_mem hy).1 hw (findG_mem hx).2 (findG_mem hy).2 fun h2=>hn (.inl (pg_uniq hw (findG_mem hx).1 (findG_mem hy).1 (findG_mem hx).2 h2))
        · cases hb:(x.2&&y.2) with
          | false=>rfl
          | true=>exact absurd (.inr hb) hn
theorem numC_app (l m:List Dg):numC (l++m)=numC l+numC m:=by unfold numC; exact List.countP_append
theorem numC_perm {l m:List Dg} (h:l.Perm m):numC l=numC m:=h.countP_eq _
theorem okC_1 (h:okC c=true) (hk:c.kind=1):c.a.num=0:=by
  unfold okC at h
  rw [if_pos hk] at h
  simp only [Bool.and_eq_true,decide_eq_true_eq] at h
  exact h.1.1.2
theorem okC_3 (h:okC c=true) (hk:c.kind=3):c.b.num>0:=by
  unfold okC at h
  rw [if_neg (by omega),if_neg (by omega),if_pos hk] at h
  simp only [Bool.and_eq_true,decide_eq_true_eq] at h
  exact h.2
theorem okG_join (hx:okG x) (hy:okG y) (hd:∀ d ∈ x.1,d ∉ y.1) (hn:(x.2&&y.2)=false):okG (merged x y):=by
  have hp:=merged_perm x y
  refine ⟨fun h=>?_,?_,?_⟩
  · rw [h] at hp
    have:=hp.length_eq
    rw [List.length_append] at this
    have:=List.length_pos_iff.2 hx.1
    simp at *
    omega
  · rw [hp.nodup_iff,List.nodup_append]
    exact ⟨hx.2.1,hy.2.1,fun a ha b hb e=>hd a ha (e▸hb)⟩
  · rw [numC_perm hp,numC_app,hx.2.2,hy.2.2,merged_num]
    cases h1:x.2 <;> cases h2:y.2 <;> simp_all
theorem wf_step (hS:wfS S) (hc:okC c=true) (hk:1≤c.kind∧c.kind≤3) (h:stepM S c=.ok S'):wfS S':=by
  unfold stepM at h
  by_cases h1:c.kind=1
  · rw [if_pos h1] at h
    unfold addM at h
    cases hf:findG S c.a with
    | some _=>rw [hf] at h; cases h
    | none =>
      rw [hf] at h
      cases h
      refine ⟨List.pairwise_cons.2 ⟨fun g hg d hd=>?_,hS.1⟩,fun g hg=>?_⟩
      · rw [List.mem_singleton.1 hd]; exact find_none hf g hg
      · rcases List.mem_cons.1 hg with rfl | hg
        · refine ⟨by simp,by simp,?_⟩
          have:=okC_1 hc h1
          simp [numC,this]
        · exact hS.2 g hg
  · rw [if_neg h1] at h
    by_cases h2:c.kind=2
    · rw [if_pos h2] at h
      obtain ⟨x,y,rest,_,_,hp,rfl,ha,hb,hn⟩:=join_parts hS.1 h
      have hw:=wfS_perm hp hS
      have hap:=hw.1
      unfold apartS at hap
      rw [List.pairwise_cons] at hap
      obtain ⟨ha1,ha2⟩:=hap
      rw [List.pairwise_cons] at ha2
      obtain ⟨ha2,ha3⟩:=ha2
      have hm:=merged_perm x y
      refine ⟨List.pairwise_cons.2 ⟨fun g hg d hd=>?_,ha3⟩,fun g hg=>?_⟩
      · rcases List.mem_append.1 (hm.mem_iff.1 hd) with h3 | h3
        · exact ha1 g (List.mem_cons_of_mem _ hg) d h3
        · exact ha2 g hg d h3
      · rcases List.mem_cons.1 hg with rfl | hg
        · exact okG_join (hw.2 x (by simp)) (hw.2 y (by simp)) (ha1 y (by simp)) hn
        · exact hw.2 g (by simp [hg])
    · rw [if_neg h2] at h
      unfold nameM at h
      cases hf:findG S c.a with
      | none=>rw [hf] at h; cases h
      | some x =>
        cases hb:findG S c.b with
        | some _=>rw [hf,hb] at h; cases h
        | none =>
          rw [hf,hb] at h
          simp only at h
          split at h
          · cases h
          · rename_i hn
            cases h
            have hp:=pg_take (findG_mem hf).1 hS.1 (findG_mem hf).2
            have hw:=wfS_perm hp hS
            have hap:=hw.1
            unfold apartS at hap
            rw [List.pairwise_cons] at hap
            have hnb:=find_none hb
            refine ⟨List.pairwise_cons.2 ⟨fun g hg d hd=>?_,hap.2⟩,fun g hg=>?_⟩
            · rcases List.mem_append.1 hd with h3 | h3
              · exact hap.1 g hg d h3
              · rw [List.mem_singleton.1 h3]; exact hnb g (List.mem_filter.1 hg).1
            · rcases List.mem_cons.1 hg with rfl | hg
              · have hx:=hw.2 x (by simp)
                refine ⟨by simp,?_,?_⟩
                · rw [List.nodup_append]
                  exact ⟨hx.2.1,by simp,fun a ha b hb' e=>by
                    rw [List.mem_singleton.1 hb'] at e; subst e; exact hnb x (findG_mem hf).1 ha⟩
                · have h5:=okC_3 hc (by omega)
                  show numC (x.1++[c.b])=_
                  rw [numC_app,hx.2.2,if_neg hn]
                  simp [numC,h5]
              · exact hw.2 g (by simp only [List.mem_cons]; exact .inr hg)
theorem wf_playK {l:List Ch} {us:List Bool} (hok:l.all okC=true):∀ {k:Nat} {S:List PG},k≤l.length→playK l us k=.ok S→wfS S
  | 0,S,_,h=>by cases h; exact ⟨List.Pairwise.nil,by simp⟩
  | k+1,S,hk,h=>by
    simp only [playK] at h
    cases hq:playK l us k with
    | error e=>rw [hq] at h; cases h
    | ok T =>
      rw [hq] at h
      have ih:=wf_playK hok (by omega) hq
      have hc:okC (l.getD k default)=true:=by
        rw [List.all_eq_true] at hok
        exact hok _ (by rw [List.getD_eq_getElem?_getD,List.getElem?_eq_getElem (by omega)]; exact List.getElem_mem _)
      simp only at h
      split at h
      · rename_i h4
        have:=okC_kind hc
        exact wf_step ih hc (by omega) h
      · cases h; exact ih
end
section
variable {S:List PG} {p q:PG} {d:Dg}
theorem objP_inj (hw:wfS S) (hp:p ∈ S) (hq:q ∈ S) (h:(objP p).1=(objP q).1):p=q:=by
  have h1:=hd_mem (hw.2 p hp).1
  have h2:=hd_mem (hw.2 q hq).1
  have h:(sortDs p.1).getD 0 default=(sortDs q.1).getD 0 default:=h
  rw [← h] at h2
  exact pg_uniq hw.1 hp hq h1 h2
theorem sort_mem {l:List Dg}:d ∈ sortDs l↔d ∈ l:=(List.mergeSort_perm l _).mem_iff
theorem sort_len {l:List Dg}:(sortDs l).length=l.length:=List.length_mergeSort _
theorem sort_pair (l:List Dg):(sortDs l).Pairwise fun x y=>cmpD x y≤0:=by
  have h:(sortDs l).Pairwise fun x y=>(!ltD y x)=true:=List.pairwise_mergeSort (fun a b c h1 h2=>by
    have h1:=leO_iff (x:=(a,[])) (y:=(b,[])) |>.1 h1
    have h2:=leO_iff (x:=(b,[])) (y:=(c,[])) |>.1 h2
    exact leO_iff (x:=(a,[])) (y:=(c,[])) |>.2 (cmpD_trans h1 h2).1) (fun a b=>leO_total (a,[]) (b,[])) l
  exact h.imp fun {a b} hab=>leO_iff (x:=(a,[])) (y:=(b,[])) |>.1 hab
theorem pair_getD {T:Type} [Inhabited T] {R:T→T→Prop} {l:List T} (h:l.Pairwise R) {i j:Nat} (hij:i<j) (hj:j<l.length):R (l.getD i default) (l.getD j default):=by
  have:=List.pairwise_iff_getElem.1 h i j (by omega) hj hij
  simpa [List.getD_eq_getElem?_getD,List.getElem?_eq_getElem (show i<l.length by omega),List.getElem?_eq_getElem hj] using this
theorem cmpD_num {a b:Dg} (h:cmpD a b≤0) (hb:0<b.num):0<a.num:=by
  have h1:orM [-cmpI (if a.num<1 then a.num else 1) (if b.num<1 then b.num else 1),cmpI a.num b.num,cmpI a.yr b.yr,cmpI a.half b.half,cmpI a.cyc b.cyc,cmpI a.sec b.sec]≤0:=h
  refine Decidable.byContradiction fun hn=>?_
  rw [if_pos (by omega),if_neg (by omega)] at h1
  have:cmpI a.num 1=-1:=by unfold cmpI; rw [if_pos (by omega)]
  rw [this] at h1
  simp [orM] at h1
theorem num_head (hw:okG p) (h2:p.2=true):0<(objP p).1.num:=by
  have h3:0<numC p.1:=by rw [hw.2.2,if_pos h2]; omega
  unfold numC at h3
  rw [List.countP_pos_iff] at h3
  obtain ⟨d,hd,hn⟩:=h3
  have hm:=sort_mem.2 hd
  obtain ⟨k,hk,he⟩:=List.mem_iff_getElem.1 hm
  have hn:0<d.num:=by simpa using hn
  have he:(sortDs p.1).getD k default=d:=by rw [List.getD_eq_getElem?_getD,List.getElem?_eq_getElem hk]; simpa using he
  show 0<((sortDs p.1).getD 0 default).num
  cases k with
  | zero=>rw [he]; exact hn
  | succ k =>
    have:=pair_getD (sort_pair p.1) (Nat.succ_pos k) hk
    rw [he] at this
    exact cmpD_num this hn
end
end Go.SL

set_option maxHeartbeats 1000000
set_option maxRecDepth 8000
namespace Go.Proofs.YtgakdmmmljdpjaaDoor
open Go Go.SL
theorem T_bytes_46:tBytes Tryd.prog 46=some 56:=by kernel_rfl
theorem T_elem_39:tElem Tryd.prog 39=some 46:=by kernel_rfl
end Go.Proofs.YtgakdmmmljdpjaaDoor

namespace Go.SL
open Go
section
variable {r:Option Nat} {P:Program} {ops:Array Oper} {Q:Exit→Act→World→Prop} {a:Act} {w w0:World} {n:Nat} {ds:List Deferred} {L:List (Nat × Value)} {X:Nat→Prop} {B M:List Asr}
theorem O.buildC {i d j m len:Nat} {t ty e:TypeId} {rest:List Nat} {pos:String} {af:Array Edge} {z:Value} {c:Bool} {p:Asr} {parts:Array (Nat × Operand)} {vs:List (Nat × Value)} {cs' zs:Array Value}
    (hf:Fr a n ds L) (hS:St w0 w X B M) (hj:M[j]? = some (condA c p)) (hc:c=false) (ho:ops[i]? = some ⟨some d,.buildSlice t len parts,ty,pos,af,none⟩) (hd:Nat.blt d n=true)
    (he:tElem P t=some e) (hs:tSize P e=some m) (hz:tZero P e=some z) (h0:Nat.ble (len*m) 16777216=true) (h1:Nat.blt 0 (len*m)=true) (hzs:((List.range (len*m)).map (z.cells[· % z.cells.size]!)).toArray=zs)
    (hv:evP L parts.toList=some vs) (hb:Instr.fill (fun i=>some (i*m,m)) zs vs=some cs')
    (k:∀ b w' a',St w0 w' X B (M.set j (pt b (.cells cs' e (0,0))))→Fr a' n ds ((d,.slice (some ⟨b,0,none⟩) len len)::L)→O r P ops Q rest a' w'):O r P ops Q (i::rest) a w:=by
  refine O.buildSlice hf hS ho hd he hs hz h0 h1 hzs hv hb (fun b w' a' hb hS' hf'=>k b w' a' ?_ hf')
  subst hc
  have h1:=hS'.sep
  obtain ⟨hjl,hje⟩:=List.getElem?_eq_some_iff.1 hj
  refine ⟨hS'.os,hS'.tape,hS'.output,hS'.size,hS'.old,?_,hS'.bor⟩
  have hp:=h1.1
  have hM:=h1.2
  clear h1 hS hS' k hf hf' ho
  revert j
  induction M with
  | nil=>intro j hj hjl _; simp at hj
  | cons q t ih =>
    intro j hj hjl hje
    cases j with
    | zero =>
      simp only [List.set_cons_zero]
      exact ⟨⟨hp.1,hp.2.1,fun s hs=>hp.2.2 s (by simp [hs])⟩,hM.2⟩
    | succ j =>
      simp only [List.set_cons_succ]
      have h2:=ih ⟨hp.1,hp.2.1,fun s hs=>hp.2.2 s (by simp [hs])⟩ hM.2 (j:=j) (by simpa using hj) (by simpa using hjl) (by simpa using hje)
      refine ⟨⟨hM.1.1,hM.1.2.1,fun s hs b' hb' hsb=>?_⟩,h2⟩
      rcases List.mem_or_eq_of_mem_set hs with h3 | h3
      · exact hM.1.2.2 s h3 b' hb' hsb
      · subst h3
        exact hp.2.2 q (by simp) b' hsb hb'
end
section
variable {r:Option Nat} {P:Program} {ops:Array Oper} {Q:Exit→Act→World→Prop} {a:Act} {w w0:World} {n:Nat} {ds:List Deferred} {γ:Type} {X:Nat→Prop} {B M:List Asr}
theorem oj {T:Type} {x y:T} (h:some x=some y):x=y:=Option.some.inj h
def Lq (v:Nat→Value) (i:Nat) (l:List Nat) (N:Nat):List Value:=(List.range N).map fun j=>match Nat.beq j i||l.contains j with
  | true=>undef
  | false=>v j
end
end Go.SL

namespace Go.Proofs.YtgakdmmmljdpjaaDoor
open Go Go.SL
theorem C_ok_33:callOK Tryd.prog 33=true:=by kernel_rfl
set_option maxHeartbeats 400000 in
set_option maxRecDepth 4000 in
theorem cloneC_nil (k c:Nat) (w0:World) :
    Ret Tryd.prog 33 #[.slice none k c] w0 (G:=Unit) (fun _=>.slice none 0 0) (fun _ w=>St w0 w noX [] []):=by
  refine ret_of_W (lv:=[.slice none k c]) Tryd.func33 rfl rfl rfl (fun a hf=>?_)
  replace hf:Fr a 8 [] [(0,.slice none k c)]:=hf
  have hS:St w0 w0 noX [] []:=St.refl w0
  refine W.seq ?_
  refine W.regionL (l:=[0]) rfl ?_
  refine O.val hf rfl rfl rfl (RunV.assign rfl) ?_
  clear hf a; intro a hf
  refine O.nil ?_
  refine k_seq ?_
  refine W.seq ?_
  refine W.seq ?_
  refine W.regionL (l:=[0,1]) rfl ?_
  refine O.val hf rfl rfl rfl (RunV.move rfl) ?_
  clear hf a; intro a hf
  refine O.val hf rfl rfl rfl (RunV.eqNil1 T_elem_22 rfl rfl rfl) ?_
  clear hf a; intro a hf
  refine O.nil ?_
  refine k_seq ?_
  replace hf:Fr a 8 [] [(0,.slice none k c),(2,.slice none 0 0),(4,.bool true)]:=hf.to ⟨rfl,rfl,rfl,trivial⟩
  refine W.if_tt hf rfl ?_
  refine W.seq ?_
  refine W.regionL (l:=[0]) rfl ?_
  refine O.val hf rfl rfl rfl (RunV.assign rfl) ?_
  clear hf a; intro a hf
  refine O.nil ?_
  refine k_seq ?_
  replace hf:Fr a 8 [] [(0,.slice none k c),(2,.slice none 0 0)]:=hf.to ⟨rfl,rfl,trivial⟩
  refine W.ret ?_
  refine k_then_ret ?_
  refine post1 hf rfl (ResOK.tmp rfl) ?_
  exact ⟨(),rfl,hS.sub (List.nil_sublist _) |>.noB⟩
theorem cloneC_spec (vl:Value) (l:List Ch) (w0:World) (hfit:vfit vl) (hl:rdOK (hp w0) 12 vl l.length (encs eC l)) (hz:l.length≤1000000) :
    Ret Tryd.prog 33 #[vl] w0 (G:=Value) (fun g=>g) (fun g w=>St w0 w noX [] [slE 26 12 eC g l]):=by
  have hl2:=hl
  obtain ⟨_,_,A,c,rfl,h3⟩:=hl2
  cases A with
  | some ad=>exact cloneC_some _ l ad c w0 rfl hfit hl hz
  | none =>
    have h0:l=[]:=by
      cases l with
      | nil=>rfl
      | cons x t=>obtain ⟨a,_,_,_,h4,_⟩:=h3 (by simp); cases h4
    subst h0
    refine Calls.mono (cloneC_nil _ _ w0) fun e w' he=>?_
    obtain ⟨_,he,hR⟩:=he
    exact ⟨_,he,hR.nilSl 26 12⟩
set_option maxHeartbeats 400000 in
set_option maxRecDepth 4000 in
theorem apply_err2 (vl:Value) (l:List Ch) (c:Ch) (w0:World) (hG:Lent w0 ordA) (hl:rdOK (hp w0) 12 vl l.length (encs eC l)) (hfit:vfit vl) (hz:l.length≤1000) (S:List PG) (us:List Bool) (hm:histM l=.ok (S,us)) (hc:okC c=true) (e:Int) (hm2:histM (l++[c])=.error e) :
    Ret Tryd.prog 11 #[vl,.agg #[.int .u8 c.kind,.int .i64 c.a.num,.int .i64 c.a.yr,.int .u8 c.a.half,.int .u8 c.a.sec,.int .i64 c.a.cyc,.int .i64 c.b.num,.int .i64 c.b.yr,.int .u8 c.b.half,.int .u8 c.b.sec,.int .i64 c.b.cyc,.int .i64 c.n]] w0 (G:=Unit) (fun _=>.tuple #[.slice none 0 0,.int .i64 e]) (fun _ w=>St w0 w noX [] []):=by
  refine ret_of_W (lv:=[vl,.agg #[.int .u8 c.kind,.int .i64 c.a.num,.int .i64 c.a.yr,.int .u8 c.a.half,.int .u8 c.a.sec,.int .i64 c.a.cyc,.int .i64 c.b.num,.int .i64 c.b.yr,.int .u8 c.b.half,.int .u8 c.b.sec,.int .i64 c.b.cyc,.int .i64 c.n]]) Tryd.func11 rfl rfl rfl (fun a hf=>?_)
  replace hf:Fr a 43 [] [(0,vl),(1,.agg #[.int .u8 c.kind,.int .i64 c.a.num,.int .i64 c.a.yr,.int .u8 c.a.half,.int .u8 c.a.sec,.int .i64 c.a.cyc,.int .i64 c.b.num,.int .i64 c.b.yr,.int .u8 c.b.half,.int .u8 c.b.sec,.int .i64 c.b.cyc,.int .i64 c.n])]:=hf
  have hS:St w0 w0 noX [ordA,rdv 12 vl l.length (encs eC l)] []:=((St.refl w0).lend0 hl).lendA hG
  have hlm:=hl.2.1
  unfold maxLen at hlm
  have he0:=histM_ne hm2
  refine W.seq ?_
  refine W.regionL (l:=[0,1,2]) rfl ?_
  refine O.box (cs:=#[.int .u8 c.kind,.int .i64 c.a.num,.int .i64 c.a.yr,.int .u8 c.a.half,.int .u8 c.a.sec,.int .i64 c.a.cyc,.int .i64 c.b.num,.int .i64 c.b.yr,.int .u8 c.b.half,.int .u8 c.b.sec,.int .i64 c.b.cyc,.int .i64 c.n]) hf hS rfl rfl rfl rfl ?_
  clear hf hS a; intro b_c1 w a hbb_c1 hS hf
  refine O.val hf rfl rfl rfl (RunV.assign rfl) ?_
  clear hf a; intro a hf
  refine O.val hf rfl rfl rfl (RunV.assign rfl) ?_
  clear hf a; intro a hf
  refine O.nil ?_
  refine k_seq ?_
  replace hf:Fr a 43 [] [(0,vl),(3,.pointer (some ⟨b_c1,0,none⟩)),(4,.slice none 0 0),(5,.int .i64 0)]:=hf.to ⟨rfl,rfl,rfl,rfl,trivial⟩
  refine W.seq ?_
  refine W.seq ?_
  refine W.regionL (l:=[0,1,2,3,4,5,6,7,8]) rfl ?_
  refine O.val hf rfl rfl rfl (RunV.move rfl) ?_
  clear hf a; intro a hf
  refine O.callR hf rfl rfl rfl (RunE.call (av:=#[vl]) C_ok_32 rfl rfl rfl) (history_ok vl l _ (hS.bptO (i:=0) rfl) (hS.rdAt (j:=1) rfl) hfit hm) ?_
  clear hf a
  rintro ⟨uv,bm,kvs,gs⟩ w2 ⟨hS1,hI⟩ a hf
  replace hf:Fr a _ _ ((16,.tuple #[.map (some bm),uv,.int .i64 0])::_):=hf
  replace hS:=(hS.call hS1).eqM (N:=[stA 95 24 bm kvs gs,sl 4 1 uv us.length (bools us),pt b_c1 (.cells #[.int .u8 c.kind,.int .i64 c.a.num,.int .i64 c.a.yr,.int .u8 c.a.half,.int .u8 c.a.sec,.int .i64 c.a.cyc,.int .i64 c.b.num,.int .i64 c.b.yr,.int .u8 c.b.half,.int .u8 c.b.sec,.int .i64 c.b.cyc,.int .i64 c.n] 26 (0,0))]) rfl
  clear hS1
  refine O.val hf rfl rfl rfl (RunV.move rfl) ?_
  clear hf a; intro a hf
  refine O.val hf rfl rfl rfl (RunV.extract rfl rfl) ?_
  clear hf a; intro a hf
  refine O.val hf rfl rfl rfl (RunV.extract rfl rfl) ?_
  clear hf a; intro a hf
  refine O.val hf rfl rfl rfl (RunV.extract rfl rfl) ?_
  clear hf a; intro a hf
  refine O.val hf rfl rfl rfl (RunV.assign rfl) ?_
  clear hf a; intro a hf
  refine O.val hf rfl rfl rfl (RunV.assign rfl) ?_
  clear hf a; intro a hf
  refine O.val hf rfl rfl rfl (RunV.assign rfl) ?_
  clear hf a; intro a hf
  refine O.nil ?_
  refine k_seq ?_
  replace hf:Fr a 43 [] [(0,vl),(3,.pointer (some ⟨b_c1,0,none⟩)),(4,.slice none 0 0),(5,.int .i64 0),(8,.int .i64 0)]:=hf.to ⟨rfl,rfl,rfl,rfl,rfl,trivial⟩
  refine W.seq ?_
  refine W.regionL (l:=[0,1]) rfl ?_
  refine O.val hf rfl rfl rfl (RunV.move rfl) ?_
  clear hf a; intro a hf
  refine O.val hf rfl rfl rfl (RunV.toB (c:=false) (RunV.neq rfl rfl) (by decide)) ?_
  clear hf a; intro a hf
  refine O.nil ?_
  refine k_seq ?_
  replace hf:Fr a 43 [] [(0,vl),(3,.pointer (some ⟨b_c1,0,none⟩)),(4,.slice none 0 0),(5,.int .i64 0),(8,.int .i64 0),(21,.bool false)]:=hf.to ⟨rfl,rfl,rfl,rfl,rfl,rfl,trivial⟩
  refine W.if_ff hf rfl ?_
  refine W.skip ?_
  refine k_seq ?_
  replace hf:Fr a 43 [] [(0,vl),(3,.pointer (some ⟨b_c1,0,none⟩)),(4,.slice none 0 0),(5,.int .i64 0)]:=hf.to ⟨rfl,rfl,rfl,rfl,trivial⟩
  refine W.seq ?_
  refine W.seq ?_
  refine W.regionL (l:=[0,1,2]) rfl ?_
  refine O.val hf rfl rfl rfl (RunV.loadN (cs':=#[.int .u8 c.kind,.int .i64 c.a.num,.int .i64 c.a.yr,.int .u8 c.a.half,.int .u8 c.a.sec,.int .i64 c.a.cyc,.int .i64 c.b.num,.int .i64 c.b.yr,.int .u8 c.b.half,.int .u8 c.b.sec,.int .i64 c.b.cyc,.int .i64 c.n]) T_agg_26 T_size_26 rfl (hS.ptAt (i:=2) rfl) (Nat.le_of_ble_eq_true rfl) rfl) ?_
  clear hf a; intro a hf
  refine O.callR hf rfl rfl rfl (RunE.call (av:=#[.agg #[.int .u8 c.kind,.int .i64 c.a.num,.int .i64 c.a.yr,.int .u8 c.a.half,.int .u8 c.a.sec,.int .i64 c.a.cyc,.int .i64 c.b.num,.int .i64 c.b.yr,.int .u8 c.b.half,.int .u8 c.b.sec,.int .i64 c.b.cyc,.int .i64 c.n]]) C_ok_25 rfl rfl rfl) (checkC_ok c _ (hS.bptO (i:=0) rfl) hc) ?_
  clear hf a
  rintro _ w3 hS1 a hf
  replace hf:Fr a _ _ ((24,.int .i64 0)::_):=hf
  replace hS:=(hS.call hS1).eqM (N:=[stA 95 24 bm kvs gs,sl 4 1 uv us.length (bools us),pt b_c1 (.cells #[.int .u8 c.kind,.int .i64 c.a.num,.int .i64 c.a.yr,.int .u8 c.a.half,.int .u8 c.a.sec,.int .i64 c.a.cyc,.int .i64 c.b.num,.int .i64 c.b.yr,.int .u8 c.b.half,.int .u8 c.b.sec,.int .i64 c.b.cyc,.int .i64 c.n] 26 (0,0))]) rfl
  clear hS1
  refine O.val hf rfl rfl rfl (RunV.assign rfl) ?_
  clear hf a; intro a hf
  refine O.nil ?_
  refine k_seq ?_
  replace hf:Fr a 43 [] [(0,vl),(3,.pointer (some ⟨b_c1,0,none⟩)),(4,.slice none 0 0),(5,.int .i64 0),(9,.int .i64 0)]:=hf.to ⟨rfl,rfl,rfl,rfl,rfl,trivial⟩
  refine W.seq ?_
  refine W.regionL (l:=[0,1]) rfl ?_
  refine O.val hf rfl rfl rfl (RunV.move rfl) ?_
  clear hf a; intro a hf
  refine O.val hf rfl rfl rfl (RunV.toB (c:=false) (RunV.neq rfl rfl) (by decide)) ?_
  clear hf a; intro a hf
  refine O.nil ?_
  refine k_seq ?_
  replace hf:Fr a 43 [] [(0,vl),(3,.pointer (some ⟨b_c1,0,none⟩)),(4,.slice none 0 0),(5,.int .i64 0),(9,.int .i64 0),(26,.bool false)]:=hf.to ⟨rfl,rfl,rfl,rfl,rfl,rfl,trivial⟩
  refine W.if_ff hf rfl ?_
  refine W.skip ?_
  refine k_seq ?_
  replace hf:Fr a 43 [] [(0,vl),(3,.pointer (some ⟨b_c1,0,none⟩)),(4,.slice none 0 0),(5,.int .i64 0)]:=hf.to ⟨rfl,rfl,rfl,rfl,trivial⟩
  refine W.seq ?_
  have hf1:Fr a 43 [] []:=hf.to trivial
  replace hf:Fr a 43 [] [(0,vl),(3,.pointer (some ⟨b_c1,0,none⟩)),(4,.slice none 0 0),(5,.int .i64 0)]:=hf.to ⟨rfl,rfl,rfl,rfl,trivial⟩
  replace hS:=hS.drew
  replace hS:=hS.emp
  let LZ164:List (Nat × Value):=[(0,vl),(3,.pointer (some ⟨b_c1,0,none⟩)),(4,.slice none 0 0),(5,.int .i64 0)]
  let MZ164:List Asr:=[stA 95 24 bm kvs gs,sl 4 1 uv us.length (bools us),pt b_c1 (.cells #[.int .u8 c.kind,.int .i64 c.a.num,.int .i64 c.a.yr,.int .u8 c.a.half,.int .u8 c.a.sec,.int .i64 c.a.cyc,.int .i64 c.b.num,.int .i64 c.b.yr,.int .u8 c.b.half,.int .u8 c.b.sec,.int .i64 c.b.cyc,.int .i64 c.n] 26 (0,0))]
  refine W.drawC (γ:=(Nat) × (Value) × (Value)) (L0:=LZ164) (L1:=[]) (0,default,default) [1,4] [3] [0,2,5] (fun i=>match i with | 1=>[0] | 3=>[2] | 4=>[1,3] | 5=>[0,1,2,3,4] | _=>[]) (fun i=>match i with | 4=>[1,3] | 5=>[1,4,3] | _=>[]) (fun i=>match i with | 0=>[1,4] | 1=>[4] | 2=>[4] | 3=>[4] | _=>[]) (fun i=>match i with | 4=>[3] | 5=>[3] | _=>[]) (fun i=>match i with | 1=>[4,5] | 3=>[4,5] | 4=>[5] | _=>[]) (fun _=>[]) (fun i=>match i with | 4=>1 | 5=>2 | _=>0) (fun i=>match i with | 1=>1 | 2=>1 | 3=>1 | 4=>2 | 5=>2 | _=>0) (fun (g:(Nat) × (Value) × (Value)) j=>match g,j with | ⟨b_s4,cv,v6⟩,0=>vl | ⟨b_s4,cv,v6⟩,1=>cv | ⟨b_s4,cv,v6⟩,2=>.agg #[.int .u8 c.kind,.int .i64 c.a.num,.int .i64 c.a.yr,.int .u8 c.a.half,.int .u8 c.a.sec,.int .i64 c.a.cyc,.int .i64 c.b.num,.int .i64 c.b.yr,.int .u8 c.b.half,.int .u8 c.b.sec,.int .i64 c.b.cyc,.int .i64 c.n] | ⟨b_s4,cv,v6⟩,3=>.slice (some ⟨b_s4,0,none⟩) 1 1 | ⟨b_s4,cv,v6⟩,4=>v6 | ⟨b_s4,cv,v6⟩,5=>v6 | _,_=>undef) (fun k s (g:(Nat) × (Value) × (Value)) w=>match k,g with | 0,⟨b_s4,cv,v6⟩=>St w0 w noX [ordA,rdv 12 vl l.length (encs eC l)] (condA (s 3) (pt b_s4 (.cells #[.int .u8 c.kind,.int .i64 c.a.num,.int .i64 c.a.yr,.int .u8 c.a.half,.int .u8 c.a.sec,.int .i64 c.a.cyc,.int .i64 c.b.num,.int .i64 c.b.yr,.int .u8 c.b.half,.int .u8 c.b.sec,.int .i64 c.b.cyc,.int .i64 c.n] 26 (0,0)))::MZ164) | 1,⟨b_s4,cv,v6⟩=>St w0 w noX [ordA,rdv 12 vl l.length (encs eC l)] (sl 26 12 cv l.length (encs eC l)::condA (s 3) (pt b_s4 (.cells #[.int .u8 c.kind,.int .i64 c.a.num,.int .i64 c.a.yr,.int .u8 c.a.half,.int .u8 c.a.sec,.int .i64 c.a.cyc,.int .i64 c.b.num,.int .i64 c.b.yr,.int .u8 c.b.half,.int .u8 c.b.sec,.int .i64 c.b.cyc,.int .i64 c.n] 26 (0,0)))::MZ164) | _,⟨b_s4,cv,v6⟩=>St w0 w noX [ordA,rdv 12 vl l.length (encs eC l)] (sl 26 12 v6 ((l++[c]).length) (encs eC (l++[c]))::pt b_s4 (.cells #[.int .u8 c.kind,.int .i64 c.a.num,.int .i64 c.a.yr,.int .u8 c.a.half,.int .u8 c.a.sec,.int .i64 c.a.cyc,.int .i64 c.b.num,.int .i64 c.b.yr,.int .u8 c.b.half,.int .u8 c.b.sec,.int .i64 c.b.cyc,.int .i64 c.n] 26 (0,0))::MZ164)) P_mixed (by kernel_rfl) (by kernel_rfl) (by kernel_rfl) hf hf1 hS ?_ ?_ ?_ ?_
  · clear hf hf1 hS
    refine ⟨?_,?_,?_,trivial⟩
    · intro k s g w h1_ h2_ hsp hD a hf
      obtain ⟨b_s4,cv,v6⟩:=g
      obtain rfl:k=0:=Nat.le_antisymm h2_ h1_
      have hS:St w0 w noX [ordA,rdv 12 vl l.length (encs eC l)] (condA (s 3) (pt b_s4 (.cells #[.int .u8 c.kind,.int .i64 c.a.num,.int .i64 c.a.yr,.int .u8 c.a.half,.int .u8 c.a.sec,.int .i64 c.a.cyc,.int .i64 c.b.num,.int .i64 c.b.yr,.int .u8 c.b.half,.int .u8 c.b.sec,.int .i64 c.b.cyc,.int .i64 c.n] 26 (0,0)))::MZ164):=hD;
      replace hf:Fr a 43 [] LZ164:=hf
      refine O.val hf rfl rfl rfl (RunV.move rfl) ?_
      clear hf a; intro a hf
      exact O.nil ⟨rfl,hf.to trivial,(gt (d:=28) hf rfl rfl),hD⟩
    · intro k s g w h1_ h2_ hsp hD a hf
      obtain ⟨b_s4,cv,v6⟩:=g
      rcases k with _ | _ | k
      · have hS:St w0 w noX [ordA,rdv 12 vl l.length (encs eC l)] (condA (s 3) (pt b_s4 (.cells #[.int .u8 c.kind,.int .i64 c.a.num,.int .i64 c.a.yr,.int .u8 c.a.half,.int .u8 c.a.sec,.int .i64 c.a.cyc,.int .i64 c.b.num,.int .i64 c.b.yr,.int .u8 c.b.half,.int .u8 c.b.sec,.int .i64 c.b.cyc,.int .i64 c.n] 26 (0,0)))::MZ164):=hD;
        replace hf:Fr a 43 [] LZ164:=hf
        refine O.val hf rfl rfl rfl (RunV.loadN (cs':=#[.int .u8 c.kind,.int .i64 c.a.num,.int .i64 c.a.yr,.int .u8 c.a.half,.int .u8 c.a.sec,.int .i64 c.a.cyc,.int .i64 c.b.num,.int .i64 c.b.yr,.int .u8 c.b.half,.int .u8 c.b.sec,.int .i64 c.b.cyc,.int .i64 c.n]) T_agg_26 T_size_26 rfl (hS.ptAt (i:=3) rfl) (Nat.le_of_ble_eq_true rfl) rfl) ?_
        clear hf a; intro a hf
        exact O.nil ⟨rfl,hf.to trivial,(gt (d:=30) hf rfl rfl),hD⟩
      · have hS:St w0 w noX [ordA,rdv 12 vl l.length (encs eC l)] (sl 26 12 cv l.length (encs eC l)::condA (s 3) (pt b_s4 (.cells #[.int .u8 c.kind,.int .i64 c.a.num,.int .i64 c.a.yr,.int .u8 c.a.half,.int .u8 c.a.sec,.int .i64 c.a.cyc,.int .i64 c.b.num,.int .i64 c.b.yr,.int .u8 c.b.half,.int .u8 c.b.sec,.int .i64 c.b.cyc,.int .i64 c.n] 26 (0,0)))::MZ164):=hD;
        replace hf:Fr a 43 [] LZ164:=hf
        refine O.val hf rfl rfl rfl (RunV.loadN (cs':=#[.int .u8 c.kind,.int .i64 c.a.num,.int .i64 c.a.yr,.int .u8 c.a.half,.int .u8 c.a.sec,.int .i64 c.a.cyc,.int .i64 c.b.num,.int .i64 c.b.yr,.int .u8 c.b.half,.int .u8 c.b.sec,.int .i64 c.b.cyc,.int .i64 c.n]) T_agg_26 T_size_26 rfl (hS.ptAt (i:=4) rfl) (Nat.le_of_ble_eq_true rfl) rfl) ?_
        clear hf a; intro a hf
        exact O.nil ⟨rfl,hf.to trivial,(gt (d:=30) hf rfl rfl),hD⟩
      · exact absurd h2_ (by simp)
    · intro k s g w h1_ h2_ hsp hD a hf
      obtain ⟨b_s4,cv,v6⟩:=g
      obtain rfl:k=2:=Nat.le_antisymm h2_ h1_
      have ha_3:s 3=true:=hsp 3 (by simp)
      have hS:St w0 w noX [ordA,rdv 12 vl l.length (encs eC l)] (sl 26 12 v6 ((l++[c]).length) (encs eC (l++[c]))::pt b_s4 (.cells #[.int .u8 c.kind,.int .i64 c.a.num,.int .i64 c.a.yr,.int .u8 c.a.half,.int .u8 c.a.sec,.int .i64 c.a.cyc,.int .i64 c.b.num,.int .i64 c.b.yr,.int .u8 c.b.half,.int .u8 c.b.sec,.int .i64 c.b.cyc,.int .i64 c.n] 26 (0,0))::MZ164):=hD;
      replace hS:St w0 w noX [ordA,rdv 12 vl l.length (encs eC l)] (sl 26 12 v6 ((l++[c]).length) (encs eC (l++[c]))::pt b_s4 (.cells #[.int .u8 c.kind,.int .i64 c.a.num,.int .i64 c.a.yr,.int .u8 c.a.half,.int .u8 c.a.sec,.int .i64 c.a.cyc,.int .i64 c.b.num,.int .i64 c.b.yr,.int .u8 c.b.half,.int .u8 c.b.sec,.int .i64 c.b.cyc,.int .i64 c.n] 26 (0,0))::MZ164):=hS
      replace hf:Fr a 43 [] ((28,vl)::(29,cv)::(30,.agg #[.int .u8 c.kind,.int .i64 c.a.num,.int .i64 c.a.yr,.int .u8 c.a.half,.int .u8 c.a.sec,.int .i64 c.a.cyc,.int .i64 c.b.num,.int .i64 c.b.yr,.int .u8 c.b.half,.int .u8 c.b.sec,.int .i64 c.b.cyc,.int .i64 c.n])::(31,.slice (some ⟨b_s4,0,none⟩) 1 1)::(32,v6)::LZ164):=hf
      refine O.val hf rfl rfl rfl (RunV.assign rfl) ?_
      clear hf a; intro a hf
      exact O.nil ⟨rfl,hf.to trivial,(gt (d:=10) hf rfl rfl),hD⟩
  · clear hf hf1 hS
    refine ⟨?_,?_,trivial⟩
    · intro s g w hsp hD a hf
      obtain ⟨b_s4,cv,v6⟩:=g
      have hS:St w0 w noX [ordA,rdv 12 vl l.length (encs eC l)] (condA (s 3) (pt b_s4 (.cells #[.int .u8 c.kind,.int .i64 c.a.num,.int .i64 c.a.yr,.int .u8 c.a.half,.int .u8 c.a.sec,.int .i64 c.a.cyc,.int .i64 c.b.num,.int .i64 c.b.yr,.int .u8 c.b.half,.int .u8 c.b.sec,.int .i64 c.b.cyc,.int .i64 c.n] 26 (0,0)))::MZ164):=hD;
      replace hf:Fr a 43 [] ((28,vl)::LZ164):=hf
      clear hD
      refine O.callR hf rfl rfl rfl (RunE.call (av:=#[vl]) C_ok_33 rfl rfl rfl) (cloneC_spec vl l _ hfit (hS.rdAt (j:=1) rfl) (by omega)) ?_
      clear hf a
      rintro cv w7 hS1 a hf
      replace hf:Fr a _ _ ((29,cv)::_):=hf
      replace hS:=(hS.call hS1).eqM (N:=(sl 26 12 cv l.length (encs eC l)::condA (s 3) (pt b_s4 (.cells #[.int .u8 c.kind,.int .i64 c.a.num,.int .i64 c.a.yr,.int .u8 c.a.half,.int .u8 c.a.sec,.int .i64 c.a.cyc,.int .i64 c.b.num,.int .i64 c.b.yr,.int .u8 c.b.half,.int .u8 c.b.sec,.int .i64 c.b.cyc,.int .i64 c.n] 26 (0,0)))::MZ164)) rfl
      clear hS1
      exact O.nil ⟨rfl,(b_s4,cv,v6),hf.to trivial,(gt (d:=29) hf rfl rfl),(fun j_ hj_ ha_=>match j_,hj_,ha_ with | 0,hj_,ha_=>rfl | 1,hj_,ha_=>absurd rfl hj_ | 2,hj_,ha_=>rfl | 3,hj_,ha_=>rfl | 4,hj_,ha_=>absurd ha_ (by decide) | 5,hj_,ha_=>absurd ha_ (by decide) | _+6,_,_=>rfl),hS⟩
    · intro s g w hsp hD a hf
      obtain ⟨b_s4,cv,v6⟩:=g
      have ha_3:s 3=true:=hsp 3 (by simp)
      have hS:St w0 w noX [ordA,rdv 12 vl l.length (encs eC l)] (sl 26 12 cv l.length (encs eC l)::condA (s 3) (pt b_s4 (.cells #[.int .u8 c.kind,.int .i64 c.a.num,.int .i64 c.a.yr,.int .u8 c.a.half,.int .u8 c.a.sec,.int .i64 c.a.cyc,.int .i64 c.b.num,.int .i64 c.b.yr,.int .u8 c.b.half,.int .u8 c.b.sec,.int .i64 c.b.cyc,.int .i64 c.n] 26 (0,0)))::MZ164):=hD; rw [ha_3] at hS
      replace hS:St w0 w noX [ordA,rdv 12 vl l.length (encs eC l)] (sl 26 12 cv l.length (encs eC l)::pt b_s4 (.cells #[.int .u8 c.kind,.int .i64 c.a.num,.int .i64 c.a.yr,.int .u8 c.a.half,.int .u8 c.a.sec,.int .i64 c.a.cyc,.int .i64 c.b.num,.int .i64 c.b.yr,.int .u8 c.b.half,.int .u8 c.b.sec,.int .i64 c.b.cyc,.int .i64 c.n] 26 (0,0))::MZ164):=hS
      replace hf:Fr a 43 [] ((29,cv)::(31,.slice (some ⟨b_s4,0,none⟩) 1 1)::LZ164):=hf
      clear hD
      refine O.append1 (j:=0) (jj:=1) hf hS rfl rfl T_elem_22 T_size_26 T_bytes_26 T_zero_26 rfl rfl rfl rfl rfl rfl rfl rfl (by unfold maxLen; omega) (by omega) ?_
      clear hf hS a; intro v8 w a hS hf
      replace hS:=hS.eqM (N:=(sl 26 12 v8 (l.length+1) (encs eC l++[.int .u8 c.kind,.int .i64 c.a.num,.int .i64 c.a.yr,.int .u8 c.a.half,.int .u8 c.a.sec,.int .i64 c.a.cyc,.int .i64 c.b.num,.int .i64 c.b.yr,.int .u8 c.b.half,.int .u8 c.b.sec,.int .i64 c.b.cyc,.int .i64 c.n])::pt b_s4 (.cells #[.int .u8 c.kind,.int .i64 c.a.num,.int .i64 c.a.yr,.int .u8 c.a.half,.int .u8 c.a.sec,.int .i64 c.a.cyc,.int .i64 c.b.num,.int .i64 c.b.yr,.int .u8 c.b.half,.int .u8 c.b.sec,.int .i64 c.b.cyc,.int .i64 c.n] 26 (0,0))::MZ164)) rfl
      replace hS:=hS.reE (i:=0) (M':=(sl 26 12 v8 ((l++[c]).length) (encs eC (l++[c]))::pt b_s4 (.cells #[.int .u8 c.kind,.int .i64 c.a.num,.int .i64 c.a.yr,.int .u8 c.a.half,.int .u8 c.a.sec,.int .i64 c.a.cyc,.int .i64 c.b.num,.int .i64 c.b.yr,.int .u8 c.b.half,.int .u8 c.b.sec,.int .i64 c.b.cyc,.int .i64 c.n] 26 (0,0))::MZ164)) rfl (sl_snoc (enc:=eC) (l:=l) (x:=c)) rfl
      exact O.nil ⟨rfl,(b_s4,cv,v8),hf.to trivial,(gt (d:=32) hf rfl rfl),(fun j_ hj_ ha_=>match j_,hj_,ha_ with | 0,hj_,ha_=>rfl | 1,hj_,ha_=>rfl | 2,hj_,ha_=>rfl | 3,hj_,ha_=>rfl | 4,hj_,ha_=>absurd rfl hj_ | 5,hj_,ha_=>absurd ha_ (by decide) | _+6,_,_=>rfl),hS⟩
  · clear hf hf1 hS
    refine ⟨?_,trivial⟩
    · intro k s g w h1_ h2_ hs0 hD a hf
      obtain ⟨b_s4,cv,v6⟩:=g
      rcases k with _ | _ | k
      · have hS:St w0 w noX [ordA,rdv 12 vl l.length (encs eC l)] (condA (s 3) (pt b_s4 (.cells #[.int .u8 c.kind,.int .i64 c.a.num,.int .i64 c.a.yr,.int .u8 c.a.half,.int .u8 c.a.sec,.int .i64 c.a.cyc,.int .i64 c.b.num,.int .i64 c.b.yr,.int .u8 c.b.half,.int .u8 c.b.sec,.int .i64 c.b.cyc,.int .i64 c.n] 26 (0,0)))::MZ164):=hD; clear hD
        replace hf:Fr a 43 [] ((30,.agg #[.int .u8 c.kind,.int .i64 c.a.num,.int .i64 c.a.yr,.int .u8 c.a.half,.int .u8 c.a.sec,.int .i64 c.a.cyc,.int .i64 c.b.num,.int .i64 c.b.yr,.int .u8 c.b.half,.int .u8 c.b.sec,.int .i64 c.b.cyc,.int .i64 c.n])::LZ164):=hf
        refine O.buildC (j:=0) (cs':=#[.int .u8 c.kind,.int .i64 c.a.num,.int .i64 c.a.yr,.int .u8 c.a.half,.int .u8 c.a.sec,.int .i64 c.a.cyc,.int .i64 c.b.num,.int .i64 c.b.yr,.int .u8 c.b.half,.int .u8 c.b.sec,.int .i64 c.b.cyc,.int .i64 c.n]) (zs:=#[.int .u8 0,.int .i64 0,.int .i64 0,.int .u8 0,.int .u8 0,.int .i64 0,.int .i64 0,.int .i64 0,.int .u8 0,.int .u8 0,.int .i64 0,.int .i64 0]) hf hS rfl hs0 rfl rfl T_elem_22 T_size_26 T_zero_26 rfl rfl (by kernel_rfl) rfl (by kernel_rfl) ?_; clear hf hS a; intro b_s9 w a hS hf
        exact O.nil ⟨rfl,(b_s9,cv,v6),hf.to trivial,(gt (d:=31) hf rfl rfl),(fun j_ hj_ ha_=>match j_,hj_,ha_ with | 0,hj_,ha_=>rfl | 1,hj_,ha_=>rfl | 2,hj_,ha_=>rfl | 3,hj_,ha_=>absurd rfl hj_ | 4,hj_,ha_=>absurd ha_ (by decide) | 5,hj_,ha_=>absurd ha_ (by decide) | _+6,_,_=>rfl),hS⟩
      · have hS:St w0 w noX [ordA,rdv 12 vl l.length (encs eC l)] (sl 26 12 cv l.length (encs eC l)::condA (s 3) (pt b_s4 (.cells #[.int .u8 c.kind,.int .i64 c.a.num,.int .i64 c.a.yr,.int .u8 c.a.half,.int .u8 c.a.sec,.int .i64 c.a.cyc,.int .i64 c.b.num,.int .i64 c.b.yr,.int .u8 c.b.half,.int .u8 c.b.sec,.int .i64 c.b.cyc,.int .i64 c.n] 26 (0,0)))::MZ164):=hD; clear hD
        replace hf:Fr a 43 [] ((30,.agg #[.int .u8 c.kind,.int .i64 c.a.num,.int .i64 c.a.yr,.int .u8 c.a.half,.int .u8 c.a.sec,.int .i64 c.a.cyc,.int .i64 c.b.num,.int .i64 c.b.yr,.int .u8 c.b.half,.int .u8 c.b.sec,.int .i64 c.b.cyc,.int .i64 c.n])::LZ164):=hf
        refine O.buildC (j:=1) (cs':=#[.int .u8 c.kind,.int .i64 c.a.num,.int .i64 c.a.yr,.int .u8 c.a.half,.int .u8 c.a.sec,.int .i64 c.a.cyc,.int .i64 c.b.num,.int .i64 c.b.yr,.int .u8 c.b.half,.int .u8 c.b.sec,.int .i64 c.b.cyc,.int .i64 c.n]) (zs:=#[.int .u8 0,.int .i64 0,.int .i64 0,.int .u8 0,.int .u8 0,.int .i64 0,.int .i64 0,.int .i64 0,.int .u8 0,.int .u8 0,.int .i64 0,.int .i64 0]) hf hS rfl hs0 rfl rfl T_elem_22 T_size_26 T_zero_26 rfl rfl (by kernel_rfl) rfl (by kernel_rfl) ?_; clear hf hS a; intro b_s10 w a hS hf
        exact O.nil ⟨rfl,(b_s10,cv,v6),hf.to trivial,(gt (d:=31) hf rfl rfl),(fun j_ hj_ ha_=>match j_,hj_,ha_ with | 0,hj_,ha_=>rfl | 1,hj_,ha_=>rfl | 2,hj_,ha_=>rfl | 3,hj_,ha_=>absurd rfl hj_ | 4,hj_,ha_=>absurd ha_ (by decide) | 5,hj_,ha_=>absurd ha_ (by decide) | _+6,_,_=>rfl),hS⟩
      · exact absurd h2_ (by simp)
  clear hf hf1 hS; intro s g a w hs_ hf hD
  obtain ⟨b_s4,cv,v6⟩:=g
  have ha_3:s 3=true:=hs_ 3 (by simp)
  have hS:St w0 w noX [ordA,rdv 12 vl l.length (encs eC l)] (sl 26 12 v6 ((l++[c]).length) (encs eC (l++[c]))::pt b_s4 (.cells #[.int .u8 c.kind,.int .i64 c.a.num,.int .i64 c.a.yr,.int .u8 c.a.half,.int .u8 c.a.sec,.int .i64 c.a.cyc,.int .i64 c.b.num,.int .i64 c.b.yr,.int .u8 c.b.half,.int .u8 c.b.sec,.int .i64 c.b.cyc,.int .i64 c.n] 26 (0,0))::MZ164):=hD; clear hD
  replace hf:Fr a 43 [] ((28,vl)::(29,cv)::(30,.agg #[.int .u8 c.kind,.int .i64 c.a.num,.int .i64 c.a.yr,.int .u8 c.a.half,.int .u8 c.a.sec,.int .i64 c.a.cyc,.int .i64 c.b.num,.int .i64 c.b.yr,.int .u8 c.b.half,.int .u8 c.b.sec,.int .i64 c.b.cyc,.int .i64 c.n])::(31,.slice (some ⟨b_s4,0,none⟩) 1 1)::(32,v6)::(10,v6)::LZ164):=hf
  refine k_seq ?_
  replace hf:Fr a 43 [] [(4,.slice none 0 0),(5,.int .i64 0),(10,v6)]:=hf.to ⟨rfl,rfl,rfl,trivial⟩
  refine W.seq ?_
  refine W.seq ?_
  refine W.regionL (l:=[0,1,2,3,4,5,6,7,8]) rfl ?_
  refine O.val hf rfl rfl rfl (RunV.move rfl) ?_
  clear hf a; intro a hf
  refine O.callR hf rfl rfl rfl (RunE.call (av:=#[v6]) C_ok_32 rfl rfl rfl) (history_err v6 (l++[c]) _ (hS.bptO (i:=0) rfl) (hS.slr (j:=0) rfl) (slOK.fit (hS.slAt (j:=0) rfl)) hm2) ?_
  clear hf a
  rintro _ w11 hS1 a hf
  replace hf:Fr a _ _ ((35,.tuple #[.map none,(.slice none 0 0),.int .i64 e])::_):=hf
  replace hS:=(hS.call hS1).eqM (N:=(sl 26 12 v6 ((l++[c]).length) (encs eC (l++[c]))::pt b_s4 (.cells #[.int .u8 c.kind,.int .i64 c.a.num,.int .i64 c.a.yr,.int .u8 c.a.half,.int .u8 c.a.sec,.int .i64 c.a.cyc,.int .i64 c.b.num,.int .i64 c.b.yr,.int .u8 c.b.half,.int .u8 c.b.sec,.int .i64 c.b.cyc,.int .i64 c.n] 26 (0,0))::MZ164)) rfl
  clear hS1
  refine O.val hf rfl rfl rfl (RunV.move rfl) ?_
  clear hf a; intro a hf
  refine O.val hf rfl rfl rfl (RunV.extract rfl rfl) ?_
  clear hf a; intro a hf
  refine O.val hf rfl rfl rfl (RunV.extract rfl rfl) ?_
  clear hf a; intro a hf
  refine O.val hf rfl rfl rfl (RunV.extract rfl rfl) ?_
  clear hf a; intro a hf
  refine O.val hf rfl rfl rfl (RunV.assign rfl) ?_
  clear hf a; intro a hf
  refine O.val hf rfl rfl rfl (RunV.assign rfl) ?_
  clear hf a; intro a hf
  refine O.val hf rfl rfl rfl (RunV.assign rfl) ?_
  clear hf a; intro a hf
  refine O.nil ?_
  refine k_seq ?_
  replace hf:Fr a 43 [] [(4,.slice none 0 0),(5,.int .i64 0),(10,v6),(13,.int .i64 e)]:=hf.to ⟨rfl,rfl,rfl,rfl,trivial⟩
  refine W.seq ?_
  refine W.regionL (l:=[0,1]) rfl ?_
  refine O.val hf rfl rfl rfl (RunV.move rfl) ?_
  clear hf a; intro a hf
  refine O.val (v:=.bool (decide (e≠(0:Int)))) hf rfl rfl rfl (RunV.neq rfl rfl) ?_
  clear hf a; intro a hf
  refine O.nil ?_
  refine k_seq ?_
  replace hf:Fr a 43 [] [(4,.slice none 0 0),(5,.int .i64 0),(10,v6),(13,.int .i64 e),(40,.bool (decide (e≠(0:Int))))]:=hf.to ⟨rfl,rfl,rfl,rfl,rfl,trivial⟩
  refine W.ifdI hf rfl (fun h1=>?_) (fun h1=>?_)
  · refine W.seq ?_
    refine W.regionL (l:=[0,1,2]) rfl ?_
    refine O.val hf rfl rfl rfl (RunV.move rfl) ?_
    clear hf a; intro a hf
    refine O.val hf rfl rfl rfl (RunV.assign rfl) ?_
    clear hf a; intro a hf
    refine O.val hf rfl rfl rfl (RunV.assign rfl) ?_
    clear hf a; intro a hf
    refine O.nil ?_
    refine k_seq ?_
    replace hf:Fr a 43 [] [(4,.slice none 0 0),(5,.int .i64 e),(10,v6)]:=hf.to ⟨rfl,rfl,rfl,trivial⟩
    refine W.ret ?_
    refine k_then_ret ?_
    refine post2 hf rfl (ResOK.tmp rfl) (ResOK.tmp rfl) ?_
    first
      | exact absurd he0 h1
      | exact ⟨(),rfl,hS.sub (List.nil_sublist _) |>.noB⟩
  · refine W.skip ?_
    refine k_seq ?_
    replace hf:Fr a 43 [] [(4,.slice none 0 0),(5,.int .i64 0),(10,v6)]:=hf.to ⟨rfl,rfl,rfl,trivial⟩
    refine W.seq ?_
    refine W.regionL (l:=[0,1,2]) rfl ?_
    refine O.val hf rfl rfl rfl (RunV.move rfl) ?_
    clear hf a; intro a hf
    refine O.val hf rfl rfl rfl (RunV.assign rfl) ?_
    clear hf a; intro a hf
    refine O.val hf rfl rfl rfl (RunV.assign rfl) ?_
    clear hf a; intro a hf
    refine O.nil ?_
    refine k_seq ?_
    replace hf:Fr a 43 [] [(4,v6),(5,.int .i64 0)]:=hf.to ⟨rfl,rfl,trivial⟩
    refine W.ret ?_
    refine post2 hf rfl (ResOK.tmp rfl) (ResOK.tmp rfl) ?_
    first
      | exact absurd he0 h1
      | exact ⟨(),rfl,hS.sub (List.nil_sublist _) |>.noB⟩
set_option maxHeartbeats 400000 in
set_option maxRecDepth 4000 in
theorem apply_ok (vl:Value) (l:List Ch) (c:Ch) (w0:World) (hG:Lent w0 ordA) (hl:rdOK (hp w0) 12 vl l.length (encs eC l)) (hfit:vfit vl) (hz:l.length≤1000) (S:List PG) (us:List Bool) (hm:histM l=.ok (S,us)) (hc:okC c=true) (S2:List PG) (us2:List Bool) (hm2:histM (l++[c])=.ok (S2,us2)) :
    Ret Tryd.prog 11 #[vl,.agg #[.int .u8 c.kind,.int .i64 c.a.num,.int .i64 c.a.yr,.int .u8 c.a.half,.int .u8 c.a.sec,.int .i64 c.a.cyc,.int .i64 c.b.num,.int .i64 c.b.yr,.int .u8 c.b.half,.int .u8 c.b.sec,.int .i64 c.b.cyc,.int .i64 c.n]] w0 (G:=Value) (fun g=>.tuple #[g,.int .i64 0]) (fun g w=>St w0 w noX [] [slE 26 12 eC g (l++[c])]):=by
  refine ret_of_W (lv:=[vl,.agg #[.int .u8 c.kind,.int .i64 c.a.num,.int .i64 c.a.yr,.int .u8 c.a.half,.int .u8 c.a.sec,.int .i64 c.a.cyc,.int .i64 c.b.num,.int .i64 c.b.yr,.int .u8 c.b.half,.int .u8 c.b.sec,.int .i64 c.b.cyc,.int .i64 c.n]]) Tryd.func11 rfl rfl rfl (fun a hf=>?_)
  replace hf:Fr a 43 [] [(0,vl),(1,.agg #[.int .u8 c.kind,.int .i64 c.a.num,.int .i64 c.a.yr,.int .u8 c.a.half,.int .u8 c.a.sec,.int .i64 c.a.cyc,.int .i64 c.b.num,.int .i64 c.b.yr,.int .u8 c.b.half,.int .u8 c.b.sec,.int .i64 c.b.cyc,.int .i64 c.n])]:=hf
  have hS:St w0 w0 noX [ordA,rdv 12 vl l.length (encs eC l)] []:=((St.refl w0).lend0 hl).lendA hG
  have hlm:=hl.2.1
  unfold maxLen at hlm
  refine W.seq ?_
  refine W.regionL (l:=[0,1,2]) rfl ?_
  refine O.box (cs:=#[.int .u8 c.kind,.int .i64 c.a.num,.int .i64 c.a.yr,.int .u8 c.a.half,.int .u8 c.a.sec,.int .i64 c.a.cyc,.int .i64 c.b.num,.int .i64 c.b.yr,.int .u8 c.b.half,.int .u8 c.b.sec,.int .i64 c.b.cyc,.int .i64 c.n]) hf hS rfl rfl rfl rfl ?_
  clear hf hS a; intro b_c1 w a hbb_c1 hS hf
  refine O.val hf rfl rfl rfl (RunV.assign rfl) ?_
  clear hf a; intro a hf
  refine O.val hf rfl rfl rfl (RunV.assign rfl) ?_
  clear hf a; intro a hf
  refine O.nil ?_
  refine k_seq ?_
  replace hf:Fr a 43 [] [(0,vl),(3,.pointer (some ⟨b_c1,0,none⟩)),(4,.slice none 0 0),(5,.int .i64 0)]:=hf.to ⟨rfl,rfl,rfl,rfl,trivial⟩
  refine W.seq ?_
  refine W.seq ?_
  refine W.regionL (l:=[0,1,2,3,4,5,6,7,8]) rfl ?_
  refine O.val hf rfl rfl rfl (RunV.move rfl) ?_
  clear hf a; intro a hf
  refine O.callR hf rfl rfl rfl (RunE.call (av:=#[vl]) C_ok_32 rfl rfl rfl) (history_ok vl l _ (hS.bptO (i:=0) rfl) (hS.rdAt (j:=1) rfl) hfit hm) ?_
  clear hf a
  rintro ⟨uv,bm,kvs,gs⟩ w2 ⟨hS1,hI⟩ a hf
  replace hf:Fr a _ _ ((16,.tuple #[.map (some bm),uv,.int .i64 0])::_):=hf
  replace hS:=(hS.call hS1).eqM (N:=[stA 95 24 bm kvs gs,sl 4 1 uv us.length (bools us),pt b_c1 (.cells #[.int .u8 c.kind,.int .i64 c.a.num,.int .i64 c.a.yr,.int .u8 c.a.half,.int .u8 c.a.sec,.int .i64 c.a.cyc,.int .i64 c.b.num,.int .i64 c.b.yr,.int .u8 c.b.half,.int .u8 c.b.sec,.int .i64 c.b.cyc,.int .i64 c.n] 26 (0,0))]) rfl
  clear hS1
  refine O.val hf rfl rfl rfl (RunV.move rfl) ?_
  clear hf a; intro a hf
  refine O.val hf rfl rfl rfl (RunV.extract rfl rfl) ?_
  clear hf a; intro a hf
  refine O.val hf rfl rfl rfl (RunV.extract rfl rfl) ?_
  clear hf a; intro a hf
  refine O.val hf rfl rfl rfl (RunV.extract rfl rfl) ?_
  clear hf a; intro a hf
  refine O.val hf rfl rfl rfl (RunV.assign rfl) ?_
  clear hf a; intro a hf
  refine O.val hf rfl rfl rfl (RunV.assign rfl) ?_
  clear hf a; intro a hf
  refine O.val hf rfl rfl rfl (RunV.assign rfl) ?_
  clear hf a; intro a hf
  refine O.nil ?_
  refine k_seq ?_
  replace hf:Fr a 43 [] [(0,vl),(3,.pointer (some ⟨b_c1,0,none⟩)),(4,.slice none 0 0),(5,.int .i64 0),(8,.int .i64 0)]:=hf.to ⟨rfl,rfl,rfl,rfl,rfl,trivial⟩
  refine W.seq ?_
  refine W.regionL (l:=[0,1]) rfl ?_
  refine O.val hf rfl rfl rfl (RunV.move rfl) ?_
  clear hf a; intro a hf
  refine O.val hf rfl rfl rfl (RunV.toB (c:=false) (RunV.neq rfl rfl) (by decide)) ?_
  clear hf a; intro a hf
  refine O.nil ?_
  refine k_seq ?_
  replace hf:Fr a 43 [] [(0,vl),(3,.pointer (some ⟨b_c1,0,none⟩)),(4,.slice none 0 0),(5,.int .i64 0),(8,.int .i64 0),(21,.bool false)]:=hf.to ⟨rfl,rfl,rfl,rfl,rfl,rfl,trivial⟩
  refine W.if_ff hf rfl ?_
  refine W.skip ?_
  refine k_seq ?_
  replace hf:Fr a 43 [] [(0,vl),(3,.pointer (some ⟨b_c1,0,none⟩)),(4,.slice none 0 0),(5,.int .i64 0)]:=hf.to ⟨rfl,rfl,rfl,rfl,trivial⟩
  refine W.seq ?_
  refine W.seq ?_
  refine W.regionL (l:=[0,1,2]) rfl ?_
  refine O.val hf rfl rfl rfl (RunV.loadN (cs':=#[.int .u8 c.kind,.int .i64 c.a.num,.int .i64 c.a.yr,.int .u8 c.a.half,.int .u8 c.a.sec,.int .i64 c.a.cyc,.int .i64 c.b.num,.int .i64 c.b.yr,.int .u8 c.b.half,.int .u8 c.b.sec,.int .i64 c.b.cyc,.int .i64 c.n]) T_agg_26 T_size_26 rfl (hS.ptAt (i:=2) rfl) (Nat.le_of_ble_eq_true rfl) rfl) ?_
  clear hf a; intro a hf
  refine O.callR hf rfl rfl rfl (RunE.call (av:=#[.agg #[.int .u8 c.kind,.int .i64 c.a.num,.int .i64 c.a.yr,.int .u8 c.a.half,.int .u8 c.a.sec,.int .i64 c.a.cyc,.int .i64 c.b.num,.int .i64 c.b.yr,.int .u8 c.b.half,.int .u8 c.b.sec,.int .i64 c.b.cyc,.int .i64 c.n]]) C_ok_25 rfl rfl rfl) (checkC_ok c _ (hS.bptO (i:=0) rfl) hc) ?_
  clear hf a
  rintro _ w3 hS1 a hf
  replace hf:Fr a _ _ ((24,.int .i64 0)::_):=hf
  replace hS:=(hS.call hS1).eqM (N:=[stA 95 24 bm kvs gs,sl 4 1 uv us.length (bools us),pt b_c1 (.cells #[.int .u8 c.kind,.int .i64 c.a.num,.int .i64 c.a.yr,.int .u8 c.a.half,.int .u8 c.a.sec,.int .i64 c.a.cyc,.int .i64 c.b.num,.int .i64 c.b.yr,.int .u8 c.b.half,.int .u8 c.b.sec,.int .i64 c.b.cyc,.int .i64 c.n] 26 (0,0))]) rfl
  clear hS1
  refine O.val hf rfl rfl rfl (RunV.assign rfl) ?_
  clear hf a; intro a hf
  refine O.nil ?_
  refine k_seq ?_
  replace hf:Fr a 43 [] [(0,vl),(3,.pointer (some ⟨b_c1,0,none⟩)),(4,.slice none 0 0),(5,.int .i64 0),(9,.int .i64 0)]:=hf.to ⟨rfl,rfl,rfl,rfl,rfl,trivial⟩
  refine W.seq ?_
  refine W.regionL (l:=[0,1]) rfl ?_
  refine O.val hf rfl rfl rfl (RunV.move rfl) ?_
  clear hf a; intro a hf
  refine O.val hf rfl rfl rfl (RunV.toB (c:=false) (RunV.neq rfl rfl) (by decide)) ?_
  clear hf a; intro a hf
  refine O.nil ?_
  refine k_seq ?_
  replace hf:Fr a 43 [] [(0,vl),(3,.pointer (some ⟨b_c1,0,none⟩)),(4,.slice none 0 0),(5,.int .i64 0),(9,.int .i64 0),(26,.bool false)]:=hf.to ⟨rfl,rfl,rfl,rfl,rfl,rfl,trivial⟩
  refine W.if_ff hf rfl ?_
  refine W.skip ?_
  refine k_seq ?_
  replace hf:Fr a 43 [] [(0,vl),(3,.pointer (some ⟨b_c1,0,none⟩)),(4,.slice none 0 0),(5,.int .i64 0)]:=hf.to ⟨rfl,rfl,rfl,rfl,trivial⟩
  refine W.seq ?_
  have hf1:Fr a 43 [] []:=hf.to trivial
  replace hf:Fr a 43 [] [(0,vl),(3,.pointer (some ⟨b_c1,0,none⟩)),(4,.slice none 0 0),(5,.int .i64 0)]:=hf.to ⟨rfl,rfl,rfl,rfl,trivial⟩
  replace hS:=hS.drew
  replace hS:=hS.emp
  let LZ426:List (Nat × Value):=[(0,vl),(3,.pointer (some ⟨b_c1,0,none⟩)),(4,.slice none 0 0),(5,.int .i64 0)]
  let MZ426:List Asr:=[stA 95 24 bm kvs gs,sl 4 1 uv us.length (bools us),pt b_c1 (.cells #[.int .u8 c.kind,.int .i64 c.a.num,.int .i64 c.a.yr,.int .u8 c.a.half,.int .u8 c.a.sec,.int .i64 c.a.cyc,.int .i64 c.b.num,.int .i64 c.b.yr,.int .u8 c.b.half,.int .u8 c.b.sec,.int .i64 c.b.cyc,.int .i64 c.n] 26 (0,0))]
  refine W.drawC (γ:=(Nat) × (Value) × (Value)) (L0:=LZ426) (L1:=[]) (0,default,default) [1,4] [3] [0,2,5] (fun i=>match i with | 1=>[0] | 3=>[2] | 4=>[1,3] | 5=>[0,1,2,3,4] | _=>[]) (fun i=>match i with | 4=>[1,3] | 5=>[1,4,3] | _=>[]) (fun i=>match i with | 0=>[1,4] | 1=>[4] | 2=>[4] | 3=>[4] | _=>[]) (fun i=>match i with | 4=>[3] | 5=>[3] | _=>[]) (fun i=>match i with | 1=>[4,5] | 3=>[4,5] | 4=>[5] | _=>[]) (fun _=>[]) (fun i=>match i with | 4=>1 | 5=>2 | _=>0) (fun i=>match i with | 1=>1 | 2=>1 | 3=>1 | 4=>2 | 5=>2 | _=>0) (fun (g:(Nat) × (Value) × (Value)) j=>match g,j with | ⟨b_s4,cv,v6⟩,0=>vl | ⟨b_s4,cv,v6⟩,1=>cv | ⟨b_s4,cv,v6⟩,2=>.agg #[.int .u8 c.kind,.int .i64 c.a.num,.int .i64 c.a.yr,.int .u8 c.a.half,.int .u8 c.a.sec,.int .i64 c.a.cyc,.int .i64 c.b.num,.int .i64 c.b.yr,.int .u8 c.b.half,.int .u8 c.b.sec,.int .i64 c.b.cyc,.int .i64 c.n] | ⟨b_s4,cv,v6⟩,3=>.slice (some ⟨b_s4,0,none⟩) 1 1 | ⟨b_s4,cv,v6⟩,4=>v6 | ⟨b_s4,cv,v6⟩,5=>v6 | _,_=>undef) (fun k s (g:(Nat) × (Value) × (Value)) w=>match k,g with | 0,⟨b_s4,cv,v6⟩=>St w0 w noX [ordA,rdv 12 vl l.length (encs eC l)] (condA (s 3) (pt b_s4 (.cells #[.int .u8 c.kind,.int .i64 c.a.num,.int .i64 c.a.yr,.int .u8 c.a.half,.int .u8 c.a.sec,.int .i64 c.a.cyc,.int .i64 c.b.num,.int .i64 c.b.yr,.int .u8 c.b.half,.int .u8 c.b.sec,.int .i64 c.b.cyc,.int .i64 c.n] 26 (0,0)))::MZ426) | 1,⟨b_s4,cv,v6⟩=>St w0 w noX [ordA,rdv 12 vl l.length (encs eC l)] (sl 26 12 cv l.length (encs eC l)::condA (s 3) (pt b_s4 (.cells #[.int .u8 c.kind,.int .i64 c.a.num,.int .i64 c.a.yr,.int .u8 c.a.half,.int .u8 c.a.sec,.int .i64 c.a.cyc,.int .i64 c.b.num,.int .i64 c.b.yr,.int .u8 c.b.half,.int .u8 c.b.sec,.int .i64 c.b.cyc,.int .i64 c.n] 26 (0,0)))::MZ426) | _,⟨b_s4,cv,v6⟩=>St w0 w noX [ordA,rdv 12 vl l.length (encs eC l)] (sl 26 12 v6 ((l++[c]).length) (encs eC (l++[c]))::pt b_s4 (.cells #[.int .u8 c.kind,.int .i64 c.a.num,.int .i64 c.a.yr,.int .u8 c.a.half,.int .u8 c.a.sec,.int .i64 c.a.cyc,.int .i64 c.b.num,.int .i64 c.b.yr,.int .u8 c.b.half,.int .u8 c.b.sec,.int .i64 c.b.cyc,.int .i64 c.n] 26 (0,0))::MZ426)) P_mixed (by kernel_rfl) (by kernel_rfl) (by kernel_rfl) hf hf1 hS ?_ ?_ ?_ ?_
  · clear hf hf1 hS
    refine ⟨?_,?_,?_,trivial⟩
    · intro k s g w h1_ h2_ hsp hD a hf
      obtain ⟨b_s4,cv,v6⟩:=g
      obtain rfl:k=0:=Nat.le_antisymm h2_ h1_
      have hS:St w0 w noX [ordA,rdv 12 vl l.length (encs eC l)] (condA (s 3) (pt b_s4 (.cells #[.int .u8 c.kind,.int .i64 c.a.num,.int .i64 c.a.yr,.int .u8 c.a.half,.int .u8 c.a.sec,.int .i64 c.a.cyc,.int .i64 c.b.num,.int .i64 c.b.yr,.int .u8 c.b.half,.int .u8 c.b.sec,.int .i64 c.b.cyc,.int .i64 c.n] 26 (0,0)))::MZ426):=hD;
      replace hf:Fr a 43 [] LZ426:=hf
      refine O.val hf rfl rfl rfl (RunV.move rfl) ?_
      clear hf a; intro a hf
      exact O.nil ⟨rfl,hf.to trivial,(gt (d:=28) hf rfl rfl),hD⟩
    · intro k s g w h1_ h2_ hsp hD a hf
      obtain ⟨b_s4,cv,v6⟩:=g
      rcases k with _ | _ | k
      · have hS:St w0 w noX [ordA,rdv 12 vl l.length (encs eC l)] (condA (s 3) (pt b_s4 (.cells #[.int .u8 c.kind,.int .i64 c.a.num,.int .i64 c.a.yr,.int .u8 c.a.half,.int .u8 c.a.sec,.int .i64 c.a.cyc,.int .i64 c.b.num,.int .i64 c.b.yr,.int .u8 c.b.half,.int .u8 c.b.sec,.int .i64 c.b.cyc,.int .i64 c.n] 26 (0,0)))::MZ426):=hD;
        replace hf:Fr a 43 [] LZ426:=hf
        refine O.val hf rfl rfl rfl (RunV.loadN (cs':=#[.int .u8 c.kind,.int .i64 c.a.num,.int .i64 c.a.yr,.int .u8 c.a.half,.int .u8 c.a.sec,.int .i64 c.a.cyc,.int .i64 c.b.num,.int .i64 c.b.yr,.int .u8 c.b.half,.int .u8 c.b.sec,.int .i64 c.b.cyc,.int .i64 c.n]) T_agg_26 T_size_26 rfl (hS.ptAt (i:=3) rfl) (Nat.le_of_ble_eq_true rfl) rfl) ?_
        clear hf a; intro a hf
        exact O.nil ⟨rfl,hf.to trivial,(gt (d:=30) hf rfl rfl),hD⟩
      · have hS:St w0 w noX [ordA,rdv 12 vl l.length (encs eC l)] (sl 26 12 cv l.length (encs eC l)::condA (s 3) (pt b_s4 (.cells #[.int .u8 c.kind,.int .i64 c.a.num,.int .i64 c.a.yr,.int .u8 c.a.half,.int .u8 c.a.sec,.int .i64 c.a.cyc,.int .i64 c.b.num,.int .i64 c.b.yr,.int .u8 c.b.half,.int .u8 c.b.sec,.int .i64 c.b.cyc,.int .i64 c.n] 26 (0,0)))::MZ426):=hD;
        replace hf:Fr a 43 [] LZ426:=hf
        refine O.val hf rfl rfl rfl (RunV.loadN (cs':=#[.int .u8 c.kind,.int .i64 c.a.num,.int .i64 c.a.yr,.int .u8 c.a.half,.int .u8 c.a.sec,.int .i64 c.a.cyc,.int .i64 c.b.num,.int .i64 c.b.yr,.int .u8 c.b.half,.int .u8 c.b.sec,.int .i64 c.b.cyc,.int .i64 c.n]) T_agg_26 T_size_26 rfl (hS.ptAt (i:=4) rfl) (Nat.le_of_ble_eq_true rfl) rfl) ?_
        clear hf a; intro a hf
        exact O.nil ⟨rfl,hf.to trivial,(gt (d:=30) hf rfl rfl),hD⟩
      · exact absurd h2_ (by simp)
    · intro k s g w h1_ h2_ hsp hD a hf
      obtain ⟨b_s4,cv,v6⟩:=g
      obtain rfl:k=2:=Nat.le_antisymm h2_ h1_
      have ha_3:s 3=true:=hsp 3 (by simp)
      have hS:St w0 w noX [ordA,rdv 12 vl l.length (encs eC l)] (sl 26 12 v6 ((l++[c]).length) (encs eC (l++[c]))::pt b_s4 (.cells #[.int .u8 c.kind,.int .i64 c.a.num,.int .i64 c.a.yr,.int .u8 c.a.half,.int .u8 c.a.sec,.int .i64 c.a.cyc,.int .i64 c.b.num,.int .i64 c.b.yr,.int .u8 c.b.half,.int .u8 c.b.sec,.int .i64 c.b.cyc,.int .i64 c.n] 26 (0,0))::MZ426):=hD;
      replace hS:St w0 w noX [ordA,rdv 12 vl l.length (encs eC l)] (sl 26 12 v6 ((l++[c]).length) (encs eC (l++[c]))::pt b_s4 (.cells #[.int .u8 c.kind,.int .i64 c.a.num,.int .i64 c.a.yr,.int .u8 c.a.half,.int .u8 c.a.sec,.int .i64 c.a.cyc,.int .i64 c.b.num,.int .i64 c.b.yr,.int .u8 c.b.half,.int .u8 c.b.sec,.int .i64 c.b.cyc,.int .i64 c.n] 26 (0,0))::MZ426):=hS
      replace hf:Fr a 43 [] ((28,vl)::(29,cv)::(30,.agg #[.int .u8 c.kind,.int .i64 c.a.num,.int .i64 c.a.yr,.int .u8 c.a.half,.int .u8 c.a.sec,.int .i64 c.a.cyc,.int .i64 c.b.num,.int .i64 c.b.yr,.int .u8 c.b.half,.int .u8 c.b.sec,.int .i64 c.b.cyc,.int .i64 c.n])::(31,.slice (some ⟨b_s4,0,none⟩) 1 1)::(32,v6)::LZ426):=hf
      refine O.val hf rfl rfl rfl (RunV.assign rfl) ?_
      clear hf a; intro a hf
      exact O.nil ⟨rfl,hf.to trivial,(gt (d:=10) hf rfl rfl),hD⟩
  · clear hf hf1 hS
    refine ⟨?_,?_,trivial⟩
    · intro s g w hsp hD a hf
      obtain ⟨b_s4,cv,v6⟩:=g
      have hS:St w0 w noX [ordA,rdv 12 vl l.length (encs eC l)] (condA (s 3) (pt b_s4 (.cells #[.int .u8 c.kind,.int .i64 c.a.num,.int .i64 c.a.yr,.int .u8 c.a.half,.int .u8 c.a.sec,.int .i64 c.a.cyc,.int .i64 c.b.num,.int .i64 c.b.yr,.int .u8 c.b.half,.int .u8 c.b.sec,.int .i64 c.b.cyc,.int .i64 c.n] 26 (0,0)))::MZ426):=hD;
      replace hf:Fr a 43 [] ((28,vl)::LZ426):=hf
      clear hD
      refine O.callR hf rfl rfl rfl (RunE.call (av:=#[vl]) C_ok_33 rfl rfl rfl) (cloneC_spec vl l _ hfit (hS.rdAt (j:=1) rfl) (by omega)) ?_
      clear hf a
      rintro cv w7 hS1 a hf
      replace hf:Fr a _ _ ((29,cv)::_):=hf
      replace hS:=(hS.call hS1).eqM (N:=(sl 26 12 cv l.length (encs eC l)::condA (s 3) (pt b_s4 (.cells #[.int .u8 c.kind,.int .i64 c.a.num,.int .i64 c.a.yr,.int .u8 c.a.half,.int .u8 c.a.sec,.int .i64 c.a.cyc,.int .i64 c.b.num,.int .i64 c.b.yr,.int .u8 c.b.half,.int .u8 c.b.sec,.int .i64 c.b.cyc,.int .i64 c.n] 26 (0,0)))::MZ426)) rfl
      clear hS1
      exact O.nil ⟨rfl,(b_s4,cv,v6),hf.to trivial,(gt (d:=29) hf rfl rfl),(fun j_ hj_ ha_=>match j_,hj_,ha_ with | 0,hj_,ha_=>rfl | 1,hj_,ha_=>absurd rfl hj_ | 2,hj_,ha_=>rfl | 3,hj_,ha_=>rfl | 4,hj_,ha_=>absurd ha_ (by decide) | 5,hj_,ha_=>absurd ha_ (by decide) | _+6,_,_=>rfl),hS⟩
    · intro s g w hsp hD a hf
      obtain ⟨b_s4,cv,v6⟩:=g
      have ha_3:s 3=true:=hsp 3 (by simp)
      have hS:St w0 w noX [ordA,rdv 12 vl l.length (encs eC l)] (sl 26 12 cv l.length (encs eC l)::condA (s 3) (pt b_s4 (.cells #[.int .u8 c.kind,.int .i64 c.a.num,.int .i64 c.a.yr,.int .u8 c.a.half,.int .u8 c.a.sec,.int .i64 c.a.cyc,.int .i64 c.b.num,.int .i64 c.b.yr,.int .u8 c.b.half,.int .u8 c.b.sec,.int .i64 c.b.cyc,.int .i64 c.n] 26 (0,0)))::MZ426):=hD; rw [ha_3] at hS
      replace hS:St w0 w noX [ordA,rdv 12 vl l.length (encs eC l)] (sl 26 12 cv l.length (encs eC l)::pt b_s4 (.cells #[.int .u8 c.kind,.int .i64 c.a.num,.int .i64 c.a.yr,.int .u8 c.a.half,.int .u8 c.a.sec,.int .i64 c.a.cyc,.int .i64 c.b.num,.int .i64 c.b.yr,.int .u8 c.b.half,.int .u8 c.b.sec,.int .i64 c.b.cyc,.int .i64 c.n] 26 (0,0))::MZ426):=hS
      replace hf:Fr a 43 [] ((29,cv)::(31,.slice (some ⟨b_s4,0,none⟩) 1 1)::LZ426):=hf
      clear hD
      refine O.append1 (j:=0) (jj:=1) hf hS rfl rfl T_elem_22 T_size_26 T_bytes_26 T_zero_26 rfl rfl rfl rfl rfl rfl rfl rfl (by unfold maxLen; omega) (by omega) ?_
      clear hf hS a; intro v8 w a hS hf
      replace hS:=hS.eqM (N:=(sl 26 12 v8 (l.length+1) (encs eC l++[.int .u8 c.kind,.int .i64 c.a.num,.int .i64 c.a.yr,.int .u8 c.a.half,.int .u8 c.a.sec,.int .i64 c.a.cyc,.int .i64 c.b.num,.int .i64 c.b.yr,.int .u8 c.b.half,.int .u8 c.b.sec,.int .i64 c.b.cyc,.int .i64 c.n])::pt b_s4 (.cells #[.int .u8 c.kind,.int .i64 c.a.num,.int .i64 c.a.yr,.int .u8 c.a.half,.int .u8 c.a.sec,.int .i64 c.a.cyc,.int .i64 c.b.num,.int .i64 c.b.yr,.int .u8 c.b.half,.int .u8 c.b.sec,.int .i64 c.b.cyc,.int .i64 c.n] 26 (0,0))::MZ426)) rfl
      replace hS:=hS.reE (i:=0) (M':=(sl 26 12 v8 ((l++[c]).length) (encs eC (l++[c]))::pt b_s4 (.cells #[.int .u8 c.kind,.int .i64 c.a.num,.int .i64 c.a.yr,.int .u8 c.a.half,.int .u8 c.a.sec,.int .i64 c.a.cyc,.int .i64 c.b.num,.int .i64 c.b.yr,.int .u8 c.b.half,.int .u8 c.b.sec,.int .i64 c.b.cyc,.int .i64 c.n] 26 (0,0))::MZ426)) rfl (sl_snoc (enc:=eC) (l:=l) (x:=c)) rfl
      exact O.nil ⟨rfl,(b_s4,cv,v8),hf.to trivial,(gt (d:=32) hf rfl rfl),(fun j_ hj_ ha_=>match j_,hj_,ha_ with | 0,hj_,ha_=>rfl | 1,hj_,ha_=>rfl | 2,hj_,ha_=>rfl | 3,hj_,ha_=>rfl | 4,hj_,ha_=>absurd rfl hj_ | 5,hj_,ha_=>absurd ha_ (by decide) | _+6,_,_=>rfl),hS⟩
  · clear hf hf1 hS
    refine ⟨?_,trivial⟩
    · intro k s g w h1_ h2_ hs0 hD a hf
      obtain ⟨b_s4,cv,v6⟩:=g
      rcases k with _ | _ | k
      · have hS:St w0 w noX [ordA,rdv 12 vl l.length (encs eC l)] (condA (s 3) (pt b_s4 (.cells #[.int .u8 c.kind,.int .i64 c.a.num,.int .i64 c.a.yr,.int .u8 c.a.half,.int .u8 c.a.sec,.int .i64 c.a.cyc,.int .i64 c.b.num,.int .i64 c.b.yr,.int .u8 c.b.half,.int .u8 c.b.sec,.int .i64 c.b.cyc,.int .i64 c.n] 26 (0,0)))::MZ426):=hD; clear hD
        replace hf:Fr a 43 [] ((30,.agg #[.int .u8 c.kind,.int .i64 c.a.num,.int .i64 c.a.yr,.int .u8 c.a.half,.int .u8 c.a.sec,.int .i64 c.a.cyc,.int .i64 c.b.num,.int .i64 c.b.yr,.int .u8 c.b.half,.int .u8 c.b.sec,.int .i64 c.b.cyc,.int .i64 c.n])::LZ426):=hf
        refine O.buildC (j:=0) (cs':=#[.int .u8 c.kind,.int .i64 c.a.num,.int .i64 c.a.yr,.int .u8 c.a.half,.int .u8 c.a.sec,.int .i64 c.a.cyc,.int .i64 c.b.num,.int .i64 c.b.yr,.int .u8 c.b.half,.int .u8 c.b.sec,.int .i64 c.b.cyc,.int .i64 c.n]) (zs:=#[.int .u8 0,.int .i64 0,.int .i64 0,.int .u8 0,.int .u8 0,.int .i64 0,.int .i64 0,.int .i64 0,.int .u8 0,.int .u8 0,.int .i64 0,.int .i64 0]) hf hS rfl hs0 rfl rfl T_elem_22 T_size_26 T_zero_26 rfl rfl (by kernel_rfl) rfl (by kernel_rfl) ?_; clear hf hS a; intro b_s9 w a hS hf
        exact O.nil ⟨rfl,(b_s9,cv,v6),hf.to trivial,(gt (d:=31) hf rfl rfl),(fun j_ hj_ ha_=>match j_,hj_,ha_ with | 0,hj_,ha_=>rfl | 1,hj_,ha_=>rfl | 2,hj_,ha_=>rfl | 3,hj_,ha_=>absurd rfl hj_ | 4,hj_,ha_=>absurd ha_ (by decide) | 5,hj_,ha_=>absurd ha_ (by decide) | _+6,_,_=>rfl),hS⟩
      · have hS:St w0 w noX [ordA,rdv 12 vl l.length (encs eC l)] (sl 26 12 cv l.length (encs eC l)::condA (s 3) (pt b_s4 (.cells #[.int .u8 c.kind,.int .i64 c.a.num,.int .i64 c.a.yr,.int .u8 c.a.half,.int .u8 c.a.sec,.int .i64 c.a.cyc,.int .i64 c.b.num,.int .i64 c.b.yr,.int .u8 c.b.half,.int .u8 c.b.sec,.int .i64 c.b.cyc,.int .i64 c.n] 26 (0,0)))::MZ426):=hD; clear hD
        replace hf:Fr a 43 [] ((30,.agg #[.int .u8 c.kind,.int .i64 c.a.num,.int .i64 c.a.yr,.int .u8 c.a.half,.int .u8 c.a.sec,.int .i64 c.a.cyc,.int .i64 c.b.num,.int .i64 c.b.yr,.int .u8 c.b.half,.int .u8 c.b.sec,.int .i64 c.b.cyc,.int .i64 c.n])::LZ426):=hf
        refine O.buildC (j:=1) (cs':=#[.int .u8 c.kind,.int .i64 c.a.num,.int .i64 c.a.yr,.int .u8 c.a.half,.int .u8 c.a.sec,.int .i64 c.a.cyc,.int .i64 c.b.num,.int .i64 c.b.yr,.int .u8 c.b.half,.int .u8 c.b.sec,.int .i64 c.b.cyc,.int .i64 c.n]) (zs:=#[.int .u8 0,.int .i64 0,.int .i64 0,.int .u8 0,.int .u8 0,.int .i64 0,.int .i64 0,.int .i64 0,.int .u8 0,.int .u8 0,.int .i64 0,.int .i64 0]) hf hS rfl hs0 rfl rfl T_elem_22 T_size_26 T_zero_26 rfl rfl (by kernel_rfl) rfl (by kernel_rfl) ?_; clear hf hS a; intro b_s10 w a hS hf
        exact O.nil ⟨rfl,(b_s10,cv,v6),hf.to trivial,(gt (d:=31) hf rfl rfl),(fun j_ hj_ ha_=>match j_,hj_,ha_ with | 0,hj_,ha_=>rfl | 1,hj_,ha_=>rfl | 2,hj_,ha_=>rfl | 3,hj_,ha_=>absurd rfl hj_ | 4,hj_,ha_=>absurd ha_ (by decide) | 5,hj_,ha_=>absurd ha_ (by decide) | _+6,_,_=>rfl),hS⟩
      · exact absurd h2_ (by simp)
  clear hf hf1 hS; intro s g a w hs_ hf hD
  obtain ⟨b_s4,cv,v6⟩:=g
  have ha_3:s 3=true:=hs_ 3 (by simp)
  have hS:St w0 w noX [ordA,rdv 12 vl l.length (encs eC l)] (sl 26 12 v6 ((l++[c]).length) (encs eC (l++[c]))::pt b_s4 (.cells #[.int .u8 c.kind,.int .i64 c.a.num,.int .i64 c.a.yr,.int .u8 c.a.half,.int .u8 c.a.sec,.int .i64 c.a.cyc,.int .i64 c.b.num,.int .i64 c.b.yr,.int .u8 c.b.half,.int .u8 c.b.sec,.int .i64 c.b.cyc,.int .i64 c.n] 26 (0,0))::MZ426):=hD; clear hD
  replace hf:Fr a 43 [] ((28,vl)::(29,cv)::(30,.agg #[.int .u8 c.kind,.int .i64 c.a.num,.int .i64 c.a.yr,.int .u8 c.a.half,.int .u8 c.a.sec,.int .i64 c.a.cyc,.int .i64 c.b.num,.int .i64 c.b.yr,.int .u8 c.b.half,.int .u8 c.b.sec,.int .i64 c.b.cyc,.int .i64 c.n])::(31,.slice (some ⟨b_s4,0,none⟩) 1 1)::(32,v6)::(10,v6)::LZ426):=hf
  refine k_seq ?_
  replace hf:Fr a 43 [] [(4,.slice none 0 0),(5,.int .i64 0),(10,v6)]:=hf.to ⟨rfl,rfl,rfl,trivial⟩
  refine W.seq ?_
  refine W.seq ?_
  refine W.regionL (l:=[0,1,2,3,4,5,6,7,8]) rfl ?_
  refine O.val hf rfl rfl rfl (RunV.move rfl) ?_
  clear hf a; intro a hf
  refine O.callR hf rfl rfl rfl (RunE.call (av:=#[v6]) C_ok_32 rfl rfl rfl) (history_ok v6 (l++[c]) _ (hS.bptO (i:=0) rfl) (hS.slr (j:=0) rfl) (slOK.fit (hS.slAt (j:=0) rfl)) hm2) ?_
  clear hf a
  rintro ⟨uv2,bm2,kvs2,gs2⟩ w11 ⟨hS1,hI2⟩ a hf
  replace hf:Fr a _ _ ((35,.tuple #[.map (some bm2),uv2,.int .i64 0])::_):=hf
  replace hS:=(hS.call hS1).eqM (N:=(stA 95 24 bm2 kvs2 gs2::sl 4 1 uv2 us2.length (bools us2)::sl 26 12 v6 ((l++[c]).length) (encs eC (l++[c]))::pt b_s4 (.cells #[.int .u8 c.kind,.int .i64 c.a.num,.int .i64 c.a.yr,.int .u8 c.a.half,.int .u8 c.a.sec,.int .i64 c.a.cyc,.int .i64 c.b.num,.int .i64 c.b.yr,.int .u8 c.b.half,.int .u8 c.b.sec,.int .i64 c.b.cyc,.int .i64 c.n] 26 (0,0))::MZ426)) rfl
  clear hS1
  refine O.val hf rfl rfl rfl (RunV.move rfl) ?_
  clear hf a; intro a hf
  refine O.val hf rfl rfl rfl (RunV.extract rfl rfl) ?_
  clear hf a; intro a hf
  refine O.val hf rfl rfl rfl (RunV.extract rfl rfl) ?_
  clear hf a; intro a hf
  refine O.val hf rfl rfl rfl (RunV.extract rfl rfl) ?_
  clear hf a; intro a hf
  refine O.val hf rfl rfl rfl (RunV.assign rfl) ?_
  clear hf a; intro a hf
  refine O.val hf rfl rfl rfl (RunV.assign rfl) ?_
  clear hf a; intro a hf
  refine O.val hf rfl rfl rfl (RunV.assign rfl) ?_
  clear hf a; intro a hf
  refine O.nil ?_
  refine k_seq ?_
  replace hf:Fr a 43 [] [(4,.slice none 0 0),(5,.int .i64 0),(10,v6),(13,.int .i64 0)]:=hf.to ⟨rfl,rfl,rfl,rfl,trivial⟩
  refine W.seq ?_
  refine W.regionL (l:=[0,1]) rfl ?_
  refine O.val hf rfl rfl rfl (RunV.move rfl) ?_
  clear hf a; intro a hf
  refine O.val hf rfl rfl rfl (RunV.toB (c:=false) (RunV.neq rfl rfl) (by decide)) ?_
  clear hf a; intro a hf
  refine O.nil ?_
  refine k_seq ?_
  replace hf:Fr a 43 [] [(4,.slice none 0 0),(5,.int .i64 0),(10,v6),(13,.int .i64 0),(40,.bool false)]:=hf.to ⟨rfl,rfl,rfl,rfl,rfl,trivial⟩
  refine W.if_ff hf rfl ?_
  refine W.skip ?_
  refine k_seq ?_
  replace hf:Fr a 43 [] [(4,.slice none 0 0),(5,.int .i64 0),(10,v6)]:=hf.to ⟨rfl,rfl,rfl,trivial⟩
  refine W.seq ?_
  refine W.regionL (l:=[0,1,2]) rfl ?_
  refine O.val hf rfl rfl rfl (RunV.move rfl) ?_
  clear hf a; intro a hf
  refine O.val hf rfl rfl rfl (RunV.assign rfl) ?_
  clear hf a; intro a hf
  refine O.val hf rfl rfl rfl (RunV.assign rfl) ?_
  clear hf a; intro a hf
  refine O.nil ?_
  refine k_seq ?_
  replace hf:Fr a 43 [] [(4,v6),(5,.int .i64 0)]:=hf.to ⟨rfl,rfl,trivial⟩
  refine W.ret ?_
  refine post2 hf rfl (ResOK.tmp rfl) (ResOK.tmp rfl) ?_
  replace hS:=hS.front (i:=2) (M':=(sl 26 12 v6 ((l++[c]).length) (encs eC (l++[c]))::stA 95 24 bm2 kvs2 gs2::sl 4 1 uv2 us2.length (bools us2)::pt b_s4 (.cells #[.int .u8 c.kind,.int .i64 c.a.num,.int .i64 c.a.yr,.int .u8 c.a.half,.int .u8 c.a.sec,.int .i64 c.a.cyc,.int .i64 c.b.num,.int .i64 c.b.yr,.int .u8 c.b.half,.int .u8 c.b.sec,.int .i64 c.b.cyc,.int .i64 c.n] 26 (0,0))::MZ426)) rfl rfl
  exact ⟨v6,rfl,(hS.sub (List.Sublist.cons_cons _ (List.nil_sublist _))).noB⟩
end Go.Proofs.YtgakdmmmljdpjaaDoor
