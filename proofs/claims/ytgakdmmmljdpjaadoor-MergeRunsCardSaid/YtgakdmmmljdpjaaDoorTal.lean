/- Part of a proof: laws and walks. -/
import Derived.Test.YtgakdmmmljdpjaaDoorTac
import Derived.Test.YtgakdmmmljdpjaaDoorTak
import Derived.Maps.RangeRun
import Derived.Test.YtgakdmmmljdpjaaDoorTaf
set_option linter.unusedVariables false
set_option linter.unusedSimpArgs false
set_option maxHeartbeats 1000000
set_option maxRecDepth 8000
namespace Go.Proofs.YtgakdmmmljdpjaaDoor
open Go Go.SL
theorem C_ok_32:callOK Tryd.prog 32=true:=by kernel_rfl
theorem C_ok_37:callOK Tryd.prog 37=true:=by kernel_rfl
set_option maxHeartbeats 400000 in
set_option maxRecDepth 4000 in
theorem undone_err (vl:Value) (l:List Ch) (w0:World) (hG:Lent w0 ordA) (hl:rdOK (hp w0) 12 vl l.length (encs eC l)) (hfit:vfit vl) (e:Int) (hm:histM l=.error e) :
    Ret Tryd.prog 21 #[vl] w0 (G:=Unit) (fun _=>.tuple #[.slice none 0 0,.int .i64 e]) (fun _ w=>St w0 w noX [] []):=by
  refine ret_of_W (lv:=[vl]) Tryd.func21 rfl rfl rfl (fun a hf=>?_); replace hf:Fr a 15 [] [(0,vl)]:=hf; have hS:St w0 w0 noX [ordA,rdv 12 vl l.length (encs eC l)] []:=((St.refl w0).lend0 hl).lendA hG; have hlm:=hl.2.1; unfold maxLen at hlm; refine W.seq ?_
  refine W.regionL (l:=[0,1]) rfl<|mv hf rfl<|?_; clear hf a; intro a hf; refine mv hf rfl ?_; clear hf a; intro a hf; refine nk<|W.seq<|?_
  refine W.regionL (l:=[0,1,2,3,4,5,6,7,8]) rfl<|mv hf rfl<|?_; clear hf a; intro a hf; refine oc hf rfl C_ok_32 (history_err vl l _ (hS.bptO (i:=0) rfl) (hS.rdAt (j:=1) rfl) hfit hm) ?_; clear hf a; rintro _ w1 hS1 a hf; replace hS:=hS.cl hS1; refine mv hf rfl ?_; clear hf a; intro a hf; refine ov hf rfl (RunV.extract rfl rfl) ?_; clear hf a; intro a hf; refine ov hf rfl (RunV.extract rfl rfl) ?_; clear hf a; intro a hf; refine ov hf rfl (RunV.extract rfl rfl) ?_; clear hf a; intro a hf; refine mv hf rfl ?_; clear hf a; intro a hf; refine mv hf rfl ?_; clear hf a; intro a hf; refine mv hf rfl ?_; clear hf a; intro a hf; refine nk<|W.seq<|?_
  refine W.regionL (l:=[0,1,2,3]) rfl<|mv hf rfl<|?_; clear hf a; intro a hf; refine mv hf rfl ?_; clear hf a; intro a hf; refine mv hf rfl ?_; clear hf a; intro a hf; refine mv hf rfl ?_; clear hf a; intro a hf; refine nk<|W.ret<|post2 hf rfl (ResOK.tmp rfl) (ResOK.tmp rfl)<|?_; exact ⟨(),rfl,hS.sub (List.nil_sublist _) |>.noB⟩
set_option maxHeartbeats 400000 in
set_option maxRecDepth 4000 in
theorem undone_ok (vl:Value) (l:List Ch) (w0:World) (hG:Lent w0 ordA) (hl:rdOK (hp w0) 12 vl l.length (encs eC l)) (hfit:vfit vl) (S:List PG) (us:List Bool) (hm:histM l=.ok (S,us)) :
    Ret Tryd.prog 21 #[vl] w0 (G:=Value) (fun g=>.tuple #[g,.int .i64 0]) (fun g w=>St w0 w noX [] [sl 4 1 g us.length (bools us)]):=by
  refine ret_of_W (lv:=[vl]) Tryd.func21 rfl rfl rfl (fun a hf=>?_); replace hf:Fr a 15 [] [(0,vl)]:=hf; have hS:St w0 w0 noX [ordA,rdv 12 vl l.length (encs eC l)] []:=((St.refl w0).lend0 hl).lendA hG; have hlm:=hl.2.1; unfold maxLen at hlm; refine W.seq ?_
  refine W.regionL (l:=[0,1]) rfl<|mv hf rfl<|?_; clear hf a; intro a hf; refine mv hf rfl ?_; clear hf a; intro a hf; refine nk<|W.seq<|?_
  refine W.regionL (l:=[0,1,2,3,4,5,6,7,8]) rfl<|mv hf rfl<|?_; clear hf a; intro a hf; refine oc hf rfl C_ok_32 (history_ok vl l _ (hS.bptO (i:=0) rfl) (hS.rdAt (j:=1) rfl) hfit hm) ?_; clear hf a; rintro ⟨uv,bm,kvs,gs⟩ w1 ⟨hS1,hI⟩ a hf; replace hS:=hS.cl hS1; refine mv hf rfl ?_; clear hf a; intro a hf; refine ov hf rfl (RunV.extract rfl rfl) ?_; clear hf a; intro a hf; refine ov hf rfl (RunV.extract rfl rfl) ?_; clear hf a; intro a hf; refine ov hf rfl (RunV.extract rfl rfl) ?_; clear hf a; intro a hf; refine mv hf rfl ?_; clear hf a; intro a hf; refine mv hf rfl ?_; clear hf a; intro a hf; refine mv hf rfl ?_; clear hf a; intro a hf; refine nk<|W.seq<|?_
  refine W.regionL (l:=[0,1,2,3]) rfl<|mv hf rfl<|?_; clear hf a; intro a hf; refine mv hf rfl ?_; clear hf a; intro a hf; refine mv hf rfl ?_; clear hf a; intro a hf; refine mv hf rfl ?_; clear hf a; intro a hf; refine nk<|W.ret<|post2 hf rfl (ResOK.tmp rfl) (ResOK.tmp rfl)<|?_; exact ⟨uv,rfl,(hS.sub (List.Sublist.cons _ (List.Sublist.cons_cons _ (List.nil_sublist _)))).noB⟩
set_option maxHeartbeats 400000 in
set_option maxRecDepth 4000 in
theorem who_err (vl:Value) (l:List Ch) (d:Dg) (w0:World) (hG:Lent w0 ordA) (hl:rdOK (hp w0) 12 vl l.length (encs eC l)) (hfit:vfit vl) (e:Int) (hm:histM l=.error e) :
    Ret Tryd.prog 19 #[vl,.agg (aD d)] w0 (G:=Unit) (fun _=>.tuple #[oV ⟨0,0,0,0,0⟩ (.slice none 0 0),.int .i64 e]) (fun _ w=>St w0 w noX [] []):=by
  refine ret_of_W (lv:=[vl,.agg (aD d)]) Tryd.func19 rfl rfl rfl (fun a hf=>?_); replace hf:Fr a 35 [] [(0,vl),(1,.agg (aD d))]:=hf; have hS:St w0 w0 noX [ordA,rdv 12 vl l.length (encs eC l)] []:=((St.refl w0).lend0 hl).lendA hG; have hlm:=hl.2.1; unfold maxLen at hlm; have he0:=histM_ne hm; refine W.seq ?_
  refine W.regionL (l:=[0,1,2]) rfl<|O.box (cs:=(aD d)) hf hS rfl rfl rfl rfl<|?_; intro b_d1 w a hbb_d1 hS hf; refine O.alloc (cs:=#[.int .i64 0,.int .i64 0,.int .u8 0,.int .u8 0,.int .i64 0,.slice none 0 0]) hf hS rfl rfl T_zero_46 rfl ?_; intro b_x2 w a hbb_x2 hS hf; refine mv hf rfl ?_; clear hf a; intro a hf; refine nk<|W.seq<|?_
  refine W.regionL (l:=[0,1,2,3,4,5,6,7,8]) rfl<|mv hf rfl<|?_; clear hf a; intro a hf; refine oc hf rfl C_ok_32 (history_err vl l _ (hS.bptO (i:=0) rfl) (hS.rdAt (j:=1) rfl) hfit hm) ?_; clear hf a; rintro _ w3 hS1 a hf; replace hS:=hS.cl hS1; refine mv hf rfl ?_; clear hf a; intro a hf; refine ov hf rfl (RunV.extract rfl rfl) ?_; clear hf a; intro a hf; refine ov hf rfl (RunV.extract rfl rfl) ?_; clear hf a; intro a hf; refine ov hf rfl (RunV.extract rfl rfl) ?_; clear hf a; intro a hf; refine mv hf rfl ?_; clear hf a; intro a hf; refine mv hf rfl ?_; clear hf a; intro a hf; refine mv hf rfl ?_; clear hf a; intro a hf; refine nk<|W.seq<|W.seq<|?_
  refine W.regionL (l:=[0,1]) rfl<|mv hf rfl<|?_; clear hf a; intro a hf; refine ov (v:=.bool (decide (e≠(0:Int)))) hf rfl (RunV.neq rfl rfl) ?_; clear hf a; intro a hf; refine nk ?_; refine W.ifdI hf rfl (fun h1=>?_) (fun h1=>?_)
  · refine W.seq ?_
    refine W.regionL (l:=[0,1,2,3]) rfl<|ov hf rfl (RunV.buildS (cs':=#[.int .i64 0,.int .i64 0,.int .u8 0,.int .u8 0,.int .i64 0,.slice none 0 0]) T_places_46 T_zero_46 rfl rfl)<|?_; clear hf a; intro a hf; refine mv hf rfl ?_; clear hf a; intro a hf; refine ost 0 #[.int .i64 0,.int .i64 0,.int .u8 0,.int .u8 0,.int .i64 0,.slice none 0 0] hf hS rfl rfl rfl T_size_46 rfl rfl rfl (bl rfl) rfl ?_; intro w hS; refine mv hf rfl ?_; clear hf a; intro a hf; refine nk<|W.ret<|k_then_ret<|post2 hf rfl (ResOK.cellN (cs':=#[.int .i64 0,.int .i64 0,.int .u8 0,.int .u8 0,.int .i64 0,.slice none 0 0]) rfl T_agg_46 T_size_46 (hS.p 0 rfl) (bl rfl) rfl) (ResOK.tmp rfl)<|?_
    first
      | exact absurd he0 h1
      | exact ⟨(),rfl,hS.sub (List.nil_sublist _) |>.noB⟩
  · exact absurd he0 h1
set_option maxHeartbeats 400000 in
set_option maxRecDepth 4000 in
theorem who_bad (vl:Value) (l:List Ch) (d:Dg) (w0:World) (hG:Lent w0 ordA) (hl:rdOK (hp w0) 12 vl l.length (encs eC l)) (hfit:vfit vl) (S:List PG) (us:List Bool) (hm:histM l=.ok (S,us)) (hd:okD d=false) :
    Ret Tryd.prog 19 #[vl,.agg (aD d)] w0 (G:=Unit) (fun _=>.tuple #[oV ⟨0,0,0,0,0⟩ (.slice none 0 0),.int .i64 8]) (fun _ w=>St w0 w noX [] []):=by
  refine ret_of_W (lv:=[vl,.agg (aD d)]) Tryd.func19 rfl rfl rfl (fun a hf=>?_); replace hf:Fr a 35 [] [(0,vl),(1,.agg (aD d))]:=hf; have hS:St w0 w0 noX [ordA,rdv 12 vl l.length (encs eC l)] []:=((St.refl w0).lend0 hl).lendA hG; have hlm:=hl.2.1; unfold maxLen at hlm; refine W.seq ?_
  refine W.regionL (l:=[0,1,2]) rfl<|O.box (cs:=(aD d)) hf hS rfl rfl rfl rfl<|?_; intro b_d1 w a hbb_d1 hS hf; refine O.alloc (cs:=#[.int .i64 0,.int .i64 0,.int .u8 0,.int .u8 0,.int .i64 0,.slice none 0 0]) hf hS rfl rfl T_zero_46 rfl ?_; intro b_x2 w a hbb_x2 hS hf; refine mv hf rfl ?_; clear hf a; intro a hf; refine nk<|W.seq<|?_
  refine W.regionL (l:=[0,1,2,3,4,5,6,7,8]) rfl<|mv hf rfl<|?_; clear hf a; intro a hf; refine oc hf rfl C_ok_32 (history_ok vl l _ (hS.bptO (i:=0) rfl) (hS.rdAt (j:=1) rfl) hfit hm) ?_; clear hf a; rintro ⟨uv,bm,kvs,gs⟩ w3 ⟨hS1,hI⟩ a hf; replace hS:=hS.cl hS1; refine mv hf rfl ?_; clear hf a; intro a hf; refine ov hf rfl (RunV.extract rfl rfl) ?_; clear hf a; intro a hf; refine ov hf rfl (RunV.extract rfl rfl) ?_; clear hf a; intro a hf; refine ov hf rfl (RunV.extract rfl rfl) ?_; clear hf a; intro a hf; refine mv hf rfl ?_; clear hf a; intro a hf; refine mv hf rfl ?_; clear hf a; intro a hf; refine mv hf rfl ?_; clear hf a; intro a hf; refine nk<|W.seq<|W.seq<|?_
  refine W.regionL (l:=[0,1]) rfl<|mv hf rfl<|?_; clear hf a; intro a hf; refine ov hf rfl (RunV.toB (c:=false) (RunV.neq rfl rfl) (by decide)) ?_; clear hf a; intro a hf; refine nk<|W.if_ff hf rfl<|W.skip<|k_seq<|W.seq<|W.seq<|?_
  refine W.regionL (l:=[0,1,2]) rfl<|ov hf rfl (RunV.loadN (cs':=(aD d)) T_agg_24 T_size_24 rfl (hS.p 3 rfl) (bl rfl) rfl)<|?_; clear hf a; intro a hf; refine oc hf rfl C_ok_41 (checkD_bad d _ (hS.bptO (i:=0) rfl) hd) ?_; clear hf a; rintro _ w4 hS1 a hf; replace hS:=hS.cl hS1; refine mv hf rfl ?_; clear hf a; intro a hf; refine nk<|W.seq<|?_
  refine W.regionL (l:=[0,1]) rfl<|mv hf rfl<|?_; clear hf a; intro a hf; refine ov hf rfl (RunV.toB (c:=true) (RunV.neq rfl rfl) (by decide)) ?_; clear hf a; intro a hf; refine nk<|W.if_tt hf rfl<|W.seq<|?_
  refine W.regionL (l:=[0,1,2,3]) rfl<|ov hf rfl (RunV.buildS (cs':=#[.int .i64 0,.int .i64 0,.int .u8 0,.int .u8 0,.int .i64 0,.slice none 0 0]) T_places_46 T_zero_46 rfl rfl)<|?_; clear hf a; intro a hf; refine mv hf rfl ?_; clear hf a; intro a hf; refine ost 2 #[.int .i64 0,.int .i64 0,.int .u8 0,.int .u8 0,.int .i64 0,.slice none 0 0] hf hS rfl rfl rfl T_size_46 rfl rfl rfl (bl rfl) rfl ?_; intro w hS; refine mv hf rfl ?_; clear hf a; intro a hf; refine nk<|W.ret<|k_then_ret<|post2 hf rfl (ResOK.cellN (cs':=#[.int .i64 0,.int .i64 0,.int .u8 0,.int .u8 0,.int .i64 0,.slice none 0 0]) rfl T_agg_46 T_size_46 (hS.p 2 rfl) (bl rfl) rfl) (ResOK.tmp rfl)<|?_; exact ⟨(),rfl,hS.sub (List.nil_sublist _) |>.noB⟩
set_option maxHeartbeats 400000 in
set_option maxRecDepth 4000 in
theorem who_none (vl:Value) (l:List Ch) (d:Dg) (w0:World) (hG:Lent w0 ordA) (hl:rdOK (hp w0) 12 vl l.length (encs eC l)) (hfit:vfit vl) (S:List PG) (us:List Bool) (hm:histM l=.ok (S,us)) (hd:okD d=true) (hn:findG S d=none) :
    Ret Tryd.prog 19 #[vl,.agg (aD d)] w0 (G:=Unit) (fun _=>.tuple #[oV ⟨0,0,0,0,0⟩ (.slice none 0 0),.int .i64 6]) (fun _ w=>St w0 w noX [] []):=by
  refine ret_of_W (lv:=[vl,.agg (aD d)]) Tryd.func19 rfl rfl rfl (fun a hf=>?_); replace hf:Fr a 35 [] [(0,vl),(1,.agg (aD d))]:=hf; have hS:St w0 w0 noX [ordA,rdv 12 vl l.length (encs eC l)] []:=((St.refl w0).lend0 hl).lendA hG; have hlm:=hl.2.1; unfold maxLen at hlm; refine W.seq ?_
  refine W.regionL (l:=[0,1,2]) rfl<|O.box (cs:=(aD d)) hf hS rfl rfl rfl rfl<|?_; intro b_d1 w a hbb_d1 hS hf; refine O.alloc (cs:=#[.int .i64 0,.int .i64 0,.int .u8 0,.int .u8 0,.int .i64 0,.slice none 0 0]) hf hS rfl rfl T_zero_46 rfl ?_; intro b_x2 w a hbb_x2 hS hf; refine mv hf rfl ?_; clear hf a; intro a hf; refine nk<|W.seq<|?_
  refine W.regionL (l:=[0,1,2,3,4,5,6,7,8]) rfl<|mv hf rfl<|?_; clear hf a; intro a hf; refine oc hf rfl C_ok_32 (history_ok vl l _ (hS.bptO (i:=0) rfl) (hS.rdAt (j:=1) rfl) hfit hm) ?_; clear hf a; rintro ⟨uv,bm,kvs,gs⟩ w3 ⟨hS1,hI⟩ a hf; replace hS:=hS.cl hS1; refine mv hf rfl ?_; clear hf a; intro a hf; refine ov hf rfl (RunV.extract rfl rfl) ?_; clear hf a; intro a hf; refine ov hf rfl (RunV.extract rfl rfl) ?_; clear hf a; intro a hf; refine ov hf rfl (RunV.extract rfl rfl) ?_; clear hf a; intro a hf; refine mv hf rfl ?_; clear hf a; intro a hf; refine mv hf rfl ?_; clear hf a; intro a hf; refine mv hf rfl ?_; clear hf a; intro a hf; refine nk<|W.seq<|W.seq<|?_
  refine W.regionL (l:=[0,1]) rfl<|mv hf rfl<|?_; clear hf a; intro a hf; refine ov hf rfl (RunV.toB (c:=false) (RunV.neq rfl rfl) (by decide)) ?_; clear hf a; intro a hf; refine nk<|W.if_ff hf rfl<|W.skip<|k_seq<|W.seq<|W.seq<|?_
  refine W.regionL (l:=[0,1,2]) rfl<|ov hf rfl (RunV.loadN (cs':=(aD d)) T_agg_24 T_size_24 rfl (hS.p 3 rfl) (bl rfl) rfl)<|?_; clear hf a; intro a hf; refine oc hf rfl C_ok_41 (checkD_ok d _ (hS.bptO (i:=0) rfl) hd) ?_; clear hf a; rintro _ w4 hS1 a hf; replace hS:=hS.cl hS1; refine mv hf rfl ?_; clear hf a; intro a hf; refine nk<|W.seq<|?_
  refine W.regionL (l:=[0,1]) rfl<|mv hf rfl<|?_; clear hf a; intro a hf; refine ov hf rfl (RunV.toB (c:=false) (RunV.neq rfl rfl) (by decide)) ?_; clear hf a; intro a hf; refine nk<|W.if_ff hf rfl<|W.skip<|k_seq<|W.seq<|?_
  refine W.regionL (l:=[0,1,2,3]) rfl ?_; replace hS:=St.stOpen hS; refine mv hf rfl ?_; clear hf a; intro a hf; refine ov hf rfl (RunV.loadN (cs':=(aD d)) T_agg_24 T_size_24 rfl (hS.p 4 rfl) (bl rfl) rfl) ?_; clear hf a; intro a hf; refine ov hf rfl (RunV.lookP (k:=d) (kvs:=kvs) T_mapof_71 keyD trivial (fun _ _=>trivial) rfl rfl (hS.mpAt (j:=0) rfl) (by rw [isS_none hI hn] <;> rfl)) ?_; clear hf a; intro a hf; refine mv hf rfl ?_; clear hf a; intro a hf; refine nk<|W.seq<|W.seq<|?_
  refine W.regionL (l:=[0,1]) rfl<|mv hf rfl<|?_; clear hf a; intro a hf; refine ov hf rfl (RunV.toB (c:=true) (RunV.eqNil Tryd.underlying79 rfl rfl) rfl) ?_; clear hf a; intro a hf; refine nk<|W.if_tt hf rfl<|W.seq<|?_
  refine W.regionL (l:=[0,1,2]) rfl<|ov hf rfl (RunV.buildS (cs':=#[.int .i64 0,.int .i64 0,.int .u8 0,.int .u8 0,.int .i64 0,.slice none 0 0]) T_places_46 T_zero_46 rfl rfl)<|?_; clear hf a; intro a hf; refine ost 3 #[.int .i64 0,.int .i64 0,.int .u8 0,.int .u8 0,.int .i64 0,.slice none 0 0] hf hS rfl rfl rfl T_size_46 rfl rfl rfl (bl rfl) rfl ?_; intro w hS; refine mv hf rfl ?_; clear hf a; intro a hf; refine nk<|W.ret<|k_then_ret<|post2 hf rfl (ResOK.cellN (cs':=#[.int .i64 0,.int .i64 0,.int .u8 0,.int .u8 0,.int .i64 0,.slice none 0 0]) rfl T_agg_46 T_size_46 (hS.p 3 rfl) (bl rfl) rfl) (ResOK.tmp rfl)<|?_; exact ⟨(),rfl,hS.sub (List.nil_sublist _) |>.noB⟩
set_option maxHeartbeats 400000 in
set_option maxRecDepth 4000 in
theorem who_ok (vl:Value) (l:List Ch) (d:Dg) (w0:World) (hG:Lent w0 ordA) (hl:rdOK (hp w0) 12 vl l.length (encs eC l)) (hfit:vfit vl) (S:List PG) (us:List Bool) (hm:histM l=.ok (S,us)) (hd:okD d=true) (p:PG) (hn:findG S d=some p) (hpk:∀ x ∈ p.1,okD x=true) (hpz:p.1.length≤10000) (hpn:p.1≠[]) :
    Ret Tryd.prog 19 #[vl,.agg (aD d)] w0 (G:=Value) (fun g=>.tuple #[oV ((sortDs p.1).getD 0 default) g,.int .i64 0]) (fun g w=>St w0 w noX [] [slE 24 5 eD g (sortDs p.1)]):=by
  refine ret_of_W (lv:=[vl,.agg (aD d)]) Tryd.func19 rfl rfl rfl (fun a hf=>?_); replace hf:Fr a 35 [] [(0,vl),(1,.agg (aD d))]:=hf; have hS:St w0 w0 noX [ordA,rdv 12 vl l.length (encs eC l)] []:=((St.refl w0).lend0 hl).lendA hG; have hlm:=hl.2.1; unfold maxLen at hlm; refine W.seq ?_
  refine W.regionL (l:=[0,1,2]) rfl<|O.box (cs:=(aD d)) hf hS rfl rfl rfl rfl<|?_; intro b_d1 w a hbb_d1 hS hf; refine O.alloc (cs:=#[.int .i64 0,.int .i64 0,.int .u8 0,.int .u8 0,.int .i64 0,.slice none 0 0]) hf hS rfl rfl T_zero_46 rfl ?_; intro b_x2 w a hbb_x2 hS hf; refine mv hf rfl ?_; clear hf a; intro a hf; refine nk<|W.seq<|?_
  refine W.regionL (l:=[0,1,2,3,4,5,6,7,8]) rfl<|mv hf rfl<|?_; clear hf a; intro a hf; refine oc hf rfl C_ok_32 (history_ok vl l _ (hS.bptO (i:=0) rfl) (hS.rdAt (j:=1) rfl) hfit hm) ?_; clear hf a; rintro ⟨uv,bm,kvs,gs⟩ w3 ⟨hS1,hI⟩ a hf; replace hS:=hS.cl hS1; refine mv hf rfl ?_; clear hf a; intro a hf; refine ov hf rfl (RunV.extract rfl rfl) ?_; clear hf a; intro a hf; refine ov hf rfl (RunV.extract rfl rfl) ?_; clear hf a; intro a hf; refine ov hf rfl (RunV.extract rfl rfl) ?_; clear hf a; intro a hf; refine mv hf rfl ?_; clear hf a; intro a hf; refine mv hf rfl ?_; clear hf a; intro a hf; refine mv hf rfl ?_; clear hf a; intro a hf; refine nk<|W.seq<|W.seq<|?_
  refine W.regionL (l:=[0,1]) rfl<|mv hf rfl<|?_; clear hf a; intro a hf; refine ov hf rfl (RunV.toB (c:=false) (RunV.neq rfl rfl) (by decide)) ?_; clear hf a; intro a hf; refine nk<|W.if_ff hf rfl<|W.skip<|k_seq<|W.seq<|W.seq<|?_
  refine W.regionL (l:=[0,1,2]) rfl<|ov hf rfl (RunV.loadN (cs':=(aD d)) T_agg_24 T_size_24 rfl (hS.p 3 rfl) (bl rfl) rfl)<|?_; clear hf a; intro a hf; refine oc hf rfl C_ok_41 (checkD_ok d _ (hS.bptO (i:=0) rfl) hd) ?_; clear hf a; rintro _ w4 hS1 a hf; replace hS:=hS.cl hS1; refine mv hf rfl ?_; clear hf a; intro a hf; refine nk<|W.seq<|?_
  refine W.regionL (l:=[0,1]) rfl<|mv hf rfl<|?_; clear hf a; intro a hf; refine ov hf rfl (RunV.toB (c:=false) (RunV.neq rfl rfl) (by decide)) ?_; clear hf a; intro a hf; refine nk<|W.if_ff hf rfl<|W.skip<|k_seq<|W.seq<|?_
  refine W.regionL (l:=[0,1,2,3]) rfl ?_; obtain ⟨ga,rest,hpm,habs,hda,hget⟩:=isS_some hI hn; have hall:ga.all=p.1:=congrArg Prod.fst habs; replace hS:=St.grTake (St.stOpen hS) hpm; replace hS:St w0 _ noX [ordA,rdv 12 vl l.length (encs eC l)] [mp dV bm kvs,pt ga.blk (.cells #[ga.v,.bool ga.num] 95 (0,0)),sl 24 5 ga.v ga.all.length (encs eD ga.all),bigA (rest.map (grA 95 24)),sl 4 1 uv us.length (bools us),pt b_x2 (.cells #[.int .i64 0,.int .i64 0,.int .u8 0,.int .u8 0,.int .i64 0,.slice none 0 0] 46 (0,0)),pt b_d1 (.cells (aD d) 24 (0,0))]:=hS; refine mv hf rfl ?_; clear hf a; intro a hf; refine ov hf rfl (RunV.loadN (cs':=(aD d)) T_agg_24 T_size_24 rfl (hS.p 6 rfl) (bl rfl) rfl) ?_; clear hf a; intro a hf; refine ov hf rfl (RunV.lookP (k:=d) (kvs:=kvs) T_mapof_71 keyD trivial (fun _ _=>trivial) rfl rfl (hS.mpAt (j:=0) rfl) (by rw [hget] <;> rfl)) ?_; clear hf a; intro a hf; refine mv hf rfl ?_; clear hf a; intro a hf; refine nk<|W.seq<|W.seq<|?_
  refine W.regionL (l:=[0,1]) rfl<|mv hf rfl<|?_; clear hf a; intro a hf; refine ov hf rfl (RunV.toB (c:=false) (RunV.eqNil Tryd.underlying79 rfl rfl) rfl) ?_; clear hf a; intro a hf; refine nk<|W.if_ff hf rfl<|W.skip<|k_seq<|W.seq<|?_
  refine W.regionL (l:=[0,1,2,3]) rfl<|mv hf rfl<|?_; clear hf a; intro a hf; refine oc hf rfl C_ok_37 (object_spec ga.blk ga.v ga.num ga.all _ (hS.bptO (i:=0) rfl) (hS.lentAt (i:=1) rfl) (hS.slr (j:=2) rfl) (slOK.fit (hS.slAt (j:=2) rfl)) (by rw [hall]; exact hpn) (by rw [hall]; exact hpz) (by rw [hall]; exact hpk)) ?_; clear hf a; rintro ov w5 hS1 a hf; replace hS:=hS.cl hS1; have hcl6:=rdOK.cells (hS.slr (j:=0) rfl); refine ost 6 #[.int .i64 (((sortDs ga.all).getD 0 default).num),.int .i64 (((sortDs ga.all).getD 0 default).yr),.int .u8 (((sortDs ga.all).getD 0 default).half),.int .u8 (((sortDs ga.all).getD 0 default).sec),.int .i64 (((sortDs ga.all).getD 0 default).cyc),ov] hf hS rfl rfl rfl T_size_46 rfl (oneCells_cc rfl (oneCells_cc rfl (oneCells_cc rfl (oneCells_cc rfl (oneCells_cc rfl (oneCells_cc hcl6.2 rfl)))))) rfl (bl rfl) rfl ?_; intro w hS; refine mv hf rfl ?_; clear hf a; intro a hf; refine nk<|W.ret<|post2 hf rfl (ResOK.cellN (cs':=#[.int .i64 (((sortDs ga.all).getD 0 default).num),.int .i64 (((sortDs ga.all).getD 0 default).yr),.int .u8 (((sortDs ga.all).getD 0 default).half),.int .u8 (((sortDs ga.all).getD 0 default).sec),.int .i64 (((sortDs ga.all).getD 0 default).cyc),ov]) rfl T_agg_46 T_size_46 (hS.p 6 rfl) (bl rfl) rfl) (ResOK.tmp rfl)<|?_; rw [hall] at hS; exact ⟨ov,by rw [hall]; rfl,(hS.sub (by simp [slE])).noB⟩
set_option maxHeartbeats 400000 in
set_option maxRecDepth 4000 in
theorem run_err (vl:Value) (l:List Ch) (w0:World) (hG:Lent w0 ordA) (hl:rdOK (hp w0) 12 vl l.length (encs eC l)) (hfit:vfit vl) (e:Int) (hm:histM l=.error e) :
    Ret Tryd.prog 16 #[vl] w0 (G:=Unit) (fun _=>.tuple #[.slice none 0 0,.int .i64 e]) (fun _ w=>St w0 w noX [] []):=by
  refine ret_of_W (lv:=[vl]) Tryd.func16 rfl rfl rfl (fun a hf=>?_); replace hf:Fr a 41 [] [(0,vl)]:=hf; have hS:St w0 w0 noX [ordA,rdv 12 vl l.length (encs eC l)] []:=((St.refl w0).lend0 hl).lendA hG; have hlm:=hl.2.1; unfold maxLen at hlm; have he0:=histM_ne hm; refine W.seq ?_
  refine W.regionL (l:=[0,1]) rfl<|mv hf rfl<|?_; clear hf a; intro a hf; refine mv hf rfl ?_; clear hf a; intro a hf; refine nk<|W.seq<|?_
  refine W.regionL (l:=[0,1,2,3,4,5,6,7,8]) rfl<|mv hf rfl<|?_; clear hf a; intro a hf; refine oc hf rfl C_ok_32 (history_err vl l _ (hS.bptO (i:=0) rfl) (hS.rdAt (j:=1) rfl) hfit hm) ?_; clear hf a; rintro _ w1 hS1 a hf; replace hS:=hS.cl hS1; refine mv hf rfl ?_; clear hf a; intro a hf; refine ov hf rfl (RunV.extract rfl rfl) ?_; clear hf a; intro a hf; refine ov hf rfl (RunV.extract rfl rfl) ?_; clear hf a; intro a hf; refine ov hf rfl (RunV.extract rfl rfl) ?_; clear hf a; intro a hf; refine mv hf rfl ?_; clear hf a; intro a hf; refine mv hf rfl ?_; clear hf a; intro a hf; refine mv hf rfl ?_; clear hf a; intro a hf; refine nk<|W.seq<|W.seq<|?_
  refine W.regionL (l:=[0,1]) rfl<|mv hf rfl<|?_; clear hf a; intro a hf; refine ov (v:=.bool (decide (e≠(0:Int)))) hf rfl (RunV.neq rfl rfl) ?_; clear hf a; intro a hf; refine nk ?_; refine W.ifdI hf rfl (fun h1=>?_) (fun h1=>?_)
  · refine W.seq ?_
    refine W.regionL (l:=[0,1,2]) rfl<|mv hf rfl<|?_; clear hf a; intro a hf; refine mv hf rfl ?_; clear hf a; intro a hf; refine mv hf rfl ?_; clear hf a; intro a hf; refine nk<|W.ret<|k_then_ret<|post2 hf rfl (ResOK.tmp rfl) (ResOK.tmp rfl)<|?_; exact ⟨(),rfl,hS.sub (List.nil_sublist _) |>.noB⟩
  · exact absurd he0 h1
end Go.Proofs.YtgakdmmmljdpjaaDoor

namespace Go.SL
open Go Go.Proofs Go.Shelf Go.RowKit Go.Sort Go.Lib
structure Ob where
  p:Dg
  ad:Option Addr
  n:Nat
  c:Nat
  l:List Dg
def Ob.v (o:Ob):Value:=.slice o.ad o.n o.c
def eO (o:Ob):List Value:=[.int .i64 o.p.num,.int .i64 o.p.yr,.int .u8 o.p.half,.int .u8 o.p.sec,.int .i64 o.p.cyc,.slice o.ad o.n o.c]
instance:Inhabited Ob:=⟨⟨⟨1,0,0,0,0⟩,none,0,0,[]⟩⟩
theorem eO_len (o:Ob):(eO o).length=6:=rfl
end Go.SL

namespace Go.SL
open Go Go.ChangeMaps
section
variable {K:Type} {kE:K→Value}
def rgOK (kE:K→Value) (h:Hp) (b r:Nat) (kvs todo:List (K × Value)) (last:Option (K × Value)):Prop :=
  ∃ es clock since seen c0,h b=some (.map es clock)∧es.toList.map (fun e=>(e.key,e.val))=kvs.map (fun p=>(kE p.1,p.2))∧(∀ e ∈ es.toList,e.born<since)∧(es.toList.map (·.born)).Nodup ∧
    h r=some (.mapIter (some b) since seen c0)∧since≤c0∧since≤clock∧(leftOf es seen).toList.map (fun e=>(e.key,e.val))=todo.map (fun p=>(kE p.1,p.2)) ∧
    ∀ p,last=some p→∃ e ∈ es.toList,∃ seen':Array Nat,seen=seen'.push e.born∧c0=clock∧e.key=kE p.1∧e.val=p.2
def rgA (kE:K→Value) (b r:Nat) (kvs todo:List (K × Value)) (last:Option (K × Value)):Asr :=
  ⟨fun k=>k=b∨k=r,fun h=>rgOK kE h b r kvs todo last,fun h h' hk ⟨es,clock,since,seen,c0,h1,h2,h3,h4,h5,h6⟩=>⟨es,clock,since,seen,c0,by rw [hk b (.inl rfl)]; exact h1,h2,h3,h4,by rw [hk r (.inr rfl)]; exact h5,h6⟩⟩
end
section
variable {K:Type} {kE:K→Value} {kvs todo:List (K × Value)} {last:Option (K × Value)}
variable {rr:Option Nat} {P:Program} {ops:Array Oper} {Q:Exit→Act→World→Prop} {a:Act} {w w0:World} {n:Nat} {ds:List Deferred} {L:List (Nat × Value)} {X:Nat→Prop} {B M M':List Asr}
  {d i j b r:Nat} {ty t kt et:TypeId} {pos:String} {af:Array Edge} {rest:List Nat} {x:Operand}
theorem O.rangeP (hf:Fr a n ds L) (hS:St w0 w X B M) (ho:ops[i]? = some ⟨some d,.range t x,ty,pos,af,none⟩) (hd:Nat.blt d n=true) (ht:P.underlying t=some (.map kt et)) (hx:ev L x=some (.map (some b))) (hM:M[j]? = some (mp kE b kvs))
    (k:∀ r w' a',w0.heap.size≤r→St w0 w' X B (M.set j (rgA kE b r kvs kvs none))→Fr a' n ds ((d,.pointer (some ⟨r,0,none⟩))::L)→O rr P ops Q rest a' w'):O rr P ops Q (i::rest) a w:=by
  obtain ⟨es,clock,hb,h1,h2,h3⟩:=(hS.at_ hM:mpOK kE (hp w) b kvs)
  have hl:=(hS.sep.get hM).2 b rfl
  refine O.val (w':=w.alloc (.mapIter (some b) clock #[] clock)) hf ho rfl hd (v:=.pointer (some ⟨w.heap.size,0,none⟩)) ?_ (fun a' hf'=>k _ _ a' hS.size ?_ hf')
  · intro a d pos af g hf
    simp only [execOp,hf.eval hx]
    exact run_v (run_range_map w t kt et b es clock ht hb)
  · have ha:=MapKept.heap_alloc w (.mapIter (some b) clock #[] clock)
    have hsz:(w.alloc (.mapIter (some b) clock #[] clock)).heap.size=w.heap.size+1:=Array.size_push ..
    refine hS.write (w':=w.alloc (.mapIter (some b) clock #[] clock)) hM rfl rfl rfl (by rw [hsz]; omega) (fun k hk _=>ha.2 k hk) ?_ (fun k hk=>?_)
    · refine ⟨es,clock,clock,#[],clock,(ha.2 b hl.1).trans hb,h1,h2,h3,ha.1,Nat.le_refl _,Nat.le_refl _,?_,fun p hp=>by cases hp⟩
      have:leftOf es #[]=es:=by unfold leftOf; exact Array.filter_eq_self.2 (fun x _=>by simp)
      rw [this]
      exact h1
    · rcases hk with rfl | rfl
      · exact ⟨.inl rfl,by have:=hl.1; rw [hsz]; omega⟩
      · exact ⟨.inr (Nat.le_refl _),by rw [hsz]; omega⟩
theorem left_push {es:Array MapEntry} {seen:Array Nat} {e:MapEntry}:(leftOf es (seen.push e.born)).toList=(leftOf es seen).toList.filter (fun x=>x.born != e.born):=by
  unfold leftOf
  rw [Array.toList_filter,Array.toList_filter,List.filter_filter]
  refine List.filter_congr fun x _=>?_
  rw [contains_push]
  cases seen.contains x.born <;> cases hx:(x.born == e.born) <;> simp [bne,hx]
theorem filter_mid {T:Type} {f:T→Nat} {s t:List T} {e:T} (hn:((s++e::t).map f).Nodup):(s++e::t).filter (fun x=>f x != f e)=s++t:=by
  rw [List.map_append,List.map_cons,List.nodup_append] at hn
  obtain ⟨h1,h2,h3⟩:=hn
  rw [List.nodup_cons] at h2
  rw [List.filter_append,List.filter_cons,if_neg (by simp)]
  congr 1
  · refine List.filter_eq_self.2 fun x hx=>?_
    have:=h3 (f x) (List.mem_map_of_mem hx) (f e) List.mem_cons_self
    simpa using this
  · refine List.filter_eq_self.2 fun x hx=>?_
    have:f x≠f e:=fun h=>h2.1 (h▸List.mem_map_of_mem hx)
    simpa using this
theorem O.nextP (hf:Fr a n ds L) (hS:St w0 w X B M) (ho:ops[i]? = some ⟨some d,.next x false,ty,pos,af,none⟩) (hd:Nat.blt d n=true) (hx:ev L x=some (.pointer (some ⟨r,0,none⟩))) (hM:M[j]? = some (rgA kE b r kvs todo last))
    (k0:todo=[]→∀ a',Fr a' n ds ((d,.tuple #[.bool false])::L)→O rr P ops Q rest a' w)
    (k1:∀ s p t w' a',todo=s++p::t→St w0 w' X B (M.set j (rgA kE b r kvs (s++t) (some p)))→Fr a' n ds ((d,.tuple #[.bool true,kE p.1,p.2])::L)→O rr P ops Q rest a' w'):O rr P ops Q (i::rest) a w:=by
  obtain ⟨es,clock,since,seen,c0,hb,h1,h2,h3,hr,h4,h5,h6,h7⟩:=(hS.at_ hM:rgOK kE (hp w) b r kvs todo last)
  have hlr:=(hS.sep.get hM).2 r (.inr rfl)
  have hlb:=(hS.sep.get hM).2 b (.inl rfl)
  have hbr:b≠r:=fun e=>by subst e; rw [hr] at hb; cases hb
  rcases run_next_at (P:=P) w ty r b since c0 seen es clock hr hb h2 h4 with ⟨h0,hrun⟩ | ⟨e,he,w1,hal,hrun⟩
  · have htd:todo=[]:=by
      have:(leftOf es seen).toList=[]:=by simpa using Array.eq_empty_of_size_eq_zero h0
      rw [this] at h6
      cases todo with
      | nil=>rfl
      | cons=>simp at h6
    refine O.val hf ho rfl hd ?_ (k0 htd)
    intro a d pos af g hf
    simp only [execOp,hf.eval hx]
    exact run_v hrun
  · obtain ⟨s,t,hst⟩:=List.append_of_mem he
    rw [hst,List.map_append,List.map_cons] at h6
    obtain ⟨s',u',htd,hs',hu'⟩:=List.map_eq_append_iff.1 h6.symm
    obtain ⟨p,t',rfl,hp,ht'⟩:=List.map_eq_cons_iff.1 hu'
    simp only [Prod.mk.injEq] at hp
    have hnd:((leftOf es seen).toList.map (·.born)).Nodup:=by
      unfold leftOf
      rw [Array.toList_filter]
      exact (List.filter_sublist.map _).nodup h3
    have hem:=(mem_left he).1
    have hw1:w1.heap=w.heap∧w1.os=w.os∧w1.tape=w.tape∧w1.output=w.output:=by rcases hal with rfl | rfl <;> exact ⟨rfl,rfl,rfl,rfl⟩
    refine O.val (w':=setBlock w1 r (.mapIter (some b) since (seen.push e.born) clock)) hf ho rfl hd (v:=.tuple #[.bool true,kE p.1,p.2]) ?_ (fun a' hf'=>k1 s' p t' _ a' htd ?_ hf')
    · intro a d pos af g hf
      simp only [execOp,hf.eval hx]
      rw [hp.1,hp.2]
      exact run_v hrun
    · have hset:∀ q,(setBlock w1 r (.mapIter (some b) since (seen.push e.born) clock)).heap[q]? = if q=r then some (.mapIter (some b) since (seen.push e.born) clock) else w.heap[q]?:=fun q=>by
        show (w1.heap.setIfInBounds r _)[q]? = _
        rw [hw1.1]
        by_cases hq:q=r
        · subst hq; rw [if_pos rfl,Array.getElem?_setIfInBounds_self_of_lt hlr.1]
        · rw [if_neg hq,Array.getElem?_setIfInBounds_ne (fun e=>hq e.symm)]
      refine hS.write hM hw1.2.1 hw1.2.2.1 hw1.2.2.2 (by simp [setBlock,hw1.1]) (fun q _ hq=>?_) ?_ (fun q hq=>⟨.inl hq,?_⟩)
      · rw [hset,if_neg (fun e=>hq (.inr e))]
      · refine ⟨es,clock,since,seen.push e.born,clock,?_,h1,h2,h3,?_,h5,h5,?_,fun p2 hp2=>⟨e,hem,seen,rfl,rfl,?_⟩⟩
        · show (setBlock w1 r _).heap[b]? = _
          rw [hset,if_neg hbr]; exact hb
        · show (setBlock w1 r _).heap[r]? = _
          rw [hset,if_pos rfl]
        · rw [left_push,hst,filter_mid (f:=fun x:MapEntry=>x.born) (by rw [← hst]; exact hnd),List.map_append,List.map_append,hs',ht']
        · cases hp2; exact ⟨hp.1.symm,hp.2.symm⟩
      · rcases hq with rfl | rfl
        · simpa [setBlock,hw1.1] using hlb.1
        · simpa [setBlock,hw1.1] using hlr.1
theorem RunV.entryP {p:K × Value} (hS:St w0 w X B M) (hM:M[j]? = some (rgA kE b r kvs todo (some p))) (hx:ev L x=some (.pointer (some ⟨r,0,none⟩))):RunV P n ds L (.entry x) ty w (.tuple #[kE p.1,p.2]) w:=fun a d pos af g hf=>by
  obtain ⟨es,clock,since,seen,c0,hb,h1,h2,h3,hr,h4,h5,h6,h7⟩:=(hS.at_ hM:rgOK kE (hp w) b r kvs todo (some p))
  obtain ⟨e,he,seen',rfl,rfl,hk,hv⟩:=h7 p rfl
  simp only [execOp,hf.eval hx]
  rw [← hk,← hv]
  exact run_v (run_entry_at w r b since seen' es c0 e hr hb he h3)
end
end Go.SL

set_option maxHeartbeats 1000000
set_option maxRecDepth 8000
namespace Go.Proofs.YtgakdmmmljdpjaaDoor
open Go Go.SL
theorem C_ok_40:callOK Tryd.prog 40=true:=by kernel_rfl
theorem T_field_46_0:tField Tryd.prog 46 0=some 0:=by kernel_rfl
set_option maxHeartbeats 400000 in
set_option maxRecDepth 4000 in
theorem run1_spec (x y:Ob) (w0:World) (hG:Lent w0 ordA) :
    Ret Tryd.prog 39 #[.agg #[.int .i64 x.p.num,.int .i64 x.p.yr,.int .u8 x.p.half,.int .u8 x.p.sec,.int .i64 x.p.cyc,.slice x.ad x.n x.c],.agg #[.int .i64 y.p.num,.int .i64 y.p.yr,.int .u8 y.p.half,.int .u8 y.p.sec,.int .i64 y.p.cyc,.slice y.ad y.n y.c]] w0 (G:=Unit) (fun _=>.int .i64 (ordD x.p y.p)) (fun _ w=>St w0 w noX [] []):=by
  refine ret_of_W (lv:=[.agg #[.int .i64 x.p.num,.int .i64 x.p.yr,.int .u8 x.p.half,.int .u8 x.p.sec,.int .i64 x.p.cyc,.slice x.ad x.n x.c],.agg #[.int .i64 y.p.num,.int .i64 y.p.yr,.int .u8 y.p.half,.int .u8 y.p.sec,.int .i64 y.p.cyc,.slice y.ad y.n y.c]]) Tryd.func39 rfl rfl rfl (fun a hf=>?_); replace hf:Fr a 10 [] [(0,.agg #[.int .i64 x.p.num,.int .i64 x.p.yr,.int .u8 x.p.half,.int .u8 x.p.sec,.int .i64 x.p.cyc,.slice x.ad x.n x.c]),(1,.agg #[.int .i64 y.p.num,.int .i64 y.p.yr,.int .u8 y.p.half,.int .u8 y.p.sec,.int .i64 y.p.cyc,.slice y.ad y.n y.c])]:=hf; have hS:St w0 w0 noX [ordA] []:=(St.refl w0).lendA hG; refine W.seq ?_
  refine W.regionL (l:=[0,1,2]) rfl<|O.box (cs:=#[.int .i64 x.p.num,.int .i64 x.p.yr,.int .u8 x.p.half,.int .u8 x.p.sec,.int .i64 x.p.cyc,.slice x.ad x.n x.c]) hf hS rfl rfl rfl rfl<|?_; intro b_a1 w a hbb_a1 hS hf; refine O.box (cs:=#[.int .i64 y.p.num,.int .i64 y.p.yr,.int .u8 y.p.half,.int .u8 y.p.sec,.int .i64 y.p.cyc,.slice y.ad y.n y.c]) hf hS rfl rfl rfl rfl ?_; intro b_b2 w a hbb_b2 hS hf; refine mv hf rfl ?_; clear hf a; intro a hf; refine nk<|W.seq<|?_
  refine W.regionL (l:=[0,1,2,3,4,5]) rfl<|ov hf rfl (RunV.field T_field_46_0 rfl rfl)<|?_; clear hf a; intro a hf; refine ov hf rfl (RunV.loadN (cs':=(aD x.p)) T_agg_24 T_size_24 rfl (hS.p 1 rfl) (bl rfl) rfl) ?_; clear hf a; intro a hf; refine ov hf rfl (RunV.field T_field_46_0 rfl rfl) ?_; clear hf a; intro a hf; refine ov hf rfl (RunV.loadN (cs':=(aD y.p)) T_agg_24 T_size_24 rfl (hS.p 0 rfl) (bl rfl) rfl) ?_; clear hf a; intro a hf; refine oc hf rfl C_ok_40 (order_spec x.p y.p _ (hS.bptO (i:=0) rfl)) ?_; clear hf a; rintro _ w3 hS1 a hf; replace hS:=hS.cl hS1; refine mv hf rfl ?_; clear hf a; intro a hf; refine nk<|W.ret<|post1 hf rfl (ResOK.tmp rfl)<|?_; exact ⟨(),rfl,hS.sub (List.nil_sublist _) |>.noB⟩
end Go.Proofs.YtgakdmmmljdpjaaDoor

namespace Go.SL
open Go Go.Proofs Go.Shelf Go.RowKit Go.Sort Go.Lib
def ltO (a b:Ob):Bool:=decide (cmpD a.p b.p<0)
def sortOs (l:List Ob):List Ob:=l.mergeSort fun x y=>!ltO y x
abbrev InL (ys:List Ob):={o:Ob // o ∈ ys}
def tagO (ys l:List Ob) (h:∀ o ∈ l,o ∈ ys):List (InL ys):=l.pmap (fun d hd=>⟨d,hd⟩) h
theorem tagO_val (ys l:List Ob) (h:∀ d ∈ l,d ∈ ys):(tagO ys l h).map (·.1)=l:=by
  unfold tagO
  rw [List.map_pmap]
  simp
theorem encsO_val {ys:List Ob} (l:List (InL ys)):encs (fun x:InL ys=>eO x.1) l=encs eO (l.map (·.1)):=by
  unfold encs
  rw [List.flatMap_map]
theorem srtO_val {ys:List Ob} (l:List (InL ys)):(srtF (ltOf fun x y:InL ys=>cmpD x.1.p y.1.p) l).map (·.1)=sortOs (l.map (·.1)):=by
  unfold srtF sortOs
  exact List.map_mergeSort (fun a _ b _=>rfl)
end Go.SL
namespace Go.Proofs.YtgakdmmmljdpjaaDoor
open Go Go.SL Go.Proofs Go.Shelf Go.RowKit Go.Sort Go.Lib
theorem eg39:∀ args w,(callFunc 39 args).run Tryd.prog w=.ok (.enter 39 args) w:=enters_of Tryd.func39 (by kernel_rfl) rfl
theorem closO (x y:Ob) (hx:okD x.p=true) (hy:okD y.p=true) (W:World) (hG:Lent W ordA):Calls Tryd.prog 39 #[.agg (eO x).toArray,.agg (eO y).toArray] W fun e w'=>e=.returned (.int .i64 (cmpD x.p y.p))∧∃ q os',w'=grow (W.drewN q) os':=by
  refine Calls.mono (ret_grown (run1_spec x y W hG) (fun g w' h=>⟨[],h⟩)) ?_
  rintro e w ⟨_,rfl,_,h⟩
  refine ⟨?_,h⟩
  unfold ordD
  rw [hx,hy]
  rfl
theorem sortO_gen (ys:List Ob) (y0:Ob) (hy0:y0 ∈ ys) (v:Value) (l:List Ob) (w0:World) (hin:∀ o ∈ l,o ∈ ys) (hok:∀ o ∈ ys,okD o.p=true) (hinj:∀ o ∈ ys,∀ o' ∈ ys,o.p=o'.p→o=o') (hG:Lent w0 ordA) (hX:slOK (hp w0) 46 6 v l.length (encs eO l)) (hl:l.length≤10000) (hv0:v.ownBlock≠some 0) :
    Ret Tryd.prog 38 #[v,.func (.func 39) #[] #[]] w0 (G:=Unit) (fun _=>.tuple #[]) (fun _ w=>St w0 w (fun k=>v.ownBlock=some k) [] [slE 46 6 eO v (sortOs l)]):=by
  have hv:=tagO_val ys l hin
  haveI:Inhabited (InL ys):=⟨⟨y0,hy0⟩⟩
  have hlen:(tagO ys l hin).length=l.length:=by rw [← List.length_map (f:=fun x:InL ys=>x.1),hv]
  have h:=sortF_G (E:=fun x:InL ys=>eO x.1) Tryd.sortO rfl Tryd.isAgg46 Tryd.sizeOf46 (fun _=>rfl) (by intro x u hu; simp [eO] at hu; rcases hu with rfl | rfl | rfl | rfl | rfl | rfl <;> rfl) (fun x y=>cmpD x.1.p y.1.p) (swoOn fun x:InL ys=>x.1.p) (totOn fun x y h=>Subtype.ext (hinj _ x.2 _ y.2 h)) eg39
    46 v (tagO ys l hin) w0 (by rw [encsO_val,hv,hlen]; exact hX) (by rw [hlen]; exact hl) (fun x y W hs hb=>closO x.1 y.1 (hok _ x.2) (hok _ y.2) W (lent_old hG hv0 hs hb))
  refine Calls.mono h ?_
  rintro e w ⟨g,rfl,hS⟩
  refine ⟨(),rfl,?_⟩
  unfold slE at hS ⊢
  rw [encsO_val,srtO_val,hv] at hS
  have:(srtF (ltOf fun x y:InL ys=>cmpD x.1.p y.1.p) (tagO ys l hin)).length=(sortOs l).length:=by rw [srtF_len,hlen]; unfold sortOs; rw [List.length_mergeSort]
  rw [this] at hS
  exact hS
theorem sortO_spec (v:Value) (l:List Ob) (w0:World) (hok:∀ o ∈ l,okD o.p=true) (hinj:∀ o ∈ l,∀ o' ∈ l,o.p=o'.p→o=o') (hG:Lent w0 ordA) (hX:slOK (hp w0) 46 6 v l.length (encs eO l)) (hl:l.length≤10000) (hv0:v.ownBlock≠some 0) :
    Ret Tryd.prog 38 #[v,.func (.func 39) #[] #[]] w0 (G:=Unit) (fun _=>.tuple #[]) (fun _ w=>St w0 w (fun k=>v.ownBlock=some k) [] [slE 46 6 eO v (sortOs l)]):=by
  cases l with
  | nil=>exact sortO_gen [default] default (by simp) v [] w0 (by simp) (by intro o ho; rw [List.mem_singleton.1 ho]; decide) (by intro o ho o' ho' _; rw [List.mem_singleton.1 ho,List.mem_singleton.1 ho']) hG hX hl hv0
  | cons o t=>exact sortO_gen (o::t) o (by simp) v (o::t) w0 (fun _ h=>h) hok hinj hG hX hl hv0
end Go.Proofs.YtgakdmmmljdpjaaDoor

namespace Go.SL
open Go
def obOf (g:Grp):Dg × List Dg:=((sortDs g.all).getD 0 default,sortDs g.all)
structure RunI (gs done:List Grp) (kvs todo:List (Dg × Value)) (sk:List (Nat × Value)) (os:List Ob):Prop where
  sub:∀ g ∈ done,g ∈ gs
  nd:(done.map (·.blk)).Nodup
  ob:os.map (fun o=>(o.p,o.l))=done.map obOf
  seen:∀ b,getP b sk=if b ∈ done.map (·.blk) then some (.bool true) else none
  keys:∀ p ∈ sk,p.1 ∈ done.map (·.blk)
  left:∀ p ∈ kvs,p ∈ todo∨∃ g ∈ done,p.2=ptrV g.blk
  inn:∀ p ∈ todo,∃ g ∈ gs,p.2=ptrV g.blk
theorem RunI.start {gs:List Grp} {kvs:List (Dg × Value)} (hL:Look kvs gs):RunI gs [] kvs kvs [] [] :=
  ⟨by simp,by simp,rfl,fun b=>rfl,by simp,fun p hp=>.inl hp,fun p hp=>by
    have h1:getP p.1 kvs=some p.2:=mem_getP hL.keys hp
    by_cases h:∃ g ∈ gs,p.1 ∈ g.all
    · obtain ⟨g,hg,hd⟩:=h
      have h2:=hL.hit g hg p.1 hd
      rw [h1] at h2
      exact ⟨g,hg,Option.some.inj h2⟩
    · have h2:=hL.miss p.1 fun g hg hd=>h ⟨g,hg,hd⟩
      rw [h1] at h2
      cases h2⟩
theorem ptrV_inj {a b:Nat} (h:ptrV a=ptrV b):a=b:=by
  unfold ptrV at h
  injection h with h
  injection h with h
  injection h
theorem RunI.old {gs done:List Grp} {kvs s t:List (Dg × Value)} {p:Dg × Value} {sk:List (Nat × Value)} {os:List Ob} {g:Grp} (h:RunI gs done kvs (s++p::t) sk os) (hp:p.2=ptrV g.blk) (hm:getP g.blk sk=some (.bool true)):RunI gs done kvs (s++t) sk os :=
  ⟨h.sub,h.nd,h.ob,h.seen,h.keys,fun q hq=>by
    rcases h.left q hq with h1 | h1
    · rcases List.mem_append.1 h1 with h2 | h2
      · exact .inl (List.mem_append.2 (.inl h2))
      · rcases List.mem_cons.1 h2 with rfl | h2
        · refine .inr ?_
          have:=h.seen g.blk
          rw [hm] at this
          split at this
          · rename_i hb
            obtain ⟨g',hg',he⟩:=List.mem_map.1 hb
            exact ⟨g',hg',by rw [hp,he]⟩
          · cases this
        · exact .inl (List.mem_append.2 (.inr h2))
    · exact .inr h1,fun q hq=>h.inn q ((List.mem_append.1 hq).elim (fun h=>List.mem_append.2 (.inl h)) (fun h=>List.mem_append.2 (.inr (List.mem_cons_of_mem _ h))))⟩
theorem setP_key {K:Type} [DecidableEq K] {k:K} {v:Value}:∀ {l:List (K × Value)} {q:K × Value},q ∈ setP k v l→q.1=k∨∃ q' ∈ l,q'.1=q.1
  | [],q,h=>by simp only [setP,List.mem_singleton] at h; subst h; exact .inl rfl
  | x::t,q,h=>by
    simp only [setP] at h
    split at h
    · rename_i hk
      rcases List.mem_cons.1 h with rfl | h
      · exact .inl rfl
      · exact .inr ⟨q,List.mem_cons_of_mem _ h,rfl⟩
    · rcases List.mem_cons.1 h with rfl | h
      · exact .inr ⟨_,List.mem_cons_self,rfl⟩
      · rcases setP_key h with h1 | ⟨q',h1,h2⟩
        · exact .inl h1
        · exact .inr ⟨q',List.mem_cons_of_mem _ h1,h2⟩
theorem RunI.new {gs done:List Grp} {kvs s t:List (Dg × Value)} {p:Dg × Value} {sk:List (Nat × Value)} {os:List Ob} {g:Grp} {o:Ob} (h:RunI gs done kvs (s++p::t) sk os) (hg:g ∈ gs) (hp:p.2=ptrV g.blk) (hm:getP g.blk sk=none) (ho:(o.p,o.l)=obOf g) :
    RunI gs (done++[g]) kvs (s++t) (setP g.blk (.bool true) sk) (os++[o]):=by
  have hnm:g.blk ∉ done.map (·.blk):=by
    intro hb
    have:=h.seen g.blk
    rw [hm,if_pos hb] at this
    cases this
  refine ⟨fun q hq=>?_,?_,?_,fun b=>?_,fun q hq=>?_,fun q hq=>?_,fun q hq=>h.inn q ((List.mem_append.1 hq).elim (fun h=>List.mem_append.2 (.inl h)) (fun h=>List.mem_append.2 (.inr (List.mem_cons_of_mem _ h))))⟩
  · rcases List.mem_append.1 hq with hq | hq
    · exact h.sub q hq
    · rw [List.mem_singleton.1 hq]; exact hg
  · rw [List.map_append,List.nodup_append]
    exact ⟨h.nd,by simp,fun a ha b hb e=>by simp only [List.map_cons,List.map_nil,List.mem_singleton] at hb; subst hb; subst e; exact hnm ha⟩
  · rw [List.map_append,List.map_append,h.ob]
    simp only [List.map_cons,List.map_nil,ho]
  · rw [getP_setP,h.seen,List.map_append]
    by_cases hb:b=g.blk
    · rw [if_pos hb,if_pos (by simp [hb])]
    · rw [if_neg hb]
      by_cases h2:b ∈ done.map (·.blk)
      · rw [if_pos h2,if_pos (List.mem_append.2 (.inl h2))]
      · rw [if_neg h2,if_neg (fun h3=>(List.mem_append.1 h3).elim h2 (fun h4=>hb (by simpa using h4)))]
  · rw [List.map_append]
    rcases setP_key hq with h1 | ⟨q',h1,h2⟩
    · exact List.mem_append.2 (.inr (by simp [h1]))
    · exact List.mem_append.2 (.inl (h2▸h.keys q' h1))
  · rcases h.left q hq with h1 | ⟨g',h1,h2⟩
    · rcases List.mem_append.1 h1 with h2 | h2
      · exact .inl (List.mem_append.2 (.inl h2))
      · rcases List.mem_cons.1 h2 with rfl | h2
        · exact .inr ⟨g,by simp,hp⟩
        · exact .inl (List.mem_append.2 (.inr h2))
    · exact .inr ⟨g',List.mem_append.2 (.inl h1),h2⟩
theorem nodup_of_map {T U:Type} {f:T→U} {l:List T} (h:(l.map f).Nodup):l.Nodup:=by
  rw [List.nodup_iff_pairwise_ne] at h ⊢
  rw [List.pairwise_map] at h
  exact h.imp fun hne e=>hne (by rw [e])
theorem RunI.all {gs done:List Grp} {kvs:List (Dg × Value)} {sk:List (Nat × Value)} {os:List Ob} (h:RunI gs done kvs [] sk os) (hL:Look kvs gs):done.Perm gs:=by
  classical
  refine (List.perm_ext_iff_of_nodup (nodup_of_map h.nd) (nodup_of_map hL.blks)).2 fun g=>⟨h.sub g,fun hg=>?_⟩
  obtain ⟨d,hd⟩:=List.exists_mem_of_ne_nil _ (hL.some_ g hg)
  have hk:=getP_mem (hL.hit g hg d hd)
  rcases h.left _ hk with h1 | ⟨g',h1,h2⟩
  · cases h1
  · have hb:=ptrV_inj h2
    have hgg:g=g':=by
      have hn:=hL.blks
      obtain ⟨i,hi,rfl⟩:=List.mem_iff_getElem.1 hg
      obtain ⟨j,hj,rfl⟩:=List.mem_iff_getElem.1 (h.sub g' h1)
      have:=(List.getElem_inj (h₀:=by simpa using hi) (h₁:=by simpa using hj) hn).1 (by simpa using hb)
      subst this
      rfl
    rw [hgg]
    exact h1
end Go.SL

namespace Go.SL
open Go
abbrev PO:=Dg × List Dg
def objP (p:PG):PO:=((sortDs p.1).getD 0 default,sortDs p.1)
def leO (x y:PO):Bool:=!ltD y.1 x.1
def objsM (S:List PG):List PO:=(S.map objP).mergeSort leO
theorem leO_iff {x y:PO}:leO x y=true↔cmpD x.1 y.1≤0:=by
  unfold leO ltD
  rw [Bool.not_eq_true',decide_eq_false_iff_not,cmpD_anti]
  omega
theorem leO_trans (a b c:PO) (h1:leO a b=true) (h2:leO b c=true):leO a c=true :=
  leO_iff.2 (cmpD_trans (leO_iff.1 h1) (leO_iff.1 h2)).1
theorem leO_total (a b:PO):(leO a b||leO b a)=true:=by
  rw [Bool.or_eq_true,leO_iff,leO_iff,cmpD_anti a.1 b.1]
  omega
theorem leO_anti {l:List PO} (hi:∀ x ∈ l,∀ y ∈ l,x.1=y.1→x=y) (a b:PO) (ha:a ∈ l) (hb:b ∈ l) (h1:leO a b=true) (h2:leO b a=true):a=b:=by
  refine hi a ha b hb (cmpD_eq ?_)
  have h3:=leO_iff.1 h1
  have h4:=leO_iff.1 h2
  rw [cmpD_anti] at h4
  omega
theorem sorted_eq {l s:List PO} (hi:∀ x ∈ l,∀ y ∈ l,x.1=y.1→x=y) (hp:l.Perm s) (hs:s.Pairwise (fun x y=>leO x y=true)):l.mergeSort leO=s:=by
  refine List.Perm.eq_of_pairwise (le:=fun x y=>leO x y=true) (fun a b ha hb=>leO_anti hi a b (List.mem_mergeSort.1 ha) (hp.mem_iff.2 hb)) (List.pairwise_mergeSort leO_trans leO_total l) hs ((List.mergeSort_perm l leO).trans hp)
theorem objsM_perm {l s:List PO} (hi:∀ x ∈ l,∀ y ∈ l,x.1=y.1→x=y) (hp:l.Perm s):l.mergeSort leO=s.mergeSort leO :=
  sorted_eq hi (hp.trans (List.mergeSort_perm s leO).symm) (List.pairwise_mergeSort leO_trans leO_total s)
def prO (o:Ob):PO:=(o.p,o.l)
theorem sortOs_pr (os:List Ob):(sortOs os).map prO=(os.map prO).mergeSort leO:=by
  unfold sortOs
  exact List.map_mergeSort fun a _ b _=>rfl
def obA (o:Ob):Asr:=slE 24 5 eD o.v o.l
theorem hd_mem {l:List Dg} (h:l≠[]):(sortDs l).getD 0 default ∈ l:=by
  have h0:0<(sortDs l).length:=by rw [show (sortDs l).length=l.length from List.length_mergeSort _]; exact List.length_pos_iff.2 h
  rw [List.getD_eq_getElem?_getD,List.getElem?_eq_getElem h0]
  exact (List.mergeSort_perm l _).mem_iff.1 (List.getElem_mem _)
theorem perm_of_mem {T:Type} {g:T} {gs:List T} (h:g ∈ gs):∃ rest,gs.Perm (g::rest):=by
  obtain ⟨s,t,rfl⟩:=List.append_of_mem h
  exact ⟨s++t,List.perm_middle⟩
theorem nodup_le {T:Type}:∀ {l m:List T},l.Nodup→(∀ x ∈ l,x ∈ m)→l.length≤m.length
  | [],_,_,_=>Nat.zero_le _
  | x::t,m,hn,hs=>by
    obtain ⟨r,hr⟩:=perm_of_mem (hs x List.mem_cons_self)
    rw [List.nodup_cons] at hn
    have:=nodup_le (l:=t) (m:=r) hn.2 fun y hy=>by
      rcases List.mem_cons.1 (hr.mem_iff.1 (hs y (List.mem_cons_of_mem _ hy))) with rfl | h
      · exact absurd hy hn.1
      · exact h
    rw [hr.length_eq]
    simp only [List.length_cons]
    omega
theorem len_tot {S:List PG} (h:∀ p ∈ S,p.1≠[]):S.length≤totS S:=by
  induction S with
  | nil=>exact Nat.zero_le _
  | cons p t ih =>
    have h1:=ih fun q hq=>h q (List.mem_cons_of_mem _ hq)
    have h2:=List.length_pos_iff.2 (h p List.mem_cons_self)
    rw [tot_cons,List.length_cons]
    omega
section
variable {gs done:List Grp} {kvs todo:List (Dg × Value)} {sk:List (Nat × Value)} {os:List Ob} {w w0:World} {X:Nat→Prop} {B M:List Asr} {i:Nat} {S:List PG} {l:List Ch} {us:List Bool}
theorem RunI.len (h:RunI gs done kvs todo sk os):os.length≤gs.length:=by
  have h1:=congrArg List.length h.ob
  rw [List.length_map,List.length_map] at h1
  rw [h1]
  exact nodup_le (nodup_of_map h.nd) h.sub
theorem gs_len (hm:histM l=.ok (S,us)) (hI:IsS kvs gs S):gs.length≤500:=by
  have h1:=tot_hist hm
  have h2:=len_tot fun p hp=>(okS_hist hm p hp).1
  rw [← hI.2,List.length_map] at h2
  rw [hI.2] at h2
  omega
theorem grp_ok (hm:histM l=.ok (S,us)) (hI:IsS kvs gs S) {g:Grp} (hg:g ∈ gs):g.all≠[]∧(∀ d ∈ g.all,okD d=true)∧g.all.length≤500:=by
  have h0:absG g ∈ S:=by rw [← hI.2]; exact List.mem_map.2 ⟨g,hg,rfl⟩
  have h1:=okS_hist hm _ h0
  have h2:=tot_mem h0
  have h3:=tot_hist hm
  exact ⟨h1.1,h1.2,by simp only [absG] at h2; omega⟩
theorem RunI.done_ (h:RunI gs done kvs [] sk os) (hI:IsS kvs gs S):(sortOs os).map prO=objsM S∧(∀ o ∈ os,∃ g ∈ gs,prO o=objP (absG g)):=by
  have hp:=h.all hI.1
  have hob:os.map prO=done.map obOf:=h.ob
  have hpp:(done.map obOf).Perm (S.map objP):=by
    rw [← hI.2,List.map_map]
    exact hp.map _
  have hmem:∀ o ∈ os,∃ g ∈ gs,prO o=objP (absG g):=fun o ho=>by
    have h1:prO o ∈ done.map obOf:=by rw [← hob]; exact List.mem_map.2 ⟨o,ho,rfl⟩
    obtain ⟨g,hg,he⟩:=List.mem_map.1 h1
    exact ⟨g,h.sub g hg,he.symm⟩
  refine ⟨?_,hmem⟩
  rw [sortOs_pr,hob]
  refine objsM_perm ?_ hpp
  intro x hx y hy he
  obtain ⟨g,hg,rfl⟩:=List.mem_map.1 hx
  obtain ⟨g',hg',rfl⟩:=List.mem_map.1 hy
  have h1:=hd_mem (hI.1.some_ g (h.sub g hg))
  have h2:=hd_mem (hI.1.some_ g' (h.sub g' hg'))
  have he:(sortDs g.all).getD 0 default=(sortDs g'.all).getD 0 default:=he
  rw [← he] at h2
  rw [hI.1.uniq (h.sub g hg) (h.sub g' hg') h1 h2]
theorem RunI.inj (h:RunI gs done kvs [] sk os) (hI:IsS kvs gs S):∀ o ∈ os,∀ o' ∈ os,o.p=o'.p→o=o':=by
  have hob:os.map prO=done.map obOf:=h.ob
  have hnd:(os.map (·.p)).Nodup:=by
    rw [show os.map (·.p)=(os.map prO).map (·.1) by rw [List.map_map]; rfl,hob,List.map_map]
    have hb:(done.map (·.blk)).Nodup:=h.nd
    rw [List.nodup_iff_pairwise_ne,List.pairwise_map] at hb ⊢
    refine hb.imp_of_mem fun {a b} ha hb' hne he=>hne ?_
    have h1:=hd_mem (hI.1.some_ a (h.sub a ha))
    have h2:=hd_mem (hI.1.some_ b (h.sub b hb'))
    have he:(sortDs a.all).getD 0 default=(sortDs b.all).getD 0 default:=he
    rw [← he] at h2
    rw [hI.1.uniq (h.sub a ha) (h.sub b hb') h1 h2]
  intro o ho o' ho' he
  obtain ⟨i,hi,rfl⟩:=List.mem_iff_getElem.1 ho
  obtain ⟨j,hj,rfl⟩:=List.mem_iff_getElem.1 ho'
  have:=(List.getElem_inj (h₀:=by simpa using hi) (h₁:=by simpa using hj) hnd).1 (by simpa using he)
  subst this
  rfl
theorem RunI.pok (h:RunI gs done kvs [] sk os) (hm:histM l=.ok (S,us)) (hI:IsS kvs gs S):∀ o ∈ os,okD o.p=true:=fun o ho=>by
  obtain ⟨g,hg,he⟩:=(h.done_ hI).2 o ho
  have h1:=grp_ok hm hI hg
  have:o.p=(sortDs g.all).getD 0 default:=congrArg Prod.fst he
  rw [this]
  exact h1.2.1 _ (hd_mem h1.1)
theorem St.bigSnoc {p:Asr} {l:List Asr} (hS:St w0 w X B (p::bigA l::M)):St w0 w X B (bigA (l++[p])::M):=by
  have h1:St w0 w X B ([]++p::bigA l::M):=hS
  exact h1.bigUncons.bigPerm (i:=0) rfl (List.perm_append_singleton p l).symm
theorem St.mapSnoc {T:Type} {f:T→Asr} {l:List T} {x:T} (hS:St w0 w X B (f x::bigA (l.map f)::M)):St w0 w X B (bigA ((l++[x]).map f)::M):=by
  rw [List.map_append]
  exact hS.bigSnoc
theorem St.grBack {p:Asr} {g:Grp} {rest:List Grp} (hp:gs.Perm (g::rest)) (hS:St w0 w X B (p::pt g.blk (.cells #[g.v,.bool g.num] 95 (0,0))::slE 24 5 eD g.v g.all::bigA (rest.map (grA 95 24))::M)):St w0 w X B (p::bigA (gs.map (grA 95 24))::M) :=
  hS.grPut.bigPerm (i:=1) rfl (hp.symm.map _)
end
end Go.SL
namespace Go.Proofs.YtgakdmmmljdpjaaDoor
open Go Go.SL
theorem cells_of {w0 w:World} {X:Nat→Prop} {B M:List Asr} {gs:List Grp} {i:Nat} (hS:St w0 w X B M) (hi:M[i]? = some (bigA (gs.map (grA 95 24)))):∀ g ∈ gs,cellAt w g.blk:=fun g hg=>by
  have h1:(bigA (gs.map (grA 95 24))).holds (hp w):=hS.at_ hi
  have h2:=h1.1 (grA 95 24 g) (List.mem_map.2 ⟨g,hg,rfl⟩)
  have h3:(pt g.blk (.cells #[g.v,.bool g.num] 95 (0,0))).holds (hp w):=h2.1 _ List.mem_cons_self
  exact ⟨_,_,h3⟩
theorem RunI.good {w:World} {gs done:List Grp} {kvs todo:List (Dg × Value)} {sk:List (Nat × Value)} {os:List Ob} (h:RunI gs done kvs todo sk os) (hc:∀ g ∈ gs,cellAt w g.blk):∀ p ∈ sk,cellAt w p.1:=fun p hp=>by
  obtain ⟨g,hg,he⟩:=List.mem_map.1 (h.keys p hp)
  rw [← he]
  exact hc g (h.sub g hg)
end Go.Proofs.YtgakdmmmljdpjaaDoor

namespace Go.SL
open Go
def numC (l:List Dg):Nat:=l.countP fun d=>decide (0<d.num)
def apartS (S:List PG):Prop:=S.Pairwise fun g g'=>∀ d ∈ g.1,d ∉ g'.1
def okG (g:PG):Prop:=g.1≠[]∧g.1.Nodup∧numC g.1=if g.2=true then 1 else 0
def wfS (S:List PG):Prop:=apartS S∧∀ g ∈ S,okG g
section
variable {S S' T:List PG} {c:Ch} {x y p:PG} {a b d:Dg}
theorem apartS_perm (h:S.Perm T):apartS S↔apartS T:=h.pairwise_iff fun {_ _} hab d hb ha=>hab d ha hb
theorem wfS_perm (h:S.Perm T) (hS:wfS S):wfS T:=⟨(apartS_perm h).1 hS.1,fun g hg=>hS.2 g (h.mem_iff.2 hg)⟩
theorem pg_take:∀ {S:List PG},p ∈ S→apartS S→d ∈ p.1→S.Perm (p::S.filter fun x=>!decide (d ∈ x.1))
  | x::t,hg,hp,hd=>by
    unfold apartS at hp
    rw [List.pairwise_cons] at hp
    rcases List.mem_cons.1 hg with rfl | hg
    · have:t.filter (fun x=>!decide (d ∈ x.1))=t:=by
        rw [List.filter_eq_self]
        intro y hy
        simpa using hp.1 y hy d hd
      simp [hd,this]
    · have hx:d ∉ x.1:=fun h=>hp.1 p hg d h hd
      have ih:=pg_take hg hp.2 hd
      simp only [List.filter_cons,hx,decide_false,Bool.not_false,if_true]
      exact (ih.cons x).trans (List.Perm.swap p x _)
theorem pg_take2 (ha:x ∈ S) (hb:y ∈ S) (hp:apartS S) (h1:a ∈ x.1) (h2:b ∈ y.1) (hne:a ∉ y.1) :
    S.Perm (x::y::S.filter fun x=>!decide (b ∈ x.1)&&!decide (a ∈ x.1)):=by
  have e1:=pg_take ha hp h1
  have hb':y ∈ S.filter (fun x=>!decide (a ∈ x.1)):=by
    rw [List.mem_filter]; exact ⟨hb,by simpa using hne⟩
  have e2:=pg_take hb' (List.Pairwise.sublist List.filter_sublist hp) h2
  rw [List.filter_filter] at e2
  exact e1.trans (e2.cons x)
theorem pg_uniq (h:apartS S) (hx:x ∈ S) (hy:y ∈ S) (h1:d ∈ x.1) (h2:d ∈ y.1):x=y:=by
  have e:=pg_take hx h h1
  rcases List.mem_cons.1 (e.mem_iff.1 hy) with rfl | h3
  · rfl
  · have:=(List.mem_filter.1 h3).2
    simp [h2] at this
theorem find_none (h:findG S d=none):∀ p ∈ S,d ∉ p.1:=fun p hp hd=>by
  unfold findG at h
  rw [List.find?_eq_none] at h
  exact h p hp (by simpa using hd)
theorem merged_perm (x y:PG):(merged x y).1.Perm (x.1++y.1):=by
  unfold merged
  split
  · exact List.perm_append_comm
  · exact List.Perm.refl _
theorem merged_num (x y:PG):(merged x y).2=(x.2||y.2):=by
  unfold merged
  split
  · exact Bool.or_comm _ _
  · rfl
theorem join_parts (hw:apartS S) (h:joinM S c=.ok S'):∃ x y rest,findG S c.a=some x∧findG S c.b=some y∧S.Perm (x::y::rest)∧S'=merged x y::rest∧c.a ∈ x.1∧c.b ∈ y.1∧(x.2&&y.2)=false:=by
  unfold joinM at h
  cases hx:findG S c.a with
  | none=>rw [hx] at h; cases h
  | some x =>
    cases hy:findG S c.b with
    | none=>rw [hx,hy] at h; cases h
    | some y =>
      rw [hx,hy] at h
      simp only at h
      split at h
      · cases h
      · rename_i hn
        cases h
        refine ⟨x,y,_,rfl,rfl,?_,rfl,(findG_mem hx).2,(findG_mem hy).2,?_⟩
        · exact pg_take2 (findG_mem hx).1 (findG_mem hy).1 hw (findG_mem hx).2 (findG_mem hy).2 fun h2=>hn (.inl (pg_uniq hw (findG_mem hx).1 (findG_mem hy).1 (findG_mem hx).2 h2))
        · cases hb:(x.2&&y.2) with
          | false=>rfl
          | true=>exact absurd (.inr hb) hn
theorem numC_app (l m:List Dg):numC (l++m)=numC l+numC m:=by unfold numC; exact List.countP_append
theorem numC_perm {l m:List Dg} (h:l.Perm m):numC l=numC m:=h.countP_eq _
theorem okC_1 (h:okC c=true) (hk:c.kind=1):c.a.num=0:=by
  unfold okC at h
  rw [if_pos hk] at h
  simp only [Bool.and_eq_true,decide_eq_true_eq] at h
  exact h.1.1.2
theorem okC_3 (h:okC c=true) (hk:c.kind=3):c.b.num>0:=by
  unfold okC at h
  rw [if_neg (by omega),if_neg (by omega),if_pos hk] at h
  simp only [Bool.and_eq_true,decide_eq_true_eq] at h
  exact h.2
theorem okG_join (hx:okG x) (hy:okG y) (hd:∀ d ∈ x.1,d ∉ y.1) (hn:(x.2&&y.2)=false):okG (merged x y):=by
  have hp:=merged_perm x y
  refine ⟨fun h=>?_,?_,?_⟩
  · rw [h] at hp
    have:=hp.length_eq
    rw [List.length_append] at this
    have:=List.length_pos_iff.2 hx.1
    simp at *
    omega
  · rw [hp.nodup_iff,List.nodup_append]
    exact ⟨hx.2.1,hy.2.1,fun a ha b hb e=>hd a ha (e▸hb)⟩
  · rw [numC_perm hp,numC_app,hx.2.2,hy.2.2,merged_num]
    cases h1:x.2 <;> cases h2:y.2 <;> simp_all
theorem wf_step (hS:wfS S) (hc:okC c=true) (hk:1≤c.kind∧c.kind≤3) (h:stepM S c=.ok S'):wfS S':=by
  unfold stepM at h
  by_cases h1:c.kind=1
  · rw [if_pos h1] at h
    unfold addM at h
    cases hf:findG S c.a with
    | some _=>rw [hf] at h; cases h
    | none =>
      rw [hf] at h
      cases h
      refine ⟨List.pairwise_cons.2 ⟨fun g hg d hd=>?_,hS.1⟩,fun g hg=>?_⟩
      · rw [List.mem_singleton.1 hd]; exact find_none hf g hg
      · rcases List.mem_cons.1 hg with rfl | hg
        · refine ⟨by simp,by simp,?_⟩
          have:=okC_1 hc h1
          simp [numC,this]
        · exact hS.2 g hg
  · rw [if_neg h1] at h
    by_cases h2:c.kind=2
    · rw [if_pos h2] at h
      obtain ⟨x,y,rest,_,_,hp,rfl,ha,hb,hn⟩:=join_parts hS.1 h
      have hw:=wfS_perm hp hS
      have hap:=hw.1
      unfold apartS at hap
      rw [List.pairwise_cons] at hap
      obtain ⟨ha1,ha2⟩:=hap
      rw [List.pairwise_cons] at ha2
      obtain ⟨ha2,ha3⟩:=ha2
      have hm:=merged_perm x y
      refine ⟨List.pairwise_cons.2 ⟨fun g hg d hd=>?_,ha3⟩,fun g hg=>?_⟩
      · rcases List.mem_append.1 (hm.mem_iff.1 hd) with h3 | h3
        · exact ha1 g (List.mem_cons_of_mem _ hg) d h3
        · exact ha2 g hg d h3
      · rcases List.mem_cons.1 hg with rfl | hg
        · exact okG_join (hw.2 x (by simp)) (hw.2 y (by simp)) (ha1 y (by simp)) hn
        · exact hw.2 g (by simp [hg])
    · rw [if_neg h2] at h
      unfold nameM at h
      cases hf:findG S c.a with
      | none=>rw [hf] at h; cases h
      | some x =>
        cases hb:findG S c.b with
        | some _=>rw [hf,hb] at h; cases h
        | none =>
          rw [hf,hb] at h
          simp only at h
          split at h
          · cases h
          · rename_i hn
            cases h
            have hp:=pg_take (findG_mem hf).1 hS.1 (findG_mem hf).2
            have hw:=wfS_perm hp hS
            have hap:=hw.1
            unfold apartS at hap
            rw [List.pairwise_cons] at hap
            have hnb:=find_none hb
            refine ⟨List.pairwise_cons.2 ⟨fun g hg d hd=>?_,hap.2⟩,fun g hg=>?_⟩
            · rcases List.mem_append.1 hd with h3 | h3
              · exact hap.1 g hg d h3
              · rw [List.mem_singleton.1 h3]; exact hnb g (List.mem_filter.1 hg).1
            · rcases List.mem_cons.1 hg with rfl | hg
              · have hx:=hw.2 x (by simp)
                refine ⟨by simp,?_,?_⟩
                · rw [List.nodup_append]
                  exact ⟨hx.2.1,by simp,fun a ha b hb' e=>by
                    rw [List.mem_singleton.1 hb'] at e; subst e; exact hnb x (findG_mem hf).1 ha⟩
                · have h5:=okC_3 hc (by omega)
                  show numC (x.1++[c.b])=_
                  rw [numC_app,hx.2.2,if_neg hn]
                  simp [numC,h5]
              · exact hw.2 g (by simp only [List.mem_cons]; exact .inr hg)
theorem wf_playK {l:List Ch} {us:List Bool} (hok:l.all okC=true):∀ {k:Nat} {S:List PG},k≤l.length→playK l us k=.ok S→wfS S
  | 0,S,_,h=>by cases h; exact ⟨List.Pairwise.nil,by simp⟩
  | k+1,S,hk,h=>by
    simp only [playK] at h
    cases hq:playK l us k with
    | error e=>rw [hq] at h; cases h
    | ok T =>
      rw [hq] at h
      have ih:=wf_playK hok (by omega) hq
      have hc:okC (l.getD k default)=true:=by
        rw [List.all_eq_true] at hok
        exact hok _ (by rw [List.getD_eq_getElem?_getD,List.getElem?_eq_getElem (by omega)]; exact List.getElem_mem _)
      simp only at h
      split at h
      · rename_i h4
        have:=okC_kind hc
        exact wf_step ih hc (by omega) h
      · cases h; exact ih
theorem wf_hist {l:List Ch} {us:List Bool} (h:histM l=.ok (S,us)):wfS S:=by
  obtain ⟨_,h2,_,h4⟩:=hist_parts h
  exact wf_playK h2 (Nat.le_refl _) h4
end
section
variable {S:List PG} {p q:PG} {d:Dg}
theorem objP_inj (hw:wfS S) (hp:p ∈ S) (hq:q ∈ S) (h:(objP p).1=(objP q).1):p=q:=by
  have h1:=hd_mem (hw.2 p hp).1
  have h2:=hd_mem (hw.2 q hq).1
  have h:(sortDs p.1).getD 0 default=(sortDs q.1).getD 0 default:=h
  rw [← h] at h2
  exact pg_uniq hw.1 hp hq h1 h2
theorem objs_inj (hw:wfS S):∀ x ∈ S.map objP,∀ y ∈ S.map objP,x.1=y.1→x=y:=fun x hx y hy h=>by
  obtain ⟨p,hp,rfl⟩:=List.mem_map.1 hx
  obtain ⟨q,hq,rfl⟩:=List.mem_map.1 hy
  rw [objP_inj hw hp hq h]
theorem sort_mem {l:List Dg}:d ∈ sortDs l↔d ∈ l:=(List.mergeSort_perm l _).mem_iff
theorem sort_len {l:List Dg}:(sortDs l).length=l.length:=List.length_mergeSort _
theorem sort_pair (l:List Dg):(sortDs l).Pairwise fun x y=>cmpD x y≤0:=by
  have h:(sortDs l).Pairwise fun x y=>(!ltD y x)=true:=List.pairwise_mergeSort (fun a b c h1 h2=>by
    have h1:=leO_iff (x:=(a,[])) (y:=(b,[])) |>.1 h1
    have h2:=leO_iff (x:=(b,[])) (y:=(c,[])) |>.1 h2
    exact leO_iff (x:=(a,[])) (y:=(c,[])) |>.2 (cmpD_trans h1 h2).1) (fun a b=>leO_total (a,[]) (b,[])) l
  exact h.imp fun {a b} hab=>leO_iff (x:=(a,[])) (y:=(b,[])) |>.1 hab
theorem pair_getD {T:Type} [Inhabited T] {R:T→T→Prop} {l:List T} (h:l.Pairwise R) {i j:Nat} (hij:i<j) (hj:j<l.length):R (l.getD i default) (l.getD j default):=by
  have:=List.pairwise_iff_getElem.1 h i j (by omega) hj hij
  simpa [List.getD_eq_getElem?_getD,List.getElem?_eq_getElem (show i<l.length by omega),List.getElem?_eq_getElem hj] using this
theorem cmpD_num {a b:Dg} (h:cmpD a b≤0) (hb:0<b.num):0<a.num:=by
  have h1:orM [-cmpI (if a.num<1 then a.num else 1) (if b.num<1 then b.num else 1),cmpI a.num b.num,cmpI a.yr b.yr,cmpI a.half b.half,cmpI a.cyc b.cyc,cmpI a.sec b.sec]≤0:=h
  refine Decidable.byContradiction fun hn=>?_
  rw [if_pos (by omega),if_neg (by omega)] at h1
  have:cmpI a.num 1=-1:=by unfold cmpI; rw [if_pos (by omega)]
  rw [this] at h1
  simp [orM] at h1
theorem num_head (hw:okG p) (h2:p.2=true):0<(objP p).1.num:=by
  have h3:0<numC p.1:=by rw [hw.2.2,if_pos h2]; omega
  unfold numC at h3
  rw [List.countP_pos_iff] at h3
  obtain ⟨d,hd,hn⟩:=h3
  have hm:=sort_mem.2 hd
  obtain ⟨k,hk,he⟩:=List.mem_iff_getElem.1 hm
  have hn:0<d.num:=by simpa using hn
  have he:(sortDs p.1).getD k default=d:=by rw [List.getD_eq_getElem?_getD,List.getElem?_eq_getElem hk]; simpa using he
  show 0<((sortDs p.1).getD 0 default).num
  cases k with
  | zero=>rw [he]; exact hn
  | succ k =>
    have:=pair_getD (sort_pair p.1) (Nat.succ_pos k) hk
    rw [he] at this
    exact cmpD_num this hn
end
end Go.SL

set_option maxHeartbeats 1000000
set_option maxRecDepth 8000
namespace Go.Proofs.YtgakdmmmljdpjaaDoor
open Go Go.SL
theorem C_ok_38:callOK Tryd.prog 38=true:=by kernel_rfl
theorem T_bytes_46:tBytes Tryd.prog 46=some 56:=by kernel_rfl
theorem T_elem_39:tElem Tryd.prog 39=some 46:=by kernel_rfl
theorem T_mapof_78:tMapOf Tryd.prog 78=some (79,.bool false):=by kernel_rfl
set_option maxHeartbeats 4000000 in
set_option maxRecDepth 4000 in
theorem run_ok (vl:Value) (l:List Ch) (w0:World) (hG:Lent w0 ordA) (hl:rdOK (hp w0) 12 vl l.length (encs eC l)) (hfit:vfit vl) (S:List PG) (us:List Bool) (hm:histM l=.ok (S,us)) :
    Ret Tryd.prog 16 #[vl] w0 (G:=Value × List Ob) (fun g=>.tuple #[g.1,.int .i64 0]) (fun g w=>St w0 w noX [] [slE 46 6 eO g.1 g.2,bigA (g.2.map obA)]∧g.2.map prO=objsM S):=by
  refine ret_of_W (lv:=[vl]) Tryd.func16 rfl rfl rfl (fun a hf=>?_); replace hf:Fr a 41 [] [(0,vl)]:=hf; have hS:St w0 w0 noX [ordA,rdv 12 vl l.length (encs eC l)] []:=((St.refl w0).lend0 hl).lendA hG; have hlm:=hl.2.1; unfold maxLen at hlm; refine W.seq ?_
  refine W.regionL (l:=[0,1]) rfl<|mv hf rfl<|?_; clear hf a; intro a hf; refine mv hf rfl ?_; clear hf a; intro a hf; refine nk<|W.seq<|?_
  refine W.regionL (l:=[0,1,2,3,4,5,6,7,8]) rfl<|mv hf rfl<|?_; clear hf a; intro a hf; refine oc hf rfl C_ok_32 (history_ok vl l _ (hS.bptO (i:=0) rfl) (hS.rdAt (j:=1) rfl) hfit hm) ?_; clear hf a; rintro ⟨uv,bm,kvs,gs⟩ w1 ⟨hS1,hI⟩ a hf; replace hS:=hS.cl hS1; refine mv hf rfl ?_; clear hf a; intro a hf; refine ov hf rfl (RunV.extract rfl rfl) ?_; clear hf a; intro a hf; refine ov hf rfl (RunV.extract rfl rfl) ?_; clear hf a; intro a hf; refine ov hf rfl (RunV.extract rfl rfl) ?_; clear hf a; intro a hf; refine mv hf rfl ?_; clear hf a; intro a hf; refine mv hf rfl ?_; clear hf a; intro a hf; refine mv hf rfl ?_; clear hf a; intro a hf; refine O.nil ?_; have hL:=hI.1; replace hS:=St.stOpen hS; replace hS:St w0 _ noX [ordA,rdv 12 vl l.length (encs eC l)] [mp dV bm kvs,bigA (gs.map (grA 95 24)),sl 4 1 uv us.length (bools us)]:=hS; refine k_seq<|W.seq<|W.seq<|?_
  refine W.regionL (l:=[0,1]) rfl<|mv hf rfl<|?_; clear hf a; intro a hf; refine ov hf rfl (RunV.toB (c:=false) (RunV.neq rfl rfl) (by decide)) ?_; clear hf a; intro a hf; refine nk<|W.if_ff hf rfl<|W.skip<|k_seq<|W.seq<|?_
  refine W.regionL (l:=[0]) rfl<|mv hf rfl<|?_; clear hf a; intro a hf; refine nk<|W.seq<|?_
  refine W.regionL (l:=[0,1]) rfl<|O.makeP ptrV hf hS rfl rfl<|?_; intro b_m2 w a hbb_m2 hS hf; refine mv hf rfl ?_; clear hf a; intro a hf; refine nk<|W.seq<|W.seq<|?_
  refine W.regionL (l:=[0,1]) rfl<|mv hf rfl<|?_; clear hf a; intro a hf; refine O.rangeP (j:=1) hf hS rfl rfl Tryd.underlying71 rfl rfl ?_; intro b_r3 w a hbb_r3 hS hf; replace hS:St w0 w noX [ordA,rdv 12 vl l.length (encs eC l)] [mp ptrV b_m2 ([]),rgA dV bm b_r3 kvs kvs none,bigA (gs.map (grA 95 24)),sl 4 1 uv us.length (bools us)]:=hS; refine nk ?_; replace hf:Fr a 41 [] [(2,.slice none 0 0),(3,.int .i64 0),(7,.slice none 0 0),(8,.map (some b_m2)),(22,.pointer (some ⟨b_r3,0,none⟩))]:=hf.q rfl; refine W.block ?_; replace hS:=hS.nilSl 46 6; replace hS:St w0 _ noX [ordA,rdv 12 vl l.length (encs eC l)] (bigA (([]:List Ob).map obA)::[sl 46 6 (.slice none 0 0) (([]:List Ob).length) (encs eO ([]:List Ob)),mp ptrV b_m2 ([]),rgA dV bm b_r3 kvs kvs none,bigA (gs.map (grA 95 24)),sl 4 1 uv us.length (bools us)]):=St.bigClose (N:=[]) (l:=[]) hS
  refine W.loop (G:=(List Grp) × (List (Dg × Value)) × (Option (Dg × Value)) × (List (Nat × Value)) × (List Ob) × (Value)) (fun g a w=>match g with | (done,todo,last,sk,os,vo)=>Fr a 41 [] [(2,.slice none 0 0),(3,.int .i64 0),(7,vo),(8,.map (some b_m2)),(22,.pointer (some ⟨b_r3,0,none⟩))]∧St w0 w noX [ordA,rdv 12 vl l.length (encs eC l)] [bigA (os.map obA),sl 46 6 vo os.length (encs eO os),mp ptrV b_m2 sk,rgA dV bm b_r3 kvs todo last,bigA (gs.map (grA 95 24)),sl 4 1 uv us.length (bools us)]∧(RunI gs done kvs todo sk os)) (fun g=>match g with | (done,todo,last,sk,os,vo)=>todo.length) ([],kvs,none,[],[],.slice none 0 0) ?_ ?_
  · refine ⟨hf.to ⟨rfl,rfl,(by first | rfl | exact congrArg some (congrArg (Value.int _) (by omega))),rfl,rfl,trivial⟩,hS,?_⟩
    · exact RunI.start hL
  clear hf hS a; rintro ⟨done,todo,last,sk,os,vo⟩ a w ⟨hf,hS,hR⟩; refine W.seq ?_
  refine W.regionL (l:=[0,1]) rfl ?_; refine O.nextP (j:=3) hf hS rfl rfl rfl rfl ?_ ?_
  · clear hf; intro htd a hf
    rw [htd] at hR; have hln:=Nat.le_trans hR.len (gs_len hm hI); refine ov hf rfl (RunV.extract rfl rfl) ?_; clear hf a; intro a hf; refine nk<|W.seq<|W.if_ff hf rfl<|W.exit<|k_then_exit<|k_then_exit<|k_blk<|k_seq<|W.seq<|?_
    refine W.regionL (l:=[0,1]) rfl<|mv hf rfl<|?_; clear hf a; intro a hf; refine oc hf rfl C_ok_38 (sortO_spec vo os _ (RunI.pok hR hm hI) (RunI.inj hR hI) (hS.bptO (i:=0) rfl) (hS.slAt (j:=1) rfl) (by omega) (fun h=>hS.apart (i:=1) (j:=0) rfl rfl 0 rfl h)) ?_; clear hf a; rintro _ w4 hS1 a hf; replace hS:=(hS.callX1 hS1 (i:=1) rfl (fun _ h=>h)).eqM (N:=[sl 46 6 vo ((sortOs os).length) (encs eO (sortOs os)),bigA (os.map obA),mp ptrV b_m2 sk,rgA dV bm b_r3 kvs todo last,bigA (gs.map (grA 95 24)),sl 4 1 uv us.length (bools us)]) rfl; refine nk<|W.seq<|?_
    refine W.regionL (l:=[0,1,2]) rfl<|mv hf rfl<|?_; clear hf a; intro a hf; refine mv hf rfl ?_; clear hf a; intro a hf; refine mv hf rfl ?_; clear hf a; intro a hf; refine nk<|W.ret<|post2 hf rfl (ResOK.tmp rfl) (ResOK.tmp rfl)<|?_; have hdn:=hR.done_ hI; have hpo:(os.map obA).Perm ((sortOs os).map obA):=(List.mergeSort_perm os _).symm.map _; replace hS:=hS.fr 1; replace hS:=hS.fr 1; replace hS:=hS.bigPerm (i:=1) rfl hpo; exact ⟨(vo,sortOs os),rfl,(hS.sub (List.Sublist.cons_cons _ (List.Sublist.cons_cons _ (List.nil_sublist _)))).noB,hdn.1⟩
  · clear hf hS; intro ts_ tp_ tt_ w a htd hS hf
    replace hS:St w0 w noX [ordA,rdv 12 vl l.length (encs eC l)] [bigA (os.map obA),sl 46 6 vo os.length (encs eO os),mp ptrV b_m2 sk,rgA dV bm b_r3 kvs (ts_++tt_) (some tp_),bigA (gs.map (grA 95 24)),sl 4 1 uv us.length (bools us)]:=hS; rw [htd] at hR; obtain ⟨gr,hg,hpv⟩:=hR.inn tp_ (by simp); obtain ⟨td,tv⟩:=tp_; simp only at hpv
    subst hpv
    replace hS:St w0 w noX [ordA,rdv 12 vl l.length (encs eC l)] [bigA (os.map obA),sl 46 6 vo os.length (encs eO os),mp ptrV b_m2 sk,rgA dV bm b_r3 kvs (ts_++tt_) (some (td,ptrV gr.blk)),bigA (gs.map (grA 95 24)),sl 4 1 uv us.length (bools us)]:=hS; refine ov hf rfl (RunV.extract rfl rfl) ?_; clear hf a; intro a hf; refine nk<|W.seq<|W.if_tt hf rfl<|W.skip<|k_seq<|W.block<|W.seq<|?_
    refine W.regionL (l:=[0,1,2]) rfl<|ov hf rfl (RunV.entryP hS (j:=3) rfl rfl) fun a hf=>ov hf rfl (RunV.extract rfl rfl)<|?_; clear hf a; intro a hf; refine mv hf rfl ?_; clear hf a; intro a hf; refine nk<|W.seq<|?_
    rcases (show getP gr.blk sk=some (.bool true)∨getP gr.blk sk=none from by rw [hR.seen]; split <;> simp) with hsk | hsk
    ·
      refine W.regionL (l:=[0,1,2,3]) rfl<|mv hf rfl<|?_; clear hf a; intro a hf; refine mv hf rfl ?_; clear hf a; intro a hf; refine ov hf rfl (RunV.lookP (k:=gr.blk) (kvs:=sk) T_mapof_78 keyG (cells_of hS (i:=4) rfl _ hg) (RunI.good hR (cells_of hS (i:=4) rfl)) rfl rfl (hS.mpAt (j:=2) rfl) (by rw [hsk] <;> rfl)) ?_; clear hf a; intro a hf; refine ov (v:=.bool false) hf rfl (RunV.not (b:=true) rfl) ?_; clear hf a; intro a hf; refine nk<|W.if_ff hf rfl<|W.skip<|k_blk_normal<|?_; refine k_then ⟨(done,ts_++tt_,some (td,ptrV gr.blk),sk,os,vo),⟨hf.to ⟨rfl,rfl,(by first | rfl | exact congrArg some (congrArg (Value.int _) (by omega))),rfl,rfl,trivial⟩,?_,?_⟩,?_⟩
      · exact hS.eqM rfl
      · exact RunI.old (g:=gr) (p:=(td,ptrV gr.blk)) hR rfl hsk
      · dsimp only; rw [htd]; simp only [List.length_append,List.length_cons]; omega
    ·
      refine W.regionL (l:=[0,1,2,3]) rfl<|mv hf rfl<|?_; clear hf a; intro a hf; refine mv hf rfl ?_; clear hf a; intro a hf; refine ov hf rfl (RunV.lookP (k:=gr.blk) (kvs:=sk) T_mapof_78 keyG (cells_of hS (i:=4) rfl _ hg) (RunI.good hR (cells_of hS (i:=4) rfl)) rfl rfl (hS.mpAt (j:=2) rfl) (by rw [hsk] <;> rfl)) ?_; clear hf a; intro a hf; refine ov (v:=.bool true) hf rfl (RunV.not (b:=false) rfl) ?_; clear hf a; intro a hf; refine nk<|W.if_tt hf rfl<|W.seq<|?_
      refine W.regionL (l:=[0,1,2]) rfl<|mv hf rfl<|?_; clear hf a; intro a hf; refine mv hf rfl ?_; clear hf a; intro a hf; refine O.putP (j:=2) (k:=gr.blk) (v:=(.bool true)) (kvs:=sk) (M':=[bigA (os.map obA),sl 46 6 vo os.length (encs eO os),mp ptrV b_m2 (setP gr.blk (.bool true) sk),rgA dV bm b_r3 kvs (ts_++tt_) (some (td,ptrV gr.blk)),bigA (gs.map (grA 95 24)),sl 4 1 uv us.length (bools us)]) hf hS rfl T_mapof_78 keyG (cells_of hS (i:=4) rfl _ hg) (RunI.good hR (cells_of hS (i:=4) rfl)) rfl rfl rfl rfl rfl ?_; intro w hS; refine nk ?_
      refine W.regionL (l:=[0,1,2,3,4,5]) rfl ?_; obtain ⟨rest,hpm⟩:=perm_of_mem hg; have hgo:=grp_ok hm hI hg; have hln:=Nat.le_trans hR.len (gs_len hm hI); replace hS:=hS.fr 4; replace hS:=hS.fr 3; replace hS:=St.grTake hS hpm; replace hS:St w0 _ noX [ordA,rdv 12 vl l.length (encs eC l)] [mp ptrV b_m2 (setP gr.blk (.bool true) sk),pt gr.blk (.cells #[gr.v,.bool gr.num] 95 (0,0)),sl 24 5 gr.v gr.all.length (encs eD gr.all),bigA (rest.map (grA 95 24)),bigA (os.map obA),sl 46 6 vo os.length (encs eO os),rgA dV bm b_r3 kvs (ts_++tt_) (some (td,ptrV gr.blk)),sl 4 1 uv us.length (bools us)]:=hS; refine mv hf rfl ?_; clear hf a; intro a hf; refine mv hf rfl ?_; clear hf a; intro a hf; refine oc hf rfl C_ok_37 (object_spec gr.blk gr.v gr.num gr.all _ (hS.bptO (i:=0) rfl) (hS.lentAt (i:=1) rfl) (hS.slr (j:=2) rfl) (slOK.fit (hS.slAt (j:=2) rfl)) hgo.1 (by omega) hgo.2.1) ?_; clear hf a; rintro ov w5 hS1 a hf; replace hS:=hS.cl hS1; obtain ⟨oa,om,oc,hov⟩:=slv_of (hS.slr (j:=0) rfl); obtain ⟨o,ho1,ho2,ho3⟩:∃ o:Ob,((sortDs gr.all).getD 0 default)=o.p∧sortDs gr.all=o.l∧ov=o.v:=⟨⟨((sortDs gr.all).getD 0 default),oa,om,oc,sortDs gr.all⟩,rfl,rfl,hov⟩; rw [ho1,ho3] at hf; rw [ho2,ho3] at hS; replace hS:St w0 _ noX [ordA,rdv 12 vl l.length (encs eC l)] [obA o,mp ptrV b_m2 (setP gr.blk (.bool true) sk),pt gr.blk (.cells #[gr.v,.bool gr.num] 95 (0,0)),sl 24 5 gr.v gr.all.length (encs eD gr.all),bigA (rest.map (grA 95 24)),bigA (os.map obA),sl 46 6 vo os.length (encs eO os),rgA dV bm b_r3 kvs (ts_++tt_) (some (td,ptrV gr.blk)),sl 4 1 uv us.length (bools us)]:=hS; refine O.buildSlice (cs':=#[.int .i64 o.p.num,.int .i64 o.p.yr,.int .u8 o.p.half,.int .u8 o.p.sec,.int .i64 o.p.cyc,.slice o.ad o.n o.c]) (zs:=#[.int .i64 0,.int .i64 0,.int .u8 0,.int .u8 0,.int .i64 0,.slice none 0 0]) hf hS rfl rfl T_elem_39 T_size_46 T_zero_46 rfl rfl rfl rfl rfl ?_; intro b_s6 w a hbb_s6 hS hf; refine O.append1 (j:=7) (jj:=0) hf hS rfl rfl T_elem_39 T_size_46 T_bytes_46 T_zero_46 rfl rfl rfl rfl rfl rfl rfl rfl (by unfold maxLen; omega) (by omega) ?_; intro v7 w a hS hf; replace hS:=hS.eqM (N:=[pt b_s6 (.cells #[.int .i64 o.p.num,.int .i64 o.p.yr,.int .u8 o.p.half,.int .u8 o.p.sec,.int .i64 o.p.cyc,.slice o.ad o.n o.c] 46 (0,0)),obA o,mp ptrV b_m2 (setP gr.blk (.bool true) sk),pt gr.blk (.cells #[gr.v,.bool gr.num] 95 (0,0)),sl 24 5 gr.v gr.all.length (encs eD gr.all),bigA (rest.map (grA 95 24)),bigA (os.map obA),sl 46 6 v7 (os.length+1) (encs eO os++[.int .i64 o.p.num,.int .i64 o.p.yr,.int .u8 o.p.half,.int .u8 o.p.sec,.int .i64 o.p.cyc,.slice o.ad o.n o.c]),rgA dV bm b_r3 kvs (ts_++tt_) (some (td,ptrV gr.blk)),sl 4 1 uv us.length (bools us)]) rfl; replace hS:=hS.reE (i:=7) (M':=[pt b_s6 (.cells #[.int .i64 o.p.num,.int .i64 o.p.yr,.int .u8 o.p.half,.int .u8 o.p.sec,.int .i64 o.p.cyc,.slice o.ad o.n o.c] 46 (0,0)),obA o,mp ptrV b_m2 (setP gr.blk (.bool true) sk),pt gr.blk (.cells #[gr.v,.bool gr.num] 95 (0,0)),sl 24 5 gr.v gr.all.length (encs eD gr.all),bigA (rest.map (grA 95 24)),bigA (os.map obA),sl 46 6 v7 ((os++[o]).length) (encs eO (os++[o])),rgA dV bm b_r3 kvs (ts_++tt_) (some (td,ptrV gr.blk)),sl 4 1 uv us.length (bools us)]) rfl (sl_snoc (enc:=eO) (l:=os) (x:=o)) rfl; refine mv hf rfl ?_; clear hf a; intro a hf; refine O.nil ?_; replace hS:=hS.fr 6; replace hS:=hS.fr 2; replace hS:=St.mapSnoc hS; replace hS:St w0 _ noX [ordA,rdv 12 vl l.length (encs eC l)] [bigA ((os++[o]).map obA),pt b_s6 (.cells #[.int .i64 o.p.num,.int .i64 o.p.yr,.int .u8 o.p.half,.int .u8 o.p.sec,.int .i64 o.p.cyc,.slice o.ad o.n o.c] 46 (0,0)),mp ptrV b_m2 (setP gr.blk (.bool true) sk),pt gr.blk (.cells #[gr.v,.bool gr.num] 95 (0,0)),sl 24 5 gr.v gr.all.length (encs eD gr.all),bigA (rest.map (grA 95 24)),sl 46 6 v7 ((os++[o]).length) (encs eO (os++[o])),rgA dV bm b_r3 kvs (ts_++tt_) (some (td,ptrV gr.blk)),sl 4 1 uv us.length (bools us)]:=hS; replace hS:=hS.fr 5; replace hS:=hS.fr 5; replace hS:=hS.fr 5; replace hS:=hS.fr 5; replace hS:=St.grBack hpm hS; replace hS:St w0 _ noX [ordA,rdv 12 vl l.length (encs eC l)] [mp ptrV b_m2 (setP gr.blk (.bool true) sk),bigA (gs.map (grA 95 24)),bigA ((os++[o]).map obA),pt b_s6 (.cells #[.int .i64 o.p.num,.int .i64 o.p.yr,.int .u8 o.p.half,.int .u8 o.p.sec,.int .i64 o.p.cyc,.slice o.ad o.n o.c] 46 (0,0)),sl 46 6 v7 ((os++[o]).length) (encs eO (os++[o])),rgA dV bm b_r3 kvs (ts_++tt_) (some (td,ptrV gr.blk)),sl 4 1 uv us.length (bools us)]:=hS; refine k_blk_normal ?_; replace hS:=hS.fr 6; replace hS:=hS.fr 2; replace hS:=hS.fr 6; replace hS:=hS.fr 3; replace hS:=hS.fr 6; replace hS:=hS.fr 5; replace hS:=hS.sl [1,1,1,1,1,1]; refine k_then ⟨(done++[gr],ts_++tt_,some (td,ptrV gr.blk),setP gr.blk (.bool true) sk,os++[o],v7),⟨hf.to ⟨rfl,rfl,(by first | rfl | exact congrArg some (congrArg (Value.int _) (by omega))),rfl,rfl,trivial⟩,?_,?_⟩,?_⟩
      · exact hS.eqM rfl
      · exact RunI.new (g:=gr) (p:=(td,ptrV gr.blk)) hR hg rfl hsk (by unfold obOf; rw [ho1,ho2])
      · dsimp only; rw [htd]; simp only [List.length_append,List.length_cons]; omega
end Go.Proofs.YtgakdmmmljdpjaaDoor

namespace Go.SL
open Go
section
variable {r:Option Nat} {P:Program} {ops:Array Oper} {Q:Exit→Act→World→Prop} {a:Act} {w w0:World} {n:Nat} {ds:List Deferred} {L:List (Nat × Value)} {X:Nat→Prop} {B M:List Asr}
theorem O.buildC {i d j m len:Nat} {t ty e:TypeId} {rest:List Nat} {pos:String} {af:Array Edge} {z:Value} {c:Bool} {p:Asr} {parts:Array (Nat × Operand)} {vs:List (Nat × Value)} {cs' zs:Array Value}
    (hf:Fr a n ds L) (hS:St w0 w X B M) (hj:M[j]? = some (condA c p)) (hc:c=false) (ho:ops[i]? = some ⟨some d,.buildSlice t len parts,ty,pos,af,none⟩) (hd:Nat.blt d n=true)
    (he:tElem P t=some e) (hs:tSize P e=some m) (hz:tZero P e=some z) (h0:Nat.ble (len*m) 16777216=true) (h1:Nat.blt 0 (len*m)=true) (hzs:((List.range (len*m)).map (z.cells[· % z.cells.size]!)).toArray=zs)
    (hv:evP L parts.toList=some vs) (hb:Instr.fill (fun i=>some (i*m,m)) zs vs=some cs')
    (k:∀ b w' a',St w0 w' X B (M.set j (pt b (.cells cs' e (0,0))))→Fr a' n ds ((d,.slice (some ⟨b,0,none⟩) len len)::L)→O r P ops Q rest a' w'):O r P ops Q (i::rest) a w:=by
  refine O.buildSlice hf hS ho hd he hs hz h0 h1 hzs hv hb (fun b w' a' hb hS' hf'=>k b w' a' ?_ hf')
  subst hc
  have h1:=hS'.sep
  obtain ⟨hjl,hje⟩:=List.getElem?_eq_some_iff.1 hj
  refine ⟨hS'.os,hS'.tape,hS'.output,hS'.size,hS'.old,?_,hS'.bor⟩
  have hp:=h1.1
  have hM:=h1.2
  clear h1 hS hS' k hf hf' ho
  revert j
  induction M with
  | nil=>intro j hj hjl _; simp at hj
  | cons q t ih =>
    intro j hj hjl hje
    cases j with
    | zero =>
      simp only [List.set_cons_zero]
      exact ⟨⟨hp.1,hp.2.1,fun s hs=>hp.2.2 s (by simp [hs])⟩,hM.2⟩
    | succ j =>
      simp only [List.set_cons_succ]
      have h2:=ih ⟨hp.1,hp.2.1,fun s hs=>hp.2.2 s (by simp [hs])⟩ hM.2 (j:=j) (by simpa using hj) (by simpa using hjl) (by simpa using hje)
      refine ⟨⟨hM.1.1,hM.1.2.1,fun s hs b' hb' hsb=>?_⟩,h2⟩
      rcases List.mem_or_eq_of_mem_set hs with h3 | h3
      · exact hM.1.2.2 s h3 b' hb' hsb
      · subst h3
        exact hp.2.2 q (by simp) b' hsb hb'
end
section
variable {r:Option Nat} {P:Program} {ops:Array Oper} {Q:Exit→Act→World→Prop} {a:Act} {w w0:World} {n:Nat} {ds:List Deferred} {γ:Type} {X:Nat→Prop} {B M:List Asr}
theorem oj {T:Type} {x y:T} (h:some x=some y):x=y:=Option.some.inj h
def Lq (v:Nat→Value) (i:Nat) (l:List Nat) (N:Nat):List Value:=(List.range N).map fun j=>match Nat.beq j i||l.contains j with
  | true=>undef
  | false=>v j
end
end Go.SL

namespace Go.Proofs.YtgakdmmmljdpjaaDoor
open Go Go.SL
end Go.Proofs.YtgakdmmmljdpjaaDoor

namespace Go.SL
open Go
def allA (l:List Asr):Asr:=⟨fun b=>∃ p ∈ l,p.fp b,fun h=>∀ p ∈ l,p.holds h,fun h h' hk hh p hp=>p.loc h h' (fun b hb=>hk b ⟨p,hp,hb⟩) (hh p hp)⟩
def rdOb (o:Ob):Asr:=rdv 5 o.v o.l.length (encs eD o.l)
section
variable {w0 w:World} {X:Nat→Prop} {B M:List Asr} {i j:Nat} {os:List Ob} {o:Ob} {l:List Asr}
def obsRd (w:World) (os:List Ob):Prop:=∀ o ∈ os,rdOK (hp w) 5 o.v o.l.length (encs eD o.l)
theorem St.lendObs (hS:St w w noX B M) (h:obsRd w os):St w w noX (allA (os.map rdOb)::B) M :=
  hS.lendA ⟨fun p hp=>by
    obtain ⟨o,ho,rfl⟩:=List.mem_map.1 hp
    exact h o ho,fun b ⟨p,hp,hb⟩=>by
    obtain ⟨o,ho,rfl⟩:=List.mem_map.1 hp
    have h1:=h o ho
    have h2:St w w noX [rdv 5 o.v o.l.length (encs eD o.l)] []:=(St.refl w).lend0 h1
    exact ((h2.bor _ List.mem_cons_self).2 b hb).1⟩
theorem St.obAt (hS:St w0 w X B M) (hi:B[i]? = some (allA (os.map rdOb))):obsRd w os:=fun o ho=>by
  have h:(allA (os.map rdOb)).holds (hp w):=hS.bat hi
  exact h (rdOb o) (List.mem_map.2 ⟨o,ho,rfl⟩)
theorem slE_rd {h:Hp} {e sz:Nat} {enc:Dg→List Value} {v:Value} {l:List Dg} (hh:(slE e sz enc v l).holds h):rdOK h sz v l.length (encs enc l):=(show slOK h e sz v l.length (encs enc l) from hh).rd
theorem St.obOwn (hS:St w0 w X B M) (hi:M[i]? = some (bigA (os.map obA))):obsRd w os:=fun o ho=>by
  have h:(bigA (os.map obA)).holds (hp w):=hS.at_ hi
  have h1:(obA o).holds (hp w):=h.1 (obA o) (List.mem_map.2 ⟨o,ho,rfl⟩)
  exact slE_rd h1
theorem obsRd.at (h:obsRd w os) {k:Nat} (hk:k<os.length):rdOK (hp w) 5 (os.getD k default).v (os.getD k default).l.length (encs eD (os.getD k default).l) :=
  h _ (by rw [List.getD_eq_getElem?_getD,List.getElem?_eq_getElem hk]; exact List.getElem_mem _)
theorem obsRd.nil:obsRd w []:=fun o ho=>by cases ho
theorem obsRd.cons {t:List Ob} (h:rdOK (hp w) 5 o.v o.l.length (encs eD o.l)) (ht:obsRd w t):obsRd w (o::t):=fun x hx=>by
  rcases List.mem_cons.1 hx with rfl | hx
  · exact h
  · exact ht x hx
end
def nameD (c:Int):Dg:=⟨0,2026,87,c,0⟩
def numD:Dg:=⟨700001,0,0,0,0⟩
def givenL:List Ch:=[⟨1,nameD 65,default,0⟩,⟨1,nameD 66,default,0⟩,⟨2,nameD 65,nameD 66,0⟩,⟨3,nameD 66,numD,0⟩]
instance {T:Type} [DecidableEq T]:DecidableEq (Except Int T):=fun a b=>match a,b with
  | .error e,.error f=>if h:e=f then isTrue (h▸rfl) else isFalse (fun h2=>h (by injection h2))
  | .ok x,.ok y=>if h:x=y then isTrue (h▸rfl) else isFalse (fun h2=>h (by injection h2))
  | .error _,.ok _=>isFalse (fun h=>by cases h)
  | .ok _,.error _=>isFalse (fun h=>by cases h)
theorem sortDs_eq {l s:List Dg} (hp:l.Perm s) (hs:s.Pairwise (fun x y=>ltD y x=false)):sortDs l=s:=by
  have h:=sorted_eq (l:=l.map fun d=>(d,[])) (s:=s.map fun d=>(d,[])) (fun x hx y hy he=>by
    obtain ⟨a,_,rfl⟩:=List.mem_map.1 hx
    obtain ⟨b,_,rfl⟩:=List.mem_map.1 hy
    exact Prod.ext he rfl) (hp.map _) (by
    rw [List.pairwise_map]
    exact hs.imp fun {a b} h=>by unfold leO; simp only [h]; rfl)
  have h2:=congrArg (List.map Prod.fst) h
  rw [List.map_mergeSort (r:=leO) (s:=fun x y=>!ltD y x) (f:=Prod.fst) (fun a _ b _=>rfl),List.map_map,List.map_map] at h2
  simpa [Function.comp_def,sortDs] using h2
end Go.SL

namespace Go.SL
open Go
def greatM (n:Nat):Bool:=decide ((n:Int)>25)&&decide ((n:Int)≤500)||decide ((n:Int)>510)
section
variable {p q:Dg} {lp lq:List Dg} {k:Nat} {xs ys:List Ob}
theorem ext_getD {T:Type} [Inhabited T] {a b:List T} (hl:a.length=b.length) (h:∀ j,j<a.length→a.getD j default=b.getD j default):a=b:=by
  apply List.ext_getElem hl
  intro i h1 h2
  have:=h i h1
  simpa [List.getD_eq_getElem?_getD,List.getElem?_eq_getElem h1,List.getElem?_eq_getElem h2] using this
theorem sameO_1 (h:¬ p=q∨¬ (lp.length:Int)=(lq.length:Int)):decide (p=q∧lp=lq)=false:=decide_eq_false fun h2=>by
  rcases h with h | h
  · exact h h2.1
  · exact h (by rw [h2.2])
theorem sameO_2 (hk:k<lp.length) (h:¬ lp.getD k default=lq.getD k default):decide (p=q∧lp=lq)=false:=decide_eq_false fun h2=>h (by rw [h2.2])
theorem sameO_3 (h1:p=q) (h2:lp.length=lq.length) (h:∀ j,j<lp.length→lp.getD j default=lq.getD j default):decide (p=q∧lp=lq)=true:=decide_eq_true ⟨h1,ext_getD h2 h⟩
theorem same_1 (h:¬ (xs.length:Int)=(ys.length:Int)):decide (xs.map prO=ys.map prO)=false:=decide_eq_false fun h2=>h (by
  have:=congrArg List.length h2
  simp only [List.length_map] at this
  rw [this])
theorem prO_get {k:Nat}:(xs.map prO)[k]? = (xs[k]?).map prO:=by simp
theorem same_2 (hk:k<xs.length) (h:¬ ((xs.getD k default).p=(ys.getD k default).p∧(xs.getD k default).l=(ys.getD k default).l)):decide (xs.map prO=ys.map prO)=false:=decide_eq_false fun h2=>by
  have h3:ys.length=xs.length:=by simpa using (congrArg List.length h2).symm
  have h4:=congrArg (·[k]?) h2
  simp only [prO_get,List.getElem?_eq_getElem hk,List.getElem?_eq_getElem (show k<ys.length by omega),Option.map_some,Option.some.injEq] at h4
  refine h ?_
  simp only [List.getD_eq_getElem?_getD,List.getElem?_eq_getElem hk,List.getElem?_eq_getElem (show k<ys.length by omega),Option.getD_some]
  exact ⟨congrArg Prod.fst h4,congrArg Prod.snd h4⟩
theorem same_3 (h2:xs.length=ys.length) (h:∀ j,j<xs.length→prO (xs.getD j default)=prO (ys.getD j default)):decide (xs.map prO=ys.map prO)=true:=decide_eq_true (by
  apply List.ext_getElem (by simpa using h2)
  intro i h3 h4
  have h5:i<xs.length:=by simpa using h3
  have:=h i h5
  simpa [List.getD_eq_getElem?_getD,List.getElem?_eq_getElem h5,List.getElem?_eq_getElem (show i<ys.length by omega)] using this)
theorem same_4 {x y:Ob} (h:x.p=y.p∧x.l=y.l):prO x=prO y:=Prod.ext h.1 h.2
end
end Go.SL
