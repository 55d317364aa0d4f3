/- Part of a proof: laws and walks. -/
import Derived.Test.YtgakdmmmljdpjaaDoorTaj
set_option linter.unusedVariables false
set_option linter.unusedSimpArgs false
namespace Go.Proofs.YtgakdmmmljdpjaaDoor
open Go Go.SL
theorem T_arr_83:tArr Tryd.prog 83=some (5,3):=by kernel_rfl
theorem T_int_3:tInt Tryd.prog 3=some .i64:=by kernel_rfl
theorem T_size_83:tSize Tryd.prog 83=some 5:=by kernel_rfl
theorem T_zero_83:tZero Tryd.prog 83=some (.agg #[.int .i64 0,.int .i64 0,.int .i64 0,.int .i64 0,.int .i64 0]):=by kernel_rfl
set_option maxHeartbeats 4000000 in
set_option maxRecDepth 4000 in
theorem bef_spec (x y:Dg) (w0:World) :
    Ret Tryd.prog 18 #[.agg #[.int .i64 x.num,.int .i64 x.yr,.int .u8 x.half,.int .u8 x.sec,.int .i64 x.cyc],.agg #[.int .i64 y.num,.int .i64 y.yr,.int .u8 y.half,.int .u8 y.sec,.int .i64 y.cyc]] w0 (G:=Unit) (fun _=>.int .i64 (befM x y)) (fun _ w=>St w0 w noX [] []):=by
  refine ret_of_W (lv:=[.agg #[.int .i64 x.num,.int .i64 x.yr,.int .u8 x.half,.int .u8 x.sec,.int .i64 x.cyc],.agg #[.int .i64 y.num,.int .i64 y.yr,.int .u8 y.half,.int .u8 y.sec,.int .i64 y.cyc]]) Tryd.func18 rfl rfl rfl (fun a hf=>?_)
  replace hf:Fr a 60 [] [(0,.agg #[.int .i64 x.num,.int .i64 x.yr,.int .u8 x.half,.int .u8 x.sec,.int .i64 x.cyc]),(1,.agg #[.int .i64 y.num,.int .i64 y.yr,.int .u8 y.half,.int .u8 y.sec,.int .i64 y.cyc])]:=hf
  have hS:St w0 w0 noX [] []:=St.refl w0
  refine W.seq ?_
  refine W.regionL (l:=[0,1,2]) rfl ?_
  refine O.box (cs:=#[.int .i64 x.num,.int .i64 x.yr,.int .u8 x.half,.int .u8 x.sec,.int .i64 x.cyc]) hf hS rfl rfl rfl rfl ?_
  clear hf hS a; intro b_a1 w a hbb_a1 hS hf
  refine O.box (cs:=#[.int .i64 y.num,.int .i64 y.yr,.int .u8 y.half,.int .u8 y.sec,.int .i64 y.cyc]) hf hS rfl rfl rfl rfl ?_
  clear hf hS a; intro b_b2 w a hbb_b2 hS hf
  refine O.val hf rfl rfl rfl (RunV.assign rfl) ?_
  clear hf a; intro a hf
  refine O.nil ?_
  refine k_seq ?_
  replace hf:Fr a 60 [] [(2,.pointer (some ⟨b_a1,0,none⟩)),(3,.pointer (some ⟨b_b2,0,none⟩)),(4,.int .i64 0)]:=hf.to ⟨rfl,rfl,rfl,trivial⟩
  refine W.seq ?_
  refine W.regionL (l:=[0,1,2,3,4,5,6,7,8,9,10,11,12,13,14]) rfl ?_
  refine O.val hf rfl rfl rfl (RunV.field T_field_24_0 rfl rfl) ?_
  clear hf a; intro a hf
  refine O.val hf rfl rfl rfl (RunV.load1 T_agg_3 rfl (hS.ptAt (i:=1) rfl) rfl) ?_
  clear hf a; intro a hf
  refine O.val hf rfl rfl rfl (RunV.field T_field_24_1 rfl rfl) ?_
  clear hf a; intro a hf
  refine O.val hf rfl rfl rfl (RunV.load1 T_agg_3 rfl (hS.ptAt (i:=1) rfl) rfl) ?_
  clear hf a; intro a hf
  refine O.val hf rfl rfl rfl (RunV.field T_field_24_2 rfl rfl) ?_
  clear hf a; intro a hf
  refine O.val hf rfl rfl rfl (RunV.load1 T_agg_5 rfl (hS.ptAt (i:=1) rfl) rfl) ?_
  clear hf a; intro a hf
  refine O.val hf rfl rfl rfl (RunV.conv T_und_5 T_int_3 rfl) ?_
  clear hf a; intro a hf
  refine O.val hf rfl rfl rfl (RunV.field T_field_24_4 rfl rfl) ?_
  clear hf a; intro a hf
  refine O.val hf rfl rfl rfl (RunV.load1 T_agg_3 rfl (hS.ptAt (i:=1) rfl) rfl) ?_
  clear hf a; intro a hf
  refine O.val hf rfl rfl rfl (RunV.field T_field_24_3 rfl rfl) ?_
  clear hf a; intro a hf
  refine O.val hf rfl rfl rfl (RunV.load1 T_agg_5 rfl (hS.ptAt (i:=1) rfl) rfl) ?_
  clear hf a; intro a hf
  refine O.val hf rfl rfl rfl (RunV.conv T_und_5 T_int_3 rfl) ?_
  clear hf a; intro a hf
  refine O.val hf rfl rfl rfl (RunV.buildA (cs':=#[.int .i64 x.num,.int .i64 x.yr,.int .i64 (IntKind.i64.wrap x.half),.int .i64 x.cyc,.int .i64 (IntKind.i64.wrap x.sec)]) T_arr_83 T_size_3 T_zero_83 rfl rfl) ?_
  clear hf a; intro a hf
  refine O.alloc (cs:=#[.int .i64 0,.int .i64 0,.int .i64 0,.int .i64 0,.int .i64 0]) hf hS rfl rfl T_zero_83 rfl ?_
  clear hf hS a; intro b_x3 w a hbb_x3 hS hf
  refine O.store (j:=0) (cs':=#[.int .i64 x.num,.int .i64 x.yr,.int .i64 (IntKind.i64.wrap x.half),.int .i64 x.cyc,.int .i64 (IntKind.i64.wrap x.sec)]) (M':=[pt b_x3 (.cells #[.int .i64 x.num,.int .i64 x.yr,.int .i64 (IntKind.i64.wrap x.half),.int .i64 x.cyc,.int .i64 (IntKind.i64.wrap x.sec)] 83 (0,0)),pt b_b2 (.cells #[.int .i64 y.num,.int .i64 y.yr,.int .u8 y.half,.int .u8 y.sec,.int .i64 y.cyc] 24 (0,0)),pt b_a1 (.cells #[.int .i64 x.num,.int .i64 x.yr,.int .u8 x.half,.int .u8 x.sec,.int .i64 x.cyc] 24 (0,0))]) hf hS rfl rfl rfl T_size_83 rfl rfl rfl (Nat.le_of_ble_eq_true rfl) rfl rfl ?_
  clear hS; intro w hS
  refine O.nil ?_
  refine k_seq ?_
  replace hf:Fr a 60 [] [(2,.pointer (some ⟨b_a1,0,none⟩)),(3,.pointer (some ⟨b_b2,0,none⟩)),(4,.int .i64 0),(5,.pointer (some ⟨b_x3,0,none⟩))]:=hf.to ⟨rfl,rfl,rfl,rfl,trivial⟩
  refine W.seq ?_
  refine W.regionL (l:=[0,1,2,3,4,5,6,7,8,9,10,11,12,13,14]) rfl ?_
  refine O.val hf rfl rfl rfl (RunV.field T_field_24_0 rfl rfl) ?_
  clear hf a; intro a hf
  refine O.val hf rfl rfl rfl (RunV.load1 T_agg_3 rfl (hS.ptAt (i:=1) rfl) rfl) ?_
  clear hf a; intro a hf
  refine O.val hf rfl rfl rfl (RunV.field T_field_24_1 rfl rfl) ?_
  clear hf a; intro a hf
  refine O.val hf rfl rfl rfl (RunV.load1 T_agg_3 rfl (hS.ptAt (i:=1) rfl) rfl) ?_
  clear hf a; intro a hf
  refine O.val hf rfl rfl rfl (RunV.field T_field_24_2 rfl rfl) ?_
  clear hf a; intro a hf
  refine O.val hf rfl rfl rfl (RunV.load1 T_agg_5 rfl (hS.ptAt (i:=1) rfl) rfl) ?_
  clear hf a; intro a hf
  refine O.val hf rfl rfl rfl (RunV.conv T_und_5 T_int_3 rfl) ?_
  clear hf a; intro a hf
  refine O.val hf rfl rfl rfl (RunV.field T_field_24_4 rfl rfl) ?_
  clear hf a; intro a hf
  refine O.val hf rfl rfl rfl (RunV.load1 T_agg_3 rfl (hS.ptAt (i:=1) rfl) rfl) ?_
  clear hf a; intro a hf
  refine O.val hf rfl rfl rfl (RunV.field T_field_24_3 rfl rfl) ?_
  clear hf a; intro a hf
  refine O.val hf rfl rfl rfl (RunV.load1 T_agg_5 rfl (hS.ptAt (i:=1) rfl) rfl) ?_
  clear hf a; intro a hf
  refine O.val hf rfl rfl rfl (RunV.conv T_und_5 T_int_3 rfl) ?_
  clear hf a; intro a hf
  refine O.val hf rfl rfl rfl (RunV.buildA (cs':=#[.int .i64 y.num,.int .i64 y.yr,.int .i64 (IntKind.i64.wrap y.half),.int .i64 y.cyc,.int .i64 (IntKind.i64.wrap y.sec)]) T_arr_83 T_size_3 T_zero_83 rfl rfl) ?_
  clear hf a; intro a hf
  refine O.alloc (cs:=#[.int .i64 0,.int .i64 0,.int .i64 0,.int .i64 0,.int .i64 0]) hf hS rfl rfl T_zero_83 rfl ?_
  clear hf hS a; intro b_y4 w a hbb_y4 hS hf
  refine O.store (j:=0) (cs':=#[.int .i64 y.num,.int .i64 y.yr,.int .i64 (IntKind.i64.wrap y.half),.int .i64 y.cyc,.int .i64 (IntKind.i64.wrap y.sec)]) (M':=[pt b_y4 (.cells #[.int .i64 y.num,.int .i64 y.yr,.int .i64 (IntKind.i64.wrap y.half),.int .i64 y.cyc,.int .i64 (IntKind.i64.wrap y.sec)] 83 (0,0)),pt b_x3 (.cells #[.int .i64 x.num,.int .i64 x.yr,.int .i64 (IntKind.i64.wrap x.half),.int .i64 x.cyc,.int .i64 (IntKind.i64.wrap x.sec)] 83 (0,0)),pt b_b2 (.cells #[.int .i64 y.num,.int .i64 y.yr,.int .u8 y.half,.int .u8 y.sec,.int .i64 y.cyc] 24 (0,0)),pt b_a1 (.cells #[.int .i64 x.num,.int .i64 x.yr,.int .u8 x.half,.int .u8 x.sec,.int .i64 x.cyc] 24 (0,0))]) hf hS rfl rfl rfl T_size_83 rfl rfl rfl (Nat.le_of_ble_eq_true rfl) rfl rfl ?_
  clear hS; intro w hS
  refine O.nil ?_
  refine k_seq ?_
  replace hf:Fr a 60 [] [(2,.pointer (some ⟨b_a1,0,none⟩)),(3,.pointer (some ⟨b_b2,0,none⟩)),(4,.int .i64 0),(5,.pointer (some ⟨b_x3,0,none⟩)),(6,.pointer (some ⟨b_y4,0,none⟩))]:=hf.to ⟨rfl,rfl,rfl,rfl,rfl,trivial⟩
  refine W.seq ?_
  refine W.seq ?_
  refine W.regionL (l:=[0,1,2]) rfl ?_
  refine O.val hf rfl rfl rfl (RunV.field T_field_24_0 rfl rfl) ?_
  clear hf a; intro a hf
  refine O.val hf rfl rfl rfl (RunV.load1 T_agg_3 rfl (hS.ptAt (i:=3) rfl) rfl) ?_
  clear hf a; intro a hf
  refine O.val (v:=.bool (decide (x.num=(0:Int)))) hf rfl rfl rfl (RunV.eql rfl rfl) ?_
  clear hf a; intro a hf
  refine O.nil ?_
  refine k_seq ?_
  replace hf:Fr a 60 [] [(3,.pointer (some ⟨b_b2,0,none⟩)),(4,.int .i64 0),(5,.pointer (some ⟨b_x3,0,none⟩)),(6,.pointer (some ⟨b_y4,0,none⟩)),(36,.bool (decide (x.num=(0:Int))))]:=hf.to ⟨rfl,rfl,rfl,rfl,rfl,trivial⟩
  refine W.ifdI hf rfl (fun ha=>?_) (fun ha=>?_)
  ·
    refine W.regionL (l:=[0,1]) rfl ?_
    refine O.val hf rfl rfl rfl (RunV.indexArr (j:=0) (m:=0) T_arr_83 T_size_3 rfl rfl rfl (by omega) (by omega)) ?_
    clear hf a; intro a hf
    refine O.store (j:=1) (cs':=#[.int .i64 15396336,.int .i64 x.yr,.int .i64 (IntKind.i64.wrap x.half),.int .i64 x.cyc,.int .i64 (IntKind.i64.wrap x.sec)]) (M':=[pt b_y4 (.cells #[.int .i64 y.num,.int .i64 y.yr,.int .i64 (IntKind.i64.wrap y.half),.int .i64 y.cyc,.int .i64 (IntKind.i64.wrap y.sec)] 83 (0,0)),pt b_x3 (.cells #[.int .i64 15396336,.int .i64 x.yr,.int .i64 (IntKind.i64.wrap x.half),.int .i64 x.cyc,.int .i64 (IntKind.i64.wrap x.sec)] 83 (0,0)),pt b_b2 (.cells #[.int .i64 y.num,.int .i64 y.yr,.int .u8 y.half,.int .u8 y.sec,.int .i64 y.cyc] 24 (0,0)),pt b_a1 (.cells #[.int .i64 x.num,.int .i64 x.yr,.int .u8 x.half,.int .u8 x.sec,.int .i64 x.cyc] 24 (0,0))]) hf hS rfl rfl rfl T_size_3 rfl rfl rfl (Nat.le_of_ble_eq_true rfl) rfl rfl ?_
    clear hS; intro w hS
    refine O.nil ?_
    refine k_seq ?_
    replace hf:Fr a 60 [] [(3,.pointer (some ⟨b_b2,0,none⟩)),(4,.int .i64 0),(5,.pointer (some ⟨b_x3,0,none⟩)),(6,.pointer (some ⟨b_y4,0,none⟩))]:=hf.to ⟨rfl,rfl,rfl,rfl,trivial⟩
    refine W.seq ?_
    refine W.seq ?_
    refine W.regionL (l:=[0,1,2]) rfl ?_
    refine O.val hf rfl rfl rfl (RunV.field T_field_24_0 rfl rfl) ?_
    clear hf a; intro a hf
    refine O.val hf rfl rfl rfl (RunV.load1 T_agg_3 rfl (hS.ptAt (i:=2) rfl) rfl) ?_
    clear hf a; intro a hf
    refine O.val (v:=.bool (decide (y.num=(0:Int)))) hf rfl rfl rfl (RunV.eql rfl rfl) ?_
    clear hf a; intro a hf
    refine O.nil ?_
    refine k_seq ?_
    replace hf:Fr a 60 [] [(4,.int .i64 0),(5,.pointer (some ⟨b_x3,0,none⟩)),(6,.pointer (some ⟨b_y4,0,none⟩)),(40,.bool (decide (y.num=(0:Int))))]:=hf.to ⟨rfl,rfl,rfl,rfl,trivial⟩
    refine W.ifdI hf rfl (fun hb=>?_) (fun hb=>?_)
    ·
      refine W.regionL (l:=[0,1]) rfl ?_
      refine O.val hf rfl rfl rfl (RunV.indexArr (j:=0) (m:=0) T_arr_83 T_size_3 rfl rfl rfl (by omega) (by omega)) ?_
      clear hf a; intro a hf
      refine O.store (j:=0) (cs':=#[.int .i64 15396336,.int .i64 y.yr,.int .i64 (IntKind.i64.wrap y.half),.int .i64 y.cyc,.int .i64 (IntKind.i64.wrap y.sec)]) (M':=[pt b_y4 (.cells #[.int .i64 15396336,.int .i64 y.yr,.int .i64 (IntKind.i64.wrap y.half),.int .i64 y.cyc,.int .i64 (IntKind.i64.wrap y.sec)] 83 (0,0)),pt b_x3 (.cells #[.int .i64 15396336,.int .i64 x.yr,.int .i64 (IntKind.i64.wrap x.half),.int .i64 x.cyc,.int .i64 (IntKind.i64.wrap x.sec)] 83 (0,0)),pt b_b2 (.cells #[.int .i64 y.num,.int .i64 y.yr,.int .u8 y.half,.int .u8 y.sec,.int .i64 y.cyc] 24 (0,0)),pt b_a1 (.cells #[.int .i64 x.num,.int .i64 x.yr,.int .u8 x.half,.int .u8 x.sec,.int .i64 x.cyc] 24 (0,0))]) hf hS rfl rfl rfl T_size_3 rfl rfl rfl (Nat.le_of_ble_eq_true rfl) rfl rfl ?_
      clear hS; intro w hS
      refine O.nil ?_
      refine k_seq ?_
      replace hf:Fr a 60 [] [(4,.int .i64 0),(5,.pointer (some ⟨b_x3,0,none⟩)),(6,.pointer (some ⟨b_y4,0,none⟩))]:=hf.to ⟨rfl,rfl,rfl,trivial⟩
      refine W.seq ?_
      refine W.seq ?_
      refine W.regionL (l:=[0]) rfl ?_
      refine O.val hf rfl rfl rfl (RunV.assign rfl) ?_
      clear hf a; intro a hf
      refine O.nil ?_
      refine k_seq ?_
      refine W.block ?_
      refine W.loop (G:=(Nat)) (fun g a w=>match g with | k=>Fr a 60 [] [(5,.pointer (some ⟨b_x3,0,none⟩)),(6,.pointer (some ⟨b_y4,0,none⟩)),(7,.int .i64 (k:Int))]∧St w0 w noX [] [pt b_y4 (.cells #[.int .i64 15396336,.int .i64 y.yr,.int .i64 (IntKind.i64.wrap y.half),.int .i64 y.cyc,.int .i64 (IntKind.i64.wrap y.sec)] 83 (0,0)),pt b_x3 (.cells #[.int .i64 15396336,.int .i64 x.yr,.int .i64 (IntKind.i64.wrap x.half),.int .i64 x.cyc,.int .i64 (IntKind.i64.wrap x.sec)] 83 (0,0)),pt b_b2 (.cells #[.int .i64 y.num,.int .i64 y.yr,.int .u8 y.half,.int .u8 y.sec,.int .i64 y.cyc] 24 (0,0)),pt b_a1 (.cells #[.int .i64 x.num,.int .i64 x.yr,.int .u8 x.half,.int .u8 x.sec,.int .i64 x.cyc] 24 (0,0))]∧(k≤5)∧(∀ i,i<k→[15396336,x.yr,IntKind.i64.wrap x.half,x.cyc,IntKind.i64.wrap x.sec].getD i 0=[15396336,y.yr,IntKind.i64.wrap y.half,y.cyc,IntKind.i64.wrap y.sec].getD i 0)) (fun g=>match g with | k=>5-k) 0 ?_ ?_
      · refine ⟨hf.to ⟨rfl,rfl,(by first | rfl | exact congrArg some (congrArg (Value.int _) (by omega))),trivial⟩,hS,?_,?_⟩
        · omega
        · intro i hi; omega
      clear hf hS a
      rintro k a w ⟨hf,hS,hk,h2⟩
      refine W.seq ?_
      refine W.seq ?_
      refine W.regionL (l:=[0,1]) rfl ?_
      refine O.val hf rfl rfl rfl (RunV.move rfl) ?_
      clear hf a; intro a hf
      refine O.val (v:=.bool (decide ((k:Int)<(5:Int)))) hf rfl rfl rfl (RunV.lss rfl rfl) ?_
      clear hf a; intro a hf
      refine O.nil ?_
      refine k_seq ?_
      replace hf:Fr a 60 [] [(5,.pointer (some ⟨b_x3,0,none⟩)),(6,.pointer (some ⟨b_y4,0,none⟩)),(7,.int .i64 (k:Int)),(43,.bool (decide ((k:Int)<(5:Int))))]:=hf.to ⟨rfl,rfl,rfl,rfl,trivial⟩
      refine W.ifdI hf rfl (fun hc7=>?_) (fun hc7=>?_)
      · refine W.skip ?_
        refine k_seq ?_
        refine W.seq ?_
        refine W.block ?_
        refine W.seq ?_
        refine W.seq ?_
        refine W.drawQ (fun w=>St w0 w noX [] [pt b_y4 (.cells #[.int .i64 15396336,.int .i64 y.yr,.int .i64 (IntKind.i64.wrap y.half),.int .i64 y.cyc,.int .i64 (IntKind.i64.wrap y.sec)] 83 (0,0)),pt b_x3 (.cells #[.int .i64 15396336,.int .i64 x.yr,.int .i64 (IntKind.i64.wrap x.half),.int .i64 x.cyc,.int .i64 (IntKind.i64.wrap x.sec)] 83 (0,0)),pt b_b2 (.cells #[.int .i64 y.num,.int .i64 y.yr,.int .u8 y.half,.int .u8 y.sec,.int .i64 y.cyc] 24 (0,0)),pt b_a1 (.cells #[.int .i64 x.num,.int .i64 x.yr,.int .u8 x.half,.int .u8 x.sec,.int .i64 x.cyc] 24 (0,0))]) P_mixed rfl (by kernel_rfl) rfl hS.drew ?_
        clear hS
        refine OQ.val (v:=.int .i64 (k:Int)) hf rfl (fun w hS=>RunV.move rfl) ?_; clear hf a; intro a hf
        refine OQ.val (v:=.pointer (some ⟨b_x3,k,none⟩)) hf rfl (fun w hS=>RunV.indexArr (j:=k) (m:=k) T_arr_83 T_size_3 rfl rfl rfl (by omega) (by omega)) ?_; clear hf a; intro a hf
        refine OQ.val (v:=.int .i64 ([15396336,x.yr,IntKind.i64.wrap x.half,x.cyc,IntKind.i64.wrap x.sec].getD k 0)) hf rfl (fun w hS=>RunV.load1 T_agg_3 rfl (hS.ptAt (i:=1) rfl) (arr5 (by omega))) ?_; clear hf a; intro a hf
        refine OQ.val (v:=.int .i64 (k:Int)) hf rfl (fun w hS=>RunV.move rfl) ?_; clear hf a; intro a hf
        refine OQ.val (v:=.pointer (some ⟨b_y4,k,none⟩)) hf rfl (fun w hS=>RunV.indexArr (j:=k) (m:=k) T_arr_83 T_size_3 rfl rfl rfl (by omega) (by omega)) ?_; clear hf a; intro a hf
        refine OQ.val (v:=.int .i64 ([15396336,y.yr,IntKind.i64.wrap y.half,y.cyc,IntKind.i64.wrap y.sec].getD k 0)) hf rfl (fun w hS=>RunV.load1 T_agg_3 rfl (hS.ptAt (i:=0) rfl) (arr5 (by omega))) ?_; clear hf a; intro a hf
        refine OQ.val (v:=.bool (decide (([15396336,x.yr,IntKind.i64.wrap x.half,x.cyc,IntKind.i64.wrap x.sec].getD k 0)<([15396336,y.yr,IntKind.i64.wrap y.half,y.cyc,IntKind.i64.wrap y.sec].getD k 0:Int)))) hf rfl (fun w hS=>RunV.lss rfl rfl) ?_; clear hf a; intro a hf
        refine OQ.nil ?_; intro w hS
        refine k_seq ?_
        replace hf:Fr a 60 [] [(5,.pointer (some ⟨b_x3,0,none⟩)),(6,.pointer (some ⟨b_y4,0,none⟩)),(7,.int .i64 (k:Int)),(52,.bool (decide (([15396336,x.yr,IntKind.i64.wrap x.half,x.cyc,IntKind.i64.wrap x.sec].getD k 0)<([15396336,y.yr,IntKind.i64.wrap y.half,y.cyc,IntKind.i64.wrap y.sec].getD k 0:Int))))]:=hf.to ⟨rfl,rfl,rfl,rfl,trivial⟩
        refine W.ifdI hf rfl (fun hlt=>?_) (fun hlt=>?_)
        · refine W.seq ?_
          refine W.regionL (l:=[0]) rfl ?_
          refine O.val hf rfl rfl rfl (RunV.assign rfl) ?_
          clear hf a; intro a hf
          refine O.nil ?_
          refine k_seq ?_
          refine W.ret ?_
          refine k_then_ret ?_
          refine k_blk_ret ?_
          refine k_then_ret ?_
          refine k_then_ret ?_
          refine k_blk_ret ?_
          refine k_then_ret ?_
          refine post1 hf rfl (ResOK.tmp rfl) ?_
          exact ⟨(),congrArg (fun x=>Ending.returned (Value.int .i64 x)) (by unfold befM befN; (first | rw [if_pos ha,if_pos hb] | rw [if_pos ha,if_neg hb] | rw [if_neg ha,if_pos hb] | rw [if_neg ha,if_neg hb]); exact bef_lt h2 (by omega) hlt),hS.sub (List.nil_sublist _) |>.noB⟩
        · refine W.skip ?_
          refine k_seq ?_
          refine W.seq ?_
          refine W.drawQ (fun w=>St w0 w noX [] [pt b_y4 (.cells #[.int .i64 15396336,.int .i64 y.yr,.int .i64 (IntKind.i64.wrap y.half),.int .i64 y.cyc,.int .i64 (IntKind.i64.wrap y.sec)] 83 (0,0)),pt b_x3 (.cells #[.int .i64 15396336,.int .i64 x.yr,.int .i64 (IntKind.i64.wrap x.half),.int .i64 x.cyc,.int .i64 (IntKind.i64.wrap x.sec)] 83 (0,0)),pt b_b2 (.cells #[.int .i64 y.num,.int .i64 y.yr,.int .u8 y.half,.int .u8 y.sec,.int .i64 y.cyc] 24 (0,0)),pt b_a1 (.cells #[.int .i64 x.num,.int .i64 x.yr,.int .u8 x.half,.int .u8 x.sec,.int .i64 x.cyc] 24 (0,0))]) P_mixed rfl (by kernel_rfl) rfl hS.drew ?_
          clear hS
          refine OQ.val (v:=.int .i64 (k:Int)) hf rfl (fun w hS=>RunV.move rfl) ?_; clear hf a; intro a hf
          refine OQ.val (v:=.pointer (some ⟨b_x3,k,none⟩)) hf rfl (fun w hS=>RunV.indexArr (j:=k) (m:=k) T_arr_83 T_size_3 rfl rfl rfl (by omega) (by omega)) ?_; clear hf a; intro a hf
          refine OQ.val (v:=.int .i64 ([15396336,x.yr,IntKind.i64.wrap x.half,x.cyc,IntKind.i64.wrap x.sec].getD k 0)) hf rfl (fun w hS=>RunV.load1 T_agg_3 rfl (hS.ptAt (i:=1) rfl) (arr5 (by omega))) ?_; clear hf a; intro a hf
          refine OQ.val (v:=.int .i64 (k:Int)) hf rfl (fun w hS=>RunV.move rfl) ?_; clear hf a; intro a hf
          refine OQ.val (v:=.pointer (some ⟨b_y4,k,none⟩)) hf rfl (fun w hS=>RunV.indexArr (j:=k) (m:=k) T_arr_83 T_size_3 rfl rfl rfl (by omega) (by omega)) ?_; clear hf a; intro a hf
          refine OQ.val (v:=.int .i64 ([15396336,y.yr,IntKind.i64.wrap y.half,y.cyc,IntKind.i64.wrap y.sec].getD k 0)) hf rfl (fun w hS=>RunV.load1 T_agg_3 rfl (hS.ptAt (i:=0) rfl) (arr5 (by omega))) ?_; clear hf a; intro a hf
          refine OQ.val (v:=.bool (decide (([15396336,x.yr,IntKind.i64.wrap x.half,x.cyc,IntKind.i64.wrap x.sec].getD k 0)>([15396336,y.yr,IntKind.i64.wrap y.half,y.cyc,IntKind.i64.wrap y.sec].getD k 0:Int)))) hf rfl (fun w hS=>RunV.gtr rfl rfl) ?_; clear hf a; intro a hf
          refine OQ.nil ?_; intro w hS
          refine k_seq ?_
          replace hf:Fr a 60 [] [(5,.pointer (some ⟨b_x3,0,none⟩)),(6,.pointer (some ⟨b_y4,0,none⟩)),(7,.int .i64 (k:Int)),(59,.bool (decide (([15396336,x.yr,IntKind.i64.wrap x.half,x.cyc,IntKind.i64.wrap x.sec].getD k 0)>([15396336,y.yr,IntKind.i64.wrap y.half,y.cyc,IntKind.i64.wrap y.sec].getD k 0:Int))))]:=hf.to ⟨rfl,rfl,rfl,rfl,trivial⟩
          refine W.ifdI hf rfl (fun hgt=>?_) (fun hgt=>?_)
          · refine W.seq ?_
            refine W.regionL (l:=[0]) rfl ?_
            refine O.val hf rfl rfl rfl (RunV.assign rfl) ?_
            clear hf a; intro a hf
            refine O.nil ?_
            refine k_seq ?_
            refine W.ret ?_
            refine k_blk_ret ?_
            refine k_then_ret ?_
            refine k_then_ret ?_
            refine k_blk_ret ?_
            refine k_then_ret ?_
            refine post1 hf rfl (ResOK.tmp rfl) ?_
            exact ⟨(),congrArg (fun x=>Ending.returned (Value.int .i64 x)) (by unfold befM befN; (first | rw [if_pos ha,if_pos hb] | rw [if_pos ha,if_neg hb] | rw [if_neg ha,if_pos hb] | rw [if_neg ha,if_neg hb]); exact bef_gt h2 (by omega) hgt),hS.sub (List.nil_sublist _) |>.noB⟩
          · refine W.skip ?_
            refine k_blk_normal ?_
            refine k_seq ?_
            refine W.regionL (l:=[0,1,2]) rfl ?_
            refine O.val hf rfl rfl rfl (RunV.move rfl) ?_
            clear hf a; intro a hf
            refine O.val hf rfl rfl rfl (RunV.addI rfl rfl (by omega)) ?_
            clear hf a; intro a hf
            refine O.val hf rfl rfl rfl (RunV.assign rfl) ?_
            clear hf a; intro a hf
            refine O.nil ?_
            refine k_then ⟨(k+1),⟨hf.to ⟨rfl,rfl,(by first | rfl | exact congrArg some (congrArg (Value.int _) (by omega))),trivial⟩,?_,?_,?_⟩,?_⟩
            · exact hS.eqM rfl
            · omega
            · exact bef_step h2 (by omega) (by omega)
            · dsimp only; omega
      · refine W.exit ?_
        refine k_then_exit ?_
        refine k_then_exit ?_
        refine k_blk ?_
        refine k_seq ?_
        replace hf:Fr a 60 [] []:=hf.to trivial
        refine W.seq ?_
        refine W.regionL (l:=[0]) rfl ?_
        refine O.val hf rfl rfl rfl (RunV.assign rfl) ?_
        clear hf a; intro a hf
        refine O.nil ?_
        refine k_seq ?_
        refine W.ret ?_
        refine post1 hf rfl (ResOK.tmp rfl) ?_
        exact ⟨(),congrArg (fun x=>Ending.returned (Value.int .i64 x)) (by unfold befM befN; (first | rw [if_pos ha,if_pos hb] | rw [if_pos ha,if_neg hb] | rw [if_neg ha,if_pos hb] | rw [if_neg ha,if_neg hb]); exact bef_eq h2 (by omega)),hS.sub (List.nil_sublist _) |>.noB⟩
    · refine W.skip ?_
      refine k_seq ?_
      refine W.seq ?_
      refine W.seq ?_
      refine W.regionL (l:=[0]) rfl ?_
      refine O.val hf rfl rfl rfl (RunV.assign rfl) ?_
      clear hf a; intro a hf
      refine O.nil ?_
      refine k_seq ?_
      refine W.block ?_
      refine W.loop (G:=(Nat)) (fun g a w=>match g with | k=>Fr a 60 [] [(5,.pointer (some ⟨b_x3,0,none⟩)),(6,.pointer (some ⟨b_y4,0,none⟩)),(7,.int .i64 (k:Int))]∧St w0 w noX [] [pt b_y4 (.cells #[.int .i64 y.num,.int .i64 y.yr,.int .i64 (IntKind.i64.wrap y.half),.int .i64 y.cyc,.int .i64 (IntKind.i64.wrap y.sec)] 83 (0,0)),pt b_x3 (.cells #[.int .i64 15396336,.int .i64 x.yr,.int .i64 (IntKind.i64.wrap x.half),.int .i64 x.cyc,.int .i64 (IntKind.i64.wrap x.sec)] 83 (0,0)),pt b_b2 (.cells #[.int .i64 y.num,.int .i64 y.yr,.int .u8 y.half,.int .u8 y.sec,.int .i64 y.cyc] 24 (0,0)),pt b_a1 (.cells #[.int .i64 x.num,.int .i64 x.yr,.int .u8 x.half,.int .u8 x.sec,.int .i64 x.cyc] 24 (0,0))]∧(k≤5)∧(∀ i,i<k→[15396336,x.yr,IntKind.i64.wrap x.half,x.cyc,IntKind.i64.wrap x.sec].getD i 0=[y.num,y.yr,IntKind.i64.wrap y.half,y.cyc,IntKind.i64.wrap y.sec].getD i 0)) (fun g=>match g with | k=>5-k) 0 ?_ ?_
      · refine ⟨hf.to ⟨rfl,rfl,(by first | rfl | exact congrArg some (congrArg (Value.int _) (by omega))),trivial⟩,hS,?_,?_⟩
        · omega
        · intro i hi; omega
      clear hf hS a
      rintro k a w ⟨hf,hS,hk,h2⟩
      refine W.seq ?_
      refine W.seq ?_
      refine W.regionL (l:=[0,1]) rfl ?_
      refine O.val hf rfl rfl rfl (RunV.move rfl) ?_
      clear hf a; intro a hf
      refine O.val (v:=.bool (decide ((k:Int)<(5:Int)))) hf rfl rfl rfl (RunV.lss rfl rfl) ?_
      clear hf a; intro a hf
      refine O.nil ?_
      refine k_seq ?_
      replace hf:Fr a 60 [] [(5,.pointer (some ⟨b_x3,0,none⟩)),(6,.pointer (some ⟨b_y4,0,none⟩)),(7,.int .i64 (k:Int)),(43,.bool (decide ((k:Int)<(5:Int))))]:=hf.to ⟨rfl,rfl,rfl,rfl,trivial⟩
      refine W.ifdI hf rfl (fun hc10=>?_) (fun hc10=>?_)
      · refine W.skip ?_
        refine k_seq ?_
        refine W.seq ?_
        refine W.block ?_
        refine W.seq ?_
        refine W.seq ?_
        refine W.drawQ (fun w=>St w0 w noX [] [pt b_y4 (.cells #[.int .i64 y.num,.int .i64 y.yr,.int .i64 (IntKind.i64.wrap y.half),.int .i64 y.cyc,.int .i64 (IntKind.i64.wrap y.sec)] 83 (0,0)),pt b_x3 (.cells #[.int .i64 15396336,.int .i64 x.yr,.int .i64 (IntKind.i64.wrap x.half),.int .i64 x.cyc,.int .i64 (IntKind.i64.wrap x.sec)] 83 (0,0)),pt b_b2 (.cells #[.int .i64 y.num,.int .i64 y.yr,.int .u8 y.half,.int .u8 y.sec,.int .i64 y.cyc] 24 (0,0)),pt b_a1 (.cells #[.int .i64 x.num,.int .i64 x.yr,.int .u8 x.half,.int .u8 x.sec,.int .i64 x.cyc] 24 (0,0))]) P_mixed rfl (by kernel_rfl) rfl hS.drew ?_
        clear hS
        refine OQ.val (v:=.int .i64 (k:Int)) hf rfl (fun w hS=>RunV.move rfl) ?_; clear hf a; intro a hf
        refine OQ.val (v:=.pointer (some ⟨b_x3,k,none⟩)) hf rfl (fun w hS=>RunV.indexArr (j:=k) (m:=k) T_arr_83 T_size_3 rfl rfl rfl (by omega) (by omega)) ?_; clear hf a; intro a hf
        refine OQ.val (v:=.int .i64 ([15396336,x.yr,IntKind.i64.wrap x.half,x.cyc,IntKind.i64.wrap x.sec].getD k 0)) hf rfl (fun w hS=>RunV.load1 T_agg_3 rfl (hS.ptAt (i:=1) rfl) (arr5 (by omega))) ?_; clear hf a; intro a hf
        refine OQ.val (v:=.int .i64 (k:Int)) hf rfl (fun w hS=>RunV.move rfl) ?_; clear hf a; intro a hf
        refine OQ.val (v:=.pointer (some ⟨b_y4,k,none⟩)) hf rfl (fun w hS=>RunV.indexArr (j:=k) (m:=k) T_arr_83 T_size_3 rfl rfl rfl (by omega) (by omega)) ?_; clear hf a; intro a hf
        refine OQ.val (v:=.int .i64 ([y.num,y.yr,IntKind.i64.wrap y.half,y.cyc,IntKind.i64.wrap y.sec].getD k 0)) hf rfl (fun w hS=>RunV.load1 T_agg_3 rfl (hS.ptAt (i:=0) rfl) (arr5 (by omega))) ?_; clear hf a; intro a hf
        refine OQ.val (v:=.bool (decide (([15396336,x.yr,IntKind.i64.wrap x.half,x.cyc,IntKind.i64.wrap x.sec].getD k 0)<([y.num,y.yr,IntKind.i64.wrap y.half,y.cyc,IntKind.i64.wrap y.sec].getD k 0:Int)))) hf rfl (fun w hS=>RunV.lss rfl rfl) ?_; clear hf a; intro a hf
        refine OQ.nil ?_; intro w hS
        refine k_seq ?_
        replace hf:Fr a 60 [] [(5,.pointer (some ⟨b_x3,0,none⟩)),(6,.pointer (some ⟨b_y4,0,none⟩)),(7,.int .i64 (k:Int)),(52,.bool (decide (([15396336,x.yr,IntKind.i64.wrap x.half,x.cyc,IntKind.i64.wrap x.sec].getD k 0)<([y.num,y.yr,IntKind.i64.wrap y.half,y.cyc,IntKind.i64.wrap y.sec].getD k 0:Int))))]:=hf.to ⟨rfl,rfl,rfl,rfl,trivial⟩
        refine W.ifdI hf rfl (fun hlt=>?_) (fun hlt=>?_)
        · refine W.seq ?_
          refine W.regionL (l:=[0]) rfl ?_
          refine O.val hf rfl rfl rfl (RunV.assign rfl) ?_
          clear hf a; intro a hf
          refine O.nil ?_
          refine k_seq ?_
          refine W.ret ?_
          refine k_then_ret ?_
          refine k_blk_ret ?_
          refine k_then_ret ?_
          refine k_then_ret ?_
          refine k_blk_ret ?_
          refine k_then_ret ?_
          refine post1 hf rfl (ResOK.tmp rfl) ?_
          exact ⟨(),congrArg (fun x=>Ending.returned (Value.int .i64 x)) (by unfold befM befN; (first | rw [if_pos ha,if_pos hb] | rw [if_pos ha,if_neg hb] | rw [if_neg ha,if_pos hb] | rw [if_neg ha,if_neg hb]); exact bef_lt h2 (by omega) hlt),hS.sub (List.nil_sublist _) |>.noB⟩
        · refine W.skip ?_
          refine k_seq ?_
          refine W.seq ?_
          refine W.drawQ (fun w=>St w0 w noX [] [pt b_y4 (.cells #[.int .i64 y.num,.int .i64 y.yr,.int .i64 (IntKind.i64.wrap y.half),.int .i64 y.cyc,.int .i64 (IntKind.i64.wrap y.sec)] 83 (0,0)),pt b_x3 (.cells #[.int .i64 15396336,.int .i64 x.yr,.int .i64 (IntKind.i64.wrap x.half),.int .i64 x.cyc,.int .i64 (IntKind.i64.wrap x.sec)] 83 (0,0)),pt b_b2 (.cells #[.int .i64 y.num,.int .i64 y.yr,.int .u8 y.half,.int .u8 y.sec,.int .i64 y.cyc] 24 (0,0)),pt b_a1 (.cells #[.int .i64 x.num,.int .i64 x.yr,.int .u8 x.half,.int .u8 x.sec,.int .i64 x.cyc] 24 (0,0))]) P_mixed rfl (by kernel_rfl) rfl hS.drew ?_
          clear hS
          refine OQ.val (v:=.int .i64 (k:Int)) hf rfl (fun w hS=>RunV.move rfl) ?_; clear hf a; intro a hf
          refine OQ.val (v:=.pointer (some ⟨b_x3,k,none⟩)) hf rfl (fun w hS=>RunV.indexArr (j:=k) (m:=k) T_arr_83 T_size_3 rfl rfl rfl (by omega) (by omega)) ?_; clear hf a; intro a hf
          refine OQ.val (v:=.int .i64 ([15396336,x.yr,IntKind.i64.wrap x.half,x.cyc,IntKind.i64.wrap x.sec].getD k 0)) hf rfl (fun w hS=>RunV.load1 T_agg_3 rfl (hS.ptAt (i:=1) rfl) (arr5 (by omega))) ?_; clear hf a; intro a hf
          refine OQ.val (v:=.int .i64 (k:Int)) hf rfl (fun w hS=>RunV.move rfl) ?_; clear hf a; intro a hf
          refine OQ.val (v:=.pointer (some ⟨b_y4,k,none⟩)) hf rfl (fun w hS=>RunV.indexArr (j:=k) (m:=k) T_arr_83 T_size_3 rfl rfl rfl (by omega) (by omega)) ?_; clear hf a; intro a hf
          refine OQ.val (v:=.int .i64 ([y.num,y.yr,IntKind.i64.wrap y.half,y.cyc,IntKind.i64.wrap y.sec].getD k 0)) hf rfl (fun w hS=>RunV.load1 T_agg_3 rfl (hS.ptAt (i:=0) rfl) (arr5 (by omega))) ?_; clear hf a; intro a hf
          refine OQ.val (v:=.bool (decide (([15396336,x.yr,IntKind.i64.wrap x.half,x.cyc,IntKind.i64.wrap x.sec].getD k 0)>([y.num,y.yr,IntKind.i64.wrap y.half,y.cyc,IntKind.i64.wrap y.sec].getD k 0:Int)))) hf rfl (fun w hS=>RunV.gtr rfl rfl) ?_; clear hf a; intro a hf
          refine OQ.nil ?_; intro w hS
          refine k_seq ?_
          replace hf:Fr a 60 [] [(5,.pointer (some ⟨b_x3,0,none⟩)),(6,.pointer (some ⟨b_y4,0,none⟩)),(7,.int .i64 (k:Int)),(59,.bool (decide (([15396336,x.yr,IntKind.i64.wrap x.half,x.cyc,IntKind.i64.wrap x.sec].getD k 0)>([y.num,y.yr,IntKind.i64.wrap y.half,y.cyc,IntKind.i64.wrap y.sec].getD k 0:Int))))]:=hf.to ⟨rfl,rfl,rfl,rfl,trivial⟩
          refine W.ifdI hf rfl (fun hgt=>?_) (fun hgt=>?_)
          · refine W.seq ?_
            refine W.regionL (l:=[0]) rfl ?_
            refine O.val hf rfl rfl rfl (RunV.assign rfl) ?_
            clear hf a; intro a hf
            refine O.nil ?_
            refine k_seq ?_
            refine W.ret ?_
            refine k_blk_ret ?_
            refine k_then_ret ?_
            refine k_then_ret ?_
            refine k_blk_ret ?_
            refine k_then_ret ?_
            refine post1 hf rfl (ResOK.tmp rfl) ?_
            exact ⟨(),congrArg (fun x=>Ending.returned (Value.int .i64 x)) (by unfold befM befN; (first | rw [if_pos ha,if_pos hb] | rw [if_pos ha,if_neg hb] | rw [if_neg ha,if_pos hb] | rw [if_neg ha,if_neg hb]); exact bef_gt h2 (by omega) hgt),hS.sub (List.nil_sublist _) |>.noB⟩
          · refine W.skip ?_
            refine k_blk_normal ?_
            refine k_seq ?_
            refine W.regionL (l:=[0,1,2]) rfl ?_
            refine O.val hf rfl rfl rfl (RunV.move rfl) ?_
            clear hf a; intro a hf
            refine O.val hf rfl rfl rfl (RunV.addI rfl rfl (by omega)) ?_
            clear hf a; intro a hf
            refine O.val hf rfl rfl rfl (RunV.assign rfl) ?_
            clear hf a; intro a hf
            refine O.nil ?_
            refine k_then ⟨(k+1),⟨hf.to ⟨rfl,rfl,(by first | rfl | exact congrArg some (congrArg (Value.int _) (by omega))),trivial⟩,?_,?_,?_⟩,?_⟩
            · exact hS.eqM rfl
            · omega
            · exact bef_step h2 (by omega) (by omega)
            · dsimp only; omega
      · refine W.exit ?_
        refine k_then_exit ?_
        refine k_then_exit ?_
        refine k_blk ?_
        refine k_seq ?_
        replace hf:Fr a 60 [] []:=hf.to trivial
        refine W.seq ?_
        refine W.regionL (l:=[0]) rfl ?_
        refine O.val hf rfl rfl rfl (RunV.assign rfl) ?_
        clear hf a; intro a hf
        refine O.nil ?_
        refine k_seq ?_
        refine W.ret ?_
        refine post1 hf rfl (ResOK.tmp rfl) ?_
        exact ⟨(),congrArg (fun x=>Ending.returned (Value.int .i64 x)) (by unfold befM befN; (first | rw [if_pos ha,if_pos hb] | rw [if_pos ha,if_neg hb] | rw [if_neg ha,if_pos hb] | rw [if_neg ha,if_neg hb]); exact bef_eq h2 (by omega)),hS.sub (List.nil_sublist _) |>.noB⟩
  · refine W.skip ?_
    refine k_seq ?_
    refine W.seq ?_
    refine W.seq ?_
    refine W.regionL (l:=[0,1,2]) rfl ?_
    refine O.val hf rfl rfl rfl (RunV.field T_field_24_0 rfl rfl) ?_
    clear hf a; intro a hf
    refine O.val hf rfl rfl rfl (RunV.load1 T_agg_3 rfl (hS.ptAt (i:=2) rfl) rfl) ?_
    clear hf a; intro a hf
    refine O.val (v:=.bool (decide (y.num=(0:Int)))) hf rfl rfl rfl (RunV.eql rfl rfl) ?_
    clear hf a; intro a hf
    refine O.nil ?_
    refine k_seq ?_
    replace hf:Fr a 60 [] [(4,.int .i64 0),(5,.pointer (some ⟨b_x3,0,none⟩)),(6,.pointer (some ⟨b_y4,0,none⟩)),(40,.bool (decide (y.num=(0:Int))))]:=hf.to ⟨rfl,rfl,rfl,rfl,trivial⟩
    refine W.ifdI hf rfl (fun hb=>?_) (fun hb=>?_)
    ·
      refine W.regionL (l:=[0,1]) rfl ?_
      refine O.val hf rfl rfl rfl (RunV.indexArr (j:=0) (m:=0) T_arr_83 T_size_3 rfl rfl rfl (by omega) (by omega)) ?_
      clear hf a; intro a hf
      refine O.store (j:=0) (cs':=#[.int .i64 15396336,.int .i64 y.yr,.int .i64 (IntKind.i64.wrap y.half),.int .i64 y.cyc,.int .i64 (IntKind.i64.wrap y.sec)]) (M':=[pt b_y4 (.cells #[.int .i64 15396336,.int .i64 y.yr,.int .i64 (IntKind.i64.wrap y.half),.int .i64 y.cyc,.int .i64 (IntKind.i64.wrap y.sec)] 83 (0,0)),pt b_x3 (.cells #[.int .i64 x.num,.int .i64 x.yr,.int .i64 (IntKind.i64.wrap x.half),.int .i64 x.cyc,.int .i64 (IntKind.i64.wrap x.sec)] 83 (0,0)),pt b_b2 (.cells #[.int .i64 y.num,.int .i64 y.yr,.int .u8 y.half,.int .u8 y.sec,.int .i64 y.cyc] 24 (0,0)),pt b_a1 (.cells #[.int .i64 x.num,.int .i64 x.yr,.int .u8 x.half,.int .u8 x.sec,.int .i64 x.cyc] 24 (0,0))]) hf hS rfl rfl rfl T_size_3 rfl rfl rfl (Nat.le_of_ble_eq_true rfl) rfl rfl ?_
      clear hS; intro w hS
      refine O.nil ?_
      refine k_seq ?_
      replace hf:Fr a 60 [] [(4,.int .i64 0),(5,.pointer (some ⟨b_x3,0,none⟩)),(6,.pointer (some ⟨b_y4,0,none⟩))]:=hf.to ⟨rfl,rfl,rfl,trivial⟩
      refine W.seq ?_
      refine W.seq ?_
      refine W.regionL (l:=[0]) rfl ?_
      refine O.val hf rfl rfl rfl (RunV.assign rfl) ?_
      clear hf a; intro a hf
      refine O.nil ?_
      refine k_seq ?_
      refine W.block ?_
      refine W.loop (G:=(Nat)) (fun g a w=>match g with | k=>Fr a 60 [] [(5,.pointer (some ⟨b_x3,0,none⟩)),(6,.pointer (some ⟨b_y4,0,none⟩)),(7,.int .i64 (k:Int))]∧St w0 w noX [] [pt b_y4 (.cells #[.int .i64 15396336,.int .i64 y.yr,.int .i64 (IntKind.i64.wrap y.half),.int .i64 y.cyc,.int .i64 (IntKind.i64.wrap y.sec)] 83 (0,0)),pt b_x3 (.cells #[.int .i64 x.num,.int .i64 x.yr,.int .i64 (IntKind.i64.wrap x.half),.int .i64 x.cyc,.int .i64 (IntKind.i64.wrap x.sec)] 83 (0,0)),pt b_b2 (.cells #[.int .i64 y.num,.int .i64 y.yr,.int .u8 y.half,.int .u8 y.sec,.int .i64 y.cyc] 24 (0,0)),pt b_a1 (.cells #[.int .i64 x.num,.int .i64 x.yr,.int .u8 x.half,.int .u8 x.sec,.int .i64 x.cyc] 24 (0,0))]∧(k≤5)∧(∀ i,i<k→[x.num,x.yr,IntKind.i64.wrap x.half,x.cyc,IntKind.i64.wrap x.sec].getD i 0=[15396336,y.yr,IntKind.i64.wrap y.half,y.cyc,IntKind.i64.wrap y.sec].getD i 0)) (fun g=>match g with | k=>5-k) 0 ?_ ?_
      · refine ⟨hf.to ⟨rfl,rfl,(by first | rfl | exact congrArg some (congrArg (Value.int _) (by omega))),trivial⟩,hS,?_,?_⟩
        · omega
        · intro i hi; omega
      clear hf hS a
      rintro k a w ⟨hf,hS,hk,h2⟩
      refine W.seq ?_
      refine W.seq ?_
      refine W.regionL (l:=[0,1]) rfl ?_
      refine O.val hf rfl rfl rfl (RunV.move rfl) ?_
      clear hf a; intro a hf
      refine O.val (v:=.bool (decide ((k:Int)<(5:Int)))) hf rfl rfl rfl (RunV.lss rfl rfl) ?_
      clear hf a; intro a hf
      refine O.nil ?_
      refine k_seq ?_
      replace hf:Fr a 60 [] [(5,.pointer (some ⟨b_x3,0,none⟩)),(6,.pointer (some ⟨b_y4,0,none⟩)),(7,.int .i64 (k:Int)),(43,.bool (decide ((k:Int)<(5:Int))))]:=hf.to ⟨rfl,rfl,rfl,rfl,trivial⟩
      refine W.ifdI hf rfl (fun hc14=>?_) (fun hc14=>?_)
      · refine W.skip ?_
        refine k_seq ?_
        refine W.seq ?_
        refine W.block ?_
        refine W.seq ?_
        refine W.seq ?_
        refine W.drawQ (fun w=>St w0 w noX [] [pt b_y4 (.cells #[.int .i64 15396336,.int .i64 y.yr,.int .i64 (IntKind.i64.wrap y.half),.int .i64 y.cyc,.int .i64 (IntKind.i64.wrap y.sec)] 83 (0,0)),pt b_x3 (.cells #[.int .i64 x.num,.int .i64 x.yr,.int .i64 (IntKind.i64.wrap x.half),.int .i64 x.cyc,.int .i64 (IntKind.i64.wrap x.sec)] 83 (0,0)),pt b_b2 (.cells #[.int .i64 y.num,.int .i64 y.yr,.int .u8 y.half,.int .u8 y.sec,.int .i64 y.cyc] 24 (0,0)),pt b_a1 (.cells #[.int .i64 x.num,.int .i64 x.yr,.int .u8 x.half,.int .u8 x.sec,.int .i64 x.cyc] 24 (0,0))]) P_mixed rfl (by kernel_rfl) rfl hS.drew ?_
        clear hS
        refine OQ.val (v:=.int .i64 (k:Int)) hf rfl (fun w hS=>RunV.move rfl) ?_; clear hf a; intro a hf
        refine OQ.val (v:=.pointer (some ⟨b_x3,k,none⟩)) hf rfl (fun w hS=>RunV.indexArr (j:=k) (m:=k) T_arr_83 T_size_3 rfl rfl rfl (by omega) (by omega)) ?_; clear hf a; intro a hf
        refine OQ.val (v:=.int .i64 ([x.num,x.yr,IntKind.i64.wrap x.half,x.cyc,IntKind.i64.wrap x.sec].getD k 0)) hf rfl (fun w hS=>RunV.load1 T_agg_3 rfl (hS.ptAt (i:=1) rfl) (arr5 (by omega))) ?_; clear hf a; intro a hf
        refine OQ.val (v:=.int .i64 (k:Int)) hf rfl (fun w hS=>RunV.move rfl) ?_; clear hf a; intro a hf
        refine OQ.val (v:=.pointer (some ⟨b_y4,k,none⟩)) hf rfl (fun w hS=>RunV.indexArr (j:=k) (m:=k) T_arr_83 T_size_3 rfl rfl rfl (by omega) (by omega)) ?_; clear hf a; intro a hf
        refine OQ.val (v:=.int .i64 ([15396336,y.yr,IntKind.i64.wrap y.half,y.cyc,IntKind.i64.wrap y.sec].getD k 0)) hf rfl (fun w hS=>RunV.load1 T_agg_3 rfl (hS.ptAt (i:=0) rfl) (arr5 (by omega))) ?_; clear hf a; intro a hf
        refine OQ.val (v:=.bool (decide (([x.num,x.yr,IntKind.i64.wrap x.half,x.cyc,IntKind.i64.wrap x.sec].getD k 0)<([15396336,y.yr,IntKind.i64.wrap y.half,y.cyc,IntKind.i64.wrap y.sec].getD k 0:Int)))) hf rfl (fun w hS=>RunV.lss rfl rfl) ?_; clear hf a; intro a hf
        refine OQ.nil ?_; intro w hS
        refine k_seq ?_
        replace hf:Fr a 60 [] [(5,.pointer (some ⟨b_x3,0,none⟩)),(6,.pointer (some ⟨b_y4,0,none⟩)),(7,.int .i64 (k:Int)),(52,.bool (decide (([x.num,x.yr,IntKind.i64.wrap x.half,x.cyc,IntKind.i64.wrap x.sec].getD k 0)<([15396336,y.yr,IntKind.i64.wrap y.half,y.cyc,IntKind.i64.wrap y.sec].getD k 0:Int))))]:=hf.to ⟨rfl,rfl,rfl,rfl,trivial⟩
        refine W.ifdI hf rfl (fun hlt=>?_) (fun hlt=>?_)
        · refine W.seq ?_
          refine W.regionL (l:=[0]) rfl ?_
          refine O.val hf rfl rfl rfl (RunV.assign rfl) ?_
          clear hf a; intro a hf
          refine O.nil ?_
          refine k_seq ?_
          refine W.ret ?_
          refine k_then_ret ?_
          refine k_blk_ret ?_
          refine k_then_ret ?_
          refine k_then_ret ?_
          refine k_blk_ret ?_
          refine k_then_ret ?_
          refine post1 hf rfl (ResOK.tmp rfl) ?_
          exact ⟨(),congrArg (fun x=>Ending.returned (Value.int .i64 x)) (by unfold befM befN; (first | rw [if_pos ha,if_pos hb] | rw [if_pos ha,if_neg hb] | rw [if_neg ha,if_pos hb] | rw [if_neg ha,if_neg hb]); exact bef_lt h2 (by omega) hlt),hS.sub (List.nil_sublist _) |>.noB⟩
        · refine W.skip ?_
          refine k_seq ?_
          refine W.seq ?_
          refine W.drawQ (fun w=>St w0 w noX [] [pt b_y4 (.cells #[.int .i64 15396336,.int .i64 y.yr,.int .i64 (IntKind.i64.wrap y.half),.int .i64 y.cyc,.int .i64 (IntKind.i64.wrap y.sec)] 83 (0,0)),pt b_x3 (.cells #[.int .i64 x.num,.int .i64 x.yr,.int .i64 (IntKind.i64.wrap x.half),.int .i64 x.cyc,.int .i64 (IntKind.i64.wrap x.sec)] 83 (0,0)),pt b_b2 (.cells #[.int .i64 y.num,.int .i64 y.yr,.int .u8 y.half,.int .u8 y.sec,.int .i64 y.cyc] 24 (0,0)),pt b_a1 (.cells #[.int .i64 x.num,.int .i64 x.yr,.int .u8 x.half,.int .u8 x.sec,.int .i64 x.cyc] 24 (0,0))]) P_mixed rfl (by kernel_rfl) rfl hS.drew ?_
          clear hS
          refine OQ.val (v:=.int .i64 (k:Int)) hf rfl (fun w hS=>RunV.move rfl) ?_; clear hf a; intro a hf
          refine OQ.val (v:=.pointer (some ⟨b_x3,k,none⟩)) hf rfl (fun w hS=>RunV.indexArr (j:=k) (m:=k) T_arr_83 T_size_3 rfl rfl rfl (by omega) (by omega)) ?_; clear hf a; intro a hf
          refine OQ.val (v:=.int .i64 ([x.num,x.yr,IntKind.i64.wrap x.half,x.cyc,IntKind.i64.wrap x.sec].getD k 0)) hf rfl (fun w hS=>RunV.load1 T_agg_3 rfl (hS.ptAt (i:=1) rfl) (arr5 (by omega))) ?_; clear hf a; intro a hf
          refine OQ.val (v:=.int .i64 (k:Int)) hf rfl (fun w hS=>RunV.move rfl) ?_; clear hf a; intro a hf
          refine OQ.val (v:=.pointer (some ⟨b_y4,k,none⟩)) hf rfl (fun w hS=>RunV.indexArr (j:=k) (m:=k) T_arr_83 T_size_3 rfl rfl rfl (by omega) (by omega)) ?_; clear hf a; intro a hf
          refine OQ.val (v:=.int .i64 ([15396336,y.yr,IntKind.i64.wrap y.half,y.cyc,IntKind.i64.wrap y.sec].getD k 0)) hf rfl (fun w hS=>RunV.load1 T_agg_3 rfl (hS.ptAt (i:=0) rfl) (arr5 (by omega))) ?_; clear hf a; intro a hf
          refine OQ.val (v:=.bool (decide (([x.num,x.yr,IntKind.i64.wrap x.half,x.cyc,IntKind.i64.wrap x.sec].getD k 0)>([15396336,y.yr,IntKind.i64.wrap y.half,y.cyc,IntKind.i64.wrap y.sec].getD k 0:Int)))) hf rfl (fun w hS=>RunV.gtr rfl rfl) ?_; clear hf a; intro a hf
          refine OQ.nil ?_; intro w hS
          refine k_seq ?_
          replace hf:Fr a 60 [] [(5,.pointer (some ⟨b_x3,0,none⟩)),(6,.pointer (some ⟨b_y4,0,none⟩)),(7,.int .i64 (k:Int)),(59,.bool (decide (([x.num,x.yr,IntKind.i64.wrap x.half,x.cyc,IntKind.i64.wrap x.sec].getD k 0)>([15396336,y.yr,IntKind.i64.wrap y.half,y.cyc,IntKind.i64.wrap y.sec].getD k 0:Int))))]:=hf.to ⟨rfl,rfl,rfl,rfl,trivial⟩
          refine W.ifdI hf rfl (fun hgt=>?_) (fun hgt=>?_)
          · refine W.seq ?_
            refine W.regionL (l:=[0]) rfl ?_
            refine O.val hf rfl rfl rfl (RunV.assign rfl) ?_
            clear hf a; intro a hf
            refine O.nil ?_
            refine k_seq ?_
            refine W.ret ?_
            refine k_blk_ret ?_
            refine k_then_ret ?_
            refine k_then_ret ?_
            refine k_blk_ret ?_
            refine k_then_ret ?_
            refine post1 hf rfl (ResOK.tmp rfl) ?_
            exact ⟨(),congrArg (fun x=>Ending.returned (Value.int .i64 x)) (by unfold befM befN; (first | rw [if_pos ha,if_pos hb] | rw [if_pos ha,if_neg hb] | rw [if_neg ha,if_pos hb] | rw [if_neg ha,if_neg hb]); exact bef_gt h2 (by omega) hgt),hS.sub (List.nil_sublist _) |>.noB⟩
          · refine W.skip ?_
            refine k_blk_normal ?_
            refine k_seq ?_
            refine W.regionL (l:=[0,1,2]) rfl ?_
            refine O.val hf rfl rfl rfl (RunV.move rfl) ?_
            clear hf a; intro a hf
            refine O.val hf rfl rfl rfl (RunV.addI rfl rfl (by omega)) ?_
            clear hf a; intro a hf
            refine O.val hf rfl rfl rfl (RunV.assign rfl) ?_
            clear hf a; intro a hf
            refine O.nil ?_
            refine k_then ⟨(k+1),⟨hf.to ⟨rfl,rfl,(by first | rfl | exact congrArg some (congrArg (Value.int _) (by omega))),trivial⟩,?_,?_,?_⟩,?_⟩
            · exact hS.eqM rfl
            · omega
            · exact bef_step h2 (by omega) (by omega)
            · dsimp only; omega
      · refine W.exit ?_
        refine k_then_exit ?_
        refine k_then_exit ?_
        refine k_blk ?_
        refine k_seq ?_
        replace hf:Fr a 60 [] []:=hf.to trivial
        refine W.seq ?_
        refine W.regionL (l:=[0]) rfl ?_
        refine O.val hf rfl rfl rfl (RunV.assign rfl) ?_
        clear hf a; intro a hf
        refine O.nil ?_
        refine k_seq ?_
        refine W.ret ?_
        refine post1 hf rfl (ResOK.tmp rfl) ?_
        exact ⟨(),congrArg (fun x=>Ending.returned (Value.int .i64 x)) (by unfold befM befN; (first | rw [if_pos ha,if_pos hb] | rw [if_pos ha,if_neg hb] | rw [if_neg ha,if_pos hb] | rw [if_neg ha,if_neg hb]); exact bef_eq h2 (by omega)),hS.sub (List.nil_sublist _) |>.noB⟩
    · refine W.skip ?_
      refine k_seq ?_
      refine W.seq ?_
      refine W.seq ?_
      refine W.regionL (l:=[0]) rfl ?_
      refine O.val hf rfl rfl rfl (RunV.assign rfl) ?_
      clear hf a; intro a hf
      refine O.nil ?_
      refine k_seq ?_
      refine W.block ?_
      refine W.loop (G:=(Nat)) (fun g a w=>match g with | k=>Fr a 60 [] [(5,.pointer (some ⟨b_x3,0,none⟩)),(6,.pointer (some ⟨b_y4,0,none⟩)),(7,.int .i64 (k:Int))]∧St w0 w noX [] [pt b_y4 (.cells #[.int .i64 y.num,.int .i64 y.yr,.int .i64 (IntKind.i64.wrap y.half),.int .i64 y.cyc,.int .i64 (IntKind.i64.wrap y.sec)] 83 (0,0)),pt b_x3 (.cells #[.int .i64 x.num,.int .i64 x.yr,.int .i64 (IntKind.i64.wrap x.half),.int .i64 x.cyc,.int .i64 (IntKind.i64.wrap x.sec)] 83 (0,0)),pt b_b2 (.cells #[.int .i64 y.num,.int .i64 y.yr,.int .u8 y.half,.int .u8 y.sec,.int .i64 y.cyc] 24 (0,0)),pt b_a1 (.cells #[.int .i64 x.num,.int .i64 x.yr,.int .u8 x.half,.int .u8 x.sec,.int .i64 x.cyc] 24 (0,0))]∧(k≤5)∧(∀ i,i<k→[x.num,x.yr,IntKind.i64.wrap x.half,x.cyc,IntKind.i64.wrap x.sec].getD i 0=[y.num,y.yr,IntKind.i64.wrap y.half,y.cyc,IntKind.i64.wrap y.sec].getD i 0)) (fun g=>match g with | k=>5-k) 0 ?_ ?_
      · refine ⟨hf.to ⟨rfl,rfl,(by first | rfl | exact congrArg some (congrArg (Value.int _) (by omega))),trivial⟩,hS,?_,?_⟩
        · omega
        · intro i hi; omega
      clear hf hS a
      rintro k a w ⟨hf,hS,hk,h2⟩
      refine W.seq ?_
      refine W.seq ?_
      refine W.regionL (l:=[0,1]) rfl ?_
      refine O.val hf rfl rfl rfl (RunV.move rfl) ?_
      clear hf a; intro a hf
      refine O.val (v:=.bool (decide ((k:Int)<(5:Int)))) hf rfl rfl rfl (RunV.lss rfl rfl) ?_
      clear hf a; intro a hf
      refine O.nil ?_
      refine k_seq ?_
      replace hf:Fr a 60 [] [(5,.pointer (some ⟨b_x3,0,none⟩)),(6,.pointer (some ⟨b_y4,0,none⟩)),(7,.int .i64 (k:Int)),(43,.bool (decide ((k:Int)<(5:Int))))]:=hf.to ⟨rfl,rfl,rfl,rfl,trivial⟩
      refine W.ifdI hf rfl (fun hc17=>?_) (fun hc17=>?_)
      · refine W.skip ?_
        refine k_seq ?_
        refine W.seq ?_
        refine W.block ?_
        refine W.seq ?_
        refine W.seq ?_
        refine W.drawQ (fun w=>St w0 w noX [] [pt b_y4 (.cells #[.int .i64 y.num,.int .i64 y.yr,.int .i64 (IntKind.i64.wrap y.half),.int .i64 y.cyc,.int .i64 (IntKind.i64.wrap y.sec)] 83 (0,0)),pt b_x3 (.cells #[.int .i64 x.num,.int .i64 x.yr,.int .i64 (IntKind.i64.wrap x.half),.int .i64 x.cyc,.int .i64 (IntKind.i64.wrap x.sec)] 83 (0,0)),pt b_b2 (.cells #[.int .i64 y.num,.int .i64 y.yr,.int .u8 y.half,.int .u8 y.sec,.int .i64 y.cyc] 24 (0,0)),pt b_a1 (.cells #[.int .i64 x.num,.int .i64 x.yr,.int .u8 x.half,.int .u8 x.sec,.int .i64 x.cyc] 24 (0,0))]) P_mixed rfl (by kernel_rfl) rfl hS.drew ?_
        clear hS
        refine OQ.val (v:=.int .i64 (k:Int)) hf rfl (fun w hS=>RunV.move rfl) ?_; clear hf a; intro a hf
        refine OQ.val (v:=.pointer (some ⟨b_x3,k,none⟩)) hf rfl (fun w hS=>RunV.indexArr (j:=k) (m:=k) T_arr_83 T_size_3 rfl rfl rfl (by omega) (by omega)) ?_; clear hf a; intro a hf
        refine OQ.val (v:=.int .i64 ([x.num,x.yr,IntKind.i64.wrap x.half,x.cyc,IntKind.i64.wrap x.sec].getD k 0)) hf rfl (fun w hS=>RunV.load1 T_agg_3 rfl (hS.ptAt (i:=1) rfl) (arr5 (by omega))) ?_; clear hf a; intro a hf
        refine OQ.val (v:=.int .i64 (k:Int)) hf rfl (fun w hS=>RunV.move rfl) ?_; clear hf a; intro a hf
        refine OQ.val (v:=.pointer (some ⟨b_y4,k,none⟩)) hf rfl (fun w hS=>RunV.indexArr (j:=k) (m:=k) T_arr_83 T_size_3 rfl rfl rfl (by omega) (by omega)) ?_; clear hf a; intro a hf
        refine OQ.val (v:=.int .i64 ([y.num,y.yr,IntKind.i64.wrap y.half,y.cyc,IntKind.i64.wrap y.sec].getD k 0)) hf rfl (fun w hS=>RunV.load1 T_agg_3 rfl (hS.ptAt (i:=0) rfl) (arr5 (by omega))) ?_; clear hf a; intro a hf
        refine OQ.val (v:=.bool (decide (([x.num,x.yr,IntKind.i64.wrap x.half,x.cyc,IntKind.i64.wrap x.sec].getD k 0)<([y.num,y.yr,IntKind.i64.wrap y.half,y.cyc,IntKind.i64.wrap y.sec].getD k 0:Int)))) hf rfl (fun w hS=>RunV.lss rfl rfl) ?_; clear hf a; intro a hf
        refine OQ.nil ?_; intro w hS
        refine k_seq ?_
        replace hf:Fr a 60 [] [(5,.pointer (some ⟨b_x3,0,none⟩)),(6,.pointer (some ⟨b_y4,0,none⟩)),(7,.int .i64 (k:Int)),(52,.bool (decide (([x.num,x.yr,IntKind.i64.wrap x.half,x.cyc,IntKind.i64.wrap x.sec].getD k 0)<([y.num,y.yr,IntKind.i64.wrap y.half,y.cyc,IntKind.i64.wrap y.sec].getD k 0:Int))))]:=hf.to ⟨rfl,rfl,rfl,rfl,trivial⟩
        refine W.ifdI hf rfl (fun hlt=>?_) (fun hlt=>?_)
        · refine W.seq ?_
          refine W.regionL (l:=[0]) rfl ?_
          refine O.val hf rfl rfl rfl (RunV.assign rfl) ?_
          clear hf a; intro a hf
          refine O.nil ?_
          refine k_seq ?_
          refine W.ret ?_
          refine k_then_ret ?_
          refine k_blk_ret ?_
          refine k_then_ret ?_
          refine k_then_ret ?_
          refine k_blk_ret ?_
          refine k_then_ret ?_
          refine post1 hf rfl (ResOK.tmp rfl) ?_
          exact ⟨(),congrArg (fun x=>Ending.returned (Value.int .i64 x)) (by unfold befM befN; (first | rw [if_pos ha,if_pos hb] | rw [if_pos ha,if_neg hb] | rw [if_neg ha,if_pos hb] | rw [if_neg ha,if_neg hb]); exact bef_lt h2 (by omega) hlt),hS.sub (List.nil_sublist _) |>.noB⟩
        · refine W.skip ?_
          refine k_seq ?_
          refine W.seq ?_
          refine W.drawQ (fun w=>St w0 w noX [] [pt b_y4 (.cells #[.int .i64 y.num,.int .i64 y.yr,.int .i64 (IntKind.i64.wrap y.half),.int .i64 y.cyc,.int .i64 (IntKind.i64.wrap y.sec)] 83 (0,0)),pt b_x3 (.cells #[.int .i64 x.num,.int .i64 x.yr,.int .i64 (IntKind.i64.wrap x.half),.int .i64 x.cyc,.int .i64 (IntKind.i64.wrap x.sec)] 83 (0,0)),pt b_b2 (.cells #[.int .i64 y.num,.int .i64 y.yr,.int .u8 y.half,.int .u8 y.sec,.int .i64 y.cyc] 24 (0,0)),pt b_a1 (.cells #[.int .i64 x.num,.int .i64 x.yr,.int .u8 x.half,.int .u8 x.sec,.int .i64 x.cyc] 24 (0,0))]) P_mixed rfl (by kernel_rfl) rfl hS.drew ?_
          clear hS
          refine OQ.val (v:=.int .i64 (k:Int)) hf rfl (fun w hS=>RunV.move rfl) ?_; clear hf a; intro a hf
          refine OQ.val (v:=.pointer (some ⟨b_x3,k,none⟩)) hf rfl (fun w hS=>RunV.indexArr (j:=k) (m:=k) T_arr_83 T_size_3 rfl rfl rfl (by omega) (by omega)) ?_; clear hf a; intro a hf
          refine OQ.val (v:=.int .i64 ([x.num,x.yr,IntKind.i64.wrap x.half,x.cyc,IntKind.i64.wrap x.sec].getD k 0)) hf rfl (fun w hS=>RunV.load1 T_agg_3 rfl (hS.ptAt (i:=1) rfl) (arr5 (by omega))) ?_; clear hf a; intro a hf
          refine OQ.val (v:=.int .i64 (k:Int)) hf rfl (fun w hS=>RunV.move rfl) ?_; clear hf a; intro a hf
          refine OQ.val (v:=.pointer (some ⟨b_y4,k,none⟩)) hf rfl (fun w hS=>RunV.indexArr (j:=k) (m:=k) T_arr_83 T_size_3 rfl rfl rfl (by omega) (by omega)) ?_; clear hf a; intro a hf
          refine OQ.val (v:=.int .i64 ([y.num,y.yr,IntKind.i64.wrap y.half,y.cyc,IntKind.i64.wrap y.sec].getD k 0)) hf rfl (fun w hS=>RunV.load1 T_agg_3 rfl (hS.ptAt (i:=0) rfl) (arr5 (by omega))) ?_; clear hf a; intro a hf
          refine OQ.val (v:=.bool (decide (([x.num,x.yr,IntKind.i64.wrap x.half,x.cyc,IntKind.i64.wrap x.sec].getD k 0)>([y.num,y.yr,IntKind.i64.wrap y.half,y.cyc,IntKind.i64.wrap y.sec].getD k 0:Int)))) hf rfl (fun w hS=>RunV.gtr rfl rfl) ?_; clear hf a; intro a hf
          refine OQ.nil ?_; intro w hS
          refine k_seq ?_
          replace hf:Fr a 60 [] [(5,.pointer (some ⟨b_x3,0,none⟩)),(6,.pointer (some ⟨b_y4,0,none⟩)),(7,.int .i64 (k:Int)),(59,.bool (decide (([x.num,x.yr,IntKind.i64.wrap x.half,x.cyc,IntKind.i64.wrap x.sec].getD k 0)>([y.num,y.yr,IntKind.i64.wrap y.half,y.cyc,IntKind.i64.wrap y.sec].getD k 0:Int))))]:=hf.to ⟨rfl,rfl,rfl,rfl,trivial⟩
          refine W.ifdI hf rfl (fun hgt=>?_) (fun hgt=>?_)
          · refine W.seq ?_
            refine W.regionL (l:=[0]) rfl ?_
            refine O.val hf rfl rfl rfl (RunV.assign rfl) ?_
            clear hf a; intro a hf
            refine O.nil ?_
            refine k_seq ?_
            refine W.ret ?_
            refine k_blk_ret ?_
            refine k_then_ret ?_
            refine k_then_ret ?_
            refine k_blk_ret ?_
            refine k_then_ret ?_
            refine post1 hf rfl (ResOK.tmp rfl) ?_
            exact ⟨(),congrArg (fun x=>Ending.returned (Value.int .i64 x)) (by unfold befM befN; (first | rw [if_pos ha,if_pos hb] | rw [if_pos ha,if_neg hb] | rw [if_neg ha,if_pos hb] | rw [if_neg ha,if_neg hb]); exact bef_gt h2 (by omega) hgt),hS.sub (List.nil_sublist _) |>.noB⟩
          · refine W.skip ?_
            refine k_blk_normal ?_
            refine k_seq ?_
            refine W.regionL (l:=[0,1,2]) rfl ?_
            refine O.val hf rfl rfl rfl (RunV.move rfl) ?_
            clear hf a; intro a hf
            refine O.val hf rfl rfl rfl (RunV.addI rfl rfl (by omega)) ?_
            clear hf a; intro a hf
            refine O.val hf rfl rfl rfl (RunV.assign rfl) ?_
            clear hf a; intro a hf
            refine O.nil ?_
            refine k_then ⟨(k+1),⟨hf.to ⟨rfl,rfl,(by first | rfl | exact congrArg some (congrArg (Value.int _) (by omega))),trivial⟩,?_,?_,?_⟩,?_⟩
            · exact hS.eqM rfl
            · omega
            · exact bef_step h2 (by omega) (by omega)
            · dsimp only; omega
      · refine W.exit ?_
        refine k_then_exit ?_
        refine k_then_exit ?_
        refine k_blk ?_
        refine k_seq ?_
        replace hf:Fr a 60 [] []:=hf.to trivial
        refine W.seq ?_
        refine W.regionL (l:=[0]) rfl ?_
        refine O.val hf rfl rfl rfl (RunV.assign rfl) ?_
        clear hf a; intro a hf
        refine O.nil ?_
        refine k_seq ?_
        refine W.ret ?_
        refine post1 hf rfl (ResOK.tmp rfl) ?_
        exact ⟨(),congrArg (fun x=>Ending.returned (Value.int .i64 x)) (by unfold befM befN; (first | rw [if_pos ha,if_pos hb] | rw [if_pos ha,if_neg hb] | rw [if_neg ha,if_pos hb] | rw [if_neg ha,if_neg hb]); exact bef_eq h2 (by omega)),hS.sub (List.nil_sublist _) |>.noB⟩
end Go.Proofs.YtgakdmmmljdpjaaDoor

namespace Go.SL
open Go
def halfB (c:Int):Bool:=decide (c≥65)&&decide (c≤89)&&decide (c≠73)
def orderB (c:Int):Bool:=decide (c≥65)&&decide (c≤90)&&decide (c≠73)
theorem half_place:∀ n:Fin 256,(decide (placeM (IntKind.i32.wrap (n.val:Int))≥0)&&decide (placeM (IntKind.i32.wrap (n.val:Int))<24))=halfB (n.val:Int):=by decide +kernel
theorem order_place:∀ n:Fin 256,decide (placeM (IntKind.i32.wrap (n.val:Int))≥0)=orderB (n.val:Int):=by decide +kernel
theorem okD_28 {d:Dg} (hr:rD d):okD d=if d.num≠0 then decide (d=⟨d.num,0,0,0,0⟩)&&decide (d.num>0)&&decide (d.num≤15396335)
    else decide (d.yr≥1800)&&decide (d.yr≤2099)&&halfB d.half&&orderB d.sec&&decide (d.cyc≥0)&&decide (d.cyc≤619):=by
  have h1:=half_place ⟨d.half.toNat,by have:=hr.1; omega⟩
  have h2:=order_place ⟨d.sec.toNat,by have:=hr.2; omega⟩
  have e1:((d.half.toNat:Nat):Int)=d.half:=by have:=hr.1; omega
  have e2:((d.sec.toNat:Nat):Int)=d.sec:=by have:=hr.2; omega
  simp only [e1,e2] at h1 h2
  unfold okD
  rw [h1,h2]
section
variable {A:Prop} [Decidable A] {n m y c:Int} {h o:Bool}
theorem ck_bad1 (hb:(!decide A||decide (n<1)||decide (n>m))=true):(decide A&&decide (n>0)&&decide (n≤m))=false:=by
  rw [Bool.eq_false_iff]
  intro h
  simp only [Bool.or_eq_true,Bool.and_eq_true,Bool.not_eq_true',decide_eq_true_eq,decide_eq_false_iff_not] at hb h
  rcases hb with (h1 | h1) | h1
  · exact h1 h.1.1
  · omega
  · omega
theorem ck_ok1 (hb:(!decide A||decide (n<1)||decide (n>m))=false):(decide A&&decide (n>0)&&decide (n≤m))=true:=by
  simp only [Bool.or_eq_false_iff,Bool.not_eq_false',decide_eq_true_eq,decide_eq_false_iff_not] at hb
  simp only [Bool.and_eq_true,decide_eq_true_eq]
  exact ⟨⟨hb.1.1,by omega⟩,by omega⟩
theorem ck_bad2 (hb:(decide (y<1800)||decide (y>2099)||!h||!o||decide (c<0)||decide (c>619))=true):(decide (y≥1800)&&decide (y≤2099)&&h&&o&&decide (c≥0)&&decide (c≤619))=false:=by
  rw [Bool.eq_false_iff]
  intro h
  simp only [Bool.or_eq_true,Bool.and_eq_true,Bool.not_eq_true',decide_eq_true_eq] at hb h
  rcases hb with ((((h1 | h1) | h1) | h1) | h1) | h1
  · omega
  · omega
  · rw [h.1.1.1.2] at h1; cases h1
  · rw [h.1.1.2] at h1; cases h1
  · omega
  · omega
theorem ck_ok2 (hb:(decide (y<1800)||decide (y>2099)||!h||!o||decide (c<0)||decide (c>619))=false):(decide (y≥1800)&&decide (y≤2099)&&h&&o&&decide (c≥0)&&decide (c≤619))=true:=by
  simp only [Bool.or_eq_false_iff,Bool.not_eq_false',decide_eq_false_iff_not] at hb
  simp only [Bool.and_eq_true,decide_eq_true_eq]
  exact ⟨⟨⟨⟨⟨by omega,by omega⟩,hb.1.1.1.2⟩,hb.1.1.2⟩,by omega⟩,by omega⟩
end
end Go.SL
