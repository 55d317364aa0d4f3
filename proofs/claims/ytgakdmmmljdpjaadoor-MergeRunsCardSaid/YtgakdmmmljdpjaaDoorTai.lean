/- Part of a proof: laws and walks. -/
import Derived.Test.YtgakdmmmljdpjaaDoorLay
import Derived.Test.YtgakdmmmljdpjaaDoorTac
import Derived.Test.YtgakdmmmljdpjaaDoorTaf
import Derived.Test.YtgakdmmmljdpjaaDoorTag
set_option linter.unusedVariables false
set_option linter.unusedSimpArgs false
set_option maxHeartbeats 1000000
set_option maxRecDepth 8000
namespace Go.Proofs.YtgakdmmmljdpjaaDoor
open Go Go.SL
theorem C_ok_41:callOK Tryd.prog 41=true:=by kernel_rfl
theorem C_ok_54:callOK Tryd.prog 54=true:=by kernel_rfl
theorem C_ok_55:callOK Tryd.prog 55=true:=by kernel_rfl
theorem C_ok_73:callOK Tryd.prog 73=true:=by kernel_rfl
theorem T_agg_21:tAgg Tryd.prog 21=some false:=by kernel_rfl
theorem T_agg_3:tAgg Tryd.prog 3=some false:=by kernel_rfl
theorem T_arr_123:tArr Tryd.prog 123=some (25,21):=by kernel_rfl
theorem T_elem_122:tElem Tryd.prog 122=some 21:=by kernel_rfl
theorem T_field_24_0:tField Tryd.prog 24 0=some 0:=by kernel_rfl
theorem T_field_24_1:tField Tryd.prog 24 1=some 1:=by kernel_rfl
theorem T_field_24_2:tField Tryd.prog 24 2=some 2:=by kernel_rfl
theorem T_field_24_3:tField Tryd.prog 24 3=some 3:=by kernel_rfl
theorem T_field_24_4:tField Tryd.prog 24 4=some 4:=by kernel_rfl
theorem T_field_26_3:tField Tryd.prog 26 3=some 11:=by kernel_rfl
theorem T_int_21:tInt Tryd.prog 21=some .i32:=by kernel_rfl
theorem T_places_24:tPlaces Tryd.prog 24=some #[(0,1),(1,1),(2,1),(3,1),(4,1)]:=by kernel_rfl
theorem T_size_21:tSize Tryd.prog 21=some 1:=by kernel_rfl
theorem T_und_5:(Tryd.prog.underlying 5).isSome=true:=by kernel_rfl
set_option maxHeartbeats 400000 in
set_option maxRecDepth 4000 in
theorem index_spec (v:Int) (w0:World) (hO:rdOK (hp w0) 1 (.slice (some ⟨0,0,none⟩) 25 25) 25 (runes ordsL)) :
    Ret Tryd.prog 73 #[(.slice (some ⟨0,0,none⟩) 25 25),.int .i32 v] w0 (G:=Unit) (fun _=>.int .i64 (placeM v)) (fun _ w=>St w0 w noX [] []):=by
  refine ret_of_W (lv:=[(.slice (some ⟨0,0,none⟩) 25 25),.int .i32 v]) Tryd.func73 rfl rfl rfl (fun a hf=>?_); replace hf:Fr a 19 [] [(0,(.slice (some ⟨0,0,none⟩) 25 25)),(1,.int .i32 v)]:=hf; have hS:St w0 w0 noX [rdv 1 (.slice (some ⟨0,0,none⟩) 25 25) 25 (runes ordsL)] []:=(St.refl w0).lend0 hO; have hol:ordsL.length=25:=rfl; refine W.seq ?_
  refine W.regionL (l:=[0]) rfl<|mv hf rfl<|?_; clear hf a; intro a hf; refine nk<|W.seq<|W.seq<|?_
  refine W.regionL (l:=[0,1,2]) rfl<|mv hf rfl<|?_; clear hf a; intro a hf; refine ov hf rfl (RunV.lenV (e:=21) (by simpa using T_elem_122) rfl (hS.rdAt (j:=0) rfl)) ?_; clear hf a; intro a hf; refine mv hf rfl ?_; clear hf a; intro a hf; refine nk ?_; replace hf:Fr a 19 [] [(0,(.slice (some ⟨0,0,none⟩) 25 25)),(1,.int .i32 v),(4,.int .i64 0),(7,.int .i64 (25:Int)),(8,.int .i64 0)]:=hf.q rfl; refine W.block ?_
  refine W.loop (G:=(Nat)) (fun g a w=>match g with | k=>Fr a 19 [] [(0,(.slice (some ⟨0,0,none⟩) 25 25)),(1,.int .i32 v),(7,.int .i64 (25:Int)),(8,.int .i64 (k:Int))]∧St w0 w noX [rdv 1 (.slice (some ⟨0,0,none⟩) 25 25) 25 (runes ordsL)] []∧(k≤25)∧(∀ i,i<k→v≠ordsL.getD i 0)) (fun g=>match g with | k=>25-k) 0 ?_ ?_
  · refine ⟨hf.to ⟨rfl,rfl,rfl,(by first | rfl | exact congrArg some (congrArg (Value.int _) (by omega))),trivial⟩,hS,?_,?_⟩
    · omega
    · exact fun j hj=>by omega
  clear hf hS a; rintro k a w ⟨hf,hS,h1,h2⟩; refine W.seq ?_
  refine W.regionL (l:=[0]) rfl<|ov (v:=.bool (decide ((k:Int)<((25:Int):Int)))) hf rfl (RunV.lss rfl rfl)<|?_; clear hf a; intro a hf; refine nk<|W.seq<|?_; refine W.ifdI hf rfl (fun hk=>?_) (fun hk=>?_)
  · refine W.skip ?_
    refine k_seq<|W.seq<|W.block<|W.seq<|?_
    refine W.regionL (l:=[0,1]) rfl<|mv hf rfl<|?_; clear hf a; intro a hf; refine mv hf rfl ?_; clear hf a; intro a hf; refine nk<|W.seq<|?_
    refine W.regionL (l:=[0,1,2,3,4,5]) rfl<|mv hf rfl<|?_; clear hf a; intro a hf; refine mv hf rfl ?_; clear hf a; intro a hf; refine mv hf rfl ?_; clear hf a; intro a hf; refine ov hf rfl (RunV.ixV (j:=k) (m:=k) T_elem_122 T_size_21 rfl rfl (hS.rdAt (j:=0) rfl) rfl (by omega) (Nat.mul_one _)) ?_; clear hf a; intro a hf; refine ov hf rfl (RunV.ld1 T_agg_21 rfl (hS.rdAt (j:=0) rfl) (runes_get (by omega))) ?_; clear hf a; intro a hf; refine ov (v:=.bool (decide (v=(ordsL.getD k 0:Int)))) hf rfl (RunV.eql rfl rfl) ?_; clear hf a; intro a hf; refine nk ?_; refine W.ifdI hf rfl (fun heq=>?_) (fun heq=>?_)
    · refine W.seq ?_
      refine W.regionL (l:=[0,1]) rfl<|mv hf rfl<|?_; clear hf a; intro a hf; refine mv hf rfl ?_; clear hf a; intro a hf; refine nk<|W.ret<|k_blk_ret<|k_then_ret<|k_then_ret<|k_blk_ret<|k_then_ret<|post1 hf rfl (ResOK.tmp rfl)<|?_; exact ⟨(),by rw [show placeM v=(k:Int) from plK_hit h2 (by omega) heq],hS.sub (List.nil_sublist _) |>.noB⟩
    · refine W.skip ?_
      refine k_blk_normal<|k_seq<|?_
      refine W.regionL (l:=[0,1]) rfl<|ov hf rfl (RunV.addI rfl rfl (by omega))<|?_; clear hf a; intro a hf; refine mv hf rfl ?_; clear hf a; intro a hf; refine O.nil ?_; refine k_then ⟨(k+1),⟨hf.to ⟨rfl,rfl,rfl,(by first | rfl | exact congrArg some (congrArg (Value.int _) (by omega))),trivial⟩,?_,?_,?_⟩,?_⟩
      · exact hS.eqM rfl
      · omega
      · exact Det.all_snoc h2 heq
      · dsimp only; omega
  · refine W.exit ?_
    refine k_then_exit<|k_then_exit<|k_blk<|k_seq<|?_; replace hf:Fr a 19 [] []:=hf.to trivial; refine W.seq ?_
    refine W.regionL (l:=[0]) rfl<|mv hf rfl<|?_; clear hf a; intro a hf; refine nk<|W.ret<|post1 hf rfl (ResOK.tmp rfl)<|?_; exact ⟨(),by rw [show placeM v=-1 from plK_none (fun i hi=>h2 i (by omega))],hS.sub (List.nil_sublist _) |>.noB⟩
theorem ev_g0 {L:List (Nat × Value)}:ev L (.global 0)=some (.pointer (some ⟨0,0,none⟩)):=rfl
set_option maxHeartbeats 400000 in
set_option maxRecDepth 4000 in
theorem place_spec (c:Int) (w0:World) (hG:Lent w0 ordA) :
    Ret Tryd.prog 55 #[.int .u8 c] w0 (G:=Unit) (fun _=>.int .i64 (placeM (IntKind.i32.wrap c))) (fun _ w=>St w0 w noX [] []):=by
  refine ret_of_W (lv:=[.int .u8 c]) Tryd.func55 rfl rfl rfl (fun a hf=>?_); replace hf:Fr a 7 [] [(0,.int .u8 c)]:=hf; have hS:St w0 w0 noX [ordA] []:=(St.refl w0).lendA hG; refine W.seq ?_
  refine W.regionL (l:=[0]) rfl<|mv hf rfl<|?_; clear hf a; intro a hf; refine nk<|W.seq<|?_
  refine W.regionL (l:=[0,1,2,3,4]) rfl<|ov hf rfl (RunV.sliceAll (len:=25) T_arr_123 T_size_21 ev_g0)<|?_; clear hf a; intro a hf; refine mv hf rfl ?_; clear hf a; intro a hf; refine ov hf rfl (RunV.conv T_und_5 T_int_21 rfl) ?_; clear hf a; intro a hf; refine oc hf rfl C_ok_73 (index_spec (IntKind.i32.wrap c) _ (ord_rd (hS.bptO (i:=0) rfl))) ?_; clear hf a; rintro _ w1 hS1 a hf; replace hS:=hS.cl hS1; refine mv hf rfl ?_; clear hf a; intro a hf; refine nk<|W.ret<|post1 hf rfl (ResOK.tmp rfl)<|?_; exact ⟨(),rfl,hS.sub (List.nil_sublist _) |>.noB⟩
set_option maxHeartbeats 400000 in
set_option maxRecDepth 4000 in
theorem isHalf_spec (c:Int) (w0:World) (hG:Lent w0 ordA) :
    Ret Tryd.prog 54 #[.int .u8 c] w0 (G:=Unit) (fun _=>.bool (decide (placeM (IntKind.i32.wrap c)≥0)&&decide (placeM (IntKind.i32.wrap c)<24))) (fun _ w=>St w0 w noX [] []):=by
  refine ret_of_W (lv:=[.int .u8 c]) Tryd.func54 rfl rfl rfl (fun a hf=>?_); replace hf:Fr a 12 [] [(0,.int .u8 c)]:=hf; have hS:St w0 w0 noX [ordA] []:=(St.refl w0).lendA hG; refine W.seq ?_
  refine W.regionL (l:=[0]) rfl<|mv hf rfl<|?_; clear hf a; intro a hf; refine nk<|W.seq<|?_
  refine W.regionL (l:=[0,1,2]) rfl<|mv hf rfl<|?_; clear hf a; intro a hf; refine oc hf rfl C_ok_55 (place_spec c _ (hS.bptO (i:=0) rfl)) ?_; clear hf a; rintro _ w1 hS1 a hf; replace hS:=hS.cl hS1; refine mv hf rfl ?_; clear hf a; intro a hf; refine nk<|W.seq<|?_
  refine W.regionL (l:=[0,1,2,3,4,5,6]) rfl<|mv hf rfl<|?_; clear hf a; intro a hf; refine ov (v:=.bool (decide ((placeM (IntKind.i32.wrap c))≥(0:Int)))) hf rfl (RunV.geq rfl rfl) ?_; clear hf a; intro a hf; refine mv hf rfl ?_; clear hf a; intro a hf
  refine O.cutN (l₁:=[3,4,5]) (l₂:=_) (fun a w=>Fr a 12 [] [(2,.bool false),(3,.int .i64 (placeM (IntKind.i32.wrap c))),(6,.int .i64 (placeM (IntKind.i32.wrap c))),(7,.bool (decide ((placeM (IntKind.i32.wrap c))≥(0:Int)))),(8,.bool (decide ((placeM (IntKind.i32.wrap c))≥(0:Int)))),(11,.bool ((decide ((placeM (IntKind.i32.wrap c))≥(0:Int)))&&(decide ((placeM (IntKind.i32.wrap c))<(24:Int)))))]∧St w0 w noX [ordA] []) rfl ?_ ?_
  · rcases Bool.eq_false_or_eq_true (decide ((placeM (IntKind.i32.wrap c))≥(0:Int))) with hb2 | hb2
    · have hb2p:=of_decide_eq_true hb2
      refine og (v:=.int .i64 (placeM (IntKind.i32.wrap c))) hf rfl hb2 (RunV.move rfl) ?_; clear hf a; intro a hf; refine og (v:=.bool (decide ((placeM (IntKind.i32.wrap c))<(24:Int)))) hf rfl hb2 (RunV.lss rfl rfl) ?_; clear hf a; intro a hf; refine ov (v:=.bool ((decide ((placeM (IntKind.i32.wrap c))≥(0:Int)))&&(decide ((placeM (IntKind.i32.wrap c))<(24:Int))))) hf rfl (RunV.pick rfl rfl rfl (by rw [hb2]; rfl)) ?_; clear hf a; intro a hf; exact O.nil ⟨rfl,hf.q rfl,hS⟩
    · have hb2p:=of_decide_eq_false hb2
      refine sk hf rfl hb2 fun a hf=>sk hf rfl hb2 fun a hf=>?_; refine ov (v:=.bool ((decide ((placeM (IntKind.i32.wrap c))≥(0:Int)))&&(decide ((placeM (IntKind.i32.wrap c))<(24:Int))))) hf rfl (RunV.pick rfl rfl rfl (by rw [hb2]; rfl)) ?_; clear hf a; intro a hf; exact O.nil ⟨rfl,hf.q rfl,hS⟩
  clear hf hS a; rintro a w ⟨hf,hS⟩; refine mv hf rfl ?_; clear hf a; intro a hf; refine nk<|W.ret<|post1 hf rfl (ResOK.tmp rfl)<|?_; exact ⟨(),rfl,hS.sub (List.nil_sublist _) |>.noB⟩
set_option maxHeartbeats 400000 in
set_option maxRecDepth 4000 in
theorem checkD_spec (d:Dg) (w0:World) (hG:Lent w0 ordA) :
    Ret Tryd.prog 41 #[.agg (aD d)] w0 (G:=Unit) (fun _=>.int .i64 (if okD d then 0 else 8)) (fun _ w=>St w0 w noX [] []):=by
  refine ret_of_W (lv:=[.agg (aD d)]) Tryd.func41 rfl rfl rfl (fun a hf=>?_); replace hf:Fr a 55 [] [(0,.agg (aD d))]:=hf; have hS:St w0 w0 noX [ordA] []:=(St.refl w0).lendA hG; refine W.seq ?_
  refine W.regionL (l:=[0,1]) rfl<|O.box (cs:=(aD d)) hf hS rfl rfl rfl rfl<|?_; intro b_d1 w a hbb_d1 hS hf; refine mv hf rfl ?_; clear hf a; intro a hf; refine nk<|W.seq<|?_
  refine W.regionL (l:=[0,1,2,3,4]) rfl<|ov hf rfl (RunV.field T_field_24_0 rfl rfl)<|?_; clear hf a; intro a hf; refine ov hf rfl (RunV.load1 T_agg_3 rfl (hS.p 0 rfl) rfl) ?_; clear hf a; intro a hf; refine ov hf rfl (RunV.buildS (cs':=#[.int .i64 d.num,.int .i64 0,.int .u8 0,.int .u8 0,.int .i64 0]) T_places_24 T_zero_24 rfl rfl) ?_; clear hf a; intro a hf; refine O.alloc (cs:=#[.int .i64 0,.int .i64 0,.int .u8 0,.int .u8 0,.int .i64 0]) hf hS rfl rfl T_zero_24 rfl ?_; intro b_number2 w a hbb_number2 hS hf; refine ost 0 #[.int .i64 d.num,.int .i64 0,.int .u8 0,.int .u8 0,.int .i64 0] hf hS rfl rfl rfl T_size_24 rfl rfl rfl (bl rfl) rfl ?_; intro w hS; refine nk<|W.seq<|?_
  refine W.regionL (l:=[0]) rfl<|mv hf rfl<|?_; clear hf a; intro a hf; refine nk<|W.seq<|W.block<|W.seq<|?_
  refine W.regionL (l:=[0,1,2,3]) rfl<|ov hf rfl (RunV.field T_field_24_0 rfl rfl)<|?_; clear hf a; intro a hf; refine ov hf rfl (RunV.load1 T_agg_3 rfl (hS.p 1 rfl) rfl) ?_; clear hf a; intro a hf; refine ov (v:=.bool (decide (d.num≠(0:Int)))) hf rfl (RunV.neq rfl rfl) ?_; clear hf a; intro a hf; refine mv hf rfl ?_; clear hf a; intro a hf; refine nk ?_; refine W.ifdI hf rfl (fun hn=>?_) (fun hn=>?_)
  ·
    refine W.regionL (l:=[0,1,2,3,4,5,6,7,8,9,10,11,12,13]) rfl<|ov hf rfl (RunV.loadN (cs':=(aD d)) T_agg_24 T_size_24 rfl (hS.p 1 rfl) (bl rfl) rfl)<|?_; clear hf a; intro a hf; refine ov hf rfl (RunV.loadN (cs':=#[.int .i64 d.num,.int .i64 0,.int .u8 0,.int .u8 0,.int .i64 0]) T_agg_24 T_size_24 rfl (hS.p 0 rfl) (bl rfl) rfl) ?_; clear hf a; intro a hf; refine ov hf rfl (eqD rfl d ⟨d.num,0,0,0,0⟩ eqGuard24 rfl rfl) ?_; clear hf a; intro a hf; refine mv hf rfl ?_; clear hf a; intro a hf
    refine O.cutN (l₁:=[4,5,6,7]) (l₂:=_) (fun a w=>Fr a 55 [] [(1,.pointer (some ⟨b_d1,0,none⟩)),(2,.int .i64 0),(3,.pointer (some ⟨b_number2,0,none⟩)),(4,.bool false),(12,.agg (aD d)),(13,.agg #[.int .i64 d.num,.int .i64 0,.int .u8 0,.int .u8 0,.int .i64 0]),(14,.bool (decide (d=⟨d.num,0,0,0,0⟩))),(15,.bool (decide (d=⟨d.num,0,0,0,0⟩))),(19,.bool ((decide (d=⟨d.num,0,0,0,0⟩))&&(decide (d.num>(0:Int)))))]∧St w0 w noX [ordA] [pt b_number2 (.cells #[.int .i64 d.num,.int .i64 0,.int .u8 0,.int .u8 0,.int .i64 0] 24 (0,0)),pt b_d1 (.cells (aD d) 24 (0,0))]) rfl ?_ ?_
    · rcases Bool.eq_false_or_eq_true (decide (d=⟨d.num,0,0,0,0⟩)) with hb4 | hb4
      · have hb4p:=of_decide_eq_true hb4
        refine og (v:=.pointer (some ⟨b_d1,0,none⟩)) hf rfl hb4 (RunV.field T_field_24_0 rfl rfl) ?_; clear hf a; intro a hf; refine og (v:=.int .i64 d.num) hf rfl hb4 (RunV.load1 T_agg_3 rfl (hS.p 1 rfl) rfl) ?_; clear hf a; intro a hf; refine og (v:=.bool (decide (d.num>(0:Int)))) hf rfl hb4 (RunV.gtr rfl rfl) ?_; clear hf a; intro a hf; refine ov (v:=.bool ((decide (d=⟨d.num,0,0,0,0⟩))&&(decide (d.num>(0:Int))))) hf rfl (RunV.pick rfl rfl rfl (by rw [hb4]; rfl)) ?_; clear hf a; intro a hf; exact O.nil ⟨rfl,hf.q rfl,hS⟩
      · have hb4p:=of_decide_eq_false hb4
        refine sk hf rfl hb4 fun a hf=>sk hf rfl hb4 fun a hf=>sk hf rfl hb4 fun a hf=>?_; refine ov (v:=.bool ((decide (d=⟨d.num,0,0,0,0⟩))&&(decide (d.num>(0:Int))))) hf rfl (RunV.pick rfl rfl rfl (by rw [hb4]; rfl)) ?_; clear hf a; intro a hf; exact O.nil ⟨rfl,hf.q rfl,hS⟩
    clear hf hS a; rintro a w ⟨hf,hS⟩; refine mv hf rfl ?_; clear hf a; intro a hf
    refine O.cutN (l₁:=[9,10,11,12]) (l₂:=_) (fun a w=>Fr a 55 [] [(1,.pointer (some ⟨b_d1,0,none⟩)),(2,.int .i64 0),(3,.pointer (some ⟨b_number2,0,none⟩)),(4,.bool false),(12,.agg (aD d)),(13,.agg #[.int .i64 d.num,.int .i64 0,.int .u8 0,.int .u8 0,.int .i64 0]),(14,.bool (decide (d=⟨d.num,0,0,0,0⟩))),(15,.bool (decide (d=⟨d.num,0,0,0,0⟩))),(19,.bool ((decide (d=⟨d.num,0,0,0,0⟩))&&(decide (d.num>(0:Int))))),(20,.bool ((decide (d=⟨d.num,0,0,0,0⟩))&&(decide (d.num>(0:Int))))),(24,.bool (((decide (d=⟨d.num,0,0,0,0⟩))&&(decide (d.num>(0:Int))))&&(decide (d.num≤(15396335:Int)))))]∧St w0 w noX [ordA] [pt b_number2 (.cells #[.int .i64 d.num,.int .i64 0,.int .u8 0,.int .u8 0,.int .i64 0] 24 (0,0)),pt b_d1 (.cells (aD d) 24 (0,0))]) rfl ?_ ?_
    · rcases Bool.eq_false_or_eq_true ((decide (d=⟨d.num,0,0,0,0⟩))&&(decide (d.num>(0:Int)))) with hb5 | hb5
      · have hb5p:=hb5
        try simp only [Bool.and_eq_true,Bool.or_eq_true,Bool.and_eq_false_iff,Bool.or_eq_false_iff,decide_eq_true_eq,decide_eq_false_iff_not,Bool.not_eq_true',Bool.not_eq_false',Bool.not_eq_true,Bool.not_eq_false,ne_eq] at hb5p
        refine og (v:=.pointer (some ⟨b_d1,0,none⟩)) hf rfl hb5 (RunV.field T_field_24_0 rfl rfl) ?_; clear hf a; intro a hf; refine og (v:=.int .i64 d.num) hf rfl hb5 (RunV.load1 T_agg_3 rfl (hS.p 1 rfl) rfl) ?_; clear hf a; intro a hf; refine og (v:=.bool (decide (d.num≤(15396335:Int)))) hf rfl hb5 (RunV.leq rfl rfl) ?_; clear hf a; intro a hf; refine ov (v:=.bool (((decide (d=⟨d.num,0,0,0,0⟩))&&(decide (d.num>(0:Int))))&&(decide (d.num≤(15396335:Int))))) hf rfl (RunV.pick rfl rfl rfl (by rw [hb5]; rfl)) ?_; clear hf a; intro a hf; exact O.nil ⟨rfl,hf.q rfl,hS⟩
      · have hb5p:=hb5
        try simp only [Bool.and_eq_true,Bool.or_eq_true,Bool.and_eq_false_iff,Bool.or_eq_false_iff,decide_eq_true_eq,decide_eq_false_iff_not,Bool.not_eq_true',Bool.not_eq_false',Bool.not_eq_true,Bool.not_eq_false,ne_eq] at hb5p
        refine sk hf rfl hb5 fun a hf=>sk hf rfl hb5 fun a hf=>sk hf rfl hb5 fun a hf=>?_; refine ov (v:=.bool (((decide (d=⟨d.num,0,0,0,0⟩))&&(decide (d.num>(0:Int))))&&(decide (d.num≤(15396335:Int))))) hf rfl (RunV.pick rfl rfl rfl (by rw [hb5]; rfl)) ?_; clear hf a; intro a hf; exact O.nil ⟨rfl,hf.q rfl,hS⟩
    clear hf hS a; rintro a w ⟨hf,hS⟩; refine mv hf rfl ?_; clear hf a; intro a hf; refine O.nil<|k_blk_normal<|k_seq<|W.seq<|W.seq<|?_
    refine W.regionL (l:=[0,1]) rfl<|mv hf rfl<|?_; clear hf a; intro a hf; refine ov (v:=.bool (!(((decide (d=⟨d.num,0,0,0,0⟩))&&(decide (d.num>(0:Int))))&&(decide (d.num≤(15396335:Int)))))) hf rfl (RunV.not rfl) ?_; clear hf a; intro a hf; refine nk ?_; refine W.if_ hf rfl (fun hok=>?_) (fun hok=>?_)
    · have hokb:=hok
      try simp only [Bool.and_eq_true,Bool.or_eq_true,Bool.and_eq_false_iff,Bool.or_eq_false_iff,decide_eq_true_eq,decide_eq_false_iff_not,Bool.not_eq_true',Bool.not_eq_false',Bool.not_eq_true,Bool.not_eq_false,ne_eq] at hok
      refine W.seq ?_
      refine W.regionL (l:=[0]) rfl<|mv hf rfl<|?_; clear hf a; intro a hf; refine nk<|W.ret<|k_then_ret<|post1 hf rfl (ResOK.tmp rfl)<|?_
      first
        | exact ⟨(),by rw [show okD d=false from by unfold okD; rw [if_pos hn]; first | exact (Bool.not_eq_true' _).mp hokb | exact (Bool.not_eq_false' _).mp hokb]; rfl,hS.sub (List.nil_sublist _) |>.noB⟩
        | exact ⟨(),by rw [show okD d=false from by unfold okD; rw [if_neg hn,hyrb,Bool.true_and]; first | exact (Bool.not_eq_true' _).mp hokb | exact (Bool.not_eq_false' _).mp hokb]; rfl,hS.sub (List.nil_sublist _) |>.noB⟩
        | exact ⟨(),by rw [show okD d=false from by unfold okD; rw [if_neg hn,hyrb]; rfl]; rfl,hS.sub (List.nil_sublist _) |>.noB⟩
    · have hokb:=hok
      try simp only [Bool.and_eq_true,Bool.or_eq_true,Bool.and_eq_false_iff,Bool.or_eq_false_iff,decide_eq_true_eq,decide_eq_false_iff_not,Bool.not_eq_true',Bool.not_eq_false',Bool.not_eq_true,Bool.not_eq_false,ne_eq] at hok
      refine W.skip<|k_seq<|W.seq<|?_
      refine W.regionL (l:=[0]) rfl<|mv hf rfl<|?_; clear hf a; intro a hf; refine nk<|W.ret<|post1 hf rfl (ResOK.tmp rfl)<|?_
      first
        | exact ⟨(),by rw [show okD d=true from by unfold okD; rw [if_pos hn]; first | exact (Bool.not_eq_true' _).mp hokb | exact (Bool.not_eq_false' _).mp hokb]; rfl,hS.sub (List.nil_sublist _) |>.noB⟩
        | exact ⟨(),by rw [show okD d=true from by unfold okD; rw [if_neg hn,hyrb,Bool.true_and]; first | exact (Bool.not_eq_true' _).mp hokb | exact (Bool.not_eq_false' _).mp hokb]; rfl,hS.sub (List.nil_sublist _) |>.noB⟩
        | exact ⟨(),by rw [show okD d=true from by unfold okD; rw [if_neg hn,hyrb]; rfl]; rfl,hS.sub (List.nil_sublist _) |>.noB⟩
  · refine W.seq ?_
    refine W.regionL (l:=[0,1,2,3,4,5,6,7,8]) rfl<|ov hf rfl (RunV.field T_field_24_1 rfl rfl)<|?_; clear hf a; intro a hf; refine ov hf rfl (RunV.load1 T_agg_3 rfl (hS.p 1 rfl) rfl) ?_; clear hf a; intro a hf; refine ov (v:=.bool (decide (d.yr≥(1800:Int)))) hf rfl (RunV.geq rfl rfl) ?_; clear hf a; intro a hf; refine mv hf rfl ?_; clear hf a; intro a hf
    refine O.cutN (l₁:=[4,5,6,7]) (l₂:=_) (fun a w=>Fr a 55 [] [(1,.pointer (some ⟨b_d1,0,none⟩)),(2,.int .i64 0),(3,.pointer (some ⟨b_number2,0,none⟩)),(4,.bool false),(26,.pointer (some ⟨b_d1,1,none⟩)),(27,.int .i64 d.yr),(28,.bool (decide (d.yr≥(1800:Int)))),(29,.bool (decide (d.yr≥(1800:Int)))),(33,.bool ((decide (d.yr≥(1800:Int)))&&(decide (d.yr≤(2099:Int)))))]∧St w0 w noX [ordA] [pt b_number2 (.cells #[.int .i64 d.num,.int .i64 0,.int .u8 0,.int .u8 0,.int .i64 0] 24 (0,0)),pt b_d1 (.cells (aD d) 24 (0,0))]) rfl ?_ ?_
    · rcases Bool.eq_false_or_eq_true (decide (d.yr≥(1800:Int))) with hb7 | hb7
      · have hb7p:=of_decide_eq_true hb7
        refine og (v:=.pointer (some ⟨b_d1,1,none⟩)) hf rfl hb7 (RunV.field T_field_24_1 rfl rfl) ?_; clear hf a; intro a hf; refine og (v:=.int .i64 d.yr) hf rfl hb7 (RunV.load1 T_agg_3 rfl (hS.p 1 rfl) rfl) ?_; clear hf a; intro a hf; refine og (v:=.bool (decide (d.yr≤(2099:Int)))) hf rfl hb7 (RunV.leq rfl rfl) ?_; clear hf a; intro a hf; refine ov (v:=.bool ((decide (d.yr≥(1800:Int)))&&(decide (d.yr≤(2099:Int))))) hf rfl (RunV.pick rfl rfl rfl (by rw [hb7]; rfl)) ?_; clear hf a; intro a hf; exact O.nil ⟨rfl,hf.q rfl,hS⟩
      · have hb7p:=of_decide_eq_false hb7
        refine sk hf rfl hb7 fun a hf=>sk hf rfl hb7 fun a hf=>sk hf rfl hb7 fun a hf=>?_; refine ov (v:=.bool ((decide (d.yr≥(1800:Int)))&&(decide (d.yr≤(2099:Int))))) hf rfl (RunV.pick rfl rfl rfl (by rw [hb7]; rfl)) ?_; clear hf a; intro a hf; exact O.nil ⟨rfl,hf.q rfl,hS⟩
    clear hf hS a; rintro a w ⟨hf,hS⟩; refine mv hf rfl ?_; clear hf a; intro a hf; refine nk ?_; refine W.if_ hf rfl (fun hyr=>?_) (fun hyr=>?_)
    · have hyrb:=hyr
      try simp only [Bool.and_eq_true,Bool.or_eq_true,Bool.and_eq_false_iff,Bool.or_eq_false_iff,decide_eq_true_eq,decide_eq_false_iff_not,Bool.not_eq_true',Bool.not_eq_false',Bool.not_eq_true,Bool.not_eq_false,ne_eq] at hyr
      refine W.regionL (l:=[0,1,2,3,4,5,6,7,8,9,10,11,12,13,14,15,16,17,18,19]) rfl<|ov hf rfl (RunV.field T_field_24_2 rfl rfl)<|?_; clear hf a; intro a hf; refine ov hf rfl (RunV.load1 T_agg_5 rfl (hS.p 1 rfl) rfl) ?_; clear hf a; intro a hf; refine oc hf rfl C_ok_54 (isHalf_spec d.half _ (hS.bptO (i:=0) rfl)) ?_; clear hf a; rintro _ w9 hS1 a hf; replace hS:=hS.cl hS1; refine mv hf rfl ?_; clear hf a; intro a hf
      refine O.cutN (l₁:=[4,5,6,7,8]) (l₂:=_) (fun a w=>Fr a 55 [] [(1,.pointer (some ⟨b_d1,0,none⟩)),(2,.int .i64 0),(4,.bool false),(34,.pointer (some ⟨b_d1,2,none⟩)),(35,.int .u8 d.half),(36,.bool (decide (placeM (IntKind.i32.wrap d.half)≥0)&&decide (placeM (IntKind.i32.wrap d.half)<24))),(37,.bool (decide (placeM (IntKind.i32.wrap d.half)≥0)&&decide (placeM (IntKind.i32.wrap d.half)<24))),(42,.bool ((decide (placeM (IntKind.i32.wrap d.half)≥0)&&decide (placeM (IntKind.i32.wrap d.half)<24))&&(decide ((placeM (IntKind.i32.wrap d.sec))≥(0:Int)))))]∧St w0 w noX [ordA] [pt b_number2 (.cells #[.int .i64 d.num,.int .i64 0,.int .u8 0,.int .u8 0,.int .i64 0] 24 (0,0)),pt b_d1 (.cells (aD d) 24 (0,0))]) rfl ?_ ?_
      · rcases Bool.eq_false_or_eq_true (decide (placeM (IntKind.i32.wrap d.half)≥0)&&decide (placeM (IntKind.i32.wrap d.half)<24)) with hb10 | hb10
        · have hb10p:=hb10
          try simp only [Bool.and_eq_true,Bool.or_eq_true,Bool.and_eq_false_iff,Bool.or_eq_false_iff,decide_eq_true_eq,decide_eq_false_iff_not,Bool.not_eq_true',Bool.not_eq_false',Bool.not_eq_true,Bool.not_eq_false,ne_eq] at hb10p
          refine og (v:=.pointer (some ⟨b_d1,3,none⟩)) hf rfl hb10 (RunV.field T_field_24_3 rfl rfl) ?_; clear hf a; intro a hf; refine og (v:=.int .u8 d.sec) hf rfl hb10 (RunV.load1 T_agg_5 rfl (hS.p 1 rfl) rfl) ?_; clear hf a; intro a hf; refine O.gcallR hf rfl rfl rfl hb10 rfl rfl (RunE.call (av:=#[.int .u8 d.sec]) C_ok_55 rfl rfl rfl) (place_spec d.sec _ (hS.bptO (i:=0) rfl)) ?_; clear hf a; rintro _ w11 hS1 a hf; replace hS:=hS.cl hS1; refine og (v:=.bool (decide ((placeM (IntKind.i32.wrap d.sec))≥(0:Int)))) hf rfl hb10 (RunV.geq rfl rfl) ?_; clear hf a; intro a hf; refine ov (v:=.bool ((decide (placeM (IntKind.i32.wrap d.half)≥0)&&decide (placeM (IntKind.i32.wrap d.half)<24))&&(decide ((placeM (IntKind.i32.wrap d.sec))≥(0:Int))))) hf rfl (RunV.pick rfl rfl rfl (by rw [hb10]; rfl)) ?_; clear hf a; intro a hf; exact O.nil ⟨rfl,hf.q rfl,hS⟩
        · have hb10p:=hb10
          try simp only [Bool.and_eq_true,Bool.or_eq_true,Bool.and_eq_false_iff,Bool.or_eq_false_iff,decide_eq_true_eq,decide_eq_false_iff_not,Bool.not_eq_true',Bool.not_eq_false',Bool.not_eq_true,Bool.not_eq_false,ne_eq] at hb10p
          refine sk hf rfl hb10 fun a hf=>sk hf rfl hb10 fun a hf=>sk hf rfl hb10 fun a hf=>sk hf rfl hb10 fun a hf=>?_; refine ov (v:=.bool ((decide (placeM (IntKind.i32.wrap d.half)≥0)&&decide (placeM (IntKind.i32.wrap d.half)<24))&&(decide ((placeM (IntKind.i32.wrap d.sec))≥(0:Int))))) hf rfl (RunV.pick rfl rfl rfl (by rw [hb10]; rfl)) ?_; clear hf a; intro a hf; exact O.nil ⟨rfl,hf.q rfl,hS⟩
      clear hf hS a; rintro a w ⟨hf,hS⟩; refine mv hf rfl ?_; clear hf a; intro a hf
      refine O.cutN (l₁:=[10,11,12,13]) (l₂:=_) (fun a w=>Fr a 55 [] [(1,.pointer (some ⟨b_d1,0,none⟩)),(2,.int .i64 0),(4,.bool false),(34,.pointer (some ⟨b_d1,2,none⟩)),(35,.int .u8 d.half),(36,.bool (decide (placeM (IntKind.i32.wrap d.half)≥0)&&decide (placeM (IntKind.i32.wrap d.half)<24))),(37,.bool (decide (placeM (IntKind.i32.wrap d.half)≥0)&&decide (placeM (IntKind.i32.wrap d.half)<24))),(42,.bool ((decide (placeM (IntKind.i32.wrap d.half)≥0)&&decide (placeM (IntKind.i32.wrap d.half)<24))&&(decide ((placeM (IntKind.i32.wrap d.sec))≥(0:Int))))),(43,.bool ((decide (placeM (IntKind.i32.wrap d.half)≥0)&&decide (placeM (IntKind.i32.wrap d.half)<24))&&(decide ((placeM (IntKind.i32.wrap d.sec))≥(0:Int))))),(47,.bool (((decide (placeM (IntKind.i32.wrap d.half)≥0)&&decide (placeM (IntKind.i32.wrap d.half)<24))&&(decide ((placeM (IntKind.i32.wrap d.sec))≥(0:Int))))&&(decide (d.cyc≥(0:Int)))))]∧St w0 w noX [ordA] [pt b_number2 (.cells #[.int .i64 d.num,.int .i64 0,.int .u8 0,.int .u8 0,.int .i64 0] 24 (0,0)),pt b_d1 (.cells (aD d) 24 (0,0))]) rfl ?_ ?_
      · rcases Bool.eq_false_or_eq_true ((decide (placeM (IntKind.i32.wrap d.half)≥0)&&decide (placeM (IntKind.i32.wrap d.half)<24))&&(decide ((placeM (IntKind.i32.wrap d.sec))≥(0:Int)))) with hb12 | hb12
        · have hb12p:=hb12
          try simp only [Bool.and_eq_true,Bool.or_eq_true,Bool.and_eq_false_iff,Bool.or_eq_false_iff,decide_eq_true_eq,decide_eq_false_iff_not,Bool.not_eq_true',Bool.not_eq_false',Bool.not_eq_true,Bool.not_eq_false,ne_eq] at hb12p
          refine og (v:=.pointer (some ⟨b_d1,4,none⟩)) hf rfl hb12 (RunV.field T_field_24_4 rfl rfl) ?_; clear hf a; intro a hf; refine og (v:=.int .i64 d.cyc) hf rfl hb12 (RunV.load1 T_agg_3 rfl (hS.p 1 rfl) rfl) ?_; clear hf a; intro a hf; refine og (v:=.bool (decide (d.cyc≥(0:Int)))) hf rfl hb12 (RunV.geq rfl rfl) ?_; clear hf a; intro a hf; refine ov (v:=.bool (((decide (placeM (IntKind.i32.wrap d.half)≥0)&&decide (placeM (IntKind.i32.wrap d.half)<24))&&(decide ((placeM (IntKind.i32.wrap d.sec))≥(0:Int))))&&(decide (d.cyc≥(0:Int))))) hf rfl (RunV.pick rfl rfl rfl (by rw [hb12]; rfl)) ?_; clear hf a; intro a hf; exact O.nil ⟨rfl,hf.q rfl,hS⟩
        · have hb12p:=hb12
          try simp only [Bool.and_eq_true,Bool.or_eq_true,Bool.and_eq_false_iff,Bool.or_eq_false_iff,decide_eq_true_eq,decide_eq_false_iff_not,Bool.not_eq_true',Bool.not_eq_false',Bool.not_eq_true,Bool.not_eq_false,ne_eq] at hb12p
          refine sk hf rfl hb12 fun a hf=>sk hf rfl hb12 fun a hf=>sk hf rfl hb12 fun a hf=>?_; refine ov (v:=.bool (((decide (placeM (IntKind.i32.wrap d.half)≥0)&&decide (placeM (IntKind.i32.wrap d.half)<24))&&(decide ((placeM (IntKind.i32.wrap d.sec))≥(0:Int))))&&(decide (d.cyc≥(0:Int))))) hf rfl (RunV.pick rfl rfl rfl (by rw [hb12]; rfl)) ?_; clear hf a; intro a hf; exact O.nil ⟨rfl,hf.q rfl,hS⟩
      clear hf hS a; rintro a w ⟨hf,hS⟩; refine mv hf rfl ?_; clear hf a; intro a hf
      refine O.cutN (l₁:=[15,16,17,18]) (l₂:=_) (fun a w=>Fr a 55 [] [(1,.pointer (some ⟨b_d1,0,none⟩)),(2,.int .i64 0),(4,.bool false),(34,.pointer (some ⟨b_d1,2,none⟩)),(35,.int .u8 d.half),(36,.bool (decide (placeM (IntKind.i32.wrap d.half)≥0)&&decide (placeM (IntKind.i32.wrap d.half)<24))),(37,.bool (decide (placeM (IntKind.i32.wrap d.half)≥0)&&decide (placeM (IntKind.i32.wrap d.half)<24))),(42,.bool ((decide (placeM (IntKind.i32.wrap d.half)≥0)&&decide (placeM (IntKind.i32.wrap d.half)<24))&&(decide ((placeM (IntKind.i32.wrap d.sec))≥(0:Int))))),(43,.bool ((decide (placeM (IntKind.i32.wrap d.half)≥0)&&decide (placeM (IntKind.i32.wrap d.half)<24))&&(decide ((placeM (IntKind.i32.wrap d.sec))≥(0:Int))))),(47,.bool (((decide (placeM (IntKind.i32.wrap d.half)≥0)&&decide (placeM (IntKind.i32.wrap d.half)<24))&&(decide ((placeM (IntKind.i32.wrap d.sec))≥(0:Int))))&&(decide (d.cyc≥(0:Int))))),(48,.bool (((decide (placeM (IntKind.i32.wrap d.half)≥0)&&decide (placeM (IntKind.i32.wrap d.half)<24))&&(decide ((placeM (IntKind.i32.wrap d.sec))≥(0:Int))))&&(decide (d.cyc≥(0:Int))))),(52,.bool ((((decide (placeM (IntKind.i32.wrap d.half)≥0)&&decide (placeM (IntKind.i32.wrap d.half)<24))&&(decide ((placeM (IntKind.i32.wrap d.sec))≥(0:Int))))&&(decide (d.cyc≥(0:Int))))&&(decide (d.cyc≤(619:Int)))))]∧St w0 w noX [ordA] [pt b_number2 (.cells #[.int .i64 d.num,.int .i64 0,.int .u8 0,.int .u8 0,.int .i64 0] 24 (0,0)),pt b_d1 (.cells (aD d) 24 (0,0))]) rfl ?_ ?_
      · rcases Bool.eq_false_or_eq_true (((decide (placeM (IntKind.i32.wrap d.half)≥0)&&decide (placeM (IntKind.i32.wrap d.half)<24))&&(decide ((placeM (IntKind.i32.wrap d.sec))≥(0:Int))))&&(decide (d.cyc≥(0:Int)))) with hb13 | hb13
        · have hb13p:=hb13
          try simp only [Bool.and_eq_true,Bool.or_eq_true,Bool.and_eq_false_iff,Bool.or_eq_false_iff,decide_eq_true_eq,decide_eq_false_iff_not,Bool.not_eq_true',Bool.not_eq_false',Bool.not_eq_true,Bool.not_eq_false,ne_eq] at hb13p
          refine og (v:=.pointer (some ⟨b_d1,4,none⟩)) hf rfl hb13 (RunV.field T_field_24_4 rfl rfl) ?_; clear hf a; intro a hf; refine og (v:=.int .i64 d.cyc) hf rfl hb13 (RunV.load1 T_agg_3 rfl (hS.p 1 rfl) rfl) ?_; clear hf a; intro a hf; refine og (v:=.bool (decide (d.cyc≤(619:Int)))) hf rfl hb13 (RunV.leq rfl rfl) ?_; clear hf a; intro a hf; refine ov (v:=.bool ((((decide (placeM (IntKind.i32.wrap d.half)≥0)&&decide (placeM (IntKind.i32.wrap d.half)<24))&&(decide ((placeM (IntKind.i32.wrap d.sec))≥(0:Int))))&&(decide (d.cyc≥(0:Int))))&&(decide (d.cyc≤(619:Int))))) hf rfl (RunV.pick rfl rfl rfl (by rw [hb13]; rfl)) ?_; clear hf a; intro a hf; exact O.nil ⟨rfl,hf.q rfl,hS⟩
        · have hb13p:=hb13
          try simp only [Bool.and_eq_true,Bool.or_eq_true,Bool.and_eq_false_iff,Bool.or_eq_false_iff,decide_eq_true_eq,decide_eq_false_iff_not,Bool.not_eq_true',Bool.not_eq_false',Bool.not_eq_true,Bool.not_eq_false,ne_eq] at hb13p
          refine sk hf rfl hb13 fun a hf=>sk hf rfl hb13 fun a hf=>sk hf rfl hb13 fun a hf=>?_; refine ov (v:=.bool ((((decide (placeM (IntKind.i32.wrap d.half)≥0)&&decide (placeM (IntKind.i32.wrap d.half)<24))&&(decide ((placeM (IntKind.i32.wrap d.sec))≥(0:Int))))&&(decide (d.cyc≥(0:Int))))&&(decide (d.cyc≤(619:Int))))) hf rfl (RunV.pick rfl rfl rfl (by rw [hb13]; rfl)) ?_; clear hf a; intro a hf; exact O.nil ⟨rfl,hf.q rfl,hS⟩
      clear hf hS a; rintro a w ⟨hf,hS⟩; refine mv hf rfl ?_; clear hf a; intro a hf; refine O.nil<|k_blk_normal<|k_seq<|W.seq<|W.seq<|?_
      refine W.regionL (l:=[0,1]) rfl<|mv hf rfl<|?_; clear hf a; intro a hf; refine ov (v:=.bool (!((((decide (placeM (IntKind.i32.wrap d.half)≥0)&&decide (placeM (IntKind.i32.wrap d.half)<24))&&(decide ((placeM (IntKind.i32.wrap d.sec))≥(0:Int))))&&(decide (d.cyc≥(0:Int))))&&(decide (d.cyc≤(619:Int)))))) hf rfl (RunV.not rfl) ?_; clear hf a; intro a hf; refine nk ?_; refine W.if_ hf rfl (fun hok=>?_) (fun hok=>?_)
      · have hokb:=hok
        try simp only [Bool.and_eq_true,Bool.or_eq_true,Bool.and_eq_false_iff,Bool.or_eq_false_iff,decide_eq_true_eq,decide_eq_false_iff_not,Bool.not_eq_true',Bool.not_eq_false',Bool.not_eq_true,Bool.not_eq_false,ne_eq] at hok
        refine W.seq ?_
        refine W.regionL (l:=[0]) rfl<|mv hf rfl<|?_; clear hf a; intro a hf; refine nk<|W.ret<|k_then_ret<|post1 hf rfl (ResOK.tmp rfl)<|?_
        first
          | exact ⟨(),by rw [show okD d=false from by unfold okD; rw [if_pos hn]; first | exact (Bool.not_eq_true' _).mp hokb | exact (Bool.not_eq_false' _).mp hokb]; rfl,hS.sub (List.nil_sublist _) |>.noB⟩
          | exact ⟨(),by rw [show okD d=false from by unfold okD; rw [if_neg hn,hyrb,Bool.true_and]; first | exact (Bool.not_eq_true' _).mp hokb | exact (Bool.not_eq_false' _).mp hokb]; rfl,hS.sub (List.nil_sublist _) |>.noB⟩
          | exact ⟨(),by rw [show okD d=false from by unfold okD; rw [if_neg hn,hyrb]; rfl]; rfl,hS.sub (List.nil_sublist _) |>.noB⟩
      · have hokb:=hok
        try simp only [Bool.and_eq_true,Bool.or_eq_true,Bool.and_eq_false_iff,Bool.or_eq_false_iff,decide_eq_true_eq,decide_eq_false_iff_not,Bool.not_eq_true',Bool.not_eq_false',Bool.not_eq_true,Bool.not_eq_false,ne_eq] at hok
        refine W.skip<|k_seq<|W.seq<|?_
        refine W.regionL (l:=[0]) rfl<|mv hf rfl<|?_; clear hf a; intro a hf; refine nk<|W.ret<|post1 hf rfl (ResOK.tmp rfl)<|?_
        first
          | exact ⟨(),by rw [show okD d=true from by unfold okD; rw [if_pos hn]; first | exact (Bool.not_eq_true' _).mp hokb | exact (Bool.not_eq_false' _).mp hokb]; rfl,hS.sub (List.nil_sublist _) |>.noB⟩
          | exact ⟨(),by rw [show okD d=true from by unfold okD; rw [if_neg hn,hyrb,Bool.true_and]; first | exact (Bool.not_eq_true' _).mp hokb | exact (Bool.not_eq_false' _).mp hokb]; rfl,hS.sub (List.nil_sublist _) |>.noB⟩
          | exact ⟨(),by rw [show okD d=true from by unfold okD; rw [if_neg hn,hyrb]; rfl]; rfl,hS.sub (List.nil_sublist _) |>.noB⟩
    · have hyrb:=hyr
      try simp only [Bool.and_eq_true,Bool.or_eq_true,Bool.and_eq_false_iff,Bool.or_eq_false_iff,decide_eq_true_eq,decide_eq_false_iff_not,Bool.not_eq_true',Bool.not_eq_false',Bool.not_eq_true,Bool.not_eq_false,ne_eq] at hyr
      refine W.skip<|k_blk_normal<|k_seq<|W.seq<|W.seq<|?_
      refine W.regionL (l:=[0,1]) rfl<|mv hf rfl<|?_; clear hf a; intro a hf; refine ov (v:=.bool true) hf rfl (RunV.not (b:=false) rfl) ?_; clear hf a; intro a hf; refine nk<|W.if_tt hf rfl<|W.seq<|?_
      refine W.regionL (l:=[0]) rfl<|mv hf rfl<|?_; clear hf a; intro a hf; refine nk<|W.ret<|k_then_ret<|post1 hf rfl (ResOK.tmp rfl)<|?_
      first
        | exact ⟨(),by rw [show okD d=false from by unfold okD; rw [if_pos hn]; first | exact (Bool.not_eq_true' _).mp hokb | exact (Bool.not_eq_false' _).mp hokb]; rfl,hS.sub (List.nil_sublist _) |>.noB⟩
        | exact ⟨(),by rw [show okD d=false from by unfold okD; rw [if_neg hn,hyrb,Bool.true_and]; first | exact (Bool.not_eq_true' _).mp hokb | exact (Bool.not_eq_false' _).mp hokb]; rfl,hS.sub (List.nil_sublist _) |>.noB⟩
        | exact ⟨(),by rw [show okD d=false from by unfold okD; rw [if_neg hn,hyrb]; rfl]; rfl,hS.sub (List.nil_sublist _) |>.noB⟩
set_option maxHeartbeats 400000 in
set_option maxRecDepth 4000 in
theorem checkC_spec (c:Ch) (w0:World) (hG:Lent w0 ordA) :
    Ret Tryd.prog 25 #[.agg (aC c)] w0 (G:=Unit) (fun _=>.int .i64 (if okC c then 0 else 8)) (fun _ w=>St w0 w noX [] []):=by
  refine ret_of_W (lv:=[.agg (aC c)]) Tryd.func25 rfl rfl rfl (fun a hf=>?_); replace hf:Fr a 82 [] [(0,.agg (aC c))]:=hf; have hS:St w0 w0 noX [ordA] []:=(St.refl w0).lendA hG; refine W.seq ?_
  refine W.regionL (l:=[0,1]) rfl<|O.box (cs:=(aC c)) hf hS rfl rfl rfl rfl<|?_; intro b_c1 w a hbb_c1 hS hf; refine mv hf rfl ?_; clear hf a; intro a hf; refine nk<|W.seq<|?_
  refine W.regionL (l:=[0,1,2,3,4]) rfl<|ov hf rfl (RunV.field T_field_26_1 rfl rfl)<|?_; clear hf a; intro a hf; refine ov hf rfl (RunV.loadN (cs':=(aD c.a)) T_agg_24 T_size_24 rfl (hS.p 0 rfl) (bl rfl) rfl) ?_; clear hf a; intro a hf; refine oc hf rfl C_ok_41 (checkD_spec c.a _ (hS.bptO (i:=0) rfl)) ?_; clear hf a; rintro _ w2 hS1 a hf; replace hS:=hS.cl hS1; refine ov hf rfl (RunV.toB (RunV.eql rfl rfl) (okI c.a)) ?_; clear hf a; intro a hf; refine mv hf rfl ?_; clear hf a; intro a hf; refine nk<|W.seq<|?_
  refine W.regionL (l:=[0,1,2,3,4,5,6,7,8,9,10,11,12]) rfl<|mv hf rfl<|?_; clear hf a; intro a hf; refine mv hf rfl ?_; clear hf a; intro a hf
  refine O.cutN (l₁:=[2,3,4,5,6]) (l₂:=_) (fun a w=>Fr a 82 [] [(1,.pointer (some ⟨b_c1,0,none⟩)),(2,.int .i64 0),(3,.bool (okD c.a)),(10,.bool (okD c.a)),(11,.bool (okD c.a)),(16,.bool ((okD c.a)&&(okD c.b)))]∧St w0 w noX [ordA] [pt b_c1 (.cells (aC c) 26 (0,0))]) rfl ?_ ?_
  · rcases Bool.eq_false_or_eq_true (okD c.a) with hb3 | hb3
    · have hb3p:=hb3
      try simp only [Bool.and_eq_true,Bool.or_eq_true,Bool.and_eq_false_iff,Bool.or_eq_false_iff,decide_eq_true_eq,decide_eq_false_iff_not,Bool.not_eq_true',Bool.not_eq_false',Bool.not_eq_true,Bool.not_eq_false,ne_eq] at hb3p
      refine og (v:=.pointer (some ⟨b_c1,6,none⟩)) hf rfl hb3 (RunV.field T_field_26_2 rfl rfl) ?_; clear hf a; intro a hf; refine og (v:=.agg (aD c.b)) hf rfl hb3 (RunV.loadN (cs':=(aD c.b)) T_agg_24 T_size_24 rfl (hS.p 0 rfl) (bl rfl) rfl) ?_; clear hf a; intro a hf; refine O.gcallR hf rfl rfl rfl hb3 rfl rfl (RunE.call (av:=#[.agg (aD c.b)]) C_ok_41 rfl rfl rfl) (checkD_spec c.b _ (hS.bptO (i:=0) rfl)) ?_; clear hf a; rintro _ w4 hS1 a hf; replace hS:=hS.cl hS1; refine og (v:=.bool (okD c.b)) hf rfl hb3 (RunV.toB (RunV.eql rfl rfl) (okI c.b)) ?_; clear hf a; intro a hf; refine ov (v:=.bool ((okD c.a)&&(okD c.b))) hf rfl (RunV.pick rfl rfl rfl (by rw [hb3]; rfl)) ?_; clear hf a; intro a hf; exact O.nil ⟨rfl,hf.q rfl,hS⟩
    · have hb3p:=hb3
      try simp only [Bool.and_eq_true,Bool.or_eq_true,Bool.and_eq_false_iff,Bool.or_eq_false_iff,decide_eq_true_eq,decide_eq_false_iff_not,Bool.not_eq_true',Bool.not_eq_false',Bool.not_eq_true,Bool.not_eq_false,ne_eq] at hb3p
      refine sk hf rfl hb3 fun a hf=>sk hf rfl hb3 fun a hf=>sk hf rfl hb3 fun a hf=>sk hf rfl hb3 fun a hf=>?_; refine ov (v:=.bool ((okD c.a)&&(okD c.b))) hf rfl (RunV.pick rfl rfl rfl (by rw [hb3]; rfl)) ?_; clear hf a; intro a hf; exact O.nil ⟨rfl,hf.q rfl,hS⟩
  clear hf hS a; rintro a w ⟨hf,hS⟩; refine mv hf rfl ?_; clear hf a; intro a hf
  refine O.cutN (l₁:=[8,9,10,11]) (l₂:=_) (fun a w=>Fr a 82 [] [(1,.pointer (some ⟨b_c1,0,none⟩)),(2,.int .i64 0),(3,.bool (okD c.a)),(10,.bool (okD c.a)),(11,.bool (okD c.a)),(16,.bool ((okD c.a)&&(okD c.b))),(17,.bool ((okD c.a)&&(okD c.b))),(21,.bool (((okD c.a)&&(okD c.b))&&(decide (c.n=(0:Int)))))]∧St w0 w noX [ordA] [pt b_c1 (.cells (aC c) 26 (0,0))]) rfl ?_ ?_
  · rcases Bool.eq_false_or_eq_true ((okD c.a)&&(okD c.b)) with hb5 | hb5
    · have hb5p:=hb5
      try simp only [Bool.and_eq_true,Bool.or_eq_true,Bool.and_eq_false_iff,Bool.or_eq_false_iff,decide_eq_true_eq,decide_eq_false_iff_not,Bool.not_eq_true',Bool.not_eq_false',Bool.not_eq_true,Bool.not_eq_false,ne_eq] at hb5p
      refine og (v:=.pointer (some ⟨b_c1,11,none⟩)) hf rfl hb5 (RunV.field T_field_26_3 rfl rfl) ?_; clear hf a; intro a hf; refine og (v:=.int .i64 c.n) hf rfl hb5 (RunV.load1 T_agg_3 rfl (hS.p 0 rfl) rfl) ?_; clear hf a; intro a hf; refine og (v:=.bool (decide (c.n=(0:Int)))) hf rfl hb5 (RunV.eql rfl rfl) ?_; clear hf a; intro a hf; refine ov (v:=.bool (((okD c.a)&&(okD c.b))&&(decide (c.n=(0:Int))))) hf rfl (RunV.pick rfl rfl rfl (by rw [hb5]; rfl)) ?_; clear hf a; intro a hf; exact O.nil ⟨rfl,hf.q rfl,hS⟩
    · have hb5p:=hb5
      try simp only [Bool.and_eq_true,Bool.or_eq_true,Bool.and_eq_false_iff,Bool.or_eq_false_iff,decide_eq_true_eq,decide_eq_false_iff_not,Bool.not_eq_true',Bool.not_eq_false',Bool.not_eq_true,Bool.not_eq_false,ne_eq] at hb5p
      refine sk hf rfl hb5 fun a hf=>sk hf rfl hb5 fun a hf=>sk hf rfl hb5 fun a hf=>?_; refine ov (v:=.bool (((okD c.a)&&(okD c.b))&&(decide (c.n=(0:Int))))) hf rfl (RunV.pick rfl rfl rfl (by rw [hb5]; rfl)) ?_; clear hf a; intro a hf; exact O.nil ⟨rfl,hf.q rfl,hS⟩
  clear hf hS a; rintro a w ⟨hf,hS⟩; refine mv hf rfl ?_; clear hf a; intro a hf; refine nk<|W.seq<|?_
  refine W.regionL (l:=[0]) rfl<|mv hf rfl<|?_; clear hf a; intro a hf; refine nk<|W.seq<|W.seq<|?_
  refine W.regionL (l:=[0,1]) rfl<|ov hf rfl (RunV.field T_field_26_0 rfl rfl)<|?_; clear hf a; intro a hf; refine ov hf rfl (RunV.load1 T_agg_5 rfl (hS.p 0 rfl) rfl) ?_; clear hf a; intro a hf; refine nk<|W.block<|W.seq<|?_
  refine W.regionL (l:=[0,1]) rfl<|ov (v:=.bool (decide (c.kind=(1:Int)))) hf rfl (RunV.eql rfl rfl)<|?_; clear hf a; intro a hf; refine mv hf rfl ?_; clear hf a; intro a hf; refine nk ?_; refine W.ifdI hf rfl (fun h1=>?_) (fun h1=>?_)
  ·
    refine W.regionL (l:=[0,1,2,3,4,5,6,7,8,9,10,11,12,13,14,15,16,17,18]) rfl<|mv hf rfl<|?_; clear hf a; intro a hf; refine mv hf rfl ?_; clear hf a; intro a hf
    refine O.cutN (l₁:=[2,3,4,5,6]) (l₂:=_) (fun a w=>Fr a 82 [] [(1,.pointer (some ⟨b_c1,0,none⟩)),(2,.int .i64 0),(3,.bool (okD c.a)),(4,.bool (((okD c.a)&&(okD c.b))&&(decide (c.n=(0:Int))))),(5,.bool false),(23,.int .u8 c.kind),(26,.bool (okD c.a)),(27,.bool (okD c.a)),(32,.bool ((okD c.a)&&(decide (c.a.num=(0:Int)))))]∧St w0 w noX [ordA] [pt b_c1 (.cells (aC c) 26 (0,0))]) rfl ?_ ?_
    · rcases Bool.eq_false_or_eq_true (okD c.a) with hb7 | hb7
      · have hb7p:=hb7
        try simp only [Bool.and_eq_true,Bool.or_eq_true,Bool.and_eq_false_iff,Bool.or_eq_false_iff,decide_eq_true_eq,decide_eq_false_iff_not,Bool.not_eq_true',Bool.not_eq_false',Bool.not_eq_true,Bool.not_eq_false,ne_eq] at hb7p
        refine og (v:=.pointer (some ⟨b_c1,1,none⟩)) hf rfl hb7 (RunV.field T_field_26_1 rfl rfl) ?_; clear hf a; intro a hf; refine og (v:=.pointer (some ⟨b_c1,1,none⟩)) hf rfl hb7 (RunV.field T_field_24_0 rfl rfl) ?_; clear hf a; intro a hf; refine og (v:=.int .i64 c.a.num) hf rfl hb7 (RunV.load1 T_agg_3 rfl (hS.p 0 rfl) rfl) ?_; clear hf a; intro a hf; refine og (v:=.bool (decide (c.a.num=(0:Int)))) hf rfl hb7 (RunV.eql rfl rfl) ?_; clear hf a; intro a hf; refine ov (v:=.bool ((okD c.a)&&(decide (c.a.num=(0:Int))))) hf rfl (RunV.pick rfl rfl rfl (by rw [hb7]; rfl)) ?_; clear hf a; intro a hf; exact O.nil ⟨rfl,hf.q rfl,hS⟩
      · have hb7p:=hb7
        try simp only [Bool.and_eq_true,Bool.or_eq_true,Bool.and_eq_false_iff,Bool.or_eq_false_iff,decide_eq_true_eq,decide_eq_false_iff_not,Bool.not_eq_true',Bool.not_eq_false',Bool.not_eq_true,Bool.not_eq_false,ne_eq] at hb7p
        refine sk hf rfl hb7 fun a hf=>sk hf rfl hb7 fun a hf=>sk hf rfl hb7 fun a hf=>sk hf rfl hb7 fun a hf=>?_; refine ov (v:=.bool ((okD c.a)&&(decide (c.a.num=(0:Int))))) hf rfl (RunV.pick rfl rfl rfl (by rw [hb7]; rfl)) ?_; clear hf a; intro a hf; exact O.nil ⟨rfl,hf.q rfl,hS⟩
    clear hf hS a; rintro a w ⟨hf,hS⟩; refine mv hf rfl ?_; clear hf a; intro a hf
    refine O.cutN (l₁:=[8,9,10,11,12]) (l₂:=_) (fun a w=>Fr a 82 [] [(1,.pointer (some ⟨b_c1,0,none⟩)),(2,.int .i64 0),(3,.bool (okD c.a)),(4,.bool (((okD c.a)&&(okD c.b))&&(decide (c.n=(0:Int))))),(5,.bool false),(23,.int .u8 c.kind),(26,.bool (okD c.a)),(27,.bool (okD c.a)),(32,.bool ((okD c.a)&&(decide (c.a.num=(0:Int))))),(33,.bool ((okD c.a)&&(decide (c.a.num=(0:Int))))),(38,.bool (((okD c.a)&&(decide (c.a.num=(0:Int))))&&(decide (c.b=default))))]∧St w0 w noX [ordA] [pt b_c1 (.cells (aC c) 26 (0,0))]) rfl ?_ ?_
    · rcases Bool.eq_false_or_eq_true ((okD c.a)&&(decide (c.a.num=(0:Int)))) with hb8 | hb8
      · have hb8p:=hb8
        try simp only [Bool.and_eq_true,Bool.or_eq_true,Bool.and_eq_false_iff,Bool.or_eq_false_iff,decide_eq_true_eq,decide_eq_false_iff_not,Bool.not_eq_true',Bool.not_eq_false',Bool.not_eq_true,Bool.not_eq_false,ne_eq] at hb8p
        refine og (v:=.pointer (some ⟨b_c1,6,none⟩)) hf rfl hb8 (RunV.field T_field_26_2 rfl rfl) ?_; clear hf a; intro a hf; refine og (v:=.agg (aD c.b)) hf rfl hb8 (RunV.loadN (cs':=(aD c.b)) T_agg_24 T_size_24 rfl (hS.p 0 rfl) (bl rfl) rfl) ?_; clear hf a; intro a hf; refine og (v:=.agg #[.int .i64 0,.int .i64 0,.int .u8 0,.int .u8 0,.int .i64 0]) hf rfl hb8 (RunV.buildS (cs':=#[.int .i64 0,.int .i64 0,.int .u8 0,.int .u8 0,.int .i64 0]) T_places_24 T_zero_24 rfl rfl) ?_; clear hf a; intro a hf; refine og (v:=.bool (decide (c.b=default))) hf rfl hb8 (eqD rfl c.b default eqGuard24 rfl rfl) ?_; clear hf a; intro a hf; refine ov (v:=.bool (((okD c.a)&&(decide (c.a.num=(0:Int))))&&(decide (c.b=default)))) hf rfl (RunV.pick rfl rfl rfl (by rw [hb8]; rfl)) ?_; clear hf a; intro a hf; exact O.nil ⟨rfl,hf.q rfl,hS⟩
      · have hb8p:=hb8
        try simp only [Bool.and_eq_true,Bool.or_eq_true,Bool.and_eq_false_iff,Bool.or_eq_false_iff,decide_eq_true_eq,decide_eq_false_iff_not,Bool.not_eq_true',Bool.not_eq_false',Bool.not_eq_true,Bool.not_eq_false,ne_eq] at hb8p
        refine sk hf rfl hb8 fun a hf=>sk hf rfl hb8 fun a hf=>sk hf rfl hb8 fun a hf=>sk hf rfl hb8 fun a hf=>?_; refine ov (v:=.bool (((okD c.a)&&(decide (c.a.num=(0:Int))))&&(decide (c.b=default)))) hf rfl (RunV.pick rfl rfl rfl (by rw [hb8]; rfl)) ?_; clear hf a; intro a hf; exact O.nil ⟨rfl,hf.q rfl,hS⟩
    clear hf hS a; rintro a w ⟨hf,hS⟩; refine mv hf rfl ?_; clear hf a; intro a hf
    refine O.cutN (l₁:=[14,15,16,17]) (l₂:=_) (fun a w=>Fr a 82 [] [(1,.pointer (some ⟨b_c1,0,none⟩)),(2,.int .i64 0),(3,.bool (okD c.a)),(4,.bool (((okD c.a)&&(okD c.b))&&(decide (c.n=(0:Int))))),(5,.bool false),(23,.int .u8 c.kind),(26,.bool (okD c.a)),(27,.bool (okD c.a)),(32,.bool ((okD c.a)&&(decide (c.a.num=(0:Int))))),(33,.bool ((okD c.a)&&(decide (c.a.num=(0:Int))))),(38,.bool (((okD c.a)&&(decide (c.a.num=(0:Int))))&&(decide (c.b=default)))),(39,.bool (((okD c.a)&&(decide (c.a.num=(0:Int))))&&(decide (c.b=default)))),(43,.bool ((((okD c.a)&&(decide (c.a.num=(0:Int))))&&(decide (c.b=default)))&&(decide (c.n=(0:Int)))))]∧St w0 w noX [ordA] [pt b_c1 (.cells (aC c) 26 (0,0))]) rfl ?_ ?_
    · rcases Bool.eq_false_or_eq_true (((okD c.a)&&(decide (c.a.num=(0:Int))))&&(decide (c.b=default))) with hb9 | hb9
      · have hb9p:=hb9
        try simp only [Bool.and_eq_true,Bool.or_eq_true,Bool.and_eq_false_iff,Bool.or_eq_false_iff,decide_eq_true_eq,decide_eq_false_iff_not,Bool.not_eq_true',Bool.not_eq_false',Bool.not_eq_true,Bool.not_eq_false,ne_eq] at hb9p
        refine og (v:=.pointer (some ⟨b_c1,11,none⟩)) hf rfl hb9 (RunV.field T_field_26_3 rfl rfl) ?_; clear hf a; intro a hf; refine og (v:=.int .i64 c.n) hf rfl hb9 (RunV.load1 T_agg_3 rfl (hS.p 0 rfl) rfl) ?_; clear hf a; intro a hf; refine og (v:=.bool (decide (c.n=(0:Int)))) hf rfl hb9 (RunV.eql rfl rfl) ?_; clear hf a; intro a hf; refine ov (v:=.bool ((((okD c.a)&&(decide (c.a.num=(0:Int))))&&(decide (c.b=default)))&&(decide (c.n=(0:Int))))) hf rfl (RunV.pick rfl rfl rfl (by rw [hb9]; rfl)) ?_; clear hf a; intro a hf; exact O.nil ⟨rfl,hf.q rfl,hS⟩
      · have hb9p:=hb9
        try simp only [Bool.and_eq_true,Bool.or_eq_true,Bool.and_eq_false_iff,Bool.or_eq_false_iff,decide_eq_true_eq,decide_eq_false_iff_not,Bool.not_eq_true',Bool.not_eq_false',Bool.not_eq_true,Bool.not_eq_false,ne_eq] at hb9p
        refine sk hf rfl hb9 fun a hf=>sk hf rfl hb9 fun a hf=>sk hf rfl hb9 fun a hf=>?_; refine ov (v:=.bool ((((okD c.a)&&(decide (c.a.num=(0:Int))))&&(decide (c.b=default)))&&(decide (c.n=(0:Int))))) hf rfl (RunV.pick rfl rfl rfl (by rw [hb9]; rfl)) ?_; clear hf a; intro a hf; exact O.nil ⟨rfl,hf.q rfl,hS⟩
    clear hf hS a; rintro a w ⟨hf,hS⟩; refine mv hf rfl ?_; clear hf a; intro a hf; refine O.nil<|k_blk_normal<|k_seq<|W.seq<|W.seq<|?_
    refine W.regionL (l:=[0,1]) rfl<|mv hf rfl<|?_; clear hf a; intro a hf; refine ov (v:=.bool (!((((okD c.a)&&(decide (c.a.num=(0:Int))))&&(decide (c.b=default)))&&(decide (c.n=(0:Int)))))) hf rfl (RunV.not rfl) ?_; clear hf a; intro a hf; refine nk ?_; refine W.if_ hf rfl (fun hok=>?_) (fun hok=>?_)
    · have hokb:=hok
      try simp only [Bool.and_eq_true,Bool.or_eq_true,Bool.and_eq_false_iff,Bool.or_eq_false_iff,decide_eq_true_eq,decide_eq_false_iff_not,Bool.not_eq_true',Bool.not_eq_false',Bool.not_eq_true,Bool.not_eq_false,ne_eq] at hok
      refine W.seq ?_
      refine W.regionL (l:=[0]) rfl<|mv hf rfl<|?_; clear hf a; intro a hf; refine nk<|W.ret<|k_then_ret<|post1 hf rfl (ResOK.tmp rfl)<|?_
      first
        | exact ⟨(),by rw [show okC c=false from by unfold okC; rw [if_pos h1]; first | exact (Bool.not_eq_true' _).mp hokb | exact (Bool.not_eq_false' _).mp hokb]; rfl,hS.sub (List.nil_sublist _) |>.noB⟩
        | exact ⟨(),by rw [show okC c=false from by unfold okC; rw [if_neg h1,if_pos h2]; first | exact (Bool.not_eq_true' _).mp hokb | exact (Bool.not_eq_false' _).mp hokb]; rfl,hS.sub (List.nil_sublist _) |>.noB⟩
        | exact ⟨(),by rw [show okC c=false from by unfold okC; rw [if_neg h1,if_neg h2,if_pos h3]; first | exact (Bool.not_eq_true' _).mp hokb | exact (Bool.not_eq_false' _).mp hokb]; rfl,hS.sub (List.nil_sublist _) |>.noB⟩
        | exact ⟨(),by rw [show okC c=false from by unfold okC; rw [if_neg h1,if_neg h2,if_neg h3,if_pos h4]; first | exact (Bool.not_eq_true' _).mp hokb | exact (Bool.not_eq_false' _).mp hokb]; rfl,hS.sub (List.nil_sublist _) |>.noB⟩
        | exact ⟨(),by rw [show okC c=false from by unfold okC; rw [if_neg h1,if_neg h2,if_neg h3,if_neg h4]]; rfl,hS.sub (List.nil_sublist _) |>.noB⟩
    · have hokb:=hok
      try simp only [Bool.and_eq_true,Bool.or_eq_true,Bool.and_eq_false_iff,Bool.or_eq_false_iff,decide_eq_true_eq,decide_eq_false_iff_not,Bool.not_eq_true',Bool.not_eq_false',Bool.not_eq_true,Bool.not_eq_false,ne_eq] at hok
      refine W.skip<|k_seq<|W.seq<|?_
      refine W.regionL (l:=[0]) rfl<|mv hf rfl<|?_; clear hf a; intro a hf; refine nk<|W.ret<|post1 hf rfl (ResOK.tmp rfl)<|?_
      first
        | exact ⟨(),by rw [show okC c=true from by unfold okC; rw [if_pos h1]; first | exact (Bool.not_eq_true' _).mp hokb | exact (Bool.not_eq_false' _).mp hokb]; rfl,hS.sub (List.nil_sublist _) |>.noB⟩
        | exact ⟨(),by rw [show okC c=true from by unfold okC; rw [if_neg h1,if_pos h2]; first | exact (Bool.not_eq_true' _).mp hokb | exact (Bool.not_eq_false' _).mp hokb]; rfl,hS.sub (List.nil_sublist _) |>.noB⟩
        | exact ⟨(),by rw [show okC c=true from by unfold okC; rw [if_neg h1,if_neg h2,if_pos h3]; first | exact (Bool.not_eq_true' _).mp hokb | exact (Bool.not_eq_false' _).mp hokb]; rfl,hS.sub (List.nil_sublist _) |>.noB⟩
        | exact ⟨(),by rw [show okC c=true from by unfold okC; rw [if_neg h1,if_neg h2,if_neg h3,if_pos h4]; first | exact (Bool.not_eq_true' _).mp hokb | exact (Bool.not_eq_false' _).mp hokb]; rfl,hS.sub (List.nil_sublist _) |>.noB⟩
        | exact ⟨(),by rw [show okC c=true from by unfold okC; rw [if_neg h1,if_neg h2,if_neg h3,if_neg h4]]; rfl,hS.sub (List.nil_sublist _) |>.noB⟩
  · refine W.seq ?_
    refine W.regionL (l:=[0,1]) rfl<|ov (v:=.bool (decide (c.kind=(2:Int)))) hf rfl (RunV.eql rfl rfl)<|?_; clear hf a; intro a hf; refine mv hf rfl ?_; clear hf a; intro a hf; refine nk ?_; refine W.ifdI hf rfl (fun h2=>?_) (fun h2=>?_)
    ·
      refine W.regionL (l:=[0,1,2,3,4,5,6,7,8]) rfl<|mv hf rfl<|?_; clear hf a; intro a hf; refine mv hf rfl ?_; clear hf a; intro a hf
      refine O.cutN (l₁:=[2,3,4,5,6,7]) (l₂:=_) (fun a w=>Fr a 82 [] [(1,.pointer (some ⟨b_c1,0,none⟩)),(2,.int .i64 0),(4,.bool (((okD c.a)&&(okD c.b))&&(decide (c.n=(0:Int))))),(5,.bool false),(23,.int .u8 c.kind),(46,.bool (((okD c.a)&&(okD c.b))&&(decide (c.n=(0:Int))))),(47,.bool (((okD c.a)&&(okD c.b))&&(decide (c.n=(0:Int))))),(53,.bool ((((okD c.a)&&(okD c.b))&&(decide (c.n=(0:Int))))&&(!decide (c.a=c.b))))]∧St w0 w noX [ordA] [pt b_c1 (.cells (aC c) 26 (0,0))]) rfl ?_ ?_
      · rcases Bool.eq_false_or_eq_true (((okD c.a)&&(okD c.b))&&(decide (c.n=(0:Int)))) with hb12 | hb12
        · have hb12p:=hb12
          try simp only [Bool.and_eq_true,Bool.or_eq_true,Bool.and_eq_false_iff,Bool.or_eq_false_iff,decide_eq_true_eq,decide_eq_false_iff_not,Bool.not_eq_true',Bool.not_eq_false',Bool.not_eq_true,Bool.not_eq_false,ne_eq] at hb12p
          refine og (v:=.pointer (some ⟨b_c1,1,none⟩)) hf rfl hb12 (RunV.field T_field_26_1 rfl rfl) ?_; clear hf a; intro a hf; refine og (v:=.agg (aD c.a)) hf rfl hb12 (RunV.loadN (cs':=(aD c.a)) T_agg_24 T_size_24 rfl (hS.p 0 rfl) (bl rfl) rfl) ?_; clear hf a; intro a hf; refine og (v:=.pointer (some ⟨b_c1,6,none⟩)) hf rfl hb12 (RunV.field T_field_26_2 rfl rfl) ?_; clear hf a; intro a hf; refine og (v:=.agg (aD c.b)) hf rfl hb12 (RunV.loadN (cs':=(aD c.b)) T_agg_24 T_size_24 rfl (hS.p 0 rfl) (bl rfl) rfl) ?_; clear hf a; intro a hf; refine og (v:=.bool (!decide (c.a=c.b))) hf rfl hb12 (neD rfl c.a c.b eqGuard24 rfl rfl) ?_; clear hf a; intro a hf; refine ov (v:=.bool ((((okD c.a)&&(okD c.b))&&(decide (c.n=(0:Int))))&&(!decide (c.a=c.b)))) hf rfl (RunV.pick rfl rfl rfl (by rw [hb12]; rfl)) ?_; clear hf a; intro a hf; exact O.nil ⟨rfl,hf.q rfl,hS⟩
        · have hb12p:=hb12
          try simp only [Bool.and_eq_true,Bool.or_eq_true,Bool.and_eq_false_iff,Bool.or_eq_false_iff,decide_eq_true_eq,decide_eq_false_iff_not,Bool.not_eq_true',Bool.not_eq_false',Bool.not_eq_true,Bool.not_eq_false,ne_eq] at hb12p
          refine sk hf rfl hb12 fun a hf=>sk hf rfl hb12 fun a hf=>sk hf rfl hb12 fun a hf=>sk hf rfl hb12 fun a hf=>sk hf rfl hb12 fun a hf=>?_; refine ov (v:=.bool ((((okD c.a)&&(okD c.b))&&(decide (c.n=(0:Int))))&&(!decide (c.a=c.b)))) hf rfl (RunV.pick rfl rfl rfl (by rw [hb12]; rfl)) ?_; clear hf a; intro a hf; exact O.nil ⟨rfl,hf.q rfl,hS⟩
      clear hf hS a; rintro a w ⟨hf,hS⟩; refine mv hf rfl ?_; clear hf a; intro a hf; refine O.nil<|k_blk_normal<|k_seq<|W.seq<|W.seq<|?_
      refine W.regionL (l:=[0,1]) rfl<|mv hf rfl<|?_; clear hf a; intro a hf; refine ov (v:=.bool (!((((okD c.a)&&(okD c.b))&&(decide (c.n=(0:Int))))&&(!decide (c.a=c.b))))) hf rfl (RunV.not rfl) ?_; clear hf a; intro a hf; refine nk ?_; refine W.if_ hf rfl (fun hok=>?_) (fun hok=>?_)
      · have hokb:=hok
        try simp only [Bool.and_eq_true,Bool.or_eq_true,Bool.and_eq_false_iff,Bool.or_eq_false_iff,decide_eq_true_eq,decide_eq_false_iff_not,Bool.not_eq_true',Bool.not_eq_false',Bool.not_eq_true,Bool.not_eq_false,ne_eq] at hok
        refine W.seq ?_
        refine W.regionL (l:=[0]) rfl<|mv hf rfl<|?_; clear hf a; intro a hf; refine nk<|W.ret<|k_then_ret<|post1 hf rfl (ResOK.tmp rfl)<|?_
        first
          | exact ⟨(),by rw [show okC c=false from by unfold okC; rw [if_pos h1]; first | exact (Bool.not_eq_true' _).mp hokb | exact (Bool.not_eq_false' _).mp hokb]; rfl,hS.sub (List.nil_sublist _) |>.noB⟩
          | exact ⟨(),by rw [show okC c=false from by unfold okC; rw [if_neg h1,if_pos h2]; first | exact (Bool.not_eq_true' _).mp hokb | exact (Bool.not_eq_false' _).mp hokb]; rfl,hS.sub (List.nil_sublist _) |>.noB⟩
          | exact ⟨(),by rw [show okC c=false from by unfold okC; rw [if_neg h1,if_neg h2,if_pos h3]; first | exact (Bool.not_eq_true' _).mp hokb | exact (Bool.not_eq_false' _).mp hokb]; rfl,hS.sub (List.nil_sublist _) |>.noB⟩
          | exact ⟨(),by rw [show okC c=false from by unfold okC; rw [if_neg h1,if_neg h2,if_neg h3,if_pos h4]; first | exact (Bool.not_eq_true' _).mp hokb | exact (Bool.not_eq_false' _).mp hokb]; rfl,hS.sub (List.nil_sublist _) |>.noB⟩
          | exact ⟨(),by rw [show okC c=false from by unfold okC; rw [if_neg h1,if_neg h2,if_neg h3,if_neg h4]]; rfl,hS.sub (List.nil_sublist _) |>.noB⟩
      · have hokb:=hok
        try simp only [Bool.and_eq_true,Bool.or_eq_true,Bool.and_eq_false_iff,Bool.or_eq_false_iff,decide_eq_true_eq,decide_eq_false_iff_not,Bool.not_eq_true',Bool.not_eq_false',Bool.not_eq_true,Bool.not_eq_false,ne_eq] at hok
        refine W.skip<|k_seq<|W.seq<|?_
        refine W.regionL (l:=[0]) rfl<|mv hf rfl<|?_; clear hf a; intro a hf; refine nk<|W.ret<|post1 hf rfl (ResOK.tmp rfl)<|?_
        first
          | exact ⟨(),by rw [show okC c=true from by unfold okC; rw [if_pos h1]; first | exact (Bool.not_eq_true' _).mp hokb | exact (Bool.not_eq_false' _).mp hokb]; rfl,hS.sub (List.nil_sublist _) |>.noB⟩
          | exact ⟨(),by rw [show okC c=true from by unfold okC; rw [if_neg h1,if_pos h2]; first | exact (Bool.not_eq_true' _).mp hokb | exact (Bool.not_eq_false' _).mp hokb]; rfl,hS.sub (List.nil_sublist _) |>.noB⟩
          | exact ⟨(),by rw [show okC c=true from by unfold okC; rw [if_neg h1,if_neg h2,if_pos h3]; first | exact (Bool.not_eq_true' _).mp hokb | exact (Bool.not_eq_false' _).mp hokb]; rfl,hS.sub (List.nil_sublist _) |>.noB⟩
          | exact ⟨(),by rw [show okC c=true from by unfold okC; rw [if_neg h1,if_neg h2,if_neg h3,if_pos h4]; first | exact (Bool.not_eq_true' _).mp hokb | exact (Bool.not_eq_false' _).mp hokb]; rfl,hS.sub (List.nil_sublist _) |>.noB⟩
          | exact ⟨(),by rw [show okC c=true from by unfold okC; rw [if_neg h1,if_neg h2,if_neg h3,if_neg h4]]; rfl,hS.sub (List.nil_sublist _) |>.noB⟩
    · refine W.seq ?_
      refine W.regionL (l:=[0,1]) rfl<|ov (v:=.bool (decide (c.kind=(3:Int)))) hf rfl (RunV.eql rfl rfl)<|?_; clear hf a; intro a hf; refine mv hf rfl ?_; clear hf a; intro a hf; refine nk ?_; refine W.ifdI hf rfl (fun h3=>?_) (fun h3=>?_)
      ·
        refine W.regionL (l:=[0,1,2,3,4,5,6,7]) rfl<|mv hf rfl<|?_; clear hf a; intro a hf; refine mv hf rfl ?_; clear hf a; intro a hf
        refine O.cutN (l₁:=[2,3,4,5,6]) (l₂:=_) (fun a w=>Fr a 82 [] [(1,.pointer (some ⟨b_c1,0,none⟩)),(2,.int .i64 0),(4,.bool (((okD c.a)&&(okD c.b))&&(decide (c.n=(0:Int))))),(5,.bool false),(23,.int .u8 c.kind),(56,.bool (((okD c.a)&&(okD c.b))&&(decide (c.n=(0:Int))))),(57,.bool (((okD c.a)&&(okD c.b))&&(decide (c.n=(0:Int))))),(62,.bool ((((okD c.a)&&(okD c.b))&&(decide (c.n=(0:Int))))&&(decide (c.b.num>(0:Int)))))]∧St w0 w noX [ordA] [pt b_c1 (.cells (aC c) 26 (0,0))]) rfl ?_ ?_
        · rcases Bool.eq_false_or_eq_true (((okD c.a)&&(okD c.b))&&(decide (c.n=(0:Int)))) with hb15 | hb15
          · have hb15p:=hb15
            try simp only [Bool.and_eq_true,Bool.or_eq_true,Bool.and_eq_false_iff,Bool.or_eq_false_iff,decide_eq_true_eq,decide_eq_false_iff_not,Bool.not_eq_true',Bool.not_eq_false',Bool.not_eq_true,Bool.not_eq_false,ne_eq] at hb15p
            refine og (v:=.pointer (some ⟨b_c1,6,none⟩)) hf rfl hb15 (RunV.field T_field_26_2 rfl rfl) ?_; clear hf a; intro a hf; refine og (v:=.pointer (some ⟨b_c1,6,none⟩)) hf rfl hb15 (RunV.field T_field_24_0 rfl rfl) ?_; clear hf a; intro a hf; refine og (v:=.int .i64 c.b.num) hf rfl hb15 (RunV.load1 T_agg_3 rfl (hS.p 0 rfl) rfl) ?_; clear hf a; intro a hf; refine og (v:=.bool (decide (c.b.num>(0:Int)))) hf rfl hb15 (RunV.gtr rfl rfl) ?_; clear hf a; intro a hf; refine ov (v:=.bool ((((okD c.a)&&(okD c.b))&&(decide (c.n=(0:Int))))&&(decide (c.b.num>(0:Int))))) hf rfl (RunV.pick rfl rfl rfl (by rw [hb15]; rfl)) ?_; clear hf a; intro a hf; exact O.nil ⟨rfl,hf.q rfl,hS⟩
          · have hb15p:=hb15
            try simp only [Bool.and_eq_true,Bool.or_eq_true,Bool.and_eq_false_iff,Bool.or_eq_false_iff,decide_eq_true_eq,decide_eq_false_iff_not,Bool.not_eq_true',Bool.not_eq_false',Bool.not_eq_true,Bool.not_eq_false,ne_eq] at hb15p
            refine sk hf rfl hb15 fun a hf=>sk hf rfl hb15 fun a hf=>sk hf rfl hb15 fun a hf=>sk hf rfl hb15 fun a hf=>?_; refine ov (v:=.bool ((((okD c.a)&&(okD c.b))&&(decide (c.n=(0:Int))))&&(decide (c.b.num>(0:Int))))) hf rfl (RunV.pick rfl rfl rfl (by rw [hb15]; rfl)) ?_; clear hf a; intro a hf; exact O.nil ⟨rfl,hf.q rfl,hS⟩
        clear hf hS a; rintro a w ⟨hf,hS⟩; refine mv hf rfl ?_; clear hf a; intro a hf; refine O.nil<|k_blk_normal<|k_seq<|W.seq<|W.seq<|?_
        refine W.regionL (l:=[0,1]) rfl<|mv hf rfl<|?_; clear hf a; intro a hf; refine ov (v:=.bool (!((((okD c.a)&&(okD c.b))&&(decide (c.n=(0:Int))))&&(decide (c.b.num>(0:Int)))))) hf rfl (RunV.not rfl) ?_; clear hf a; intro a hf; refine nk ?_; refine W.if_ hf rfl (fun hok=>?_) (fun hok=>?_)
        · have hokb:=hok
          try simp only [Bool.and_eq_true,Bool.or_eq_true,Bool.and_eq_false_iff,Bool.or_eq_false_iff,decide_eq_true_eq,decide_eq_false_iff_not,Bool.not_eq_true',Bool.not_eq_false',Bool.not_eq_true,Bool.not_eq_false,ne_eq] at hok
          refine W.seq ?_
          refine W.regionL (l:=[0]) rfl<|mv hf rfl<|?_; clear hf a; intro a hf; refine nk<|W.ret<|k_then_ret<|post1 hf rfl (ResOK.tmp rfl)<|?_
          first
            | exact ⟨(),by rw [show okC c=false from by unfold okC; rw [if_pos h1]; first | exact (Bool.not_eq_true' _).mp hokb | exact (Bool.not_eq_false' _).mp hokb]; rfl,hS.sub (List.nil_sublist _) |>.noB⟩
            | exact ⟨(),by rw [show okC c=false from by unfold okC; rw [if_neg h1,if_pos h2]; first | exact (Bool.not_eq_true' _).mp hokb | exact (Bool.not_eq_false' _).mp hokb]; rfl,hS.sub (List.nil_sublist _) |>.noB⟩
            | exact ⟨(),by rw [show okC c=false from by unfold okC; rw [if_neg h1,if_neg h2,if_pos h3]; first | exact (Bool.not_eq_true' _).mp hokb | exact (Bool.not_eq_false' _).mp hokb]; rfl,hS.sub (List.nil_sublist _) |>.noB⟩
            | exact ⟨(),by rw [show okC c=false from by unfold okC; rw [if_neg h1,if_neg h2,if_neg h3,if_pos h4]; first | exact (Bool.not_eq_true' _).mp hokb | exact (Bool.not_eq_false' _).mp hokb]; rfl,hS.sub (List.nil_sublist _) |>.noB⟩
            | exact ⟨(),by rw [show okC c=false from by unfold okC; rw [if_neg h1,if_neg h2,if_neg h3,if_neg h4]]; rfl,hS.sub (List.nil_sublist _) |>.noB⟩
        · have hokb:=hok
          try simp only [Bool.and_eq_true,Bool.or_eq_true,Bool.and_eq_false_iff,Bool.or_eq_false_iff,decide_eq_true_eq,decide_eq_false_iff_not,Bool.not_eq_true',Bool.not_eq_false',Bool.not_eq_true,Bool.not_eq_false,ne_eq] at hok
          refine W.skip<|k_seq<|W.seq<|?_
          refine W.regionL (l:=[0]) rfl<|mv hf rfl<|?_; clear hf a; intro a hf; refine nk<|W.ret<|post1 hf rfl (ResOK.tmp rfl)<|?_
          first
            | exact ⟨(),by rw [show okC c=true from by unfold okC; rw [if_pos h1]; first | exact (Bool.not_eq_true' _).mp hokb | exact (Bool.not_eq_false' _).mp hokb]; rfl,hS.sub (List.nil_sublist _) |>.noB⟩
            | exact ⟨(),by rw [show okC c=true from by unfold okC; rw [if_neg h1,if_pos h2]; first | exact (Bool.not_eq_true' _).mp hokb | exact (Bool.not_eq_false' _).mp hokb]; rfl,hS.sub (List.nil_sublist _) |>.noB⟩
            | exact ⟨(),by rw [show okC c=true from by unfold okC; rw [if_neg h1,if_neg h2,if_pos h3]; first | exact (Bool.not_eq_true' _).mp hokb | exact (Bool.not_eq_false' _).mp hokb]; rfl,hS.sub (List.nil_sublist _) |>.noB⟩
            | exact ⟨(),by rw [show okC c=true from by unfold okC; rw [if_neg h1,if_neg h2,if_neg h3,if_pos h4]; first | exact (Bool.not_eq_true' _).mp hokb | exact (Bool.not_eq_false' _).mp hokb]; rfl,hS.sub (List.nil_sublist _) |>.noB⟩
            | exact ⟨(),by rw [show okC c=true from by unfold okC; rw [if_neg h1,if_neg h2,if_neg h3,if_neg h4]]; rfl,hS.sub (List.nil_sublist _) |>.noB⟩
      · refine W.seq ?_
        refine W.regionL (l:=[0,1]) rfl<|ov (v:=.bool (decide (c.kind=(4:Int)))) hf rfl (RunV.eql rfl rfl)<|?_; clear hf a; intro a hf; refine mv hf rfl ?_; clear hf a; intro a hf; refine nk ?_; refine W.ifdI hf rfl (fun h4=>?_) (fun h4=>?_)
        ·
          refine W.regionL (l:=[0,1,2,3,4,5,6,7,8,9,10,11,12,13,14,15]) rfl<|ov hf rfl (RunV.field T_field_26_1 rfl rfl)<|?_; clear hf a; intro a hf; refine ov hf rfl (RunV.loadN (cs':=(aD c.a)) T_agg_24 T_size_24 rfl (hS.p 0 rfl) (bl rfl) rfl) ?_; clear hf a; intro a hf; refine ov hf rfl (RunV.buildS (cs':=#[.int .i64 0,.int .i64 0,.int .u8 0,.int .u8 0,.int .i64 0]) T_places_24 T_zero_24 rfl rfl) ?_; clear hf a; intro a hf; refine ov hf rfl (eqD rfl c.a default eqGuard24 rfl rfl) ?_; clear hf a; intro a hf; refine mv hf rfl ?_; clear hf a; intro a hf
          refine O.cutN (l₁:=[5,6,7,8,9]) (l₂:=_) (fun a w=>Fr a 82 [] [(1,.pointer (some ⟨b_c1,0,none⟩)),(2,.int .i64 0),(5,.bool false),(65,.pointer (some ⟨b_c1,1,none⟩)),(66,.agg (aD c.a)),(67,.agg #[.int .i64 0,.int .i64 0,.int .u8 0,.int .u8 0,.int .i64 0]),(68,.bool (decide (c.a=default))),(69,.bool (decide (c.a=default))),(74,.bool ((decide (c.a=default))&&(decide (c.b=default))))]∧St w0 w noX [ordA] [pt b_c1 (.cells (aC c) 26 (0,0))]) rfl ?_ ?_
          · rcases Bool.eq_false_or_eq_true (decide (c.a=default)) with hb18 | hb18
            · have hb18p:=of_decide_eq_true hb18
              refine og (v:=.pointer (some ⟨b_c1,6,none⟩)) hf rfl hb18 (RunV.field T_field_26_2 rfl rfl) ?_; clear hf a; intro a hf; refine og (v:=.agg (aD c.b)) hf rfl hb18 (RunV.loadN (cs':=(aD c.b)) T_agg_24 T_size_24 rfl (hS.p 0 rfl) (bl rfl) rfl) ?_; clear hf a; intro a hf; refine og (v:=.agg #[.int .i64 0,.int .i64 0,.int .u8 0,.int .u8 0,.int .i64 0]) hf rfl hb18 (RunV.buildS (cs':=#[.int .i64 0,.int .i64 0,.int .u8 0,.int .u8 0,.int .i64 0]) T_places_24 T_zero_24 rfl rfl) ?_; clear hf a; intro a hf; refine og (v:=.bool (decide (c.b=default))) hf rfl hb18 (eqD rfl c.b default eqGuard24 rfl rfl) ?_; clear hf a; intro a hf; refine ov (v:=.bool ((decide (c.a=default))&&(decide (c.b=default)))) hf rfl (RunV.pick rfl rfl rfl (by rw [hb18]; rfl)) ?_; clear hf a; intro a hf; exact O.nil ⟨rfl,hf.q rfl,hS⟩
            · have hb18p:=of_decide_eq_false hb18
              refine sk hf rfl hb18 fun a hf=>sk hf rfl hb18 fun a hf=>sk hf rfl hb18 fun a hf=>sk hf rfl hb18 fun a hf=>?_; refine ov (v:=.bool ((decide (c.a=default))&&(decide (c.b=default)))) hf rfl (RunV.pick rfl rfl rfl (by rw [hb18]; rfl)) ?_; clear hf a; intro a hf; exact O.nil ⟨rfl,hf.q rfl,hS⟩
          clear hf hS a; rintro a w ⟨hf,hS⟩; refine mv hf rfl ?_; clear hf a; intro a hf
          refine O.cutN (l₁:=[11,12,13,14]) (l₂:=_) (fun a w=>Fr a 82 [] [(1,.pointer (some ⟨b_c1,0,none⟩)),(2,.int .i64 0),(5,.bool false),(65,.pointer (some ⟨b_c1,1,none⟩)),(66,.agg (aD c.a)),(67,.agg #[.int .i64 0,.int .i64 0,.int .u8 0,.int .u8 0,.int .i64 0]),(68,.bool (decide (c.a=default))),(69,.bool (decide (c.a=default))),(74,.bool ((decide (c.a=default))&&(decide (c.b=default)))),(75,.bool ((decide (c.a=default))&&(decide (c.b=default)))),(79,.bool (((decide (c.a=default))&&(decide (c.b=default)))&&(decide (c.n≥(0:Int)))))]∧St w0 w noX [ordA] [pt b_c1 (.cells (aC c) 26 (0,0))]) rfl ?_ ?_
          · rcases Bool.eq_false_or_eq_true ((decide (c.a=default))&&(decide (c.b=default))) with hb19 | hb19
            · have hb19p:=hb19
              try simp only [Bool.and_eq_true,Bool.or_eq_true,Bool.and_eq_false_iff,Bool.or_eq_false_iff,decide_eq_true_eq,decide_eq_false_iff_not,Bool.not_eq_true',Bool.not_eq_false',Bool.not_eq_true,Bool.not_eq_false,ne_eq] at hb19p
              refine og (v:=.pointer (some ⟨b_c1,11,none⟩)) hf rfl hb19 (RunV.field T_field_26_3 rfl rfl) ?_; clear hf a; intro a hf; refine og (v:=.int .i64 c.n) hf rfl hb19 (RunV.load1 T_agg_3 rfl (hS.p 0 rfl) rfl) ?_; clear hf a; intro a hf; refine og (v:=.bool (decide (c.n≥(0:Int)))) hf rfl hb19 (RunV.geq rfl rfl) ?_; clear hf a; intro a hf; refine ov (v:=.bool (((decide (c.a=default))&&(decide (c.b=default)))&&(decide (c.n≥(0:Int))))) hf rfl (RunV.pick rfl rfl rfl (by rw [hb19]; rfl)) ?_; clear hf a; intro a hf; exact O.nil ⟨rfl,hf.q rfl,hS⟩
            · have hb19p:=hb19
              try simp only [Bool.and_eq_true,Bool.or_eq_true,Bool.and_eq_false_iff,Bool.or_eq_false_iff,decide_eq_true_eq,decide_eq_false_iff_not,Bool.not_eq_true',Bool.not_eq_false',Bool.not_eq_true,Bool.not_eq_false,ne_eq] at hb19p
              refine sk hf rfl hb19 fun a hf=>sk hf rfl hb19 fun a hf=>sk hf rfl hb19 fun a hf=>?_; refine ov (v:=.bool (((decide (c.a=default))&&(decide (c.b=default)))&&(decide (c.n≥(0:Int))))) hf rfl (RunV.pick rfl rfl rfl (by rw [hb19]; rfl)) ?_; clear hf a; intro a hf; exact O.nil ⟨rfl,hf.q rfl,hS⟩
          clear hf hS a; rintro a w ⟨hf,hS⟩; refine mv hf rfl ?_; clear hf a; intro a hf; refine O.nil<|k_blk_normal<|k_seq<|W.seq<|W.seq<|?_
          refine W.regionL (l:=[0,1]) rfl<|mv hf rfl<|?_; clear hf a; intro a hf; refine ov (v:=.bool (!(((decide (c.a=default))&&(decide (c.b=default)))&&(decide (c.n≥(0:Int)))))) hf rfl (RunV.not rfl) ?_; clear hf a; intro a hf; refine nk ?_; refine W.if_ hf rfl (fun hok=>?_) (fun hok=>?_)
          · have hokb:=hok
            try simp only [Bool.and_eq_true,Bool.or_eq_true,Bool.and_eq_false_iff,Bool.or_eq_false_iff,decide_eq_true_eq,decide_eq_false_iff_not,Bool.not_eq_true',Bool.not_eq_false',Bool.not_eq_true,Bool.not_eq_false,ne_eq] at hok
            refine W.seq ?_
            refine W.regionL (l:=[0]) rfl<|mv hf rfl<|?_; clear hf a; intro a hf; refine nk<|W.ret<|k_then_ret<|post1 hf rfl (ResOK.tmp rfl)<|?_
            first
              | exact ⟨(),by rw [show okC c=false from by unfold okC; rw [if_pos h1]; first | exact (Bool.not_eq_true' _).mp hokb | exact (Bool.not_eq_false' _).mp hokb]; rfl,hS.sub (List.nil_sublist _) |>.noB⟩
              | exact ⟨(),by rw [show okC c=false from by unfold okC; rw [if_neg h1,if_pos h2]; first | exact (Bool.not_eq_true' _).mp hokb | exact (Bool.not_eq_false' _).mp hokb]; rfl,hS.sub (List.nil_sublist _) |>.noB⟩
              | exact ⟨(),by rw [show okC c=false from by unfold okC; rw [if_neg h1,if_neg h2,if_pos h3]; first | exact (Bool.not_eq_true' _).mp hokb | exact (Bool.not_eq_false' _).mp hokb]; rfl,hS.sub (List.nil_sublist _) |>.noB⟩
              | exact ⟨(),by rw [show okC c=false from by unfold okC; rw [if_neg h1,if_neg h2,if_neg h3,if_pos h4]; first | exact (Bool.not_eq_true' _).mp hokb | exact (Bool.not_eq_false' _).mp hokb]; rfl,hS.sub (List.nil_sublist _) |>.noB⟩
              | exact ⟨(),by rw [show okC c=false from by unfold okC; rw [if_neg h1,if_neg h2,if_neg h3,if_neg h4]]; rfl,hS.sub (List.nil_sublist _) |>.noB⟩
          · have hokb:=hok
            try simp only [Bool.and_eq_true,Bool.or_eq_true,Bool.and_eq_false_iff,Bool.or_eq_false_iff,decide_eq_true_eq,decide_eq_false_iff_not,Bool.not_eq_true',Bool.not_eq_false',Bool.not_eq_true,Bool.not_eq_false,ne_eq] at hok
            refine W.skip<|k_seq<|W.seq<|?_
            refine W.regionL (l:=[0]) rfl<|mv hf rfl<|?_; clear hf a; intro a hf; refine nk<|W.ret<|post1 hf rfl (ResOK.tmp rfl)<|?_
            first
              | exact ⟨(),by rw [show okC c=true from by unfold okC; rw [if_pos h1]; first | exact (Bool.not_eq_true' _).mp hokb | exact (Bool.not_eq_false' _).mp hokb]; rfl,hS.sub (List.nil_sublist _) |>.noB⟩
              | exact ⟨(),by rw [show okC c=true from by unfold okC; rw [if_neg h1,if_pos h2]; first | exact (Bool.not_eq_true' _).mp hokb | exact (Bool.not_eq_false' _).mp hokb]; rfl,hS.sub (List.nil_sublist _) |>.noB⟩
              | exact ⟨(),by rw [show okC c=true from by unfold okC; rw [if_neg h1,if_neg h2,if_pos h3]; first | exact (Bool.not_eq_true' _).mp hokb | exact (Bool.not_eq_false' _).mp hokb]; rfl,hS.sub (List.nil_sublist _) |>.noB⟩
              | exact ⟨(),by rw [show okC c=true from by unfold okC; rw [if_neg h1,if_neg h2,if_neg h3,if_pos h4]; first | exact (Bool.not_eq_true' _).mp hokb | exact (Bool.not_eq_false' _).mp hokb]; rfl,hS.sub (List.nil_sublist _) |>.noB⟩
              | exact ⟨(),by rw [show okC c=true from by unfold okC; rw [if_neg h1,if_neg h2,if_neg h3,if_neg h4]]; rfl,hS.sub (List.nil_sublist _) |>.noB⟩
        · refine W.skip ?_
          refine k_blk_normal<|k_seq<|W.seq<|W.seq<|?_
          refine W.regionL (l:=[0,1]) rfl<|mv hf rfl<|?_; clear hf a; intro a hf; refine ov (v:=.bool true) hf rfl (RunV.not (b:=false) rfl) ?_; clear hf a; intro a hf; refine nk<|W.if_tt hf rfl<|W.seq<|?_
          refine W.regionL (l:=[0]) rfl<|mv hf rfl<|?_; clear hf a; intro a hf; refine nk<|W.ret<|k_then_ret<|post1 hf rfl (ResOK.tmp rfl)<|?_
          first
            | exact ⟨(),by rw [show okC c=false from by unfold okC; rw [if_pos h1]; first | exact (Bool.not_eq_true' _).mp hokb | exact (Bool.not_eq_false' _).mp hokb]; rfl,hS.sub (List.nil_sublist _) |>.noB⟩
            | exact ⟨(),by rw [show okC c=false from by unfold okC; rw [if_neg h1,if_pos h2]; first | exact (Bool.not_eq_true' _).mp hokb | exact (Bool.not_eq_false' _).mp hokb]; rfl,hS.sub (List.nil_sublist _) |>.noB⟩
            | exact ⟨(),by rw [show okC c=false from by unfold okC; rw [if_neg h1,if_neg h2,if_pos h3]; first | exact (Bool.not_eq_true' _).mp hokb | exact (Bool.not_eq_false' _).mp hokb]; rfl,hS.sub (List.nil_sublist _) |>.noB⟩
            | exact ⟨(),by rw [show okC c=false from by unfold okC; rw [if_neg h1,if_neg h2,if_neg h3,if_pos h4]; first | exact (Bool.not_eq_true' _).mp hokb | exact (Bool.not_eq_false' _).mp hokb]; rfl,hS.sub (List.nil_sublist _) |>.noB⟩
            | exact ⟨(),by rw [show okC c=false from by unfold okC; rw [if_neg h1,if_neg h2,if_neg h3,if_neg h4]]; rfl,hS.sub (List.nil_sublist _) |>.noB⟩
end Go.Proofs.YtgakdmmmljdpjaaDoor
