/- Part of a proof: laws and walks. -/
import Derived.Test.YtgakdmmmljdpjaaDoorTac
import Derived.Test.YtgakdmmmljdpjaaDoorTam
set_option linter.unusedVariables false
set_option linter.unusedSimpArgs false
set_option maxHeartbeats 1000000
set_option maxRecDepth 8000
namespace Go.Proofs.YtgakdmmmljdpjaaDoor
open Go Go.SL
theorem C_ok_35:callOK Tryd.prog 35=true:=by kernel_rfl
theorem C_ok_36:callOK Tryd.prog 36=true:=by kernel_rfl
set_option maxHeartbeats 400000 in
set_option maxRecDepth 4000 in
theorem half_spec (c:Int) (w0:World) :
    Ret Tryd.prog 35 #[.int .u8 c] w0 (G:=Unit) (fun _=>.bool (halfB c)) (fun _ w=>St w0 w noX [] []):=by
  refine ret_of_W (lv:=[.int .u8 c]) Tryd.func35 rfl rfl rfl (fun a hf=>?_); replace hf:Fr a 13 [] [(0,.int .u8 c)]:=hf; have hS:St w0 w0 noX [] []:=St.refl w0; refine W.seq ?_
  refine W.regionL (l:=[0]) rfl<|mv hf rfl<|?_; clear hf a; intro a hf; refine nk<|W.seq<|?_
  refine W.regionL (l:=[0,1,2,3,4,5,6,7,8,9,10]) rfl<|mv hf rfl<|?_; clear hf a; intro a hf; refine ov (v:=.bool (decide (c≥(65:Int)))) hf rfl (RunV.geq rfl rfl) ?_; clear hf a; intro a hf; refine mv hf rfl ?_; clear hf a; intro a hf
  refine O.cutN (l₁:=[3,4,5]) (l₂:=_) (fun a w=>Fr a 13 [] [(0,.int .u8 c),(2,.bool false),(3,.int .u8 c),(4,.bool (decide (c≥(65:Int)))),(5,.bool (decide (c≥(65:Int)))),(8,.bool ((decide (c≥(65:Int)))&&(decide (c≤(89:Int)))))]∧St w0 w noX [] []) rfl ?_ ?_
  · rcases Bool.eq_false_or_eq_true (decide (c≥(65:Int))) with hb1 | hb1
    · have hb1p:=of_decide_eq_true hb1
      refine og (v:=.int .u8 c) hf rfl hb1 (RunV.move rfl) ?_; clear hf a; intro a hf; refine og (v:=.bool (decide (c≤(89:Int)))) hf rfl hb1 (RunV.leq rfl rfl) ?_; clear hf a; intro a hf; refine ov (v:=.bool ((decide (c≥(65:Int)))&&(decide (c≤(89:Int))))) hf rfl (RunV.pick rfl rfl rfl (by rw [hb1]; rfl)) ?_; clear hf a; intro a hf; exact O.nil ⟨rfl,hf.q rfl,hS⟩
    · have hb1p:=of_decide_eq_false hb1
      refine sk hf rfl hb1 fun a hf=>sk hf rfl hb1 fun a hf=>?_; refine ov (v:=.bool ((decide (c≥(65:Int)))&&(decide (c≤(89:Int))))) hf rfl (RunV.pick rfl rfl rfl (by rw [hb1]; rfl)) ?_; clear hf a; intro a hf; exact O.nil ⟨rfl,hf.q rfl,hS⟩
  clear hf hS a; rintro a w ⟨hf,hS⟩; refine mv hf rfl ?_; clear hf a; intro a hf
  refine O.cutN (l₁:=[7,8,9]) (l₂:=_) (fun a w=>Fr a 13 [] [(0,.int .u8 c),(2,.bool false),(3,.int .u8 c),(4,.bool (decide (c≥(65:Int)))),(5,.bool (decide (c≥(65:Int)))),(8,.bool ((decide (c≥(65:Int)))&&(decide (c≤(89:Int))))),(9,.bool ((decide (c≥(65:Int)))&&(decide (c≤(89:Int))))),(12,.bool (((decide (c≥(65:Int)))&&(decide (c≤(89:Int))))&&(decide (c≠(73:Int)))))]∧St w0 w noX [] []) rfl ?_ ?_
  · rcases Bool.eq_false_or_eq_true ((decide (c≥(65:Int)))&&(decide (c≤(89:Int)))) with hb2 | hb2
    · have hb2p:=hb2
      try simp only [Bool.and_eq_true,Bool.or_eq_true,Bool.and_eq_false_iff,Bool.or_eq_false_iff,decide_eq_true_eq,decide_eq_false_iff_not,Bool.not_eq_true',Bool.not_eq_false',Bool.not_eq_true,Bool.not_eq_false,ne_eq] at hb2p
      refine og (v:=.int .u8 c) hf rfl hb2 (RunV.move rfl) ?_; clear hf a; intro a hf; refine og (v:=.bool (decide (c≠(73:Int)))) hf rfl hb2 (RunV.neq rfl rfl) ?_; clear hf a; intro a hf; refine ov (v:=.bool (((decide (c≥(65:Int)))&&(decide (c≤(89:Int))))&&(decide (c≠(73:Int))))) hf rfl (RunV.pick rfl rfl rfl (by rw [hb2]; rfl)) ?_; clear hf a; intro a hf; exact O.nil ⟨rfl,hf.q rfl,hS⟩
    · have hb2p:=hb2
      try simp only [Bool.and_eq_true,Bool.or_eq_true,Bool.and_eq_false_iff,Bool.or_eq_false_iff,decide_eq_true_eq,decide_eq_false_iff_not,Bool.not_eq_true',Bool.not_eq_false',Bool.not_eq_true,Bool.not_eq_false,ne_eq] at hb2p
      refine sk hf rfl hb2 fun a hf=>sk hf rfl hb2 fun a hf=>?_; refine ov (v:=.bool (((decide (c≥(65:Int)))&&(decide (c≤(89:Int))))&&(decide (c≠(73:Int))))) hf rfl (RunV.pick rfl rfl rfl (by rw [hb2]; rfl)) ?_; clear hf a; intro a hf; exact O.nil ⟨rfl,hf.q rfl,hS⟩
  clear hf hS a; rintro a w ⟨hf,hS⟩; refine mv hf rfl ?_; clear hf a; intro a hf; refine nk<|W.ret<|post1 hf rfl (ResOK.tmp rfl)<|?_; exact ⟨(),rfl,hS.sub (List.nil_sublist _) |>.noB⟩
set_option maxHeartbeats 400000 in
set_option maxRecDepth 4000 in
theorem orderl_spec (c:Int) (w0:World) :
    Ret Tryd.prog 36 #[.int .u8 c] w0 (G:=Unit) (fun _=>.bool (orderB c)) (fun _ w=>St w0 w noX [] []):=by
  refine ret_of_W (lv:=[.int .u8 c]) Tryd.func36 rfl rfl rfl (fun a hf=>?_); replace hf:Fr a 13 [] [(0,.int .u8 c)]:=hf; have hS:St w0 w0 noX [] []:=St.refl w0; refine W.seq ?_
  refine W.regionL (l:=[0]) rfl<|mv hf rfl<|?_; clear hf a; intro a hf; refine nk<|W.seq<|?_
  refine W.regionL (l:=[0,1,2,3,4,5,6,7,8,9,10]) rfl<|mv hf rfl<|?_; clear hf a; intro a hf; refine ov (v:=.bool (decide (c≥(65:Int)))) hf rfl (RunV.geq rfl rfl) ?_; clear hf a; intro a hf; refine mv hf rfl ?_; clear hf a; intro a hf
  refine O.cutN (l₁:=[3,4,5]) (l₂:=_) (fun a w=>Fr a 13 [] [(0,.int .u8 c),(2,.bool false),(3,.int .u8 c),(4,.bool (decide (c≥(65:Int)))),(5,.bool (decide (c≥(65:Int)))),(8,.bool ((decide (c≥(65:Int)))&&(decide (c≤(90:Int)))))]∧St w0 w noX [] []) rfl ?_ ?_
  · rcases Bool.eq_false_or_eq_true (decide (c≥(65:Int))) with hb1 | hb1
    · have hb1p:=of_decide_eq_true hb1
      refine og (v:=.int .u8 c) hf rfl hb1 (RunV.move rfl) ?_; clear hf a; intro a hf; refine og (v:=.bool (decide (c≤(90:Int)))) hf rfl hb1 (RunV.leq rfl rfl) ?_; clear hf a; intro a hf; refine ov (v:=.bool ((decide (c≥(65:Int)))&&(decide (c≤(90:Int))))) hf rfl (RunV.pick rfl rfl rfl (by rw [hb1]; rfl)) ?_; clear hf a; intro a hf; exact O.nil ⟨rfl,hf.q rfl,hS⟩
    · have hb1p:=of_decide_eq_false hb1
      refine sk hf rfl hb1 fun a hf=>sk hf rfl hb1 fun a hf=>?_; refine ov (v:=.bool ((decide (c≥(65:Int)))&&(decide (c≤(90:Int))))) hf rfl (RunV.pick rfl rfl rfl (by rw [hb1]; rfl)) ?_; clear hf a; intro a hf; exact O.nil ⟨rfl,hf.q rfl,hS⟩
  clear hf hS a; rintro a w ⟨hf,hS⟩; refine mv hf rfl ?_; clear hf a; intro a hf
  refine O.cutN (l₁:=[7,8,9]) (l₂:=_) (fun a w=>Fr a 13 [] [(0,.int .u8 c),(2,.bool false),(3,.int .u8 c),(4,.bool (decide (c≥(65:Int)))),(5,.bool (decide (c≥(65:Int)))),(8,.bool ((decide (c≥(65:Int)))&&(decide (c≤(90:Int))))),(9,.bool ((decide (c≥(65:Int)))&&(decide (c≤(90:Int))))),(12,.bool (((decide (c≥(65:Int)))&&(decide (c≤(90:Int))))&&(decide (c≠(73:Int)))))]∧St w0 w noX [] []) rfl ?_ ?_
  · rcases Bool.eq_false_or_eq_true ((decide (c≥(65:Int)))&&(decide (c≤(90:Int)))) with hb2 | hb2
    · have hb2p:=hb2
      try simp only [Bool.and_eq_true,Bool.or_eq_true,Bool.and_eq_false_iff,Bool.or_eq_false_iff,decide_eq_true_eq,decide_eq_false_iff_not,Bool.not_eq_true',Bool.not_eq_false',Bool.not_eq_true,Bool.not_eq_false,ne_eq] at hb2p
      refine og (v:=.int .u8 c) hf rfl hb2 (RunV.move rfl) ?_; clear hf a; intro a hf; refine og (v:=.bool (decide (c≠(73:Int)))) hf rfl hb2 (RunV.neq rfl rfl) ?_; clear hf a; intro a hf; refine ov (v:=.bool (((decide (c≥(65:Int)))&&(decide (c≤(90:Int))))&&(decide (c≠(73:Int))))) hf rfl (RunV.pick rfl rfl rfl (by rw [hb2]; rfl)) ?_; clear hf a; intro a hf; exact O.nil ⟨rfl,hf.q rfl,hS⟩
    · have hb2p:=hb2
      try simp only [Bool.and_eq_true,Bool.or_eq_true,Bool.and_eq_false_iff,Bool.or_eq_false_iff,decide_eq_true_eq,decide_eq_false_iff_not,Bool.not_eq_true',Bool.not_eq_false',Bool.not_eq_true,Bool.not_eq_false,ne_eq] at hb2p
      refine sk hf rfl hb2 fun a hf=>sk hf rfl hb2 fun a hf=>?_; refine ov (v:=.bool (((decide (c≥(65:Int)))&&(decide (c≤(90:Int))))&&(decide (c≠(73:Int))))) hf rfl (RunV.pick rfl rfl rfl (by rw [hb2]; rfl)) ?_; clear hf a; intro a hf; exact O.nil ⟨rfl,hf.q rfl,hS⟩
  clear hf hS a; rintro a w ⟨hf,hS⟩; refine mv hf rfl ?_; clear hf a; intro a hf; refine nk<|W.ret<|post1 hf rfl (ResOK.tmp rfl)<|?_; exact ⟨(),rfl,hS.sub (List.nil_sublist _) |>.noB⟩
set_option maxHeartbeats 400000 in
set_option maxRecDepth 4000 in
theorem check28_spec (d:Dg) (w0:World) (hr:rD d) :
    Ret Tryd.prog 15 #[.agg (aD d)] w0 (G:=Unit) (fun _=>.int .i64 (if okD d then 0 else 8)) (fun _ w=>St w0 w noX [] []):=by
  refine ret_of_W (lv:=[.agg (aD d)]) Tryd.func15 rfl rfl rfl (fun a hf=>?_); replace hf:Fr a 51 [] [(0,.agg (aD d))]:=hf; have hS:St w0 w0 noX [] []:=St.refl w0; refine W.seq ?_
  refine W.regionL (l:=[0,1]) rfl<|O.box (cs:=(aD d)) hf hS rfl rfl rfl rfl<|?_; intro b_d1 w a hbb_d1 hS hf; refine mv hf rfl ?_; clear hf a; intro a hf; refine nk<|W.seq<|W.seq<|?_
  refine W.regionL (l:=[0,1,2]) rfl<|ov hf rfl (RunV.field T_field_24_0 rfl rfl)<|?_; clear hf a; intro a hf; refine ov hf rfl (RunV.load1 T_agg_3 rfl (hS.p 0 rfl) rfl) ?_; clear hf a; intro a hf; refine ov (v:=.bool (decide (d.num≠(0:Int)))) hf rfl (RunV.neq rfl rfl) ?_; clear hf a; intro a hf; refine nk ?_; refine W.ifdI hf rfl (fun hn=>?_) (fun hn=>?_)
  · refine W.seq ?_
    refine W.seq ?_
    refine W.regionL (l:=[0,1,2,3,4,5,6,7,8,9,10,11,12,13,14]) rfl<|ov hf rfl (RunV.loadN (cs':=(aD d)) T_agg_24 T_size_24 rfl (hS.p 0 rfl) (bl rfl) rfl)<|?_; clear hf a; intro a hf; refine ov hf rfl (RunV.field T_field_24_0 rfl rfl) ?_; clear hf a; intro a hf; refine ov hf rfl (RunV.load1 T_agg_3 rfl (hS.p 0 rfl) rfl) ?_; clear hf a; intro a hf; refine ov hf rfl (RunV.buildS (cs':=#[.int .i64 d.num,.int .i64 0,.int .u8 0,.int .u8 0,.int .i64 0]) T_places_24 T_zero_24 rfl rfl) ?_; clear hf a; intro a hf; refine ov hf rfl (neD rfl d ⟨d.num,0,0,0,0⟩ eqGuard24 rfl rfl) ?_; clear hf a; intro a hf; refine mv hf rfl ?_; clear hf a; intro a hf
    refine O.cutN (l₁:=[6,7,8,9]) (l₂:=_) (fun a w=>Fr a 51 [] [(1,.pointer (some ⟨b_d1,0,none⟩)),(2,.int .i64 0),(6,.agg (aD d)),(7,.pointer (some ⟨b_d1,0,none⟩)),(8,.int .i64 d.num),(9,.agg #[.int .i64 d.num,.int .i64 0,.int .u8 0,.int .u8 0,.int .i64 0]),(10,.bool (!decide (d=⟨d.num,0,0,0,0⟩))),(11,.bool (!decide (d=⟨d.num,0,0,0,0⟩))),(15,.bool ((!decide (d=⟨d.num,0,0,0,0⟩))||(decide (d.num<(1:Int)))))]∧St w0 w noX [] [pt b_d1 (.cells (aD d) 24 (0,0))]) rfl ?_ ?_
    · rcases Bool.eq_false_or_eq_true (!decide (d=⟨d.num,0,0,0,0⟩)) with hb3 | hb3
      · have hb3p:=hb3
        try simp only [Bool.and_eq_true,Bool.or_eq_true,Bool.and_eq_false_iff,Bool.or_eq_false_iff,decide_eq_true_eq,decide_eq_false_iff_not,Bool.not_eq_true',Bool.not_eq_false',Bool.not_eq_true,Bool.not_eq_false,ne_eq] at hb3p
        refine sk hf rfl hb3 fun a hf=>sk hf rfl hb3 fun a hf=>sk hf rfl hb3 fun a hf=>?_; refine ov (v:=.bool ((!decide (d=⟨d.num,0,0,0,0⟩))||(decide (d.num<(1:Int))))) hf rfl (RunV.pick rfl rfl rfl (by rw [hb3]; rfl)) ?_; clear hf a; intro a hf; exact O.nil ⟨rfl,hf.q rfl,hS⟩
      · have hb3p:=hb3
        try simp only [Bool.and_eq_true,Bool.or_eq_true,Bool.and_eq_false_iff,Bool.or_eq_false_iff,decide_eq_true_eq,decide_eq_false_iff_not,Bool.not_eq_true',Bool.not_eq_false',Bool.not_eq_true,Bool.not_eq_false,ne_eq] at hb3p
        refine og (v:=.pointer (some ⟨b_d1,0,none⟩)) hf rfl hb3 (RunV.field T_field_24_0 rfl rfl) ?_; clear hf a; intro a hf; refine og (v:=.int .i64 d.num) hf rfl hb3 (RunV.load1 T_agg_3 rfl (hS.p 0 rfl) rfl) ?_; clear hf a; intro a hf; refine og (v:=.bool (decide (d.num<(1:Int)))) hf rfl hb3 (RunV.lss rfl rfl) ?_; clear hf a; intro a hf; refine ov (v:=.bool ((!decide (d=⟨d.num,0,0,0,0⟩))||(decide (d.num<(1:Int))))) hf rfl (RunV.pick rfl rfl rfl (by rw [hb3]; rfl)) ?_; clear hf a; intro a hf; exact O.nil ⟨rfl,hf.q rfl,hS⟩
    clear hf hS a; rintro a w ⟨hf,hS⟩; refine mv hf rfl ?_; clear hf a; intro a hf
    refine O.cutN (l₁:=[11,12,13,14]) (l₂:=_) (fun a w=>Fr a 51 [] [(1,.pointer (some ⟨b_d1,0,none⟩)),(2,.int .i64 0),(6,.agg (aD d)),(7,.pointer (some ⟨b_d1,0,none⟩)),(8,.int .i64 d.num),(9,.agg #[.int .i64 d.num,.int .i64 0,.int .u8 0,.int .u8 0,.int .i64 0]),(10,.bool (!decide (d=⟨d.num,0,0,0,0⟩))),(11,.bool (!decide (d=⟨d.num,0,0,0,0⟩))),(15,.bool ((!decide (d=⟨d.num,0,0,0,0⟩))||(decide (d.num<(1:Int))))),(16,.bool ((!decide (d=⟨d.num,0,0,0,0⟩))||(decide (d.num<(1:Int))))),(20,.bool (((!decide (d=⟨d.num,0,0,0,0⟩))||(decide (d.num<(1:Int))))||(decide (d.num>(15396335:Int)))))]∧St w0 w noX [] [pt b_d1 (.cells (aD d) 24 (0,0))]) rfl ?_ ?_
    · rcases Bool.eq_false_or_eq_true ((!decide (d=⟨d.num,0,0,0,0⟩))||(decide (d.num<(1:Int)))) with hb4 | hb4
      · have hb4p:=hb4
        try simp only [Bool.and_eq_true,Bool.or_eq_true,Bool.and_eq_false_iff,Bool.or_eq_false_iff,decide_eq_true_eq,decide_eq_false_iff_not,Bool.not_eq_true',Bool.not_eq_false',Bool.not_eq_true,Bool.not_eq_false,ne_eq] at hb4p
        refine sk hf rfl hb4 fun a hf=>sk hf rfl hb4 fun a hf=>sk hf rfl hb4 fun a hf=>?_; refine ov (v:=.bool (((!decide (d=⟨d.num,0,0,0,0⟩))||(decide (d.num<(1:Int))))||(decide (d.num>(15396335:Int))))) hf rfl (RunV.pick rfl rfl rfl (by rw [hb4]; rfl)) ?_; clear hf a; intro a hf; exact O.nil ⟨rfl,hf.q rfl,hS⟩
      · have hb4p:=hb4
        try simp only [Bool.and_eq_true,Bool.or_eq_true,Bool.and_eq_false_iff,Bool.or_eq_false_iff,decide_eq_true_eq,decide_eq_false_iff_not,Bool.not_eq_true',Bool.not_eq_false',Bool.not_eq_true,Bool.not_eq_false,ne_eq] at hb4p
        refine og (v:=.pointer (some ⟨b_d1,0,none⟩)) hf rfl hb4 (RunV.field T_field_24_0 rfl rfl) ?_; clear hf a; intro a hf; refine og (v:=.int .i64 d.num) hf rfl hb4 (RunV.load1 T_agg_3 rfl (hS.p 0 rfl) rfl) ?_; clear hf a; intro a hf; refine og (v:=.bool (decide (d.num>(15396335:Int)))) hf rfl hb4 (RunV.gtr rfl rfl) ?_; clear hf a; intro a hf; refine ov (v:=.bool (((!decide (d=⟨d.num,0,0,0,0⟩))||(decide (d.num<(1:Int))))||(decide (d.num>(15396335:Int))))) hf rfl (RunV.pick rfl rfl rfl (by rw [hb4]; rfl)) ?_; clear hf a; intro a hf; exact O.nil ⟨rfl,hf.q rfl,hS⟩
    clear hf hS a; rintro a w ⟨hf,hS⟩; refine nk ?_; refine W.if_ hf rfl (fun hb1=>?_) (fun hb1=>?_)
    · have hb1b:=hb1
      try simp only [Bool.and_eq_true,Bool.or_eq_true,Bool.and_eq_false_iff,Bool.or_eq_false_iff,decide_eq_true_eq,decide_eq_false_iff_not,Bool.not_eq_true',Bool.not_eq_false',Bool.not_eq_true,Bool.not_eq_false,ne_eq] at hb1
      refine W.seq ?_
      refine W.regionL (l:=[0]) rfl<|mv hf rfl<|?_; clear hf a; intro a hf; refine nk<|W.ret<|k_then_ret<|k_then_ret<|post1 hf rfl (ResOK.tmp rfl)<|?_; exact ⟨(),congrArg (fun x=>Ending.returned (Value.int .i64 x)) (by rw [okD_28 hr]; first | rw [if_pos hn,ck_bad1 hb1b]; rfl | rw [if_neg hn,ck_bad2 hb2b]; rfl),hS.sub (List.nil_sublist _) |>.noB⟩
    · have hb1b:=hb1
      try simp only [Bool.and_eq_true,Bool.or_eq_true,Bool.and_eq_false_iff,Bool.or_eq_false_iff,decide_eq_true_eq,decide_eq_false_iff_not,Bool.not_eq_true',Bool.not_eq_false',Bool.not_eq_true,Bool.not_eq_false,ne_eq] at hb1
      refine W.skip<|k_seq<|W.seq<|?_
      refine W.regionL (l:=[0]) rfl<|mv hf rfl<|?_; clear hf a; intro a hf; refine nk<|W.ret<|k_then_ret<|post1 hf rfl (ResOK.tmp rfl)<|?_; exact ⟨(),congrArg (fun x=>Ending.returned (Value.int .i64 x)) (by rw [okD_28 hr]; first | rw [if_pos hn,ck_ok1 hb1b]; rfl | rw [if_neg hn,ck_ok2 hb2b]; rfl),hS.sub (List.nil_sublist _) |>.noB⟩
  · refine W.skip ?_
    refine k_seq<|W.seq<|W.seq<|?_
    refine W.regionL (l:=[0,1,2,3,4,5,6,7,8,9,10,11,12,13,14,15,16,17,18,19,20,21,22,23,24,25,26,27,28,29]) rfl<|ov hf rfl (RunV.field T_field_24_1 rfl rfl)<|?_; clear hf a; intro a hf; refine ov hf rfl (RunV.load1 T_agg_3 rfl (hS.p 0 rfl) rfl) ?_; clear hf a; intro a hf; refine ov (v:=.bool (decide (d.yr<(1800:Int)))) hf rfl (RunV.lss rfl rfl) ?_; clear hf a; intro a hf; refine mv hf rfl ?_; clear hf a; intro a hf
    refine O.cutN (l₁:=[4,5,6,7]) (l₂:=_) (fun a w=>Fr a 51 [] [(1,.pointer (some ⟨b_d1,0,none⟩)),(2,.int .i64 0),(21,.pointer (some ⟨b_d1,1,none⟩)),(22,.int .i64 d.yr),(23,.bool (decide (d.yr<(1800:Int)))),(24,.bool (decide (d.yr<(1800:Int)))),(28,.bool ((decide (d.yr<(1800:Int)))||(decide (d.yr>(2099:Int)))))]∧St w0 w noX [] [pt b_d1 (.cells (aD d) 24 (0,0))]) rfl ?_ ?_
    · rcases Bool.eq_false_or_eq_true (decide (d.yr<(1800:Int))) with hb6 | hb6
      · have hb6p:=of_decide_eq_true hb6
        refine sk hf rfl hb6 fun a hf=>sk hf rfl hb6 fun a hf=>sk hf rfl hb6 fun a hf=>?_; refine ov (v:=.bool ((decide (d.yr<(1800:Int)))||(decide (d.yr>(2099:Int))))) hf rfl (RunV.pick rfl rfl rfl (by rw [hb6]; rfl)) ?_; clear hf a; intro a hf; exact O.nil ⟨rfl,hf.q rfl,hS⟩
      · have hb6p:=of_decide_eq_false hb6
        refine og (v:=.pointer (some ⟨b_d1,1,none⟩)) hf rfl hb6 (RunV.field T_field_24_1 rfl rfl) ?_; clear hf a; intro a hf; refine og (v:=.int .i64 d.yr) hf rfl hb6 (RunV.load1 T_agg_3 rfl (hS.p 0 rfl) rfl) ?_; clear hf a; intro a hf; refine og (v:=.bool (decide (d.yr>(2099:Int)))) hf rfl hb6 (RunV.gtr rfl rfl) ?_; clear hf a; intro a hf; refine ov (v:=.bool ((decide (d.yr<(1800:Int)))||(decide (d.yr>(2099:Int))))) hf rfl (RunV.pick rfl rfl rfl (by rw [hb6]; rfl)) ?_; clear hf a; intro a hf; exact O.nil ⟨rfl,hf.q rfl,hS⟩
    clear hf hS a; rintro a w ⟨hf,hS⟩; refine mv hf rfl ?_; clear hf a; intro a hf
    refine O.cutN (l₁:=[9,10,11,12,13]) (l₂:=_) (fun a w=>Fr a 51 [] [(1,.pointer (some ⟨b_d1,0,none⟩)),(2,.int .i64 0),(21,.pointer (some ⟨b_d1,1,none⟩)),(22,.int .i64 d.yr),(23,.bool (decide (d.yr<(1800:Int)))),(24,.bool (decide (d.yr<(1800:Int)))),(28,.bool ((decide (d.yr<(1800:Int)))||(decide (d.yr>(2099:Int))))),(29,.bool ((decide (d.yr<(1800:Int)))||(decide (d.yr>(2099:Int))))),(34,.bool (((decide (d.yr<(1800:Int)))||(decide (d.yr>(2099:Int))))||(!(halfB d.half))))]∧St w0 w noX [] [pt b_d1 (.cells (aD d) 24 (0,0))]) rfl ?_ ?_
    · rcases Bool.eq_false_or_eq_true ((decide (d.yr<(1800:Int)))||(decide (d.yr>(2099:Int)))) with hb7 | hb7
      · have hb7p:=hb7
        try simp only [Bool.and_eq_true,Bool.or_eq_true,Bool.and_eq_false_iff,Bool.or_eq_false_iff,decide_eq_true_eq,decide_eq_false_iff_not,Bool.not_eq_true',Bool.not_eq_false',Bool.not_eq_true,Bool.not_eq_false,ne_eq] at hb7p
        refine sk hf rfl hb7 fun a hf=>sk hf rfl hb7 fun a hf=>sk hf rfl hb7 fun a hf=>sk hf rfl hb7 fun a hf=>?_; refine ov (v:=.bool (((decide (d.yr<(1800:Int)))||(decide (d.yr>(2099:Int))))||(!(halfB d.half)))) hf rfl (RunV.pick rfl rfl rfl (by rw [hb7]; rfl)) ?_; clear hf a; intro a hf; exact O.nil ⟨rfl,hf.q rfl,hS⟩
      · have hb7p:=hb7
        try simp only [Bool.and_eq_true,Bool.or_eq_true,Bool.and_eq_false_iff,Bool.or_eq_false_iff,decide_eq_true_eq,decide_eq_false_iff_not,Bool.not_eq_true',Bool.not_eq_false',Bool.not_eq_true,Bool.not_eq_false,ne_eq] at hb7p
        refine og (v:=.pointer (some ⟨b_d1,2,none⟩)) hf rfl hb7 (RunV.field T_field_24_2 rfl rfl) ?_; clear hf a; intro a hf; refine og (v:=.int .u8 d.half) hf rfl hb7 (RunV.load1 T_agg_5 rfl (hS.p 0 rfl) rfl) ?_; clear hf a; intro a hf; refine O.gcallR hf rfl rfl rfl hb7 rfl rfl (RunE.call (av:=#[.int .u8 d.half]) C_ok_35 rfl rfl rfl) (half_spec d.half _) ?_; clear hf a; rintro _ w8 hS1 a hf; replace hS:=hS.cl hS1; refine og (v:=.bool (!(halfB d.half))) hf rfl hb7 (RunV.not rfl) ?_; clear hf a; intro a hf; refine ov (v:=.bool (((decide (d.yr<(1800:Int)))||(decide (d.yr>(2099:Int))))||(!(halfB d.half)))) hf rfl (RunV.pick rfl rfl rfl (by rw [hb7]; rfl)) ?_; clear hf a; intro a hf; exact O.nil ⟨rfl,hf.q rfl,hS⟩
    clear hf hS a; rintro a w ⟨hf,hS⟩; refine mv hf rfl ?_; clear hf a; intro a hf
    refine O.cutN (l₁:=[15,16,17,18,19]) (l₂:=_) (fun a w=>Fr a 51 [] [(1,.pointer (some ⟨b_d1,0,none⟩)),(2,.int .i64 0),(21,.pointer (some ⟨b_d1,1,none⟩)),(22,.int .i64 d.yr),(23,.bool (decide (d.yr<(1800:Int)))),(24,.bool (decide (d.yr<(1800:Int)))),(28,.bool ((decide (d.yr<(1800:Int)))||(decide (d.yr>(2099:Int))))),(29,.bool ((decide (d.yr<(1800:Int)))||(decide (d.yr>(2099:Int))))),(34,.bool (((decide (d.yr<(1800:Int)))||(decide (d.yr>(2099:Int))))||(!(halfB d.half)))),(35,.bool (((decide (d.yr<(1800:Int)))||(decide (d.yr>(2099:Int))))||(!(halfB d.half)))),(40,.bool ((((decide (d.yr<(1800:Int)))||(decide (d.yr>(2099:Int))))||(!(halfB d.half)))||(!(orderB d.sec))))]∧St w0 w noX [] [pt b_d1 (.cells (aD d) 24 (0,0))]) rfl ?_ ?_
    · rcases Bool.eq_false_or_eq_true (((decide (d.yr<(1800:Int)))||(decide (d.yr>(2099:Int))))||(!(halfB d.half))) with hb9 | hb9
      · have hb9p:=hb9
        try simp only [Bool.and_eq_true,Bool.or_eq_true,Bool.and_eq_false_iff,Bool.or_eq_false_iff,decide_eq_true_eq,decide_eq_false_iff_not,Bool.not_eq_true',Bool.not_eq_false',Bool.not_eq_true,Bool.not_eq_false,ne_eq] at hb9p
        refine sk hf rfl hb9 fun a hf=>sk hf rfl hb9 fun a hf=>sk hf rfl hb9 fun a hf=>sk hf rfl hb9 fun a hf=>?_; refine ov (v:=.bool ((((decide (d.yr<(1800:Int)))||(decide (d.yr>(2099:Int))))||(!(halfB d.half)))||(!(orderB d.sec)))) hf rfl (RunV.pick rfl rfl rfl (by rw [hb9]; rfl)) ?_; clear hf a; intro a hf; exact O.nil ⟨rfl,hf.q rfl,hS⟩
      · have hb9p:=hb9
        try simp only [Bool.and_eq_true,Bool.or_eq_true,Bool.and_eq_false_iff,Bool.or_eq_false_iff,decide_eq_true_eq,decide_eq_false_iff_not,Bool.not_eq_true',Bool.not_eq_false',Bool.not_eq_true,Bool.not_eq_false,ne_eq] at hb9p
        refine og (v:=.pointer (some ⟨b_d1,3,none⟩)) hf rfl hb9 (RunV.field T_field_24_3 rfl rfl) ?_; clear hf a; intro a hf; refine og (v:=.int .u8 d.sec) hf rfl hb9 (RunV.load1 T_agg_5 rfl (hS.p 0 rfl) rfl) ?_; clear hf a; intro a hf; refine O.gcallR hf rfl rfl rfl hb9 rfl rfl (RunE.call (av:=#[.int .u8 d.sec]) C_ok_36 rfl rfl rfl) (orderl_spec d.sec _) ?_; clear hf a; rintro _ w10 hS1 a hf; replace hS:=hS.cl hS1; refine og (v:=.bool (!(orderB d.sec))) hf rfl hb9 (RunV.not rfl) ?_; clear hf a; intro a hf; refine ov (v:=.bool ((((decide (d.yr<(1800:Int)))||(decide (d.yr>(2099:Int))))||(!(halfB d.half)))||(!(orderB d.sec)))) hf rfl (RunV.pick rfl rfl rfl (by rw [hb9]; rfl)) ?_; clear hf a; intro a hf; exact O.nil ⟨rfl,hf.q rfl,hS⟩
    clear hf hS a; rintro a w ⟨hf,hS⟩; refine mv hf rfl ?_; clear hf a; intro a hf
    refine O.cutN (l₁:=[21,22,23,24]) (l₂:=_) (fun a w=>Fr a 51 [] [(1,.pointer (some ⟨b_d1,0,none⟩)),(2,.int .i64 0),(21,.pointer (some ⟨b_d1,1,none⟩)),(22,.int .i64 d.yr),(23,.bool (decide (d.yr<(1800:Int)))),(24,.bool (decide (d.yr<(1800:Int)))),(28,.bool ((decide (d.yr<(1800:Int)))||(decide (d.yr>(2099:Int))))),(29,.bool ((decide (d.yr<(1800:Int)))||(decide (d.yr>(2099:Int))))),(34,.bool (((decide (d.yr<(1800:Int)))||(decide (d.yr>(2099:Int))))||(!(halfB d.half)))),(35,.bool (((decide (d.yr<(1800:Int)))||(decide (d.yr>(2099:Int))))||(!(halfB d.half)))),(40,.bool ((((decide (d.yr<(1800:Int)))||(decide (d.yr>(2099:Int))))||(!(halfB d.half)))||(!(orderB d.sec)))),(41,.bool ((((decide (d.yr<(1800:Int)))||(decide (d.yr>(2099:Int))))||(!(halfB d.half)))||(!(orderB d.sec)))),(45,.bool (((((decide (d.yr<(1800:Int)))||(decide (d.yr>(2099:Int))))||(!(halfB d.half)))||(!(orderB d.sec)))||(decide (d.cyc<(0:Int)))))]∧St w0 w noX [] [pt b_d1 (.cells (aD d) 24 (0,0))]) rfl ?_ ?_
    · rcases Bool.eq_false_or_eq_true ((((decide (d.yr<(1800:Int)))||(decide (d.yr>(2099:Int))))||(!(halfB d.half)))||(!(orderB d.sec))) with hb11 | hb11
      · have hb11p:=hb11
        try simp only [Bool.and_eq_true,Bool.or_eq_true,Bool.and_eq_false_iff,Bool.or_eq_false_iff,decide_eq_true_eq,decide_eq_false_iff_not,Bool.not_eq_true',Bool.not_eq_false',Bool.not_eq_true,Bool.not_eq_false,ne_eq] at hb11p
        refine sk hf rfl hb11 fun a hf=>sk hf rfl hb11 fun a hf=>sk hf rfl hb11 fun a hf=>?_; refine ov (v:=.bool (((((decide (d.yr<(1800:Int)))||(decide (d.yr>(2099:Int))))||(!(halfB d.half)))||(!(orderB d.sec)))||(decide (d.cyc<(0:Int))))) hf rfl (RunV.pick rfl rfl rfl (by rw [hb11]; rfl)) ?_; clear hf a; intro a hf; exact O.nil ⟨rfl,hf.q rfl,hS⟩
      · have hb11p:=hb11
        try simp only [Bool.and_eq_true,Bool.or_eq_true,Bool.and_eq_false_iff,Bool.or_eq_false_iff,decide_eq_true_eq,decide_eq_false_iff_not,Bool.not_eq_true',Bool.not_eq_false',Bool.not_eq_true,Bool.not_eq_false,ne_eq] at hb11p
        refine og (v:=.pointer (some ⟨b_d1,4,none⟩)) hf rfl hb11 (RunV.field T_field_24_4 rfl rfl) ?_; clear hf a; intro a hf; refine og (v:=.int .i64 d.cyc) hf rfl hb11 (RunV.load1 T_agg_3 rfl (hS.p 0 rfl) rfl) ?_; clear hf a; intro a hf; refine og (v:=.bool (decide (d.cyc<(0:Int)))) hf rfl hb11 (RunV.lss rfl rfl) ?_; clear hf a; intro a hf; refine ov (v:=.bool (((((decide (d.yr<(1800:Int)))||(decide (d.yr>(2099:Int))))||(!(halfB d.half)))||(!(orderB d.sec)))||(decide (d.cyc<(0:Int))))) hf rfl (RunV.pick rfl rfl rfl (by rw [hb11]; rfl)) ?_; clear hf a; intro a hf; exact O.nil ⟨rfl,hf.q rfl,hS⟩
    clear hf hS a; rintro a w ⟨hf,hS⟩; refine mv hf rfl ?_; clear hf a; intro a hf
    refine O.cutN (l₁:=[26,27,28,29]) (l₂:=_) (fun a w=>Fr a 51 [] [(1,.pointer (some ⟨b_d1,0,none⟩)),(2,.int .i64 0),(21,.pointer (some ⟨b_d1,1,none⟩)),(22,.int .i64 d.yr),(23,.bool (decide (d.yr<(1800:Int)))),(24,.bool (decide (d.yr<(1800:Int)))),(28,.bool ((decide (d.yr<(1800:Int)))||(decide (d.yr>(2099:Int))))),(29,.bool ((decide (d.yr<(1800:Int)))||(decide (d.yr>(2099:Int))))),(34,.bool (((decide (d.yr<(1800:Int)))||(decide (d.yr>(2099:Int))))||(!(halfB d.half)))),(35,.bool (((decide (d.yr<(1800:Int)))||(decide (d.yr>(2099:Int))))||(!(halfB d.half)))),(40,.bool ((((decide (d.yr<(1800:Int)))||(decide (d.yr>(2099:Int))))||(!(halfB d.half)))||(!(orderB d.sec)))),(41,.bool ((((decide (d.yr<(1800:Int)))||(decide (d.yr>(2099:Int))))||(!(halfB d.half)))||(!(orderB d.sec)))),(45,.bool (((((decide (d.yr<(1800:Int)))||(decide (d.yr>(2099:Int))))||(!(halfB d.half)))||(!(orderB d.sec)))||(decide (d.cyc<(0:Int))))),(46,.bool (((((decide (d.yr<(1800:Int)))||(decide (d.yr>(2099:Int))))||(!(halfB d.half)))||(!(orderB d.sec)))||(decide (d.cyc<(0:Int))))),(50,.bool ((((((decide (d.yr<(1800:Int)))||(decide (d.yr>(2099:Int))))||(!(halfB d.half)))||(!(orderB d.sec)))||(decide (d.cyc<(0:Int))))||(decide (d.cyc>(619:Int)))))]∧St w0 w noX [] [pt b_d1 (.cells (aD d) 24 (0,0))]) rfl ?_ ?_
    · rcases Bool.eq_false_or_eq_true (((((decide (d.yr<(1800:Int)))||(decide (d.yr>(2099:Int))))||(!(halfB d.half)))||(!(orderB d.sec)))||(decide (d.cyc<(0:Int)))) with hb12 | hb12
      · have hb12p:=hb12
        try simp only [Bool.and_eq_true,Bool.or_eq_true,Bool.and_eq_false_iff,Bool.or_eq_false_iff,decide_eq_true_eq,decide_eq_false_iff_not,Bool.not_eq_true',Bool.not_eq_false',Bool.not_eq_true,Bool.not_eq_false,ne_eq] at hb12p
        refine sk hf rfl hb12 fun a hf=>sk hf rfl hb12 fun a hf=>sk hf rfl hb12 fun a hf=>?_; refine ov (v:=.bool ((((((decide (d.yr<(1800:Int)))||(decide (d.yr>(2099:Int))))||(!(halfB d.half)))||(!(orderB d.sec)))||(decide (d.cyc<(0:Int))))||(decide (d.cyc>(619:Int))))) hf rfl (RunV.pick rfl rfl rfl (by rw [hb12]; rfl)) ?_; clear hf a; intro a hf; exact O.nil ⟨rfl,hf.q rfl,hS⟩
      · have hb12p:=hb12
        try simp only [Bool.and_eq_true,Bool.or_eq_true,Bool.and_eq_false_iff,Bool.or_eq_false_iff,decide_eq_true_eq,decide_eq_false_iff_not,Bool.not_eq_true',Bool.not_eq_false',Bool.not_eq_true,Bool.not_eq_false,ne_eq] at hb12p
        refine og (v:=.pointer (some ⟨b_d1,4,none⟩)) hf rfl hb12 (RunV.field T_field_24_4 rfl rfl) ?_; clear hf a; intro a hf; refine og (v:=.int .i64 d.cyc) hf rfl hb12 (RunV.load1 T_agg_3 rfl (hS.p 0 rfl) rfl) ?_; clear hf a; intro a hf; refine og (v:=.bool (decide (d.cyc>(619:Int)))) hf rfl hb12 (RunV.gtr rfl rfl) ?_; clear hf a; intro a hf; refine ov (v:=.bool ((((((decide (d.yr<(1800:Int)))||(decide (d.yr>(2099:Int))))||(!(halfB d.half)))||(!(orderB d.sec)))||(decide (d.cyc<(0:Int))))||(decide (d.cyc>(619:Int))))) hf rfl (RunV.pick rfl rfl rfl (by rw [hb12]; rfl)) ?_; clear hf a; intro a hf; exact O.nil ⟨rfl,hf.q rfl,hS⟩
    clear hf hS a; rintro a w ⟨hf,hS⟩; refine nk ?_; refine W.if_ hf rfl (fun hb2=>?_) (fun hb2=>?_)
    · have hb2b:=hb2
      try simp only [Bool.and_eq_true,Bool.or_eq_true,Bool.and_eq_false_iff,Bool.or_eq_false_iff,decide_eq_true_eq,decide_eq_false_iff_not,Bool.not_eq_true',Bool.not_eq_false',Bool.not_eq_true,Bool.not_eq_false,ne_eq] at hb2
      refine W.seq ?_
      refine W.regionL (l:=[0]) rfl<|mv hf rfl<|?_; clear hf a; intro a hf; refine nk<|W.ret<|k_then_ret<|post1 hf rfl (ResOK.tmp rfl)<|?_; exact ⟨(),congrArg (fun x=>Ending.returned (Value.int .i64 x)) (by rw [okD_28 hr]; first | rw [if_pos hn,ck_bad1 hb1b]; rfl | rw [if_neg hn,ck_bad2 hb2b]; rfl),hS.sub (List.nil_sublist _) |>.noB⟩
    · have hb2b:=hb2
      try simp only [Bool.and_eq_true,Bool.or_eq_true,Bool.and_eq_false_iff,Bool.or_eq_false_iff,decide_eq_true_eq,decide_eq_false_iff_not,Bool.not_eq_true',Bool.not_eq_false',Bool.not_eq_true,Bool.not_eq_false,ne_eq] at hb2
      refine W.skip<|k_seq<|W.seq<|?_
      refine W.regionL (l:=[0]) rfl<|mv hf rfl<|?_; clear hf a; intro a hf; refine nk<|W.ret<|post1 hf rfl (ResOK.tmp rfl)<|?_; exact ⟨(),congrArg (fun x=>Ending.returned (Value.int .i64 x)) (by rw [okD_28 hr]; first | rw [if_pos hn,ck_ok1 hb1b]; rfl | rw [if_neg hn,ck_ok2 hb2b]; rfl),hS.sub (List.nil_sublist _) |>.noB⟩
end Go.Proofs.YtgakdmmmljdpjaaDoor

namespace Go.SL
open Go
def eP (p:Int × Int):List Value:=[.int .i64 p.1,.int .i64 p.2]
def addC (d:Dg):Ch:=⟨1,d,default,0⟩
def oneG (d:Dg):PG:=([d],false)
theorem add_step {S:List PG} {d:Dg}:stepM S (addC d)=(match findG S d with | some _=>.error 14 | none=>.ok (oneG d::S)):=by
  unfold stepM addM addC oneG
  simp only [if_true]
  cases findG S d <;> rfl
theorem add_err:∀ {t:List Dg} {S:List PG} {e:Int},runL S (t.map addC)=.error e→e=14
  | [],S,e,h=>by cases h
  | d::t,S,e,h=>by
    simp only [List.map_cons,runL,add_step] at h
    cases hf:findG S d with
    | some _=>rw [hf] at h; cases h; rfl
    | none=>rw [hf] at h; exact add_err h
theorem add_ok:∀ {t:List Dg} {S S':List PG},runL S (t.map addC)=.ok S'→S'=(t.map oneG).reverse++S
  | [],S,S',h=>by cases h; rfl
  | d::t,S,S',h=>by
    simp only [List.map_cons,runL,add_step] at h
    cases hf:findG S d with
    | some _=>rw [hf] at h; cases h
    | none =>
      rw [hf] at h
      rw [add_ok h]
      simp
def togS (S:List PG) (a b:Dg):Prop:=∃ p ∈ S,a ∈ p.1∧b ∈ p.1
def Eqv (qs:List (Dg × Dg)) (a b:Dg):Prop:=∀ r:Dg→Dg→Prop,(∀ x,r x x)→(∀ x y,r x y→r y x)→(∀ x y z,r x y→r y z→r x z)→(∀ q ∈ qs,r q.1 q.2)→r a b
section
variable {qs qs':List (Dg × Dg)} {a b c x y:Dg}
theorem Eqv.refl:Eqv qs a a:=fun r h1 _ _ _=>h1 a
theorem Eqv.symm (h:Eqv qs a b):Eqv qs b a:=fun r h1 h2 h3 h4=>h2 _ _ (h r h1 h2 h3 h4)
theorem Eqv.trans (h:Eqv qs a b) (h':Eqv qs b c):Eqv qs a c:=fun r h1 h2 h3 h4=>h3 _ _ _ (h r h1 h2 h3 h4) (h' r h1 h2 h3 h4)
theorem Eqv.of (h:(a,b) ∈ qs):Eqv qs a b:=fun r _ _ _ h4=>h4 _ h
theorem Eqv.mono (hs:∀ q ∈ qs,Eqv qs' q.1 q.2) (h:Eqv qs a b):Eqv qs' a b:=h (Eqv qs') (fun _=>.refl) (fun _ _=>.symm) (fun _ _ _=>.trans) hs
theorem Eqv.nil (h:Eqv [] a b):a=b:=h Eq (fun _=>rfl) (fun _ _ h=>h.symm) (fun _ _ _ h h'=>h.trans h') (fun q hq=>by cases hq)
theorem Eqv.more (h:Eqv qs a b):Eqv (qs++[(x,y)]) a b:=h.mono fun q hq=>.of (List.mem_append_left _ hq)
end
structure OrdI (l:List Dg) (qs:List (Dg × Dg)) (fw:List Ch) (S:List PG) (us:List Bool):Prop where
  hist:histM fw=.ok (S,us)
  mem:∀ q ∈ qs,q.1 ∈ l∧q.2 ∈ l
  cov:∀ d ∈ l,∃ p ∈ S,d ∈ p.1
  inn:∀ p ∈ S,∀ d ∈ p.1,d ∈ l
  num:∀ p ∈ S,p.2=false
  tog:∀ a ∈ l,∀ b ∈ l,togS S a b↔Eqv qs a b
  cnt:fw.length+S.length=2*l.length
section
variable {l:List Dg} {qs qs2:List (Dg × Dg)} {fw bw:List Ch} {S T:List PG} {us vs:List Bool} {x y:Dg}
def JnR (fw:List Ch) (c:Ch) (e:Int) (R:List Ch):Prop:=(e=0∧R=fw++[c]∧∃ S us,appM fw c=.ok (S,us))∨(e=36∧R=[]∧appM fw c=.error 36)
theorem sortDs_perm {l m:List Dg} (h:l.Perm m):sortDs l=sortDs m:=sortDs_eq (h.trans (List.mergeSort_perm m _).symm) ((sort_pair m).imp fun {a b} hab=>by
  unfold ltD
  rw [decide_eq_false_iff_not,cmpD_anti]
  omega)
theorem objP_nodup (hw:wfS S):(S.map objP).Nodup:=by
  rw [List.nodup_iff_pairwise_ne,List.pairwise_map]
  refine List.Pairwise.imp_of_mem ?_ hw.1
  intro a b ha hb hab he
  have h4:=hd_mem (hw.2 a ha).1
  have h5:=hd_mem (hw.2 b hb).1
  have he2:(sortDs a.1).getD 0 default=(sortDs b.1).getD 0 default:=congrArg Prod.fst he
  rw [← he2] at h5
  exact hab _ h4 h5
def fP (l:List Dg) (p:Int × Int):Dg × Dg:=(l.getD p.1.toNat default,l.getD p.2.toNat default)
def bP (l:List Dg) (p:Int × Int):Dg × Dg:=(l.getD p.2.toNat default,l.getD p.1.toNat default)
end
end Go.SL
namespace Go.Proofs.YtgakdmmmljdpjaaDoor
open Go Go.SL
end Go.Proofs.YtgakdmmmljdpjaaDoor

namespace Go.SL
open Go
def n1:Dg:=⟨1,0,0,0,0⟩
def plusC:Ch:=⟨1,nameD 67,default,0⟩
def firstL:List Ch:=[⟨1,nameD 65,default,0⟩,⟨1,nameD 66,default,0⟩,undoC 0,⟨1,nameD 65,default,0⟩]
theorem sb_1 {us vs:List Bool} (h:¬ (us.length:Int)=(vs.length:Int)):decide (us=vs)=false:=decide_eq_false fun e=>h (by rw [e])
theorem sb_2 {us vs:List Bool} {k:Nat} (hk:k<us.length) (h:(!(us.getD k false == vs.getD k false))=true):decide (us=vs)=false:=decide_eq_false fun e=>by
  subst e; simp at h
theorem sb_3 {us vs:List Bool} (hl:us.length=vs.length) (h:∀ j,j<us.length→us.getD j false=vs.getD j false):decide (us=vs)=true:=decide_eq_true (by
  apply List.ext_getElem hl
  intro i h1 h2
  have:=h i h1
  simpa [List.getD_eq_getElem?_getD,List.getElem?_eq_getElem h1,List.getElem?_eq_getElem h2] using this)
end Go.SL
namespace Go.Proofs.YtgakdmmmljdpjaaDoor
open Go Go.SL
end Go.Proofs.YtgakdmmmljdpjaaDoor

set_option maxHeartbeats 1000000
set_option maxRecDepth 8000
namespace Go.Proofs.YtgakdmmmljdpjaaDoor
open Go Go.SL
set_option maxHeartbeats 400000 in
set_option maxRecDepth 4000 in
theorem sameBools_spec (va:Value) (us:List Bool) (vb:Value) (vs:List Bool) (w0:World) (ha:rdOK (hp w0) 1 va us.length (bools us)) (hb:rdOK (hp w0) 1 vb vs.length (bools vs)) :
    Ret Tryd.prog 27 #[va,vb] w0 (G:=Unit) (fun _=>.bool (decide (us=vs))) (fun _ w=>St w0 w noX [] []):=by
  refine ret_of_W (lv:=[va,vb]) Tryd.func27 rfl rfl rfl (fun a hf=>?_); replace hf:Fr a 26 [] [(0,va),(1,vb)]:=hf; have hS:St w0 w0 noX [rdv 1 va us.length (bools us),rdv 1 vb vs.length (bools vs)] []:=((St.refl w0).lend0 hb).lend0 ha; have hlm1:=ha.2.1; have hlm2:=hb.2.1; unfold maxLen at hlm1 hlm2; clear ha hb; refine W.seq ?_
  refine W.regionL (l:=[0]) rfl<|mv hf rfl<|?_; clear hf a; intro a hf; refine nk<|W.seq<|W.seq<|?_
  refine W.regionL (l:=[0,1,2,3,4]) rfl<|mv hf rfl<|?_; clear hf a; intro a hf; refine ov hf rfl (RunV.lenV (e:=4) (by simpa using T_elem_51) rfl (hS.rdAt (j:=0) rfl)) ?_; clear hf a; intro a hf; refine mv hf rfl ?_; clear hf a; intro a hf; refine ov hf rfl (RunV.lenV (e:=4) (by simpa using T_elem_51) rfl (hS.rdAt (j:=1) rfl)) ?_; clear hf a; intro a hf; refine ov (v:=.bool (decide ((us.length:Int)≠((vs.length:Int):Int)))) hf rfl (RunV.neq rfl rfl) ?_; clear hf a; intro a hf; refine nk ?_; refine W.ifdI hf rfl (fun hne=>?_) (fun hne=>?_)
  · refine W.seq ?_
    refine W.regionL (l:=[0]) rfl<|mv hf rfl<|?_; clear hf a; intro a hf; refine nk<|W.ret<|k_then_ret<|post1 hf rfl (ResOK.tmp rfl)<|?_; exact ⟨(),congrArg (fun b=>Ending.returned (Value.bool b)) (by first | exact (sb_1 hne).symm | exact (sb_2 (by omega) hdb).symm),hS.sub (List.nil_sublist _) |>.noB⟩
  · refine W.skip ?_
    refine k_seq<|W.seq<|W.seq<|?_
    refine W.regionL (l:=[0]) rfl<|mv hf rfl<|?_; clear hf a; intro a hf; refine nk<|W.block<|?_
    refine W.loop (G:=(Nat)) (fun g a w=>match g with | k=>Fr a 26 [] [(0,va),(1,vb),(5,.int .i64 (k:Int))]∧St w0 w noX [rdv 1 va us.length (bools us),rdv 1 vb vs.length (bools vs)] []∧(k≤us.length)∧(∀ j,j<k→us.getD j false=vs.getD j false)) (fun g=>match g with | k=>us.length-k) 0 ?_ ?_
    · refine ⟨hf.to ⟨rfl,rfl,(by first | rfl | exact congrArg some (congrArg (Value.int _) (by omega))),trivial⟩,hS,?_,?_⟩
      · omega
      · intro j hj; omega
    clear hf hS a; rintro k a w ⟨hf,hS,hk,h2⟩; refine W.seq<|W.seq<|?_
    refine W.regionL (l:=[0,1,2,3]) rfl<|mv hf rfl<|?_; clear hf a; intro a hf; refine mv hf rfl ?_; clear hf a; intro a hf; refine ov hf rfl (RunV.lenV (e:=4) (by simpa using T_elem_51) rfl (hS.rdAt (j:=0) rfl)) ?_; clear hf a; intro a hf; refine ov (v:=.bool (decide ((k:Int)<((us.length:Int):Int)))) hf rfl (RunV.lss rfl rfl) ?_; clear hf a; intro a hf; refine nk ?_; refine W.ifdI hf rfl (fun hlt=>?_) (fun hlt=>?_)
    · refine W.skip ?_
      refine k_seq<|W.seq<|W.block<|W.seq<|?_
      refine W.drawQ (fun w=>St w0 w noX [rdv 1 va us.length (bools us),rdv 1 vb vs.length (bools vs)] []) P_mixed rfl (by kernel_rfl) rfl hS.drew ?_; clear hS; refine OQ.val (v:=va) hf rfl (fun w hS=>RunV.move rfl) fun a hf=>OQ.val (v:=.int .i64 (k:Int)) hf rfl (fun w hS=>RunV.move rfl) fun a hf=>OQ.val (v:=ix va k) hf rfl (fun w hS=>RunV.ixV (j:=k) (m:=k) T_elem_51 T_size_4 rfl rfl (hS.rdAt (j:=0) rfl) rfl (by omega) (Nat.mul_one _)) fun a hf=>OQ.val (v:=.bool (us.getD k false)) hf rfl (fun w hS=>RunV.ld1 T_agg_4 rfl (hS.rdAt (j:=0) rfl) (bools_get (by omega))) fun a hf=>OQ.val (v:=vb) hf rfl (fun w hS=>RunV.move rfl) fun a hf=>OQ.val (v:=.int .i64 (k:Int)) hf rfl (fun w hS=>RunV.move rfl) fun a hf=>OQ.val (v:=ix vb k) hf rfl (fun w hS=>RunV.ixV (j:=k) (m:=k) T_elem_51 T_size_4 rfl rfl (hS.rdAt (j:=1) rfl) rfl (by omega) (Nat.mul_one _)) fun a hf=>OQ.val (v:=.bool (vs.getD k false)) hf rfl (fun w hS=>RunV.ld1 T_agg_4 rfl (hS.rdAt (j:=1) rfl) (bools_get (by omega))) fun a hf=>OQ.val (v:=.bool (!(us.getD k false == vs.getD k false))) hf rfl (fun w hS=>RunV.neBool (by kernel_rfl) rfl rfl) fun a hf=>?_; refine OQ.nil ?_; intro w hS; refine k_seq ?_; refine W.if_ hf rfl (fun hd=>?_) (fun hd=>?_)
      · have hdb:=hd
        try simp only [Bool.and_eq_true,Bool.or_eq_true,Bool.and_eq_false_iff,Bool.or_eq_false_iff,decide_eq_true_eq,decide_eq_false_iff_not,Bool.not_eq_true',Bool.not_eq_false',Bool.not_eq_true,Bool.not_eq_false,ne_eq] at hd
        refine W.seq ?_
        refine W.regionL (l:=[0]) rfl<|mv hf rfl<|?_; clear hf a; intro a hf; refine nk<|W.ret<|k_blk_ret<|k_then_ret<|k_then_ret<|k_blk_ret<|k_then_ret<|post1 hf rfl (ResOK.tmp rfl)<|?_; exact ⟨(),congrArg (fun b=>Ending.returned (Value.bool b)) (by first | exact (sb_1 hne).symm | exact (sb_2 (by omega) hdb).symm),hS.sub (List.nil_sublist _) |>.noB⟩
      · have hdb:=hd
        try simp only [Bool.and_eq_true,Bool.or_eq_true,Bool.and_eq_false_iff,Bool.or_eq_false_iff,decide_eq_true_eq,decide_eq_false_iff_not,Bool.not_eq_true',Bool.not_eq_false',Bool.not_eq_true,Bool.not_eq_false,ne_eq] at hd
        refine W.skip<|k_blk_normal<|k_seq<|?_
        refine W.regionL (l:=[0,1,2]) rfl<|mv hf rfl<|?_; clear hf a; intro a hf; refine ov hf rfl (RunV.addI rfl rfl (by omega)) ?_; clear hf a; intro a hf; refine mv hf rfl ?_; clear hf a; intro a hf; refine O.nil ?_; refine k_then ⟨(k+1),⟨hf.to ⟨rfl,rfl,(by first | rfl | exact congrArg some (congrArg (Value.int _) (by omega))),trivial⟩,?_,?_,?_⟩,?_⟩
        · exact hS.eqM rfl
        · omega
        · intro j hj; by_cases hjk:j<k
          · exact h2 j hjk
          · have:j=k:=by omega
            subst this; simpa using hdb
        · dsimp only; omega
    · refine W.exit ?_
      refine k_then_exit<|k_then_exit<|k_blk<|k_seq<|?_; replace hf:Fr a 26 [] []:=hf.to trivial; refine W.seq ?_
      refine W.regionL (l:=[0]) rfl<|mv hf rfl<|?_; clear hf a; intro a hf; refine nk<|W.ret<|post1 hf rfl (ResOK.tmp rfl)<|?_; exact ⟨(),congrArg (fun b=>Ending.returned (Value.bool b)) (sb_3 (by omega) (fun j hj=>h2 j (by omega))).symm,hS.sub (List.nil_sublist _) |>.noB⟩
theorem sameBools_true (va:Value) (us:List Bool) (vb:Value) (vs:List Bool) (w0:World) (ha:rdOK (hp w0) 1 va us.length (bools us)) (hb:rdOK (hp w0) 1 vb vs.length (bools vs)) (h:us=vs) :
    Ret Tryd.prog 27 #[va,vb] w0 (G:=Unit) (fun _=>.bool true) (fun _ w=>St w0 w noX [] []):=by
  have h3:=sameBools_spec va us vb vs w0 ha hb; rw [decide_eq_true h] at h3; exact h3
end Go.Proofs.YtgakdmmmljdpjaaDoor

namespace Go.SL
open Go
def findR (L:List PO) (d:Dg):Int:=match L.findIdx? fun x=>decide (d ∈ x.2) with | some i=>(i:Int) | none=>-1
theorem findR_hit {L:List PO} {d:Dg} {i:Nat} (h:∀ j,j<i→d ∉ (L.getD j default).2) (hi:i<L.length) (hd:d ∈ (L.getD i default).2):findR L d=(i:Int):=by
  have:L.findIdx? (fun x=>decide (d ∈ x.2))=some i:=by
    rw [List.findIdx?_eq_some_iff_getElem]
    refine ⟨hi,by simpa [List.getD_eq_getElem?_getD,List.getElem?_eq_getElem hi] using hd,fun j hj=>?_⟩
    have:=h j hj
    simpa [List.getD_eq_getElem?_getD,List.getElem?_eq_getElem (show j<L.length by omega)] using this
  unfold findR
  rw [this]
theorem findR_none {L:List PO} {d:Dg} (h:∀ j,j<L.length→d ∉ (L.getD j default).2):findR L d=-1:=by
  have:L.findIdx? (fun x=>decide (d ∈ x.2))=none:=by
    rw [List.findIdx?_eq_none_iff]
    intro x hx
    obtain ⟨j,hj,rfl⟩:=List.mem_iff_getElem.1 hx
    have:=h j hj
    simpa [List.getD_eq_getElem?_getD,List.getElem?_eq_getElem hj] using this
  unfold findR
  rw [this]
theorem mem_getD {l:List Dg} {d:Dg}:d ∈ l↔∃ k,k<l.length∧l.getD k default=d:=by
  constructor
  · intro h
    obtain ⟨k,hk,rfl⟩:=List.mem_iff_getElem.1 h
    exact ⟨k,hk,by simp [List.getD_eq_getElem?_getD,List.getElem?_eq_getElem hk]⟩
  · rintro ⟨k,hk,rfl⟩
    rw [List.getD_eq_getElem?_getD,List.getElem?_eq_getElem hk]
    exact List.getElem_mem _
theorem fd_row {l:List Dg} {d:Dg} {n:Nat} (hn:l.length≤n) (h:∀ j,j<n→l.getD j default≠d):d ∉ l:=fun hd=>by
  obtain ⟨k,hk,e⟩:=mem_getD.1 hd
  exact h k (by omega) e
section
variable {T:Type}
def putAt (s:List T) (k:Nat) (x:T):List T:=s.take k++x::s.drop k
theorem putAt_len {s:List T} {k:Nat} {x:T}:(putAt s k x).length=s.length+1:=by
  unfold putAt; simp only [List.length_append,List.length_cons,List.length_take,List.length_drop]; omega
theorem putAt_end {s:List T} {x:T}:putAt s s.length x=s++[x]:=by unfold putAt; simp
theorem putAt_perm {s:List T} {k:Nat} {x:T}:(putAt s k x).Perm (s++[x]):=by
  unfold putAt
  refine List.perm_middle.trans ?_
  rw [List.take_append_drop]
  exact (List.perm_append_comm (l₁:=[x]) (l₂:=s))
theorem putAt_pair {R:T→T→Prop} {s:List T} {k:Nat} {x:T} (hs:s.Pairwise R) (h1:∀ y ∈ s.take k,R y x) (h2:∀ y ∈ s.drop k,R x y):(putAt s k x).Pairwise R:=by
  unfold putAt
  have hs':=hs
  rw [← List.take_append_drop k s,List.pairwise_append] at hs'
  rw [List.pairwise_append,List.pairwise_cons]
  refine ⟨hs'.1,⟨h2,hs'.2.1⟩,fun a ha b hb=>?_⟩
  rcases List.mem_cons.1 hb with rfl | hb
  · exact h1 a ha
  · exact hs'.2.2 a ha b hb
end
section
variable {T:Type} [Inhabited T]
theorem putAt_get {s:List T} {k j:Nat} {x:T} (hk:k≤s.length):(putAt s k x).getD j default=if j<k then s.getD j default else if j=k then x else s.getD (j-1) default:=by
  unfold putAt
  simp only [List.getD_eq_getElem?_getD]
  split
  · rw [List.getElem?_append_left (by rw [List.length_take]; omega),List.getElem?_take_of_lt (by omega)]
  · split
    · rename_i h; subst h
      rw [List.getElem?_append_right (by rw [List.length_take]; omega),List.length_take,Nat.min_eq_left hk]
      simp
    · rw [List.getElem?_append_right (by rw [List.length_take]; omega),List.length_take,Nat.min_eq_left hk]
      obtain ⟨m,hm⟩:∃ m,j-k=m+1:=⟨j-k-1,by omega⟩
      rw [hm,List.getElem?_cons_succ,List.getElem?_drop]
      congr 2; omega
theorem putAt_swap {s:List T} {k:Nat} {x:T} (h0:0<k) (hk:k≤s.length):((putAt s k x).set (k-1) x).set k (s.getD (k-1) default)=putAt s (k-1) x:=by
  apply List.ext_getElem?
  intro j
  rw [List.getElem?_set,List.getElem?_set]
  have e:∀ q (m:Nat),m<(putAt s q x).length→(putAt s q x)[m]? = some ((putAt s q x).getD m default):=fun q m hm=>by
    simp [List.getD_eq_getElem?_getD,List.getElem?_eq_getElem hm]
  by_cases hj:j<s.length+1
  · rw [e (k-1) j (by rw [putAt_len]; exact hj),putAt_get (by omega)]
    simp only [List.length_set,putAt_len]
    by_cases h1:k=j
    · subst h1
      rw [if_pos rfl,if_pos hj,if_neg (by omega),if_neg (by omega)]
    · rw [if_neg h1]
      by_cases h2:k-1=j
      · subst h2
        rw [if_pos rfl,if_pos hj,if_neg (by omega),if_pos rfl]
      · rw [if_neg h2,e k j (by rw [putAt_len]; exact hj),putAt_get hk]
        by_cases h3:j<k-1
        · rw [if_pos (by omega),if_pos h3]
        · rw [if_neg (by omega),if_neg (by omega),if_neg h3,if_neg (by omega)]
  · rw [List.getElem?_eq_none (l:=putAt s (k-1) x) (by rw [putAt_len]; omega)]
    rw [if_neg (by omega),if_neg (by omega),List.getElem?_eq_none (by rw [putAt_len]; omega)]
end
structure InsI {T:Type} [Inhabited T] (key:T→Dg) (t s:List T) (i k:Nat):Prop where
  hi:i<t.length
  hk:k≤i
  len:s.length=i
  perm:s.Perm (t.take i)
  sorted:s.Pairwise fun x y=>cmpD (key x) (key y)≤0
  big:∀ y ∈ s.drop k,cmpD (key (t.getD i default)) (key y)≤0
section
variable {T:Type} [Inhabited T] {key:T→Dg} {t s:List T} {i k:Nat}
theorem InsI.step (I:InsI key t s i k) (h0:0<k) (h:cmpD (key (t.getD i default)) (key (s.getD (k-1) default))<0):InsI key t s i (k-1) :=
  ⟨I.hi,by have:=I.hk; omega,I.len,I.perm,I.sorted,fun y hy=>by
    have hk:=I.hk
    have hl:=I.len
    rw [List.drop_eq_getElem_cons (show k-1<s.length by omega),show k-1+1=k by omega] at hy
    rcases List.mem_cons.1 hy with rfl | hy
    · have:s.getD (k-1) default=s[k-1]:=by simp [List.getD_eq_getElem?_getD,List.getElem?_eq_getElem (show k-1<s.length by omega)]
      rw [this] at h; omega
    · exact I.big y hy⟩
theorem InsI.done (I:InsI key t s i k) (h:0<k→¬ cmpD (key (t.getD i default)) (key (s.getD (k-1) default))<0):(putAt s k (t.getD i default)).Perm (t.take (i+1))∧(putAt s k (t.getD i default)).Pairwise fun x y=>cmpD (key x) (key y)≤0:=by
  have hi:=I.hi
  have hk:=I.hk
  have hl:=I.len
  refine ⟨?_,putAt_pair I.sorted (fun y hy=>?_) I.big⟩
  · rw [take_snoc hi]
    exact putAt_perm.trans (I.perm.append_right _)
  · obtain ⟨j,hj,rfl⟩:=List.mem_iff_getElem.1 hy
    rw [List.length_take] at hj
    have h0:0<k:=by omega
    have h1:=h h0
    rw [cmpD_anti] at h1
    have h2:cmpD (key (s.getD (k-1) default)) (key (t.getD i default))≤0:=by omega
    rw [List.getElem_take]
    by_cases hjk:j=k-1
    · subst hjk
      have:s.getD (k-1) default=s[k-1]:=by simp [List.getD_eq_getElem?_getD,List.getElem?_eq_getElem (show k-1<s.length by omega)]
      rw [this] at h2; exact h2
    · have h3:=pair_getD I.sorted (i:=j) (j:=k-1) (by omega) (by omega)
      have:s.getD j default=s[j]:=by simp [List.getD_eq_getElem?_getD,List.getElem?_eq_getElem (show j<s.length by omega)]
      rw [this] at h3
      exact (cmpD_trans h3 h2).1
end
end Go.SL
namespace Go.SL
open Go
theorem idx_nat {T:Type} [Inhabited T] {l:List T} {j:Nat} (h:j<l.length):idx l ((j:Nat):Int)=some (l.getD j default):=by
  unfold idx
  rw [if_pos (by omega)]
  simp [List.getD_eq_getElem?_getD,List.getElem?_eq_getElem h]
section
variable {T:Type} [Inhabited T] {key:T→Dg} {t s:List T} {i k:Nat} {x:T}
theorem ins_y (I:InsI key t s i k) (h0:0<k):s.getD (k-1) default ∈ t:=by
  have hk:=I.hk
  have hl:=I.len
  refine List.mem_of_mem_take (I.perm.mem_iff.1 ?_)
  rw [List.getD_eq_getElem?_getD,List.getElem?_eq_getElem (by omega)]
  exact List.getElem_mem _
theorem ins_x (I:InsI key t s i k):t.getD i default ∈ t:=by
  rw [List.getD_eq_getElem?_getD,List.getElem?_eq_getElem I.hi]
  exact List.getElem_mem _
theorem ins_stop (I:InsI key t s i k) (hok:∀ y ∈ t,okD (key y)=true∧rD (key y)) (hx:x=t.getD i default)
    (h:(decide ((k:Int)>(0:Int))&&decide (befM (key x) (key (s.getD (k-1) default))<(0:Int)))=false):(putAt s k x).Perm (t.take (i+1))∧(putAt s k x).Pairwise fun x y=>cmpD (key x) (key y)≤0:=by
  subst hx
  refine I.done fun h0 hc=>?_
  have h1:=hok _ (ins_x I)
  have h2:=hok _ (ins_y I h0)
  rw [bef_cmp h1.1 h2.1 h1.2 h2.2,decide_eq_true (show (k:Int)>0 by omega),decide_eq_true hc] at h
  cases h
theorem ins_go (I:InsI key t s i k) (hok:∀ y ∈ t,okD (key y)=true∧rD (key y)) (hx:x=t.getD i default)
    (h:(decide ((k:Int)>(0:Int))&&decide (befM (key x) (key (s.getD (k-1) default))<(0:Int)))=true):0<k∧InsI key t s i (k-1):=by
  subst hx
  rw [Bool.and_eq_true,decide_eq_true_eq,decide_eq_true_eq] at h
  have h0:0<k:=by omega
  refine ⟨h0,I.step h0 ?_⟩
  have h1:=hok _ (ins_x I)
  have h2:=hok _ (ins_y I h0)
  rw [bef_cmp h1.1 h2.1 h1.2 h2.2] at h
  exact h.2
theorem ins_start (hi:i<t.length) (hl:s.length=i) (hp:s.Perm (t.take i)) (hs:s.Pairwise fun x y=>cmpD (key x) (key y)≤0):InsI key t s i i :=
  ⟨hi,Nat.le_refl _,hl,hp,hs,fun y hy=>by rw [List.drop_eq_nil_of_le (by omega)] at hy; cases hy⟩
end
theorem ins_end {l s:List Dg} {i:Nat} (hi:l.length≤i) (hp:s.Perm (l.take i)) (hs:s.Pairwise fun x y=>cmpD x y≤0):s=sortDs l:=by
  rw [List.take_of_length_le hi] at hp
  refine (sortDs_eq hp.symm (hs.imp fun {a b} hab=>?_)).symm
  unfold ltD
  rw [decide_eq_false_iff_not,cmpD_anti]
  omega
end Go.SL

namespace Go.SL
open Go
section
variable {T:Type}
def delR (l:List T) (i:Nat):List T:=lsub l 0 (i:Int)++lsub l ((i:Int)+1) (l.length:Int)
theorem delR_eq {l:List T} {i:Nat}:delR l i=l.take i++l.drop (i+1):=by
  unfold delR lsub
  rw [show ((i:Int)+1).toNat=i+1 by omega]
  simp
theorem delR_map {U:Type} {f:T→U} {l:List T} {i:Nat}:(delR l i).map f=delR (l.map f) i:=by
  simp only [delR_eq,List.map_append,List.map_take,List.map_drop]
theorem delR_mem {l:List T} {i:Nat} {x:T} (h:x ∈ delR l i):x ∈ l:=by
  rw [delR_eq] at h
  rcases List.mem_append.1 h with h | h
  · exact List.mem_of_mem_take h
  · exact List.mem_of_mem_drop h
end
section
variable {T:Type} [Inhabited T]
theorem delR_perm {l:List T} {i:Nat} (h:i<l.length):l.Perm (l.getD i default::delR l i):=by
  rw [delR_eq]
  have h1:l.drop i=l.getD i default::l.drop (i+1):=by
    rw [List.drop_eq_getElem_cons h]; simp [List.getD_eq_getElem?_getD,List.getElem?_eq_getElem h]
  have h2:=List.take_append_drop i l
  rw [h1] at h2
  have h3:(l.take i++l.getD i default::l.drop (i+1)).Perm (l.getD i default::(l.take i++l.drop (i+1))):=List.perm_middle
  rw [h2] at h3
  exact h3
theorem delR_len {l:List T} {i:Nat} (h:i<l.length):(delR l i).length+1=l.length:=by
  have:=(delR_perm h).length_eq
  simp only [List.length_cons] at this
  omega
theorem delR_get {l:List T} {i j:Nat} (h:j<i) (hi:i<l.length):(delR l i).getD j default=l.getD j default:=by
  rw [delR_eq]
  simp only [List.getD_eq_getElem?_getD]
  rw [List.getElem?_append_left (by rw [List.length_take]; omega),List.getElem?_take_of_lt h]
theorem del2_perm {l:List T} {i j:Nat} (h:i<j) (hj:j<l.length):l.Perm (l.getD i default::l.getD j default::delR (delR l j) i):=by
  have h1:=delR_perm hj
  have h2:=delR_perm (l:=delR l j) (i:=i) (by have:=delR_len hj; omega)
  rw [delR_get h hj] at h2
  exact h1.trans ((h2.cons _).trans (List.Perm.swap _ _ _))
end
def objR (m:List Dg):PO:=((sortDs m).getD 0 default,sortDs m)
def nextR (L:List PO) (c:Ch):Except Int (List PO) :=
  let a:=findR L c.a
  let b:=findR L c.b
  if c.kind=1 then (if a≥0 then .error 14 else .ok (L++[objR [c.a]]))
  else if c.kind=2 then
    (if a<0∨b<0 then .error 6
     else if a=b∨(0<(L.getD a.toNat default).1.num∧0<(L.getD b.toNat default).1.num) then .error 36
     else .ok (delR (delR L (max a b).toNat) (min a b).toNat++[objR ((L.getD a.toNat default).2++(L.getD b.toNat default).2)]))
  else if a<0 then .error 6
  else if b≥0 then .error 14
  else if 0<(L.getD a.toNat default).1.num then .error 36
  else .ok (delR L a.toNat++[objR ((L.getD a.toNat default).2++[c.b])])
section
variable {L:List PO} {S S':List PG} {d:Dg} {c:Ch} {p x y:PG}
theorem find_ref0 (hp:L.Perm (S.map objP)) (h:findG S d=none):findR L d=-1:=findR_none fun j hj hd=>by
  have hm:L.getD j default ∈ L:=by rw [List.getD_eq_getElem?_getD,List.getElem?_eq_getElem hj]; exact List.getElem_mem _
  obtain ⟨p,hpS,he⟩:=List.mem_map.1 (hp.mem_iff.1 hm)
  rw [← he] at hd
  exact find_none h p hpS (sort_mem.1 hd)
theorem find_ref1 (hp:L.Perm (S.map objP)) (hw:wfS S) (h:findG S d=some p):∃ i:Nat,findR L d=(i:Int)∧i<L.length∧L.getD i default=objP p:=by
  have h1:=findG_mem h
  have hm:objP p ∈ L:=hp.mem_iff.2 (List.mem_map.2 ⟨p,h1.1,rfl⟩)
  have hex:∃ i,i<L.length∧d ∈ (L.getD i default).2:=by
    obtain ⟨i,hi,he⟩:=List.mem_iff_getElem.1 hm
    refine ⟨i,hi,?_⟩
    have:L.getD i default=objP p:=by simp [List.getD_eq_getElem?_getD,List.getElem?_eq_getElem hi,he]
    rw [this]
    exact sort_mem.2 h1.2
  obtain ⟨i,⟨hi,hd⟩,hmin⟩:∃ i,(i<L.length∧d ∈ (L.getD i default).2)∧∀ j,j<i→¬ (j<L.length∧d ∈ (L.getD j default).2):=by
    obtain ⟨i,hi⟩:=hex
    induction i using Nat.strongRecOn with
    | ind i ih =>
      by_cases hj:∃ j,j<i∧(j<L.length∧d ∈ (L.getD j default).2)
      · obtain ⟨j,hji,hj⟩:=hj
        exact ih j hji hj
      · exact ⟨i,hi,fun j hji hj'=>hj ⟨j,hji,hj'⟩⟩
  refine ⟨i,findR_hit (fun j hj hd'=>hmin j hj ⟨by omega,hd'⟩) hi hd,hi,?_⟩
  have hm':L.getD i default ∈ L:=by rw [List.getD_eq_getElem?_getD,List.getElem?_eq_getElem hi]; exact List.getElem_mem _
  obtain ⟨q,hq,he⟩:=List.mem_map.1 (hp.mem_iff.1 hm')
  rw [← he] at hd ⊢
  rw [pg_uniq hw.1 hq h1.1 (sort_mem.1 hd) h1.2]
theorem num_iff (hw:okG p):0<(objP p).1.num↔p.2=true:=by
  refine ⟨fun h=>?_,num_head hw⟩
  cases h2:p.2 with
  | true=>rfl
  | false =>
    have h3:=hw.2.2
    rw [h2,if_neg (by decide)] at h3
    unfold numC at h3
    rw [List.countP_eq_zero] at h3
    exact absurd h (fun h=>by
      have h4:=h3 _ (hd_mem hw.1)
      simp only [decide_eq_true_eq] at h4
      exact h4 h)
theorem objR_merged:objR ((objP x).2++(objP y).2)=objP (merged x y):=by
  have h:((objP x).2++(objP y).2).Perm (merged x y).1:=((List.mergeSort_perm x.1 _).append (List.mergeSort_perm y.1 _)).trans (merged_perm x y).symm
  unfold objR
  rw [sortDs_perm h]
  rfl
theorem objR_named:objR ((objP x).2++[d])=objP (x.1++[d],true):=by
  have h:((objP x).2++[d]).Perm (x.1++[d]):=(List.mergeSort_perm x.1 _).append_right _
  unfold objR
  rw [sortDs_perm h]
  rfl
theorem nodup_L (hp:L.Perm (S.map objP)) (hw:wfS S):L.Nodup:=hp.nodup_iff.2 (objP_nodup hw)
theorem idx_eq (hp:L.Perm (S.map objP)) (hw:wfS S) {i j:Nat} (hi:i<L.length) (hj:j<L.length) (he:L.getD i default=L.getD j default):i=j:=by
  have hn:=nodup_L hp hw
  rw [List.nodup_iff_pairwise_ne] at hn
  rcases Nat.lt_trichotomy i j with h | h | h
  · exact absurd he (pair_getD hn h hj)
  · exact h
  · exact absurd he.symm (pair_getD hn h hi)
theorem step_ref (hp:L.Perm (S.map objP)) (hw:wfS S) (hk:c.kind=1∨c.kind=2∨c.kind=3) :
    (∀ e,stepM S c=.error e→nextR L c=.error e)∧(∀ S',stepM S c=.ok S'→∃ L',nextR L c=.ok L'∧L'.Perm (S'.map objP)):=by
  unfold stepM nextR
  by_cases h1:c.kind=1
  · simp only [if_pos h1]
    unfold addM
    cases hf:findG S c.a with
    | none =>
      rw [find_ref0 hp hf,if_neg (by decide)]
      refine ⟨fun e h=>(by cases h),fun S' h=>⟨_,rfl,?_⟩⟩
      cases h
      exact (List.perm_append_comm (l₁:=L) (l₂:=[objR [c.a]])).trans (List.Perm.cons _ hp)
    | some p =>
      obtain ⟨i,hi,_⟩:=find_ref1 hp hw hf
      rw [hi,if_pos (by omega)]
      exact ⟨fun e h=>by cases h; rfl,fun S' h=>by cases h⟩
  · simp only [if_neg h1]
    by_cases h2:c.kind=2
    · simp only [if_pos h2]
      unfold joinM
      cases hfa:findG S c.a with
      | none =>
        simp only [find_ref0 hp hfa]
        rw [if_pos (.inl (by decide))]
        refine ⟨fun e h=>?_,fun S' h=>?_⟩ <;> (cases findG S c.b <;> cases h) <;> rfl
      | some x =>
        obtain ⟨i,hi,hil,hix⟩:=find_ref1 hp hw hfa
        cases hfb:findG S c.b with
        | none =>
          simp only [find_ref0 hp hfb]
          rw [if_pos (.inr (by decide))]
          refine ⟨fun e h=>by cases h; rfl,fun S' h=>by cases h⟩
        | some y =>
          obtain ⟨j,hj,hjl,hjy⟩:=find_ref1 hp hw hfb
          have hx:=findG_mem hfa
          have hy:=findG_mem hfb
          simp only [hi,hj,Int.toNat_natCast]
          rw [if_neg (show ¬ ((i:Int)<0∨(j:Int)<0) by omega),hix,hjy]
          have hiff:((i:Int)=(j:Int)∨(0<(objP x).1.num∧0<(objP y).1.num))↔(x=y∨(x.2&&y.2)=true):=by
            rw [num_iff (hw.2 x hx.1),num_iff (hw.2 y hy.1),Bool.and_eq_true]
            refine or_congr ⟨fun h=>?_,fun h=>?_⟩ Iff.rfl
            · have:i=j:=by omega
              subst this
              rw [hix] at hjy
              exact objP_inj hw hx.1 hy.1 (congrArg Prod.fst hjy)
            · subst h
              have:=idx_eq hp hw hil hjl (hix.trans hjy.symm)
              omega
          by_cases h36:x=y∨(x.2&&y.2)=true
          · rw [if_pos h36,if_pos (hiff.2 h36)]
            exact ⟨fun e h=>by cases h; rfl,fun S' h=>by cases h⟩
          · rw [if_neg h36,if_neg (fun h=>h36 (hiff.1 h))]
            refine ⟨fun e h=>(by cases h),fun S' h=>⟨_,rfl,?_⟩⟩
            cases h
            have hne:i≠j:=fun h=>h36 (hiff.1 (.inl (by omega)))
            have hS:=pg_take2 hx.1 hy.1 hw.1 hx.2 hy.2 (fun h=>h36 (.inl (pg_uniq hw.1 hx.1 hy.1 hx.2 h)))
            rw [objR_merged]
            refine (List.perm_append_comm (l₂:=[objP (merged x y)])).trans (List.Perm.cons _ ?_)
            have hL:L.Perm (objP x::objP y::delR (delR L (max (i:Int) (j:Int)).toNat) (min (i:Int) (j:Int)).toNat):=by
              rcases Nat.lt_or_gt_of_ne hne with h | h
              · rw [show (max (i:Int) (j:Int)).toNat=j by omega,show (min (i:Int) (j:Int)).toNat=i by omega]
                have:=del2_perm h hjl
                rw [hix,hjy] at this
                exact this
              · rw [show (max (i:Int) (j:Int)).toNat=i by omega,show (min (i:Int) (j:Int)).toNat=j by omega]
                have:=del2_perm h hil
                rw [hix,hjy] at this
                exact this.trans (List.Perm.swap _ _ _)
            exact (hL.symm.trans (hp.trans (hS.map objP))).cons_inv.cons_inv
    · simp only [if_neg h2]
      unfold nameM
      cases hfa:findG S c.a with
      | none =>
        simp only [find_ref0 hp hfa]
        rw [if_pos (by decide)]
        exact ⟨fun e h=>by cases h; rfl,fun S' h=>by cases h⟩
      | some x =>
        obtain ⟨i,hi,hil,hix⟩:=find_ref1 hp hw hfa
        have hx:=findG_mem hfa
        cases hfb:findG S c.b with
        | some y =>
          obtain ⟨j,hj,hjl,hjy⟩:=find_ref1 hp hw hfb
          simp only [hi,hj]
          rw [if_neg (show ¬ (i:Int)<0 by omega),if_pos (show (j:Int)≥0 by omega)]
          exact ⟨fun e h=>by cases h; rfl,fun S' h=>by cases h⟩
        | none =>
          simp only [hi,find_ref0 hp hfb,Int.toNat_natCast]
          rw [if_neg (show ¬ (i:Int)<0 by omega),if_neg (show ¬ (-1:Int)≥0 by decide),hix]
          have hn:=num_iff (hw.2 x hx.1)
          by_cases h36:x.2=true
          · rw [if_pos h36,if_pos (hn.2 h36)]
            exact ⟨fun e h=>by cases h; rfl,fun S' h=>by cases h⟩
          · rw [if_neg h36,if_neg (fun h=>h36 (hn.1 h))]
            refine ⟨fun e h=>(by cases h),fun S' h=>⟨_,rfl,?_⟩⟩
            cases h
            have hS:=pg_take hx.1 hw.1 hx.2
            rw [objR_named]
            refine (List.perm_append_comm (l₂:=[objP (x.1++[c.b],true)])).trans (List.Perm.cons _ ?_)
            have hL:=delR_perm hil
            rw [hix] at hL
            exact (hL.symm.trans (hp.trans (hS.map objP))).cons_inv
end
end Go.SL
namespace Go.SL
open Go
theorem find_hitO {os:List Ob} {d:Dg} {i k:Nat} (h:∀ j,j<i→d ∉ (os.getD j default).l) (hi:i<os.length) (hk:k<(os.getD i default).l.length) (hd:(os.getD i default).l.getD k default=d):findR (os.map prO) d=(i:Int) :=
  findR_hit (fun j hj=>by rw [prO_getD (by omega)]; exact h j hj) (by simpa using hi) (by rw [prO_getD hi]; exact mem_getD.2 ⟨k,hk,hd⟩)
theorem find_noneO {os:List Ob} {d:Dg} {i:Nat} (hi:os.length≤i) (h:∀ j,j<i→d ∉ (os.getD j default).l):findR (os.map prO) d=-1 :=
  findR_none fun j hj=>by rw [List.length_map] at hj; rw [prO_getD hj]; exact h j (by omega)
theorem okC_ref {c:Ch}:okC c=(if c.kind=1 then okD c.a&&decide (c.a.num=0)&&decide (c=⟨1,c.a,default,0⟩)
    else if c.kind=2 then okD c.a&&okD c.b&&!decide (c.a=c.b)&&decide (c.n=0)
    else if c.kind=3 then okD c.a&&okD c.b&&decide (c.b.num>0)&&decide (c.n=0)
    else if c.kind=4 then decide (c.n≥0)&&decide (c=⟨4,default,default,c.n⟩) else false):=by
  unfold okC
  obtain ⟨k,a,b,n⟩:=c
  simp only
  split
  · rename_i h; subst h
    simp only [Ch.mk.injEq,true_and]
    rw [show (decide (b=default∧n=0))=(decide (b=default)&&decide (n=0)) by simp]
    simp only [Bool.and_assoc]
  · split
    · simp only [Bool.and_assoc,Bool.and_comm (decide (n=0))]
    · split
      · simp only [Bool.and_assoc,Bool.and_comm (decide (n=0))]
      · split
        · rename_i h; subst h
          simp only [Ch.mk.injEq,true_and,and_true]
          rw [show (decide (a=default∧b=default))=(decide (a=default)&&decide (b=default)) by simp]
          cases decide (a=default) <;> cases decide (b=default) <;> cases decide (n≥0) <;> rfl
        · rfl
end Go.SL
namespace Go.SL
open Go
theorem sc_1 {l m:List Ch} (h:¬ (l.length:Int)=(m.length:Int)):decide (l=m)=false:=decide_eq_false fun e=>h (by rw [e])
theorem sc_2 {l m:List Ch} {k:Nat} (hk:k<l.length) (h:(!decide (l.getD k default=m.getD k default))=true):decide (l=m)=false:=decide_eq_false fun e=>by
  subst e; simp at h
theorem sc_3 {l m:List Ch} (hl:l.length=m.length) (h:∀ j,j<l.length→l.getD j default=m.getD j default):decide (l=m)=true:=decide_eq_true (ext_getD hl h)
theorem ck_no {b:Bool} (h:(!b)=true):(if b then (0:Int) else 8)=8:=by cases b <;> first | rfl | cases h
theorem ck_yes {b:Bool} (h:(!b)=false):(if b then (0:Int) else 8)=0:=by cases b <;> first | rfl | cases h
end Go.SL

namespace Go.Proofs.YtgakdmmmljdpjaaDoor
open Go Go.SL
theorem eqA3:tAgg Tryd.prog 3=some false:=by kernel_rfl
theorem eqA5:tAgg Tryd.prog 5=some false:=by kernel_rfl
theorem eqA24:tAgg Tryd.prog 24=some true:=by kernel_rfl
theorem eqS24:tSize Tryd.prog 24=some 5:=by kernel_rfl
theorem eqI3:tInt Tryd.prog 3=some .i64:=by kernel_rfl
theorem eqI5:tInt Tryd.prog 5=some .u8:=by kernel_rfl
theorem eqF24:tFs Tryd.prog 24=some [(3,0),(3,1),(5,2),(5,3),(3,4)]:=by kernel_rfl
theorem eqF26:tFs Tryd.prog 26=some [(5,0),(24,1),(24,6),(3,11)]:=by kernel_rfl
theorem eqG26:Tryd.prog.eqGuardType Tryd.prog.depth 26=false:=by kernel_rfl
theorem eqrD (d:Nat) (a b:Dg):EqR Tryd.prog (d+2) 24 (.agg #[.int .i64 a.num,.int .i64 a.yr,.int .u8 a.half,.int .u8 a.sec,.int .i64 a.cyc]) (.agg #[.int .i64 b.num,.int .i64 b.yr,.int .u8 b.half,.int .u8 b.sec,.int .i64 b.cyc]) (decide (a=b)):=by
  have h:=EqR.struct (P:=Tryd.prog) (t:=24) (d:=d+1) (xs:=#[.int .i64 a.num,.int .i64 a.yr,.int .u8 a.half,.int .u8 a.sec,.int .i64 a.cyc]) (ys:=#[.int .i64 b.num,.int .i64 b.yr,.int .u8 b.half,.int .u8 b.sec,.int .i64 b.cyc]) eqF24
    (EqL.cons (PartR.one eqA3 rfl) (PartR.one eqA3 rfl) (EqR.int eqI3) (EqL.cons (PartR.one eqA3 rfl) (PartR.one eqA3 rfl) (EqR.int eqI3) (EqL.cons (PartR.one eqA5 rfl) (PartR.one eqA5 rfl) (EqR.int eqI5) (EqL.cons (PartR.one eqA5 rfl) (PartR.one eqA5 rfl) (EqR.int eqI5) (EqL.cons (PartR.one eqA3 rfl) (PartR.one eqA3 rfl) (EqR.int eqI3) EqL.nil)))))
  have e:(a.num == b.num&&(a.yr == b.yr&&(a.half == b.half&&(a.sec == b.sec&&(a.cyc == b.cyc&&true)))))=decide (a=b):=by
    obtain ⟨a1,a2,a3,a4,a5⟩:=a
    obtain ⟨b1,b2,b3,b4,b5⟩:=b
    rw [Bool.eq_iff_iff]
    simp only [Bool.and_eq_true,beq_iff_eq,decide_eq_true_eq,Dg.mk.injEq,and_true]
  rw [e] at h
  exact h
theorem eqrC (d:Nat) (a b:Ch):EqR Tryd.prog (d+3) 26 (cV a) (cV b) (decide (a=b)):=by
  have h:=EqR.struct (P:=Tryd.prog) (t:=26) (d:=d+2) (xs:=(eC a).toArray) (ys:=(eC b).toArray) eqF26
    (EqL.cons (PartR.one (v:=.int .u8 a.kind) eqA5 rfl) (PartR.one (v:=.int .u8 b.kind) eqA5 rfl) (EqR.int eqI5)
    (EqL.cons (PartR.agg (cs':=#[.int .i64 a.a.num,.int .i64 a.a.yr,.int .u8 a.a.half,.int .u8 a.a.sec,.int .i64 a.a.cyc]) eqA24 eqS24 rfl) (PartR.agg (cs':=#[.int .i64 b.a.num,.int .i64 b.a.yr,.int .u8 b.a.half,.int .u8 b.a.sec,.int .i64 b.a.cyc]) eqA24 eqS24 rfl) (eqrD d a.a b.a)
    (EqL.cons (PartR.agg (cs':=#[.int .i64 a.b.num,.int .i64 a.b.yr,.int .u8 a.b.half,.int .u8 a.b.sec,.int .i64 a.b.cyc]) eqA24 eqS24 rfl) (PartR.agg (cs':=#[.int .i64 b.b.num,.int .i64 b.b.yr,.int .u8 b.b.half,.int .u8 b.b.sec,.int .i64 b.b.cyc]) eqA24 eqS24 rfl) (eqrD d a.b b.b)
    (EqL.cons (PartR.one (v:=.int .i64 a.n) eqA3 rfl) (PartR.one (v:=.int .i64 b.n) eqA3 rfl) (EqR.int eqI3) EqL.nil))))
  have e:(a.kind == b.kind&&(decide (a.a=b.a)&&(decide (a.b=b.b)&&(a.n == b.n&&true))))=decide (a=b):=by
    obtain ⟨a1,a2,a3,a4⟩:=a
    obtain ⟨b1,b2,b3,b4⟩:=b
    rw [Bool.eq_iff_iff]
    simp only [Bool.and_eq_true,beq_iff_eq,decide_eq_true_eq,Ch.mk.injEq,and_true]
  rw [e] at h
  exact h
section
variable {w:World} {n:Nat} {ds:List Deferred} {L:List (Nat × Value)} {ty t2:TypeId} {x y:Operand} (c c':Ch)
theorem eqC (hx:ev L x=some (cV c)) (hy:ev L y=some (cV c')):RunV Tryd.prog n ds L (.binOp .eql 26 x y t2) ty w (.bool (decide (c=c'))) w :=
  RunV.eqAgg (d:=10) rfl eqG26 hx hy (eqrC 9997 c c')
theorem neC (hx:ev L x=some (cV c)) (hy:ev L y=some (cV c')):RunV Tryd.prog n ds L (.binOp .neq 26 x y t2) ty w (.bool (!decide (c=c'))) w :=
  RunV.neAgg (d:=10) rfl eqG26 hx hy (eqrC 9997 c c')
end
end Go.Proofs.YtgakdmmmljdpjaaDoor
