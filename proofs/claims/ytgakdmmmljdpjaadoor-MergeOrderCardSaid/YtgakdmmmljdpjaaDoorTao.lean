/- Part of a proof: laws and walks. -/
import Derived.Test.YtgakdmmmljdpjaaDoorTan
set_option linter.unusedVariables false
set_option linter.unusedSimpArgs false
namespace Go.Proofs.YtgakdmmmljdpjaaDoor
open Go Go.SL
theorem C_ok_35:callOK Tryd.prog 35=true:=by kernel_rfl
theorem C_ok_36:callOK Tryd.prog 36=true:=by kernel_rfl
set_option maxHeartbeats 400000 in
set_option maxRecDepth 4000 in
theorem half_spec (c:Int) (w0:World) :
    Ret Tryd.prog 35 #[.int .u8 c] w0 (G:=Unit) (fun _=>.bool (halfB c)) (fun _ w=>St w0 w noX [] []):=by
  refine ret_of_W (lv:=[.int .u8 c]) Tryd.func35 rfl rfl rfl (fun a hf=>?_)
  replace hf:Fr a 13 [] [(0,.int .u8 c)]:=hf
  have hS:St w0 w0 noX [] []:=St.refl w0
  refine W.seq ?_
  refine W.regionL (l:=[0]) rfl ?_
  refine O.val hf rfl rfl rfl (RunV.assign rfl) ?_
  clear hf a; intro a hf
  refine O.nil ?_
  refine k_seq ?_
  refine W.seq ?_
  refine W.regionL (l:=[0,1,2,3,4,5,6,7,8,9,10]) rfl ?_
  refine O.val hf rfl rfl rfl (RunV.move rfl) ?_
  clear hf a; intro a hf
  refine O.val (v:=.bool (decide (c≥(65:Int)))) hf rfl rfl rfl (RunV.geq rfl rfl) ?_
  clear hf a; intro a hf
  refine O.val hf rfl rfl rfl (RunV.move rfl) ?_
  clear hf a; intro a hf
  refine O.cutN (l₁:=[3,4,5]) (l₂:=_) (fun a w=>Fr a 13 [] [(0,.int .u8 c),(2,.bool false),(3,.int .u8 c),(4,.bool (decide (c≥(65:Int)))),(5,.bool (decide (c≥(65:Int)))),(8,.bool ((decide (c≥(65:Int)))&&(decide (c≤(89:Int)))))]∧St w0 w noX [] []) rfl ?_ ?_
  · rcases Bool.eq_false_or_eq_true (decide (c≥(65:Int))) with hb1 | hb1
    · have hb1p:=of_decide_eq_true hb1
      refine O.gvalB (v:=.int .u8 c) hf rfl rfl rfl hb1 rfl rfl (RunV.move rfl) ?_
      clear hf a; intro a hf
      refine O.gvalB (v:=.bool (decide (c≤(89:Int)))) hf rfl rfl rfl hb1 rfl rfl (RunV.leq rfl rfl) ?_
      clear hf a; intro a hf
      refine O.val (v:=.bool ((decide (c≥(65:Int)))&&(decide (c≤(89:Int))))) hf rfl rfl rfl (RunV.pick rfl rfl rfl (by rw [hb1]; rfl)) ?_; clear hf a; intro a hf
      exact O.nil ⟨rfl,hf.to ⟨rfl,rfl,rfl,rfl,rfl,rfl,trivial⟩,hS⟩
    · have hb1p:=of_decide_eq_false hb1
      refine O.skipB hf rfl rfl rfl hb1 rfl ?_; clear hf a; intro a hf
      refine O.skipB hf rfl rfl rfl hb1 rfl ?_; clear hf a; intro a hf
      refine O.val (v:=.bool ((decide (c≥(65:Int)))&&(decide (c≤(89:Int))))) hf rfl rfl rfl (RunV.pick rfl rfl rfl (by rw [hb1]; rfl)) ?_; clear hf a; intro a hf
      exact O.nil ⟨rfl,hf.to ⟨rfl,rfl,rfl,rfl,rfl,rfl,trivial⟩,hS⟩
  clear hf hS a; rintro a w ⟨hf,hS⟩
  refine O.val hf rfl rfl rfl (RunV.move rfl) ?_
  clear hf a; intro a hf
  refine O.cutN (l₁:=[7,8,9]) (l₂:=_) (fun a w=>Fr a 13 [] [(0,.int .u8 c),(2,.bool false),(3,.int .u8 c),(4,.bool (decide (c≥(65:Int)))),(5,.bool (decide (c≥(65:Int)))),(8,.bool ((decide (c≥(65:Int)))&&(decide (c≤(89:Int))))),(9,.bool ((decide (c≥(65:Int)))&&(decide (c≤(89:Int))))),(12,.bool (((decide (c≥(65:Int)))&&(decide (c≤(89:Int))))&&(decide (c≠(73:Int)))))]∧St w0 w noX [] []) rfl ?_ ?_
  · rcases Bool.eq_false_or_eq_true ((decide (c≥(65:Int)))&&(decide (c≤(89:Int)))) with hb2 | hb2
    · have hb2p:=hb2
      try simp only [Bool.and_eq_true,Bool.or_eq_true,Bool.and_eq_false_iff,Bool.or_eq_false_iff,decide_eq_true_eq,decide_eq_false_iff_not,Bool.not_eq_true',Bool.not_eq_false',Bool.not_eq_true,Bool.not_eq_false,ne_eq] at hb2p
      refine O.gvalB (v:=.int .u8 c) hf rfl rfl rfl hb2 rfl rfl (RunV.move rfl) ?_
      clear hf a; intro a hf
      refine O.gvalB (v:=.bool (decide (c≠(73:Int)))) hf rfl rfl rfl hb2 rfl rfl (RunV.neq rfl rfl) ?_
      clear hf a; intro a hf
      refine O.val (v:=.bool (((decide (c≥(65:Int)))&&(decide (c≤(89:Int))))&&(decide (c≠(73:Int))))) hf rfl rfl rfl (RunV.pick rfl rfl rfl (by rw [hb2]; rfl)) ?_; clear hf a; intro a hf
      exact O.nil ⟨rfl,hf.to ⟨rfl,rfl,rfl,rfl,rfl,rfl,rfl,rfl,trivial⟩,hS⟩
    · have hb2p:=hb2
      try simp only [Bool.and_eq_true,Bool.or_eq_true,Bool.and_eq_false_iff,Bool.or_eq_false_iff,decide_eq_true_eq,decide_eq_false_iff_not,Bool.not_eq_true',Bool.not_eq_false',Bool.not_eq_true,Bool.not_eq_false,ne_eq] at hb2p
      refine O.skipB hf rfl rfl rfl hb2 rfl ?_; clear hf a; intro a hf
      refine O.skipB hf rfl rfl rfl hb2 rfl ?_; clear hf a; intro a hf
      refine O.val (v:=.bool (((decide (c≥(65:Int)))&&(decide (c≤(89:Int))))&&(decide (c≠(73:Int))))) hf rfl rfl rfl (RunV.pick rfl rfl rfl (by rw [hb2]; rfl)) ?_; clear hf a; intro a hf
      exact O.nil ⟨rfl,hf.to ⟨rfl,rfl,rfl,rfl,rfl,rfl,rfl,rfl,trivial⟩,hS⟩
  clear hf hS a; rintro a w ⟨hf,hS⟩
  refine O.val hf rfl rfl rfl (RunV.assign rfl) ?_
  clear hf a; intro a hf
  refine O.nil ?_
  refine k_seq ?_
  replace hf:Fr a 13 [] [(2,.bool (((decide (c≥(65:Int)))&&(decide (c≤(89:Int))))&&(decide (c≠(73:Int)))))]:=hf.to ⟨rfl,trivial⟩
  refine W.ret ?_
  refine post1 hf rfl (ResOK.tmp rfl) ?_
  exact ⟨(),rfl,hS.sub (List.nil_sublist _) |>.noB⟩
set_option maxHeartbeats 400000 in
set_option maxRecDepth 4000 in
theorem orderl_spec (c:Int) (w0:World) :
    Ret Tryd.prog 36 #[.int .u8 c] w0 (G:=Unit) (fun _=>.bool (orderB c)) (fun _ w=>St w0 w noX [] []):=by
  refine ret_of_W (lv:=[.int .u8 c]) Tryd.func36 rfl rfl rfl (fun a hf=>?_)
  replace hf:Fr a 13 [] [(0,.int .u8 c)]:=hf
  have hS:St w0 w0 noX [] []:=St.refl w0
  refine W.seq ?_
  refine W.regionL (l:=[0]) rfl ?_
  refine O.val hf rfl rfl rfl (RunV.assign rfl) ?_
  clear hf a; intro a hf
  refine O.nil ?_
  refine k_seq ?_
  refine W.seq ?_
  refine W.regionL (l:=[0,1,2,3,4,5,6,7,8,9,10]) rfl ?_
  refine O.val hf rfl rfl rfl (RunV.move rfl) ?_
  clear hf a; intro a hf
  refine O.val (v:=.bool (decide (c≥(65:Int)))) hf rfl rfl rfl (RunV.geq rfl rfl) ?_
  clear hf a; intro a hf
  refine O.val hf rfl rfl rfl (RunV.move rfl) ?_
  clear hf a; intro a hf
  refine O.cutN (l₁:=[3,4,5]) (l₂:=_) (fun a w=>Fr a 13 [] [(0,.int .u8 c),(2,.bool false),(3,.int .u8 c),(4,.bool (decide (c≥(65:Int)))),(5,.bool (decide (c≥(65:Int)))),(8,.bool ((decide (c≥(65:Int)))&&(decide (c≤(90:Int)))))]∧St w0 w noX [] []) rfl ?_ ?_
  · rcases Bool.eq_false_or_eq_true (decide (c≥(65:Int))) with hb1 | hb1
    · have hb1p:=of_decide_eq_true hb1
      refine O.gvalB (v:=.int .u8 c) hf rfl rfl rfl hb1 rfl rfl (RunV.move rfl) ?_
      clear hf a; intro a hf
      refine O.gvalB (v:=.bool (decide (c≤(90:Int)))) hf rfl rfl rfl hb1 rfl rfl (RunV.leq rfl rfl) ?_
      clear hf a; intro a hf
      refine O.val (v:=.bool ((decide (c≥(65:Int)))&&(decide (c≤(90:Int))))) hf rfl rfl rfl (RunV.pick rfl rfl rfl (by rw [hb1]; rfl)) ?_; clear hf a; intro a hf
      exact O.nil ⟨rfl,hf.to ⟨rfl,rfl,rfl,rfl,rfl,rfl,trivial⟩,hS⟩
    · have hb1p:=of_decide_eq_false hb1
      refine O.skipB hf rfl rfl rfl hb1 rfl ?_; clear hf a; intro a hf
      refine O.skipB hf rfl rfl rfl hb1 rfl ?_; clear hf a; intro a hf
      refine O.val (v:=.bool ((decide (c≥(65:Int)))&&(decide (c≤(90:Int))))) hf rfl rfl rfl (RunV.pick rfl rfl rfl (by rw [hb1]; rfl)) ?_; clear hf a; intro a hf
      exact O.nil ⟨rfl,hf.to ⟨rfl,rfl,rfl,rfl,rfl,rfl,trivial⟩,hS⟩
  clear hf hS a; rintro a w ⟨hf,hS⟩
  refine O.val hf rfl rfl rfl (RunV.move rfl) ?_
  clear hf a; intro a hf
  refine O.cutN (l₁:=[7,8,9]) (l₂:=_) (fun a w=>Fr a 13 [] [(0,.int .u8 c),(2,.bool false),(3,.int .u8 c),(4,.bool (decide (c≥(65:Int)))),(5,.bool (decide (c≥(65:Int)))),(8,.bool ((decide (c≥(65:Int)))&&(decide (c≤(90:Int))))),(9,.bool ((decide (c≥(65:Int)))&&(decide (c≤(90:Int))))),(12,.bool (((decide (c≥(65:Int)))&&(decide (c≤(90:Int))))&&(decide (c≠(73:Int)))))]∧St w0 w noX [] []) rfl ?_ ?_
  · rcases Bool.eq_false_or_eq_true ((decide (c≥(65:Int)))&&(decide (c≤(90:Int)))) with hb2 | hb2
    · have hb2p:=hb2
      try simp only [Bool.and_eq_true,Bool.or_eq_true,Bool.and_eq_false_iff,Bool.or_eq_false_iff,decide_eq_true_eq,decide_eq_false_iff_not,Bool.not_eq_true',Bool.not_eq_false',Bool.not_eq_true,Bool.not_eq_false,ne_eq] at hb2p
      refine O.gvalB (v:=.int .u8 c) hf rfl rfl rfl hb2 rfl rfl (RunV.move rfl) ?_
      clear hf a; intro a hf
      refine O.gvalB (v:=.bool (decide (c≠(73:Int)))) hf rfl rfl rfl hb2 rfl rfl (RunV.neq rfl rfl) ?_
      clear hf a; intro a hf
      refine O.val (v:=.bool (((decide (c≥(65:Int)))&&(decide (c≤(90:Int))))&&(decide (c≠(73:Int))))) hf rfl rfl rfl (RunV.pick rfl rfl rfl (by rw [hb2]; rfl)) ?_; clear hf a; intro a hf
      exact O.nil ⟨rfl,hf.to ⟨rfl,rfl,rfl,rfl,rfl,rfl,rfl,rfl,trivial⟩,hS⟩
    · have hb2p:=hb2
      try simp only [Bool.and_eq_true,Bool.or_eq_true,Bool.and_eq_false_iff,Bool.or_eq_false_iff,decide_eq_true_eq,decide_eq_false_iff_not,Bool.not_eq_true',Bool.not_eq_false',Bool.not_eq_true,Bool.not_eq_false,ne_eq] at hb2p
      refine O.skipB hf rfl rfl rfl hb2 rfl ?_; clear hf a; intro a hf
      refine O.skipB hf rfl rfl rfl hb2 rfl ?_; clear hf a; intro a hf
      refine O.val (v:=.bool (((decide (c≥(65:Int)))&&(decide (c≤(90:Int))))&&(decide (c≠(73:Int))))) hf rfl rfl rfl (RunV.pick rfl rfl rfl (by rw [hb2]; rfl)) ?_; clear hf a; intro a hf
      exact O.nil ⟨rfl,hf.to ⟨rfl,rfl,rfl,rfl,rfl,rfl,rfl,rfl,trivial⟩,hS⟩
  clear hf hS a; rintro a w ⟨hf,hS⟩
  refine O.val hf rfl rfl rfl (RunV.assign rfl) ?_
  clear hf a; intro a hf
  refine O.nil ?_
  refine k_seq ?_
  replace hf:Fr a 13 [] [(2,.bool (((decide (c≥(65:Int)))&&(decide (c≤(90:Int))))&&(decide (c≠(73:Int)))))]:=hf.to ⟨rfl,trivial⟩
  refine W.ret ?_
  refine post1 hf rfl (ResOK.tmp rfl) ?_
  exact ⟨(),rfl,hS.sub (List.nil_sublist _) |>.noB⟩
set_option maxHeartbeats 400000 in
set_option maxRecDepth 4000 in
theorem check28_spec (d:Dg) (w0:World) (hr:rD d) :
    Ret Tryd.prog 15 #[.agg #[.int .i64 d.num,.int .i64 d.yr,.int .u8 d.half,.int .u8 d.sec,.int .i64 d.cyc]] w0 (G:=Unit) (fun _=>.int .i64 (if okD d then 0 else 8)) (fun _ w=>St w0 w noX [] []):=by
  refine ret_of_W (lv:=[.agg #[.int .i64 d.num,.int .i64 d.yr,.int .u8 d.half,.int .u8 d.sec,.int .i64 d.cyc]]) Tryd.func15 rfl rfl rfl (fun a hf=>?_)
  replace hf:Fr a 51 [] [(0,.agg #[.int .i64 d.num,.int .i64 d.yr,.int .u8 d.half,.int .u8 d.sec,.int .i64 d.cyc])]:=hf
  have hS:St w0 w0 noX [] []:=St.refl w0
  refine W.seq ?_
  refine W.regionL (l:=[0,1]) rfl ?_
  refine O.box (cs:=#[.int .i64 d.num,.int .i64 d.yr,.int .u8 d.half,.int .u8 d.sec,.int .i64 d.cyc]) hf hS rfl rfl rfl rfl ?_
  clear hf hS a; intro b_d1 w a hbb_d1 hS hf
  refine O.val hf rfl rfl rfl (RunV.assign rfl) ?_
  clear hf a; intro a hf
  refine O.nil ?_
  refine k_seq ?_
  replace hf:Fr a 51 [] [(1,.pointer (some ⟨b_d1,0,none⟩)),(2,.int .i64 0)]:=hf.to ⟨rfl,rfl,trivial⟩
  refine W.seq ?_
  refine W.seq ?_
  refine W.regionL (l:=[0,1,2]) rfl ?_
  refine O.val hf rfl rfl rfl (RunV.field T_field_24_0 rfl rfl) ?_
  clear hf a; intro a hf
  refine O.val hf rfl rfl rfl (RunV.load1 T_agg_3 rfl (hS.ptAt (i:=0) rfl) rfl) ?_
  clear hf a; intro a hf
  refine O.val (v:=.bool (decide (d.num≠(0:Int)))) hf rfl rfl rfl (RunV.neq rfl rfl) ?_
  clear hf a; intro a hf
  refine O.nil ?_
  refine k_seq ?_
  replace hf:Fr a 51 [] [(1,.pointer (some ⟨b_d1,0,none⟩)),(2,.int .i64 0),(5,.bool (decide (d.num≠(0:Int))))]:=hf.to ⟨rfl,rfl,rfl,trivial⟩
  refine W.ifdI hf rfl (fun hn=>?_) (fun hn=>?_)
  · refine W.seq ?_
    refine W.seq ?_
    refine W.regionL (l:=[0,1,2,3,4,5,6,7,8,9,10,11,12,13,14]) rfl ?_
    refine O.val hf rfl rfl rfl (RunV.loadN (cs':=#[.int .i64 d.num,.int .i64 d.yr,.int .u8 d.half,.int .u8 d.sec,.int .i64 d.cyc]) T_agg_24 T_size_24 rfl (hS.ptAt (i:=0) rfl) (Nat.le_of_ble_eq_true rfl) rfl) ?_
    clear hf a; intro a hf
    refine O.val hf rfl rfl rfl (RunV.field T_field_24_0 rfl rfl) ?_
    clear hf a; intro a hf
    refine O.val hf rfl rfl rfl (RunV.load1 T_agg_3 rfl (hS.ptAt (i:=0) rfl) rfl) ?_
    clear hf a; intro a hf
    refine O.val hf rfl rfl rfl (RunV.buildS (cs':=#[.int .i64 d.num,.int .i64 0,.int .u8 0,.int .u8 0,.int .i64 0]) T_places_24 T_zero_24 rfl rfl) ?_
    clear hf a; intro a hf
    refine O.val hf rfl rfl rfl (neD rfl d ⟨d.num,0,0,0,0⟩ eqGuard24 rfl rfl) ?_
    clear hf a; intro a hf
    refine O.val hf rfl rfl rfl (RunV.move rfl) ?_
    clear hf a; intro a hf
    refine O.cutN (l₁:=[6,7,8,9]) (l₂:=_) (fun a w=>Fr a 51 [] [(1,.pointer (some ⟨b_d1,0,none⟩)),(2,.int .i64 0),(6,.agg #[.int .i64 d.num,.int .i64 d.yr,.int .u8 d.half,.int .u8 d.sec,.int .i64 d.cyc]),(7,.pointer (some ⟨b_d1,0,none⟩)),(8,.int .i64 d.num),(9,.agg #[.int .i64 d.num,.int .i64 0,.int .u8 0,.int .u8 0,.int .i64 0]),(10,.bool (!decide (d=⟨d.num,0,0,0,0⟩))),(11,.bool (!decide (d=⟨d.num,0,0,0,0⟩))),(15,.bool ((!decide (d=⟨d.num,0,0,0,0⟩))||(decide (d.num<(1:Int)))))]∧St w0 w noX [] [pt b_d1 (.cells #[.int .i64 d.num,.int .i64 d.yr,.int .u8 d.half,.int .u8 d.sec,.int .i64 d.cyc] 24 (0,0))]) rfl ?_ ?_
    · rcases Bool.eq_false_or_eq_true (!decide (d=⟨d.num,0,0,0,0⟩)) with hb3 | hb3
      · have hb3p:=hb3
        try simp only [Bool.and_eq_true,Bool.or_eq_true,Bool.and_eq_false_iff,Bool.or_eq_false_iff,decide_eq_true_eq,decide_eq_false_iff_not,Bool.not_eq_true',Bool.not_eq_false',Bool.not_eq_true,Bool.not_eq_false,ne_eq] at hb3p
        refine O.skipB hf rfl rfl rfl hb3 rfl ?_; clear hf a; intro a hf
        refine O.skipB hf rfl rfl rfl hb3 rfl ?_; clear hf a; intro a hf
        refine O.skipB hf rfl rfl rfl hb3 rfl ?_; clear hf a; intro a hf
        refine O.val (v:=.bool ((!decide (d=⟨d.num,0,0,0,0⟩))||(decide (d.num<(1:Int))))) hf rfl rfl rfl (RunV.pick rfl rfl rfl (by rw [hb3]; rfl)) ?_; clear hf a; intro a hf
        exact O.nil ⟨rfl,hf.to ⟨rfl,rfl,rfl,rfl,rfl,rfl,rfl,rfl,rfl,trivial⟩,hS⟩
      · have hb3p:=hb3
        try simp only [Bool.and_eq_true,Bool.or_eq_true,Bool.and_eq_false_iff,Bool.or_eq_false_iff,decide_eq_true_eq,decide_eq_false_iff_not,Bool.not_eq_true',Bool.not_eq_false',Bool.not_eq_true,Bool.not_eq_false,ne_eq] at hb3p
        refine O.gvalB (v:=.pointer (some ⟨b_d1,0,none⟩)) hf rfl rfl rfl hb3 rfl rfl (RunV.field T_field_24_0 rfl rfl) ?_
        clear hf a; intro a hf
        refine O.gvalB (v:=.int .i64 d.num) hf rfl rfl rfl hb3 rfl rfl (RunV.load1 T_agg_3 rfl (hS.ptAt (i:=0) rfl) rfl) ?_
        clear hf a; intro a hf
        refine O.gvalB (v:=.bool (decide (d.num<(1:Int)))) hf rfl rfl rfl hb3 rfl rfl (RunV.lss rfl rfl) ?_
        clear hf a; intro a hf
        refine O.val (v:=.bool ((!decide (d=⟨d.num,0,0,0,0⟩))||(decide (d.num<(1:Int))))) hf rfl rfl rfl (RunV.pick rfl rfl rfl (by rw [hb3]; rfl)) ?_; clear hf a; intro a hf
        exact O.nil ⟨rfl,hf.to ⟨rfl,rfl,rfl,rfl,rfl,rfl,rfl,rfl,rfl,trivial⟩,hS⟩
    clear hf hS a; rintro a w ⟨hf,hS⟩
    refine O.val hf rfl rfl rfl (RunV.move rfl) ?_
    clear hf a; intro a hf
    refine O.cutN (l₁:=[11,12,13,14]) (l₂:=_) (fun a w=>Fr a 51 [] [(1,.pointer (some ⟨b_d1,0,none⟩)),(2,.int .i64 0),(6,.agg #[.int .i64 d.num,.int .i64 d.yr,.int .u8 d.half,.int .u8 d.sec,.int .i64 d.cyc]),(7,.pointer (some ⟨b_d1,0,none⟩)),(8,.int .i64 d.num),(9,.agg #[.int .i64 d.num,.int .i64 0,.int .u8 0,.int .u8 0,.int .i64 0]),(10,.bool (!decide (d=⟨d.num,0,0,0,0⟩))),(11,.bool (!decide (d=⟨d.num,0,0,0,0⟩))),(15,.bool ((!decide (d=⟨d.num,0,0,0,0⟩))||(decide (d.num<(1:Int))))),(16,.bool ((!decide (d=⟨d.num,0,0,0,0⟩))||(decide (d.num<(1:Int))))),(20,.bool (((!decide (d=⟨d.num,0,0,0,0⟩))||(decide (d.num<(1:Int))))||(decide (d.num>(15396335:Int)))))]∧St w0 w noX [] [pt b_d1 (.cells #[.int .i64 d.num,.int .i64 d.yr,.int .u8 d.half,.int .u8 d.sec,.int .i64 d.cyc] 24 (0,0))]) rfl ?_ ?_
    · rcases Bool.eq_false_or_eq_true ((!decide (d=⟨d.num,0,0,0,0⟩))||(decide (d.num<(1:Int)))) with hb4 | hb4
      · have hb4p:=hb4
        try simp only [Bool.and_eq_true,Bool.or_eq_true,Bool.and_eq_false_iff,Bool.or_eq_false_iff,decide_eq_true_eq,decide_eq_false_iff_not,Bool.not_eq_true',Bool.not_eq_false',Bool.not_eq_true,Bool.not_eq_false,ne_eq] at hb4p
        refine O.skipB hf rfl rfl rfl hb4 rfl ?_; clear hf a; intro a hf
        refine O.skipB hf rfl rfl rfl hb4 rfl ?_; clear hf a; intro a hf
        refine O.skipB hf rfl rfl rfl hb4 rfl ?_; clear hf a; intro a hf
        refine O.val (v:=.bool (((!decide (d=⟨d.num,0,0,0,0⟩))||(decide (d.num<(1:Int))))||(decide (d.num>(15396335:Int))))) hf rfl rfl rfl (RunV.pick rfl rfl rfl (by rw [hb4]; rfl)) ?_; clear hf a; intro a hf
        exact O.nil ⟨rfl,hf.to ⟨rfl,rfl,rfl,rfl,rfl,rfl,rfl,rfl,rfl,rfl,rfl,trivial⟩,hS⟩
      · have hb4p:=hb4
        try simp only [Bool.and_eq_true,Bool.or_eq_true,Bool.and_eq_false_iff,Bool.or_eq_false_iff,decide_eq_true_eq,decide_eq_false_iff_not,Bool.not_eq_true',Bool.not_eq_false',Bool.not_eq_true,Bool.not_eq_false,ne_eq] at hb4p
        refine O.gvalB (v:=.pointer (some ⟨b_d1,0,none⟩)) hf rfl rfl rfl hb4 rfl rfl (RunV.field T_field_24_0 rfl rfl) ?_
        clear hf a; intro a hf
        refine O.gvalB (v:=.int .i64 d.num) hf rfl rfl rfl hb4 rfl rfl (RunV.load1 T_agg_3 rfl (hS.ptAt (i:=0) rfl) rfl) ?_
        clear hf a; intro a hf
        refine O.gvalB (v:=.bool (decide (d.num>(15396335:Int)))) hf rfl rfl rfl hb4 rfl rfl (RunV.gtr rfl rfl) ?_
        clear hf a; intro a hf
        refine O.val (v:=.bool (((!decide (d=⟨d.num,0,0,0,0⟩))||(decide (d.num<(1:Int))))||(decide (d.num>(15396335:Int))))) hf rfl rfl rfl (RunV.pick rfl rfl rfl (by rw [hb4]; rfl)) ?_; clear hf a; intro a hf
        exact O.nil ⟨rfl,hf.to ⟨rfl,rfl,rfl,rfl,rfl,rfl,rfl,rfl,rfl,rfl,rfl,trivial⟩,hS⟩
    clear hf hS a; rintro a w ⟨hf,hS⟩
    refine O.nil ?_
    refine k_seq ?_
    replace hf:Fr a 51 [] [(1,.pointer (some ⟨b_d1,0,none⟩)),(2,.int .i64 0),(20,.bool (((!decide (d=⟨d.num,0,0,0,0⟩))||(decide (d.num<(1:Int))))||(decide (d.num>(15396335:Int)))))]:=hf.to ⟨rfl,rfl,rfl,trivial⟩
    refine W.if_ hf rfl (fun hb1=>?_) (fun hb1=>?_)
    · have hb1b:=hb1
      try simp only [Bool.and_eq_true,Bool.or_eq_true,Bool.and_eq_false_iff,Bool.or_eq_false_iff,decide_eq_true_eq,decide_eq_false_iff_not,Bool.not_eq_true',Bool.not_eq_false',Bool.not_eq_true,Bool.not_eq_false,ne_eq] at hb1
      refine W.seq ?_
      refine W.regionL (l:=[0]) rfl ?_
      refine O.val hf rfl rfl rfl (RunV.assign rfl) ?_
      clear hf a; intro a hf
      refine O.nil ?_
      refine k_seq ?_
      refine W.ret ?_
      refine k_then_ret ?_
      refine k_then_ret ?_
      refine post1 hf rfl (ResOK.tmp rfl) ?_
      exact ⟨(),congrArg (fun x=>Ending.returned (Value.int .i64 x)) (by rw [okD_28 hr]; first | rw [if_pos hn,ck_bad1 hb1b]; rfl | rw [if_neg hn,ck_bad2 hb2b]; rfl),hS.sub (List.nil_sublist _) |>.noB⟩
    · have hb1b:=hb1
      try simp only [Bool.and_eq_true,Bool.or_eq_true,Bool.and_eq_false_iff,Bool.or_eq_false_iff,decide_eq_true_eq,decide_eq_false_iff_not,Bool.not_eq_true',Bool.not_eq_false',Bool.not_eq_true,Bool.not_eq_false,ne_eq] at hb1
      refine W.skip ?_
      refine k_seq ?_
      refine W.seq ?_
      refine W.regionL (l:=[0]) rfl ?_
      refine O.val hf rfl rfl rfl (RunV.assign rfl) ?_
      clear hf a; intro a hf
      refine O.nil ?_
      refine k_seq ?_
      refine W.ret ?_
      refine k_then_ret ?_
      refine post1 hf rfl (ResOK.tmp rfl) ?_
      exact ⟨(),congrArg (fun x=>Ending.returned (Value.int .i64 x)) (by rw [okD_28 hr]; first | rw [if_pos hn,ck_ok1 hb1b]; rfl | rw [if_neg hn,ck_ok2 hb2b]; rfl),hS.sub (List.nil_sublist _) |>.noB⟩
  · refine W.skip ?_
    refine k_seq ?_
    refine W.seq ?_
    refine W.seq ?_
    refine W.regionL (l:=[0,1,2,3,4,5,6,7,8,9,10,11,12,13,14,15,16,17,18,19,20,21,22,23,24,25,26,27,28,29]) rfl ?_
    refine O.val hf rfl rfl rfl (RunV.field T_field_24_1 rfl rfl) ?_
    clear hf a; intro a hf
    refine O.val hf rfl rfl rfl (RunV.load1 T_agg_3 rfl (hS.ptAt (i:=0) rfl) rfl) ?_
    clear hf a; intro a hf
    refine O.val (v:=.bool (decide (d.yr<(1800:Int)))) hf rfl rfl rfl (RunV.lss rfl rfl) ?_
    clear hf a; intro a hf
    refine O.val hf rfl rfl rfl (RunV.move rfl) ?_
    clear hf a; intro a hf
    refine O.cutN (l₁:=[4,5,6,7]) (l₂:=_) (fun a w=>Fr a 51 [] [(1,.pointer (some ⟨b_d1,0,none⟩)),(2,.int .i64 0),(21,.pointer (some ⟨b_d1,1,none⟩)),(22,.int .i64 d.yr),(23,.bool (decide (d.yr<(1800:Int)))),(24,.bool (decide (d.yr<(1800:Int)))),(28,.bool ((decide (d.yr<(1800:Int)))||(decide (d.yr>(2099:Int)))))]∧St w0 w noX [] [pt b_d1 (.cells #[.int .i64 d.num,.int .i64 d.yr,.int .u8 d.half,.int .u8 d.sec,.int .i64 d.cyc] 24 (0,0))]) rfl ?_ ?_
    · rcases Bool.eq_false_or_eq_true (decide (d.yr<(1800:Int))) with hb6 | hb6
      · have hb6p:=of_decide_eq_true hb6
        refine O.skipB hf rfl rfl rfl hb6 rfl ?_; clear hf a; intro a hf
        refine O.skipB hf rfl rfl rfl hb6 rfl ?_; clear hf a; intro a hf
        refine O.skipB hf rfl rfl rfl hb6 rfl ?_; clear hf a; intro a hf
        refine O.val (v:=.bool ((decide (d.yr<(1800:Int)))||(decide (d.yr>(2099:Int))))) hf rfl rfl rfl (RunV.pick rfl rfl rfl (by rw [hb6]; rfl)) ?_; clear hf a; intro a hf
        exact O.nil ⟨rfl,hf.to ⟨rfl,rfl,rfl,rfl,rfl,rfl,rfl,trivial⟩,hS⟩
      · have hb6p:=of_decide_eq_false hb6
        refine O.gvalB (v:=.pointer (some ⟨b_d1,1,none⟩)) hf rfl rfl rfl hb6 rfl rfl (RunV.field T_field_24_1 rfl rfl) ?_
        clear hf a; intro a hf
        refine O.gvalB (v:=.int .i64 d.yr) hf rfl rfl rfl hb6 rfl rfl (RunV.load1 T_agg_3 rfl (hS.ptAt (i:=0) rfl) rfl) ?_
        clear hf a; intro a hf
        refine O.gvalB (v:=.bool (decide (d.yr>(2099:Int)))) hf rfl rfl rfl hb6 rfl rfl (RunV.gtr rfl rfl) ?_
        clear hf a; intro a hf
        refine O.val (v:=.bool ((decide (d.yr<(1800:Int)))||(decide (d.yr>(2099:Int))))) hf rfl rfl rfl (RunV.pick rfl rfl rfl (by rw [hb6]; rfl)) ?_; clear hf a; intro a hf
        exact O.nil ⟨rfl,hf.to ⟨rfl,rfl,rfl,rfl,rfl,rfl,rfl,trivial⟩,hS⟩
    clear hf hS a; rintro a w ⟨hf,hS⟩
    refine O.val hf rfl rfl rfl (RunV.move rfl) ?_
    clear hf a; intro a hf
    refine O.cutN (l₁:=[9,10,11,12,13]) (l₂:=_) (fun a w=>Fr a 51 [] [(1,.pointer (some ⟨b_d1,0,none⟩)),(2,.int .i64 0),(21,.pointer (some ⟨b_d1,1,none⟩)),(22,.int .i64 d.yr),(23,.bool (decide (d.yr<(1800:Int)))),(24,.bool (decide (d.yr<(1800:Int)))),(28,.bool ((decide (d.yr<(1800:Int)))||(decide (d.yr>(2099:Int))))),(29,.bool ((decide (d.yr<(1800:Int)))||(decide (d.yr>(2099:Int))))),(34,.bool (((decide (d.yr<(1800:Int)))||(decide (d.yr>(2099:Int))))||(!(halfB d.half))))]∧St w0 w noX [] [pt b_d1 (.cells #[.int .i64 d.num,.int .i64 d.yr,.int .u8 d.half,.int .u8 d.sec,.int .i64 d.cyc] 24 (0,0))]) rfl ?_ ?_
    · rcases Bool.eq_false_or_eq_true ((decide (d.yr<(1800:Int)))||(decide (d.yr>(2099:Int)))) with hb7 | hb7
      · have hb7p:=hb7
        try simp only [Bool.and_eq_true,Bool.or_eq_true,Bool.and_eq_false_iff,Bool.or_eq_false_iff,decide_eq_true_eq,decide_eq_false_iff_not,Bool.not_eq_true',Bool.not_eq_false',Bool.not_eq_true,Bool.not_eq_false,ne_eq] at hb7p
        refine O.skipB hf rfl rfl rfl hb7 rfl ?_; clear hf a; intro a hf
        refine O.skipB hf rfl rfl rfl hb7 rfl ?_; clear hf a; intro a hf
        refine O.skipB hf rfl rfl rfl hb7 rfl ?_; clear hf a; intro a hf
        refine O.skipB hf rfl rfl rfl hb7 rfl ?_; clear hf a; intro a hf
        refine O.val (v:=.bool (((decide (d.yr<(1800:Int)))||(decide (d.yr>(2099:Int))))||(!(halfB d.half)))) hf rfl rfl rfl (RunV.pick rfl rfl rfl (by rw [hb7]; rfl)) ?_; clear hf a; intro a hf
        exact O.nil ⟨rfl,hf.to ⟨rfl,rfl,rfl,rfl,rfl,rfl,rfl,rfl,rfl,trivial⟩,hS⟩
      · have hb7p:=hb7
        try simp only [Bool.and_eq_true,Bool.or_eq_true,Bool.and_eq_false_iff,Bool.or_eq_false_iff,decide_eq_true_eq,decide_eq_false_iff_not,Bool.not_eq_true',Bool.not_eq_false',Bool.not_eq_true,Bool.not_eq_false,ne_eq] at hb7p
        refine O.gvalB (v:=.pointer (some ⟨b_d1,2,none⟩)) hf rfl rfl rfl hb7 rfl rfl (RunV.field T_field_24_2 rfl rfl) ?_
        clear hf a; intro a hf
        refine O.gvalB (v:=.int .u8 d.half) hf rfl rfl rfl hb7 rfl rfl (RunV.load1 T_agg_5 rfl (hS.ptAt (i:=0) rfl) rfl) ?_
        clear hf a; intro a hf
        refine O.gcallR hf rfl rfl rfl hb7 rfl rfl (RunE.call (av:=#[.int .u8 d.half]) C_ok_35 rfl rfl rfl) (half_spec d.half _) ?_
        clear hf a
        rintro _ w8 hS1 a hf
        replace hf:Fr a _ _ ((32,.bool (halfB d.half))::_):=hf
        replace hS:=(hS.call hS1).eqM (N:=[pt b_d1 (.cells #[.int .i64 d.num,.int .i64 d.yr,.int .u8 d.half,.int .u8 d.sec,.int .i64 d.cyc] 24 (0,0))]) rfl
        clear hS1
        refine O.gvalB (v:=.bool (!(halfB d.half))) hf rfl rfl rfl hb7 rfl rfl (RunV.not rfl) ?_
        clear hf a; intro a hf
        refine O.val (v:=.bool (((decide (d.yr<(1800:Int)))||(decide (d.yr>(2099:Int))))||(!(halfB d.half)))) hf rfl rfl rfl (RunV.pick rfl rfl rfl (by rw [hb7]; rfl)) ?_; clear hf a; intro a hf
        exact O.nil ⟨rfl,hf.to ⟨rfl,rfl,rfl,rfl,rfl,rfl,rfl,rfl,rfl,trivial⟩,hS⟩
    clear hf hS a; rintro a w ⟨hf,hS⟩
    refine O.val hf rfl rfl rfl (RunV.move rfl) ?_
    clear hf a; intro a hf
    refine O.cutN (l₁:=[15,16,17,18,19]) (l₂:=_) (fun a w=>Fr a 51 [] [(1,.pointer (some ⟨b_d1,0,none⟩)),(2,.int .i64 0),(21,.pointer (some ⟨b_d1,1,none⟩)),(22,.int .i64 d.yr),(23,.bool (decide (d.yr<(1800:Int)))),(24,.bool (decide (d.yr<(1800:Int)))),(28,.bool ((decide (d.yr<(1800:Int)))||(decide (d.yr>(2099:Int))))),(29,.bool ((decide (d.yr<(1800:Int)))||(decide (d.yr>(2099:Int))))),(34,.bool (((decide (d.yr<(1800:Int)))||(decide (d.yr>(2099:Int))))||(!(halfB d.half)))),(35,.bool (((decide (d.yr<(1800:Int)))||(decide (d.yr>(2099:Int))))||(!(halfB d.half)))),(40,.bool ((((decide (d.yr<(1800:Int)))||(decide (d.yr>(2099:Int))))||(!(halfB d.half)))||(!(orderB d.sec))))]∧St w0 w noX [] [pt b_d1 (.cells #[.int .i64 d.num,.int .i64 d.yr,.int .u8 d.half,.int .u8 d.sec,.int .i64 d.cyc] 24 (0,0))]) rfl ?_ ?_
    · rcases Bool.eq_false_or_eq_true (((decide (d.yr<(1800:Int)))||(decide (d.yr>(2099:Int))))||(!(halfB d.half))) with hb9 | hb9
      · have hb9p:=hb9
        try simp only [Bool.and_eq_true,Bool.or_eq_true,Bool.and_eq_false_iff,Bool.or_eq_false_iff,decide_eq_true_eq,decide_eq_false_iff_not,Bool.not_eq_true',Bool.not_eq_false',Bool.not_eq_true,Bool.not_eq_false,ne_eq] at hb9p
        refine O.skipB hf rfl rfl rfl hb9 rfl ?_; clear hf a; intro a hf
        refine O.skipB hf rfl rfl rfl hb9 rfl ?_; clear hf a; intro a hf
        refine O.skipB hf rfl rfl rfl hb9 rfl ?_; clear hf a; intro a hf
        refine O.skipB hf rfl rfl rfl hb9 rfl ?_; clear hf a; intro a hf
        refine O.val (v:=.bool ((((decide (d.yr<(1800:Int)))||(decide (d.yr>(2099:Int))))||(!(halfB d.half)))||(!(orderB d.sec)))) hf rfl rfl rfl (RunV.pick rfl rfl rfl (by rw [hb9]; rfl)) ?_; clear hf a; intro a hf
        exact O.nil ⟨rfl,hf.to ⟨rfl,rfl,rfl,rfl,rfl,rfl,rfl,rfl,rfl,rfl,rfl,trivial⟩,hS⟩
      · have hb9p:=hb9
        try simp only [Bool.and_eq_true,Bool.or_eq_true,Bool.and_eq_false_iff,Bool.or_eq_false_iff,decide_eq_true_eq,decide_eq_false_iff_not,Bool.not_eq_true',Bool.not_eq_false',Bool.not_eq_true,Bool.not_eq_false,ne_eq] at hb9p
        refine O.gvalB (v:=.pointer (some ⟨b_d1,3,none⟩)) hf rfl rfl rfl hb9 rfl rfl (RunV.field T_field_24_3 rfl rfl) ?_
        clear hf a; intro a hf
        refine O.gvalB (v:=.int .u8 d.sec) hf rfl rfl rfl hb9 rfl rfl (RunV.load1 T_agg_5 rfl (hS.ptAt (i:=0) rfl) rfl) ?_
        clear hf a; intro a hf
        refine O.gcallR hf rfl rfl rfl hb9 rfl rfl (RunE.call (av:=#[.int .u8 d.sec]) C_ok_36 rfl rfl rfl) (orderl_spec d.sec _) ?_
        clear hf a
        rintro _ w10 hS1 a hf
        replace hf:Fr a _ _ ((38,.bool (orderB d.sec))::_):=hf
        replace hS:=(hS.call hS1).eqM (N:=[pt b_d1 (.cells #[.int .i64 d.num,.int .i64 d.yr,.int .u8 d.half,.int .u8 d.sec,.int .i64 d.cyc] 24 (0,0))]) rfl
        clear hS1
        refine O.gvalB (v:=.bool (!(orderB d.sec))) hf rfl rfl rfl hb9 rfl rfl (RunV.not rfl) ?_
        clear hf a; intro a hf
        refine O.val (v:=.bool ((((decide (d.yr<(1800:Int)))||(decide (d.yr>(2099:Int))))||(!(halfB d.half)))||(!(orderB d.sec)))) hf rfl rfl rfl (RunV.pick rfl rfl rfl (by rw [hb9]; rfl)) ?_; clear hf a; intro a hf
        exact O.nil ⟨rfl,hf.to ⟨rfl,rfl,rfl,rfl,rfl,rfl,rfl,rfl,rfl,rfl,rfl,trivial⟩,hS⟩
    clear hf hS a; rintro a w ⟨hf,hS⟩
    refine O.val hf rfl rfl rfl (RunV.move rfl) ?_
    clear hf a; intro a hf
    refine O.cutN (l₁:=[21,22,23,24]) (l₂:=_) (fun a w=>Fr a 51 [] [(1,.pointer (some ⟨b_d1,0,none⟩)),(2,.int .i64 0),(21,.pointer (some ⟨b_d1,1,none⟩)),(22,.int .i64 d.yr),(23,.bool (decide (d.yr<(1800:Int)))),(24,.bool (decide (d.yr<(1800:Int)))),(28,.bool ((decide (d.yr<(1800:Int)))||(decide (d.yr>(2099:Int))))),(29,.bool ((decide (d.yr<(1800:Int)))||(decide (d.yr>(2099:Int))))),(34,.bool (((decide (d.yr<(1800:Int)))||(decide (d.yr>(2099:Int))))||(!(halfB d.half)))),(35,.bool (((decide (d.yr<(1800:Int)))||(decide (d.yr>(2099:Int))))||(!(halfB d.half)))),(40,.bool ((((decide (d.yr<(1800:Int)))||(decide (d.yr>(2099:Int))))||(!(halfB d.half)))||(!(orderB d.sec)))),(41,.bool ((((decide (d.yr<(1800:Int)))||(decide (d.yr>(2099:Int))))||(!(halfB d.half)))||(!(orderB d.sec)))),(45,.bool (((((decide (d.yr<(1800:Int)))||(decide (d.yr>(2099:Int))))||(!(halfB d.half)))||(!(orderB d.sec)))||(decide (d.cyc<(0:Int)))))]∧St w0 w noX [] [pt b_d1 (.cells #[.int .i64 d.num,.int .i64 d.yr,.int .u8 d.half,.int .u8 d.sec,.int .i64 d.cyc] 24 (0,0))]) rfl ?_ ?_
    · rcases Bool.eq_false_or_eq_true ((((decide (d.yr<(1800:Int)))||(decide (d.yr>(2099:Int))))||(!(halfB d.half)))||(!(orderB d.sec))) with hb11 | hb11
      · have hb11p:=hb11
        try simp only [Bool.and_eq_true,Bool.or_eq_true,Bool.and_eq_false_iff,Bool.or_eq_false_iff,decide_eq_true_eq,decide_eq_false_iff_not,Bool.not_eq_true',Bool.not_eq_false',Bool.not_eq_true,Bool.not_eq_false,ne_eq] at hb11p
        refine O.skipB hf rfl rfl rfl hb11 rfl ?_; clear hf a; intro a hf
        refine O.skipB hf rfl rfl rfl hb11 rfl ?_; clear hf a; intro a hf
        refine O.skipB hf rfl rfl rfl hb11 rfl ?_; clear hf a; intro a hf
        refine O.val (v:=.bool (((((decide (d.yr<(1800:Int)))||(decide (d.yr>(2099:Int))))||(!(halfB d.half)))||(!(orderB d.sec)))||(decide (d.cyc<(0:Int))))) hf rfl rfl rfl (RunV.pick rfl rfl rfl (by rw [hb11]; rfl)) ?_; clear hf a; intro a hf
        exact O.nil ⟨rfl,hf.to ⟨rfl,rfl,rfl,rfl,rfl,rfl,rfl,rfl,rfl,rfl,rfl,rfl,rfl,trivial⟩,hS⟩
      · have hb11p:=hb11
        try simp only [Bool.and_eq_true,Bool.or_eq_true,Bool.and_eq_false_iff,Bool.or_eq_false_iff,decide_eq_true_eq,decide_eq_false_iff_not,Bool.not_eq_true',Bool.not_eq_false',Bool.not_eq_true,Bool.not_eq_false,ne_eq] at hb11p
        refine O.gvalB (v:=.pointer (some ⟨b_d1,4,none⟩)) hf rfl rfl rfl hb11 rfl rfl (RunV.field T_field_24_4 rfl rfl) ?_
        clear hf a; intro a hf
        refine O.gvalB (v:=.int .i64 d.cyc) hf rfl rfl rfl hb11 rfl rfl (RunV.load1 T_agg_3 rfl (hS.ptAt (i:=0) rfl) rfl) ?_
        clear hf a; intro a hf
        refine O.gvalB (v:=.bool (decide (d.cyc<(0:Int)))) hf rfl rfl rfl hb11 rfl rfl (RunV.lss rfl rfl) ?_
        clear hf a; intro a hf
        refine O.val (v:=.bool (((((decide (d.yr<(1800:Int)))||(decide (d.yr>(2099:Int))))||(!(halfB d.half)))||(!(orderB d.sec)))||(decide (d.cyc<(0:Int))))) hf rfl rfl rfl (RunV.pick rfl rfl rfl (by rw [hb11]; rfl)) ?_; clear hf a; intro a hf
        exact O.nil ⟨rfl,hf.to ⟨rfl,rfl,rfl,rfl,rfl,rfl,rfl,rfl,rfl,rfl,rfl,rfl,rfl,trivial⟩,hS⟩
    clear hf hS a; rintro a w ⟨hf,hS⟩
    refine O.val hf rfl rfl rfl (RunV.move rfl) ?_
    clear hf a; intro a hf
    refine O.cutN (l₁:=[26,27,28,29]) (l₂:=_) (fun a w=>Fr a 51 [] [(1,.pointer (some ⟨b_d1,0,none⟩)),(2,.int .i64 0),(21,.pointer (some ⟨b_d1,1,none⟩)),(22,.int .i64 d.yr),(23,.bool (decide (d.yr<(1800:Int)))),(24,.bool (decide (d.yr<(1800:Int)))),(28,.bool ((decide (d.yr<(1800:Int)))||(decide (d.yr>(2099:Int))))),(29,.bool ((decide (d.yr<(1800:Int)))||(decide (d.yr>(2099:Int))))),(34,.bool (((decide (d.yr<(1800:Int)))||(decide (d.yr>(2099:Int))))||(!(halfB d.half)))),(35,.bool (((decide (d.yr<(1800:Int)))||(decide (d.yr>(2099:Int))))||(!(halfB d.half)))),(40,.bool ((((decide (d.yr<(1800:Int)))||(decide (d.yr>(2099:Int))))||(!(halfB d.half)))||(!(orderB d.sec)))),(41,.bool ((((decide (d.yr<(1800:Int)))||(decide (d.yr>(2099:Int))))||(!(halfB d.half)))||(!(orderB d.sec)))),(45,.bool (((((decide (d.yr<(1800:Int)))||(decide (d.yr>(2099:Int))))||(!(halfB d.half)))||(!(orderB d.sec)))||(decide (d.cyc<(0:Int))))),(46,.bool (((((decide (d.yr<(1800:Int)))||(decide (d.yr>(2099:Int))))||(!(halfB d.half)))||(!(orderB d.sec)))||(decide (d.cyc<(0:Int))))),(50,.bool ((((((decide (d.yr<(1800:Int)))||(decide (d.yr>(2099:Int))))||(!(halfB d.half)))||(!(orderB d.sec)))||(decide (d.cyc<(0:Int))))||(decide (d.cyc>(619:Int)))))]∧St w0 w noX [] [pt b_d1 (.cells #[.int .i64 d.num,.int .i64 d.yr,.int .u8 d.half,.int .u8 d.sec,.int .i64 d.cyc] 24 (0,0))]) rfl ?_ ?_
    · rcases Bool.eq_false_or_eq_true (((((decide (d.yr<(1800:Int)))||(decide (d.yr>(2099:Int))))||(!(halfB d.half)))||(!(orderB d.sec)))||(decide (d.cyc<(0:Int)))) with hb12 | hb12
      · have hb12p:=hb12
        try simp only [Bool.and_eq_true,Bool.or_eq_true,Bool.and_eq_false_iff,Bool.or_eq_false_iff,decide_eq_true_eq,decide_eq_false_iff_not,Bool.not_eq_true',Bool.not_eq_false',Bool.not_eq_true,Bool.not_eq_false,ne_eq] at hb12p
        refine O.skipB hf rfl rfl rfl hb12 rfl ?_; clear hf a; intro a hf
        refine O.skipB hf rfl rfl rfl hb12 rfl ?_; clear hf a; intro a hf
        refine O.skipB hf rfl rfl rfl hb12 rfl ?_; clear hf a; intro a hf
        refine O.val (v:=.bool ((((((decide (d.yr<(1800:Int)))||(decide (d.yr>(2099:Int))))||(!(halfB d.half)))||(!(orderB d.sec)))||(decide (d.cyc<(0:Int))))||(decide (d.cyc>(619:Int))))) hf rfl rfl rfl (RunV.pick rfl rfl rfl (by rw [hb12]; rfl)) ?_; clear hf a; intro a hf
        exact O.nil ⟨rfl,hf.to ⟨rfl,rfl,rfl,rfl,rfl,rfl,rfl,rfl,rfl,rfl,rfl,rfl,rfl,rfl,rfl,trivial⟩,hS⟩
      · have hb12p:=hb12
        try simp only [Bool.and_eq_true,Bool.or_eq_true,Bool.and_eq_false_iff,Bool.or_eq_false_iff,decide_eq_true_eq,decide_eq_false_iff_not,Bool.not_eq_true',Bool.not_eq_false',Bool.not_eq_true,Bool.not_eq_false,ne_eq] at hb12p
        refine O.gvalB (v:=.pointer (some ⟨b_d1,4,none⟩)) hf rfl rfl rfl hb12 rfl rfl (RunV.field T_field_24_4 rfl rfl) ?_
        clear hf a; intro a hf
        refine O.gvalB (v:=.int .i64 d.cyc) hf rfl rfl rfl hb12 rfl rfl (RunV.load1 T_agg_3 rfl (hS.ptAt (i:=0) rfl) rfl) ?_
        clear hf a; intro a hf
        refine O.gvalB (v:=.bool (decide (d.cyc>(619:Int)))) hf rfl rfl rfl hb12 rfl rfl (RunV.gtr rfl rfl) ?_
        clear hf a; intro a hf
        refine O.val (v:=.bool ((((((decide (d.yr<(1800:Int)))||(decide (d.yr>(2099:Int))))||(!(halfB d.half)))||(!(orderB d.sec)))||(decide (d.cyc<(0:Int))))||(decide (d.cyc>(619:Int))))) hf rfl rfl rfl (RunV.pick rfl rfl rfl (by rw [hb12]; rfl)) ?_; clear hf a; intro a hf
        exact O.nil ⟨rfl,hf.to ⟨rfl,rfl,rfl,rfl,rfl,rfl,rfl,rfl,rfl,rfl,rfl,rfl,rfl,rfl,rfl,trivial⟩,hS⟩
    clear hf hS a; rintro a w ⟨hf,hS⟩
    refine O.nil ?_
    refine k_seq ?_
    replace hf:Fr a 51 [] [(2,.int .i64 0),(50,.bool ((((((decide (d.yr<(1800:Int)))||(decide (d.yr>(2099:Int))))||(!(halfB d.half)))||(!(orderB d.sec)))||(decide (d.cyc<(0:Int))))||(decide (d.cyc>(619:Int)))))]:=hf.to ⟨rfl,rfl,trivial⟩
    refine W.if_ hf rfl (fun hb2=>?_) (fun hb2=>?_)
    · have hb2b:=hb2
      try simp only [Bool.and_eq_true,Bool.or_eq_true,Bool.and_eq_false_iff,Bool.or_eq_false_iff,decide_eq_true_eq,decide_eq_false_iff_not,Bool.not_eq_true',Bool.not_eq_false',Bool.not_eq_true,Bool.not_eq_false,ne_eq] at hb2
      refine W.seq ?_
      refine W.regionL (l:=[0]) rfl ?_
      refine O.val hf rfl rfl rfl (RunV.assign rfl) ?_
      clear hf a; intro a hf
      refine O.nil ?_
      refine k_seq ?_
      refine W.ret ?_
      refine k_then_ret ?_
      refine post1 hf rfl (ResOK.tmp rfl) ?_
      exact ⟨(),congrArg (fun x=>Ending.returned (Value.int .i64 x)) (by rw [okD_28 hr]; first | rw [if_pos hn,ck_bad1 hb1b]; rfl | rw [if_neg hn,ck_bad2 hb2b]; rfl),hS.sub (List.nil_sublist _) |>.noB⟩
    · have hb2b:=hb2
      try simp only [Bool.and_eq_true,Bool.or_eq_true,Bool.and_eq_false_iff,Bool.or_eq_false_iff,decide_eq_true_eq,decide_eq_false_iff_not,Bool.not_eq_true',Bool.not_eq_false',Bool.not_eq_true,Bool.not_eq_false,ne_eq] at hb2
      refine W.skip ?_
      refine k_seq ?_
      refine W.seq ?_
      refine W.regionL (l:=[0]) rfl ?_
      refine O.val hf rfl rfl rfl (RunV.assign rfl) ?_
      clear hf a; intro a hf
      refine O.nil ?_
      refine k_seq ?_
      refine W.ret ?_
      refine post1 hf rfl (ResOK.tmp rfl) ?_
      exact ⟨(),congrArg (fun x=>Ending.returned (Value.int .i64 x)) (by rw [okD_28 hr]; first | rw [if_pos hn,ck_ok1 hb1b]; rfl | rw [if_neg hn,ck_ok2 hb2b]; rfl),hS.sub (List.nil_sublist _) |>.noB⟩
end Go.Proofs.YtgakdmmmljdpjaaDoor

namespace Go.SL
open Go
def eP (p:Int × Int):List Value:=[.int .i64 p.1,.int .i64 p.2]
theorem eP_len (p:Int × Int):(eP p).length=2:=rfl
def addC (d:Dg):Ch:=⟨1,d,default,0⟩
def oneG (d:Dg):PG:=([d],false)
theorem okC_add {d:Dg} (h:okD d=true) (h0:d.num=0):okC (addC d)=true:=by
  unfold okC addC
  simp [h,h0]
theorem add_step {S:List PG} {d:Dg}:stepM S (addC d)=(match findG S d with | some _=>.error 14 | none=>.ok (oneG d::S)):=by
  unfold stepM addM addC oneG
  simp only [if_true]
  cases findG S d <;> rfl
theorem add_err:∀ {t:List Dg} {S:List PG} {e:Int},runL S (t.map addC)=.error e→e=14
  | [],S,e,h=>by cases h
  | d::t,S,e,h=>by
    simp only [List.map_cons,runL,add_step] at h
    cases hf:findG S d with
    | some _=>rw [hf] at h; cases h; rfl
    | none=>rw [hf] at h; exact add_err h
theorem add_ok:∀ {t:List Dg} {S S':List PG},runL S (t.map addC)=.ok S'→S'=(t.map oneG).reverse++S
  | [],S,S',h=>by cases h; rfl
  | d::t,S,S',h=>by
    simp only [List.map_cons,runL,add_step] at h
    cases hf:findG S d with
    | some _=>rw [hf] at h; cases h
    | none =>
      rw [hf] at h
      rw [add_ok h]
      simp
theorem base_ok (l:List Dg) (h:∀ d ∈ l,okD d=true∧d.num=0):∀ c ∈ l.map addC,okC c=true∧c.kind≠4:=fun c hc=>by
  obtain ⟨d,hd,rfl⟩:=List.mem_map.1 hc
  exact ⟨okC_add (h d hd).1 (h d hd).2,fun h=>absurd h (show (1:Int)≠4 by decide)⟩
theorem base_err {l:List Dg} {e:Int} (h:∀ d ∈ l,okD d=true∧d.num=0) (hl:l.length≤10) (hm:histM (l.map addC)=.error e):e=14:=by
  rw [hist_self (base_ok l h) (by rw [List.length_map]; omega)] at hm
  cases hr:runL [] (l.map addC) with
  | error e'=>rw [hr] at hm; cases hm; exact add_err hr
  | ok S=>rw [hr] at hm; cases hm
def togS (S:List PG) (a b:Dg):Prop:=∃ p ∈ S,a ∈ p.1∧b ∈ p.1
def Eqv (qs:List (Dg × Dg)) (a b:Dg):Prop:=∀ r:Dg→Dg→Prop,(∀ x,r x x)→(∀ x y,r x y→r y x)→(∀ x y z,r x y→r y z→r x z)→(∀ q ∈ qs,r q.1 q.2)→r a b
section
variable {qs qs':List (Dg × Dg)} {a b c x y:Dg}
theorem Eqv.refl:Eqv qs a a:=fun r h1 _ _ _=>h1 a
theorem Eqv.symm (h:Eqv qs a b):Eqv qs b a:=fun r h1 h2 h3 h4=>h2 _ _ (h r h1 h2 h3 h4)
theorem Eqv.trans (h:Eqv qs a b) (h':Eqv qs b c):Eqv qs a c:=fun r h1 h2 h3 h4=>h3 _ _ _ (h r h1 h2 h3 h4) (h' r h1 h2 h3 h4)
theorem Eqv.of (h:(a,b) ∈ qs):Eqv qs a b:=fun r _ _ _ h4=>h4 _ h
theorem Eqv.mono (hs:∀ q ∈ qs,Eqv qs' q.1 q.2) (h:Eqv qs a b):Eqv qs' a b:=h (Eqv qs') (fun _=>.refl) (fun _ _=>.symm) (fun _ _ _=>.trans) hs
theorem Eqv.nil (h:Eqv [] a b):a=b:=h Eq (fun _=>rfl) (fun _ _ h=>h.symm) (fun _ _ _ h h'=>h.trans h') (fun q hq=>by cases hq)
theorem Eqv.more (h:Eqv qs a b):Eqv (qs++[(x,y)]) a b:=h.mono fun q hq=>.of (List.mem_append_left _ hq)
theorem Eqv.less (hxy:Eqv qs x y) (h:Eqv (qs++[(x,y)]) a b):Eqv qs a b:=h.mono fun q hq=>by
  rcases List.mem_append.1 hq with hq | hq
  · exact .of hq
  · rw [List.mem_singleton.1 hq]; exact hxy
end
structure OrdI (l:List Dg) (qs:List (Dg × Dg)) (fw:List Ch) (S:List PG) (us:List Bool):Prop where
  hist:histM fw=.ok (S,us)
  mem:∀ q ∈ qs,q.1 ∈ l∧q.2 ∈ l
  cov:∀ d ∈ l,∃ p ∈ S,d ∈ p.1
  inn:∀ p ∈ S,∀ d ∈ p.1,d ∈ l
  num:∀ p ∈ S,p.2=false
  tog:∀ a ∈ l,∀ b ∈ l,togS S a b↔Eqv qs a b
  cnt:fw.length+S.length=2*l.length
theorem ord_start {l:List Dg} {S:List PG} {us:List Bool} (h:∀ d ∈ l,okD d=true∧d.num=0) (hl:l.length≤10) (hm:histM (l.map addC)=.ok (S,us)):OrdI l [] (l.map addC) S us∧l.Nodup:=by
  have hm':=hm
  rw [hist_self (base_ok l h) (by rw [List.length_map]; omega)] at hm'
  cases hr:runL [] (l.map addC) with
  | error e'=>rw [hr] at hm'; cases hm'
  | ok S' =>
    rw [hr] at hm'
    simp only [mapOk,Except.ok.injEq,Prod.mk.injEq] at hm'
    obtain ⟨rfl,rfl⟩:=hm'
    have hS:=add_ok hr
    rw [List.append_nil] at hS
    have hmem:∀ p,p ∈ S'↔∃ d ∈ l,oneG d=p:=fun p=>by rw [hS,List.mem_reverse,List.mem_map]
    refine ⟨⟨hm,fun q hq=>(by cases hq),fun d hd=>⟨oneG d,(hmem _).2 ⟨d,hd,rfl⟩,by simp [oneG]⟩,fun p hp d hd=>?_,fun p hp=>?_,fun a ha b hb=>⟨fun ⟨p,hp,h1,h2⟩=>?_,fun h=>?_⟩,?_⟩,?_⟩
    · obtain ⟨d',hd',rfl⟩:=(hmem p).1 hp
      rw [List.mem_singleton.1 hd]; exact hd'
    · obtain ⟨d',hd',rfl⟩:=(hmem p).1 hp; rfl
    · obtain ⟨d',hd',rfl⟩:=(hmem p).1 hp
      rw [List.mem_singleton.1 h1,List.mem_singleton.1 h2]; exact .refl
    · rw [← h.nil]
      exact ⟨oneG a,(hmem _).2 ⟨a,ha,rfl⟩,by simp [oneG],by simp [oneG]⟩
    · rw [hS]; simp; omega
    · have hw:=(wf_hist hm).1
      unfold apartS at hw
      rw [hS,List.pairwise_reverse,List.pairwise_map] at hw
      rw [List.nodup_iff_pairwise_ne]
      exact hw.imp fun {a b} hab e=>hab b (by simp [oneG]) (by simp [oneG,e])
section
variable {l:List Dg} {qs qs2:List (Dg × Dg)} {fw bw:List Ch} {S T:List PG} {us vs:List Bool} {x y:Dg}
theorem ord_step (I:OrdI l qs fw S us) (h:∀ d ∈ l,okD d=true∧d.num=0) (hl:l.length≤10) (hx:x ∈ l) (hy:y ∈ l) (hne:x≠y) :
    (∃ S2 us2,appM fw (joinC x y)=.ok (S2,us2)∧OrdI l (qs++[(x,y)]) (fw++[joinC x y]) S2 us2)∨(appM fw (joinC x y)=.error 36∧OrdI l (qs++[(x,y)]) fw S us):=by
  have hw:=wf_hist I.hist
  have hfl:fw.length≤20:=by have:=I.cnt; omega
  have hc:okC (joinC x y)=true:=by rw [okC_join,(h x hx).1,(h y hy).1,decide_eq_false hne]; rfl
  have hsn:=hist_snoc I.hist hc (show (2:Int)≠4 by decide) (by omega)
  rw [step_join] at hsn
  have ha:appM fw (joinC x y)=histM (fw++[joinC x y]):=by unfold appM; rw [I.hist]; simp only [hc,if_true]
  have hmem:∀ q ∈ qs++[(x,y)],q.1 ∈ l∧q.2 ∈ l:=fun q hq=>by
    rcases List.mem_append.1 hq with hq | hq
    · exact I.mem q hq
    · rw [List.mem_singleton.1 hq]; exact ⟨hx,hy⟩
  obtain ⟨gx,hgx,hxg⟩:=I.cov x hx
  obtain ⟨gy,hgy,hyg⟩:=I.cov y hy
  have hfx:=find_some hw.1 hgx hxg
  have hfy:=find_some hw.1 hgy hyg
  cases hj:joinM S (joinC x y) with
  | error e =>
    right
    unfold joinM at hj
    rw [show (joinC x y).a=x from rfl,show (joinC x y).b=y from rfl,hfx,hfy] at hj
    simp only at hj
    split at hj
    · rename_i hc2
      have hxy:gx=gy:=by
        rcases hc2 with h1 | h1
        · exact h1
        · rw [I.num gx hgx] at h1; cases h1
      have he:e=36:=by cases hj; rfl
      refine ⟨by rw [ha,hsn]; unfold joinM; rw [show (joinC x y).a=x from rfl,show (joinC x y).b=y from rfl,hfx,hfy]; simp only; rw [if_pos hc2],I.hist,hmem,I.cov,I.inn,I.num,fun a ha b hb=>?_,I.cnt⟩
      have hE:Eqv qs x y:=(I.tog x hx y hy).1 ⟨gx,hgx,hxg,hxy▸hyg⟩
      rw [I.tog a ha b hb]
      exact ⟨Eqv.more,Eqv.less hE⟩
    · cases hj
  | ok S2 =>
    left
    rw [hj] at hsn
    simp only at hsn
    obtain ⟨gx',gy',rest,hfa,hfb,hp,hS2,hxa,hyb,hn⟩:=join_parts hw.1 hj
    have hfa:findG S x=some gx':=hfa
    have hfb:findG S y=some gy':=hfb
    obtain rfl:gx=gx':=by rw [hfx] at hfa; exact Option.some.inj hfa
    obtain rfl:gy=gy':=by rw [hfy] at hfb; exact Option.some.inj hfb
    have hw2:=wf_hist hsn
    have hmp:=merged_perm gx gy
    have hin2:∀ p ∈ S2,∀ d ∈ p.1,d ∈ l:=fun p hp' d hd=>by
      rw [hS2] at hp'
      rcases List.mem_cons.1 hp' with rfl | hp'
      · rcases List.mem_append.1 (hmp.mem_iff.1 hd) with h1 | h1
        · exact I.inn gx hgx d h1
        · exact I.inn gy hgy d h1
      · exact I.inn p (hp.mem_iff.2 (by simp [hp'])) d hd
    have hmS:merged gx gy ∈ S2:=by rw [hS2]; exact List.mem_cons_self
    have htog:∀ a b,togS S a b→togS S2 a b:=fun a b ⟨p,hp',h1,h2⟩=>by
      rcases List.mem_cons.1 (hp.mem_iff.1 hp') with rfl | h3
      · exact ⟨_,hmS,hmp.mem_iff.2 (List.mem_append_left _ h1),hmp.mem_iff.2 (List.mem_append_left _ h2)⟩
      · rcases List.mem_cons.1 h3 with rfl | h3
        · exact ⟨_,hmS,hmp.mem_iff.2 (List.mem_append_right _ h1),hmp.mem_iff.2 (List.mem_append_right _ h2)⟩
        · exact ⟨p,by rw [hS2]; exact List.mem_cons_of_mem _ h3,h1,h2⟩
    have hcov2:∀ d ∈ l,∃ p ∈ S2,d ∈ p.1:=fun d hd=>by
      obtain ⟨p,hp',h1⟩:=I.cov d hd
      obtain ⟨p2,h2,h3,_⟩:=htog d d ⟨p,hp',h1,h1⟩
      exact ⟨p2,h2,h3⟩
    have hE:∀ a ∈ l,∀ b ∈ l,∀ p ∈ S,a ∈ p.1→b ∈ p.1→Eqv (qs++[(x,y)]) a b:=fun a ha b hb p hp' h1 h2=>((I.tog a ha b hb).1 ⟨p,hp',h1,h2⟩).more
    have hExy:Eqv (qs++[(x,y)]) x y:=.of (by simp)
    refine ⟨S2,_,by rw [ha,hsn],hsn,hmem,hcov2,hin2,fun p hp'=>?_,fun a ha b hb=>⟨fun ⟨p,hp',h1,h2⟩=>?_,fun h1=>?_⟩,?_⟩
    · rw [hS2] at hp'
      rcases List.mem_cons.1 hp' with rfl | hp'
      · rw [merged_num,I.num gx hgx,I.num gy hgy]; rfl
      · exact I.num p (hp.mem_iff.2 (by simp [hp']))
    · rw [hS2] at hp'
      rcases List.mem_cons.1 hp' with rfl | hp'
      · rcases List.mem_append.1 (hmp.mem_iff.1 h1) with h1 | h1 <;> rcases List.mem_append.1 (hmp.mem_iff.1 h2) with h2 | h2
        · exact hE a ha b hb gx hgx h1 h2
        · exact (hE a ha x hx gx hgx h1 hxg).trans (hExy.trans (hE y hy b hb gy hgy hyg h2))
        · exact (hE a ha y hy gy hgy h1 hyg).trans (hExy.symm.trans (hE x hx b hb gx hgx hxg h2))
        · exact hE a ha b hb gy hgy h1 h2
      · exact hE a ha b hb p (hp.mem_iff.2 (by simp [hp'])) h1 h2
    · have h2:=h1 (fun a b=>a=b∨togS S2 a b) (fun _=>.inl rfl) (fun a b h=>h.elim (fun h=>.inl h.symm) (fun ⟨p,h1,h2,h3⟩=>.inr ⟨p,h1,h3,h2⟩)) (fun a b c h h'=>by
        rcases h with rfl | ⟨p,h1,h2,h3⟩
        · exact h'
        · rcases h' with rfl | ⟨p',h1',h2',h3'⟩
          · exact .inr ⟨p,h1,h2,h3⟩
          · obtain rfl:=pg_uniq hw2.1 h1 h1' h3 h2'
            exact .inr ⟨p,h1,h2,h3'⟩) (fun q hq=>by
        rcases List.mem_append.1 hq with hq | hq
        · exact .inr (htog _ _ ((I.tog _ (I.mem q hq).1 _ (I.mem q hq).2).2 (.of hq)))
        · rw [List.mem_singleton.1 hq]
          exact .inr ⟨_,hmS,hmp.mem_iff.2 (List.mem_append_left _ hxg),hmp.mem_iff.2 (List.mem_append_right _ hyg)⟩)
      rcases h2 with rfl | h2
      · obtain ⟨p,hp',h3⟩:=hcov2 a ha
        exact ⟨p,hp',h3,h3⟩
      · exact h2
    · have h3:=hp.length_eq
      have h4:=I.cnt
      rw [hS2]
      simp only [List.length_append,List.length_cons,List.length_nil] at h3 ⊢
      omega
def JnR (fw:List Ch) (c:Ch) (e:Int) (R:List Ch):Prop:=(e=0∧R=fw++[c]∧∃ S us,appM fw c=.ok (S,us))∨(e=36∧R=[]∧appM fw c=.error 36)
theorem ord_stepU (I:OrdI l qs fw S us) (h:∀ d ∈ l,okD d=true∧d.num=0) (hl:l.length≤10) (hx:x ∈ l) (hy:y ∈ l) (hne:x≠y) :
    ∃ e R S2 us2,JnR fw (joinC x y) e R∧OrdI l (qs++[(x,y)]) (if e=0 then R else fw) S2 us2∧(e=0∨e=36)∧R.length≤fw.length+1:=by
  rcases ord_step I h hl hx hy hne with ⟨S2,us2,h1,h2⟩ | ⟨h1,h2⟩
  · exact ⟨0,fw++[joinC x y],S2,us2,.inl ⟨rfl,rfl,S2,us2,h1⟩,h2,.inl rfl,by simp⟩
  · exact ⟨36,[],S,us,.inr ⟨rfl,rfl,h1⟩,h2,.inr rfl,by simp⟩
theorem sortDs_perm {l m:List Dg} (h:l.Perm m):sortDs l=sortDs m:=sortDs_eq (h.trans (List.mergeSort_perm m _).symm) ((sort_pair m).imp fun {a b} hab=>by
  unfold ltD
  rw [decide_eq_false_iff_not,cmpD_anti]
  omega)
theorem objP_nodup (hw:wfS S):(S.map objP).Nodup:=by
  rw [List.nodup_iff_pairwise_ne,List.pairwise_map]
  refine List.Pairwise.imp_of_mem ?_ hw.1
  intro a b ha hb hab he
  have h4:=hd_mem (hw.2 a ha).1
  have h5:=hd_mem (hw.2 b hb).1
  have he2:(sortDs a.1).getD 0 default=(sortDs b.1).getD 0 default:=congrArg Prod.fst he
  rw [← he2] at h5
  exact hab _ h4 h5
theorem objs_eq (hw:wfS S) (h:(S.map objP).Perm (T.map objP)):objsM S=objsM T :=
  sorted_eq (objs_inj hw) (h.trans objsM_perm'.symm) (List.pairwise_mergeSort leO_trans leO_total _)
theorem ord_half (I:OrdI l qs fw S us) (J:OrdI l qs2 bw T vs) (he:∀ a b,Eqv qs a b↔Eqv qs2 a b):∀ x,x ∈ S.map objP→x ∈ T.map objP:=fun x hx=>by
  obtain ⟨p,hp,rfl⟩:=List.mem_map.1 hx
  have hwS:=wf_hist I.hist
  have hwT:=wf_hist J.hist
  obtain ⟨d,hd⟩:=List.exists_mem_of_ne_nil _ (hwS.2 p hp).1
  have hdl:=I.inn p hp d hd
  obtain ⟨p',hp',hd'⟩:=J.cov d hdl
  refine List.mem_map.2 ⟨p',hp',?_⟩
  have hperm:p'.1.Perm p.1:=(List.perm_ext_iff_of_nodup (hwT.2 p' hp').2.1 (hwS.2 p hp).2.1).2 fun a=>⟨fun ha=>?_,fun ha=>?_⟩
  · unfold objP; rw [sortDs_perm hperm]
  · have hal:=J.inn p' hp' a ha
    obtain ⟨p2,h2,h3,h4⟩:=(I.tog d hdl a hal).2 ((he d a).2 ((J.tog d hdl a hal).1 ⟨p',hp',hd',ha⟩))
    obtain rfl:=pg_uniq hwS.1 h2 hp h3 hd
    exact h4
  · have hal:=I.inn p hp a ha
    obtain ⟨p2,h2,h3,h4⟩:=(J.tog d hdl a hal).2 ((he d a).1 ((I.tog d hdl a hal).1 ⟨p,hp,hd,ha⟩))
    obtain rfl:=pg_uniq hwT.1 h2 hp' h3 hd'
    exact h4
def fP (l:List Dg) (p:Int × Int):Dg × Dg:=(l.getD p.1.toNat default,l.getD p.2.toNat default)
def bP (l:List Dg) (p:Int × Int):Dg × Dg:=(l.getD p.2.toNat default,l.getD p.1.toNat default)
theorem ord_eqv {ps:List (Int × Int)} (a b:Dg):Eqv (ps.map (fP l)) a b↔Eqv (ps.reverse.map (bP l)) a b:=by
  constructor
  · refine Eqv.mono fun q hq=>?_
    obtain ⟨p,hp,rfl⟩:=List.mem_map.1 hq
    exact Eqv.symm (.of (List.mem_map.2 ⟨p,List.mem_reverse.2 hp,rfl⟩))
  · refine Eqv.mono fun q hq=>?_
    obtain ⟨p,hp,rfl⟩:=List.mem_map.1 hq
    exact Eqv.symm (.of (List.mem_map.2 ⟨p,List.mem_reverse.1 hp,rfl⟩))
theorem rev_getD {ps:List (Int × Int)} {i:Nat} (h:i<ps.length):ps.reverse.getD i default=ps.getD (ps.length-1-i) default:=by
  simp [List.getD_eq_getElem?_getD,List.getElem?_reverse h]
theorem getD_in {i:Nat} (h:i<l.length):l.getD i default ∈ l:=by
  rw [List.getD_eq_getElem?_getD,List.getElem?_eq_getElem h]
  exact List.getElem_mem _
theorem nd_ne (hn:l.Nodup) {i j:Nat} (hi:i<l.length) (hj:j<l.length) (h:i≠j):l.getD i default≠l.getD j default:=fun e=>by
  rw [List.nodup_iff_pairwise_ne] at hn
  rcases Nat.lt_or_gt_of_ne h with h1 | h1
  · exact pair_getD hn h1 hj e
  · exact pair_getD hn h1 hi e.symm
theorem ord_d {d:Dg} (h:(decide ((if okD d then (0:Int) else 8)≠0)||decide (d.num>0))=false):okD d=true∧d.num=0:=by
  simp only [Bool.or_eq_false_iff,decide_eq_false_iff_not] at h
  have h1:=okE_eq h.1
  refine ⟨h1,?_⟩
  have h2:=okD_num h1
  omega
theorem ord_same (I:OrdI l qs fw S us) (J:OrdI l qs2 bw T vs) (he:∀ a b,Eqv qs a b↔Eqv qs2 a b):objsM S=objsM T∧fw.length=bw.length:=by
  have h1:objsM S=objsM T:=objs_eq (wf_hist I.hist) ((List.perm_ext_iff_of_nodup (objP_nodup (wf_hist I.hist)) (objP_nodup (wf_hist J.hist))).2 fun x=>⟨ord_half I J he x,ord_half J I (fun a b=>(he a b).symm) x⟩)
  refine ⟨h1,?_⟩
  have h2:=congrArg List.length h1
  rw [objsM_len,objsM_len] at h2
  have h3:=I.cnt
  have h4:=J.cnt
  omega
end
end Go.SL
namespace Go.Proofs.YtgakdmmmljdpjaaDoor
open Go Go.SL
theorem applyU (vl:Value) (l:List Ch) (c:Ch) (w0:World) (hG:Lent w0 ordA) (hl:rdOK (hp w0) 12 vl l.length (encs eC l)) (hfit:vfit vl) (hz:l.length≤1000) (e:Int) (R:List Ch) (h:JnR l c e R) :
    Ret Tryd.prog 11 #[vl,cV c] w0 (G:=Value) (fun g=>.tuple #[g,.int .i64 e]) (fun g w=>St w0 w noX [] [slE 26 12 eC g R]):=by
  rcases h with ⟨rfl,rfl,S,us,h⟩ | ⟨rfl,rfl,h⟩
  · exact applyO vl l c w0 hG hl hfit hz S us h
  · exact (applyE vl l c w0 hG hl hfit hz 36 h).mono fun _ w' hS=>⟨.slice none 0 0,rfl,hS.nilSl 26 12⟩
end Go.Proofs.YtgakdmmmljdpjaaDoor
