/- Part of a proof: walks printed by a program. -/
import Derived.Test.YtipfobacinmoiaaGreatWaa
set_option linter.unusedVariables false
set_option linter.unusedSimpArgs false
namespace Go.Proofs.YtipfobacinmoiaaGreat
open Go Go.SL Go.Shelf Go.RowKit Go.Maps
set_option maxHeartbeats 400000 in
set_option maxRecDepth 4000 in
theorem parts6_spec (fW fH thr least:Int) (vP vB:Value) (zs:List Int) (bs:List Bool) (w0:World) [Decidable (Det.fieldOK fW fH zs)] (hP:rdOK (hp w0) 1 vP zs.length (ints zs)) (hB:rdOK (hp w0) 1 vB bs.length (bools bs)) :
    Ret Tryz.prog 17 #[.agg #[.int .i64 fW,.int .i64 fH,vP],vB,.int .i64 thr,.int .i64 least] w0 (G:=Value × List Value) (fun g=>.tuple #[g.1,.int .i64 (Det.partsE fW fH zs bs thr least)]) (fun g w=>St w0 w noX [] [sl 26 1 g.1 g.2.length g.2,inn g.2 (Det.partsR fW fH zs bs thr least)]):=by
  refine ret_of_W (lv:=[.agg #[.int .i64 fW,.int .i64 fH,vP],vB,.int .i64 thr,.int .i64 least]) Tryz.func17 rfl rfl rfl (fun a hf=>?_)
  replace hf:Fr a 64 [] [(0,.agg #[.int .i64 fW,.int .i64 fH,vP]),(1,vB),(2,.int .i64 thr),(3,.int .i64 least)]:=hf
  have hS:St w0 w0 noX [rdv 1 vP zs.length (ints zs),rdv 1 vB bs.length (bools bs)] []:=((St.refl w0).lend0 hB).lend0 hP
  have hlen:=hP.2.1
  unfold maxLen at hlen
  refine W.seq ?_
  refine W.regionL (l:=[0,1,2]) rfl ?_
  refine O.box (cs:=#[.int .i64 fW,.int .i64 fH,vP]) hf hS rfl rfl rfl rfl ?_
  clear hf hS a; intro b_f1 w a hbb_f1 hS hf
  refine O.val hf rfl rfl rfl (RunV.assign rfl) ?_
  clear hf a; intro a hf
  refine O.val hf rfl rfl rfl (RunV.assign rfl) ?_
  clear hf a; intro a hf
  refine O.nil ?_
  refine k_seq ?_
  replace hf:Fr a 64 [] [(1,vB),(2,.int .i64 thr),(3,.int .i64 least),(4,.pointer (some ⟨b_f1,0,none⟩)),(8,.slice none 0 0),(9,.int .i64 0)]:=hf.to ⟨rfl,rfl,rfl,rfl,rfl,rfl,trivial⟩
  refine W.seq ?_
  refine W.seq ?_
  refine W.regionL (l:=[0,1,2]) rfl ?_
  refine O.val hf rfl rfl rfl (RunV.loadN (cs':=#[.int .i64 fW,.int .i64 fH,vP]) T_agg_24 T_size_24 rfl (hS.ptAt (i:=0) rfl) (Nat.le_of_ble_eq_true rfl) rfl) ?_
  clear hf a; intro a hf
  refine O.callR hf rfl rfl rfl (RunE.call (av:=#[.agg #[.int .i64 fW,.int .i64 fH,vP]]) C_ok_25 rfl rfl rfl) (check11_spec fW fH vP zs _ (hS.rdAt (j:=0) rfl)) ?_
  clear hf a
  rintro _ w2 hS1 a hf
  replace hf:Fr a _ _ ((15,.int .i64 (if Det.fieldOK fW fH zs then 0 else 8))::_):=hf
  replace hS:=(hS.call hS1).eqM (N:=[pt b_f1 (.cells #[.int .i64 fW,.int .i64 fH,vP] 24 (0,0))]) rfl
  clear hS1
  refine O.val hf rfl rfl rfl (RunV.assign rfl) ?_
  clear hf a; intro a hf
  refine O.nil ?_
  refine k_seq ?_
  replace hf:Fr a 64 [] [(1,vB),(2,.int .i64 thr),(3,.int .i64 least),(4,.pointer (some ⟨b_f1,0,none⟩)),(8,.slice none 0 0),(9,.int .i64 0),(10,.int .i64 (if Det.fieldOK fW fH zs then 0 else 8))]:=hf.to ⟨rfl,rfl,rfl,rfl,rfl,rfl,rfl,trivial⟩
  refine W.seq ?_
  refine W.regionL (l:=[0,1]) rfl ?_
  refine O.val hf rfl rfl rfl (RunV.move rfl) ?_
  clear hf a; intro a hf
  refine O.val (v:=.bool (decide ((if Det.fieldOK fW fH zs then 0 else 8)≠(0:Int)))) hf rfl rfl rfl (RunV.neq rfl rfl) ?_
  clear hf a; intro a hf
  refine O.nil ?_
  refine k_seq ?_
  replace hf:Fr a 64 [] [(1,vB),(2,.int .i64 thr),(3,.int .i64 least),(4,.pointer (some ⟨b_f1,0,none⟩)),(8,.slice none 0 0),(9,.int .i64 0),(10,.int .i64 (if Det.fieldOK fW fH zs then 0 else 8)),(17,.bool (decide ((if Det.fieldOK fW fH zs then 0 else 8)≠(0:Int))))]:=hf.to ⟨rfl,rfl,rfl,rfl,rfl,rfl,rfl,rfl,trivial⟩
  refine W.ifdI hf rfl (fun hce=>?_) (fun hce=>?_)
  · have hfo:¬ Det.fieldOK fW fH zs:=fun h=>hce (if_pos h)
    refine W.seq ?_
    refine W.regionL (l:=[0,1,2]) rfl ?_
    refine O.val hf rfl rfl rfl (RunV.move rfl) ?_
    clear hf a; intro a hf
    refine O.val hf rfl rfl rfl (RunV.assign rfl) ?_
    clear hf a; intro a hf
    refine O.val hf rfl rfl rfl (RunV.assign rfl) ?_
    clear hf a; intro a hf
    refine O.nil ?_
    refine k_seq ?_
    replace hf:Fr a 64 [] [(1,vB),(2,.int .i64 thr),(3,.int .i64 least),(4,.pointer (some ⟨b_f1,0,none⟩)),(8,.slice none 0 0),(9,.int .i64 (if Det.fieldOK fW fH zs then 0 else 8))]:=hf.to ⟨rfl,rfl,rfl,rfl,rfl,rfl,trivial⟩
    refine W.ret ?_
    refine k_then_ret ?_
    refine post2 hf rfl (ResOK.tmp rfl) (ResOK.tmp rfl) ?_
    have he:Det.partsE fW fH zs bs thr least=8:=by unfold Det.partsE; rw [if_neg hfo]
    have hr:Det.partsR fW fH zs bs thr least=[]:=by unfold Det.partsR; rw [if_neg (by rw [he]; decide)]
    refine ⟨(.slice none 0 0,[]),by rw [he,if_neg hfo],?_⟩
    rw [hr]
    exact St.pushSl (hS.sub (List.nil_sublist _) |>.noB) 26
  · have hfo:Det.fieldOK fW fH zs:=Classical.byContradiction fun h=>hce (by rw [if_neg h]; decide)
    have hzl:=Det.field_len hfo
    refine W.skip ?_
    refine k_seq ?_
    replace hf:Fr a 64 [] [(1,vB),(2,.int .i64 thr),(3,.int .i64 least),(4,.pointer (some ⟨b_f1,0,none⟩)),(8,.slice none 0 0),(9,.int .i64 0)]:=hf.to ⟨rfl,rfl,rfl,rfl,rfl,rfl,trivial⟩
    refine W.seq ?_
    refine W.seq ?_
    refine W.regionL (l:=[0,1,2,3,4,5,6,7,8,9,10,11,12,13,14,15,16,17]) rfl ?_
    refine O.val hf rfl rfl rfl (RunV.move rfl) ?_
    clear hf a; intro a hf
    refine O.val hf rfl rfl rfl (RunV.lenV (e:=4) (by simpa using T_elem_25) rfl (hS.rdAt (j:=1) rfl)) ?_
    clear hf a; intro a hf
    refine O.val hf rfl rfl rfl (RunV.field T_field_24_2 rfl rfl) ?_
    clear hf a; intro a hf
    refine O.val hf rfl rfl rfl (RunV.load1 T_agg_22 rfl (hS.ptAt (i:=0) rfl) rfl) ?_
    clear hf a; intro a hf
    refine O.val hf rfl rfl rfl (RunV.lenV (e:=2) (by simpa using T_elem_22) rfl (hS.rdAt (j:=0) rfl)) ?_
    clear hf a; intro a hf
    refine O.val (v:=.bool (decide ((bs.length:Int)≠((zs.length:Int):Int)))) hf rfl rfl rfl (RunV.neq rfl rfl) ?_
    clear hf a; intro a hf
    refine O.val hf rfl rfl rfl (RunV.move rfl) ?_
    clear hf a; intro a hf
    refine O.cutN (l₁:=[7,8,9]) (l₂:=_) (fun a w=>Fr a 64 [] [(1,vB),(2,.int .i64 thr),(3,.int .i64 least),(4,.pointer (some ⟨b_f1,0,none⟩)),(8,.slice none 0 0),(9,.int .i64 0),(19,vB),(20,.int .i64 (bs.length:Int)),(21,.pointer (some ⟨b_f1,2,none⟩)),(22,vP),(23,.int .i64 (zs.length:Int)),(24,.bool (decide ((bs.length:Int)≠((zs.length:Int):Int)))),(25,.bool (decide ((bs.length:Int)≠((zs.length:Int):Int)))),(28,.bool ((decide ((bs.length:Int)≠((zs.length:Int):Int)))||(decide (thr<(-4294967296:Int)))))]∧St w0 w noX [rdv 1 vP zs.length (ints zs),rdv 1 vB bs.length (bools bs)] [pt b_f1 (.cells #[.int .i64 fW,.int .i64 fH,vP] 24 (0,0))]) rfl ?_ ?_
    · rcases Bool.eq_false_or_eq_true (decide ((bs.length:Int)≠((zs.length:Int):Int))) with hb4 | hb4
      · have hb4p:=of_decide_eq_true hb4
        refine O.skipB hf rfl rfl rfl hb4 rfl ?_; clear hf a; intro a hf
        refine O.skipB hf rfl rfl rfl hb4 rfl ?_; clear hf a; intro a hf
        refine O.val (v:=.bool ((decide ((bs.length:Int)≠((zs.length:Int):Int)))||(decide (thr<(-4294967296:Int))))) hf rfl rfl rfl (RunV.pick rfl rfl rfl (by rw [hb4]; rfl)) ?_; clear hf a; intro a hf
        exact O.nil ⟨rfl,hf.to ⟨rfl,rfl,rfl,rfl,rfl,rfl,rfl,rfl,rfl,rfl,rfl,rfl,rfl,rfl,trivial⟩,hS⟩
      · have hb4p:=of_decide_eq_false hb4
        refine O.gvalB (v:=.int .i64 thr) hf rfl rfl rfl hb4 rfl rfl (RunV.move rfl) ?_
        clear hf a; intro a hf
        refine O.gvalB (v:=.bool (decide (thr<(-4294967296:Int)))) hf rfl rfl rfl hb4 rfl rfl (RunV.lss rfl rfl) ?_
        clear hf a; intro a hf
        refine O.val (v:=.bool ((decide ((bs.length:Int)≠((zs.length:Int):Int)))||(decide (thr<(-4294967296:Int))))) hf rfl rfl rfl (RunV.pick rfl rfl rfl (by rw [hb4]; rfl)) ?_; clear hf a; intro a hf
        exact O.nil ⟨rfl,hf.to ⟨rfl,rfl,rfl,rfl,rfl,rfl,rfl,rfl,rfl,rfl,rfl,rfl,rfl,rfl,trivial⟩,hS⟩
    clear hf hS a; rintro a w ⟨hf,hS⟩
    refine O.val hf rfl rfl rfl (RunV.move rfl) ?_
    clear hf a; intro a hf
    refine O.cutN (l₁:=[11,12,13]) (l₂:=_) (fun a w=>Fr a 64 [] [(1,vB),(2,.int .i64 thr),(3,.int .i64 least),(4,.pointer (some ⟨b_f1,0,none⟩)),(8,.slice none 0 0),(9,.int .i64 0),(19,vB),(20,.int .i64 (bs.length:Int)),(21,.pointer (some ⟨b_f1,2,none⟩)),(22,vP),(23,.int .i64 (zs.length:Int)),(24,.bool (decide ((bs.length:Int)≠((zs.length:Int):Int)))),(25,.bool (decide ((bs.length:Int)≠((zs.length:Int):Int)))),(28,.bool ((decide ((bs.length:Int)≠((zs.length:Int):Int)))||(decide (thr<(-4294967296:Int))))),(29,.bool ((decide ((bs.length:Int)≠((zs.length:Int):Int)))||(decide (thr<(-4294967296:Int))))),(32,.bool (((decide ((bs.length:Int)≠((zs.length:Int):Int)))||(decide (thr<(-4294967296:Int))))||(decide (thr>(4294967296:Int)))))]∧St w0 w noX [rdv 1 vP zs.length (ints zs),rdv 1 vB bs.length (bools bs)] [pt b_f1 (.cells #[.int .i64 fW,.int .i64 fH,vP] 24 (0,0))]) rfl ?_ ?_
    · rcases Bool.eq_false_or_eq_true ((decide ((bs.length:Int)≠((zs.length:Int):Int)))||(decide (thr<(-4294967296:Int)))) with hb5 | hb5
      · have hb5p:=hb5
        try simp only [Bool.and_eq_true,Bool.or_eq_true,Bool.and_eq_false_iff,Bool.or_eq_false_iff,decide_eq_true_eq,decide_eq_false_iff_not,Bool.not_eq_true',Bool.not_eq_false',Bool.not_eq_true,Bool.not_eq_false,ne_eq] at hb5p
        refine O.skipB hf rfl rfl rfl hb5 rfl ?_; clear hf a; intro a hf
        refine O.skipB hf rfl rfl rfl hb5 rfl ?_; clear hf a; intro a hf
        refine O.val (v:=.bool (((decide ((bs.length:Int)≠((zs.length:Int):Int)))||(decide (thr<(-4294967296:Int))))||(decide (thr>(4294967296:Int))))) hf rfl rfl rfl (RunV.pick rfl rfl rfl (by rw [hb5]; rfl)) ?_; clear hf a; intro a hf
        exact O.nil ⟨rfl,hf.to ⟨rfl,rfl,rfl,rfl,rfl,rfl,rfl,rfl,rfl,rfl,rfl,rfl,rfl,rfl,rfl,rfl,trivial⟩,hS⟩
      · have hb5p:=hb5
        try simp only [Bool.and_eq_true,Bool.or_eq_true,Bool.and_eq_false_iff,Bool.or_eq_false_iff,decide_eq_true_eq,decide_eq_false_iff_not,Bool.not_eq_true',Bool.not_eq_false',Bool.not_eq_true,Bool.not_eq_false,ne_eq] at hb5p
        refine O.gvalB (v:=.int .i64 thr) hf rfl rfl rfl hb5 rfl rfl (RunV.move rfl) ?_
        clear hf a; intro a hf
        refine O.gvalB (v:=.bool (decide (thr>(4294967296:Int)))) hf rfl rfl rfl hb5 rfl rfl (RunV.gtr rfl rfl) ?_
        clear hf a; intro a hf
        refine O.val (v:=.bool (((decide ((bs.length:Int)≠((zs.length:Int):Int)))||(decide (thr<(-4294967296:Int))))||(decide (thr>(4294967296:Int))))) hf rfl rfl rfl (RunV.pick rfl rfl rfl (by rw [hb5]; rfl)) ?_; clear hf a; intro a hf
        exact O.nil ⟨rfl,hf.to ⟨rfl,rfl,rfl,rfl,rfl,rfl,rfl,rfl,rfl,rfl,rfl,rfl,rfl,rfl,rfl,rfl,trivial⟩,hS⟩
    clear hf hS a; rintro a w ⟨hf,hS⟩
    refine O.val hf rfl rfl rfl (RunV.move rfl) ?_
    clear hf a; intro a hf
    refine O.cutN (l₁:=[15,16,17]) (l₂:=_) (fun a w=>Fr a 64 [] [(1,vB),(2,.int .i64 thr),(3,.int .i64 least),(4,.pointer (some ⟨b_f1,0,none⟩)),(8,.slice none 0 0),(9,.int .i64 0),(19,vB),(20,.int .i64 (bs.length:Int)),(21,.pointer (some ⟨b_f1,2,none⟩)),(22,vP),(23,.int .i64 (zs.length:Int)),(24,.bool (decide ((bs.length:Int)≠((zs.length:Int):Int)))),(25,.bool (decide ((bs.length:Int)≠((zs.length:Int):Int)))),(28,.bool ((decide ((bs.length:Int)≠((zs.length:Int):Int)))||(decide (thr<(-4294967296:Int))))),(29,.bool ((decide ((bs.length:Int)≠((zs.length:Int):Int)))||(decide (thr<(-4294967296:Int))))),(32,.bool (((decide ((bs.length:Int)≠((zs.length:Int):Int)))||(decide (thr<(-4294967296:Int))))||(decide (thr>(4294967296:Int))))),(33,.bool (((decide ((bs.length:Int)≠((zs.length:Int):Int)))||(decide (thr<(-4294967296:Int))))||(decide (thr>(4294967296:Int))))),(36,.bool ((((decide ((bs.length:Int)≠((zs.length:Int):Int)))||(decide (thr<(-4294967296:Int))))||(decide (thr>(4294967296:Int))))||(decide (least<(1:Int)))))]∧St w0 w noX [rdv 1 vP zs.length (ints zs),rdv 1 vB bs.length (bools bs)] [pt b_f1 (.cells #[.int .i64 fW,.int .i64 fH,vP] 24 (0,0))]) rfl ?_ ?_
    · rcases Bool.eq_false_or_eq_true (((decide ((bs.length:Int)≠((zs.length:Int):Int)))||(decide (thr<(-4294967296:Int))))||(decide (thr>(4294967296:Int)))) with hb6 | hb6
      · have hb6p:=hb6
        try simp only [Bool.and_eq_true,Bool.or_eq_true,Bool.and_eq_false_iff,Bool.or_eq_false_iff,decide_eq_true_eq,decide_eq_false_iff_not,Bool.not_eq_true',Bool.not_eq_false',Bool.not_eq_true,Bool.not_eq_false,ne_eq] at hb6p
        refine O.skipB hf rfl rfl rfl hb6 rfl ?_; clear hf a; intro a hf
        refine O.skipB hf rfl rfl rfl hb6 rfl ?_; clear hf a; intro a hf
        refine O.val (v:=.bool ((((decide ((bs.length:Int)≠((zs.length:Int):Int)))||(decide (thr<(-4294967296:Int))))||(decide (thr>(4294967296:Int))))||(decide (least<(1:Int))))) hf rfl rfl rfl (RunV.pick rfl rfl rfl (by rw [hb6]; rfl)) ?_; clear hf a; intro a hf
        exact O.nil ⟨rfl,hf.to ⟨rfl,rfl,rfl,rfl,rfl,rfl,rfl,rfl,rfl,rfl,rfl,rfl,rfl,rfl,rfl,rfl,rfl,rfl,trivial⟩,hS⟩
      · have hb6p:=hb6
        try simp only [Bool.and_eq_true,Bool.or_eq_true,Bool.and_eq_false_iff,Bool.or_eq_false_iff,decide_eq_true_eq,decide_eq_false_iff_not,Bool.not_eq_true',Bool.not_eq_false',Bool.not_eq_true,Bool.not_eq_false,ne_eq] at hb6p
        refine O.gvalB (v:=.int .i64 least) hf rfl rfl rfl hb6 rfl rfl (RunV.move rfl) ?_
        clear hf a; intro a hf
        refine O.gvalB (v:=.bool (decide (least<(1:Int)))) hf rfl rfl rfl hb6 rfl rfl (RunV.lss rfl rfl) ?_
        clear hf a; intro a hf
        refine O.val (v:=.bool ((((decide ((bs.length:Int)≠((zs.length:Int):Int)))||(decide (thr<(-4294967296:Int))))||(decide (thr>(4294967296:Int))))||(decide (least<(1:Int))))) hf rfl rfl rfl (RunV.pick rfl rfl rfl (by rw [hb6]; rfl)) ?_; clear hf a; intro a hf
        exact O.nil ⟨rfl,hf.to ⟨rfl,rfl,rfl,rfl,rfl,rfl,rfl,rfl,rfl,rfl,rfl,rfl,rfl,rfl,rfl,rfl,rfl,rfl,trivial⟩,hS⟩
    clear hf hS a; rintro a w ⟨hf,hS⟩
    refine O.nil ?_
    refine k_seq ?_
    replace hf:Fr a 64 [] [(1,vB),(2,.int .i64 thr),(3,.int .i64 least),(4,.pointer (some ⟨b_f1,0,none⟩)),(8,.slice none 0 0),(9,.int .i64 0),(36,.bool ((((decide ((bs.length:Int)≠((zs.length:Int):Int)))||(decide (thr<(-4294967296:Int))))||(decide (thr>(4294967296:Int))))||(decide (least<(1:Int)))))]:=hf.to ⟨rfl,rfl,rfl,rfl,rfl,rfl,rfl,trivial⟩
    refine W.if_ hf rfl (fun hca=>?_) (fun hca=>?_)
    · have hcab:=hca
      try simp only [Bool.and_eq_true,Bool.or_eq_true,Bool.and_eq_false_iff,Bool.or_eq_false_iff,decide_eq_true_eq,decide_eq_false_iff_not,Bool.not_eq_true',Bool.not_eq_false',Bool.not_eq_true,Bool.not_eq_false,ne_eq] at hca
      refine W.seq ?_
      refine W.regionL (l:=[0,1]) rfl ?_
      refine O.val hf rfl rfl rfl (RunV.assign rfl) ?_
      clear hf a; intro a hf
      refine O.val hf rfl rfl rfl (RunV.assign rfl) ?_
      clear hf a; intro a hf
      refine O.nil ?_
      refine k_seq ?_
      refine W.ret ?_
      refine k_then_ret ?_
      refine post2 hf rfl (ResOK.tmp rfl) (ResOK.tmp rfl) ?_
      have he:Det.partsE fW fH zs bs thr least=2:=by unfold Det.partsE; rw [if_pos hfo,if_neg (fun h=>by omega)]
      have hr:Det.partsR fW fH zs bs thr least=[]:=by unfold Det.partsR; rw [if_neg (by rw [he]; decide)]
      refine ⟨(.slice none 0 0,[]),by rw [he],?_⟩
      rw [hr]
      exact St.pushSl (hS.sub (List.nil_sublist _) |>.noB) 26
    · have hcab:=hca
      try simp only [Bool.and_eq_true,Bool.or_eq_true,Bool.and_eq_false_iff,Bool.or_eq_false_iff,decide_eq_true_eq,decide_eq_false_iff_not,Bool.not_eq_true',Bool.not_eq_false',Bool.not_eq_true,Bool.not_eq_false,ne_eq] at hca
      refine W.skip ?_
      refine k_seq ?_
      refine W.seq ?_
      refine W.regionL (l:=[0,1]) rfl ?_
      refine O.makeMap hf hS rfl rfl (List.replicate zs.length false) (Det.rep_get _) ?_
      clear hf hS a; intro b_m8 w a hbb_m8 hS hf
      refine O.val hf rfl rfl rfl (RunV.assign rfl) ?_
      clear hf a; intro a hf
      refine O.nil ?_
      refine k_seq ?_
      replace hf:Fr a 64 [] [(1,vB),(2,.int .i64 thr),(3,.int .i64 least),(4,.pointer (some ⟨b_f1,0,none⟩)),(8,.slice none 0 0),(9,.int .i64 0),(11,.map (some b_m8))]:=hf.to ⟨rfl,rfl,rfl,rfl,rfl,rfl,rfl,trivial⟩
      refine W.seq ?_
      refine W.seq ?_
      refine W.regionL (l:=[0,1,2,3]) rfl ?_
      refine O.val hf rfl rfl rfl (RunV.field T_field_24_2 rfl rfl) ?_
      clear hf a; intro a hf
      refine O.val hf rfl rfl rfl (RunV.load1 T_agg_22 rfl (hS.ptAt (i:=1) rfl) rfl) ?_
      clear hf a; intro a hf
      refine O.val hf rfl rfl rfl (RunV.lenV (e:=2) (by simpa using T_elem_22) rfl (hS.rdAt (j:=0) rfl)) ?_
      clear hf a; intro a hf
      refine O.val hf rfl rfl rfl (RunV.move rfl) ?_
      clear hf a; intro a hf
      refine O.nil ?_
      refine k_seq ?_
      replace hf:Fr a 64 [] [(1,vB),(2,.int .i64 thr),(3,.int .i64 least),(4,.pointer (some ⟨b_f1,0,none⟩)),(8,.slice none 0 0),(9,.int .i64 0),(11,.map (some b_m8)),(39,vP),(40,.int .i64 (zs.length:Int)),(41,.int .i64 0)]:=hf.to ⟨rfl,rfl,rfl,rfl,rfl,rfl,rfl,rfl,rfl,rfl,trivial⟩
      refine W.block ?_
      refine W.loop (G:=(Nat) × (List Bool)) (fun g a w=>match g with | (k,in1)=>Fr a 64 [] [(1,vB),(2,.int .i64 thr),(3,.int .i64 least),(4,.pointer (some ⟨b_f1,0,none⟩)),(8,.slice none 0 0),(9,.int .i64 0),(11,.map (some b_m8)),(39,vP),(40,.int .i64 (zs.length:Int)),(41,.int .i64 (k:Int))]∧St w0 w noX [rdv 1 vP zs.length (ints zs),rdv 1 vB bs.length (bools bs)] [ms b_m8 in1,pt b_f1 (.cells #[.int .i64 fW,.int .i64 fH,vP] 24 (0,0))]∧(k≤zs.length)∧(in1=Det.bright zs bs thr k++List.replicate (zs.length-k) false)∧(in1.length=zs.length)) (fun g=>match g with | (k,in1)=>zs.length-k) (0,(List.replicate zs.length false)) ?_ ?_
      · refine ⟨hf.to ⟨rfl,rfl,rfl,rfl,rfl,rfl,rfl,rfl,rfl,(by first | rfl | exact congrArg some (congrArg (Value.int _) (by omega))),trivial⟩,hS,?_,?_,?_⟩
        · omega
        · rfl
        · simp
      clear hf hS a
      rintro ⟨k,in1⟩ a w ⟨hf,hS,h1,h2,h3⟩
      refine W.seq ?_
      refine W.regionL (l:=[0]) rfl ?_
      refine O.val (v:=.bool (decide ((k:Int)<((zs.length:Int):Int)))) hf rfl rfl rfl (RunV.lss rfl rfl) ?_
      clear hf a; intro a hf
      refine O.nil ?_
      refine k_seq ?_
      refine W.seq ?_
      refine W.ifdI hf rfl (fun hk=>?_) (fun hk=>?_)
      · refine W.skip ?_
        refine k_seq ?_
        refine W.seq ?_
        refine W.block ?_
        refine W.seq ?_
        refine W.regionL (l:=[0,1,2,3,4]) rfl ?_
        refine O.val hf rfl rfl rfl (RunV.move rfl) ?_
        clear hf a; intro a hf
        refine O.val hf rfl rfl rfl (RunV.ixV (j:=k) (m:=k) T_elem_22 T_size_2 rfl rfl (hS.rdAt (j:=0) rfl) rfl (by omega) (Nat.mul_one _)) ?_
        clear hf a; intro a hf
        refine O.val hf rfl rfl rfl (RunV.ld1 T_agg_2 rfl (hS.rdAt (j:=0) rfl) (ints_get (by omega))) ?_
        clear hf a; intro a hf
        refine O.val hf rfl rfl rfl (RunV.assign rfl) ?_
        clear hf a; intro a hf
        refine O.val hf rfl rfl rfl (RunV.assign rfl) ?_
        clear hf a; intro a hf
        refine O.nil ?_
        refine k_seq ?_
        replace hf:Fr a 64 [] [(1,vB),(2,.int .i64 thr),(3,.int .i64 least),(4,.pointer (some ⟨b_f1,0,none⟩)),(8,.slice none 0 0),(9,.int .i64 0),(11,.map (some b_m8)),(12,.int .i64 (k:Int)),(13,.int .i64 (zs.getD k 0)),(39,vP),(40,.int .i64 (zs.length:Int)),(41,.int .i64 (k:Int))]:=hf.to ⟨rfl,rfl,rfl,rfl,rfl,rfl,rfl,rfl,rfl,rfl,rfl,rfl,trivial⟩
        refine W.seq ?_
        refine W.regionL (l:=[0,1,2,3,4,5,6,7,8,9]) rfl ?_
        refine O.val hf rfl rfl rfl (RunV.move rfl) ?_
        clear hf a; intro a hf
        refine O.val hf rfl rfl rfl (RunV.move rfl) ?_
        clear hf a; intro a hf
        refine O.val hf rfl rfl rfl (RunV.ixV (j:=k) (m:=k) T_elem_25 T_size_4 rfl rfl (hS.rdAt (j:=1) rfl) rfl (by omega) (Nat.mul_one _)) ?_
        clear hf a; intro a hf
        refine O.val hf rfl rfl rfl (RunV.ld1 T_agg_4 rfl (hS.rdAt (j:=1) rfl) (bools_get (by omega))) ?_
        clear hf a; intro a hf
        refine O.val (v:=.bool (!(bs.getD k false))) hf rfl rfl rfl (RunV.not rfl) ?_
        clear hf a; intro a hf
        refine O.val hf rfl rfl rfl (RunV.move rfl) ?_
        clear hf a; intro a hf
        refine O.cutN (l₁:=[6,7,8,9]) (l₂:=_) (fun a w=>Fr a 64 [] [(1,vB),(2,.int .i64 thr),(3,.int .i64 least),(4,.pointer (some ⟨b_f1,0,none⟩)),(8,.slice none 0 0),(9,.int .i64 0),(11,.map (some b_m8)),(12,.int .i64 (k:Int)),(13,.int .i64 (zs.getD k 0)),(39,vP),(40,.int .i64 (zs.length:Int)),(41,.int .i64 (k:Int)),(46,vB),(47,.int .i64 (k:Int)),(48,ix vB k),(49,.bool (bs.getD k false)),(50,.bool (!(bs.getD k false))),(51,.bool (!(bs.getD k false))),(55,.bool ((!(bs.getD k false))&&(decide ((zs.getD k 0)≥(thr:Int)))))]∧St w0 w noX [rdv 1 vP zs.length (ints zs),rdv 1 vB bs.length (bools bs)] [ms b_m8 in1,pt b_f1 (.cells #[.int .i64 fW,.int .i64 fH,vP] 24 (0,0))]) rfl ?_ ?_
        · rcases Bool.eq_false_or_eq_true (!(bs.getD k false)) with hb10 | hb10
          · have hb10p:=hb10
            try simp only [Bool.and_eq_true,Bool.or_eq_true,Bool.and_eq_false_iff,Bool.or_eq_false_iff,decide_eq_true_eq,decide_eq_false_iff_not,Bool.not_eq_true',Bool.not_eq_false',Bool.not_eq_true,Bool.not_eq_false,ne_eq] at hb10p
            refine O.gvalB (v:=.int .i64 (zs.getD k 0)) hf rfl rfl rfl hb10 rfl rfl (RunV.move rfl) ?_
            clear hf a; intro a hf
            refine O.gvalB (v:=.int .i64 thr) hf rfl rfl rfl hb10 rfl rfl (RunV.move rfl) ?_
            clear hf a; intro a hf
            refine O.gvalB (v:=.bool (decide ((zs.getD k 0)≥(thr:Int)))) hf rfl rfl rfl hb10 rfl rfl (RunV.geq rfl rfl) ?_
            clear hf a; intro a hf
            refine O.val (v:=.bool ((!(bs.getD k false))&&(decide ((zs.getD k 0)≥(thr:Int))))) hf rfl rfl rfl (RunV.pick rfl rfl rfl (by rw [hb10]; rfl)) ?_; clear hf a; intro a hf
            exact O.nil ⟨rfl,hf.to ⟨rfl,rfl,rfl,rfl,rfl,rfl,rfl,rfl,rfl,rfl,rfl,rfl,rfl,rfl,rfl,rfl,rfl,rfl,rfl,trivial⟩,hS⟩
          · have hb10p:=hb10
            try simp only [Bool.and_eq_true,Bool.or_eq_true,Bool.and_eq_false_iff,Bool.or_eq_false_iff,decide_eq_true_eq,decide_eq_false_iff_not,Bool.not_eq_true',Bool.not_eq_false',Bool.not_eq_true,Bool.not_eq_false,ne_eq] at hb10p
            refine O.skipB hf rfl rfl rfl hb10 rfl ?_; clear hf a; intro a hf
            refine O.skipB hf rfl rfl rfl hb10 rfl ?_; clear hf a; intro a hf
            refine O.skipB hf rfl rfl rfl hb10 rfl ?_; clear hf a; intro a hf
            refine O.val (v:=.bool ((!(bs.getD k false))&&(decide ((zs.getD k 0)≥(thr:Int))))) hf rfl rfl rfl (RunV.pick rfl rfl rfl (by rw [hb10]; rfl)) ?_; clear hf a; intro a hf
            exact O.nil ⟨rfl,hf.to ⟨rfl,rfl,rfl,rfl,rfl,rfl,rfl,rfl,rfl,rfl,rfl,rfl,rfl,rfl,rfl,rfl,rfl,rfl,rfl,trivial⟩,hS⟩
        clear hf hS a; rintro a w ⟨hf,hS⟩
        refine O.nil ?_
        refine k_seq ?_
        replace hf:Fr a 64 [] [(1,vB),(2,.int .i64 thr),(3,.int .i64 least),(4,.pointer (some ⟨b_f1,0,none⟩)),(8,.slice none 0 0),(9,.int .i64 0),(11,.map (some b_m8)),(12,.int .i64 (k:Int)),(13,.int .i64 (zs.getD k 0)),(39,vP),(40,.int .i64 (zs.length:Int)),(41,.int .i64 (k:Int)),(55,.bool ((!(bs.getD k false))&&(decide ((zs.getD k 0)≥(thr:Int)))))]:=hf.to ⟨rfl,rfl,rfl,rfl,rfl,rfl,rfl,rfl,rfl,rfl,rfl,rfl,rfl,trivial⟩
        refine W.if_ hf rfl (fun hbr=>?_) (fun hbr=>?_)
        · have hbrb:=hbr
          try simp only [Bool.and_eq_true,Bool.or_eq_true,Bool.and_eq_false_iff,Bool.or_eq_false_iff,decide_eq_true_eq,decide_eq_false_iff_not,Bool.not_eq_true',Bool.not_eq_false',Bool.not_eq_true,Bool.not_eq_false,ne_eq] at hbr
          refine W.regionL (l:=[0,1,2]) rfl ?_
          refine O.val hf rfl rfl rfl (RunV.move rfl) ?_
          clear hf a; intro a hf
          refine O.val hf rfl rfl rfl (RunV.move rfl) ?_
          clear hf a; intro a hf
          refine O.mapSet (j:=0) hf hS rfl T_set_82 rfl rfl rfl rfl (by omega) rfl ?_
          clear hS; intro w hS
          refine O.nil ?_
          refine k_blk_normal ?_
          refine k_seq ?_
          replace hf:Fr a 64 [] [(1,vB),(2,.int .i64 thr),(3,.int .i64 least),(4,.pointer (some ⟨b_f1,0,none⟩)),(8,.slice none 0 0),(9,.int .i64 0),(11,.map (some b_m8)),(12,.int .i64 (k:Int)),(13,.int .i64 (zs.getD k 0)),(39,vP),(40,.int .i64 (zs.length:Int)),(41,.int .i64 (k:Int))]:=hf.to ⟨rfl,rfl,rfl,rfl,rfl,rfl,rfl,rfl,rfl,rfl,rfl,rfl,trivial⟩
          refine W.regionL (l:=[0,1]) rfl ?_
          refine O.val hf rfl rfl rfl (RunV.addI rfl rfl (by omega)) ?_
          clear hf a; intro a hf
          refine O.val hf rfl rfl rfl (RunV.move rfl) ?_
          clear hf a; intro a hf
          refine O.nil ?_
          refine k_then ⟨(k+1,in1.set k true),⟨hf.to ⟨rfl,rfl,rfl,rfl,rfl,rfl,rfl,rfl,rfl,(by first | rfl | exact congrArg some (congrArg (Value.int _) (by omega))),trivial⟩,?_,?_,?_,?_⟩,?_⟩
          · exact hS.eqM rfl
          · omega
          · rw [h2]; exact Det.bright_in (by omega) hbrb
          · rw [List.length_set]; exact h3
          · dsimp only; omega
        · have hbrb:=hbr
          try simp only [Bool.and_eq_true,Bool.or_eq_true,Bool.and_eq_false_iff,Bool.or_eq_false_iff,decide_eq_true_eq,decide_eq_false_iff_not,Bool.not_eq_true',Bool.not_eq_false',Bool.not_eq_true,Bool.not_eq_false,ne_eq] at hbr
          refine W.skip ?_
          refine k_blk_normal ?_
          refine k_seq ?_
          refine W.regionL (l:=[0,1]) rfl ?_
          refine O.val hf rfl rfl rfl (RunV.addI rfl rfl (by omega)) ?_
          clear hf a; intro a hf
          refine O.val hf rfl rfl rfl (RunV.move rfl) ?_
          clear hf a; intro a hf
          refine O.nil ?_
          refine k_then ⟨(k+1,in1),⟨hf.to ⟨rfl,rfl,rfl,rfl,rfl,rfl,rfl,rfl,rfl,(by first | rfl | exact congrArg some (congrArg (Value.int _) (by omega))),trivial⟩,?_,?_,?_,?_⟩,?_⟩
          · exact hS.eqM rfl
          · omega
          · rw [h2]; exact Det.bright_no (by omega) hbrb
          · exact h3
          · dsimp only; omega
      · refine W.exit ?_
        refine k_then_exit ?_
        refine k_then_exit ?_
        refine k_blk ?_
        refine k_seq ?_
        replace hf:Fr a 64 [] [(3,.int .i64 least),(4,.pointer (some ⟨b_f1,0,none⟩)),(8,.slice none 0 0),(9,.int .i64 0),(11,.map (some b_m8))]:=hf.to ⟨rfl,rfl,rfl,rfl,rfl,trivial⟩
        refine W.seq ?_
        refine W.regionL (l:=[0,1,2,3,4,5,6]) rfl ?_
        refine O.val hf rfl rfl rfl (RunV.loadN (cs':=#[.int .i64 fW,.int .i64 fH,vP]) T_agg_24 T_size_24 rfl (hS.ptAt (i:=1) rfl) (Nat.le_of_ble_eq_true rfl) rfl) ?_
        clear hf a; intro a hf
        refine O.val hf rfl rfl rfl (RunV.buildS (cs':=#[.int .i64 fW,.int .i64 fH,vP]) T_places_61 T_zero_61 rfl rfl) ?_
        clear hf a; intro a hf
        refine O.val hf rfl rfl rfl (RunV.move rfl) ?_
        clear hf a; intro a hf
        refine O.val hf rfl rfl rfl (RunV.move rfl) ?_
        clear hf a; intro a hf
        obtain ⟨hf1,hf2,hf3,hf4,hf5,hf6⟩:=hfo
        have hw:fW=((fW.toNat:Nat):Int):=by omega
        have hh:fH=((fH.toNat:Nat):Int):=by omega
        have hnn:zs.length=fW.toNat*fH.toNat:=by rw [hw,hh] at hf5; exact_mod_cast hf5
        obtain rfl:k=zs.length:=by omega
        replace h2:in1=(Det.bright zs bs thr zs.length):=by rw [h2]; simp
        subst h2
        have he0:Det.partsE fW fH zs bs thr least=0:=by unfold Det.partsE; rw [if_pos ⟨hf1,hf2,hf3,hf4,hf5,hf6⟩,if_pos (by omega)]
        have hr0:Det.partsR fW fH zs bs thr least=(Det.partsF fW.toNat fH.toNat least (Det.bright zs bs thr zs.length) (Det.bright zs bs thr zs.length).length).2:=by unfold Det.partsR; rw [if_pos he0,Det.bright_len]
        rw [hw,hh] at hf
        refine O.callR hf rfl rfl rfl (RunE.call (av:=#[.agg #[.int .i64 (fW.toNat:Int),.int .i64 (fH.toNat:Int),vP],.map (some b_m8),.int .i64 least]) C_ok_44 rfl rfl rfl) (parts12_spec fW.toNat fH.toNat b_m8 least vP (Det.bright zs bs thr zs.length) _ (by omega) (by omega) (by rw [Det.bright_len]; exact hnn) (hS.msAt (j:=0) rfl)) ?_
        clear hf a
        rintro ⟨vo,vs⟩ w12 hS1 a hf
        replace hf:Fr a _ _ ((63,vo)::_):=hf
        replace hS:=(hS.callX1 hS1 (i:=0) rfl (fun _ h=>h)).eqM (N:=[sl 26 1 vo vs.length vs,inn vs (Det.partsF fW.toNat fH.toNat least (Det.bright zs bs thr zs.length) (Det.bright zs bs thr zs.length).length).2,pt b_f1 (.cells #[.int .i64 fW,.int .i64 fH,vP] 24 (0,0))]) rfl
        clear hS1
        refine O.val hf rfl rfl rfl (RunV.assign rfl) ?_
        clear hf a; intro a hf
        refine O.val hf rfl rfl rfl (RunV.assign rfl) ?_
        clear hf a; intro a hf
        refine O.nil ?_
        refine k_seq ?_
        replace hf:Fr a 64 [] [(8,vo),(9,.int .i64 0)]:=hf.to ⟨rfl,rfl,trivial⟩
        refine W.ret ?_
        refine post2 hf rfl (ResOK.tmp rfl) (ResOK.tmp rfl) ?_
        replace hS:=hS.front (i:=1) (M':=[inn vs (Det.partsF fW.toNat fH.toNat least (Det.bright zs bs thr zs.length) (Det.bright zs bs thr zs.length).length).2,sl 26 1 vo vs.length vs,pt b_f1 (.cells #[.int .i64 fW,.int .i64 fH,vP] 24 (0,0))]) rfl rfl
        replace hS:=hS.front (i:=1) (M':=[sl 26 1 vo vs.length vs,inn vs (Det.partsF fW.toNat fH.toNat least (Det.bright zs bs thr zs.length) (Det.bright zs bs thr zs.length).length).2,pt b_f1 (.cells #[.int .i64 fW,.int .i64 fH,vP] 24 (0,0))]) rfl rfl
        refine ⟨(vo,vs),by rw [he0],?_⟩
        rw [hr0]
        exact (hS.sub (.cons_cons _ (.cons_cons _ (.cons _ .slnil)))).noB
end Go.Proofs.YtipfobacinmoiaaGreat
