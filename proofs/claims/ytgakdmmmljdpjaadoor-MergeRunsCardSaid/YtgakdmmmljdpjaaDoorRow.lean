/- MergeRuns: for every input. No conditions. -/
import Derived.Test.YtgakdmmmljdpjaaDoorTac
import Derived.Test.YtgakdmmmljdpjaaDoorTar
import Derived.Test.YtgakdmmmljdpjaaDoorTab
import Derived.ProofKit
import Derived.Lib.SmallJoins
import Derived.Deep.Grids
import Derived.Test.YtgakdmmmljdpjaaDoorTaf
import Derived.Lib.LaidU8
import Derived.Test.YtgakdmmmljdpjaaDoorRows
import Derived.LaidMore
import Derived.Lay
import Derived.Test.YtgakdmmmljdpjaaDoorTie
import Derived.Test.YtgakdmmmljdpjaaDoorCards
import Derived.SevenTiedAt
set_option linter.unusedVariables false
set_option linter.unusedSimpArgs false
set_option maxHeartbeats 1000000
set_option maxRecDepth 8000
namespace Go.Proofs.YtgakdmmmljdpjaaDoor
open Go Go.SL
theorem C_ok_13:callOK Tryd.prog 13=true:=by kernel_rfl
theorem C_ok_19:callOK Tryd.prog 19=true:=by kernel_rfl
theorem C_ok_22:callOK Tryd.prog 22=true:=by kernel_rfl
theorem C_ok_23:callOK Tryd.prog 23=true:=by kernel_rfl
theorem C_ok_24:callOK Tryd.prog 24=true:=by kernel_rfl
theorem C_ok_27:callOK Tryd.prog 27=true:=by kernel_rfl
set_option maxHeartbeats 400000 in
set_option maxRecDepth 4000 in
theorem runs_great (vl:Value) (l:List Ch) (d:Dg) (w0:World) (hG:Lent w0 ordA) (hl:rdOK (hp w0) 12 vl l.length (encs eC l)) (hfit:vfit vl) (hr:∀ c ∈ l,rC c) (hrd:rD d) (hg:greatM l.length=true) :
    Ret Tryd.prog 7 #[vl,.agg (aD d)] w0 (G:=Unit) (fun _=>.bool true) (fun _ w=>St w0 w noX [] []):=by
  refine ret_of_W (lv:=[vl,.agg (aD d)]) Tryd.func7 rfl rfl rfl (fun a hf=>?_); replace hf:Fr a 110 [] [(0,vl),(1,.agg (aD d))]:=hf; have hS:St w0 w0 noX [ordA,rdv 12 vl l.length (encs eC l)] []:=((St.refl w0).lend0 hl).lendA hG; have hlm:=hl.2.1; unfold maxLen at hlm; refine W.seq ?_
  refine W.regionL (l:=[0,1]) rfl<|O.box (cs:=(aD d)) hf hS rfl rfl rfl rfl<|?_; intro b_d1 w a hbb_d1 hS hf; refine mv hf rfl ?_; clear hf a; intro a hf; refine nk<|W.seq<|W.seq<|?_
  refine W.regionL (l:=[0,1]) rfl<|mv hf rfl<|?_; clear hf a; intro a hf; refine oc hf rfl C_ok_10 (great_spec vl l _ (hS.rdAt (j:=1) rfl)) ?_; clear hf a; rintro _ w2 hS1 a hf; replace hS:=hS.cl hS1; refine nk ?_; have hbc:(greatM l.length)=true:=hg; simp only [hbc] at hf; clear hbc; refine W.if_tt hf rfl<|W.seq<|?_
  refine W.regionL (l:=[0]) rfl<|mv hf rfl<|?_; clear hf a; intro a hf; refine nk<|W.ret<|k_then_ret<|post1 hf rfl (ResOK.tmp rfl)<|?_; exact ⟨(),rfl,hS.sub (List.nil_sublist _) |>.noB⟩
set_option maxHeartbeats 4000000 in
set_option maxRecDepth 4000 in
theorem runs_in (vl:Value) (l:List Ch) (d:Dg) (w0:World) (hG:Lent w0 ordA) (hl:rdOK (hp w0) 12 vl l.length (encs eC l)) (hfit:vfit vl) (hr:∀ c ∈ l,rC c) (hrd:rD d) (hg:greatM l.length=false) :
    Ret Tryd.prog 7 #[vl,.agg (aD d)] w0 (G:=Unit) (fun _=>.bool true) (fun _ w=>St w0 w noX [] []):=by
  refine ret_of_W (lv:=[vl,.agg (aD d)]) Tryd.func7 rfl rfl rfl (fun a hf=>?_); replace hf:Fr a 110 [] [(0,vl),(1,.agg (aD d))]:=hf; have hS:St w0 w0 noX [ordA,rdv 12 vl l.length (encs eC l)] []:=((St.refl w0).lend0 hl).lendA hG; have hlm:=hl.2.1; unfold maxLen at hlm; have hz:=great_len hg; refine W.seq ?_
  refine W.regionL (l:=[0,1]) rfl<|O.box (cs:=(aD d)) hf hS rfl rfl rfl rfl<|?_; intro b_d1 w a hbb_d1 hS hf; refine mv hf rfl ?_; clear hf a; intro a hf; refine nk<|W.seq<|W.seq<|?_
  refine W.regionL (l:=[0,1]) rfl<|mv hf rfl<|?_; clear hf a; intro a hf; refine oc hf rfl C_ok_10 (great_spec vl l _ (hS.rdAt (j:=1) rfl)) ?_; clear hf a; rintro _ w2 hS1 a hf; replace hS:=hS.cl hS1; refine nk ?_; have hbc:(greatM l.length)=false:=hg; simp only [hbc] at hf; clear hbc; refine W.if_ff hf rfl<|W.skip<|k_seq<|W.seq<|?_
  refine W.regionL (l:=[0,1,2,3]) rfl<|O.buildSlice0 hf hS rfl rfl T_elem_22 T_size_26 rfl<|?_; intro b_s3 w a hbb_s3 hS hf; refine mv hf rfl ?_; clear hf a; intro a hf; replace hS:St w0 w noX [ordA,rdv 12 vl l.length (encs eC l)] [slE 26 12 eC (.slice (some ⟨b_s3,0,none⟩) 0 0) ([]:List Ch),pt b_d1 (.cells (aD d) 24 (0,0))]:=hS; refine O.appendEV (j:=0) (enc:=eC) (l:=([]:List Ch)) (m:=l) (l':=l) hf hS rfl rfl T_elem_22 T_size_26 T_bytes_26 T_zero_26 rfl rfl rfl rfl rfl ⟨hS.rdAt (j:=1) rfl,hfit⟩ (fun _=>rfl) (by decide) (by omega) rfl rfl ?_; intro v4 w a hS hf
  skip
  replace hS:St w0 w noX [ordA,rdv 12 vl l.length (encs eC l)] [sl 26 12 v4 l.length (encs eC l),pt b_d1 (.cells (aD d) 24 (0,0))]:=hS; refine mv hf rfl ?_; clear hf a; intro a hf; refine nk<|W.seq<|?_
  rcases hm:histM l with e | ⟨S,us⟩
  · have he0:=histM_ne hm
    have hwho:=whoM_h (d:=d) hm
    refine W.regionL (l:=[0,1,2,3,4,5,6]) rfl<|mv hf rfl<|?_; clear hf a; intro a hf; refine oc hf rfl C_ok_16 (run_err vl l _ (hS.bptO (i:=0) rfl) (hS.rdAt (j:=1) rfl) hfit e hm) ?_; clear hf a; rintro _ w5 hS1 a hf; replace hS:=hS.cl hS1; refine mv hf rfl ?_; clear hf a; intro a hf; refine ov hf rfl (RunV.extract rfl rfl) ?_; clear hf a; intro a hf; refine ov hf rfl (RunV.extract rfl rfl) ?_; clear hf a; intro a hf; refine mv hf rfl ?_; clear hf a; intro a hf; refine mv hf rfl ?_; clear hf a; intro a hf; refine nk<|W.seq<|?_
    refine W.regionL (l:=[0,1,2,3,4,5,6]) rfl<|mv hf rfl<|?_; clear hf a; intro a hf; refine oc hf rfl C_ok_22 (runR_E v4 l _ (hS.slr (j:=0) rfl) (slOK.fit (hS.slAt (j:=0) rfl)) hr e hm) ?_; clear hf a; rintro _ w6 hS1 a hf; replace hS:=hS.cl hS1; refine mv hf rfl ?_; clear hf a; intro a hf; refine ov hf rfl (RunV.extract rfl rfl) ?_; clear hf a; intro a hf; refine ov hf rfl (RunV.extract rfl rfl) ?_; clear hf a; intro a hf; refine mv hf rfl ?_; clear hf a; intro a hf; refine mv hf rfl ?_; clear hf a; intro a hf; refine nk<|W.seq<|?_
    refine W.regionL (l:=[0,1,2,3,4,5,6]) rfl<|mv hf rfl<|?_; clear hf a; intro a hf; refine oc hf rfl C_ok_21 (undone_err vl l _ (hS.bptO (i:=0) rfl) (hS.rdAt (j:=1) rfl) hfit e hm) ?_; clear hf a; rintro _ w7 hS1 a hf; replace hS:=hS.cl hS1; refine mv hf rfl ?_; clear hf a; intro a hf; refine ov hf rfl (RunV.extract rfl rfl) ?_; clear hf a; intro a hf; refine ov hf rfl (RunV.extract rfl rfl) ?_; clear hf a; intro a hf; refine mv hf rfl ?_; clear hf a; intro a hf; refine mv hf rfl ?_; clear hf a; intro a hf; refine nk<|W.seq<|?_
    refine W.regionL (l:=[0,1,2,3,4,5,6]) rfl<|mv hf rfl<|?_; clear hf a; intro a hf; refine oc hf rfl C_ok_23 (undR_E v4 l _ (hS.slr (j:=0) rfl) (slOK.fit (hS.slAt (j:=0) rfl)) hr e hm) ?_; clear hf a; rintro up w8 hS1 a hf; replace hS:=hS.cl hS1; refine mv hf rfl ?_; clear hf a; intro a hf; refine ov hf rfl (RunV.extract rfl rfl) ?_; clear hf a; intro a hf; refine ov hf rfl (RunV.extract rfl rfl) ?_; clear hf a; intro a hf; refine mv hf rfl ?_; clear hf a; intro a hf; refine mv hf rfl ?_; clear hf a; intro a hf; refine nk<|W.seq<|?_
    skip
    ·
      refine W.regionL (l:=[0,1,2,3,4,5,6,7,8]) rfl<|mv hf rfl<|?_; clear hf a; intro a hf; refine ov hf rfl (RunV.loadN (cs':=(aD d)) T_agg_24 T_size_24 rfl (hS.p 2 rfl) (bl rfl) rfl) ?_; clear hf a; intro a hf; refine oc hf rfl C_ok_19 (whoE vl l d _ (hS.bptO (i:=0) rfl) (hS.rdAt (j:=1) rfl) hfit e hwho) ?_; clear hf a; rintro _ w9 hS1 a hf; replace hS:=hS.cl hS1; refine mv hf rfl ?_; clear hf a; intro a hf; refine ov hf rfl (RunV.extract rfl rfl) ?_; clear hf a; intro a hf; refine ov hf rfl (RunV.extract rfl rfl) ?_; clear hf a; intro a hf; refine O.alloc (cs:=#[.int .i64 0,.int .i64 0,.int .u8 0,.int .u8 0,.int .i64 0,.slice none 0 0]) hf hS rfl rfl T_zero_46 rfl ?_; intro b_x10 w a hbb_x10 hS hf; refine ost 0 #[.int .i64 0,.int .i64 0,.int .u8 0,.int .u8 0,.int .i64 0,.slice none 0 0] hf hS rfl rfl rfl T_size_46 rfl rfl rfl (bl rfl) rfl ?_; intro w hS; refine mv hf rfl ?_; clear hf a; intro a hf; refine nk<|W.seq<|?_
      refine W.regionL (l:=[0,1,2,3,4,5,6,7,8]) rfl<|mv hf rfl<|?_; clear hf a; intro a hf; refine ov hf rfl (RunV.loadN (cs':=(aD d)) T_agg_24 T_size_24 rfl (hS.p 3 rfl) (bl rfl) rfl) ?_; clear hf a; intro a hf; refine oc hf rfl C_ok_24 (whoRE v4 l d _ (hS.slr (j:=2) rfl) (slOK.fit (hS.slAt (j:=2) rfl)) hr hrd e hwho) ?_; clear hf a; rintro _ w11 hS1 a hf; replace hS:=hS.cl hS1; refine mv hf rfl ?_; clear hf a; intro a hf; refine ov hf rfl (RunV.extract rfl rfl) ?_; clear hf a; intro a hf; refine ov hf rfl (RunV.extract rfl rfl) ?_; clear hf a; intro a hf; refine O.alloc (cs:=#[.int .i64 0,.int .i64 0,.int .u8 0,.int .u8 0,.int .i64 0,.slice none 0 0]) hf hS rfl rfl T_zero_46 rfl ?_; intro b_y12 w a hbb_y12 hS hf; refine ost 0 #[.int .i64 0,.int .i64 0,.int .u8 0,.int .u8 0,.int .i64 0,.slice none 0 0] hf hS rfl rfl rfl T_size_46 rfl rfl rfl (bl rfl) rfl ?_; intro w hS; refine mv hf rfl ?_; clear hf a; intro a hf; refine nk<|W.seq<|W.seq<|?_
      refine W.regionL (l:=[0]) rfl<|mv hf rfl<|?_; clear hf a; intro a hf; refine nk<|W.block<|?_
      refine W.loop (G:=(Nat)) (fun g a w=>match g with | k=>Fr a 110 [] [(0,vl),(5,v4),(6,.slice none 0 0),(7,.int .i64 e),(8,.slice none 0 0),(9,.int .i64 e),(10,.slice none 0 0),(11,.int .i64 e),(12,up),(13,.int .i64 e),(14,.pointer (some ⟨b_x10,0,none⟩)),(15,.int .i64 e),(16,.pointer (some ⟨b_y12,0,none⟩)),(17,.int .i64 e),(18,.int .i64 (k:Int))]∧St w0 w noX [ordA,rdv 12 vl l.length (encs eC l)] [pt b_y12 (.cells #[.int .i64 0,.int .i64 0,.int .u8 0,.int .u8 0,.int .i64 0,.slice none 0 0] 46 (0,0)),pt b_x10 (.cells #[.int .i64 0,.int .i64 0,.int .u8 0,.int .u8 0,.int .i64 0,.slice none 0 0] 46 (0,0)),sl 4 1 up (([]:List Bool).length) (bools ([]:List Bool)),sl 26 12 v4 l.length (encs eC l),pt b_d1 (.cells (aD d) 24 (0,0))]∧(k≤l.length)) (fun g=>match g with | k=>l.length-k) 0 ?_ ?_
      · refine ⟨hf.to ⟨rfl,rfl,rfl,rfl,rfl,rfl,rfl,rfl,rfl,rfl,rfl,rfl,rfl,rfl,(by first | rfl | exact congrArg some (congrArg (Value.int _) (by omega))),trivial⟩,hS,?_⟩
        · omega
      clear hf hS a; rintro k a w ⟨hf,hS,hk⟩; refine W.seq<|W.seq<|?_
      refine W.regionL (l:=[0,1,2,3,4,5,6,7]) rfl<|mv hf rfl<|?_; clear hf a; intro a hf; refine mv hf rfl ?_; clear hf a; intro a hf; refine ov hf rfl (RunV.lenV (e:=26) (by simpa using T_elem_22) rfl (hS.rdAt (j:=1) rfl)) ?_; clear hf a; intro a hf; refine ov (v:=.bool (decide ((k:Int)<((l.length:Int):Int)))) hf rfl (RunV.lss rfl rfl) ?_; clear hf a; intro a hf; refine mv hf rfl ?_; clear hf a; intro a hf
      refine O.cutN (l₁:=[5,6,7]) (l₂:=_) (fun a w=>Fr a 110 [] [(0,vl),(5,v4),(6,.slice none 0 0),(7,.int .i64 e),(8,.slice none 0 0),(9,.int .i64 e),(10,.slice none 0 0),(11,.int .i64 e),(12,up),(13,.int .i64 e),(14,.pointer (some ⟨b_x10,0,none⟩)),(15,.int .i64 e),(16,.pointer (some ⟨b_y12,0,none⟩)),(17,.int .i64 e),(18,.int .i64 (k:Int)),(56,.int .i64 (k:Int)),(57,vl),(58,.int .i64 (l.length:Int)),(59,.bool (decide ((k:Int)<((l.length:Int):Int)))),(60,.bool (decide ((k:Int)<((l.length:Int):Int)))),(63,.bool ((decide ((k:Int)<((l.length:Int):Int)))&&(decide ((k:Int)<(25:Int)))))]∧St w0 w noX [ordA,rdv 12 vl l.length (encs eC l)] [pt b_y12 (.cells #[.int .i64 0,.int .i64 0,.int .u8 0,.int .u8 0,.int .i64 0,.slice none 0 0] 46 (0,0)),pt b_x10 (.cells #[.int .i64 0,.int .i64 0,.int .u8 0,.int .u8 0,.int .i64 0,.slice none 0 0] 46 (0,0)),sl 4 1 up (([]:List Bool).length) (bools ([]:List Bool)),sl 26 12 v4 l.length (encs eC l),pt b_d1 (.cells (aD d) 24 (0,0))]) rfl ?_ ?_
      · rcases Bool.eq_false_or_eq_true (decide ((k:Int)<((l.length:Int):Int))) with hb13 | hb13
        · have hb13p:=of_decide_eq_true hb13
          refine og (v:=.int .i64 (k:Int)) hf rfl hb13 (RunV.move rfl) ?_; clear hf a; intro a hf; refine og (v:=.bool (decide ((k:Int)<(25:Int)))) hf rfl hb13 (RunV.lss rfl rfl) ?_; clear hf a; intro a hf; refine ov (v:=.bool ((decide ((k:Int)<((l.length:Int):Int)))&&(decide ((k:Int)<(25:Int))))) hf rfl (RunV.pick rfl rfl rfl (by rw [hb13]; rfl)) ?_; clear hf a; intro a hf; exact O.nil ⟨rfl,hf.q rfl,hS⟩
        · have hb13p:=of_decide_eq_false hb13
          refine sk hf rfl hb13 fun a hf=>sk hf rfl hb13 fun a hf=>?_; refine ov (v:=.bool ((decide ((k:Int)<((l.length:Int):Int)))&&(decide ((k:Int)<(25:Int))))) hf rfl (RunV.pick rfl rfl rfl (by rw [hb13]; rfl)) ?_; clear hf a; intro a hf; exact O.nil ⟨rfl,hf.q rfl,hS⟩
      clear hf hS a; rintro a w ⟨hf,hS⟩; refine nk ?_; refine W.if_ hf rfl (fun hlt=>?_) (fun hlt=>?_)
      · have hltb:=hlt
        try simp only [Bool.and_eq_true,Bool.or_eq_true,Bool.and_eq_false_iff,Bool.or_eq_false_iff,decide_eq_true_eq,decide_eq_false_iff_not,Bool.not_eq_true',Bool.not_eq_false',Bool.not_eq_true,Bool.not_eq_false,ne_eq] at hlt
        refine W.skip<|k_seq<|W.seq<|W.block<|W.seq<|?_
        obtain ⟨cc,hcc⟩:∃ c,c=l.getD k default:=⟨_,rfl⟩; refine W.drawQ (fun w=>St w0 w noX [ordA,rdv 12 vl l.length (encs eC l)] [pt b_y12 (.cells #[.int .i64 0,.int .i64 0,.int .u8 0,.int .u8 0,.int .i64 0,.slice none 0 0] 46 (0,0)),pt b_x10 (.cells #[.int .i64 0,.int .i64 0,.int .u8 0,.int .u8 0,.int .i64 0,.slice none 0 0] 46 (0,0)),sl 4 1 up (([]:List Bool).length) (bools ([]:List Bool)),sl 26 12 v4 l.length (encs eC l),pt b_d1 (.cells (aD d) 24 (0,0))]) P_mixed rfl (by kernel_rfl) rfl hS.drew ?_; clear hS; refine OQ.val (v:=vl) hf rfl (fun w hS=>RunV.move rfl) fun a hf=>OQ.val (v:=.int .i64 (k:Int)) hf rfl (fun w hS=>RunV.move rfl) fun a hf=>OQ.val (v:=ix vl (k*12)) hf rfl (fun w hS=>RunV.ixV (j:=k) (m:=k*12) T_elem_22 T_size_26 rfl rfl (hS.rdAt (j:=1) rfl) rfl (by omega) rfl) fun a hf=>OQ.val (v:=.agg (aC cc)) hf rfl (fun w hS=>RunV.ldG (j:=k) (enc:=eC) (l:=l) (us:=eC cc) T_agg_26 T_size_26 rfl eC_len rfl (hS.rdAt (j:=1) rfl) (by omega) (by rw [hcc])) fun a hf=>OQ.callRq (v:=.int .i64 (if okC cc then 0 else 8)) hf rfl (fun w hS=>RunE.call (av:=#[cV cc]) C_ok_25 rfl rfl rfl) (fun w hS=>checkC_spec cc _ (hS.bptO (i:=0) rfl)) fun a hf=>OQ.val (v:=v4) hf rfl (fun w hS=>RunV.move rfl) fun a hf=>OQ.val (v:=.int .i64 (k:Int)) hf rfl (fun w hS=>RunV.move rfl) fun a hf=>OQ.val (v:=ix v4 (k*12)) hf rfl (fun w hS=>RunV.ixV (j:=k) (m:=k*12) T_elem_22 T_size_26 rfl rfl (hS.slr (j:=3) rfl) rfl (by omega) rfl) fun a hf=>OQ.val (v:=.agg (aC cc)) hf rfl (fun w hS=>RunV.ldG (j:=k) (enc:=eC) (l:=l) (us:=eC cc) T_agg_26 T_size_26 rfl eC_len rfl (hS.slr (j:=3) rfl) (by omega) (by rw [hcc])) fun a hf=>?_; refine OQ.callRq (v:=.int .i64 (if okC cc then 0 else 8)) hf rfl (fun w hS=>RunE.call (av:=#[cV cc]) C_ok_26 rfl rfl rfl) (fun w hS=>check26_spec cc _ (by rw [hcc]; exact hr _ (getC (by omega)))) ?_; clear hf a; intro a hf; refine OQ.val (v:=.bool (decide ((if okC cc then 0 else 8)≠(if okC cc then 0 else 8:Int)))) hf rfl (fun w hS=>RunV.neq rfl rfl) fun a hf=>?_; refine OQ.nil ?_; intro w hS; refine k_seq ?_; have hbc:(decide ((if okC cc then 0 else 8)≠(if okC cc then 0 else 8:Int)))=false:=decide_eq_false (fun h=>h rfl); simp only [hbc] at hf; clear hbc; refine W.if_ff hf rfl<|W.skip<|k_blk_normal<|k_seq<|?_
        refine W.regionL (l:=[0,1,2]) rfl<|mv hf rfl<|?_; clear hf a; intro a hf; refine ov hf rfl (RunV.addI rfl rfl (by omega)) ?_; clear hf a; intro a hf; refine mv hf rfl ?_; clear hf a; intro a hf; refine O.nil ?_; refine k_then ⟨(k+1),⟨hf.to ⟨rfl,rfl,rfl,rfl,rfl,rfl,rfl,rfl,rfl,rfl,rfl,rfl,rfl,rfl,(by first | rfl | exact congrArg some (congrArg (Value.int _) (by omega))),trivial⟩,?_,?_⟩,?_⟩
        · exact hS.eqM rfl
        · omega
        · dsimp only; omega
      · have hltb:=hlt
        try simp only [Bool.and_eq_true,Bool.or_eq_true,Bool.and_eq_false_iff,Bool.or_eq_false_iff,decide_eq_true_eq,decide_eq_false_iff_not,Bool.not_eq_true',Bool.not_eq_false',Bool.not_eq_true,Bool.not_eq_false,ne_eq] at hlt
        refine W.exit<|k_then_exit<|k_then_exit<|k_blk<|k_seq<|W.seq<|?_
        refine W.regionL (l:=[0,1,2,3,4,5,6,7,8,9,10,11,12,13,14,15,16,17,18,19,20,21,22,23,24,25,26,27,28,29,30,31,32,33]) rfl<|mv hf rfl<|?_; clear hf a; intro a hf; refine mv hf rfl ?_; clear hf a; intro a hf; refine oc hf rfl C_ok_17 (same_true (.slice none 0 0) [] (.slice none 0 0) [] _ rdO_nil rdO_nil obsRd.nil obsRd.nil rfl) ?_; clear hf a; rintro _ w15 hS1 a hf; replace hS:=hS.cl hS1; refine mv hf rfl ?_; clear hf a; intro a hf; refine og (v:=.int .i64 e) hf rfl rfl (RunV.move rfl) ?_; clear hf a; intro a hf; refine og (v:=.int .i64 e) hf rfl rfl (RunV.move rfl) ?_; clear hf a; intro a hf; refine og (v:=.bool (decide (e=(e:Int)))) hf rfl rfl (RunV.eql rfl rfl) ?_; clear hf a; intro a hf; refine ov (v:=.bool (decide (e=(e:Int)))) hf rfl (RunV.pick rfl rfl rfl rfl) ?_; clear hf a; intro a hf; refine mv hf rfl ?_; clear hf a; intro a hf; have hbg:(decide (e=(e:Int)))=true:=decide_eq_true rfl; simp only [hbg] at hf; clear hbg; refine og (v:=.slice none 0 0) hf rfl rfl (RunV.move rfl) ?_; clear hf a; intro a hf; refine og (v:=up) hf rfl rfl (RunV.move rfl) ?_; clear hf a; intro a hf; refine O.gcallR hf rfl rfl rfl rfl rfl rfl (RunE.call (av:=#[.slice none 0 0,up]) C_ok_27 rfl rfl rfl) (sameBools_true (.slice none 0 0) [] up [] _ rdB_nil (hS.slr (j:=2) rfl) rfl) ?_; clear hf a; rintro _ w16 hS1 a hf; replace hS:=hS.cl hS1; refine ov (v:=.bool true) hf rfl (RunV.pick rfl rfl rfl rfl) ?_; clear hf a; intro a hf; refine mv hf rfl ?_; clear hf a; intro a hf; refine og (v:=.int .i64 e) hf rfl rfl (RunV.move rfl) ?_; clear hf a; intro a hf; refine og (v:=.int .i64 e) hf rfl rfl (RunV.move rfl) ?_; clear hf a; intro a hf; refine og (v:=.bool (decide (e=(e:Int)))) hf rfl rfl (RunV.eql rfl rfl) ?_; clear hf a; intro a hf; refine ov (v:=.bool (decide (e=(e:Int)))) hf rfl (RunV.pick rfl rfl rfl rfl) ?_; clear hf a; intro a hf; refine mv hf rfl ?_; clear hf a; intro a hf; have hbg:(decide (e=(e:Int)))=true:=decide_eq_true rfl; simp only [hbg] at hf; clear hbg; refine og (v:=.agg #[.int .i64 0,.int .i64 0,.int .u8 0,.int .u8 0,.int .i64 0,.slice none 0 0]) hf rfl rfl (RunV.loadN (cs':=#[.int .i64 0,.int .i64 0,.int .u8 0,.int .u8 0,.int .i64 0,.slice none 0 0]) T_agg_46 T_size_46 rfl (hS.p 1 rfl) (bl rfl) rfl) ?_; clear hf a; intro a hf; refine og (v:=.agg #[.int .i64 0,.int .i64 0,.int .u8 0,.int .u8 0,.int .i64 0,.slice none 0 0]) hf rfl rfl (RunV.loadN (cs':=#[.int .i64 0,.int .i64 0,.int .u8 0,.int .u8 0,.int .i64 0,.slice none 0 0]) T_agg_46 T_size_46 rfl (hS.p 0 rfl) (bl rfl) rfl) ?_; clear hf a; intro a hf; refine O.gcallR hf rfl rfl rfl rfl rfl rfl (RunE.call (av:=#[.agg #[.int .i64 0,.int .i64 0,.int .u8 0,.int .u8 0,.int .i64 0,.slice none 0 0],.agg #[.int .i64 0,.int .i64 0,.int .u8 0,.int .u8 0,.int .i64 0,.slice none 0 0]]) C_ok_20 rfl rfl rfl) (sameObject_true ⟨0,0,0,0,0⟩ ⟨0,0,0,0,0⟩ (.slice none 0 0) (.slice none 0 0) [] [] _ rdD_nil rdD_nil ⟨rfl,rfl⟩) ?_; clear hf a; rintro _ w17 hS1 a hf; replace hS:=hS.cl hS1; refine ov (v:=.bool true) hf rfl (RunV.pick rfl rfl rfl rfl) ?_; clear hf a; intro a hf; refine mv hf rfl ?_; clear hf a; intro a hf; refine og (v:=.int .i64 e) hf rfl rfl (RunV.move rfl) ?_; clear hf a; intro a hf; refine og (v:=.int .i64 e) hf rfl rfl (RunV.move rfl) ?_; clear hf a; intro a hf; refine og (v:=.bool (decide (e=(e:Int)))) hf rfl rfl (RunV.eql rfl rfl) ?_; clear hf a; intro a hf; refine ov (v:=.bool (decide (e=(e:Int)))) hf rfl (RunV.pick rfl rfl rfl rfl) ?_; clear hf a; intro a hf; refine mv hf rfl ?_; clear hf a; intro a hf; have hbg:(decide (e=(e:Int)))=true:=decide_eq_true rfl; simp only [hbg] at hf; clear hbg; refine og (v:=vl) hf rfl rfl (RunV.move rfl) ?_; clear hf a; intro a hf; refine og (v:=v4) hf rfl rfl (RunV.move rfl) ?_; clear hf a; intro a hf; refine O.gcallR hf rfl rfl rfl rfl rfl rfl (RunE.call (av:=#[vl,v4]) C_ok_13 rfl rfl rfl) (sameChanges_true vl l v4 l _ (hS.rdAt (j:=1) rfl) (hS.slr (j:=3) rfl) rfl) ?_; clear hf a; rintro _ w18 hS1 a hf; replace hS:=hS.cl hS1; refine ov (v:=.bool true) hf rfl (RunV.pick rfl rfl rfl rfl) ?_; clear hf a; intro a hf; refine mv hf rfl ?_; clear hf a; intro a hf; refine nk<|W.ret<|post1 hf rfl (ResOK.tmp rfl)<|?_; exact ⟨(),rfl,hS.sub (List.nil_sublist _) |>.noB⟩
  ·
    refine W.regionL (l:=[0,1,2,3,4,5,6]) rfl<|mv hf rfl<|?_; clear hf a; intro a hf; refine oc hf rfl C_ok_16 (run_ok vl l _ (hS.bptO (i:=0) rfl) (hS.rdAt (j:=1) rfl) hfit _ _ hm) ?_; clear hf a; rintro ⟨va1,xs1⟩ w19 ⟨hS1,hxs1⟩ a hf; replace hS:=hS.cl hS1; refine mv hf rfl ?_; clear hf a; intro a hf; refine ov hf rfl (RunV.extract rfl rfl) ?_; clear hf a; intro a hf; refine ov hf rfl (RunV.extract rfl rfl) ?_; clear hf a; intro a hf; refine mv hf rfl ?_; clear hf a; intro a hf; refine mv hf rfl ?_; clear hf a; intro a hf; refine nk<|W.seq<|?_
    refine W.regionL (l:=[0,1,2,3,4,5,6]) rfl<|mv hf rfl<|?_; clear hf a; intro a hf; refine oc hf rfl C_ok_22 (runR_O v4 l _ (hS.slr (j:=2) rfl) (slOK.fit (hS.slAt (j:=2) rfl)) hr S us hm) ?_; clear hf a; rintro ⟨vb,osb,allb⟩ w20 ⟨hS1,hb1,hb2⟩ a hf; replace hS:=hS.cl hS1; refine mv hf rfl ?_; clear hf a; intro a hf; refine ov hf rfl (RunV.extract rfl rfl) ?_; clear hf a; intro a hf; refine ov hf rfl (RunV.extract rfl rfl) ?_; clear hf a; intro a hf; refine mv hf rfl ?_; clear hf a; intro a hf; refine mv hf rfl ?_; clear hf a; intro a hf; refine nk<|W.seq<|?_
    refine W.regionL (l:=[0,1,2,3,4,5,6]) rfl<|mv hf rfl<|?_; clear hf a; intro a hf; refine oc hf rfl C_ok_21 (undone_ok vl l _ (hS.bptO (i:=0) rfl) (hS.rdAt (j:=1) rfl) hfit S us hm) ?_; clear hf a; rintro uv w21 hS1 a hf; replace hS:=hS.cl hS1; refine mv hf rfl ?_; clear hf a; intro a hf; refine ov hf rfl (RunV.extract rfl rfl) ?_; clear hf a; intro a hf; refine ov hf rfl (RunV.extract rfl rfl) ?_; clear hf a; intro a hf; refine mv hf rfl ?_; clear hf a; intro a hf; refine mv hf rfl ?_; clear hf a; intro a hf; refine nk<|W.seq<|?_
    refine W.regionL (l:=[0,1,2,3,4,5,6]) rfl<|mv hf rfl<|?_; clear hf a; intro a hf; refine oc hf rfl C_ok_23 (undR_O v4 l _ (hS.slr (j:=5) rfl) (slOK.fit (hS.slAt (j:=5) rfl)) hr S us hm) ?_; clear hf a; rintro up w22 hS1 a hf; replace hS:=hS.cl hS1; refine mv hf rfl ?_; clear hf a; intro a hf; refine ov hf rfl (RunV.extract rfl rfl) ?_; clear hf a; intro a hf; refine ov hf rfl (RunV.extract rfl rfl) ?_; clear hf a; intro a hf; refine mv hf rfl ?_; clear hf a; intro a hf; refine mv hf rfl ?_; clear hf a; intro a hf; refine nk<|W.seq<|?_
    rcases hwho:whoM l d with e2 | p
    ·
      refine W.regionL (l:=[0,1,2,3,4,5,6,7,8]) rfl<|mv hf rfl<|?_; clear hf a; intro a hf; refine ov hf rfl (RunV.loadN (cs':=(aD d)) T_agg_24 T_size_24 rfl (hS.p 7 rfl) (bl rfl) rfl) ?_; clear hf a; intro a hf; refine oc hf rfl C_ok_19 (whoE vl l d _ (hS.bptO (i:=0) rfl) (hS.rdAt (j:=1) rfl) hfit e2 hwho) ?_; clear hf a; rintro _ w23 hS1 a hf; replace hS:=hS.cl hS1; refine mv hf rfl ?_; clear hf a; intro a hf; refine ov hf rfl (RunV.extract rfl rfl) ?_; clear hf a; intro a hf; refine ov hf rfl (RunV.extract rfl rfl) ?_; clear hf a; intro a hf; refine O.alloc (cs:=#[.int .i64 0,.int .i64 0,.int .u8 0,.int .u8 0,.int .i64 0,.slice none 0 0]) hf hS rfl rfl T_zero_46 rfl ?_; intro b_x24 w a hbb_x24 hS hf; refine ost 0 #[.int .i64 0,.int .i64 0,.int .u8 0,.int .u8 0,.int .i64 0,.slice none 0 0] hf hS rfl rfl rfl T_size_46 rfl rfl rfl (bl rfl) rfl ?_; intro w hS; refine mv hf rfl ?_; clear hf a; intro a hf; refine nk<|W.seq<|?_
      refine W.regionL (l:=[0,1,2,3,4,5,6,7,8]) rfl<|mv hf rfl<|?_; clear hf a; intro a hf; refine ov hf rfl (RunV.loadN (cs':=(aD d)) T_agg_24 T_size_24 rfl (hS.p 8 rfl) (bl rfl) rfl) ?_; clear hf a; intro a hf; refine oc hf rfl C_ok_24 (whoRE v4 l d _ (hS.slr (j:=7) rfl) (slOK.fit (hS.slAt (j:=7) rfl)) hr hrd e2 hwho) ?_; clear hf a; rintro _ w25 hS1 a hf; replace hS:=hS.cl hS1; refine mv hf rfl ?_; clear hf a; intro a hf; refine ov hf rfl (RunV.extract rfl rfl) ?_; clear hf a; intro a hf; refine ov hf rfl (RunV.extract rfl rfl) ?_; clear hf a; intro a hf; refine O.alloc (cs:=#[.int .i64 0,.int .i64 0,.int .u8 0,.int .u8 0,.int .i64 0,.slice none 0 0]) hf hS rfl rfl T_zero_46 rfl ?_; intro b_y26 w a hbb_y26 hS hf; refine ost 0 #[.int .i64 0,.int .i64 0,.int .u8 0,.int .u8 0,.int .i64 0,.slice none 0 0] hf hS rfl rfl rfl T_size_46 rfl rfl rfl (bl rfl) rfl ?_; intro w hS; refine mv hf rfl ?_; clear hf a; intro a hf; refine nk<|W.seq<|W.seq<|?_
      refine W.regionL (l:=[0]) rfl<|mv hf rfl<|?_; clear hf a; intro a hf; refine nk<|W.block<|?_
      refine W.loop (G:=(Nat)) (fun g a w=>match g with | k=>Fr a 110 [] [(0,vl),(5,v4),(6,va1),(7,.int .i64 0),(8,vb),(9,.int .i64 0),(10,uv),(11,.int .i64 0),(12,up),(13,.int .i64 0),(14,.pointer (some ⟨b_x24,0,none⟩)),(15,.int .i64 e2),(16,.pointer (some ⟨b_y26,0,none⟩)),(17,.int .i64 e2),(18,.int .i64 (k:Int))]∧St w0 w noX [ordA,rdv 12 vl l.length (encs eC l)] [pt b_y26 (.cells #[.int .i64 0,.int .i64 0,.int .u8 0,.int .u8 0,.int .i64 0,.slice none 0 0] 46 (0,0)),pt b_x24 (.cells #[.int .i64 0,.int .i64 0,.int .u8 0,.int .u8 0,.int .i64 0,.slice none 0 0] 46 (0,0)),sl 4 1 up us.length (bools us),sl 4 1 uv us.length (bools us),sl 46 6 vb osb.length (encs eO osb),bigA (allb.map obA),sl 46 6 va1 xs1.length (encs eO xs1),bigA (xs1.map obA),sl 26 12 v4 l.length (encs eC l),pt b_d1 (.cells (aD d) 24 (0,0))]∧(k≤l.length)) (fun g=>match g with | k=>l.length-k) 0 ?_ ?_
      · refine ⟨hf.to ⟨rfl,rfl,rfl,rfl,rfl,rfl,rfl,rfl,rfl,rfl,rfl,rfl,rfl,rfl,(by first | rfl | exact congrArg some (congrArg (Value.int _) (by omega))),trivial⟩,hS,?_⟩
        · omega
      clear hf hS a; rintro k a w ⟨hf,hS,hk⟩; refine W.seq<|W.seq<|?_
      refine W.regionL (l:=[0,1,2,3,4,5,6,7]) rfl<|mv hf rfl<|?_; clear hf a; intro a hf; refine mv hf rfl ?_; clear hf a; intro a hf; refine ov hf rfl (RunV.lenV (e:=26) (by simpa using T_elem_22) rfl (hS.rdAt (j:=1) rfl)) ?_; clear hf a; intro a hf; refine ov (v:=.bool (decide ((k:Int)<((l.length:Int):Int)))) hf rfl (RunV.lss rfl rfl) ?_; clear hf a; intro a hf; refine mv hf rfl ?_; clear hf a; intro a hf
      refine O.cutN (l₁:=[5,6,7]) (l₂:=_) (fun a w=>Fr a 110 [] [(0,vl),(5,v4),(6,va1),(7,.int .i64 0),(8,vb),(9,.int .i64 0),(10,uv),(11,.int .i64 0),(12,up),(13,.int .i64 0),(14,.pointer (some ⟨b_x24,0,none⟩)),(15,.int .i64 e2),(16,.pointer (some ⟨b_y26,0,none⟩)),(17,.int .i64 e2),(18,.int .i64 (k:Int)),(56,.int .i64 (k:Int)),(57,vl),(58,.int .i64 (l.length:Int)),(59,.bool (decide ((k:Int)<((l.length:Int):Int)))),(60,.bool (decide ((k:Int)<((l.length:Int):Int)))),(63,.bool ((decide ((k:Int)<((l.length:Int):Int)))&&(decide ((k:Int)<(25:Int)))))]∧St w0 w noX [ordA,rdv 12 vl l.length (encs eC l)] [pt b_y26 (.cells #[.int .i64 0,.int .i64 0,.int .u8 0,.int .u8 0,.int .i64 0,.slice none 0 0] 46 (0,0)),pt b_x24 (.cells #[.int .i64 0,.int .i64 0,.int .u8 0,.int .u8 0,.int .i64 0,.slice none 0 0] 46 (0,0)),sl 4 1 up us.length (bools us),sl 4 1 uv us.length (bools us),sl 46 6 vb osb.length (encs eO osb),bigA (allb.map obA),sl 46 6 va1 xs1.length (encs eO xs1),bigA (xs1.map obA),sl 26 12 v4 l.length (encs eC l),pt b_d1 (.cells (aD d) 24 (0,0))]) rfl ?_ ?_
      · rcases Bool.eq_false_or_eq_true (decide ((k:Int)<((l.length:Int):Int))) with hb27 | hb27
        · have hb27p:=of_decide_eq_true hb27
          refine og (v:=.int .i64 (k:Int)) hf rfl hb27 (RunV.move rfl) ?_; clear hf a; intro a hf; refine og (v:=.bool (decide ((k:Int)<(25:Int)))) hf rfl hb27 (RunV.lss rfl rfl) ?_; clear hf a; intro a hf; refine ov (v:=.bool ((decide ((k:Int)<((l.length:Int):Int)))&&(decide ((k:Int)<(25:Int))))) hf rfl (RunV.pick rfl rfl rfl (by rw [hb27]; rfl)) ?_; clear hf a; intro a hf; exact O.nil ⟨rfl,hf.q rfl,hS⟩
        · have hb27p:=of_decide_eq_false hb27
          refine sk hf rfl hb27 fun a hf=>sk hf rfl hb27 fun a hf=>?_; refine ov (v:=.bool ((decide ((k:Int)<((l.length:Int):Int)))&&(decide ((k:Int)<(25:Int))))) hf rfl (RunV.pick rfl rfl rfl (by rw [hb27]; rfl)) ?_; clear hf a; intro a hf; exact O.nil ⟨rfl,hf.q rfl,hS⟩
      clear hf hS a; rintro a w ⟨hf,hS⟩; refine nk ?_; refine W.if_ hf rfl (fun hlt=>?_) (fun hlt=>?_)
      · have hltb:=hlt
        try simp only [Bool.and_eq_true,Bool.or_eq_true,Bool.and_eq_false_iff,Bool.or_eq_false_iff,decide_eq_true_eq,decide_eq_false_iff_not,Bool.not_eq_true',Bool.not_eq_false',Bool.not_eq_true,Bool.not_eq_false,ne_eq] at hlt
        refine W.skip<|k_seq<|W.seq<|W.block<|W.seq<|?_
        obtain ⟨cc,hcc⟩:∃ c,c=l.getD k default:=⟨_,rfl⟩; refine W.drawQ (fun w=>St w0 w noX [ordA,rdv 12 vl l.length (encs eC l)] [pt b_y26 (.cells #[.int .i64 0,.int .i64 0,.int .u8 0,.int .u8 0,.int .i64 0,.slice none 0 0] 46 (0,0)),pt b_x24 (.cells #[.int .i64 0,.int .i64 0,.int .u8 0,.int .u8 0,.int .i64 0,.slice none 0 0] 46 (0,0)),sl 4 1 up us.length (bools us),sl 4 1 uv us.length (bools us),sl 46 6 vb osb.length (encs eO osb),bigA (allb.map obA),sl 46 6 va1 xs1.length (encs eO xs1),bigA (xs1.map obA),sl 26 12 v4 l.length (encs eC l),pt b_d1 (.cells (aD d) 24 (0,0))]) P_mixed rfl (by kernel_rfl) rfl hS.drew ?_; clear hS; refine OQ.val (v:=vl) hf rfl (fun w hS=>RunV.move rfl) fun a hf=>OQ.val (v:=.int .i64 (k:Int)) hf rfl (fun w hS=>RunV.move rfl) fun a hf=>OQ.val (v:=ix vl (k*12)) hf rfl (fun w hS=>RunV.ixV (j:=k) (m:=k*12) T_elem_22 T_size_26 rfl rfl (hS.rdAt (j:=1) rfl) rfl (by omega) rfl) fun a hf=>OQ.val (v:=.agg (aC cc)) hf rfl (fun w hS=>RunV.ldG (j:=k) (enc:=eC) (l:=l) (us:=eC cc) T_agg_26 T_size_26 rfl eC_len rfl (hS.rdAt (j:=1) rfl) (by omega) (by rw [hcc])) fun a hf=>OQ.callRq (v:=.int .i64 (if okC cc then 0 else 8)) hf rfl (fun w hS=>RunE.call (av:=#[cV cc]) C_ok_25 rfl rfl rfl) (fun w hS=>checkC_spec cc _ (hS.bptO (i:=0) rfl)) fun a hf=>OQ.val (v:=v4) hf rfl (fun w hS=>RunV.move rfl) fun a hf=>OQ.val (v:=.int .i64 (k:Int)) hf rfl (fun w hS=>RunV.move rfl) fun a hf=>OQ.val (v:=ix v4 (k*12)) hf rfl (fun w hS=>RunV.ixV (j:=k) (m:=k*12) T_elem_22 T_size_26 rfl rfl (hS.slr (j:=8) rfl) rfl (by omega) rfl) fun a hf=>OQ.val (v:=.agg (aC cc)) hf rfl (fun w hS=>RunV.ldG (j:=k) (enc:=eC) (l:=l) (us:=eC cc) T_agg_26 T_size_26 rfl eC_len rfl (hS.slr (j:=8) rfl) (by omega) (by rw [hcc])) fun a hf=>?_; refine OQ.callRq (v:=.int .i64 (if okC cc then 0 else 8)) hf rfl (fun w hS=>RunE.call (av:=#[cV cc]) C_ok_26 rfl rfl rfl) (fun w hS=>check26_spec cc _ (by rw [hcc]; exact hr _ (getC (by omega)))) ?_; clear hf a; intro a hf; refine OQ.val (v:=.bool (decide ((if okC cc then 0 else 8)≠(if okC cc then 0 else 8:Int)))) hf rfl (fun w hS=>RunV.neq rfl rfl) fun a hf=>?_; refine OQ.nil ?_; intro w hS; refine k_seq ?_; have hbc:(decide ((if okC cc then 0 else 8)≠(if okC cc then 0 else 8:Int)))=false:=decide_eq_false (fun h=>h rfl); simp only [hbc] at hf; clear hbc; refine W.if_ff hf rfl<|W.skip<|k_blk_normal<|k_seq<|?_
        refine W.regionL (l:=[0,1,2]) rfl<|mv hf rfl<|?_; clear hf a; intro a hf; refine ov hf rfl (RunV.addI rfl rfl (by omega)) ?_; clear hf a; intro a hf; refine mv hf rfl ?_; clear hf a; intro a hf; refine O.nil ?_; refine k_then ⟨(k+1),⟨hf.to ⟨rfl,rfl,rfl,rfl,rfl,rfl,rfl,rfl,rfl,rfl,rfl,rfl,rfl,rfl,(by first | rfl | exact congrArg some (congrArg (Value.int _) (by omega))),trivial⟩,?_,?_⟩,?_⟩
        · exact hS.eqM rfl
        · omega
        · dsimp only; omega
      · have hltb:=hlt
        try simp only [Bool.and_eq_true,Bool.or_eq_true,Bool.and_eq_false_iff,Bool.or_eq_false_iff,decide_eq_true_eq,decide_eq_false_iff_not,Bool.not_eq_true',Bool.not_eq_false',Bool.not_eq_true,Bool.not_eq_false,ne_eq] at hlt
        refine W.exit<|k_then_exit<|k_then_exit<|k_blk<|k_seq<|W.seq<|?_
        refine W.regionL (l:=[0,1,2,3,4,5,6,7,8,9,10,11,12,13,14,15,16,17,18,19,20,21,22,23,24,25,26,27,28,29,30,31,32,33]) rfl<|mv hf rfl<|?_; clear hf a; intro a hf; refine mv hf rfl ?_; clear hf a; intro a hf; refine oc hf rfl C_ok_17 (same_true va1 xs1 vb osb _ (hS.slr (j:=6) rfl) (hS.slr (j:=4) rfl) (hS.obOwn (i:=7) rfl) ((hS.obOwn (i:=5) rfl).sub hb2) (Eq.trans hxs1 hb1.symm)) ?_; clear hf a; rintro _ w29 hS1 a hf; replace hS:=hS.cl hS1; refine mv hf rfl ?_; clear hf a; intro a hf; refine og (v:=.int .i64 0) hf rfl rfl (RunV.move rfl) ?_; clear hf a; intro a hf; refine og (v:=.int .i64 0) hf rfl rfl (RunV.move rfl) ?_; clear hf a; intro a hf; refine og (v:=.bool true) hf rfl rfl (RunV.toB (c:=true) (RunV.eql rfl rfl) (by decide)) ?_; clear hf a; intro a hf; refine ov (v:=.bool true) hf rfl (RunV.pick rfl rfl rfl rfl) ?_; clear hf a; intro a hf; refine mv hf rfl ?_; clear hf a; intro a hf; refine og (v:=uv) hf rfl rfl (RunV.move rfl) ?_; clear hf a; intro a hf; refine og (v:=up) hf rfl rfl (RunV.move rfl) ?_; clear hf a; intro a hf; refine O.gcallR hf rfl rfl rfl rfl rfl rfl (RunE.call (av:=#[uv,up]) C_ok_27 rfl rfl rfl) (sameBools_true uv us up us _ (hS.slr (j:=3) rfl) (hS.slr (j:=2) rfl) rfl) ?_; clear hf a; rintro _ w30 hS1 a hf; replace hS:=hS.cl hS1; refine ov (v:=.bool true) hf rfl (RunV.pick rfl rfl rfl rfl) ?_; clear hf a; intro a hf; refine mv hf rfl ?_; clear hf a; intro a hf; refine og (v:=.int .i64 0) hf rfl rfl (RunV.move rfl) ?_; clear hf a; intro a hf; refine og (v:=.int .i64 0) hf rfl rfl (RunV.move rfl) ?_; clear hf a; intro a hf; refine og (v:=.bool true) hf rfl rfl (RunV.toB (c:=true) (RunV.eql rfl rfl) (by decide)) ?_; clear hf a; intro a hf; refine ov (v:=.bool true) hf rfl (RunV.pick rfl rfl rfl rfl) ?_; clear hf a; intro a hf; refine mv hf rfl ?_; clear hf a; intro a hf; refine og (v:=.agg #[.int .i64 0,.int .i64 0,.int .u8 0,.int .u8 0,.int .i64 0,.slice none 0 0]) hf rfl rfl (RunV.loadN (cs':=#[.int .i64 0,.int .i64 0,.int .u8 0,.int .u8 0,.int .i64 0,.slice none 0 0]) T_agg_46 T_size_46 rfl (hS.p 1 rfl) (bl rfl) rfl) ?_; clear hf a; intro a hf; refine og (v:=.agg #[.int .i64 0,.int .i64 0,.int .u8 0,.int .u8 0,.int .i64 0,.slice none 0 0]) hf rfl rfl (RunV.loadN (cs':=#[.int .i64 0,.int .i64 0,.int .u8 0,.int .u8 0,.int .i64 0,.slice none 0 0]) T_agg_46 T_size_46 rfl (hS.p 0 rfl) (bl rfl) rfl) ?_; clear hf a; intro a hf; refine O.gcallR hf rfl rfl rfl rfl rfl rfl (RunE.call (av:=#[.agg #[.int .i64 0,.int .i64 0,.int .u8 0,.int .u8 0,.int .i64 0,.slice none 0 0],.agg #[.int .i64 0,.int .i64 0,.int .u8 0,.int .u8 0,.int .i64 0,.slice none 0 0]]) C_ok_20 rfl rfl rfl) (sameObject_true ⟨0,0,0,0,0⟩ ⟨0,0,0,0,0⟩ (.slice none 0 0) (.slice none 0 0) [] [] _ rdD_nil rdD_nil ⟨rfl,rfl⟩) ?_; clear hf a; rintro _ w31 hS1 a hf; replace hS:=hS.cl hS1; refine ov (v:=.bool true) hf rfl (RunV.pick rfl rfl rfl rfl) ?_; clear hf a; intro a hf; refine mv hf rfl ?_; clear hf a; intro a hf; refine og (v:=.int .i64 e2) hf rfl rfl (RunV.move rfl) ?_; clear hf a; intro a hf; refine og (v:=.int .i64 e2) hf rfl rfl (RunV.move rfl) ?_; clear hf a; intro a hf; refine og (v:=.bool (decide (e2=(e2:Int)))) hf rfl rfl (RunV.eql rfl rfl) ?_; clear hf a; intro a hf; refine ov (v:=.bool (decide (e2=(e2:Int)))) hf rfl (RunV.pick rfl rfl rfl rfl) ?_; clear hf a; intro a hf; refine mv hf rfl ?_; clear hf a; intro a hf; have hbg:(decide (e2=(e2:Int)))=true:=decide_eq_true rfl; simp only [hbg] at hf; clear hbg; refine og (v:=vl) hf rfl rfl (RunV.move rfl) ?_; clear hf a; intro a hf; refine og (v:=v4) hf rfl rfl (RunV.move rfl) ?_; clear hf a; intro a hf; refine O.gcallR hf rfl rfl rfl rfl rfl rfl (RunE.call (av:=#[vl,v4]) C_ok_13 rfl rfl rfl) (sameChanges_true vl l v4 l _ (hS.rdAt (j:=1) rfl) (hS.slr (j:=8) rfl) rfl) ?_; clear hf a; rintro _ w32 hS1 a hf; replace hS:=hS.cl hS1; refine ov (v:=.bool true) hf rfl (RunV.pick rfl rfl rfl rfl) ?_; clear hf a; intro a hf; refine mv hf rfl ?_; clear hf a; intro a hf; refine nk<|W.ret<|post1 hf rfl (ResOK.tmp rfl)<|?_; exact ⟨(),rfl,hS.sub (List.nil_sublist _) |>.noB⟩
    ·
      refine W.regionL (l:=[0,1,2,3,4,5,6,7,8]) rfl<|mv hf rfl<|?_; clear hf a; intro a hf; refine ov hf rfl (RunV.loadN (cs':=(aD d)) T_agg_24 T_size_24 rfl (hS.p 7 rfl) (bl rfl) rfl) ?_; clear hf a; intro a hf; refine oc hf rfl C_ok_19 (whoO vl l d _ (hS.bptO (i:=0) rfl) (hS.rdAt (j:=1) rfl) hfit p hwho) ?_; clear hf a; rintro xv w33 hS1 a hf; replace hS:=hS.cl hS1; refine mv hf rfl ?_; clear hf a; intro a hf; refine ov hf rfl (RunV.extract rfl rfl) ?_; clear hf a; intro a hf; refine ov hf rfl (RunV.extract rfl rfl) ?_; clear hf a; intro a hf; refine O.alloc (cs:=#[.int .i64 0,.int .i64 0,.int .u8 0,.int .u8 0,.int .i64 0,.slice none 0 0]) hf hS rfl rfl T_zero_46 rfl ?_; intro b_x34 w a hbb_x34 hS hf; have hcl35:=rdOK.cells (hS.slr (j:=1) rfl); refine ost 0 #[.int .i64 (((sortDs p.1).getD 0 default).num),.int .i64 (((sortDs p.1).getD 0 default).yr),.int .u8 (((sortDs p.1).getD 0 default).half),.int .u8 (((sortDs p.1).getD 0 default).sec),.int .i64 (((sortDs p.1).getD 0 default).cyc),xv] hf hS rfl rfl rfl T_size_46 rfl (oneCells_cc rfl (oneCells_cc rfl (oneCells_cc rfl (oneCells_cc rfl (oneCells_cc rfl (oneCells_cc hcl35.2 rfl)))))) rfl (bl rfl) rfl ?_; intro w hS; refine mv hf rfl ?_; clear hf a; intro a hf; refine nk<|W.seq<|?_
      refine W.regionL (l:=[0,1,2,3,4,5,6,7,8]) rfl<|mv hf rfl<|?_; clear hf a; intro a hf; refine ov hf rfl (RunV.loadN (cs':=(aD d)) T_agg_24 T_size_24 rfl (hS.p 9 rfl) (bl rfl) rfl) ?_; clear hf a; intro a hf; refine oc hf rfl C_ok_24 (whoRO v4 l d _ (hS.slr (j:=8) rfl) (slOK.fit (hS.slAt (j:=8) rfl)) hr hrd p hwho) ?_; clear hf a; rintro ⟨o,allo⟩ w36 ⟨hS1,ho1,ho2⟩ a hf; replace hS:=hS.cl hS1; refine mv hf rfl ?_; clear hf a; intro a hf; refine ov hf rfl (RunV.extract rfl rfl) ?_; clear hf a; intro a hf; refine ov hf rfl (RunV.extract rfl rfl) ?_; clear hf a; intro a hf; refine O.alloc (cs:=#[.int .i64 0,.int .i64 0,.int .u8 0,.int .u8 0,.int .i64 0,.slice none 0 0]) hf hS rfl rfl T_zero_46 rfl ?_; intro b_y37 w a hbb_y37 hS hf; refine ost 0 #[.int .i64 o.p.num,.int .i64 o.p.yr,.int .u8 o.p.half,.int .u8 o.p.sec,.int .i64 o.p.cyc,(.slice o.ad o.n o.c)] hf hS rfl rfl rfl T_size_46 rfl rfl rfl (bl rfl) rfl ?_; intro w hS; refine mv hf rfl ?_; clear hf a; intro a hf; refine nk<|W.seq<|W.seq<|?_
      refine W.regionL (l:=[0]) rfl<|mv hf rfl<|?_; clear hf a; intro a hf; refine nk<|W.block<|?_
      refine W.loop (G:=(Nat)) (fun g a w=>match g with | k=>Fr a 110 [] [(0,vl),(5,v4),(6,va1),(7,.int .i64 0),(8,vb),(9,.int .i64 0),(10,uv),(11,.int .i64 0),(12,up),(13,.int .i64 0),(14,.pointer (some ⟨b_x34,0,none⟩)),(15,.int .i64 0),(16,.pointer (some ⟨b_y37,0,none⟩)),(17,.int .i64 0),(18,.int .i64 (k:Int))]∧St w0 w noX [ordA,rdv 12 vl l.length (encs eC l)] [pt b_y37 (.cells #[.int .i64 o.p.num,.int .i64 o.p.yr,.int .u8 o.p.half,.int .u8 o.p.sec,.int .i64 o.p.cyc,(.slice o.ad o.n o.c)] 46 (0,0)),bigA (allo.map obA),pt b_x34 (.cells #[.int .i64 (((sortDs p.1).getD 0 default).num),.int .i64 (((sortDs p.1).getD 0 default).yr),.int .u8 (((sortDs p.1).getD 0 default).half),.int .u8 (((sortDs p.1).getD 0 default).sec),.int .i64 (((sortDs p.1).getD 0 default).cyc),xv] 46 (0,0)),sl 24 5 xv ((sortDs p.1).length) (encs eD (sortDs p.1)),sl 4 1 up us.length (bools us),sl 4 1 uv us.length (bools us),sl 46 6 vb osb.length (encs eO osb),bigA (allb.map obA),sl 46 6 va1 xs1.length (encs eO xs1),bigA (xs1.map obA),sl 26 12 v4 l.length (encs eC l),pt b_d1 (.cells (aD d) 24 (0,0))]∧(k≤l.length)) (fun g=>match g with | k=>l.length-k) 0 ?_ ?_
      · refine ⟨hf.to ⟨rfl,rfl,rfl,rfl,rfl,rfl,rfl,rfl,rfl,rfl,rfl,rfl,rfl,rfl,(by first | rfl | exact congrArg some (congrArg (Value.int _) (by omega))),trivial⟩,hS,?_⟩
        · omega
      clear hf hS a; rintro k a w ⟨hf,hS,hk⟩; refine W.seq<|W.seq<|?_
      refine W.regionL (l:=[0,1,2,3,4,5,6,7]) rfl<|mv hf rfl<|?_; clear hf a; intro a hf; refine mv hf rfl ?_; clear hf a; intro a hf; refine ov hf rfl (RunV.lenV (e:=26) (by simpa using T_elem_22) rfl (hS.rdAt (j:=1) rfl)) ?_; clear hf a; intro a hf; refine ov (v:=.bool (decide ((k:Int)<((l.length:Int):Int)))) hf rfl (RunV.lss rfl rfl) ?_; clear hf a; intro a hf; refine mv hf rfl ?_; clear hf a; intro a hf
      refine O.cutN (l₁:=[5,6,7]) (l₂:=_) (fun a w=>Fr a 110 [] [(0,vl),(5,v4),(6,va1),(7,.int .i64 0),(8,vb),(9,.int .i64 0),(10,uv),(11,.int .i64 0),(12,up),(13,.int .i64 0),(14,.pointer (some ⟨b_x34,0,none⟩)),(15,.int .i64 0),(16,.pointer (some ⟨b_y37,0,none⟩)),(17,.int .i64 0),(18,.int .i64 (k:Int)),(56,.int .i64 (k:Int)),(57,vl),(58,.int .i64 (l.length:Int)),(59,.bool (decide ((k:Int)<((l.length:Int):Int)))),(60,.bool (decide ((k:Int)<((l.length:Int):Int)))),(63,.bool ((decide ((k:Int)<((l.length:Int):Int)))&&(decide ((k:Int)<(25:Int)))))]∧St w0 w noX [ordA,rdv 12 vl l.length (encs eC l)] [pt b_y37 (.cells #[.int .i64 o.p.num,.int .i64 o.p.yr,.int .u8 o.p.half,.int .u8 o.p.sec,.int .i64 o.p.cyc,(.slice o.ad o.n o.c)] 46 (0,0)),bigA (allo.map obA),pt b_x34 (.cells #[.int .i64 (((sortDs p.1).getD 0 default).num),.int .i64 (((sortDs p.1).getD 0 default).yr),.int .u8 (((sortDs p.1).getD 0 default).half),.int .u8 (((sortDs p.1).getD 0 default).sec),.int .i64 (((sortDs p.1).getD 0 default).cyc),xv] 46 (0,0)),sl 24 5 xv ((sortDs p.1).length) (encs eD (sortDs p.1)),sl 4 1 up us.length (bools us),sl 4 1 uv us.length (bools us),sl 46 6 vb osb.length (encs eO osb),bigA (allb.map obA),sl 46 6 va1 xs1.length (encs eO xs1),bigA (xs1.map obA),sl 26 12 v4 l.length (encs eC l),pt b_d1 (.cells (aD d) 24 (0,0))]) rfl ?_ ?_
      · rcases Bool.eq_false_or_eq_true (decide ((k:Int)<((l.length:Int):Int))) with hb38 | hb38
        · have hb38p:=of_decide_eq_true hb38
          refine og (v:=.int .i64 (k:Int)) hf rfl hb38 (RunV.move rfl) ?_; clear hf a; intro a hf; refine og (v:=.bool (decide ((k:Int)<(25:Int)))) hf rfl hb38 (RunV.lss rfl rfl) ?_; clear hf a; intro a hf; refine ov (v:=.bool ((decide ((k:Int)<((l.length:Int):Int)))&&(decide ((k:Int)<(25:Int))))) hf rfl (RunV.pick rfl rfl rfl (by rw [hb38]; rfl)) ?_; clear hf a; intro a hf; exact O.nil ⟨rfl,hf.q rfl,hS⟩
        · have hb38p:=of_decide_eq_false hb38
          refine sk hf rfl hb38 fun a hf=>sk hf rfl hb38 fun a hf=>?_; refine ov (v:=.bool ((decide ((k:Int)<((l.length:Int):Int)))&&(decide ((k:Int)<(25:Int))))) hf rfl (RunV.pick rfl rfl rfl (by rw [hb38]; rfl)) ?_; clear hf a; intro a hf; exact O.nil ⟨rfl,hf.q rfl,hS⟩
      clear hf hS a; rintro a w ⟨hf,hS⟩; refine nk ?_; refine W.if_ hf rfl (fun hlt=>?_) (fun hlt=>?_)
      · have hltb:=hlt
        try simp only [Bool.and_eq_true,Bool.or_eq_true,Bool.and_eq_false_iff,Bool.or_eq_false_iff,decide_eq_true_eq,decide_eq_false_iff_not,Bool.not_eq_true',Bool.not_eq_false',Bool.not_eq_true,Bool.not_eq_false,ne_eq] at hlt
        refine W.skip<|k_seq<|W.seq<|W.block<|W.seq<|?_
        obtain ⟨cc,hcc⟩:∃ c,c=l.getD k default:=⟨_,rfl⟩; refine W.drawQ (fun w=>St w0 w noX [ordA,rdv 12 vl l.length (encs eC l)] [pt b_y37 (.cells #[.int .i64 o.p.num,.int .i64 o.p.yr,.int .u8 o.p.half,.int .u8 o.p.sec,.int .i64 o.p.cyc,(.slice o.ad o.n o.c)] 46 (0,0)),bigA (allo.map obA),pt b_x34 (.cells #[.int .i64 (((sortDs p.1).getD 0 default).num),.int .i64 (((sortDs p.1).getD 0 default).yr),.int .u8 (((sortDs p.1).getD 0 default).half),.int .u8 (((sortDs p.1).getD 0 default).sec),.int .i64 (((sortDs p.1).getD 0 default).cyc),xv] 46 (0,0)),sl 24 5 xv ((sortDs p.1).length) (encs eD (sortDs p.1)),sl 4 1 up us.length (bools us),sl 4 1 uv us.length (bools us),sl 46 6 vb osb.length (encs eO osb),bigA (allb.map obA),sl 46 6 va1 xs1.length (encs eO xs1),bigA (xs1.map obA),sl 26 12 v4 l.length (encs eC l),pt b_d1 (.cells (aD d) 24 (0,0))]) P_mixed rfl (by kernel_rfl) rfl hS.drew ?_; clear hS; refine OQ.val (v:=vl) hf rfl (fun w hS=>RunV.move rfl) fun a hf=>OQ.val (v:=.int .i64 (k:Int)) hf rfl (fun w hS=>RunV.move rfl) fun a hf=>OQ.val (v:=ix vl (k*12)) hf rfl (fun w hS=>RunV.ixV (j:=k) (m:=k*12) T_elem_22 T_size_26 rfl rfl (hS.rdAt (j:=1) rfl) rfl (by omega) rfl) fun a hf=>OQ.val (v:=.agg (aC cc)) hf rfl (fun w hS=>RunV.ldG (j:=k) (enc:=eC) (l:=l) (us:=eC cc) T_agg_26 T_size_26 rfl eC_len rfl (hS.rdAt (j:=1) rfl) (by omega) (by rw [hcc])) fun a hf=>OQ.callRq (v:=.int .i64 (if okC cc then 0 else 8)) hf rfl (fun w hS=>RunE.call (av:=#[cV cc]) C_ok_25 rfl rfl rfl) (fun w hS=>checkC_spec cc _ (hS.bptO (i:=0) rfl)) fun a hf=>OQ.val (v:=v4) hf rfl (fun w hS=>RunV.move rfl) fun a hf=>OQ.val (v:=.int .i64 (k:Int)) hf rfl (fun w hS=>RunV.move rfl) fun a hf=>OQ.val (v:=ix v4 (k*12)) hf rfl (fun w hS=>RunV.ixV (j:=k) (m:=k*12) T_elem_22 T_size_26 rfl rfl (hS.slr (j:=10) rfl) rfl (by omega) rfl) fun a hf=>OQ.val (v:=.agg (aC cc)) hf rfl (fun w hS=>RunV.ldG (j:=k) (enc:=eC) (l:=l) (us:=eC cc) T_agg_26 T_size_26 rfl eC_len rfl (hS.slr (j:=10) rfl) (by omega) (by rw [hcc])) fun a hf=>?_; refine OQ.callRq (v:=.int .i64 (if okC cc then 0 else 8)) hf rfl (fun w hS=>RunE.call (av:=#[cV cc]) C_ok_26 rfl rfl rfl) (fun w hS=>check26_spec cc _ (by rw [hcc]; exact hr _ (getC (by omega)))) ?_; clear hf a; intro a hf; refine OQ.val (v:=.bool (decide ((if okC cc then 0 else 8)≠(if okC cc then 0 else 8:Int)))) hf rfl (fun w hS=>RunV.neq rfl rfl) fun a hf=>?_; refine OQ.nil ?_; intro w hS; refine k_seq ?_; have hbc:(decide ((if okC cc then 0 else 8)≠(if okC cc then 0 else 8:Int)))=false:=decide_eq_false (fun h=>h rfl); simp only [hbc] at hf; clear hbc; refine W.if_ff hf rfl<|W.skip<|k_blk_normal<|k_seq<|?_
        refine W.regionL (l:=[0,1,2]) rfl<|mv hf rfl<|?_; clear hf a; intro a hf; refine ov hf rfl (RunV.addI rfl rfl (by omega)) ?_; clear hf a; intro a hf; refine mv hf rfl ?_; clear hf a; intro a hf; refine O.nil ?_; refine k_then ⟨(k+1),⟨hf.to ⟨rfl,rfl,rfl,rfl,rfl,rfl,rfl,rfl,rfl,rfl,rfl,rfl,rfl,rfl,(by first | rfl | exact congrArg some (congrArg (Value.int _) (by omega))),trivial⟩,?_,?_⟩,?_⟩
        · exact hS.eqM rfl
        · omega
        · dsimp only; omega
      · have hltb:=hlt
        try simp only [Bool.and_eq_true,Bool.or_eq_true,Bool.and_eq_false_iff,Bool.or_eq_false_iff,decide_eq_true_eq,decide_eq_false_iff_not,Bool.not_eq_true',Bool.not_eq_false',Bool.not_eq_true,Bool.not_eq_false,ne_eq] at hlt
        refine W.exit<|k_then_exit<|k_then_exit<|k_blk<|k_seq<|W.seq<|?_
        refine W.regionL (l:=[0,1,2,3,4,5,6,7,8,9,10,11,12,13,14,15,16,17,18,19,20,21,22,23,24,25,26,27,28,29,30,31,32,33]) rfl<|mv hf rfl<|?_; clear hf a; intro a hf; refine mv hf rfl ?_; clear hf a; intro a hf; refine oc hf rfl C_ok_17 (same_true va1 xs1 vb osb _ (hS.slr (j:=8) rfl) (hS.slr (j:=6) rfl) (hS.obOwn (i:=9) rfl) ((hS.obOwn (i:=7) rfl).sub hb2) (Eq.trans hxs1 hb1.symm)) ?_; clear hf a; rintro _ w40 hS1 a hf; replace hS:=hS.cl hS1; refine mv hf rfl ?_; clear hf a; intro a hf; refine og (v:=.int .i64 0) hf rfl rfl (RunV.move rfl) ?_; clear hf a; intro a hf; refine og (v:=.int .i64 0) hf rfl rfl (RunV.move rfl) ?_; clear hf a; intro a hf; refine og (v:=.bool true) hf rfl rfl (RunV.toB (c:=true) (RunV.eql rfl rfl) (by decide)) ?_; clear hf a; intro a hf; refine ov (v:=.bool true) hf rfl (RunV.pick rfl rfl rfl rfl) ?_; clear hf a; intro a hf; refine mv hf rfl ?_; clear hf a; intro a hf; refine og (v:=uv) hf rfl rfl (RunV.move rfl) ?_; clear hf a; intro a hf; refine og (v:=up) hf rfl rfl (RunV.move rfl) ?_; clear hf a; intro a hf; refine O.gcallR hf rfl rfl rfl rfl rfl rfl (RunE.call (av:=#[uv,up]) C_ok_27 rfl rfl rfl) (sameBools_true uv us up us _ (hS.slr (j:=5) rfl) (hS.slr (j:=4) rfl) rfl) ?_; clear hf a; rintro _ w41 hS1 a hf; replace hS:=hS.cl hS1; refine ov (v:=.bool true) hf rfl (RunV.pick rfl rfl rfl rfl) ?_; clear hf a; intro a hf; refine mv hf rfl ?_; clear hf a; intro a hf; refine og (v:=.int .i64 0) hf rfl rfl (RunV.move rfl) ?_; clear hf a; intro a hf; refine og (v:=.int .i64 0) hf rfl rfl (RunV.move rfl) ?_; clear hf a; intro a hf; refine og (v:=.bool true) hf rfl rfl (RunV.toB (c:=true) (RunV.eql rfl rfl) (by decide)) ?_; clear hf a; intro a hf; refine ov (v:=.bool true) hf rfl (RunV.pick rfl rfl rfl rfl) ?_; clear hf a; intro a hf; refine mv hf rfl ?_; clear hf a; intro a hf; refine og (v:=.agg #[.int .i64 (((sortDs p.1).getD 0 default).num),.int .i64 (((sortDs p.1).getD 0 default).yr),.int .u8 (((sortDs p.1).getD 0 default).half),.int .u8 (((sortDs p.1).getD 0 default).sec),.int .i64 (((sortDs p.1).getD 0 default).cyc),xv]) hf rfl rfl (RunV.loadN (cs':=#[.int .i64 (((sortDs p.1).getD 0 default).num),.int .i64 (((sortDs p.1).getD 0 default).yr),.int .u8 (((sortDs p.1).getD 0 default).half),.int .u8 (((sortDs p.1).getD 0 default).sec),.int .i64 (((sortDs p.1).getD 0 default).cyc),xv]) T_agg_46 T_size_46 rfl (hS.p 2 rfl) (bl rfl) rfl) ?_; clear hf a; intro a hf; refine og (v:=.agg #[.int .i64 o.p.num,.int .i64 o.p.yr,.int .u8 o.p.half,.int .u8 o.p.sec,.int .i64 o.p.cyc,(.slice o.ad o.n o.c)]) hf rfl rfl (RunV.loadN (cs':=#[.int .i64 o.p.num,.int .i64 o.p.yr,.int .u8 o.p.half,.int .u8 o.p.sec,.int .i64 o.p.cyc,(.slice o.ad o.n o.c)]) T_agg_46 T_size_46 rfl (hS.p 0 rfl) (bl rfl) rfl) ?_; clear hf a; intro a hf; refine O.gcallR hf rfl rfl rfl rfl rfl rfl (RunE.call (av:=#[.agg #[.int .i64 (((sortDs p.1).getD 0 default).num),.int .i64 (((sortDs p.1).getD 0 default).yr),.int .u8 (((sortDs p.1).getD 0 default).half),.int .u8 (((sortDs p.1).getD 0 default).sec),.int .i64 (((sortDs p.1).getD 0 default).cyc),xv],.agg #[.int .i64 o.p.num,.int .i64 o.p.yr,.int .u8 o.p.half,.int .u8 o.p.sec,.int .i64 o.p.cyc,(.slice o.ad o.n o.c)]]) C_ok_20 rfl rfl rfl) (sameObject_true ((sortDs p.1).getD 0 default) o.p xv (.slice o.ad o.n o.c) (sortDs p.1) o.l _ (hS.slr (j:=3) rfl) ((hS.obOwn (i:=1) rfl) o ho1) ⟨(congrArg Prod.fst ho2).symm,(congrArg Prod.snd ho2).symm⟩) ?_; clear hf a; rintro _ w42 hS1 a hf; replace hS:=hS.cl hS1; refine ov (v:=.bool true) hf rfl (RunV.pick rfl rfl rfl rfl) ?_; clear hf a; intro a hf; refine mv hf rfl ?_; clear hf a; intro a hf; refine og (v:=.int .i64 0) hf rfl rfl (RunV.move rfl) ?_; clear hf a; intro a hf; refine og (v:=.int .i64 0) hf rfl rfl (RunV.move rfl) ?_; clear hf a; intro a hf; refine og (v:=.bool true) hf rfl rfl (RunV.toB (c:=true) (RunV.eql rfl rfl) (by decide)) ?_; clear hf a; intro a hf; refine ov (v:=.bool true) hf rfl (RunV.pick rfl rfl rfl rfl) ?_; clear hf a; intro a hf; refine mv hf rfl ?_; clear hf a; intro a hf; refine og (v:=vl) hf rfl rfl (RunV.move rfl) ?_; clear hf a; intro a hf; refine og (v:=v4) hf rfl rfl (RunV.move rfl) ?_; clear hf a; intro a hf; refine O.gcallR hf rfl rfl rfl rfl rfl rfl (RunE.call (av:=#[vl,v4]) C_ok_13 rfl rfl rfl) (sameChanges_true vl l v4 l _ (hS.rdAt (j:=1) rfl) (hS.slr (j:=10) rfl) rfl) ?_; clear hf a; rintro _ w43 hS1 a hf; replace hS:=hS.cl hS1; refine ov (v:=.bool true) hf rfl (RunV.pick rfl rfl rfl rfl) ?_; clear hf a; intro a hf; refine mv hf rfl ?_; clear hf a; intro a hf; refine nk<|W.ret<|post1 hf rfl (ResOK.tmp rfl)<|?_; exact ⟨(),rfl,hS.sub (List.nil_sublist _) |>.noB⟩
theorem runs_spec (vl:Value) (l:List Ch) (d:Dg) (w0:World) (hG:Lent w0 ordA) (hl:rdOK (hp w0) 12 vl l.length (encs eC l)) (hfit:vfit vl) (hr:∀ c ∈ l,rC c) (hrd:rD d) :
    Ret Tryd.prog 7 #[vl,dV d] w0 (G:=Unit) (fun _=>.bool true) (fun _ w=>St w0 w noX [] []):=by
  cases h:greatM l.length with
  | true=>exact runs_great vl l d w0 hG hl hfit hr hrd h
  | false=>exact runs_in vl l d w0 hG hl hfit hr hrd h
end Go.Proofs.YtgakdmmmljdpjaaDoor

namespace Go.SL
open Go Go.ChangeShapes Go.WideShapes Go.ChangeAt Go.RowKit
inductive LK where
  | int (k:IntKind)
  | bool
  | str
def LK.ok:LK→Value→Prop
  | .int k,v=>∃ n,v=.int k n∧(Lit.int k n).wf=true
  | .bool,v=>∃ b,v=.bool b
  | .str,v=>∃ s:ByteArray,v=.string s∧s.size≤maxLen
def AllK:List LK→List Value→Prop
  | [],cs=>cs=[]
  | k::ks,cs=>∃ v t,cs=v::t∧k.ok v∧AllK ks t
theorem AllK.app:∀ {ks ks':List LK} {a b:List Value},AllK ks a→AllK ks' b→AllK (ks++ks') (a++b)
  | [],_,a,b,h1,h2=>by
    have h1:a=[]:=h1
    subst h1; exact h2
  | k::ks,_,a,b,⟨v,t,h1,h2,h3⟩,h4=>by
    subst h1
    exact ⟨v,t++b,rfl,h2,AllK.app h3 h4⟩
def leafFs (P:Program) (f:TypeId→Option (List LK)):List Field→Nat→Option (List LK × Nat)
  | [],o=>some ([],o)
  | g::t,o=>if Nat.beq g.offset o=true then
      match f g.type with
      | some ks=>if Nat.beq ks.length (P.cellsOf g.type)=true then
          match leafFs P f t (o+ks.length) with
          | some (r,o')=>some (ks++r,o')
          | none=>none
        else none
      | none=>none
    else none
def leafK (P:Program):Nat→TypeId→Option (List LK)
  | 0,_=>none
  | d+1,t=>match P.underlying t with
    | some (.int k)=>some [.int k]
    | some .bool=>some [.bool]
    | some .string=>some [.str]
    | some (.struct fs)=>match leafFs P (leafK P d) fs.toList 0 with
      | some (ks,o)=>if Nat.beq o (P.cellsOf t)=true then some ks else none
      | none=>none
    | some (.array n e)=>match leafK P d e with
      | some ks=>if (Nat.beq ks.length (P.cellsOf e)&&Nat.beq (n*ks.length) (P.cellsOf t))=true then some (List.replicate n ks).flatten else none
      | none=>none
    | _=>none
section
variable {H:Type} {enc:TypeId × Value→H} {P:Program} {w:World} {base:Nat} {spare:Nat→Bool} {held:Bool}
theorem leafFs_ok {f:TypeId→Option (List LK)} {cs:List Value} (hf:∀ t ks,f t=some ks→∀ cs,(∃ (n:Nat) (x:DataW H × List MemPlace),DataW.trod enc P w base spare held n t cs=some x)→AllK ks cs) :
    ∀ (fs:List Field) (o:Nat) (ks:List LK) (o':Nat),leafFs P f fs o=some (ks,o')→(∀ g ∈ fs,∃ (n:Nat) (x:DataW H × List MemPlace),DataW.trod enc P w base spare held n g.type ((cs.drop g.offset).take (P.cellsOf g.type))=some x)→o'=cs.length→AllK ks (cs.drop o)
  | [],o,ks,o',h,_,ho=>by
    simp only [leafFs,Option.some.injEq,Prod.mk.injEq] at h
    obtain ⟨rfl,rfl⟩:=h
    subst ho
    show cs.drop cs.length=[]
    simp
  | g::t,o,ks,o',h,hg,ho=>by
    simp only [leafFs] at h
    split at h
    · rename_i hgo
      have hgo:=Nat.eq_of_beq_eq_true hgo
      split at h
      · rename_i k1 hk1
        split at h
        · rename_i hlen
          have hlen:=Nat.eq_of_beq_eq_true hlen
          split at h
          · rename_i r o2 hr
            simp only [Option.some.injEq,Prod.mk.injEq] at h
            obtain ⟨rfl,rfl⟩:=h
            have h2:=leafFs_ok hf t _ _ _ hr (fun g' hg'=>hg g' (by simp [hg'])) ho
            have h1:=hf _ _ hk1 _ (hg g (by simp))
            rw [hgo,← hlen] at h1
            have e:cs.drop o=(cs.drop o).take k1.length++cs.drop (o+k1.length):=by
              rw [← List.drop_drop,List.take_append_drop]
            rw [e]
            exact h1.app h2
          · cases h
        · cases h
      · cases h
    · cases h
theorem arr_ok {ks:List LK} {cs:List Value} {m:Nat} (hm:ks.length=m) (n:Nat) (hc:cs.length=n*m) (h:∀ i,i<n→AllK ks ((cs.drop (i*m)).take m)):∀ j,j≤n→AllK (List.replicate (n-j) ks).flatten (cs.drop (j*m)):=by
  intro j hj
  obtain ⟨q,hq⟩:∃ q,q=n-j:=⟨_,rfl⟩
  induction q generalizing j with
  | zero =>
    have:j=n:=by omega
    subst this
    rw [Nat.sub_self]
    show cs.drop (j*m)=[]
    rw [← hc]; simp
  | succ q ih =>
    have h1:=ih (j+1) (by omega) (by omega)
    have e:n-j=(n-(j+1))+1:=by omega
    rw [e,List.replicate_succ,List.flatten_cons]
    have e2:cs.drop (j*m)=(cs.drop (j*m)).take m++cs.drop ((j+1)*m):=by
      rw [Nat.add_mul,Nat.one_mul,← List.drop_drop,List.take_append_drop]
    rw [e2]
    exact (h j (by omega)).app h1
theorem leafK_ok:∀ (d:Nat) (t:TypeId) (ks:List LK),leafK P d t=some ks→∀ cs,(∃ (n:Nat) (x:DataW H × List MemPlace),DataW.trod enc P w base spare held n t cs=some x)→AllK ks cs
  | 0,t,ks,h,_,_=>by simp [leafK] at h
  | d+1,t,ks,h,cs,⟨n,x,hx⟩=>by
    have ih:=leafK_ok d
    simp only [leafK] at h
    split at h
    · rename_i k hk
      simp only [Option.some.injEq] at h
      subst h
      obtain ⟨z,rfl,_,hw⟩:=DataW.trod_int hk hx
      exact ⟨_,[],rfl,⟨z,rfl,hw⟩,rfl⟩
    · rename_i hk
      simp only [Option.some.injEq] at h
      subst h
      obtain ⟨z,rfl,_⟩:=DataW.trod_bool hk hx
      exact ⟨_,[],rfl,⟨z,rfl⟩,rfl⟩
    · rename_i hk
      simp only [Option.some.injEq] at h
      subst h
      obtain ⟨z,rfl,_,hw⟩:=DataW.trod_string hk hx
      exact ⟨_,[],rfl,⟨z,rfl,hw⟩,rfl⟩
    · rename_i fs hk
      split at h
      · rename_i ks' o ho
        split at h
        · rename_i hoc
          have hoc:=Nat.eq_of_beq_eq_true hoc
          simp only [Option.some.injEq] at h
          subst h
          obtain ⟨xs,m,rfl,rfl,hl,hxl,hall⟩:=DataW.trod_struct hk hx
          have:=leafFs_ok (H:=H) (cs:=cs) (fun t ks h=>ih t ks h) fs.toList 0 ks' o ho (fun g hg=>?_) (hoc.trans hl.symm)
          · simpa using this
          · obtain ⟨i,hi⟩:=List.getElem?_of_mem hg
            have hi':fs[i]? = some g:=by simpa using hi
            have hlt:i<xs.length:=by rw [hxl]; exact (Array.getElem?_eq_some_iff.1 hi').1
            exact ⟨m,xs[i],by rw [hall i g hi',List.getElem?_eq_getElem hlt]⟩
        · cases h
      · cases h
    · rename_i q e hk
      split at h
      · rename_i ks' hks
        split at h
        · rename_i hc
          simp only [Bool.and_eq_true] at hc
          have hc1:=Nat.eq_of_beq_eq_true hc.1
          have hc2:=Nat.eq_of_beq_eq_true hc.2
          simp only [Option.some.injEq] at h
          subst h
          obtain ⟨xs,m,rfl,rfl,hl,hxl,hall⟩:=DataW.trod_array hk hx
          have:=arr_ok (m:=P.cellsOf e) hc1 q (by rw [hl,← hc2,hc1]) (fun i hi=>ih e ks' hks _ ⟨m,xs[i]'(by omega),by rw [hall i hi,List.getElem?_eq_getElem (by omega)]⟩) 0 (Nat.zero_le _)
          simpa using this
        · cases h
      · cases h
    · cases h
theorem okWide_array {n:Nat} {e:TypeId} {t:TypeId} {v:Value} {r:Reach} {b0:Nat} (ht:P.underlying t=some (.array n e)) (h:Value.okWide P w r b0 t v):∃ cs,v=.agg cs:=by
  simp only [Value.okWide,ht] at h
  obtain ⟨cs,h1,_⟩:=h
  exact ⟨cs,h1⟩
theorem openAgg {d:Nat} {t:TypeId} {ks:List LK} {v:Value} {dd:DataW H} {ps:List MemPlace} {r:Reach} {b0:Nat} (hk:leafK P d t=some ks) (ha:tAgg P t=some true) (hval:Value.okWide P w r b0 t v) (h:DataW.Trod enc P w base spare held t v dd ps) :
    ∃ cs,v=.agg cs.toArray∧AllK ks cs:=by
  have hv:∃ cs,v=.agg cs:=by
    unfold tAgg at ha
    cases hu:P.underlying t with
    | none=>rw [hu] at ha; cases ha
    | some dsc =>
      rw [hu] at ha
      cases dsc <;> simp [descAgg] at ha
      · exact okWide_array hu hval
      · obtain ⟨cs,h1,_⟩:=okWide_struct hu hval
        exact ⟨cs,h1⟩
  obtain ⟨cs,rfl⟩:=hv
  obtain ⟨fuel,hf⟩:=h
  exact ⟨cs.toList,rfl,leafK_ok d t ks hk cs.toList ⟨fuel,_,hf⟩⟩
end
theorem Below.trodAll {H:Type} {enc:TypeId × Value→H} {P:Program} (hl:laidOutB P=true) {W W':World} (hb:RowKit.Below W.heap.size W W'):∀ (ts:List TypeId) (vs:List Value) (ds:List (DataW H)) (p:List MemPlace),
    (ts.all fun t=>P.readableRec t&&Nat.blt t P.types.size)=true→DataW.TrodAll enc P W 0 (fun _=>true) true ts vs ds p→(∀ x ∈ p,x.block<W.heap.size)→DataW.TrodAll enc P W' 0 (fun b=>decide (b<W.heap.size)) true ts vs ds p
  | [],[],[],p,_,h,_=>h
  | [],[],_::_,p,_,h,_=>by simp [DataW.TrodAll] at h
  | [],_::_,_,p,_,h,_=>by simp [DataW.TrodAll] at h
  | _::_,[],_,p,_,h,_=>by simp [DataW.TrodAll] at h
  | _::_,_::_,[],p,_,h,_=>by simp [DataW.TrodAll] at h
  | t::ts,v::vs,d::ds,p,ha,h,hlt=>by
    simp only [List.all_cons,Bool.and_eq_true] at ha
    obtain ⟨p1,p2,h1,h2,rfl⟩:=h
    exact ⟨p1,p2,RowKit.Below.trod hl ha.1.1 (by simpa using ha.1.2) h1 hb (fun x hx=>hlt x (List.mem_append_left _ hx)),Below.trodAll hl hb ts vs ds p2 ha.2 h2 (fun x hx=>hlt x (List.mem_append_right _ hx)),rfl⟩
theorem trodAll_uncons {H:Type} {enc:TypeId × Value→H} {P:Program} {w:World} {base:Nat} {spare:Nat→Bool} {held:Bool} {t:TypeId} {ts:List TypeId} {args:List Value} {ds:List (DataW H)} {p:List MemPlace}
    (h:DataW.TrodAll enc P w base spare held (t::ts) args ds p):∃ v vs d ds' p1 p2,args=v::vs∧ds=d::ds'∧DataW.Trod enc P w base spare held t v d p1∧DataW.TrodAll enc P w base spare held ts vs ds' p2∧p=p1++p2:=by
  cases args with
  | nil=>simp [DataW.TrodAll] at h
  | cons v vs =>
    cases ds with
    | nil=>simp [DataW.TrodAll] at h
    | cons d ds' =>
      obtain ⟨p1,p2,h1,h2,rfl⟩:=h
      exact ⟨v,vs,d,ds',p1,p2,rfl,rfl,h1,h2,rfl⟩
theorem trodAll_unnil {H:Type} {enc:TypeId × Value→H} {P:Program} {w:World} {base:Nat} {spare:Nat→Bool} {held:Bool} {args:List Value} {ds:List (DataW H)} {p:List MemPlace}
    (h:DataW.TrodAll enc P w base spare held [] args ds p):args=[]∧ds=[]:=by
  cases args with
  | nil =>
    cases ds with
    | nil=>exact ⟨rfl,rfl⟩
    | cons=>simp [DataW.TrodAll] at h
  | cons=>simp [DataW.TrodAll] at h
end Go.SL

namespace Go.SL
open Go Go.Lib
theorem LaidVars_places {P:Program} {w:World}:∀ {l:List (String × DataW Unit)} {ps:List MemPlace},DataW.LaidVars P w l ps→∀ n d,(n,d) ∈ l →
    ∃ g t cs fuel p,P.globalNamed n=some g∧(P.globals[g]?).map (·.type)=some t∧w.var? P n=some cs∧DataW.trod (fun _=>()) P w 0 (fun _=>true) false fuel t cs.toList=some (d,p)∧∀ x ∈ MemPlace.row ⟨g,0,none⟩ cs.size,x ∈ ps
  | [],_,_,_,_,hm=>by cases hm
  | (n',d')::r,ps,h,n,d,hm=>by
    obtain ⟨g,t,cs,fuel,p,q,h1,h2,h3,h4,h5,h6⟩:=h
    rcases List.mem_cons.1 hm with e | e
    · cases e
      exact ⟨g,t,cs,fuel,p,h1,h2,h3,h4,fun x hx=>by rw [h6]; simp [hx]⟩
    · obtain ⟨g',t',cs',fuel',p',k1,k2,k3,k4,k5⟩:=LaidVars_places h5 n d e
      exact ⟨g',t',cs',fuel',p',k1,k2,k3,k4,fun x hx=>by rw [h6]; simp [k5 x hx]⟩
theorem laid_tab1 {P:Program} {W:World} {laid:List (String × DataW Unit)} {name:String} {g n:Nat} {t e:TypeId} {k:IntKind} {zs:List Int} (h:laidMet P laid W) (hm:(name,tabData k zs) ∈ laid)
    (hg:P.globalNamed name=some g) (hty:(P.globals[g]?).map (·.type)=some t) (ht:P.underlying t=some (.array n e)) (he:P.underlying e=some (.int k)) (hce:P.cellsOf e=1) (hct:P.cellsOf t=n)
    (h0:0<zs.length):∃ ty,W.heap[g]? = some (.cells (zs.map fun z=>Value.int k z).toArray ty (0,0)):=by
  obtain ⟨ps,hv,_,hcell⟩:=h
  obtain ⟨g',t',cs,fuel,p,h1,h2,h3,h4,h5⟩:=LaidVars_places hv _ _ hm
  obtain rfl:=Option.some.inj (hg.symm.trans h1)
  obtain rfl:=Option.some.inj (hty.symm.trans h2)
  have hcs:=cells_of_tab ht he hce hct h4
  have hsz:0<cs.size:=by
    have:=congrArg List.length hcs
    simp only [Array.length_toList,List.length_map] at this
    omega
  obtain ⟨⟨c,ty,hc⟩,_⟩:=hcell g 0 (h5 _ (by
    unfold MemPlace.row
    exact List.mem_map.2 ⟨0,List.mem_range.2 hsz,by simp⟩))
  refine ⟨ty,?_⟩
  unfold World.var? at h3
  rw [hg] at h3
  simp only [Option.bind_some,hc,Option.some.injEq] at h3
  rw [hc,h3,← hcs]
theorem ord_lent {w:World} (h:∃ ty,w.heap[0]? = some (.cells (ordsL.map fun z=>Value.int .i32 z).toArray ty (0,0))):Lent w ordA:=by
  obtain ⟨ty,h⟩:=h
  refine ⟨⟨ty,h⟩,fun k hk=>?_⟩
  have hk:k=0:=hk
  subst hk
  exact (Array.getElem?_eq_some_iff.1 h).1
end Go.SL

namespace Go.SL
open Go Go.ChangeShapes Go.WideShapes Go.ChangeAt Go.RowKit
theorem list_choose {α β:Type} {p:α→β→Prop}:∀ (l:List α),(∀ x ∈ l,∃ y,p x y)→∃ m:List β,m.length=l.length∧∀ (i:Nat) (x:α),l[i]? = some x→∃ y,m[i]? = some y∧p x y
  | [],_=>⟨[],rfl,fun i x h=>by simp at h⟩
  | a::t,h=>by
    obtain ⟨y,hy⟩:=h a (by simp)
    obtain ⟨m,h1,h2⟩:=list_choose t (fun x hx=>h x (by simp [hx]))
    refine ⟨y::m,by simp [h1],fun i x hx=>?_⟩
    cases i with
    | zero=>simp only [List.getElem?_cons_zero,Option.some.injEq] at hx; subst hx; exact ⟨y,rfl,hy⟩
    | succ i=>simpa using h2 i x (by simpa using hx)
section
variable {H:Type} {henc:TypeId × Value→H} {P:Program} {w:World} {spare:Nat→Bool} {held:Bool} {T:Type} {E:T→List Value} {ok:T→Prop} {sz:Nat}
theorem openSlE {t e:TypeId} {d:Nat} {ks:List LK} {v:Value} {dd:DataW H} {ps:List MemPlace} {r:Reach} {b0:Nat} (ht:P.underlying t=some (.slice e)) (hk:leafK P d e=some ks) (hc:P.cellsOf e=sz) (h0:0<sz) (hE:∀ cs,AllK ks cs→∃ x,cs=E x∧ok x) (hlen:∀ x,(E x).length=sz)
    (hval:Value.okWide P w r b0 t v) (h:DataW.Trod henc P w 0 spare held t v dd ps):∃ l:List T,rdEOK (hp w) sz E v l∧∀ x ∈ l,ok x:=by
  obtain ⟨fuel,hf⟩:=h
  obtain ⟨a0,len0,cap0,rfl⟩:=okWide_slice ht hval
  have hcs:(Value.slice a0 len0 cap0).cells.toList=[.slice a0 len0 cap0]:=rfl
  rw [hcs] at hf
  rcases DataW.trod_slice ht hf with ⟨h1,_⟩ | ⟨a,len,cap,elems,rest,n,rfl,h1,_,_,hl,hm,hel,hx,_⟩
  · have h1:(Value.slice a0 len0 cap0)=.slice none 0 0:=by simpa using h1
    rw [h1]
    exact ⟨[],rdEOK_nil,by simp⟩
  · have h1:(Value.slice a0 len0 cap0)=.slice (some a) len cap:=by simpa using h1
    rw [h1]
    rw [hc] at hx
    obtain ⟨l,hl1,hl2⟩:=list_choose (p:=fun i (x:T)=>ok x∧w.cells? 0 (a.add (i*sz)) sz=some (E x)) (List.range len) (fun i hi=>by
      have hi:=List.mem_range.1 hi
      have h2:=hx i hi
      obtain ⟨x,hx'⟩:∃ x,elems[i]? = some x:=⟨_,List.getElem?_eq_getElem (by omega)⟩
      rw [hx'] at h2
      obtain ⟨cs,h3,h4⟩:=Option.bind_eq_some_iff.1 h2
      obtain ⟨y,rfl,hy⟩:=hE cs (leafK_ok d e ks hk cs ⟨_,_,h4⟩)
      exact ⟨y,hy,h3⟩)
    rw [List.length_range] at hl1
    have hcell:∀ (i:Nat) (x:T),l[i]? = some x→ok x∧∀ (k:Nat) (u:Value),(E x)[k]? = some u→w.cell? (a.add (i*sz+k))=some u:=fun i x hxi=>by
      have hi:i<len:=by rw [← hl1]; exact (List.getElem?_eq_some_iff.1 hxi).1
      obtain ⟨y,hy,h5,h6⟩:=hl2 i i (by rw [List.getElem?_range hi])
      rw [hxi] at hy
      simp only [Option.some.injEq] at hy
      subst hy
      refine ⟨h5,fun k u hu=>?_⟩
      have h7:=World.cells?_some h6
      have hk':k<sz:=by rw [← hlen x]; exact (List.getElem?_eq_some_iff.1 hu).1
      have h8:=h7.2.2 k hk'
      rw [hu] at h8
      have ea:(a.add (i*sz)).add k=a.add (i*sz+k):=by
        generalize i*sz=q
        by_cases g1:q=0 <;> by_cases g2:k=0 <;> simp [Addr.add,g1,g2,Nat.add_assoc]
      rw [ea] at h8
      exact h8
    refine ⟨l,⟨⟨by rw [encs_len hlen],by omega,some a,cap,by rw [hl1],fun hn=>?_⟩,by show len≤cap; omega⟩,fun x hxm=>?_⟩
    · have hn':0<l.length:=hn
      obtain ⟨x0,hx0⟩:∃ x,l[0]? = some x:=⟨_,List.getElem?_eq_getElem hn'⟩
      obtain ⟨u0,hu0⟩:∃ u,(E x0)[0]? = some u:=⟨_,List.getElem?_eq_getElem (by rw [hlen]; exact h0)⟩
      have hc0:=(hcell 0 x0 hx0).2 0 u0 hu0
      unfold World.cell? at hc0
      cases hb:w.heap[a.block]? with
      | none=>simp [Addr.add,hb] at hc0
      | some o =>
        cases o with
        | cells cur e' z =>
          have hs:a.spot=none:=by
            cases hs:a.spot with
            | none=>rfl
            | some s=>simp [Addr.add,hb,hs] at hc0
          refine ⟨a,cur,e',z,rfl,hs,hb,fun j u hj=>?_⟩
          have hjl:j<l.length*sz:=by rw [← encs_len hlen]; exact (List.getElem?_eq_some_iff.1 hj).1
          have hjd:j=(j/sz)*sz+j % sz:=by rw [Nat.mul_comm]; exact (Nat.div_add_mod j sz).symm
          have hjr:=Nat.mod_lt j h0
          have hjq:j/sz<l.length:=Nat.div_lt_of_lt_mul (by rw [Nat.mul_comm]; exact hjl)
          obtain ⟨x,hxj⟩:∃ x,l[j/sz]? = some x:=⟨_,List.getElem?_eq_getElem hjq⟩
          rw [hjd,encs_get hlen hxj hjr] at hj
          have h9:=(hcell _ x hxj).2 _ u hj
          rw [← hjd] at h9
          have ea:a.add j=⟨a.block,a.off+j,none⟩:=by
            obtain ⟨b,o,sp⟩:=a
            simp only at hs
            subst hs
            simp [Addr.add]
          rw [ea] at h9
          unfold World.cell? at h9
          simpa [hb] using h9
        | _=>simp [Addr.add,hb] at hc0
    · obtain ⟨i,hi⟩:=List.getElem?_of_mem hxm
      exact (hcell i x hi).1
end
end Go.SL

namespace Go.Proofs.YtgakdmmmljdpjaaDoor
open Go Go.SL Go.ChangeShapes Go.WideShapes Go.ChangeAt Go.RowKit
theorem Tryd.own:ownKnob Tryd.prog.godebug=none:=by kernel_rfl
theorem Tryd.laidOut:laidOutB Tryd.prog=true:=by kernel_rfl
theorem leaf26:leafK Tryd.prog 6 26=some [.int .u8,.int .i64,.int .i64,.int .u8,.int .u8,.int .i64,.int .i64,.int .i64,.int .u8,.int .u8,.int .i64,.int .i64]:=by kernel_rfl
theorem size26:Tryd.prog.cellsOf 26=12:=by kernel_rfl
theorem slice22:Tryd.prog.underlying 22=some (.slice 26):=by kernel_rfl
theorem change_open (cs:List Value) (h:AllK [.int .u8,.int .i64,.int .i64,.int .u8,.int .u8,.int .i64,.int .i64,.int .i64,.int .u8,.int .u8,.int .i64,.int .i64] cs):∃ x:Ch,cs=eC x∧rC x:=by
  obtain ⟨_,_,rfl,⟨x0,rfl,w0⟩,_,_,rfl,⟨x1,rfl,w1⟩,_,_,rfl,⟨x2,rfl,w2⟩,_,_,rfl,⟨x3,rfl,w3⟩,_,_,rfl,⟨x4,rfl,w4⟩,_,_,rfl,⟨x5,rfl,w5⟩,_,_,rfl,⟨x6,rfl,w6⟩,_,_,rfl,⟨x7,rfl,w7⟩,_,_,rfl,⟨x8,rfl,w8⟩,_,_,rfl,⟨x9,rfl,w9⟩,_,_,rfl,⟨x10,rfl,w10⟩,_,_,rfl,⟨x11,rfl,w11⟩,rfl⟩:=h
  exact ⟨⟨x0,⟨x1,x2,x3,x4,x5⟩,⟨x6,x7,x8,x9,x10⟩,x11⟩,rfl,⟨⟨wfB w3,wfB w4⟩,wfB w8,wfB w9⟩⟩
theorem leaf24:leafK Tryd.prog 4 24=some [.int .i64,.int .i64,.int .u8,.int .u8,.int .i64]:=by kernel_rfl
theorem agg24:tAgg Tryd.prog 24=some true:=by kernel_rfl
theorem door_met (os:Os) (args:Array Value):laidMetH Tryd.prog Rows.mergeRunsRow.laid ((World.laidAll Tryd.prog os Rows.mergeRunsRow.laid).forCall (fun _ _=>0) ⟨#[],args,[]⟩).memory:=by
  rw [MakeChecks.laidMetH_plain _ _ _ (by kernel_rfl)]
  exact laidMet_laidAll _ (by kernel_rfl) (by kernel_rfl)
set_option maxRecDepth 100000 in
theorem mergeRuns_lifted (os:Os) (started:os.Started) (H:Type) (enc:TypeId × Value→H) :
    ReturnsInHanded {} Tryd.checked os 7 .any (fun w args=>(Rows.mergeRunsSpec.pre enc Tryd.prog Tryd.f7 [] false w args∧laidMetH Tryd.prog Rows.mergeRunsRow.laid w)∧sizedMet enc Tryd.prog Tryd.f7 (OpenSpec.ofChange Rows.mergeRunsSpec) false w args) (Rows.mergeRunsSpec.post enc Tryd.prog Tryd.f7 false true false false):=by
  refine returnsInHanded_of_change_and (C:=Tryd.checked) (X:=fun w _=>laidMetH Tryd.prog Rows.mergeRunsRow.laid w) (fun _ _ _ hh h=>h.of_heap hh) Tryd.own started (by kernel_rfl) Tryd.func7
    (ChangeSpec.witness_shaped (enc:=enc) (C:=Tryd.checked) (os:=os) (X:=fun w _=>laidMetH Tryd.prog Rows.mergeRunsRow.laid w) false (World.laidAll Tryd.prog os Rows.mergeRunsRow.laid) #[.slice none 0 0,.agg #[Iv 0,Iv 0,.int .u8 0,.int .u8 0,Iv 0]] 8 rfl (World.shaped_of_ZipB (by kernel_rfl) (by kernel_rfl)) (by kernel_rfl) (by kernel_rfl) (by kernel_rfl) (door_met os _)) ?_
  intro W base args ds gs before hval0 hW _ _ hL _
  have hval:∀ (j:Nat) t v,Tryd.f7.params[j]? = some t→args[j]? = some v→Value.okWide Tryd.prog W .any base t v:=hval0
  have hW':=hW
  obtain ⟨p,q,hA0,hV,rfl,hfz,hnd⟩:=hW
  have hA:DataW.TrodAll enc Tryd.prog W 0 (fun _=>true) true [22,24] args.toList ds p:=hA0
  obtain ⟨rfl,rfl⟩:=trodVars_none hV
  have hA':=hA
  obtain ⟨v1,a1_,d1,ds1,p1,q1,e1,rfl,t1,hB1,rfl⟩:=trodAll_uncons hA
  obtain ⟨v2,a2_,d2,ds2,p2,q2,rfl,rfl,t2,hB2,rfl⟩:=trodAll_uncons hB1
  obtain ⟨rfl,rfl⟩:=trodAll_unnil hB2
  obtain rfl:args=#[v1,v2]:=by
    apply Array.ext'
    simpa using e1
  obtain ⟨l,hl,hlr⟩:=openSlE (E:=eC) (ok:=rC) slice22 leaf26 size26 (by decide) change_open eC_len (hval 0 22 v1 rfl rfl) t1
  obtain ⟨cs2,rfl,k2⟩:=openAgg leaf24 agg24 (hval 1 24 v2 rfl rfl) t2
  obtain ⟨_,_,rfl,⟨a0,rfl,wa0⟩,_,_,rfl,⟨a1,rfl,wa1⟩,_,_,rfl,⟨a2,rfl,wa2⟩,_,_,rfl,⟨a3,rfl,wa3⟩,_,_,rfl,⟨a4,rfl,wa4⟩,rfl⟩:=k2
  have hlm:laidMet Tryd.prog Rows.mergeRunsRow.laid W:=by
    have h:=hL
    rw [MakeChecks.laidMetH_plain _ _ _ (by kernel_rfl)] at h; exact h
  have hord:=ord_lent (laid_tab1 (k:=.i32) (zs:=ordsL) (name:="planisphere/desig.orders") (g:=0) (n:=25) hlm (by simp [Rows.mergeRunsRow,Rows.laid_planisphere_desig_orders,ordsL,Go.Lib.tabData]) (by kernel_rfl) (t:=123) (by kernel_rfl) (e:=21) (by kernel_rfl) (by kernel_rfl) (by kernel_rfl) (by kernel_rfl) (by decide))
  refine Calls.mono (runs_spec v1 l ⟨a0,a1,a2,a3,a4⟩ W hord hl.1 hl.2 hlr ⟨wfB wa2,wfB wa3⟩) fun e W' ⟨_,he,hS⟩=>?_
  subst he
  have hb:RowKit.Below W.heap.size W W':=⟨hS.os,hS.tape,hS.output,hS.size,fun k hk=>hS.old k hk (fun h=>h)⟩
  refine ⟨_,rfl,_,_,_,[],(p1++(p2++q2)),[],hW',trodAll_mk1 (shut_bool Tryd.underlying4 true),?_,?_,hb.frame _,fun h=>by cases h⟩
  · have hl:=hW'.lt
    simp only [List.append_nil] at hl
    exact Below.trodAll Tryd.laidOut hb _ _ _ _ (by kernel_rfl) hA' (fun x hx=>hl x (by simpa using hx))
  · rfl
theorem mergeRuns_holds:Rows.MergeRunsSaid :=
  OpenClaim.holds_of_wide 7 Tryd.f7 rfl rfl rfl rfl rfl rfl rfl ⟨rfl,rfl,rfl,rfl,rfl⟩ rfl rfl rfl rfl rfl (by kernel_rfl) Tryd.func7 (by kernel_rfl)
    (of_decide_eq_true (by kernel_rfl)) (by unfold Func.isWrapper; first | (rw [if_pos (by decide +kernel)]; kernel_rfl) | (rw [if_neg (by decide +kernel)]; exact ⟨rfl,rfl⟩))
    (fun os started H enc _=>mergeRuns_lifted os started H enc)
end Go.Proofs.YtgakdmmmljdpjaaDoor

namespace Go.Proofs.YtgakdmmmljdpjaaDoor
open Go
theorem mergeRunsCard_holds:Rows.MergeRunsCardSaid :=
  Claim7.holds_tied_plain_at .later [] [.widerDeep] true (true,"b28cc4a234fc7c383bd42b9b5f7d4e425b70887cab9b5ce3da3221e733787fae") true
    mergeRuns_holds (fun _ h=>by cases h) (by kernel_rfl) (fun _ h=>by cases h) mergeRuns_row_tie rfl ⟨rfl,rfl⟩ (by kernel_rfl) rfl
    (fun f fn hf hfn=>by
      obtain rfl:f=7:=Option.some.inj ((show Tryd.prog.funcNamed "planisphere/planispherelaw41.MergeRuns"=some 7 by kernel_rfl).symm.trans hf) |>.symm
      obtain rfl:fn=Tryd.f7:=(Option.some.inj (Tryd.func7.symm.trans hfn)).symm
      exact ⟨by kernel_rfl,fun j t ht=>by
        rw [show Tryd.f7.params=#[22,24] by kernel_rfl] at ht
        rcases j with _ | _ | j
        · simp at ht; subst ht; kernel_rfl
        · simp at ht; subst ht; kernel_rfl
        · simp at ht⟩)
    (by kernel_rfl)
end Go.Proofs.YtgakdmmmljdpjaaDoor
